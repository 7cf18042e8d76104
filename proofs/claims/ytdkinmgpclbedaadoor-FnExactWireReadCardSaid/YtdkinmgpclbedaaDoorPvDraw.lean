/- Pv, twentieth text: regions, in the text's order and in every order that is allowed. -/
import Derived.Test.YtdkinmgpclbedaaDoorPvRegion
set_option linter.unusedVariables false
set_option linter.unusedSimpArgs false
namespace Go.Pv
open Go Go.RowKit

section
variable {P : Program} {F : Fix}

theorem wanted_of {arr : Array Oper} {o : Oper} {ρ ρL : Rd} {rds : List Nat} {b : Bool} (hG : GuardIs arr.toList o ρ rds b) (hρ : ∀ t ∈ rds, ρL t = ρ t) {σ : Sg} {born : Nat → Prop} {a : Act} {w : World} {φ : Nat → Value} {fz : Nat → Prop} (hI : Inv F ρL σ born a w φ fz) :
    Region.wanted o (yielded arr a.tmps) = b := by
  rcases hG with ⟨h1, h2⟩ | ⟨j, want, q, t, h1, h2, h3, h4, h5⟩
  · unfold Region.wanted; rw [h1]; exact h2.symm
  · have hy : (arr[j]?).bind (·.dst) = some t := by rw [Array.getElem?_toList] at h2; rw [h2]; exact h3
    unfold Region.wanted
    rw [h1]
    rcases h5 with ⟨v, h5, h6⟩ | ⟨h5, h6⟩
    · obtain ⟨cv, g1, g2⟩ := hI.tmps t _ ((hρ t h4).trans h5)
      have g2 := rep_bool.1 g2
      subst g2
      have : yielded arr a.tmps j = some v := by
        unfold yielded
        rw [hy]; simp [g1]
      simp only [this]
      rw [h6]; cases v <;> cases want <;> rfl
    · obtain ⟨cv, g1, g2⟩ := hI.tmps t _ ((hρ t h4).trans h5)
      simp only [RepV, RepV0] at g2
      subst g2
      have : yielded arr a.tmps j = none := by
        unfold yielded
        rw [hy]; simp [g1, undef]
      simp only [this]
      rw [h6]; rfl

theorem tmpsOf_mem {t : Nat} : ∀ {l : List Operand}, (.tmp t) ∈ l → t ∈ tmpsOf l
  | [], h => by simp at h
  | x :: r, h => by
    rcases List.mem_cons.1 h with h | h
    · subst h; simp [tmpsOf]
    · have := tmpsOf_mem h
      cases x <;> simp [tmpsOf, this]

theorem does_wp {arr : Array Oper} {draw : Bool} {o : Oper} {ρ ρL : Rd} {σ σL : Sg} {nx : Nat} {l : Log} {d : Dl} (hD : Does P arr.toList draw o ρ σ nx l d) {born : Nat → Prop} {a : Act} {w : World} {φ : Nat → Value} {fz : Nat → Prop} (hI : Inv F ρL σL born a w φ fz)
    (hρ : ∀ t ∈ l.rds, ρL t = ρ t) (hσ : draw = true → ∀ k ∈ l.toks, σL k = σ k) (hσ' : draw = false → σL = σ) (hfresh : ∀ k, nx ≤ k → k < nx + 64 → ¬ born k) (hd : ∀ t, o.dst = some t → t < F.nt) {K : Act → World → Prop} {Q : Exit → Act → World → Prop}
    (hK : ∀ a' w' φ' fz' born', Inv F (upd ρL o.dst d.val) (updS σL d.sets) born' a' w' φ' fz' → (∀ k, born' k → born k ∨ (nx ≤ k ∧ k < nx + 64)) → K a' w') :
    if Region.wanted o (yielded arr a.tmps) = true then o.wp P a w K Q ∨ (o.asks P a w ∧ LetsOut Q) else K (a.put o.dst undef) w := by
  rcases hD with ⟨hG, hsub, hop⟩ | ⟨hG, rfl⟩
  · rw [if_pos (wanted_of hG hρ hI)]
    refine .inl (hop F ρL σL born a w φ fz hI ?_ ?_ hfresh hd K Q fun v w' φ' fz' hI' => hK _ w' φ' fz' _ hI' (fun k hk => hk))
    · intro x v hx hv
      cases x with
      | tmp t => exact (hρ t (hsub t (tmpsOf_mem hx))).trans hv
      | _ => exact hv
    · intro k c hk
      cases draw
      · rw [hσ' rfl]; exact hk
      · simp only [if_true] at hk
        by_cases hm : elemN k l.toks = true
        · rw [hm] at hk; rw [hσ rfl k (mem_of_elemN hm)]; exact hk
        · rw [Bool.eq_false_iff.2 hm] at hk; cases hk
  · rw [if_neg (by rw [wanted_of hG hρ hI]; simp)]
    exact hK _ w φ fz born (hI.put (d := undefPV) hd (by simp [undefPV, RepV, RepV0]) (by simp [undefPV, Ty.toks])) (fun k hk => .inl hk)

/-! ### in the text's order -/
theorem text_ok {arr : Array Oper} {bef : Array Nat} {Q : Exit → Act → World → Prop} : ∀ {ops : List Oper} {i : Nat} {ρ : Rd} {σ : Sg} {nx : Nat} {log : List Log} {ds : List (Log × Dl)}, Facts P arr.toList false bef ops i ρ σ nx log ds → ds.length = ops.length →
    (∀ o ∈ ops, ∀ t, o.dst = some t → t < F.nt) → (∀ a w born φ fz, Inv F (Rn ops ds ρ ops.length) (Sn ds σ ops.length) born a w φ fz → (∀ k, born k → k < nx + 64 * ops.length) → Q .normal a w) →
    ∀ {born : Nat → Prop} {a : Act} {w : World} {φ : Nat → Value} {fz : Nat → Prop}, Inv F ρ σ born a w φ fz → (∀ k, born k → k < nx) → wpList P arr Q ops a w
  | [], i, ρ, σ, nx, log, ds, hf, hl, hd, hQ, born, a, w, φ, fz, hI, hb => hQ a w born φ fz hI (by simpa using hb)
  | o :: ops, i, ρ, σ, nx, log, ds, hf, hl, hd, hQ, born, a, w, φ, fz, hI, hb => by
    cases ds with
    | nil => simp at hl
    | cons x ds =>
      obtain ⟨l, d, h1, h2, h3, h4, h5, _⟩ := hf 0 o rfl
      simp only [List.getElem?_cons_zero, Option.some.injEq] at h1
      subst h1
      simp only [Rn, Sn, Nat.mul_zero, Nat.add_zero] at h5
      have hf' : Facts P arr.toList false bef ops (i + 1) (upd ρ o.dst d.val) (updS σ d.sets) (nx + 64) [] ds := by
        intro j o' hj
        obtain ⟨l', d', g1, g2, g3, g4, g5, _⟩ := hf (j + 1) o' (by simpa using hj)
        rw [Rn_cons, Sn_cons, show nx + 64 * (j + 1) = nx + 64 + 64 * j by omega] at g5
        exact ⟨l', d', by simpa using g1, by omega, g3, g4, g5, fun h => by cases h⟩
      unfold wpList
      refine does_wp h5 hI (fun _ _ => rfl) (fun h => by cases h) (fun _ => rfl) (fun k hk1 hk2 hbk => by have := hb k hbk; omega) (hd o (by simp)) fun a' w' φ' fz' born' hI' hb' => ?_
      refine text_ok hf' (by simpa using hl) (fun o' ho' => hd o' (by simp [ho'])) ?_ hI' (fun k hk => ?_)
      · intro a w born φ fz hI2 hb2
        refine hQ a w born φ fz ?_ (fun k hk => by have := hb2 k hk; rw [List.length_cons]; omega)
        rw [List.length_cons, Rn_cons, Sn_cons]; exact hI2
      · rcases hb' k hk with h | h
        · have := hb k h; omega
        · exact h.2

/-! ### after some of the operations -/
def PRn (L : Nat → Bool) (ops : List Oper) (ds : List (Log × Dl)) (ρ : Rd) : Nat → Rd
  | 0 => ρ
  | i + 1 => if L i = true then upd (PRn L ops ds ρ i) (dstAt ops i) (valAt ds i) else PRn L ops ds ρ i
def PSn (L : Nat → Bool) (ds : List (Log × Dl)) (σ : Sg) : Nat → Sg
  | 0 => σ
  | i + 1 => if L i = true then updS (PSn L ds σ i) (setsAt ds i) else PSn L ds σ i
variable {L : Nat → Bool} {ops : List Oper} {ds : List (Log × Dl)} {ρ : Rd} {σ : Sg}

theorem PRn_all {n : Nat} (h : ∀ i < n, L i = true) : ∀ m ≤ n, PRn L ops ds ρ m = Rn ops ds ρ m
  | 0, _ => rfl
  | m + 1, hm => by rw [PRn, if_pos (h m hm), PRn_all h m (by omega)]; rfl
theorem PSn_all {n : Nat} (h : ∀ i < n, L i = true) : ∀ m ≤ n, PSn L ds σ m = Sn ds σ m
  | 0, _ => rfl
  | m + 1, hm => by rw [PSn, if_pos (h m hm), PSn_all h m (by omega)]; rfl
theorem PRn_read {j t : Nat} (h1 : ∀ i < j, dstAt ops i = some t → L i = true) (h2 : ∀ i, j ≤ i → dstAt ops i = some t → L i = false) : ∀ m, PRn L ops ds ρ m t = if m ≤ j then Rn ops ds ρ m t else Rn ops ds ρ j t
  | 0 => by rw [if_pos (Nat.zero_le _)]; rfl
  | m + 1 => by
    have ih := PRn_read h1 h2 m
    by_cases hL : L m = true
    · rw [PRn, if_pos hL]
      simp only [upd]
      by_cases hd : dstAt ops m = some t
      · rw [if_pos hd]
        have hmj : m < j := by
          rcases Nat.lt_or_ge m j with h | h
          · exact h
          · rw [h2 m h hd] at hL; cases hL
        rw [if_pos (by omega), Rn]
        simp only [upd]; rw [if_pos hd]
      · rw [if_neg hd, ih]
        by_cases hmj : m < j
        · rw [if_pos (by omega), if_pos (by omega), Rn]
          simp only [upd]; rw [if_neg hd]
        · by_cases e : m = j
          · subst e; rw [if_pos (Nat.le_refl _), if_neg (by omega)]
          · rw [if_neg (by omega), if_neg (by omega)]
    · rw [PRn, if_neg hL, ih]
      by_cases hmj : m < j
      · have hd : dstAt ops m ≠ some t := fun hd => hL (h1 m hmj hd)
        rw [if_pos (by omega), if_pos (by omega), Rn]
        simp only [upd]; rw [if_neg hd]
      · by_cases e : m = j
        · subst e; rw [if_pos (Nat.le_refl _), if_neg (by omega)]
        · rw [if_neg (by omega), if_neg (by omega)]
theorem updS_not {σ : Sg} {l : List (Nat × Option Cell)} {k : Nat} (h : lk k l = none) : updS σ l k = σ k := by simp only [updS, h]
theorem updS_yes {σ : Sg} {l : List (Nat × Option Cell)} {k : Nat} {c : Option Cell} (h : lk k l = some c) : updS σ l k = c := by simp only [updS, h]
theorem PSn_read {j k : Nat} (h1 : ∀ i < j, lk k (setsAt ds i) ≠ none → L i = true) (h2 : ∀ i, j ≤ i → lk k (setsAt ds i) ≠ none → L i = false) : ∀ m, PSn L ds σ m k = if m ≤ j then Sn ds σ m k else Sn ds σ j k
  | 0 => by rw [if_pos (Nat.zero_le _)]; rfl
  | m + 1 => by
    have ih := PSn_read h1 h2 m
    cases hl : lk k (setsAt ds m) with
    | some c =>
      by_cases hmj : m < j
      · rw [PSn, if_pos (h1 m hmj (by rw [hl]; simp)), updS_yes hl, if_pos (by omega), Sn, updS_yes hl]
      · have hL := h2 m (by omega) (by rw [hl]; simp)
        rw [PSn, if_neg (by rw [hL]; simp), ih]
        by_cases e : m = j
        · subst e; rw [if_pos (Nat.le_refl _), if_neg (by omega)]
        · rw [if_neg (by omega), if_neg (by omega)]
    | none =>
      have e1 : PSn L ds σ (m + 1) k = PSn L ds σ m k := by
        rw [PSn]
        split
        · rw [updS_not hl]
        · rfl
      rw [e1, ih]
      by_cases hmj : m < j
      · rw [if_pos (by omega), if_pos (by omega), Sn, updS_not hl]
      · by_cases e : m = j
        · subst e; rw [if_pos (Nat.le_refl _), if_neg (by omega)]
        · rw [if_neg (by omega), if_neg (by omega)]
theorem PRn_add {j : Nat} {L' : Nat → Bool} (hL' : ∀ i, i ≠ j → L' i = L i) (hj' : L' j = true) (hj : L j = false) {t : Nat} (h : ∀ i, j < i → dstAt ops i = some t → dstAt ops j = some t → L i = false) :
    ∀ m, PRn L' ops ds ρ m t = if dstAt ops j = some t ∧ j < m then some (valAt ds j) else PRn L ops ds ρ m t
  | 0 => by rw [if_neg (by omega)]; rfl
  | m + 1 => by
    have ih := PRn_add hL' hj' hj h m
    by_cases e : m = j
    · subst e
      have hn : ¬ (dstAt ops m = some t ∧ m < m) := fun h => by omega
      rw [if_neg hn] at ih
      have e2 : PRn L ops ds ρ (m + 1) = PRn L ops ds ρ m := by rw [PRn, if_neg (by rw [hj]; simp)]
      rw [PRn, if_pos hj', e2]
      simp only [upd]
      by_cases hd : dstAt ops m = some t
      · rw [if_pos hd, if_pos ⟨hd, by omega⟩]
      · rw [if_neg hd, if_neg (fun h => hd h.1), ih]
    · rw [PRn, PRn, hL' m e]
      by_cases hL : L m = true
      · rw [if_pos hL, if_pos hL]
        simp only [upd]
        by_cases hd : dstAt ops m = some t
        · rw [if_pos hd, if_pos hd]
          by_cases hc : dstAt ops j = some t ∧ j < m + 1
          · have := h m (by omega) hd hc.1
            rw [this] at hL; cases hL
          · rw [if_neg hc]
        · rw [if_neg hd, if_neg hd, ih]
          by_cases hc : dstAt ops j = some t ∧ j < m
          · rw [if_pos hc, if_pos ⟨hc.1, by omega⟩]
          · rw [if_neg hc, if_neg (fun q => hc ⟨q.1, by omega⟩)]
      · rw [if_neg hL, if_neg hL, ih]
        by_cases hc : dstAt ops j = some t ∧ j < m
        · rw [if_pos hc, if_pos ⟨hc.1, by omega⟩]
        · rw [if_neg hc, if_neg (fun q => hc ⟨q.1, by omega⟩)]
theorem PSn_add {j : Nat} {L' : Nat → Bool} (hL' : ∀ i, i ≠ j → L' i = L i) (hj' : L' j = true) (hj : L j = false) {k : Nat} (h : ∀ i, j < i → lk k (setsAt ds i) ≠ none → lk k (setsAt ds j) ≠ none → L i = false) :
    ∀ m, PSn L' ds σ m k = if j < m then updS (PSn L ds σ m) (setsAt ds j) k else PSn L ds σ m k
  | 0 => by rw [if_neg (by omega)]; rfl
  | m + 1 => by
    have ih := PSn_add hL' hj' hj h m
    by_cases e : m = j
    · subst e
      rw [if_neg (Nat.lt_irrefl _)] at ih
      rw [if_pos (by omega), PSn, if_pos hj', PSn, if_neg (by rw [hj]; simp)]
      cases hl : lk k (setsAt ds m) with
      | none => rw [updS_not hl, updS_not hl, ih]
      | some c => rw [updS_yes hl, updS_yes hl]
    · rw [PSn, PSn, hL' m e]
      by_cases hL : L m = true
      · rw [if_pos hL, if_pos hL]
        cases hl : lk k (setsAt ds m) with
        | none =>
          rw [updS_not hl, ih]
          cases hj2 : lk k (setsAt ds j) with
          | none => rw [updS_not hj2, updS_not hj2, updS_not hl]; simp
          | some c => rw [updS_yes hj2, updS_yes hj2, updS_not hl]; by_cases hc : j < m
                      · rw [if_pos hc, if_pos (by omega)]
                      · rw [if_neg hc, if_neg (by omega)]
        | some c =>
          rw [updS_yes hl]
          by_cases hc : j < m + 1
          · rw [if_pos hc]
            cases hj2 : lk k (setsAt ds j) with
            | none => rw [updS_not hj2, updS_yes hl]
            | some c' =>
              have := h m (by omega) (by rw [hl]; simp) (by rw [hj2]; simp)
              rw [this] at hL; cases hL
          · rw [if_neg hc, updS_yes hl]
      · rw [if_neg hL, if_neg hL, ih]
        by_cases hc : j < m
        · rw [if_pos hc, if_pos (by omega)]
        · rw [if_neg hc, if_neg (by omega)]

/-! ### what comes before -/
def befOne (acc : Array Nat) (o : Oper) : Nat := o.after.foldl (fun s e => if Region.binds .any e then s ||| 2 ^ e.on ||| acc.getD e.on 0 else s) 0
def befAll (acc : Array Nat) (l : List Oper) : Array Nat := l.foldl (fun acc o => acc.push (befOne acc o)) acc
theorem before_eq (arr : Array Oper) : Region.before arr = befAll #[] arr.toList := by
  unfold Region.before befAll
  rw [← Array.foldl_toList]; rfl
theorem befAll_size : ∀ {l : List Oper} {acc : Array Nat}, (befAll acc l).size = acc.size + l.length
  | [], acc => rfl
  | o :: l, acc => by
    show (befAll (acc.push (befOne acc o)) l).size = _
    rw [befAll_size]; simp; omega
theorem befAll_old : ∀ {l : List Oper} {acc : Array Nat} {i : Nat}, i < acc.size → (befAll acc l).getD i 0 = acc.getD i 0
  | [], acc, i, h => rfl
  | o :: l, acc, i, h => by
    show (befAll (acc.push (befOne acc o)) l).getD i 0 = _
    rw [befAll_old (by simp; omega)]
    simp [Array.getElem?_push, Nat.ne_of_lt h]
theorem befAll_at : ∀ {l : List Oper} {acc : Array Nat} {j : Nat} {o : Oper}, l[j]? = some o → ∃ acc', (befAll acc l).getD (acc.size + j) 0 = befOne acc' o ∧ ∀ i < acc.size + j, acc'.getD i 0 = (befAll acc l).getD i 0
  | [], acc, j, o, h => by simp at h
  | p :: l, acc, j, o, h => by
    show ∃ acc', (befAll (acc.push (befOne acc p)) l).getD (acc.size + j) 0 = befOne acc' o ∧ ∀ i < acc.size + j, acc'.getD i 0 = (befAll (acc.push (befOne acc p)) l).getD i 0
    cases j with
    | zero =>
      simp only [List.getElem?_cons_zero, Option.some.injEq] at h; subst h
      refine ⟨acc, ?_, fun i hi => ?_⟩
      · rw [befAll_old (by simp)]; simp
      · rw [befAll_old (by simp; omega)]
        simp [Array.getElem?_push, Nat.ne_of_lt (show i < acc.size by omega)]
    | succ j =>
      obtain ⟨acc', h1, h2⟩ := befAll_at (l := l) (acc := acc.push (befOne acc p)) (j := j) (o := o) (by simpa using h)
      rw [Array.size_push] at h1 h2
      exact ⟨acc', by rw [show acc.size + (j + 1) = acc.size + 1 + j by omega]; exact h1, fun i hi => h2 i (by omega)⟩
theorem befOne_bit {acc : Array Nat} {i : Nat} : ∀ {l : List Edge} {s : Nat}, (l.foldl (fun s e => if Region.binds .any e then s ||| 2 ^ e.on ||| acc.getD e.on 0 else s) s).testBit i = true →
    s.testBit i = true ∨ ∃ e ∈ l, Region.binds .any e = true ∧ (e.on = i ∨ (acc.getD e.on 0).testBit i = true)
  | [], s, h => .inl h
  | e :: l, s, h => by
    rw [List.foldl_cons] at h
    rcases befOne_bit h with h | ⟨e', h1, h2⟩
    · split at h
      · rename_i hb
        rw [Nat.testBit_or, Nat.testBit_or, Bool.or_eq_true, Bool.or_eq_true] at h
        rcases h with (h | h) | h
        · exact .inl h
        · rw [Nat.testBit_two_pow] at h
          exact .inr ⟨e, by simp, hb, .inl (of_decide_eq_true h)⟩
        · exact .inr ⟨e, by simp, hb, .inr h⟩
      · exact .inl h
    · exact .inr ⟨e', by simp [h1], h2⟩
theorem edgesIn_ok {i : Nat} : ∀ {l : List Edge}, edgesIn i l = true → ∀ e ∈ l, Region.binds .any e = true → e.on < i
  | [], _, e, h, _ => by simp at h
  | d :: r, h, e, he, hb => by
    have h := cond_true_of h
    rcases List.mem_cons.1 he with rfl | he
    · have h1 := h.1; rw [hb] at h1; simpa [Nat.blt_eq] using h1
    · exact edgesIn_ok h.2 e he hb
theorem ordered_ok : ∀ {l : List Oper} {i j : Nat} {o : Oper}, ordered l i = true → l[j]? = some o → ∀ e ∈ o.after.toList, Region.binds .any e = true → e.on < i + j
  | [], i, j, o, _, h => by simp at h
  | p :: l, i, j, o, ho, h => by
    have ho := cond_true_of ho
    cases j with
    | zero =>
      simp only [List.getElem?_cons_zero, Option.some.injEq] at h; subst h
      exact edgesIn_ok ho.1
    | succ j =>
      intro e he hb
      have := ordered_ok ho.2 (by simpa using h) e he hb
      omega
theorem before_spec {arr : Array Oper} (hord : ordered arr.toList 0 = true) {j i : Nat} {o : Oper} (ho : arr[j]? = some o) (h : befAt (Region.before arr) j i) :
    ∃ e ∈ o.after, Region.binds .any e = true ∧ (e.on = i ∨ befAt (Region.before arr) e.on i) := by
  unfold befAt at h ⊢
  rw [before_eq] at h ⊢
  have hl : arr.toList[j]? = some o := by rw [Array.getElem?_toList]; exact ho
  obtain ⟨acc', h1, h2⟩ := befAll_at (acc := #[]) hl
  simp only [List.size_toArray, List.length_nil, Nat.zero_add] at h1 h2
  rw [h1] at h
  unfold befOne at h
  rw [← Array.foldl_toList] at h
  rcases befOne_bit h with h | ⟨e, h3, h4, h5⟩
  · simp at h
  · refine ⟨e, Array.mem_toList_iff.1 h3, h4, h5.imp id fun h5 => ?_⟩
    have hlt := ordered_ok hord hl e h3 h4
    rw [h2 e.on (by omega)] at h5
    exact h5

theorem disjN_no {k : Nat} {l m : List Nat} (h : disjN l m = true) (h1 : k ∈ l) (h2 : k ∈ m) : False := disjN_ok h h1 h2
theorem apart_ok {a b : Log} (h : a.apart b = true) : disjN a.dst b.rds = true ∧ disjN b.dst a.rds = true ∧ disjN a.dst b.dst = true ∧ disjN a.sets b.toks = true ∧ disjN b.sets a.toks = true ∧ disjN a.sets b.sets = true := by
  have h1 := cond_true_of h
  have h2 := cond_true_of h1.2
  have h3 := cond_true_of h2.2
  have h4 := cond_true_of h3.2
  have h5 := cond_true_of h4.2
  exact ⟨h1.1, h2.1, h3.1, h4.1, h5.1, h5.2⟩
theorem lk_mem {α : Type} {k : Nat} : ∀ {l : List (Nat × α)}, lk k l ≠ none → k ∈ l.map (·.1)
  | [], h => absurd rfl h
  | (j, v) :: r, h => by
    rw [lk_cons] at h
    by_cases e : j = k
    · simp [e]
    · rw [if_neg e] at h; simp [lk_mem h]

theorem draw_ok {arr : Array Oper} {ds : List (Log × Dl)} {ρ : Rd} {σ : Sg} {nx : Nat} {Q : Exit → Act → World → Prop} (hord : ordered arr.toList 0 = true) (hF : Facts P arr.toList true (Region.before arr) arr.toList 0 ρ σ nx [] ds) (hlen : ds.length = arr.size)
    (hdst : ∀ o ∈ arr.toList, ∀ t, o.dst = some t → t < F.nt) (hQ : ∀ a w born φ fz, Inv F (Rn arr.toList ds ρ arr.size) (Sn ds σ arr.size) born a w φ fz → (∀ k, born k → k < nx + 64 * arr.size) → Q .normal a w) :
    ∀ (fuel : Nat) (listed : Array Bool) (todo : List Nat), listed.size = arr.size → (∀ j, listed.getD j false = true → ∀ i, befAt (Region.before arr) j i → listed.getD i false = true) → todo.length ≤ fuel → (∀ i < arr.size, listed.getD i false = false → i ∈ todo) →
      ∀ {born : Nat → Prop} {a : Act} {w : World} {φ : Nat → Value} {fz : Nat → Prop}, Inv F (PRn (fun i => listed.getD i false) arr.toList ds ρ arr.size) (PSn (fun i => listed.getD i false) ds σ arr.size) born a w φ fz →
      (∀ k, born k → k < nx ∨ ∃ i, listed.getD i false = true ∧ nx + 64 * i ≤ k ∧ k < nx + 64 * i + 64) → wpAny P .any arr Q fuel listed a w := by
  have fin : ∀ (listed : Array Bool) {born : Nat → Prop} {a : Act} {w : World} {φ : Nat → Value} {fz : Nat → Prop}, listed.size = arr.size → (∀ i < arr.size, listed.getD i false = true) → Inv F (PRn (fun i => listed.getD i false) arr.toList ds ρ arr.size) (PSn (fun i => listed.getD i false) ds σ arr.size) born a w φ fz →
      (∀ k, born k → k < nx ∨ ∃ i, listed.getD i false = true ∧ nx + 64 * i ≤ k ∧ k < nx + 64 * i + 64) → Q .normal a w := by
    intro listed born a w φ fz hsz hall hI hb
    rw [PRn_all hall _ (Nat.le_refl _), PSn_all hall _ (Nat.le_refl _)] at hI
    refine hQ a w born φ fz hI fun k hk => ?_
    rcases hb k hk with h | ⟨i, h1, h2, h3⟩
    · omega
    · have : i < arr.size := by
        rcases Nat.lt_or_ge i arr.size with h | h
        · exact h
        · rw [Array.getD_eq_getD_getElem?, Array.getElem?_eq_none (by omega)] at h1; cases h1
      have : 64 * i + 64 ≤ 64 * arr.size := by omega
      omega
  have hnil : ∀ (listed : Array Bool), listed.size = arr.size → Region.ready .any arr listed = [] → ∀ i < arr.size, listed.getD i false = true := by
    intro listed hsz hr i
    induction i using Nat.strongRecOn with
    | _ i ih =>
      intro hi
      cases hb : listed.getD i false with
      | true => rfl
      | false =>
        exfalso
        have : i ∈ Region.ready .any arr listed := by
          rw [mem_ready]
          refine ⟨?_, arr[i], Array.getElem?_eq_getElem hi, fun e he hbd => ?_⟩
          · rw [Array.getD_eq_getD_getElem?, Array.getElem?_eq_getElem (by omega)] at hb ⊢
            exact hb
          · have hlt := ordered_ok hord (show arr.toList[i]? = some arr[i] by rw [Array.getElem?_toList, Array.getElem?_eq_getElem hi]) e (Array.mem_toList_iff.2 he) hbd
            exact ih e.on (by omega) (by omega)
        rw [hr] at this; cases this
  intro fuel
  induction fuel with
  | zero =>
    intro listed todo hsz hdc hlt htodo born a w φ fz hI hb
    have ht : todo = [] := List.eq_nil_of_length_eq_zero (by omega)
    subst ht
    have hall : ∀ i < arr.size, listed.getD i false = true := by
      intro i hi
      cases hh : listed.getD i false with
      | true => rfl
      | false => have := htodo i hi hh; cases this
    refine ⟨?_, fin listed hsz hall hI hb⟩
    apply List.eq_nil_iff_forall_not_mem.2
    intro j hj
    obtain ⟨h1, o, h2, _⟩ := mem_ready.1 hj
    have hjlt := (Array.getElem?_eq_some_iff.1 h2).1
    have := hall j hjlt
    rw [Array.getD_eq_getD_getElem?, Array.getElem?_eq_getElem (by omega)] at h1 this
    rw [Option.getD_some] at h1 this
    rw [h1] at this; cases this
  | succ fuel ih =>
    intro listed todo hsz hdc hlt htodo born a w φ fz hI hb
    refine ⟨fun hr => fin listed hsz (hnil listed hsz hr) hI hb, fun j hj => ?_⟩
    obtain ⟨h1, o, h2, h3⟩ := mem_ready.1 hj
    have hjlt := (Array.getElem?_eq_some_iff.1 h2).1
    have hjf : listed.getD j false = false := by
      rw [Array.getD_eq_getD_getElem?, Array.getElem?_eq_getElem (by omega)] at h1 ⊢
      exact h1
    have hol : arr.toList[j]? = some o := by rw [Array.getElem?_toList]; exact h2
    obtain ⟨l, d, f1, f2, f3, f4, f5, f6⟩ := hF j o hol
    obtain ⟨_, f6⟩ := f6 rfl
    simp only [Nat.zero_add] at f2 f6
    have hbef : ∀ i, befAt (Region.before arr) j i → listed.getD i false = true := by
      intro i hi
      obtain ⟨e, he, hbd, hh⟩ := before_spec hord h2 hi
      have hle := h3 e he hbd
      rcases hh with rfl | hh
      · exact hle
      · exact hdc _ hle i hh
    have hnot : ∀ i, listed.getD i false = true → ¬ befAt (Region.before arr) i j := by
      intro i hi hh
      have := hdc i hi j hh
      rw [hjf] at this; cases this
    have hlog : ∀ i, ∀ l' d', ds[i]? = some (l', d') → ∀ oi, arr.toList[i]? = some oi → i ≠ j → (i < j → listed.getD i false = false → l'.apart l = true) ∧ (j < i → listed.getD i false = true → l.apart l' = true) := by
      intro i l' d' hi oi hoi hne
      refine ⟨fun hlt2 hL => ?_, fun hlt2 hL => ?_⟩
      · rcases f6 i hlt2 l' d' hi with h | h
        · have := hbef i h; rw [hL] at this; cases this
        · exact h
      · obtain ⟨l2, d2, g1, g2, g3, g4, g5, g6⟩ := hF i oi hoi
        rw [hi] at g1
        simp only [Option.some.injEq, Prod.mk.injEq] at g1
        obtain ⟨rfl, rfl⟩ := g1
        obtain ⟨_, g6⟩ := g6 rfl
        simp only [Nat.zero_add] at g6
        rcases g6 j hlt2 l d f1 with h | h
        · exact absurd h (hnot i hL)
        · exact h
    have hat : ∀ i t, dstAt arr.toList i = some t → ∃ oi l' d', arr.toList[i]? = some oi ∧ ds[i]? = some (l', d') ∧ t ∈ l'.dst := by
      intro i t ht
      unfold dstAt at ht
      cases hoi : arr.toList[i]? with
      | none => rw [hoi] at ht; cases ht
      | some oi =>
        rw [hoi] at ht
        obtain ⟨l2, d2, g1, g2, g3, _⟩ := hF i oi hoi
        exact ⟨oi, l2, d2, rfl, g1, by rw [g3, show oi.dst = some t from ht]; simp⟩
    have hats : ∀ i k, lk k (setsAt ds i) ≠ none → ∃ oi l' d', arr.toList[i]? = some oi ∧ ds[i]? = some (l', d') ∧ k ∈ l'.sets := by
      intro i k hk
      unfold setsAt at hk
      cases hdi : ds[i]? with
      | none => rw [hdi] at hk; exact absurd rfl hk
      | some x =>
        have hil : i < arr.size := by rw [← hlen]; exact (List.getElem?_eq_some_iff.1 hdi).1
        obtain ⟨l2, d2, g1, g2, g3, g4, _⟩ := hF i arr[i] (by rw [Array.getElem?_toList, Array.getElem?_eq_getElem hil])
        rw [hdi] at g1 hk
        simp only [Option.some.injEq] at g1
        subst g1
        exact ⟨arr[i], l2, d2, by rw [Array.getElem?_toList, Array.getElem?_eq_getElem hil], rfl, by rw [g4]; exact lk_mem hk⟩
    have hdj : dstAt arr.toList j = o.dst := by unfold dstAt; rw [hol]; rfl
    have hvj : valAt ds j = d.val := by unfold valAt; rw [f1]
    have hsj : setsAt ds j = d.sets := by unfold setsAt; rw [f1]
    unfold wpOp
    simp only [h2]
    have hreadρ : ∀ t ∈ l.rds, PRn (fun i => listed.getD i false) arr.toList ds ρ arr.size t = Rn arr.toList ds ρ j t := by
      intro t ht
      have hp := PRn_read (L := fun i => listed.getD i false) (ops := arr.toList) (ds := ds) (ρ := ρ) (j := j) (t := t) ?_ ?_ arr.size
      · rw [hp]
        by_cases hc : arr.size ≤ j
        · omega
        · rw [if_neg hc]
      · intro i hi hd
        obtain ⟨oi, l', d', g1, g2, g3⟩ := hat i t hd
        cases hL : listed.getD i false with
        | true => rfl
        | false => exact (disjN_no (apart_ok ((hlog i l' d' g2 oi g1 (by omega)).1 hi hL)).1 g3 ht).elim
      · intro i hi hd
        cases hL : listed.getD i false with
        | false => rfl
        | true =>
          have hne : i ≠ j := fun e => by subst e; rw [hjf] at hL; cases hL
          obtain ⟨oi, l', d', g1, g2, g3⟩ := hat i t hd
          exact (disjN_no (apart_ok ((hlog i l' d' g2 oi g1 hne).2 (by omega) hL)).2.1 g3 ht).elim
    have hreadσ : ∀ k ∈ l.toks, PSn (fun i => listed.getD i false) ds σ arr.size k = Sn ds σ j k := by
      intro k hk
      have hp := PSn_read (L := fun i => listed.getD i false) (ds := ds) (σ := σ) (j := j) (k := k) ?_ ?_ arr.size
      · rw [hp]
        by_cases hc : arr.size ≤ j
        · omega
        · rw [if_neg hc]
      · intro i hi hd
        obtain ⟨oi, l', d', g1, g2, g3⟩ := hats i k hd
        cases hL : listed.getD i false with
        | true => rfl
        | false => exact (disjN_no (apart_ok ((hlog i l' d' g2 oi g1 (by omega)).1 hi hL)).2.2.2.1 g3 hk).elim
      · intro i hi hd
        cases hL : listed.getD i false with
        | false => rfl
        | true =>
          have hne : i ≠ j := fun e => by subst e; rw [hjf] at hL; cases hL
          obtain ⟨oi, l', d', g1, g2, g3⟩ := hats i k hd
          exact (disjN_no (apart_ok ((hlog i l' d' g2 oi g1 hne).2 (by omega) hL)).2.2.2.2.1 g3 hk).elim
    have hL' : ∀ i, i ≠ j → (listed.setIfInBounds j true).getD i false = listed.getD i false := fun i hi => getD_set_ne false (Ne.symm hi)
    have hLj : (listed.setIfInBounds j true).getD j false = true := by
      rw [Array.getD_eq_getD_getElem?, Array.getElem?_setIfInBounds]
      simp [show j < listed.size by omega]
    refine does_wp f5 hI hreadρ (fun _ => hreadσ) (fun h => by cases h) ?_ (hdst o (by rw [← Array.getElem?_toList] at h2; exact List.mem_of_getElem? h2)) fun a' w' φ' fz' born' hI' hb' => ?_
    · intro k hk1 hk2 hbk
      rcases hb k hbk with h | ⟨i, h4, h5, h6⟩
      · omega
      · by_cases e : i = j
        · subst e; rw [hjf] at h4; cases h4
        · rcases Nat.lt_or_gt_of_ne e with h | h <;> omega
    · have eR : PRn (fun i => (listed.setIfInBounds j true).getD i false) arr.toList ds ρ arr.size = upd (PRn (fun i => listed.getD i false) arr.toList ds ρ arr.size) o.dst d.val := by
        funext t
        rw [PRn_add (L := fun i => listed.getD i false) (j := j) hL' hLj hjf ?_ arr.size]
        · simp only [upd, hdj, hvj]
          by_cases hd : o.dst = some t
          · rw [if_pos ⟨hd, hjlt⟩, if_pos hd]
          · rw [if_neg (fun h => hd h.1), if_neg hd]
        · intro i hi hd1 hd2
          cases hL : listed.getD i false with
          | false => rfl
          | true =>
            obtain ⟨oi, l', d', g1, g2, g3⟩ := hat i t hd1
            have hap := (hlog i l' d' g2 oi g1 (by omega)).2 hi hL
            rw [hdj] at hd2
            exact (disjN_no (apart_ok hap).2.2.1 (by rw [f3, hd2]; simp) g3).elim
      have eS : PSn (fun i => (listed.setIfInBounds j true).getD i false) ds σ arr.size = updS (PSn (fun i => listed.getD i false) ds σ arr.size) d.sets := by
        funext k
        rw [PSn_add (L := fun i => listed.getD i false) (j := j) hL' hLj hjf ?_ arr.size, if_pos hjlt, hsj]
        intro i hi hd1 hd2
        cases hL : listed.getD i false with
        | false => rfl
        | true =>
          obtain ⟨oi, l', d', g1, g2, g3⟩ := hats i k hd1
          have hap := (hlog i l' d' g2 oi g1 (by omega)).2 hi hL
          rw [hsj] at hd2
          exact (disjN_no (apart_ok hap).2.2.2.2.2 (by rw [f4]; exact lk_mem hd2) g3).elim
      refine ih (listed.setIfInBounds j true) (todo.erase j) (by simp [hsz]) ?_ ?_ ?_ (by rw [eR, eS]; exact hI') ?_
      · intro q hq i hi
        by_cases e : q = j
        · subst e; exact getD_set_true (hbef i hi)
        · rw [hL' q e] at hq; exact getD_set_true (hdc q hq i hi)
      · have hm := htodo j hjlt hjf
        rw [List.length_erase_of_mem hm]
        have : 0 < todo.length := List.length_pos_of_mem hm
        omega
      · intro i hi hq
        by_cases e : i = j
        · subst e; rw [hLj] at hq; cases hq
        · rw [hL' i e] at hq
          exact (List.mem_erase_of_ne e).2 (htodo i hi hq)
      · intro k hk
        rcases hb' k hk with h | h
        · rcases hb k h with h | ⟨i, h4, h5⟩
          · exact .inl h
          · exact .inr ⟨i, getD_set_true h4, h5⟩
        · exact .inr ⟨j, hLj, h⟩
end
end Go.Pv
