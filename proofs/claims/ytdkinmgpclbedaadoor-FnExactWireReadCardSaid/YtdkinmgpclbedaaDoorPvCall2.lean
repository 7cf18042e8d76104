/- Pv, seventeenth text: a call does what its entry says. -/
import Derived.Test.YtdkinmgpclbedaaDoorPvCall
set_option linter.unusedVariables false
set_option linter.unusedSimpArgs false
namespace Go.Pv
open Go Go.RowKit

theorem lk_append {α : Type} {k : Nat} : ∀ {l m : List (Nat × α)}, lk k (l ++ m) = match lk k l with | some v => some v | none => lk k m
  | [], m => rfl
  | (j, v) :: l, m => by
    rw [List.cons_append, lk_cons, lk_cons]
    by_cases h : j = k
    · rw [if_pos h, if_pos h]
    · rw [if_neg h, if_neg h]; exact lk_append
theorem Acc.ok_of {a : Acc} (h : a.ok = true) : nodupN (Acc.toks a.m) = true ∧ disjN a.f (Acc.toks a.m) = true ∧ disjN a.b (Acc.toks a.m) = true := by
  have h1 := cond_true_of h
  have h2 := cond_true_of h1.2
  exact ⟨h1.1, h2⟩

section
variable {P : Program} {R : Type} {r : R} {o : Oper} {rd : Operand → Option PV} {st : Sg} {nx : Nat} {K : Dl → Option R}

/-- What is handed over, as the callee sees it. -/
theorem start_of {F : Fix} {ρ : Rd} {σ : Sg} {born : Nat → Prop} {act : Act} {w : World} {φ : Nat → Value} {fz : Nat → Prop} (hI : Inv F ρ σ born act w φ fz) (hst : ∀ k c, st k = some c → σ k = some c)
    {e : Ent} (hg : e.good = true) {v : PV} {x : e.par.D} {y : SD e.sto} {a : Acc} (hp : pack st e.par e.sto v Acc.nil = some (x, y, a)) {vals : List Value} (hr : RepL w fz F.bz φ v.t v.x vals) :
    ∃ φC : Nat → Value, Start w (fun b => fz b ∨ ∃ k c, k ∈ a.f ∧ σ k = some c ∧ blkOf (φ k) = some b) (fun b => b < w.heap.size ∧ ¬ ∃ k c, k ∈ Acc.toks a.m ∧ σ k = some c ∧ blkOf (φ k) = some b) (fun b => ∃ k c, k ∈ Acc.toks a.m ∧ σ k = some c ∧ blkOf (φ k) = some b) φC e.par x (cellsOf e.sto y) vals ∧
      (∀ j k, lk j a.m = some (.tok k) → φC j = φ k ∧ ∃ c, σ k = some c) ∧ (∀ j s, lk j a.m = some s → hasKey j e.sto = true) ∧ a.ok = true := by
  have g1 := cond_true_of hg
  have g2 := cond_true_of g1.2
  unfold pack at hp
  split at hp
  · rename_i x1 a1 hconv
    split at hp
    · rename_i y1 a2 hcont
      obtain ⟨hok, hp⟩ := cond_some hp
      obtain ⟨hkeys, hp⟩ := cond_some hp
      injection hp with hp; injection hp with e1 hp; injection hp with e2 e3
      subst e1; subst e2; subst e3
      obtain ⟨hs1, p1, p2, p3, p4⟩ := convL_ok hst hI.sto hconv (hs := []) (show Hdrs φ [] [] from rfl) hr
      obtain ⟨hs2, q1, q2, q3⟩ := contents_ok hst hI.sto (goodAll_fine g2.1) hcont p1
      obtain ⟨k1, k2, k3⟩ := Acc.ok_of hok
      have hsm : ∀ j v, lk j hs2 = some v → ∃ s, lk j a2.m = some s ∧ SrcHdr φ s v := by
        intro j v hj
        have := q1.lk (j := j)
        rw [hj] at this
        cases hm : lk j a2.m with
        | none => rw [hm] at this; exact this.elim
        | some s => rw [hm] at this; exact ⟨s, rfl, this⟩
      have hkey : ∀ j s, lk j a2.m = some s → hasKey j e.sto = true := fun j s h => keysIn_ok hkeys h
      have hsrc : ∀ j s, lk j a2.m = some s → Srcd σ φ a2 hs2 j := by
        intro j s h
        obtain ⟨p, h1, h2⟩ := hasKey_ok (hkey j s h) y1
        have := (q3 p h1).2.2
        rw [h2] at this; exact this
      let φC : Nat → Value := fun j => (lk j hs2).getD (.slice none 0 0)
      have eφ : ∀ j v, lk j hs2 = some v → φC j = v := by intro j v h; simp only [φC, h, Option.getD_some]
      have hlt : ∀ k c b, σ k = some c → blkOf (φ k) = some b → b < w.heap.size := fun k c b h1 h2 => (hI.sto k c h1).lt h2
      have hz : Zone σ φ fz F.bz a2 (fun b => fz b ∨ ∃ k c, k ∈ a2.f ∧ σ k = some c ∧ blkOf (φ k) = some b) (fun b => b < w.heap.size ∧ ¬ ∃ k c, k ∈ Acc.toks a2.m ∧ σ k = some c ∧ blkOf (φ k) = some b) := by
        refine ⟨fun b h => .inl h, fun b h => .inr ⟨hI.bzlt b h, ?_⟩, fun k hk c b h1 h2 => .inr ⟨k, c, hk, h1, h2⟩, fun k hk c b h1 h2 => .inr ⟨hlt k c b h1 h2, ?_⟩⟩
        · rintro ⟨k, c, _, h1, h2⟩
          exact (hI.own k c b h1 h2).2.1 h
        · rintro ⟨k', c', hk', h1', h2'⟩
          have := hI.inj k k' c c' b h1 h1' h2 h2'
          subst this; exact disjN_ok k3 hk hk'
      have blk : ∀ p ∈ cellsOf e.sto y1, ∀ b, blkOf (φC p.1) = some b → ∃ s k c, lk p.1 a2.m = some s ∧ srcTok s = some k ∧ σ k = some c ∧ blkOf (φ k) = some b := by
        intro p hp b hb
        obtain ⟨s, v, h1, h2, h3, h4, h5⟩ := (q3 p hp).2.2
        rw [eφ _ _ h2] at hb
        obtain ⟨k, c, h6, h7, h8⟩ := h5 b hb
        exact ⟨s, k, c, h1, h6, h7, h8⟩
      refine ⟨φC, ⟨p3 _ _ φC (hz.back q2) (fun j v hj => eφ j v (q2.h j v hj)), fun p hp => (q3 p hp).1 _ _ φC hz eφ, ?_, ?_, ?_, fun b hb => hb.1, ?_⟩, ?_, hkey, hok⟩
      · intro p hp q hq b hb hb'
        obtain ⟨s, k, c, h1, h2, h3, h4⟩ := blk p hp b hb
        obtain ⟨s', k', c', h1', h2', h3', h4'⟩ := blk q hq b hb'
        have := hI.inj k k' c c' b h3 h3' h4 h4'
        subst this
        exact toks_inj k1 h1 h1' h2 h2'
      · intro p hp b hb
        obtain ⟨s, k, c, h1, h2, h3, h4⟩ := blk p hp b hb
        have hW : ∃ k c, k ∈ Acc.toks a2.m ∧ σ k = some c ∧ blkOf (φ k) = some b := ⟨k, c, toks_mem h1 h2, h3, h4⟩
        refine ⟨?_, fun h => h.2 hW, hW⟩
        rintro (h | ⟨k', c', hk', h3', h4'⟩)
        · exact (hI.own k c b h3 h4).1 h
        · have := hI.inj k k' c c' b h3 h3' h4 h4'
          subst this; exact disjN_ok k2 hk' (toks_mem h1 h2)
      · rintro b (h | ⟨k, c, _, h1, h2⟩)
        · exact hI.fzlt b h
        · exact hlt k c b h1 h2
      · intro j
        cases hj : lk j hs2 with
        | none => simp only [φC, hj]; rfl
        | some v =>
          obtain ⟨s, h1, _⟩ := hsm j v hj
          obtain ⟨s', v', _, h2, h3, _⟩ := hsrc j s h1
          rw [eφ j _ h2]; exact h3
      · intro j k hj
        obtain ⟨s, v, h1, h2, h3, h4, h5⟩ := hsrc j _ hj
        rw [hj] at h1; injection h1 with h1; subst h1
        obtain ⟨s', g3, g4⟩ := hsm j v h2
        rw [hj] at g3; injection g3 with g3; subst g3
        exact ⟨by rw [eφ j v h2]; exact g4, h4 k rfl⟩
    · cases hp
  · cases hp

theorem newName_tok {m : List (Nat × Src)} {nx j k : Nat} (h : lk j m = some (.tok k)) : newName m nx j = k := by simp only [newName, h]
theorem newName_or (m : List (Nat × Src)) (nx j : Nat) : (∃ k, lk j m = some (.tok k) ∧ newName m nx j = k) ∨ (newName m nx j = nx + j) := by
  unfold newName
  split
  · rename_i k h; exact .inl ⟨k, h, rfl⟩
  · exact .inr rfl

/-- After the call. -/
theorem finish_of {F : Fix} {ρ : Rd} {σ : Sg} {born : Nat → Prop} {act : Act} {w : World} {φ : Nat → Value} {fz : Nat → Prop} (hI : Inv F ρ σ born act w φ fz) {e : Ent} (hg : e.good = true) {a : Acc} {φC : Nat → Value} (hfresh : ∀ k, nx ≤ k → k < nx + 64 → ¬ born k)
    (htok : ∀ j k, lk j a.m = some (.tok k) → φC j = φ k ∧ ∃ c, σ k = some c) (hkey : ∀ j s, lk j a.m = some s → hasKey j e.sto = true) (hok : a.ok = true) {u : e.res.D × SD e.osto} {v : Value} {w' : World} {fz' : Nat → Prop} {φ' : Nat → Value}
    (hF : Finish w (fun b => fz b ∨ ∃ k c, k ∈ a.f ∧ σ k = some c ∧ blkOf (φ k) = some b) (fun b => b < w.heap.size ∧ ¬ ∃ k c, k ∈ Acc.toks a.m ∧ σ k = some c ∧ blkOf (φ k) = some b) (fun b => ∃ k c, k ∈ Acc.toks a.m ∧ σ k = some c ∧ blkOf (φ k) = some b) φC e.sto e.res u.1 (cellsOf e.osto u.2) v w' fz' φ')
    {dst : Option Nat} (hd : ∀ t, dst = some t → t < F.nt) :
    ∃ φN fzN, Inv F (upd ρ dst ⟨e.res.ren (newName a.m nx), e.res.renD (newName a.m nx) u.1⟩) (updS σ (unpack (newName a.m nx) e.osto u.2 ++ killed (Acc.toks a.m ++ e.gone a.f))) (bornTo born nx) (act.put dst v) w' φN fzN := by
  classical
  have g1 := cond_true_of hg
  have g2 := cond_true_of g1.2
  have g3 := cond_true_of g2.2
  have g4 := cond_true_of g3.2
  have g5 := cond_true_of g4.2
  let nn := newName a.m nx
  let φN : Nat → Value := fun k => if born k then φ k else φ' (k - nx)
  have eb : ∀ k, born k → φN k = φ k := fun k hk => if_pos hk
  have hN : ∀ j, j < 64 → φN (nn j) = φ' j := by
    intro j hj
    rcases newName_or a.m nx j with ⟨k, h1, h2⟩ | h2
    · obtain ⟨q1, c, q2⟩ := htok j k h1
      show φN (newName a.m nx j) = φ' j
      rw [h2, eb k (hI.bs k c q2).1, hF.kept j (hkey j _ h1), q1]
    · show φN (newName a.m nx j) = φ' j
      rw [h2]
      simp only [φN]
      rw [if_neg (hfresh _ (by omega) (by omega)), Nat.add_sub_cancel_left]
  have hNb : ∀ j, j < 64 → bornTo born nx (nn j) := by
    intro j hj
    rcases newName_or a.m nx j with ⟨k, h1, h2⟩ | h2
    · obtain ⟨q1, c, q2⟩ := htok j k h1
      show bornTo born nx (newName a.m nx j)
      rw [h2]; exact .inl (hI.bs k c q2).1
    · show bornTo born nx (newName a.m nx j)
      rw [h2]; exact .inr ⟨by omega, by omega⟩
  let L : Nat → Prop := fun b => ∃ k c, k ∈ a.f ∧ k ∉ e.gone a.f ∧ σ k = some c ∧ blkOf (φ k) = some b
  let fzN : Nat → Prop := fun b => fz' b ∧ ¬ L b
  have hlend : (e.res.flat = true ∧ flatAll e.osto = true) ∨ ∀ b, ¬ L b := by
    by_cases hl : e.lends = true
    · exact .inl (cond_true_of hl)
    · refine .inr fun b => ?_
      rintro ⟨k, c, h1, h2, _⟩
      refine h2 ?_
      cases hf : a.f with
      | nil => rw [hf] at h1; cases h1
      | cons i r => rw [hf] at h1; simp only [Ent.gone, Bool.eq_false_iff.2 hl, cond_false]; exact h1
  have hfN : ∀ b, fz b → fzN b := by
    intro b hb
    refine ⟨hF.fz0 b (.inl hb), ?_⟩
    rintro ⟨k, c, _, _, h1, h2⟩
    exact (hI.own k c b h1 h2).1 hb
  have hσ : ∀ k c, updS σ (unpack (newName a.m nx) e.osto u.2 ++ killed (Acc.toks a.m ++ e.gone a.f)) k = some c →
      (∃ p ∈ cellsOf e.osto u.2, k = nn p.1 ∧ c = p.2.ren nn) ∨ (σ k = some c ∧ k ∉ Acc.toks a.m ∧ k ∉ e.gone a.f) := by
    intro k c hk
    simp only [updS, lk_append] at hk
    cases hl : lk k (unpack (newName a.m nx) e.osto u.2) with
    | some c' =>
      rw [hl] at hk
      obtain ⟨p, q1, q2, q3⟩ := unpack_ok hl
      simp only [] at hk; subst hk
      injection q3 with q3
      exact .inl ⟨p, q1, q2, q3⟩
    | none =>
      rw [hl] at hk
      simp only [lk_killed] at hk
      by_cases hm : k ∈ Acc.toks a.m ++ e.gone a.f
      · rw [if_pos hm] at hk; cases hk
      · rw [if_neg hm] at hk
        simp only [List.mem_append, not_or] at hm
        exact .inr ⟨hk, hm.1, hm.2⟩
  have hlt : ∀ k c b, σ k = some c → blkOf (φ k) = some b → b < w.heap.size := fun k c b h1 h2 => (hI.sto k c h1).lt h2
  have notW : ∀ k c b, σ k = some c → k ∉ Acc.toks a.m → blkOf (φ k) = some b → ¬ ∃ k c, k ∈ Acc.toks a.m ∧ σ k = some c ∧ blkOf (φ k) = some b := by
    rintro k c b h1 h2 h3 ⟨k', c', h4, h5, h6⟩
    have := hI.inj k k' c c' b h1 h5 h3 h6
    subst this; exact h2 h4
  have hz : ∀ b, fz b ∨ F.bz b → w'.heap[b]? = w.heap[b]? := by
    intro b hb
    refine hF.frame b (hb.elim (hI.fzlt b) (hI.bzlt b)) ?_
    rintro ⟨k, c, _, h1, h2⟩
    have := hI.own k c b h1 h2
    exact hb.elim this.1 this.2.1
  have hm : Moved σ φ w w' := ⟨hF.size, hF.os, hF.tape, hF.output, fun b hb hn => hF.frame b hb (by rintro ⟨k, c, _, h1, h2⟩; exact hn k c h1 h2)⟩
  have hrep : RepV w' fzN F.bz φN (e.res.ren nn) (e.res.renD nn u.1) v := by
    rcases hlend with hl | hl
    · exact RepV.ren g4.1 (RepV.flat (fz2 := fzN) (bz2 := fun _ => False) hl.1 hF.rep) (fun k hk => hN k (ltAll_ok g3.1 hk))
    · exact RepV.mono (fun _ _ => rfl) (fun b hb => ⟨hb, hl b⟩) (fun b hb => .inr hb) (fun _ _ => rfl) (RepV.ren (bz2 := F.bz) g4.1 hF.rep (fun k hk => hN k (ltAll_ok g3.1 hk)))
  have hcell : ∀ p ∈ cellsOf e.osto u.2, CellAt w' fzN F.bz φN (φ' p.1) (p.2.ren nn) := by
    intro p hp
    obtain ⟨q1, q2⟩ := goodAll_ok g5.2 p hp
    rcases hlend with hl | hl
    · obtain ⟨c, y, h1, h2⟩ := flatAll_ok hl.2 p hp
      have h3 := hF.cell p hp
      have h4 := noBorAll_ok g5.1 p hp
      rw [h1] at h3 h4 q2 ⊢
      exact CellAt.ren h4 (CellAt.flat (fz2 := fzN) (bz2 := fun _ => False) h2 h3) (fun j hj => hN j (q2 j hj))
    · exact CellAt.mono (fun _ _ => rfl) (fun _ _ => rfl) (fun b hb => ⟨hb, hl b⟩) (fun b hb => .inr hb) (fun _ _ => rfl) (CellAt.ren (bz2 := F.bz) (noBorAll_ok g5.1 p hp) (hF.cell p hp) (fun j hj => hN j (q2 j hj)))
  refine ⟨φN, fzN, hI.step hm eb (fun k hk => .inl hk) hfN ?_ ?_ ?_ ?_ ?_ ?_ hd hrep ?_⟩
  · intro b hb
    rcases hF.fz1 b hb.1 with (h | ⟨k, c, _, h1, h2⟩) | ⟨k, c, _, h1, h2⟩ | h
    · exact .inl h
    · exact .inr (.inl ⟨k, c, h1, h2⟩)
    · exact .inr (.inl ⟨k, c, h1, h2⟩)
    · exact .inr (.inr ⟨h, hF.fzlt b hb.1⟩)
  · intro k c hk
    rcases hσ k c hk with ⟨p, hp, rfl, rfl⟩ | ⟨h1, h2, h3⟩
    · obtain ⟨q1, q2⟩ := goodAll_ok g5.2 p hp
      rw [hN p.1 q1]
      exact hcell p hp
    · rw [eb k (hI.bs k c h1).1]
      exact CellAt.mono (fun b hb => hF.frame b (hlt k c b h1 hb) (notW k c b h1 h2 hb)) hz hfN (fun b hb => .inr hb) (fun j hj => eb j ((hI.bs k c h1).2 j hj)) (hI.sto k c h1)
  · intro k c hk
    rcases hσ k c hk with ⟨p, hp, rfl, rfl⟩ | ⟨h1, h2, h3⟩
    · obtain ⟨q1, q2⟩ := goodAll_ok g5.2 p hp
      refine ⟨hNb p.1 q1, fun j hj => ?_⟩
      obtain ⟨i, hi, rfl⟩ := Cell.toks_ren hj
      exact hNb i (q2 i hi)
    · exact ⟨.inl (hI.bs k c h1).1, fun j hj => .inl ((hI.bs k c h1).2 j hj)⟩
  · have cross : ∀ p ∈ cellsOf e.osto u.2, ∀ k c b, σ k = some c → k ∉ Acc.toks a.m → blkOf (φ k) = some b → blkOf (φ' p.1) ≠ some b := by
      intro p hp k c b h1 h2 h3 h4
      rcases (hF.own p hp b h4).2.2 with h | h
      · exact notW k c b h1 h2 h3 h
      · have := hlt k c b h1 h3; omega
    intro j k c d b hj hk hbj hbk
    rcases hσ j c hj with ⟨p, hp, rfl, rfl⟩ | ⟨h1, h2, h3⟩ <;> rcases hσ k d hk with ⟨q, hq, rfl, rfl⟩ | ⟨h4, h5, h6⟩
    · rw [hN _ (goodAll_ok g5.2 p hp).1] at hbj
      rw [hN _ (goodAll_ok g5.2 q hq).1] at hbk
      rw [hF.inj p hp q hq b hbj hbk]
    · rw [hN _ (goodAll_ok g5.2 p hp).1] at hbj
      rw [eb k (hI.bs k d h4).1] at hbk
      exact absurd hbj (cross p hp k d b h4 h5 hbk)
    · rw [hN _ (goodAll_ok g5.2 q hq).1] at hbk
      rw [eb j (hI.bs j c h1).1] at hbj
      exact absurd hbk (cross q hq j c b h1 h2 hbj)
    · rw [eb j (hI.bs j c h1).1] at hbj
      rw [eb k (hI.bs k d h4).1] at hbk
      exact hI.inj j k c d b h1 h4 hbj hbk
  · intro k c b hk hbk
    rcases hσ k c hk with ⟨p, hp, rfl, rfl⟩ | ⟨h1, h2, h3⟩
    · rw [hN _ (goodAll_ok g5.2 p hp).1] at hbk
      obtain ⟨q1, _, q3⟩ := hF.own p hp b hbk
      exact ⟨fun h => q1 h.1, q3.imp (fun ⟨k, c, _, h1, h2⟩ => ⟨k, c, h1, h2⟩) id⟩
    · rw [eb k (hI.bs k c h1).1] at hbk
      refine ⟨fun hf => ?_, .inl ⟨k, c, h1, hbk⟩⟩
      rcases hF.fz1 b hf.1 with (h | ⟨k', c', h4, h5, h6⟩) | h | h
      · exact (hI.own k c b h1 hbk).1 h
      · have := hI.inj k k' c c' b h1 h5 hbk h6
        subst this; exact hf.2 ⟨k, c, h4, h3, h1, hbk⟩
      · exact notW k c b h1 h2 hbk h
      · have := hlt k c b h1 hbk; omega
  · intro k hk
    by_cases hb : born k
    · rw [eb k hb]; exact hI.one k hb
    · simp only [φN]; rw [if_neg hb]; exact hF.one _
  · intro k hk
    obtain ⟨j, hj, rfl⟩ := Ty.toks_ren hk
    exact hNb j (ltAll_ok g3.1 hj)

theorem run_enter {f : Nat} (h : FnOk P f) (args : Array Value) (w : World) : (callFunc f args).run P w = .ok (.enter f args) w := by
  obtain ⟨fn, h1, h2, h3⟩ := h.get
  have h4 : fn.body.isNone = false := by cases hb : fn.body <;> simp_all
  simp only [callFunc, Sem.run_bind, run_program, Result.andThen_ok, h1, h2, h4, Bool.false_eq_true, if_false, Sem.run_pure]

theorem ok_call {c : Call} {f0 : Operand} {g : Nat} {cs : Ty} {y : cs.D} {l : List PV} {ents : List Ent} (htab : TabOk P ents) (ho : o.op = .call c) (hb : c.callee = .value f0) (hf : rd f0 = some ⟨.fn g cs, y⟩) (hl : rds rd c.args.toList = some l)
    (hs : storAll l = true) (hp : ptrs (unpairs cs y) = true) (h : callWith st nx (pvs (l ++ unpairs cs y)) K (entsOf g ents) = some r) : Res P o rd st nx K r := by
  obtain ⟨e, he, x, y', a, u, hpack, hfn, hK⟩ := callWith_ok h
  obtain ⟨hmem, hef⟩ := entsOf_mem he
  have hent := htab e hmem
  refine ⟨_, hK, ?_⟩
  intro F ρ σ born act w φ fz hI hrd hst hfresh hd next Q hnext
  obtain ⟨hall, hbn⟩ := rds_all hl hI (fun z q hz hq => hrd z q (by rw [ho]; exact call_operands hz) hq)
  have hmf : f0 ∈ o.op.operands.toList := by rw [ho]; simp [Op.operands, Call.operands, hb]
  have hfv := hI.rd (hrd f0 _ hmf hf)
  simp only [RepV, RepV0, RepC] at hfv
  obtain ⟨vs, hev, hcs⟩ := hfv
  injection hev with hev
  obtain ⟨u1, u2, u3⟩ := unpairs_rep hp hcs
  obtain ⟨hL, _⟩ := pvs_rep (l := l ++ unpairs cs y) (by
    intro v hv
    rcases List.mem_append.1 hv with hv | hv
    · exact storAll_ok hs v hv
    · exact u2 v hv) (hall.append u1)
  obtain ⟨φC, hS, htok, hkey, hok⟩ := start_of hI hst hent.good hpack hL
  have hcalls := hent.run x y' u hfn _ w _ _ _ φC hS
  have hr : (execOp act.eval o).run P w = .ok (.enter e.f (c.args.toList.map act.eval ++ vs).toArray) w := by
    have henter := run_enter hent.fn ((c.args.map act.eval) ++ vs.toArray) w
    have harr : (c.args.toList.map act.eval ++ vs).toArray = c.args.map act.eval ++ vs.toArray := by apply Array.ext'; simp
    rw [harr]
    rw [hef] at henter ⊢
    simp [execOp, ho, resolve, hb, hev, Deferred.ofValue, invoke, henter]
  unfold Oper.wp
  rw [hr, Oper.upon_enter]
  refine hcalls.mono ?_
  intro r w' hr
  cases r with
  | returned v =>
    obtain ⟨fz', φ', hF⟩ := hr
    obtain ⟨φN, fzN, hI'⟩ := finish_of (nx := nx) hI hent.good hfresh htok hkey hok hF hd
    exact hnext v w' φN fzN hI'
  | panicked ch => exact hr.elim
  | outgrown => exact hr.elim
end
end Go.Pv
