/- Pv, nineteenth text: what a region's operations did, one by one. -/
import Derived.Test.YtdkinmgpclbedaaDoorPvOp
set_option linter.unusedVariables false
set_option linter.unusedSimpArgs false
namespace Go.Pv
open Go Go.RowKit

def St.rho (s : St) : Rd := fun t => lk t s.env
theorem St.rd_eq (s : St) : s.rd = rdOf s.rho := by
  funext x; cases x <;> rfl

def dstAt (ops : List Oper) (i : Nat) : Option Nat := (ops[i]?).bind (·.dst)
def valAt (ds : List (Log × Dl)) (i : Nat) : PV := match ds[i]? with | some p => p.2.val | none => undefPV
def setsAt (ds : List (Log × Dl)) (i : Nat) : List (Nat × Option Cell) := match ds[i]? with | some p => p.2.sets | none => []
def Rn (ops : List Oper) (ds : List (Log × Dl)) (ρ : Rd) : Nat → Rd
  | 0 => ρ
  | i + 1 => upd (Rn ops ds ρ i) (dstAt ops i) (valAt ds i)
def Sn (ds : List (Log × Dl)) (σ : Sg) : Nat → Sg
  | 0 => σ
  | i + 1 => updS (Sn ds σ i) (setsAt ds i)
theorem Rn_cons {o : Oper} {r : List Oper} {x : Log × Dl} {q : List (Log × Dl)} {ρ : Rd} : ∀ i, Rn (o :: r) (x :: q) ρ (i + 1) = Rn r q (upd ρ o.dst x.2.val) i
  | 0 => rfl
  | i + 1 => by
    rw [Rn, Rn_cons i]; rfl
theorem Sn_cons {x : Log × Dl} {q : List (Log × Dl)} {σ : Sg} : ∀ i, Sn (x :: q) σ (i + 1) = Sn q (updS σ x.2.sets) i
  | 0 => rfl
  | i + 1 => by
    rw [Sn, Sn_cons i]; rfl

/-- The guard says b. -/
def GuardIs (all : List Oper) (o : Oper) (ρ : Rd) (rds : List Nat) (b : Bool) : Prop :=
  (o.guard = none ∧ b = true) ∨
  ∃ j want q t, o.guard = some (j, want) ∧ all[j]? = some q ∧ q.dst = some t ∧ t ∈ rds ∧ ((∃ v, ρ t = some ⟨.bool, v⟩ ∧ b = (v == want)) ∨ (ρ t = some ⟨.unit, ()⟩ ∧ b = false))

def Does (P : Program) (all : List Oper) (draw : Bool) (o : Oper) (ρ : Rd) (σ : Sg) (nx : Nat) (l : Log) (d : Dl) : Prop :=
  (GuardIs all o ρ l.rds true ∧ (∀ t ∈ tmpsOf o.op.operands.toList, t ∈ l.rds) ∧ OpOk P o (rdOf ρ) (if draw then fun k => cond (elemN k l.toks) (σ k) none else σ) nx d) ∨
  (GuardIs all o ρ l.rds false ∧ d = ⟨undefPV, []⟩)

def befAt (bef : Array Nat) (j i : Nat) : Prop := (bef.getD j 0).testBit i = true

theorem logOk_ok {bef : Nat} {l : Log} : ∀ {log : List Log}, logOk bef l log = true → ∀ a ∈ log, bef.testBit a.i = true ∨ a.apart l = true
  | [], _, a, h => by simp at h
  | b :: r, h, a, ha => by
    simp only [logOk] at h
    have h := cond_true_of h
    rcases List.mem_cons.1 ha with rfl | ha
    · by_cases hb : bef.testBit a.i = true
      · exact .inl hb
      · have h1 := h.1
        rw [Bool.eq_false_iff.2 hb] at h1
        exact .inr h1
    · exact logOk_ok h.2 a ha

theorem app_rho (s : St) (dst : Option Nat) (d : Dl) (nx : Nat) : (s.app dst d nx).rho = upd s.rho dst d.val := by
  funext t
  cases dst with
  | none => simp [St.app, St.rho, upd]
  | some u =>
    simp only [St.app, St.rho, upd, lk_cons, Option.some.injEq]
theorem app_st (s : St) (dst : Option Nat) (d : Dl) (nx : Nat) : (s.app dst d nx).st = updS s.st d.sets := by
  funext k
  simp only [St.app, St.st, updS, lk_append]
  cases lk k d.sets <;> rfl
theorem rho_same (s : St) {t : Nat} {v : PV} (h : lk t s.env = some v) : ({ s with env := (t, v) :: s.env } : St).rho = s.rho := by
  funext u
  simp only [St.rho, lk_cons]
  split
  · rename_i e; subst e; exact h.symm
  · rfl

theorem split_def {R : Type} {r : R} {x : Int} {K : Nat → Option R} {d : Option R} : ∀ {n i : Nat}, split x K d n i = some r → (∃ j : Nat, x = (j : Int) ∧ K j = some r) ∨ d = some r
  | 0, i, h => .inr h
  | n + 1, i, h => by
    simp only [split] at h
    by_cases hx : x = (i : Int)
    · rw [decide_eq_true hx] at h; exact .inl ⟨i, hx, h⟩
    · rw [decide_eq_false hx] at h
      exact split_def (n := n) (i := i + 1) h
theorem hint_ok {R : Type} {r : R} {hs : List (Nat × Nat)} {dst : Option Nat} {s : St} {K : St → Option R} (h : hint hs dst s K = some r) : ∃ s' : St, K s' = some r ∧ s'.rho = s.rho ∧ s'.st = s.st ∧ s'.nx = s.nx := by
  unfold hint at h
  split at h
  · exact ⟨s, h, rfl, rfl, rfl⟩
  · split at h
    · exact ⟨s, h, rfl, rfl, rfl⟩
    · split at h
      · rename_i t _ n _ k x hx
        rcases split_def h with ⟨j, hj, h2⟩ | h2
        · rw [hj] at hx
          exact ⟨_, h2, rho_same s hx, rfl, rfl⟩
        · exact ⟨s, h2, rfl, rfl, rfl⟩
      · exact ⟨s, h, rfl, rfl, rfl⟩

section
variable {P : Program} {R : Type} {r : R} {C : Cx}

theorem guardTmp_ok {all : List Oper} {o : Oper} {t : Nat} {want : Bool} (h : guardTmp all o = some (t, want)) : ∃ j q, o.guard = some (j, want) ∧ all[j]? = some q ∧ q.dst = some t := by
  unfold guardTmp at h
  split at h
  · cases h
  · rename_i j w hg
    split at h
    · rename_i q hq
      split at h
      · rename_i u hu
        injection h with h; injection h with h1 h2; subst h1; subst h2
        exact ⟨j, q, hg, hq, hu⟩
      · cases h
    · cases h

/-- What is known of each operation. -/
def Facts (P : Program) (all : List Oper) (draw : Bool) (bef : Array Nat) (ops : List Oper) (i : Nat) (ρ : Rd) (σ : Sg) (nx : Nat) (log : List Log) (ds : List (Log × Dl)) : Prop :=
  ∀ j o, ops[j]? = some o → ∃ l d, ds[j]? = some (l, d) ∧ l.i = i + j ∧ l.dst = o.dst.toList ∧ l.sets = d.sets.map (·.1) ∧ Does P all draw o (Rn ops ds ρ j) (Sn ds σ j) (nx + 64 * j) l d ∧
    (draw = true → (∀ a ∈ log, befAt bef (i + j) a.i ∨ a.apart l = true) ∧ ∀ m < j, ∀ l' d', ds[m]? = some (l', d') → befAt bef (i + j) (i + m) ∨ l'.apart l = true)

theorem Facts.cons {all : List Oper} {draw : Bool} {bef : Array Nat} {o : Oper} {ops : List Oper} {i : Nat} {ρ : Rd} {σ : Sg} {nx : Nat} {log : List Log} {l : Log} {d : Dl} {ds : List (Log × Dl)} (h1 : l.i = i) (h2 : l.dst = o.dst.toList) (h3 : l.sets = d.sets.map (·.1))
    (h4 : Does P all draw o ρ σ nx l d) (h5 : draw = true → logOk (bef.getD i 0) l log = true) (h : Facts P all draw bef ops (i + 1) (upd ρ o.dst d.val) (updS σ d.sets) (nx + 64) (l :: log) ds) :
    Facts P all draw bef (o :: ops) i ρ σ nx log ((l, d) :: ds) := by
  intro j o' hj
  cases j with
  | zero =>
    simp only [List.getElem?_cons_zero, Option.some.injEq] at hj
    subst hj
    exact ⟨l, d, rfl, h1, h2, h3, h4, fun hd => ⟨logOk_ok (h5 hd), fun m hm => absurd hm (Nat.not_lt_zero _)⟩⟩
  | succ j =>
    simp only [List.getElem?_cons_succ] at hj
    obtain ⟨l', d', g1, g2, g3, g4, g5, g6⟩ := h j o' hj
    refine ⟨l', d', by simpa using g1, by omega, g3, g4, ?_, fun hd => ?_⟩
    · rw [Rn_cons, Sn_cons, show nx + 64 * (j + 1) = nx + 64 + 64 * j by omega]; exact g5
    · obtain ⟨q1, q2⟩ := g6 hd
      rw [show i + 1 + j = i + (j + 1) by omega] at q1 q2
      refine ⟨fun a ha => q1 a (by simp [ha]), fun m hm l'' d'' hmm => ?_⟩
      cases m with
      | zero =>
        simp only [List.getElem?_cons_zero, Option.some.injEq, Prod.mk.injEq] at hmm
        obtain ⟨rfl, rfl⟩ := hmm
        have := q1 l (by simp)
        rw [h1] at this; exact this
      | succ m =>
        simp only [List.getElem?_cons_succ] at hmm
        have := q2 m (by omega) l'' d'' hmm
        rw [show i + 1 + m = i + (m + 1) by omega] at this
        exact this

theorem evOps_ok (hC : CxOk P C) {all : List Oper} {draw : Bool} {bef : Array Nat} {K : St → Option R} : ∀ {ops : List Oper} {i : Nat} {s : St} {log : List Log}, evOps C all draw bef ops i s log K = some r →
    ∃ ds s', ds.length = ops.length ∧ K s' = some r ∧ s'.rho = Rn ops ds s.rho ops.length ∧ s'.st = Sn ds s.st ops.length ∧ s'.nx = s.nx + 64 * ops.length ∧ Facts P all draw bef ops i s.rho s.st s.nx log ds
  | [], i, s, log, h => ⟨[], s, rfl, h, rfl, rfl, rfl, fun j o hj => by simp at hj⟩
  | o :: ops, i, s, log, h => by
    have perform : ∀ (g : List Nat) (s0 : St), s0.rho = s.rho → s0.st = s.st → s0.nx = s.nx → GuardIs all o s.rho (g ++ tmpsOf o.op.operands.toList) true →
        (let rs := tmpsOf o.op.operands.toList
         let ks := cond draw (seen s0.st o.op (ptoks s0.rd o.op.operands.toList)) []
         let st : Nat → Option Cell := cond draw (fun k => cond (elemN k ks) (s0.st k) none) s0.st
         evOp C o s0.rd st s0.nx fun d =>
          let l : Log := ⟨i, g ++ rs, o.dst.toList, ks, d.sets.map (·.1)⟩
          cond (cond draw (logOk (bef.getD i 0) l log) true)
            (hint C.hints o.dst (s0.app o.dst d (s0.nx + 64)) fun s => evOps C all draw bef ops (i + 1) s (l :: log) K) none) = some r →
        ∃ ds s', ds.length = (o :: ops).length ∧ K s' = some r ∧ s'.rho = Rn (o :: ops) ds s.rho (o :: ops).length ∧ s'.st = Sn ds s.st (o :: ops).length ∧ s'.nx = s.nx + 64 * (o :: ops).length ∧ Facts P all draw bef (o :: ops) i s.rho s.st s.nx log ds := by
      intro g s0 e1 e2 e3 hg h
      simp only [] at h
      obtain ⟨d, h, hop⟩ := evOp_ok hC h
      obtain ⟨hlog, h⟩ := cond_some h
      obtain ⟨s1, h, f1, f2, f3⟩ := hint_ok h
      obtain ⟨ds, s', q1, q2, q3, q4, q5, q6⟩ := evOps_ok hC h
      rw [f1, app_rho, e1] at q3 q6
      rw [f2, app_st, e2] at q4 q6
      have e5 : s1.nx = s.nx + 64 := by rw [f3]; simp only [St.app]; rw [e3]
      rw [e5] at q5 q6
      rw [e2] at hop hlog
      refine ⟨(⟨i, g ++ tmpsOf o.op.operands.toList, o.dst.toList, cond draw (seen s.st o.op (ptoks s0.rd o.op.operands.toList)) [], d.sets.map (·.1)⟩, d) :: ds, s', by simp [q1], q2, ?_, ?_, ?_, ?_⟩
      · rw [List.length_cons, Rn_cons]; exact q3
      · rw [List.length_cons, Sn_cons]; exact q4
      · rw [q5, List.length_cons]; omega
      · refine Facts.cons rfl rfl rfl (.inl ⟨hg, fun t ht => List.mem_append_right _ ht, ?_⟩) (fun hd => by rw [hd] at hlog ⊢; exact hlog) q6
        rw [e3, show s0.rd = rdOf s.rho by rw [St.rd_eq, e1]] at hop
        rw [show s0.rd = rdOf s.rho by rw [St.rd_eq, e1]]
        cases draw
        · exact hop
        · exact hop
    have skip : ∀ (t : Nat) (s0 : St), s0.rho = s.rho → s0.st = s.st → s0.nx = s.nx → GuardIs all o s.rho [t] false →
        (let l : Log := ⟨i, [t], o.dst.toList, [], []⟩
         cond (cond draw (logOk (bef.getD i 0) l log) true)
          (evOps C all draw bef ops (i + 1) (s0.app o.dst ⟨undefPV, []⟩ (s0.nx + 64)) (l :: log) K) none) = some r →
        ∃ ds s', ds.length = (o :: ops).length ∧ K s' = some r ∧ s'.rho = Rn (o :: ops) ds s.rho (o :: ops).length ∧ s'.st = Sn ds s.st (o :: ops).length ∧ s'.nx = s.nx + 64 * (o :: ops).length ∧ Facts P all draw bef (o :: ops) i s.rho s.st s.nx log ds := by
      intro t s0 e1 e2 e3 hg h
      simp only [] at h
      obtain ⟨hlog, h⟩ := cond_some h
      obtain ⟨ds, s', q1, q2, q3, q4, q5, q6⟩ := evOps_ok hC h
      rw [app_rho, e1] at q3 q6
      rw [app_st, e2] at q4 q6
      have e5 : (s0.app o.dst ⟨undefPV, []⟩ (s0.nx + 64)).nx = s.nx + 64 := by simp only [St.app]; rw [e3]
      rw [e5] at q5 q6
      refine ⟨(⟨i, [t], o.dst.toList, [], []⟩, ⟨undefPV, []⟩) :: ds, s', by simp [q1], q2, ?_, ?_, ?_, ?_⟩
      · rw [List.length_cons, Rn_cons]; exact q3
      · rw [List.length_cons, Sn_cons]; exact q4
      · rw [q5, List.length_cons]; omega
      · exact Facts.cons rfl rfl rfl (.inr ⟨hg, rfl⟩) (fun hd => by rw [hd] at hlog; exact hlog) q6
    unfold evOps at h
    simp only [] at h
    split at h
    · rename_i hgn
      exact perform [] s rfl rfl rfl (.inl ⟨hgn, rfl⟩) h
    · rename_i gw hgs
      split at h
      · cases h
      · rename_i t want hgt
        obtain ⟨j, q, k1, k2, k3⟩ := guardTmp_ok hgt
        split at h
        · rename_i b hb
          have hs : ({ s with env := (t, ⟨.bool, b⟩) :: s.env } : St).rho = s.rho := rho_same s hb
          cases b <;> cases want <;> simp only [cond_true, cond_false] at h
          · exact perform [t] _ hs rfl rfl (.inr ⟨j, false, q, t, k1, k2, k3, by simp, .inl ⟨false, hb, rfl⟩⟩) h
          · exact skip t _ hs rfl rfl (.inr ⟨j, true, q, t, k1, k2, k3, by simp, .inl ⟨false, hb, rfl⟩⟩) h
          · exact skip t _ hs rfl rfl (.inr ⟨j, false, q, t, k1, k2, k3, by simp, .inl ⟨true, hb, rfl⟩⟩) h
          · exact perform [t] _ hs rfl rfl (.inr ⟨j, true, q, t, k1, k2, k3, by simp, .inl ⟨true, hb, rfl⟩⟩) h
        · rename_i hb
          exact skip t s rfl rfl rfl (.inr ⟨j, want, q, t, k1, k2, k3, by simp, .inr ⟨hb, rfl⟩⟩) h
        · cases h
end
end Go.Pv
