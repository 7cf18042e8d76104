/- Pv, twenty-third text: the checks on a program's types and the table, as a seat's texts use them. -/
import Derived.Test.YtdkinmgpclbedaaDoorPvFn
set_option linter.unusedVariables false
set_option linter.unusedSimpArgs false
namespace Go.Pv
open Go Go.RowKit

def TK.ofDesc : TypeDesc → TK
  | .int k => .int k
  | .bool => .bool
  | .string => .str
  | .slice e => .sl e
  | .struct fs => .st (fs.toList.map fun f => (f.type, f.offset))
  | .array n e => .ar n e
  | _ => .oth
/-- The cells of a value that has no tokens. -/
def zCells : (t : Ty) → t.D → Option (List Value)
  | .int k, x => some [.int k x]
  | .bool, x => some [.bool x]
  | .str, x => some [.string x]
  | .sl .emp _, _ => some [.slice none 0 0]
  | .agg t, x => zCells t x
  | .pair a b, x => match zCells a x.1, zCells b x.2 with | some c, some d => some (c ++ d) | _, _ => none
  | .unit, _ => some []
  | _, _ => none
def zVal (v : PV) : Option Value :=
  match v with
  | ⟨.agg t, x⟩ => (match zCells t x with | some c => some (.agg c.toArray) | none => none)
  | ⟨t, x⟩ => (match zCells t x with | some [v] => some v | _ => none)
theorem zCells_ok {w : World} {fz bz : Nat → Prop} {φ : Nat → Value} : ∀ {t : Ty} {x : t.D} {c : List Value}, zCells t x = some c → RepC w fz bz φ t x c := by
  intro t
  induction t with
  | int k => intro x c h; simp only [zCells] at h; injection h with h; exact h.symm
  | bool => intro x c h; simp only [zCells] at h; injection h with h; exact h.symm
  | str => intro x c h; simp only [zCells] at h; injection h with h; exact h.symm
  | nilp => intro x c h; simp [zCells] at h
  | ubool => intro x c h; simp [zCells] at h
  | unit => intro x c h; simp only [zCells] at h; injection h with h; exact h.symm
  | sl m e ih => intro x c h; cases m <;> simp only [zCells] at h <;> first | (cases h; done) | (injection h with h; exact ⟨none, h.symm⟩)
  | agg t ih => intro x c h; simp only [zCells] at h; exact ih h
  | pair a b iha ihb =>
    intro x c h
    simp only [zCells] at h
    split at h
    · rename_i p q h1 h2
      injection h with h; subst h
      exact ⟨p, q, rfl, iha h1, ihb h2⟩
    · cases h
  | _ => intro x c h; simp [zCells] at h

theorem zCells_toks : ∀ {t : Ty} {x : t.D} {c : List Value}, zCells t x = some c → t.toks = [] := by
  intro t
  induction t with
  | sl m e ih => intro x c h; cases m <;> simp only [zCells] at h <;> first | (cases h; done) | rfl
  | agg t ih => intro x c h; exact ih h
  | pair a b iha ihb =>
    intro x c h
    simp only [zCells] at h
    split at h
    · rename_i p q h1 h2
      simp only [Ty.toks, iha h1, ihb h2]; rfl
    · cases h
  | _ => intro x c h; first | rfl | (simp [zCells] at h; done)
def tinfoB (i : TInfo) : Bool :=
  cond (Nat.beq i.z.t.sz i.sz) (cond i.z.t.stor (cond (beqB i.z.t.isAgg i.k.agg) (cond i.ty.closed (cond (Nat.beq i.ty.sz i.sz) (cond (Nat.beq i.sz 0) true (Nat.blt 0 i.byt)) false) false) false) false) false
structure Chk (P : Program) (p : Nat × TInfo) : Prop where
  b : tinfoB p.2 = true
  u : (P.underlying p.1).map TK.ofDesc = some p.2.k
  i : (P.info? p.1).map (fun j => (j.size, j.bytes, j.zero)) = some (p.2.sz, p.2.byt, zVal p.2.z)
  z : (zVal p.2.z).isSome = true
theorem zVal_ok {v : PV} {x : Value} (h : zVal v = some x) (hs : v.t.stor = true) : (∀ w fz bz φ, RepV0 w fz bz φ v.t v.x x) ∧ v.t.toks = [] := by
  obtain ⟨t, y⟩ := v
  by_cases ha : ∃ u, t = .agg u
  · obtain ⟨u, rfl⟩ := ha
    simp only [zVal] at h
    split at h
    · rename_i c hc
      injection h with h; subst h
      exact ⟨fun w fz bz φ => ⟨c, rfl, zCells_ok hc⟩, zCells_toks (t := u) hc⟩
    · cases h
  · have h' : (match zCells t y with | some [v] => some v | _ => none) = some x := by
      cases t <;> first | exact h | exact absurd ⟨_, rfl⟩ ha
    split at h'
    · rename_i v hc
      injection h' with h'; subst h'
      refine ⟨fun w fz bz φ => ?_, zCells_toks hc⟩
      have := zCells_ok (w := w) (fz := fz) (bz := bz) (φ := φ) hc
      cases t <;> simp only [Ty.stor] at hs <;> first | (cases hs; done) | exact absurd ⟨_, rfl⟩ ha | exact this
    · cases h'
theorem Chk.ok {P : Program} {t : Nat} {i : TInfo} (h : Chk P (t, i)) : TOk P t i := by
  obtain ⟨hb, hu, hi, hz⟩ := h
  have b1 := cond_true_of hb
  have b2 := cond_true_of b1.2
  have b3 := cond_true_of b2.2
  have b4 := cond_true_of b3.2
  have b5 := cond_true_of b4.2
  simp only [] at hu hi hz b1 b2 b3 b4 b5
  obtain ⟨zv, hzv⟩ := Option.isSome_iff_exists.1 hz
  obtain ⟨z1, z2⟩ := zVal_ok hzv b2.1
  rw [hzv] at hi
  have hagg : i.z.t.isAgg = i.k.agg := by
    have := b3.1
    revert this; cases i.z.t.isAgg <;> cases i.k.agg <;> simp [beqB]
  refine ⟨?_, ?_, nbeq_eq b1.1, b2.1, z2, hagg, b4.1, nbeq_eq b5.1, ?_⟩
  · cases hd : P.underlying t with
    | none => rw [hd] at hu; cases hu
    | some d =>
      rw [hd] at hu
      simp only [Option.map_some, Option.some.injEq] at hu
      refine ⟨d, rfl, ?_⟩
      rw [← hu]
      cases d <;> simp [TK.ofDesc]
  · cases hj : P.info? t with
    | none => rw [hj] at hi; cases hi
    | some j =>
      rw [hj] at hi
      simp only [Option.map_some, Option.some.injEq, Prod.mk.injEq] at hi
      exact ⟨j, rfl, hi.1, hi.2.1, zv, hi.2.2, z1⟩
  · intro h0
    have := b5.2
    have hne : Nat.beq i.sz 0 = false := by
      cases hh : Nat.beq i.sz 0 with
      | false => rfl
      | true => have := nbeq_eq hh; omega
    rw [hne] at this
    simpa [Nat.blt_eq] using this

def ChkAll (P : Program) : List (Nat × TInfo) → Prop
  | [] => True
  | p :: r => Chk P p ∧ ChkAll P r
theorem ChkAll.ok {P : Program} : ∀ {l : List (Nat × TInfo)}, ChkAll P l → TTOk P l
  | [], _, t, i, h => by simp [lk] at h
  | (j, k) :: r, hc, t, i, h => by
    rw [lk_cons] at h
    split at h
    · rename_i e; subst e; injection h with h; subst h; exact hc.1.ok
    · exact ChkAll.ok hc.2 t i h
theorem tab_nil {P : Program} : TabOk P [] := fun e h => by simp at h
theorem tab_cons {P : Program} {e : Ent} {l : List Ent} (h : EntOk P e) (hl : TabOk P l) : TabOk P (e :: l) := by
  intro d hd
  rcases List.mem_cons.1 hd with rfl | hd
  · exact h
  · exact hl d hd
theorem eq_of {P : Program} {t : Nat} (h1 : P.stoodInHeld t = false) (h2 : P.eqGuardType P.depth t = false) (h3 : (match P.underlying t with | some (.struct fs) => fs.toList.all fun f => !(f.name == "_") | _ => false) = true) : EqOk P t := by
  refine ⟨h1, h2, fun fields hf f hm hn => ?_⟩
  rw [hf] at h3
  have := List.all_eq_true.1 h3 f hm
  rw [hn] at this; simp at this
def bodyOf (f : Func) : Code := match f.body with | some c => c | none => .skip
theorem body_of {f : Func} (h : f.body.isSome = true) : f.body = some (bodyOf f) := by
  unfold bodyOf
  cases hb : f.body with
  | none => rw [hb] at h; cases h
  | some c => rfl
def allOk {R : Type} (p : LpE R → Prop) : List (LpE R) → Prop
  | [] => True
  | l :: r => p l ∧ allOk p r
theorem allOk.all {R : Type} {p : LpE R → Prop} : ∀ {l : List (LpE R)}, allOk p l → ∀ q ∈ l, p q
  | [], _, q, h => by simp at h
  | x :: r, hc, q, h => by
    rcases List.mem_cons.1 h with rfl | h
    · exact hc.1
    · exact allOk.all hc.2 q h
/-- A function's checks, as a seat's text writes them. -/
theorem ent_of {P : Program} {C : Cx} (hC : CxOk P C) (hmix : P.follows .mixedOrders = true) {e : Ent} {fn : Func} (hf : P.funcs[e.f]? = some fn) (hb : fn.body.isSome = true) (hname : (fn.name == "runtime.NumGoroutine") = false) (hg : e.good = true) (hd : dstOk fn.ntmps (bodyOf fn) = true)
    (hn : Nat.ble (parLen e.par) fn.ntmps = true) (lps : List (LpE (e.res.D × SD e.osto))) (N : Nat) (hfn : ∀ x y, e.fn x y = e.eval C fn (bodyOf fn) lps N x y)
    (hl : allOk (fun l => l.L.good = true ∧ (∀ x y, l.fn 0 x y = none) ∧ ∀ k x y, l.fn (k + 1) x y = e.round C fn (bodyOf fn) lps l k x y) lps) : EntOk P e :=
  ent_ok hC hmix hf (body_of hb) hname hg hd hn lps N hfn (fun l h => (hl.all l h).1) (fun l h => (hl.all l h).2.1) (fun l h => (hl.all l h).2.2)
end Go.Pv
