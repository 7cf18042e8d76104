/- Pv: a typed, pure evaluator of Go code as GoSem has it. This text holds the values and the evaluator; PvSound says that it tells the truth. -/
import Derived.Orders
import Derived.Deep.LoopGhost
import Derived.KernelRfl
set_option linter.unusedVariables false
namespace Go.Pv

/-- How a slice is held: for ever unchanged; borrowed from the caller; owned (whole, by a token); a part of an owned one; empty without room. -/
inductive Md where
  | frz | bor | own (k : Nat) | osub (k : Nat) | emp

inductive Ty where
  | unit
  | int (k : IntKind)
  | bool
  | str
  | sl (m : Md) (e : Ty)
  | ptr (k : Nat) (path : List Nat) (off : Nat)
  | ep (k : Nat) (path : List Nat) (off : Nat) (esz : Nat)
  | rp (t : Ty)
  | fn (f : Nat) (caps : Ty)
  | agg (t : Ty)
  | pair (a b : Ty)
  | tup (t : Ty)
  | nilp
  | ubool

@[reducible] def Md.D : Md → Type → Type
  | .frz, α => List α
  | .bor, α => List α
  | .own _, _ => Unit
  | .osub _, _ => Nat × Nat
  | .emp, _ => Unit

@[reducible] def Ty.D : Ty → Type
  | .unit => Unit
  | .int _ => Int
  | .bool => Bool
  | .str => ByteArray
  | .sl m e => m.D e.D
  | .ptr _ _ _ => Unit
  | .ep _ _ _ _ => Nat
  | .rp t => t.D
  | .fn _ c => c.D
  | .agg t => t.D
  | .pair a b => a.D × b.D
  | .tup t => t.D
  | .nilp => Unit
  | .ubool => Unit

structure PV where
  t : Ty
  x : t.D

inductive Cell where
  | box (t : Ty) (x : t.D)
  | arr (e : Ty) (l : List e.D)

/-! ### equality of codes -/
def kbeq : IntKind → IntKind → Bool
  | .i8, .i8 | .i16, .i16 | .i32, .i32 | .i64, .i64 | .u8, .u8 | .u16, .u16 | .u32, .u32 | .u64, .u64 => true
  | _, _ => false
def nsbeq : List Nat → List Nat → Bool
  | [], [] => true
  | a :: x, b :: y => cond (Nat.beq a b) (nsbeq x y) false
  | _, _ => false
def Md.beq : Md → Md → Bool
  | .frz, .frz | .bor, .bor | .emp, .emp => true
  | .own a, .own b => Nat.beq a b
  | .osub a, .osub b => Nat.beq a b
  | _, _ => false
def Ty.beq : Ty → Ty → Bool
  | .unit, .unit | .bool, .bool | .str, .str | .nilp, .nilp | .ubool, .ubool => true
  | .int a, .int b => kbeq a b
  | .sl m a, .sl n b => cond (m.beq n) (a.beq b) false
  | .ptr a p o, .ptr b q r => cond (Nat.beq a b) (cond (nsbeq p q) (Nat.beq o r) false) false
  | .ep a p o s, .ep b q r u => cond (Nat.beq a b) (cond (nsbeq p q) (cond (Nat.beq o r) (Nat.beq s u) false) false) false
  | .rp a, .rp b => a.beq b
  | .fn f a, .fn g b => cond (Nat.beq f g) (a.beq b) false
  | .agg a, .agg b => a.beq b
  | .pair a b, .pair c d => cond (a.beq c) (b.beq d) false
  | .tup a, .tup b => a.beq b
  | _, _ => false

theorem cond_true_of {a b : Bool} (h : cond a b false = true) : a = true ∧ b = true := by cases a <;> simp_all
theorem kbeq_eq : ∀ {a b : IntKind}, kbeq a b = true → a = b := by intro a b h; cases a <;> cases b <;> simp_all [kbeq]
theorem nbeq_eq {a b : Nat} (h : Nat.beq a b = true) : a = b := Nat.eq_of_beq_eq_true h
theorem nsbeq_eq : ∀ {a b : List Nat}, nsbeq a b = true → a = b
  | [], [], _ => rfl
  | [], _ :: _, h => by simp [nsbeq] at h
  | _ :: _, [], h => by simp [nsbeq] at h
  | a :: x, b :: y, h => by
    have h := cond_true_of h
    rw [nbeq_eq h.1, nsbeq_eq h.2]
theorem Md.beq_eq : ∀ {a b : Md}, Md.beq a b = true → a = b := by
  intro a b h
  cases a <;> cases b <;> simp_all [Md.beq]
theorem Ty.beq_eq : ∀ {a b : Ty}, Ty.beq a b = true → a = b := by
  intro a
  induction a with
  | unit => intro b h; cases b <;> simp_all [Ty.beq]
  | bool => intro b h; cases b <;> simp_all [Ty.beq]
  | str => intro b h; cases b <;> simp_all [Ty.beq]
  | int k => intro b h; cases b <;> first | (simp [Ty.beq] at h; done) | (rw [kbeq_eq h])
  | sl m e ih => intro b h; cases b <;> first | (simp [Ty.beq] at h; done) | (have h := cond_true_of h; rw [Md.beq_eq h.1, ih h.2])
  | ptr k p o => intro b h; cases b <;> first | (simp [Ty.beq] at h; done) | (have h := cond_true_of h; have g := cond_true_of h.2; rw [nbeq_eq h.1, nsbeq_eq g.1, nbeq_eq g.2])
  | ep k p o s => intro b h; cases b <;> first | (simp [Ty.beq] at h; done) | (have h := cond_true_of h; have g := cond_true_of h.2; have f := cond_true_of g.2; rw [nbeq_eq h.1, nsbeq_eq g.1, nbeq_eq f.1, nbeq_eq f.2])
  | rp t ih => intro b h; cases b <;> first | (simp [Ty.beq] at h; done) | (rw [ih h])
  | fn f t ih => intro b h; cases b <;> first | (simp [Ty.beq] at h; done) | (have h := cond_true_of h; rw [nbeq_eq h.1, ih h.2])
  | agg t ih => intro b h; cases b <;> first | (simp [Ty.beq] at h; done) | (rw [ih h])
  | pair a b iha ihb => intro c h; cases c <;> first | (simp [Ty.beq] at h; done) | (have h := cond_true_of h; rw [iha h.1, ihb h.2])
  | tup t ih => intro b h; cases b <;> first | (simp [Ty.beq] at h; done) | (rw [ih h])
  | nilp => intro b h; cases b <;> simp_all [Ty.beq]
  | ubool => intro b h; cases b <;> simp_all [Ty.beq]

/-- A list of elements of one code as one of another, if the codes are one. -/
def castL (a b : Ty) (l : List a.D) : Option (List b.D) := if h : Ty.beq a b = true then some ((Ty.beq_eq h) ▸ l) else none
def castD (a b : Ty) (x : a.D) : Option b.D := if h : Ty.beq a b = true then some ((Ty.beq_eq h) ▸ x) else none

/-! ### sizes, parts -/
def Ty.sz : Ty → Nat
  | .unit => 0
  | .tup _ => 0
  | .pair a b => a.sz + b.sz
  | .agg t => t.sz
  | _ => 1
def Ty.isAgg : Ty → Bool | .agg _ => true | _ => false
/-- May a variable hold it? -/
def Ty.stor : Ty → Bool | .unit | .tup _ | .pair _ _ => false | _ => true
def Ty.nth : (t : Ty) → Nat → t.D → Option PV
  | .pair a _, 0, x => some ⟨a, x.1⟩
  | .pair _ b, n + 1, x => b.nth n x.2
  | t, 0, x => some ⟨t, x⟩
  | _, _ + 1, _ => none
def Ty.nthOff : Ty → Nat → Option Nat
  | .pair _ _, 0 => some 0
  | .pair a b, n + 1 => match b.nthOff n with | some o => some (a.sz + o) | none => none
  | _, 0 => some 0
  | _, _ + 1 => none
def Ty.setNth : (t : Ty) → Nat → t.D → PV → Option PV
  | .pair _ b, 0, x, v => some ⟨.pair v.t b, (v.x, x.2)⟩
  | .pair a b, n + 1, x, v => match b.setNth n x.2 v with | some u => some ⟨.pair a u.t, (x.1, u.x)⟩ | none => none
  | _, 0, _, v => some v
  | _, _ + 1, _, _ => none
def getP : List Nat → (t : Ty) → t.D → Option PV
  | [], t, x => some ⟨t, x⟩
  | i :: p, .agg t, x => match t.nth i x with | some u => getP p u.t u.x | none => none
  | _ :: _, _, _ => none
def offP : List Nat → (t : Ty) → t.D → Option Nat
  | [], _, _ => some 0
  | i :: p, .agg t, x => match t.nth i x, t.nthOff i with | some u, some o => (match offP p u.t u.x with | some q => some (o + q) | none => none) | _, _ => none
  | _ :: _, _, _ => none
def setP : List Nat → (t : Ty) → t.D → PV → Option PV
  | [], _, _, v => some v
  | i :: p, .agg t, x, v => match t.nth i x with
    | some u => (match setP p u.t u.x v with
      | some u' => (match t.setNth i x u' with | some y => some ⟨.agg y.t, y.x⟩ | none => none)
      | none => none)
    | none => none
  | _ :: _, _, _, _ => none
/-- How many fields are there? -/
def Ty.len : Ty → Nat
  | .pair _ b => b.len + 1
  | _ => 1
def Ty.dflt : (t : Ty) → t.D
  | .unit => ()
  | .int _ => (0 : Int)
  | .bool => false
  | .str => ByteArray.empty
  | .sl m e => match m with | .frz => [] | .bor => [] | .own _ => () | .osub _ => (0, 0) | .emp => ()
  | .ptr _ _ _ => ()
  | .ep _ _ _ _ => (0 : Nat)
  | .rp t => t.dflt
  | .fn _ c => c.dflt
  | .agg t => t.dflt
  | .pair a b => (a.dflt, b.dflt)
  | .tup t => t.dflt
  | .nilp => ()
  | .ubool => ()
/-- Codes of what leads to nothing that is owned or borrowed. -/
def Ty.closed : Ty → Bool
  | .int _ | .bool | .str => true
  | .sl .frz e => e.closed
  | .agg t => t.closed
  | .pair a b => cond a.closed b.closed false
  | _ => false
def Ty.toks : Ty → List Nat
  | .sl (.own k) _ => [k]
  | .sl (.osub k) _ => [k]
  | .ptr k _ _ => [k]
  | .ep k _ _ _ => [k]
  | .fn _ c => c.toks
  | .agg t => t.toks
  | .pair a b => a.toks ++ b.toks
  | .tup t => t.toks
  | _ => []

def Ty.noToks (t : Ty) : Bool := match t.toks with | [] => true | _ => false
theorem Ty.noToks_eq {t : Ty} (h : t.noToks = true) : t.toks = [] := by
  unfold Ty.noToks at h
  split at h
  · assumption
  · cases h

/-! ### states -/
def lk {α : Type _} (k : Nat) : List (Nat × α) → Option α
  | [] => none
  | (j, v) :: r => cond (Nat.beq j k) (some v) (lk k r)
def elemN (k : Nat) : List Nat → Bool
  | [] => false
  | j :: r => cond (Nat.beq j k) true (elemN k r)
structure St where
  env : List (Nat × PV)
  sto : List (Nat × Option Cell)
  nx : Nat
def St.st (s : St) (k : Nat) : Option Cell := match lk k s.sto with | some c => c | none => none
def constPV : Value → Option PV
  | .int k n => some ⟨.int k, n⟩
  | .bool b => some ⟨.bool, b⟩
  | .string s => some ⟨.str, s⟩
  | .slice none 0 0 => some ⟨.sl .emp .unit, ()⟩
  | .pointer none => some ⟨.nilp, ()⟩
  | _ => none
def St.rd (s : St) : Operand → Option PV
  | .tmp t => lk t s.env
  | .const c => constPV c
  | .func f => some ⟨.fn f .unit, ()⟩
  | .global _ => none
/-- What an operation does: its value; the tokens that get a new content, or none. -/
structure Dl where
  val : PV
  sets : List (Nat × Option Cell)
def undefPV : PV := ⟨.unit, ()⟩
def St.app (s : St) (dst : Option Nat) (d : Dl) (nx : Nat) : St :=
  { env := match dst with | some t => (t, d.val) :: s.env | none => s.env, sto := d.sets ++ s.sto, nx := nx }

/-! ### types of the program -/
inductive TK where
  | int (k : IntKind) | bool | str | sl (e : Nat) | st (fs : List (Nat × Nat)) | ar (n e : Nat) | oth
def TK.agg : TK → Bool
  | .st _ => true
  | .ar _ _ => true
  | _ => false
structure TInfo where
  k : TK
  sz : Nat
  byt : Nat
  ty : Ty
  z : PV

/-! ### what is handed over -/
inductive CTy where
  | box (t : Ty)
  | arr (e : Ty)
@[reducible] def CTy.D : CTy → Type | .box t => t.D | .arr e => List e.D
def CTy.cell : (c : CTy) → c.D → Cell | .box t, x => .box t x | .arr e, l => .arr e l
@[reducible] def SD : List (Nat × CTy) → Type
  | [] => Unit
  | [(_, c)] => c.D
  | (_, c) :: d :: r => c.D × SD (d :: r)
/-- Where what a token stands for comes from. -/
inductive Src where
  | tok (k : Nat)
  | sub (k : Nat) (o n : Nat) (esz : Nat)
  | emp
structure Acc where
  m : List (Nat × Src)
  f : List Nat
  b : List Nat
def Acc.nil : Acc := ⟨[], [], []⟩
def Acc.add (a : Acc) (j : Nat) (s : Src) : Option Acc :=
  match lk j a.m with
  | none => some { a with m := (j, s) :: a.m }
  | some (.tok k) => (match s with | .tok k' => cond (Nat.beq k k') (some a) none | _ => none)
  | some _ => none
/-- The elements of a slice that is read. -/
def lst (st : Nat → Option Cell) (e : Ty) (v : PV) : Option (List e.D) :=
  match v with
  | ⟨.sl .frz e', l⟩ => castL e' e l
  | ⟨.sl .bor e', l⟩ => castL e' e l
  | ⟨.sl (.own k) _, _⟩ => match st k with | some (.arr e' l) => castL e' e l | _ => none
  | ⟨.sl (.osub k) e0, p⟩ => match st k with | some (.arr e' l) => cond (Nat.beq e0.sz e'.sz) (castL e' e ((l.drop p.1).take p.2)) none | _ => none
  | ⟨.sl .emp _, _⟩ => some []
  | _ => none
def conv (st : Nat → Option Cell) : (w : Ty) → PV → Acc → Option (w.D × Acc)
  | .unit, ⟨.unit, _⟩, a => some ((), a)
  | .int k, ⟨.int k', x⟩, a => cond (kbeq k k') (some (x, a)) none
  | .bool, ⟨.bool, x⟩, a => some (x, a)
  | .str, ⟨.str, x⟩, a => some (x, a)
  | .nilp, ⟨.nilp, _⟩, a => some ((), a)
  | .sl .bor e, v, a => (match lst st e v with | some l => some (l, { a with b := v.t.toks ++ a.b }) | none => none)
  | .sl .frz e, ⟨.sl .frz e', l⟩, a => (match castL e' e l with | some l => some (l, a) | none => none)
  | .sl .frz e, ⟨.sl .emp _, _⟩, a => some ([], a)
  | .sl .frz e, ⟨.sl (.own k) _, _⟩, a => (match st k with | some (.arr e' l) => (match castL e' e l with | some l => some (l, { a with f := k :: a.f }) | none => none) | _ => none)
  | .sl (.own j) _, ⟨.sl (.own k) _, _⟩, a => (match a.add j (.tok k) with | some a => some ((), a) | none => none)
  | .sl (.own j) _, ⟨.sl (.osub k) e, p⟩, a => (match a.add j (.sub k p.1 p.2 e.sz) with | some a => some ((), a) | none => none)
  | .sl (.own j) _, ⟨.sl .emp _, _⟩, a => (match a.add j .emp with | some a => some ((), a) | none => none)
  | .sl .emp _, ⟨.sl .emp _, _⟩, a => some ((), a)
  | .ptr j p o, ⟨.ptr k q r, _⟩, a => cond (nsbeq p q) (cond (Nat.beq o r) (match a.add j (.tok k) with | some a => some ((), a) | none => none) none) none
  | .rp e, ⟨.ptr k p o, _⟩, a => (match st k with
    | some (.box t x) => (match offP p t x, getP p t x with
      | some q, some u => cond (Nat.beq o q) (cond e.noToks (match conv st e u { a with b := k :: a.b } with | some (y, a) => some (y, a) | none => none) none) none
      | _, _ => none)
    | _ => none)
  | .rp e, ⟨.rp t, x⟩, a => (match castD t e x with | some y => some (y, a) | none => none)
  | .fn f c, ⟨.fn g d, x⟩, a => cond (Nat.beq f g) (match conv st c ⟨d, x⟩ a with | some (y, a) => some (y, a) | none => none) none
  | .agg t, ⟨.agg u, x⟩, a => (match conv st t ⟨u, x⟩ a with | some (y, a) => some (y, a) | none => none)
  | .pair b c, ⟨.pair d e, x⟩, a => (match conv st b ⟨d, x.1⟩ a with
    | some (y, a) => (match conv st c ⟨e, x.2⟩ a with | some (z, a) => some ((y, z), a) | none => none)
    | none => none)
  | .tup t, ⟨.tup u, x⟩, a => (match conv st t ⟨u, x⟩ a with | some (y, a) => some (y, a) | none => none)
  | _, _, _ => none
/-- The content of a token that is handed over. -/
def content (st : Nat → Option Cell) (j : Nat) : (c : CTy) → Acc → Option (c.D × Acc)
  | .arr e, a => match lk j a.m with
    | some (.tok k) => (match st k with | some (.arr e' l) => (match castL e' e l with | some l => some (l, a) | none => none) | _ => none)
    | some (.sub k o n z) => (match st k with | some (.arr e' l) => cond (Nat.beq e'.sz z) (match castL e' e ((l.drop o).take n) with | some l => some (l, a) | none => none) none | _ => none)
    | some .emp => some ([], a)
    | none => none
  | .box t, a => match lk j a.m with
    | some (.tok k) => (match st k with | some (.box t' x) => conv st t ⟨t', x⟩ a | _ => none)
    | _ => none
def contents (st : Nat → Option Cell) : (l : List (Nat × CTy)) → Acc → Option (SD l × Acc)
  | [], a => some ((), a)
  | [(j, c)], a => content st j c a
  | (j, c) :: d :: r, a => (match content st j c a with
    | some (x, a) => (match contents st (d :: r) a with | some (y, a) => some ((x, y), a) | none => none)
    | none => none)
def srcTok : Src → Option Nat | .tok k => some k | .sub k _ _ _ => some k | .emp => none
def Acc.toks : List (Nat × Src) → List Nat
  | [] => []
  | (_, s) :: r => match srcTok s with | some k => k :: Acc.toks r | none => Acc.toks r
def nodupN : List Nat → Bool
  | [] => true
  | k :: r => cond (elemN k r) false (nodupN r)
def disjN : List Nat → List Nat → Bool
  | [], _ => true
  | k :: r, l => cond (elemN k l) false (disjN r l)
/-- Each source is one token's alone. -/
def Acc.ok (a : Acc) : Bool := cond (nodupN (Acc.toks a.m)) (cond (disjN a.f (Acc.toks a.m)) (disjN a.b (Acc.toks a.m)) false) false
def hasKey (j : Nat) : List (Nat × CTy) → Bool
  | [] => false
  | (i, _) :: r => cond (Nat.beq i j) true (hasKey j r)
def keysIn (l : List (Nat × CTy)) : List (Nat × Src) → Bool
  | [] => true
  | (j, _) :: r => cond (hasKey j l) (keysIn l r) false
def pack (st : Nat → Option Cell) (w : Ty) (sto : List (Nat × CTy)) (v : PV) (a : Acc) : Option (w.D × SD sto × Acc) :=
  match conv st w v a with
  | some (x, a) => (match contents st sto a with | some (y, a) => cond a.ok (cond (keysIn sto a.m) (some (x, y, a)) none) none | none => none)
  | none => none

/-- A function, by what it is called with and what it gives. -/
structure Ent where
  f : Nat
  par : Ty
  sto : List (Nat × CTy)
  res : Ty
  osto : List (Nat × CTy)
  fn : par.D → SD sto → Option (res.D × SD osto)

/-- No part is borrowed. -/
def Ty.noBor : Ty → Bool
  | .sl .bor _ => false
  | .sl .frz e => e.closed
  | .rp _ => false
  | .fn _ c => c.noBor
  | .agg t => t.noBor
  | .pair a b => cond a.noBor b.noBor false
  | .tup t => t.noBor
  | _ => true
def ltAll (n : Nat) : List Nat → Bool
  | [] => true
  | k :: r => cond (Nat.blt k n) (ltAll n r) false
def CTy.goodN (n : Nat) : CTy → Bool
  | .arr e => cond e.closed (Nat.blt 0 e.sz) false
  | .box t => ltAll n t.toks
def goodN (n : Nat) : List (Nat × CTy) → Bool
  | [] => true
  | (j, c) :: r => cond (Nat.blt j n) (cond (c.goodN n) (cond (hasKey j r) false (goodN n r)) false) false
abbrev goodAll : List (Nat × CTy) → Bool := goodN 64
def noBorAll : List (Nat × CTy) → Bool
  | [] => true
  | (_, .box t) :: r => cond t.noBor (noBorAll r) false
  | _ :: r => noBorAll r
/-- What is asked of an entry's codes. -/
def Ent.good (e : Ent) : Bool := cond (ltAll 64 e.par.toks) (cond (goodAll e.sto) (cond (ltAll 64 e.res.toks) (cond e.res.noBor (cond (noBorAll e.osto) (goodAll e.osto) false) false) false) false) false

/-! ### tokens get other names -/
def Md.ren (ρ : Nat → Nat) : Md → Md
  | .own k => .own (ρ k)
  | .osub k => .osub (ρ k)
  | .frz => .frz
  | .bor => .bor
  | .emp => .emp
def Md.renD (ρ : Nat → Nat) : (m : Md) → {α : Type} → m.D α → (m.ren ρ).D α
  | .own _, _, x => x
  | .osub _, _, x => x
  | .frz, _, x => x
  | .bor, _, x => x
  | .emp, _, x => x
def Ty.ren (ρ : Nat → Nat) : Ty → Ty
  | .sl m e => .sl (m.ren ρ) e
  | .ptr k p o => .ptr (ρ k) p o
  | .ep k p o s => .ep (ρ k) p o s
  | .fn f c => .fn f (c.ren ρ)
  | .agg t => .agg (t.ren ρ)
  | .pair a b => .pair (a.ren ρ) (b.ren ρ)
  | .tup t => .tup (t.ren ρ)
  | .unit => .unit
  | .int k => .int k
  | .bool => .bool
  | .str => .str
  | .nilp => .nilp
  | .ubool => .ubool
  | .rp t => .rp t
def Ty.renD (ρ : Nat → Nat) : (t : Ty) → t.D → (t.ren ρ).D
  | .sl m e, x => m.renD ρ x
  | .ptr _ _ _, x => x
  | .ep _ _ _ _, x => x
  | .fn _ c, x => c.renD ρ x
  | .agg t, x => t.renD ρ x
  | .pair a b, x => (a.renD ρ x.1, b.renD ρ x.2)
  | .tup t, x => t.renD ρ x
  | .unit, x => x
  | .int _, x => x
  | .bool, x => x
  | .str, x => x
  | .nilp, x => x
  | .ubool, x => x
  | .rp _, x => x
def CTy.renCell (ρ : Nat → Nat) : (c : CTy) → c.D → Cell
  | .box t, x => .box (t.ren ρ) (t.renD ρ x)
  | .arr e, l => .arr e l
def unpack (ρ : Nat → Nat) : (l : List (Nat × CTy)) → SD l → List (Nat × Option Cell)
  | [], _ => []
  | [(j, c)], x => [(ρ j, some (c.renCell ρ x))]
  | (j, c) :: d :: r, x => (ρ j, some (c.renCell ρ x.1)) :: unpack ρ (d :: r) x.2
def killed : List Nat → List (Nat × Option Cell)
  | [] => []
  | k :: r => (k, none) :: killed r
/-- The name that the callee's token j gets. -/
def newName (m : List (Nat × Src)) (nx j : Nat) : Nat := match lk j m with | some (.tok k) => k | _ => nx + j

/-! ### the operations -/
structure Cx where
  tt : List (Nat × TInfo)
  ents : List Ent
  hints : List (Nat × Nat)
  eqs : List Nat
  cuts : List (List Nat)

section
variable {R : Type} (C : Cx)

def entsOf (f : Nat) : List Ent → List Ent
  | [] => []
  | e :: r => cond (Nat.beq e.f f) (e :: entsOf f r) (entsOf f r)
/-- Nothing in it hangs on what is frozen or borrowed. -/
def Ty.flat : Ty → Bool
  | .int _ | .bool | .str | .unit | .nilp | .ubool => true
  | .sl (.own _) _ | .sl (.osub _) _ | .sl .emp _ => true
  | .ptr _ _ _ | .ep _ _ _ _ => true
  | .fn _ c => c.flat
  | .agg t | .tup t => t.flat
  | .pair a b => cond a.flat b.flat false
  | _ => false
def CTy.flat : CTy → Bool | .box t => t.flat | .arr e => e.flat
def flatAll : List (Nat × CTy) → Bool
  | [] => true
  | (_, c) :: r => cond c.flat (flatAll r) false
/-- What is handed over as frozen comes back, if the result cannot hold it. -/
def Ent.lends (e : Ent) : Bool := cond e.res.flat (flatAll e.osto) false
def Ent.gone (e : Ent) : List Nat → List Nat
  | [] => []
  | k :: r => cond e.lends [] (k :: r)
def callWith (st : Nat → Option Cell) (nx : Nat) (v : PV) (K : Dl → Option R) : List Ent → Option R
  | [] => none
  | e :: r => match pack st e.par e.sto v Acc.nil with
    | some (x, y, a) => match e.fn x y with
      | some u => K ⟨⟨e.res.ren (newName a.m nx), e.res.renD (newName a.m nx) u.1⟩, unpack (newName a.m nx) e.osto u.2 ++ killed (Acc.toks a.m ++ e.gone a.f)⟩
      | none => none
    | none => callWith st nx v K r
def pvs : List PV → PV
  | [] => ⟨.unit, ()⟩
  | [v] => v
  | v :: u :: r => let w := pvs (u :: r); ⟨.pair v.t w.t, (v.x, w.x)⟩
def rds (rd : Operand → Option PV) : List Operand → Option (List PV)
  | [] => some []
  | x :: r => match rd x with | some v => (match rds rd r with | some l => some (v :: l) | none => none) | none => none
def storAll : List PV → Bool
  | [] => true
  | v :: r => cond v.t.stor (storAll r) false
def ptrs : List PV → Bool
  | [] => true
  | ⟨.ptr _ _ _, _⟩ :: r => ptrs r
  | ⟨.rp _, _⟩ :: r => ptrs r
  | _ => false
/-- The parts of right-nested pairs. -/
def unpairs : (t : Ty) → t.D → List PV
  | .unit, _ => []
  | .pair a b, x => ⟨a, x.1⟩ :: unpairs b x.2
  | t, x => [⟨t, x⟩]

/-- Fields that are compared. -/
def eqLeaf (tt : List (Nat × TInfo)) (ft : Nat) (t u : Ty) (x : t.D) (y : u.D) : Option Bool :=
  match lk ft tt with
  | none => none
  | some i => match i.k with
    | .int _ => (match t, u, x, y with | .int k, .int j, x, y => cond (kbeq k j) (some (x == y)) none | _, _, _, _ => none)
    | .bool => (match t, u, x, y with | .bool, .bool, x, y => some (x == y) | _, _, _, _ => none)
    | .str => (match t, u, x, y with | .str, .str, x, y => some (x.toList == y.toList) | _, _, _, _ => none)
    | _ => none
def eqFs (tt : List (Nat × TInfo)) : List (Nat × Nat) → Nat → (t u : Ty) → t.D → u.D → Option Bool
  | [], _, _, _, _, _ => none
  | (ft, o) :: r, n, t, u, x, y => cond (Nat.beq o n) (match r with
    | [] => eqLeaf tt ft t u x y
    | _ :: _ => (match t, u, x, y with
      | .pair a b, .pair c d, x, y => (match eqLeaf tt ft a c x.1 y.1, eqFs tt r (n + 1) b d x.2 y.2 with
        | some p, some q => some (cond p q false)
        | _, _ => none)
      | _, _, _, _ => none)) none
def evBin (op : BinOp) (u v : PV) (K : PV → Option R) : Option R :=
  match u, v with
  | ⟨.int k, x⟩, ⟨.int j, y⟩ => match op with
    | .shl => cond (decide (y < 0)) none (K ⟨.int k, k.wrap (x * 2 ^ (min y.toNat k.bits))⟩)
    | .shr => cond (decide (y < 0)) none (K ⟨.int k, x.fdiv (2 ^ (min y.toNat k.bits))⟩)
    | .add => cond (kbeq k j) (K ⟨.int k, k.wrap (x + y)⟩) none
    | .sub => cond (kbeq k j) (K ⟨.int k, k.wrap (x - y)⟩) none
    | .mul => cond (kbeq k j) (K ⟨.int k, k.wrap (x * y)⟩) none
    | .quo => cond (kbeq k j) (cond (decide (y = 0)) none (K ⟨.int k, k.wrap (x.tdiv y)⟩)) none
    | .rem => cond (kbeq k j) (cond (decide (y = 0)) none (K ⟨.int k, x.tmod y⟩)) none
    | .and => cond (kbeq k j) (K ⟨.int k, k.wrap ((BitVec.ofInt k.bits x &&& BitVec.ofInt k.bits y).toNat)⟩) none
    | .or => cond (kbeq k j) (K ⟨.int k, k.wrap ((BitVec.ofInt k.bits x ||| BitVec.ofInt k.bits y).toNat)⟩) none
    | .xor => cond (kbeq k j) (K ⟨.int k, k.wrap ((BitVec.ofInt k.bits x ^^^ BitVec.ofInt k.bits y).toNat)⟩) none
    | .andNot => none
    | .eql => cond (kbeq k j) (K ⟨.bool, x == y⟩) none
    | .neq => cond (kbeq k j) (K ⟨.bool, x != y⟩) none
    | .lss => cond (kbeq k j) (K ⟨.bool, decide (x < y)⟩) none
    | .leq => cond (kbeq k j) (K ⟨.bool, decide (x ≤ y)⟩) none
    | .gtr => cond (kbeq k j) (K ⟨.bool, decide (x > y)⟩) none
    | .geq => cond (kbeq k j) (K ⟨.bool, decide (x ≥ y)⟩) none
  | ⟨.str, x⟩, ⟨.str, y⟩ => match op with
    | .add => cond (decide (((x.size + y.size : Nat) : Int) > IntKind.i64.max)) none (K ⟨.str, x ++ y⟩)
    | .eql => K ⟨.bool, x.toList == y.toList⟩
    | .neq => K ⟨.bool, !(x.toList == y.toList)⟩
    | _ => none
  | _, _ => none

/-- A dynamic index into few parts. -/
def split (x : Int) (K : Nat → Option R) (d : Option R) : (left at_ : Nat) → Option R
  | 0, _ => d
  | n + 1, i => cond (decide (x = (i : Int))) (K i) (split x K d n (i + 1))

def beqB (a b : Bool) : Bool := cond a b (cond b false true)
/-- Is it a value of this type? -/
def fitK (i : TInfo) (u : PV) (K : PV → Option R) : Option R := cond (Nat.beq u.t.sz i.sz) (cond u.t.stor (cond (beqB u.t.isAgg i.k.agg) (K u) none) none) none
def evLoad (st : Nat → Option Cell) (i : TInfo) (v : PV) (K : PV → Option R) : Option R :=
  match v with
  | ⟨.ptr k p o, _⟩ => match st k with
    | some (.box t x) => (match offP p t x with | some q => cond (Nat.beq o q) (match getP p t x with | some u => fitK i u K | none => none) none | none => none)
    | _ => none
  | ⟨.ep k p o s, j⟩ => match st k with
    | some (.arr e l) => cond (Nat.beq e.sz s) (match offP p e (l.getD j e.dflt) with | some q => cond (Nat.beq o q) (match getP p e (l.getD j e.dflt) with | some u => fitK i u K | none => none) none | none => none) none
    | _ => none
  | ⟨.rp t, x⟩ => cond t.noToks (fitK i ⟨t, x⟩ K) none
  | _ => none
def evStore (st : Nat → Option Cell) (i : TInfo) (v u : PV) (K : Dl → Option R) : Option R :=
  cond (Nat.beq i.sz 0) none (cond (Nat.beq u.t.sz i.sz) (cond u.t.stor (match v with
  | ⟨.ptr k p o, _⟩ => match st k with
    | some (.box t x) => (match offP p t x, getP p t x with
      | some q, some old => cond (Nat.beq o q) (cond (Nat.beq old.t.sz u.t.sz) (cond old.t.stor (match setP p t x u with | some y => K ⟨undefPV, [(k, some (.box y.t y.x))]⟩ | none => none) none) none) none
      | _, _ => none)
    | _ => none
  | ⟨.ep k p o s, j⟩ => match st k with
    | some (.arr e l) => cond (Nat.beq e.sz s) (match offP p e (l.getD j e.dflt), getP p e (l.getD j e.dflt) with
      | some q, some old => cond (Nat.beq o q) (match conv st old.t u Acc.nil with
        | some (x, a) => (match a.m with
          | [] => (match setP p e (l.getD j e.dflt) ⟨old.t, x⟩ with
            | some y => (match castD y.t e y.x with | some z => cond (elemN k a.f) none (K ⟨undefPV, (k, some (.arr e (l.set j z))) :: killed a.f⟩) | none => none)
            | none => none)
          | _ => none)
        | none => none) none
      | _, _ => none) none
    | _ => none
  | _ => none) none) none)

/-- The elements of a literal, each in its place. -/
def lits (st : Nat → Option Cell) (e : Ty) : List (Nat × PV) → Nat → List Nat → Option (List e.D × List Nat)
  | [], _, f => some ([], f)
  | (j, v) :: r, i, f => cond (Nat.beq j i) (cond v.t.stor (match conv st e v ⟨[], f, []⟩ with
    | some (x, a) => (match a.m, a.b with
      | [], [] => (match lits st e r (i + 1) a.f with | some (l, f) => some (x :: l, f) | none => none)
      | _, _ => none)
    | none => none) none) none
def partsOf (rd : Operand → Option PV) : List (Nat × Operand) → Option (List (Nat × PV))
  | [] => some []
  | (i, x) :: r => match rd x with | some v => (match partsOf rd r with | some l => some ((i, v) :: l) | none => none) | none => none
/-- A struct or an array out of parts. -/
def fills (pl : Nat → Option (Nat × Nat)) (v : PV) : List (Nat × PV) → Option PV
  | [] => some v
  | (i, u) :: r => match v with
    | ⟨.agg t, x⟩ => (match t.nth i x, t.nthOff i, pl i with
      | some old, some q, some (o, z) => cond (Nat.beq q o) (cond (Nat.beq old.t.sz u.t.sz) (cond (Nat.beq u.t.sz z) (cond u.t.stor (match t.setNth i x u with | some y => fills pl ⟨.agg y.t, y.x⟩ r | none => none) none) none) none) none
      | _, _, _ => none)
    | _ => none
/-- Where the fields lie, and how large they are. -/
def placesOf (tt : List (Nat × TInfo)) : List (Nat × Nat) → Option (List (Nat × Nat))
  | [] => some []
  | (t, o) :: r => match lk t tt, placesOf tt r with
    | some i, some l => some ((o, i.sz) :: l)
    | _, _ => none
def zeroOf (st : Nat → Option Cell) (i : TInfo) : Option (i.ty.D) :=
  match conv st i.ty i.z Acc.nil with | some (x, a) => (match a.f with | [] => some x | _ => none) | none => none

def fieldOf (fs : List (Nat × Nat)) : Nat → Option (Nat × Nat)
  | 0 => match fs with | f :: _ => some f | [] => none
  | n + 1 => match fs with | _ :: r => fieldOf r n | [] => none

/-- A bound that may be lacking. -/
def optRd (rd : Operand → Option PV) : Option Operand → Option (Option Int)
  | none => some none
  | some x => match rd x with | some ⟨.int _, n⟩ => some (some n) | _ => none

def evFieldAddr (f fo : Nat) (v : PV) (K : Dl → Option R) : Option R :=
  match v with
  | ⟨.ptr k p o, _⟩ => K ⟨⟨.ptr k (p ++ [f]) (o + fo), ()⟩, []⟩
  | ⟨.ep k p o z, i⟩ => K ⟨⟨.ep k (p ++ [f]) (o + fo) z, i⟩, []⟩
  | ⟨.rp (.agg t), y⟩ => (match t.nth f y, t.nthOff f with | some u, some q => cond (Nat.beq q fo) (K ⟨⟨.rp u.t, u.x⟩, []⟩) none | _, _ => none)
  | _ => none
/-- An element's address. -/
def evIndexS (st : Nat → Option Cell) (ei : TInfo) (v : PV) (i : Int) (K : Dl → Option R) : Option R :=
  match v with
  | ⟨.sl .frz e', l⟩ => cond (Nat.beq e'.sz ei.sz) (cond (cond (decide (0 ≤ i)) (decide (i < (l.length : Int))) false) (K ⟨⟨.rp e', l.getD i.toNat e'.dflt⟩, []⟩) none) none
  | ⟨.sl .bor e', l⟩ => cond (Nat.beq e'.sz ei.sz) (cond (cond (decide (0 ≤ i)) (decide (i < (l.length : Int))) false) (K ⟨⟨.rp e', l.getD i.toNat e'.dflt⟩, []⟩) none) none
  | ⟨.sl (.own k) _, _⟩ => (match st k with
    | some (.arr e' l) => cond (Nat.beq e'.sz ei.sz) (cond (cond (decide (0 ≤ i)) (decide (i < (l.length : Int))) false) (K ⟨⟨.ep k [] 0 e'.sz, i.toNat⟩, []⟩) none) none
    | _ => none)
  | ⟨.sl (.osub k) e0, p⟩ => (match st k with
    | some (.arr e' l) => cond (Nat.beq e'.sz ei.sz) (cond (Nat.beq e0.sz e'.sz) (cond (cond (decide (0 ≤ i)) (decide (i < (p.2 : Int))) false) (K ⟨⟨.ep k [] 0 e'.sz, p.1 + i.toNat⟩, []⟩) none) none) none
    | _ => none)
  | _ => none
/-- The address of a part of an array. -/
def evIndexA (esz : Nat) (v : PV) (j : Nat) (K : Dl → Option R) : Option R :=
  match v with
  | ⟨.ptr k p o, _⟩ => K ⟨⟨.ptr k (p ++ [j]) (o + j * esz), ()⟩, []⟩
  | ⟨.ep k p o z, q⟩ => K ⟨⟨.ep k (p ++ [j]) (o + j * esz) z, q⟩, []⟩
  | ⟨.rp (.agg t), y⟩ => (match t.nth j y, t.nthOff j with | some u, some q => cond (Nat.beq q (j * esz)) (K ⟨⟨.rp u.t, u.x⟩, []⟩) none | _, _ => none)
  | _ => none
/-- A part of an array by value. -/
def evIndexV (ei : TInfo) (t : Ty) (y : t.D) (j : Nat) (K : Dl → Option R) : Option R :=
  match t.nth j y, t.nthOff j with
  | some u, some q => cond (Nat.beq q (j * ei.sz)) (fitK ei u fun u => K ⟨u, []⟩) none
  | _, _ => none
def byteAt (s : ByteArray) (n : Nat) : Int := if h : n < s.size then ((s[n]'h).toNat : Int) else 0
/-- Where a cut begins and ends. -/
def cutOk (n : Nat) (lo hi : Option Int) : Bool :=
  cond (match hi with | some h => cond (decide (0 ≤ h)) (decide (h ≤ (n : Int))) false | none => true)
    (match lo with | some l => cond (decide (0 ≤ l)) (decide (l ≤ (match hi with | some h => h | none => (n : Int)))) false | none => true) false
def cutL (lo : Option Int) : Nat := match lo with | some l => l.toNat | none => 0
def cutH (n : Nat) (hi : Option Int) : Nat := match hi with | some h => h.toNat | none => n
def evSlice (st : Nat → Option Cell) (esz : Nat) (v : PV) (lo hi : Option Int) (K : PV → Option R) : Option R :=
  match v with
  | ⟨.sl .frz e, x⟩ => cond (Nat.beq e.sz esz) (cond (cutOk x.length lo hi) (K ⟨.sl .frz e, (x.take (cutH x.length hi)).drop (cutL lo)⟩) none) none
  | ⟨.sl .bor e, x⟩ => cond (Nat.beq e.sz esz) (cond (cutOk x.length lo hi) (K ⟨.sl .bor e, (x.take (cutH x.length hi)).drop (cutL lo)⟩) none) none
  | ⟨.sl (.own k) e, _⟩ => (match st k with
    | some (.arr _ x) => cond (Nat.beq e.sz esz) (cond (cutOk x.length lo hi) (K ⟨.sl (.osub k) e, (cutL lo, cutH x.length hi - cutL lo)⟩) none) none
    | _ => none)
  | ⟨.sl (.osub k) e, p⟩ => (match st k with
    | some (.arr _ _) => cond (Nat.beq e.sz esz) (cond (cutOk p.2 lo hi) (K ⟨.sl (.osub k) e, (p.1 + cutL lo, cutH p.2 hi - cutL lo)⟩) none) none
    | _ => none)
  | ⟨.sl .emp e, _⟩ => cond (cutOk 0 lo hi) (K ⟨.sl .emp e, ()⟩) none
  | _ => none
def evSlice3 (st : Nat → Option Cell) (v : PV) (K : Dl → Option R) : Option R :=
  match v.t with
  | .sl (.own k) e => (match st k with | some (.arr _ _) => K ⟨⟨.sl .emp e, ()⟩, []⟩ | _ => none)
  | .sl _ e => K ⟨⟨.sl .emp e, ()⟩, []⟩
  | _ => none
def evCutStr (s : ByteArray) (lo hi : Option Int) (K : PV → Option R) : Option R :=
  cond (cutOk s.size lo hi) (K ⟨.str, s.extract (cutL lo) (cutH s.size hi)⟩) none

def evLen (st : Nat → Option Cell) (v : PV) (K : Nat → Option R) : Option R :=
  match v with
  | ⟨.sl .frz _, l⟩ => K l.length
  | ⟨.sl .bor _, l⟩ => K l.length
  | ⟨.sl (.own k) _, _⟩ => (match st k with | some (.arr _ l) => K l.length | _ => none)
  | ⟨.sl (.osub k) _, p⟩ => K p.2
  | ⟨.sl .emp _, _⟩ => K 0
  | _ => none
def evLenOf (i : TInfo) (st : Nat → Option Cell) (v : PV) (K : Nat → Option R) : Option R :=
  match i.k with
  | .str => (match v with | ⟨.str, s⟩ => K s.size | _ => none)
  | .ar n _ => K n
  | .sl _ => evLen st v K
  | _ => none
/-- Is it the literal nil? -/
def isNilC : Operand → Bool
  | .const (.slice none 0 0) => true
  | _ => false
/-- Is a slice nil? Of an empty one nothing is known. -/
def evNil (st : Nat → Option Cell) (v : PV) (K : Dl → Option R) : Option R :=
  match v with
  | ⟨.sl (.osub _) _, _⟩ => none
  | v => evLen st v fun n => cond (decide (n = 0)) (K ⟨⟨.ubool, ()⟩, []⟩) (K ⟨⟨.bool, false⟩, []⟩)
/-- What both ways give, if they give the same. -/
noncomputable def nd {R : Type} (a b : Option R) : Option R := @ite _ (a = b) (Classical.propDecidable _) a none
theorem nd_some {R : Type} {a b : Option R} {r : R} (h : nd a b = some r) : a = some r ∧ b = some r := by
  unfold nd at h
  by_cases e : a = b
  · rw [if_pos e] at h
    exact ⟨h, e ▸ h⟩
  · rw [if_neg e] at h; cases h
def limOf (i : TInfo) : Nat := 140737488355328 / i.byt

def evAppend (i : TInfo) (st : Nat → Option Cell) (nx : Nat) (v u : PV) (K : Dl → Option R) : Option R :=
  cond (Nat.beq i.sz 0) none (match lst st i.ty v, lst st i.ty u with
  | some x, some y => cond (decide (x.length + y.length ≤ limOf i)) (match v.t with
    | .sl (.own k) _ => K ⟨⟨.sl (.own nx) i.ty, ()⟩, [(nx, some (.arr i.ty (x ++ y))), (k, none)]⟩
    | .sl (.osub k) _ => K ⟨⟨.sl (.own nx) i.ty, ()⟩, [(nx, some (.arr i.ty (x ++ y))), (k, none)]⟩
    | .sl .emp _ => K ⟨⟨.sl (.own nx) i.ty, ()⟩, [(nx, some (.arr i.ty (x ++ y)))]⟩
    | _ => none) none
  | _, _ => none)
def cpy {α : Type} (x : List α) (o n : Nat) (y : List α) : List α := x.take o ++ (y.take n ++ x.drop (o + n))
def evCopy (i : TInfo) (st : Nat → Option Cell) (v u : PV) (K : Dl → Option R) : Option R :=
  cond (Nat.beq i.sz 1) (match v with
    | ⟨.sl (.own k) _, _⟩ => (match st k with
      | some (.arr e x) => cond (Nat.beq e.sz 1) (match lst st e u with
        | some y => K ⟨⟨.int .i64, ((min y.length x.length : Nat) : Int)⟩, [(k, some (.arr e (cpy x 0 (min y.length x.length) y)))]⟩
        | none => none) none
      | _ => none)
    | ⟨.sl (.osub k) e0, p⟩ => (match st k with
      | some (.arr e x) => cond (Nat.beq e.sz 1) (cond (Nat.beq e0.sz e.sz) (match lst st e u with
        | some y => K ⟨⟨.int .i64, ((min y.length p.2 : Nat) : Int)⟩, [(k, some (.arr e (cpy x p.1 (min y.length p.2) y)))]⟩
        | none => none) none) none
      | _ => none)
    | _ => none) none
/-- What an insertion gives. -/
def insF (i : Int) (s v : List Int) : Option (Unit × List Int) :=
  cond (decide (0 ≤ i ∧ i ≤ s.length ∧ 0 < v.length ∧ s.length + v.length ≤ 17592186044416)) (some ((), s.take i.toNat ++ (v ++ s.drop i.toNat))) none
def evClear (i : TInfo) (st : Nat → Option Cell) (v : PV) (K : Dl → Option R) : Option R :=
  cond (Nat.beq i.sz 1) (match zeroOf st i with
    | some z => (match v with
      | ⟨.sl (.own k) _, _⟩ => (match st k with
        | some (.arr e x) => (match castD i.ty e z with
          | some y => K ⟨⟨.tup .unit, ()⟩, [(k, some (.arr e (cpy x 0 x.length (List.replicate x.length y))))]⟩
          | none => none)
        | _ => none)
      | ⟨.sl (.osub k) e0, p⟩ => (match st k with
        | some (.arr e x) => cond (Nat.beq e0.sz e.sz) (match castD i.ty e z with
          | some y => K ⟨⟨.tup .unit, ()⟩, [(k, some (.arr e (cpy x p.1 p.2 (List.replicate p.2 y))))]⟩
          | none => none) none
        | _ => none)
      | _ => none)
    | none => none) none
def evBuiltin (b : Builtin) (ts : List Nat) (st : Nat → Option Cell) (nx : Nat) (vs : List PV) (K : Dl → Option R) : Option R :=
  match b, vs with
  | .len, [v] => (match ts with
    | t :: _ => (match lk t C.tt with
      | some i => evLenOf i st v fun n => K ⟨⟨.int .i64, (n : Int)⟩, []⟩
      | none => none)
    | _ => none)
  | .append, [v, u] => (match ts with
    | [t, t2] => (match lk t C.tt, lk t2 C.tt with
      | some ⟨.sl e, _, _, _, _⟩, some ⟨.sl _, _, _, _, _⟩ => (match lk e C.tt with
        | some i => evAppend i st nx v u K
        | none => none)
      | _, _ => none)
    | _ => none)
  | .copy, [v, u] => (match ts with
    | [t, t2] => (match lk t C.tt with
      | some ⟨.sl e, _, _, _, _⟩ => (match lk e C.tt with
        | some i => evCopy i st v u K
        | none => none)
      | _ => none)
    | _ => none)
  | .clear, [v] => (match ts with
    | [t] => (match lk t C.tt with
      | some ⟨.sl e, _, _, _, _⟩ => (match lk e C.tt with
        | some i => evClear i st v K
        | none => none)
      | _ => none)
    | _ => none)
  | .min, [⟨.int k, x⟩, ⟨.int j, y⟩] => cond (kbeq k j) (K ⟨⟨.int k, if y < x then y else x⟩, []⟩) none
  | .max, [⟨.int k, x⟩, ⟨.int j, y⟩] => cond (kbeq k j) (K ⟨⟨.int k, if y > x then y else x⟩, []⟩) none
  | _, _ => none

/-- Bytes, at least one. -/
def allByte : List Int → Bool
  | [] => true
  | x :: r => cond (decide (0 ≤ x)) (cond (decide (x < 256)) (allByte r) false) false
def inBytes (l : List Int) : Bool := match l with | [] => false | l => allByte l
def mkBytes (l : List Int) : ByteArray := ⟨(l.map fun x => UInt8.ofNat x.toNat).toArray⟩

def evOp (o : Oper) (rd : Operand → Option PV) (st : Nat → Option Cell) (nx : Nat) (K : Dl → Option R) : Option R :=
  match o.op with
  | .move x => (match rd x with | some v => K ⟨v, []⟩ | none => none)
  | .assign x => (match rd x with | some v => K ⟨v, []⟩ | none => none)
  | .pick c a b => (match rd c, rd a, rd b with
    | some ⟨.bool, x⟩, some u, some v => (match castD v.t u.t v.x with
      | some y => K ⟨⟨u.t, cond x u.x y⟩, []⟩
      | none => cond x (K ⟨u, []⟩) (K ⟨v, []⟩))
    | _, _, _ => none)
  | .alloc t => (match lk t C.tt with | some i => K ⟨⟨.ptr nx [] 0, ()⟩, [(nx, some (.box i.z.t i.z.x))]⟩ | none => none)
  | .box t x => (match rd x with | some v => cond v.t.stor (K ⟨⟨.ptr nx [] 0, ()⟩, [(nx, some (.box v.t v.x))]⟩) none | none => none)
  | .build t ps => (match lk t C.tt with
    | some i => (match partsOf rd ps.toList with
      | some l => (match i.k with
        | .st fs => (match placesOf C.tt fs with
          | some pl => (match fills (fun j => fieldOf pl j) i.z l with | some v => K ⟨v, []⟩ | none => none)
          | none => none)
        | .ar _ e => (match lk e C.tt with
          | some ei => (match fills (fun j => some (j * ei.sz, ei.sz)) i.z l with | some v => K ⟨v, []⟩ | none => none)
          | none => none)
        | _ => none)
      | none => none)
    | none => none)
  | .buildSlice t n ps => (match lk t C.tt with
    | some ⟨.sl e, _, _, _, _⟩ => (match lk e C.tt with
      | some i => cond (Nat.beq i.sz 0) none (match partsOf rd ps.toList with
        | some l => cond (Nat.beq l.length n) (cond (decide (n * i.sz ≤ 16777216)) (match lits st i.ty l 0 [] with
          | some (x, f) => K ⟨⟨.sl (.own nx) i.ty, ()⟩, (nx, some (.arr i.ty x)) :: killed f⟩
          | none => none) none) none
        | _ => none)
      | none => none)
    | _ => none)
  | .load t x => (match lk t C.tt, rd x with | some i, some v => evLoad st i v fun u => K ⟨u, []⟩ | _, _ => none)
  | .store t x y => (match lk t C.tt, rd x, rd y with | some i, some v, some u => evStore st i v u K | _, _, _ => none)
  | .nilCheck x => (match rd x with
    | some v => (match v.t with | .ptr _ _ _ => K ⟨v, []⟩ | .ep _ _ _ _ => K ⟨v, []⟩ | .rp _ => K ⟨v, []⟩ | .fn _ _ => K ⟨v, []⟩ | _ => none)
    | none => none)
  | .binOp op t x y _ => (match rd x, rd y with
    | some ⟨.agg u, a⟩, some ⟨.agg v, b⟩ => (match lk t C.tt with
      | some ⟨.st fs, _, _, _, _⟩ => cond (elemN t C.eqs) (match eqFs C.tt fs 0 u v a b with
        | some r => (match op with | .eql => K ⟨⟨.bool, r⟩, []⟩ | .neq => K ⟨⟨.bool, !r⟩, []⟩ | _ => none)
        | none => none) none
      | _ => none)
    | some ⟨.bool, a⟩, some ⟨.bool, b⟩ => (match lk t C.tt with
      | some ⟨.bool, _, _, _, _⟩ => (match op with | .eql => K ⟨⟨.bool, a == b⟩, []⟩ | .neq => K ⟨⟨.bool, !(a == b)⟩, []⟩ | _ => none)
      | _ => none)
    | some ⟨.sl m e, a⟩, some ⟨.sl .emp _, _⟩ => cond (isNilC y) (match lk t C.tt with
      | some ⟨.sl _, _, _, _, _⟩ => (match op with | .eql => evNil st ⟨.sl m e, a⟩ K | _ => none)
      | _ => none) none
    | some u, some v => evBin op u v fun r => K ⟨r, []⟩
    | _, _ => none)
  | .unOp op _ x => (match rd x, op with
    | some ⟨.int k, n⟩, .neg => K ⟨⟨.int k, k.wrap (0 - n)⟩, []⟩
    | some ⟨.bool, b⟩, .not => K ⟨⟨.bool, !b⟩, []⟩
    | _, _ => none)
  | .convert s t x => (match lk s C.tt, lk t C.tt, rd x with
    | some _, some ⟨.int k, _, _, _, _⟩, some ⟨.int _, n⟩ => K ⟨⟨.int k, k.wrap n⟩, []⟩
    | some ⟨.sl e, _, _, _, _⟩, some ⟨.str, _, _, _, _⟩, some v => (match lk e C.tt with
      | some ⟨.int .u8, _, _, _, _⟩ => (match lst st (.int .u8) v with | some l => cond (inBytes l) (K ⟨⟨.str, mkBytes l⟩, []⟩) none | none => none)
      | _ => none)
    | _, _, _ => none)
  | .makeFunc fn first cs => (match fn, first.toList, rds rd cs.toList with | .func f, [], some l => cond (ptrs l) (K ⟨⟨.fn f (pvs l).t, (pvs l).x⟩, []⟩) none | _, _, _ => none)
  | .makeSlice t x y => (match lk t C.tt with
    | some ⟨.sl e, _, _, _, _⟩ => (match lk e C.tt, rd x, rd y with
      | some i, some ⟨.int _, n⟩, some ⟨.int _, m⟩ => (match zeroOf st i with
        | some z => cond (Nat.beq i.sz 0) none (cond (decide (0 ≤ n)) (cond (decide (n ≤ m)) (cond (decide ((i.byt : Int) * m ≤ 281474976710656)) (K ⟨⟨.sl (.own nx) i.ty, ()⟩, [(nx, some (.arr i.ty (List.replicate n.toNat z)))]⟩) none) none) none)
        | none => none)
      | _, _, _ => none)
    | _ => none)
  | .slice t x lo hi mx => (match lk t C.tt, rd x, optRd rd lo, optRd rd hi with
    | some i, some v, some l, some h => (match mx with
      | none => (match i.k with
        | .sl e => (match lk e C.tt with | some ei => evSlice st ei.sz v l h fun u => K ⟨u, []⟩ | none => none)
        | .str => (match v with | ⟨.str, s⟩ => evCutStr s l h fun u => K ⟨u, []⟩ | _ => none)
        | _ => none)
      | some m => (match i.k, rd m, lo, h with   -- only 's[:0:0]'
        | .sl e, some ⟨.int _, m⟩, none, some h => (match lk e C.tt with
          | some _ => cond (decide (m = 0)) (cond (decide (h = 0)) (evSlice3 st v K) none) none
          | none => none)
        | _, _, _, _ => none))
    | _, _, _, _ => none)
  | .fieldAddr s x f => (match lk s C.tt, rd x with
    | some ⟨.st fs, _, _, _, _⟩, some v => (match fieldOf fs f with
      | some (ft, fo) => (match lk ft C.tt with
        | some fi => cond (Nat.beq fi.sz 0) none (evFieldAddr f fo v K)
        | none => none)
      | none => none)
    | _, _ => none)
  | .field s x f => (match lk s C.tt, rd x with
    | some ⟨.st fs, _, _, _, _⟩, some ⟨.agg t, y⟩ => (match fieldOf fs f, t.nth f y, t.nthOff f with
      | some (ft, fo), some u, some q => (match lk ft C.tt with
        | some fi => cond (Nat.beq q fo) (fitK fi u fun u => K ⟨u, []⟩) none
        | none => none)
      | _, _, _ => none)
    | _, _ => none)
  | .indexAddr t x y => (match lk t C.tt, rd x, rd y with
    | some ⟨.sl e, _, _, _, _⟩, some v, some ⟨.int _, i⟩ => (match lk e C.tt with
      | some ei => evIndexS st ei v i K
      | none => none)
    | some ⟨.ar n e, _, _, _, _⟩, some v, some ⟨.int _, i⟩ => (match lk e C.tt with
      | some ei => split i (fun j => evIndexA ei.sz v j K) none n 0
      | none => none)
    | _, _, _ => none)
  | .index t x y => (match lk t C.tt, rd x, rd y with
    | some ⟨.str, _, _, _, _⟩, some ⟨.str, s⟩, some ⟨.int _, i⟩ => cond (cond (decide (0 ≤ i)) (decide (i < (s.size : Int))) false) (K ⟨⟨.int .u8, byteAt s i.toNat⟩, []⟩) none
    | some ⟨.ar n e, _, _, _, _⟩, some ⟨.agg t, y⟩, some ⟨.int _, i⟩ => (match lk e C.tt with
      | some ei => split i (fun j => evIndexV ei t y j K) none n 0
      | none => none)
    | _, _, _ => none)
  | .extract x j => (match rd x with
    | some ⟨.tup t, y⟩ => (match t.nth j y with | some u => cond u.t.stor (K ⟨u, []⟩) none | none => none)
    | _ => none)
  | .call c => (match rds rd c.args.toList with
    | some l => (match c.callee with
      | .builtin b => evBuiltin C b c.argTypes.toList st nx l K
      | .value f => (match rd f with
        | some ⟨.fn g cs, y⟩ => cond (storAll l) (cond (ptrs (unpairs cs y)) (callWith st nx (pvs (l ++ unpairs cs y)) K (entsOf g C.ents)) none) none
        | _ => none)
      | .invoke _ _ => none)
    | none => none)
  | _ => none

/-! ### regions -/
structure Log where
  i : Nat
  rds : List Nat
  dst : List Nat
  toks : List Nat
  sets : List Nat
def reach (st : Nat → Option Cell) : Nat → List Nat → List Nat
  | 0, ks => ks
  | n + 1, ks => reach st n (ks.flatMap fun k => match st k with | some (.box t _) => k :: t.toks | _ => [k])
/-- How far an operation looks: a call into what its operands lead to, all others at the operands' own memory alone. -/
def depthOf : Op → Nat
  | .call _ => 3
  | _ => 0
/-- The memory at which an operation looks. -/
def seen (st : Nat → Option Cell) : Op → List Nat → List Nat
  | .move _, _ => []
  | .assign _, _ => []
  | .nilCheck _, _ => []
  | .extract _ _, _ => []
  | .fieldAddr _ _ _, _ => []
  | .unOp _ _ _, _ => []
  | op, l => reach st (depthOf op) l
def tmpsOf : List Operand → List Nat
  | [] => []
  | .tmp t :: r => t :: tmpsOf r
  | _ :: r => tmpsOf r
def ptoks (rd : Operand → Option PV) : List Operand → List Nat
  | [] => []
  | x :: r => (match rd x with | some v => v.t.toks | none => []) ++ ptoks rd r
/-- May two operations be done in either order? -/
def Log.apart (a b : Log) : Bool :=
  cond (disjN a.dst b.rds) (cond (disjN b.dst a.rds) (cond (disjN a.dst b.dst) (cond (disjN a.sets b.toks) (cond (disjN b.sets a.toks) (disjN a.sets b.sets) false) false) false) false) false
def logOk (bef : Nat) (l : Log) : List Log → Bool
  | [] => true
  | a :: r => cond (cond (bef.testBit a.i) true (a.apart l)) (logOk bef l r) false
def guardTmp (ops : List Oper) (o : Oper) : Option (Nat × Bool) :=
  match o.guard with
  | none => none
  | some (j, want) => match ops[j]? with | some q => (match q.dst with | some t => some (t, want) | none => none) | none => none
/-- A number that is one of few is told apart. -/
def hint (hs : List (Nat × Nat)) (dst : Option Nat) (s : St) (K : St → Option R) : Option R :=
  match dst with
  | none => K s
  | some t => match lk t hs with
    | none => K s
    | some n => match lk t s.env with
      | some ⟨.int k, x⟩ => split x (fun j => K { s with env := (t, ⟨.int k, (j : Int)⟩) :: s.env }) (K s) n 0
      | _ => K s
def evOps (all : List Oper) (draw : Bool) (bef : Array Nat) : List Oper → Nat → St → List Log → (St → Option R) → Option R
  | [], _, s, _, K => K s
  | o :: r, i, s, log, K =>
    let perform (g : List Nat) (s : St) : Option R :=
      let rs := tmpsOf o.op.operands.toList
      let ks := cond draw (seen s.st o.op (ptoks s.rd o.op.operands.toList)) []
      let st : Nat → Option Cell := cond draw (fun k => cond (elemN k ks) (s.st k) none) s.st
      evOp C o s.rd st s.nx fun d =>
        let l : Log := ⟨i, g ++ rs, o.dst.toList, ks, d.sets.map (·.1)⟩
        cond (cond draw (logOk (bef.getD i 0) l log) true)
          (hint C.hints o.dst (s.app o.dst d (s.nx + 64)) fun s => evOps all draw bef r (i + 1) s (l :: log) K) none
    let skip (g : List Nat) (s : St) : Option R :=
      let l : Log := ⟨i, g, o.dst.toList, [], []⟩
      cond (cond draw (logOk (bef.getD i 0) l log) true)
        (evOps all draw bef r (i + 1) (s.app o.dst ⟨undefPV, []⟩ (s.nx + 64)) (l :: log) K) none
    match o.guard with
    | none => perform [] s
    | some _ => match guardTmp all o with
      | none => none
      | some (t, want) => match lk t s.env with
        | some ⟨.bool, b⟩ =>
          let s' (b : Bool) : St := { s with env := (t, ⟨.bool, b⟩) :: s.env }
          cond b (cond want (perform [t] (s' true)) (skip [t] (s' true))) (cond want (skip [t] (s' false)) (perform [t] (s' false)))
        | some ⟨.unit, _⟩ => skip [t] s
        | _ => none

/-- Each operation waits for earlier ones only. -/
def edgesIn (i : Nat) : List Edge → Bool
  | [] => true
  | e :: r => cond (cond (Region.binds .any e) (Nat.blt e.on i) true) (edgesIn i r) false
def ordered : List Oper → Nat → Bool
  | [], _ => true
  | o :: r, i => cond (edgesIn i o.after.toList) (ordered r (i + 1)) false

/-! ### code -/
structure Kn (R : Type) where
  nrm : St → Option R
  ex : Nat → St → Option R
structure Jx (R : Type) where
  jump : List Nat → St → Option R
  ret : St → Option R
def elemP (p : List Nat) : List (List Nat) → Bool
  | [] => false
  | q :: r => cond (nsbeq q p) true (elemP p r)
def notLoop : Code → Bool
  | .loop _ => false
  | _ => true
/-- Is what follows told apart, as a round of its own? -/
def isCut (p : List Nat) (b : Code) : Bool := cond (elemP p C.cuts) (notLoop b) false
noncomputable def evCode (J : Jx R) : Code → List Nat → Kn R → St → Option R
  | .skip, _, κ, s => κ.nrm s
  | .seq a b, p, κ, s => evCode J a (0 :: p) ⟨fun s => cond (isCut C (1 :: p) b) (J.jump (1 :: p) s) (evCode J b (1 :: p) κ s), κ.ex⟩ s
  | .region _ ops draw, _, κ, s => cond (cond draw (ordered ops.toList 0) true) (evOps C ops.toList draw (cond draw (Region.before ops) #[]) ops.toList 0 s [] κ.nrm) none
  | .cond c a b, p, κ, s => match s.rd c with
    | some ⟨.bool, x⟩ => cond x (evCode J a (0 :: p) κ s) (evCode J b (1 :: p) κ s)
    | some ⟨.ubool, _⟩ => nd (evCode J a (0 :: p) κ s) (evCode J b (1 :: p) κ s)
    | _ => none
  | .block id c, p, κ, s => evCode J c (0 :: p) ⟨κ.nrm, fun i s => cond (Nat.beq i id) (κ.nrm s) (κ.ex i s)⟩ s
  | .exit id, _, κ, s => κ.ex id s
  | .loop _, p, _, s => J.jump p s
  | .ret, _, _, s => J.ret s
  | _, _, _, _ => none
/-- The loop (or the cut) at a place: its body, and what stands around it. -/
noncomputable def loopAt (J : Jx R) : Code → List Nat → Kn R → List Nat → Option (Bool × Code × Kn R)
  | .seq a b, p, κ, q => match loopAt J a (0 :: p) ⟨fun s => cond (isCut C (1 :: p) b) (J.jump (1 :: p) s) (evCode C J b (1 :: p) κ s), κ.ex⟩ q with
    | some x => some x
    | none => match loopAt J b (1 :: p) κ q with
      | some x => some x
      | none => cond (cond (isCut C (1 :: p) b) (nsbeq (1 :: p) q) false) (some (false, b, κ)) none
  | .cond _ a b, p, κ, q => match loopAt J a (0 :: p) κ q with
    | some x => some x
    | none => loopAt J b (1 :: p) κ q
  | .block id c, p, κ, q => loopAt J c (0 :: p) ⟨κ.nrm, fun i s => cond (Nat.beq i id) (κ.nrm s) (κ.ex i s)⟩ q
  | .loop c, p, κ, q => cond (nsbeq p q) (some (true, c, κ)) (loopAt J c (0 :: p) ⟨J.jump p, κ.ex⟩ q)
  | _, _, _, _ => none

/-! ### functions -/
def parLen : Ty → Nat
  | .unit => 0
  | .pair _ b => parLen b + 1
  | _ => 1
def number : Nat → List PV → List (Nat × PV)
  | _, [] => []
  | i, v :: r => (i, v) :: number (i + 1) r
noncomputable def cellsSt : (l : List (Nat × CTy)) → SD l → List (Nat × Option Cell)
  | [], _ => []
  | [(j, c)], x => [(j, some (c.cell x))]
  | (j, c) :: d :: r, x => (j, some (c.cell x.1)) :: cellsSt (d :: r) x.2
noncomputable def Ent.start (e : Ent) (x : e.par.D) (y : SD e.sto) : St := ⟨number 0 (unpairs e.par x), cellsSt e.sto y, 64⟩
/-- Tokens below n go under their own names. -/
noncomputable def keepLt (n : Nat) : List (Nat × Src) → Bool
  | [] => true
  | (j, s) :: r => cond (cond (Nat.blt j n) (match s with | .tok k => Nat.beq j k | _ => false) true) (keepLt n r) false
/-- The tokens that were handed in go out under their own names. -/
noncomputable def keepOf (l : List (Nat × CTy)) : List (Nat × Src) → Bool
  | [] => true
  | (j, s) :: r => cond (cond (hasKey j l) (match s with | .tok k => Nat.beq j k | _ => false) true) (keepOf l r) false
noncomputable def seedLt (n : Nat) : List (Nat × CTy) → List (Nat × Src)
  | [] => []
  | (j, _) :: r => cond (Nat.blt j n) ((j, .tok j) :: seedLt n r) (seedLt n r)
noncomputable def seedOf (l : List (Nat × CTy)) : List (Nat × CTy) → List (Nat × Src)
  | [] => []
  | (j, _) :: r => cond (hasKey j l) ((j, .tok j) :: seedOf l r) (seedOf l r)
noncomputable def nilN : List Nat → Bool
  | [] => true
  | _ => false
noncomputable def resV (s : St) : ResultVar → Option PV
  | .tmp t => lk t s.env
  | .cell a t => match lk a s.env, lk t C.tt with
    | some ⟨.ptr k p o, _⟩, some i => (match s.st k with | some (.box t x) => cond (nsbeq p []) (cond (Nat.beq o 0) (fitK i ⟨t, x⟩ some) none) none | _ => none)
    | _, _ => none
noncomputable def resVs (s : St) : List ResultVar → Option (List PV)
  | [] => some []
  | x :: r => match resV C s x with | some v => (match resVs s r with | some l => cond v.t.stor (some (v :: l)) none | none => none) | none => none
noncomputable def resPV : List PV → PV
  | [v] => v
  | l => ⟨.tup (pvs l).t, (pvs l).x⟩
noncomputable def retS (e : Ent) (rs : List ResultVar) (s : St) : Option (e.res.D × SD e.osto) :=
  match resVs C s rs with
  | some l => (match pack s.st e.res e.osto (resPV l) ⟨seedOf e.sto e.osto, [], []⟩ with
    | some (x, y, a) => cond (nilN a.b) (cond (keepOf e.sto a.m) (some (x, y)) none) none
    | none => none)
  | none => none
/-- What a loop hands on from round to round. -/
structure Lp where
  env : List (Nat × Ty)
  sto : List (Nat × CTy)
  nx : Nat
noncomputable def parOf : List (Nat × Ty) → Ty
  | [] => .unit
  | [(_, t)] => t
  | (_, t) :: d :: r => .pair t (parOf (d :: r))
noncomputable def withTmps : List (Nat × Ty) → List PV → List (Nat × PV)
  | (t, _) :: r, v :: q => (t, v) :: withTmps r q
  | _, _ => []
noncomputable def rdEnv (s : St) : List (Nat × Ty) → Option (List PV)
  | [] => some []
  | (t, _) :: r => match lk t s.env with | some v => (match rdEnv s r with | some l => cond v.t.stor (some (v :: l)) none | none => none) | none => none
noncomputable def jumpS (l : Lp) (s : St) : Option ((parOf l.env).D × SD l.sto) :=
  match rdEnv s l.env with
  | some vs => (match pack s.st (parOf l.env) l.sto (pvs vs) ⟨seedLt 64 l.sto, [], []⟩ with
    | some (x, y, a) => cond (nilN a.b) (cond (keepLt 64 a.m) (some (x, y)) none) none
    | none => none)
  | none => none
noncomputable def Lp.start (l : Lp) (x : (parOf l.env).D) (y : SD l.sto) : St := ⟨withTmps l.env (unpairs (parOf l.env) x), cellsSt l.sto y, l.nx⟩
noncomputable def envStor : List (Nat × Ty) → Bool
  | [] => true
  | (_, t) :: r => cond t.stor (envStor r) false
noncomputable def Lp.good (l : Lp) : Bool := cond (Nat.ble 64 l.nx) (cond (ltAll l.nx (parOf l.env).toks) (cond (envStor l.env) (goodN l.nx l.sto) false) false) false
structure LpE (R : Type) where
  path : List Nat
  L : Lp
  fn : Nat → (parOf L.env).D → SD L.sto → Option R
noncomputable def jumpTo (k : Nat) (p : List Nat) (s : St) : List (LpE R) → Option R
  | [] => none
  | l :: r => cond (nsbeq l.path p) (match jumpS l.L s with | some (x, y) => l.fn k x y | none => none) (jumpTo k p s r)
noncomputable def Ent.jx (e : Ent) (rs : List ResultVar) (lps : List (LpE (e.res.D × SD e.osto))) (k : Nat) : Jx (e.res.D × SD e.osto) := ⟨fun p s => jumpTo k p s lps, retS C e rs⟩
noncomputable def Ent.kn (e : Ent) (rs : List ResultVar) : Kn (e.res.D × SD e.osto) := ⟨retS C e rs, fun _ _ => none⟩
/-- What a function gives. -/
noncomputable def Ent.eval (e : Ent) (fn : Func) (c : Code) (lps : List (LpE (e.res.D × SD e.osto))) (N : Nat) (x : e.par.D) (y : SD e.sto) : Option (e.res.D × SD e.osto) :=
  evCode C (e.jx C fn.results.toList lps N) c [] (e.kn C fn.results.toList) (e.start x y)
/-- What a round gives. -/
noncomputable def Ent.round (e : Ent) (fn : Func) (c : Code) (lps : List (LpE (e.res.D × SD e.osto))) (l : LpE (e.res.D × SD e.osto)) (k : Nat) (x : (parOf l.L.env).D) (y : SD l.L.sto) : Option (e.res.D × SD e.osto) :=
  match loopAt C (e.jx C fn.results.toList lps k) c [] (e.kn C fn.results.toList) l.path with
  | some (false, b, κ) => evCode C (e.jx C fn.results.toList lps k) b l.path κ (l.L.start x y)
  | some (true, b, κ) => evCode C (e.jx C fn.results.toList lps k) b (0 :: l.path) ⟨(e.jx C fn.results.toList lps k).jump l.path, κ.ex⟩ (l.L.start x y)
  | none => none
end
end Go.Pv
