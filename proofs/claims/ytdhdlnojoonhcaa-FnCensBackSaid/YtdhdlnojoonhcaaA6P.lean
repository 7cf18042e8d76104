/- The plain law of FnCensBack, part 2: what the functions compute, over numbers and lists. -/
import Derived.Test.YtdhdlnojoonhcaaA6Pa
import Derived.Test.YtdhdlnojoonhcaaPvRow
namespace Go.Proofs.Ytdhdlnojoonhcaa.Pv
open Go Go.Pv Go.Proofs
set_option linter.unusedVariables false
set_option linter.unusedSimpArgs false
theorem Ok.inb {α : Type _} {i : Int} {n : Nat} {x y : Option α} {P : α → Prop} (h : 0 ≤ i) (h2 : i < (n : Int)) (h3 : Ok x P) : Ok (cond (cond (decide (0 ≤ i)) (decide (i < (n : Int))) false) x y) P := by
  rw [bnd h h2]; exact h3
theorem Ok.of {α : Type _} {x : Option α} {P Q : α → Prop} (h : Ok x P) (g : ∀ a, P a → Q a) : Ok x Q := by
  obtain ⟨a, e, h⟩ := h; exact ⟨a, e, g a h⟩
abbrev St := List Int × Int
/-- A reader that can go on k times. -/
def Rd (k : Nat) (s : St) : Prop := (∀ x ∈ s.1, 0 ≤ x ∧ x ≤ 255) ∧ s.1.length ≤ 2000 ∧ 0 ≤ s.2 ∧ s.2 + k ≤ 1000000000
theorem Rd.mono {k j : Nat} {s : St} (h : Rd k s) (hj : j ≤ k) : Rd j s := ⟨h.1, h.2.1, h.2.2.1, by have := h.2.2.2; omega⟩
theorem byte_at {l : List Int} (h : ∀ x ∈ l, 0 ≤ x ∧ x ≤ 255) (i : Nat) : 0 ≤ l.getD i 0 ∧ l.getD i 0 ≤ 255 := by
  rw [List.getD_eq_getElem?_getD]
  cases hi : l[i]? with
  | none => exact ⟨by decide, by decide⟩
  | some x => exact h x (List.mem_of_getElem? hi)
theorem xor_small {a c : Int} (ha : 0 ≤ a) (ha2 : a < 4398046511104) (hc : 0 ≤ c) (hc2 : c < 4398046511104) : 0 ≤ IntKind.i64.wrap (((BitVec.ofInt 64 a ^^^ BitVec.ofInt 64 c).toNat : Nat) : Int) := by
  have e : ∀ x : Int, 0 ≤ x → x < 4398046511104 → (BitVec.ofInt 64 x).toNat = x.toNat := fun x h1 h2 => by
    rw [BitVec.toNat_ofInt]; omega
  have h : (BitVec.ofInt 64 a ^^^ BitVec.ofInt 64 c).toNat < 2 ^ 42 := by
    rw [BitVec.toNat_xor, e a ha ha2, e c hc hc2]
    exact Nat.xor_lt_two_pow (by omega) (by omega)
  rw [w64 (by omega) (by omega)]
  omega
theorem pick_ok {N : Nat} {n : Int} {s : St} {k : Nat} (h : Rd (k + 1) s) : Ok (loop_example_hostel_spec_l20Rd_pick N n s) (fun r => 0 ≤ r.1 ∧ (r.1 < n ∨ r.1 = 0) ∧ Rd k r.2) := by
  obtain ⟨hb, hl, hp, hk⟩ := h
  have hrd : Rd k (s.1, s.2 + 1) := ⟨hb, hl, by show 0 ≤ s.2 + 1; omega, by show s.2 + 1 + (k : Int) ≤ 1000000000; omega⟩
  unfold loop_example_hostel_spec_l20Rd_pick
  rw [w64 (n := s.2 + 1) (by omega) (by omega)]
  rw [w64 (n := s.2 + 1 - 1) (by omega) (by omega), show s.2 + 1 - 1 = s.2 by omega]
  refine Ok.ite (fun c => Ok.val ⟨Int.le_refl 0, .inr rfl, hrd⟩) fun c => ?_
  refine Ok.beq (fun c2 => Ok.val ⟨Int.le_refl 0, .inr rfl, hrd⟩) fun c2 => ?_
  have hmod : ∀ x : Int, 0 ≤ x → 0 ≤ Int.tmod x n ∧ Int.tmod x n < n := fun x hx => by rw [tm hx]; exact ⟨Int.emod_nonneg _ (by omega), Int.emod_lt_of_pos _ (by omega)⟩
  refine Ok.ite (fun c3 => ?_) fun c3 => ?_
  · refine Ok.inb hp c3 (Ok.ite (fun e => by omega) fun e => Ok.val ?_)
    have hx := byte_at hb s.2.toNat
    rw [w64 (by omega) (by omega)]
    have := hmod _ hx.1
    exact ⟨this.1, Or.inl this.2, hrd⟩
  · have hlp : (0 : Int) < s.1.length := by omega
    have q1 : 0 ≤ Int.tmod s.2 s.1.length ∧ Int.tmod s.2 s.1.length < s.1.length := by rw [tm hp]; exact ⟨Int.emod_nonneg _ (by omega), Int.emod_lt_of_pos _ hlp⟩
    rw [w64 (n := s.2 * 7) (by omega) (by omega), w64 (n := s.2 * 7 + 3) (by omega) (by omega)]
    have q2 : 0 ≤ Int.tmod (s.2 * 7 + 3) s.1.length ∧ Int.tmod (s.2 * 7 + 3) s.1.length < s.1.length := by rw [tm (by omega)]; exact ⟨Int.emod_nonneg _ (by omega), Int.emod_lt_of_pos _ hlp⟩
    refine Ok.ite (fun e => by omega) fun _ => Ok.inb q1.1 q1.2 (Ok.ite (fun e => by omega) fun _ => Ok.inb q2.1 q2.2 (Ok.ite (fun e => by omega) fun _ => Ok.ite (fun e => by omega) fun _ => Ok.val ?_))
    have x1 := byte_at hb (Int.tmod s.2 s.1.length).toNat
    have x2 := byte_at hb (Int.tmod (s.2 * 7 + 3) s.1.length).toNat
    generalize s.1.getD (Int.tmod s.2 s.1.length).toNat 0 = a1 at x1 ⊢
    generalize s.1.getD (Int.tmod (s.2 * 7 + 3) s.1.length).toNat 0 = a2 at x2 ⊢
    have q3 : 0 ≤ Int.tdiv s.2 s.1.length ∧ Int.tdiv s.2 s.1.length ≤ 1000000000 := by
      rw [td hp]
      refine ⟨Int.ediv_nonneg hp (by omega), ?_⟩
      have := Int.ediv_le_self (s.1.length : Int) hp
      omega
    generalize Int.tdiv s.2 s.1.length = a3 at q3 ⊢
    have key : 0 ≤ IntKind.i64.wrap (IntKind.i64.wrap (IntKind.i64.wrap (IntKind.i64.wrap (IntKind.i64.wrap a1 * 131) + IntKind.i64.wrap (IntKind.i64.wrap a2 * 1117)) + IntKind.i64.wrap (s.2 * 29)) + IntKind.i64.wrap (IntKind.i64.wrap a3 * 53)) ∧ IntKind.i64.wrap (IntKind.i64.wrap (IntKind.i64.wrap (IntKind.i64.wrap (IntKind.i64.wrap a1 * 131) + IntKind.i64.wrap (IntKind.i64.wrap a2 * 1117)) + IntKind.i64.wrap (s.2 * 29)) + IntKind.i64.wrap (IntKind.i64.wrap a3 * 53)) < 1000000000000 := by
      have w1 := w64 (n := a1) (by omega) (by omega)
      have w2 := w64 (n := a2) (by omega) (by omega)
      have w3 := w64 (n := a3) (by omega) (by omega)
      have w4 := w64 (n := a1 * 131) (by omega) (by omega)
      have w5 := w64 (n := a2 * 1117) (by omega) (by omega)
      have w6 := w64 (n := s.2 * 29) (by omega) (by omega)
      have w7 := w64 (n := a3 * 53) (by omega) (by omega)
      have w8 := w64 (n := a1 * 131 + a2 * 1117) (by omega) (by omega)
      have w9 := w64 (n := a1 * 131 + a2 * 1117 + s.2 * 29) (by omega) (by omega)
      have w10 := w64 (n := a1 * 131 + a2 * 1117 + s.2 * 29 + a3 * 53) (by omega) (by omega)
      rw [w1, w2, w3, w4, w5, w6, w7, w8, w9, w10]
      omega
    first
      | rw [w64 (n := a3) (by omega) (by omega)] at key ⊢
      | skip
    revert key
    generalize IntKind.i64.wrap (IntKind.i64.wrap (IntKind.i64.wrap (IntKind.i64.wrap (IntKind.i64.wrap a1 * 131) + IntKind.i64.wrap (IntKind.i64.wrap a2 * 1117)) + IntKind.i64.wrap (s.2 * 29)) + IntKind.i64.wrap (a3 * 53)) = z
    intro key
    have q4 : 0 ≤ Int.tdiv z 64 ∧ Int.tdiv z 64 < 1000000000000 := by rw [td key.1]; omega
    have w11 := w64 (n := Int.tdiv z 64) (by omega) (by omega)
    rw [w11]
    have := hmod _ (xor_small key.1 (by omega) q4.1 (by omega))
    exact ⟨this.1, Or.inl this.2, hrd⟩
theorem num_ok {N : Nat} {l : List Int} (hl : l ≠ []) {s : St} {k : Nat} (h : Rd (k + 1) s) : Ok (loop_example_hostel_spec_l20Rd_num N l s) (fun r => r.1 ∈ l ∧ Rd k r.2) := by
  unfold loop_example_hostel_spec_l20Rd_num
  have hp : 0 < l.length := List.length_pos_iff.2 hl
  refine (pick_ok h).bind fun r hr => ?_
  have hlt : r.1 < l.length := by rcases hr.2.1 with g | g <;> omega
  refine Ok.inb hr.1 hlt (Ok.val ⟨?_, hr.2.2⟩)
  rw [getD_lt (by omega)]
  exact List.getElem_mem _
theorem open_ok {N : Nat} {l : List Int} (hl : ∀ x ∈ l, 0 ≤ x ∧ x ≤ 255) : Ok (spec_l20Open N l) (fun r => Rd 999999999 r.2) := by
  unfold spec_l20Open
  refine Ok.ite (fun c => ?_) fun c => Ok.val ⟨hl, (by show l.length ≤ 2000; omega), by show (0 : Int) ≤ 0; omega, by show (0 : Int) + 999999999 ≤ 1000000000; omega⟩
  rw [dt (show (2000 : Int) ≤ l.length by omega)]
  refine Ok.val ⟨fun x hx => hl x ?_, ?_, by show (0 : Int) ≤ 0; omega, by show (0 : Int) + 999999999 ≤ 1000000000; omega⟩
  · exact List.mem_of_mem_take (List.mem_of_mem_drop hx)
  · show ((l.take 2000).drop 0).length ≤ 2000
    rw [List.length_drop, List.length_take]; omega
/-- Short lists of small numbers. -/
def Sm (n : Nat) (l : List Int) : Prop := l.length ≤ n ∧ ∀ x ∈ l, -100000 ≤ x ∧ x ≤ 100000
theorem Sm.mono {n m : Nat} {l : List Int} (h : Sm n l) (hm : n ≤ m) : Sm m l := ⟨by have := h.1; omega, h.2⟩
theorem Sm.set {n : Nat} {l : List Int} (h : Sm n l) (i : Nat) {x : Int} (h1 : -100000 ≤ x) (h2 : x ≤ 100000) : Sm n (l.set i x) := by
  refine ⟨by rw [List.length_set]; exact h.1, fun y hy => ?_⟩
  rcases List.mem_or_eq_of_mem_set hy with g | g
  · exact h.2 y g
  · rw [g]; exact ⟨h1, h2⟩
theorem Sm.short {l : List Int} (h : Sm 100 l) : Short l := by have := h.1; unfold Short; omega
theorem Sm.ints {n : Nat} {l : List Int} (h : Sm n l) : Ints l := fun x hx => by have := h.2 x hx; exact ⟨by omega, by omega⟩
/-- A book that is small. -/
def Bd (b : Bk) : Prop := (-100 ≤ b.1 ∧ b.1 ≤ 100) ∧ Sm 100 b.2.1 ∧ (Sm 100 b.2.2.1.1 ∧ Sm 100 b.2.2.1.2.1 ∧ Sm 100 b.2.2.1.2.2.1 ∧ Sm 100 b.2.2.1.2.2.2) ∧ Sm 100 b.2.2.2.1 ∧ (∀ x ∈ b.2.2.2.1, 0 ≤ x ∧ x ≤ 10) ∧ Sm 100 b.2.2.2.2.1 ∧ Sm 100 b.2.2.2.2.2
theorem Bd.short {b : Bk} (h : Bd b) : Bshort b := by
  obtain ⟨h0, h1, ⟨g0, g1, g2, g3⟩, h2, _, h3, h4⟩ := h
  exact ⟨h1.short, fun k => by match k with | 0 => exact g0.short | 1 => exact g1.short | 2 => exact g2.short | _ + 3 => exact g3.short, h2.short, h3.short, h4.short⟩
theorem Bd.ints {b : Bk} (h : Bd b) : Bi b := by
  obtain ⟨h0, h1, ⟨g0, g1, g2, g3⟩, h2, _, h3, h4⟩ := h
  exact ⟨⟨by omega, by omega⟩, h1.ints, fun k => by match k with | 0 => exact g0.ints | 1 => exact g1.ints | 2 => exact g2.ints | _ + 3 => exact g3.ints, h2.ints, h3.ints, h4.ints⟩
theorem sm_of {l : List Int} {n : Nat} (hl : l.length ≤ n) (h : ∀ i, i < l.length → -100000 ≤ l.getD i 0 ∧ l.getD i 0 ≤ 100000) : Sm n l := by
  refine ⟨hl, fun x hx => ?_⟩
  obtain ⟨j, hj, e⟩ := mem_getD hx
  have := h j hj
  rwa [e] at this
/-- The rows of a valid book are at most 48 long. -/
theorem BookP.bd48 {b : Bk} (h : BookP b) : (1 ≤ b.1 ∧ b.1 ≤ 4) ∧ Sm 48 b.2.1 ∧ (Sm 48 b.2.2.1.1 ∧ Sm 48 b.2.2.1.2.1 ∧ Sm 48 b.2.2.1.2.2.1 ∧ Sm 48 b.2.2.1.2.2.2) ∧ Sm 48 b.2.2.2.1 ∧ (∀ x ∈ b.2.2.2.1, 0 ≤ x ∧ x ≤ 10) ∧ Sm 48 b.2.2.2.2.1 ∧ Sm 48 b.2.2.2.2.2 := by
  have hdim := h.dims
  have hsl := h.slots
  have e1 : np b = b.2.1.length := rfl
  have e2 : nu b = b.2.2.2.1.length := rfl
  have key : ∀ j, j < 4 → Sm 48 (hd b j) := fun j hj => ⟨by have := h.hd_len hj; omega, fun x hx => by have := h.mem hj hx; omega⟩
  have how : ∀ x ∈ b.2.2.2.1, 0 ≤ x ∧ x ≤ 10 := fun x hx => by
    obtain ⟨j, hj, e⟩ := mem_getD hx
    have := ownB_iff.1 (h.own (u := j) hj)
    rw [fold_ow] at e
    omega
  refine ⟨by omega, sm_of (by omega) fun i hi => ?_, ⟨key 0 (by omega), key 1 (by omega), key 2 (by omega), key 3 (by omega)⟩, ⟨by omega, fun x hx => by have := how x hx; omega⟩, how, sm_of (by omega) fun i hi => ?_, sm_of (by omega) fun i hi => ?_⟩
  · have := h.cases (p := i) hi
    rw [fold_pg]; omega
  · have := slotB_iff.1 (h.slot (i := i) (by omega))
    rw [fold_in]; omega
  · have := slotB_iff.1 (h.slot (i := i) (by omega))
    rw [fold_ep]; omega
theorem BookP.bd {b : Bk} (h : BookP b) : Bd b := by
  obtain ⟨h0, h1, ⟨g0, g1, g2, g3⟩, h2, ho, h3, h4⟩ := h.bd48
  exact ⟨by omega, h1.mono (by omega), ⟨g0.mono (by omega), g1.mono (by omega), g2.mono (by omega), g3.mono (by omega)⟩, h2.mono (by omega), ho, h3.mono (by omega), h4.mono (by omega)⟩
theorem l2Cfg_ok {N : Nat} {s : St} {k : Nat} (h : Rd (k + 3) s) : Ok (spec_l2Cfg N s) (fun r => (1 ≤ r.1.1 ∧ r.1.1 ≤ 3) ∧ (1 ≤ r.1.2.1 ∧ r.1.2.1 ≤ 3) ∧ (1 ≤ r.1.2.2 ∧ r.1.2.2 ≤ 3) ∧ Rd k r.2) := by
  unfold spec_l2Cfg
  refine (pick_ok h).bind fun u1 h1 => (pick_ok h1.2.2).bind fun u2 h2 => (pick_ok h2.2.2).bind fun u3 h3 => Ok.val ?_
  have e1 := w64 (n := 1 + u1.1) (by omega) (by omega)
  have e2 := w64 (n := 1 + u2.1) (by omega) (by omega)
  have e3 := w64 (n := 1 + u3.1) (by omega) (by omega)
  rw [e1, e2, e3]
  exact ⟨by dsimp only; omega, by dsimp only; omega, by dsimp only; omega, h3.2.2⟩
/-- A new book. -/
def openP (c : Cfg) : Bk := (c.1, List.replicate c.2.1.toNat 0, ([], [], [], []), List.replicate (c.2.1 * 8).toNat 0, List.replicate c.1.toNat 0, List.replicate c.1.toNat 0)
theorem rep_getD (n i : Nat) : (List.replicate n (0 : Int)).getD i 0 = 0 := by
  rw [List.getD_eq_getElem?_getD, List.getElem?_replicate]
  split <;> rfl
theorem open_valid {c : Cfg} (h : Plat c) : BookP (openP c) := by
  unfold Plat at h
  have hpg : ∀ p, pg (openP c) p = 0 := fun p => rep_getD _ _
  have how : ∀ p, ow (openP c) p = 0 := fun p => rep_getD _ _
  have hin : ∀ p, inn (openP c) p = 0 := fun p => rep_getD _ _
  have hep : ∀ p, ep (openP c) p = 0 := fun p => rep_getD _ _
  have e1 : np (openP c) = c.2.1.toNat := List.length_replicate ..
  have e2 : nu (openP c) = (c.2.1 * 8).toNat := List.length_replicate ..
  have e0 : (openP c).1 = c.1 := rfl
  refine BookP.mk' ?_ (fun i _ => slotB_iff.2 ?_) (fun u _ => ownB_iff.2 ?_) (fun k hk x hx => ?_) (fun p _ => .inl ⟨hpg p, fun u _ _ => how _⟩)
  · unfold Sizes
    have e3 : (openP c).2.2.2.2.1.length = c.1.toNat := List.length_replicate ..
    have e4 : (openP c).2.2.2.2.2.length = c.1.toNat := List.length_replicate ..
    rw [e1, e2, e3, e4, e0]
    omega
  · rw [hin, hep]; exact ⟨by omega, by omega, by omega, by omega, fun _ => rfl⟩
  · rw [how, e0]; exact ⟨by omega, by omega, fun g => by omega⟩
  · match k with
    | 0 => cases hx
    | 1 => cases hx
    | 2 => cases hx
    | _ + 3 => cases hx
theorem spec_BookOpen_eq (N : Nat) {c : Cfg} (h : Plat c) : spec_BookOpen N c = some (((openP c).1, (), ((), (), (), ()), (), (), ()), ((openP c).2.1, (openP c).2.2.2.1, (openP c).2.2.2.2.1, (openP c).2.2.2.2.2)) := by
  unfold spec_BookOpen
  rw [spec_PlatOk_eq, dt h]
  unfold Plat at h
  simp only [Option.bind_some, Bool.not_true, cond_false]
  rw [w64 (n := c.2.1 * 8) (by omega) (by omega)]
  repeat rw [ct (by omega)]
  rfl
def Opd (op : Op) : Prop := (-100 ≤ op.1 ∧ op.1 ≤ 100) ∧ (-100 ≤ op.2.1 ∧ op.2.1 ≤ 100) ∧ (-200 ≤ op.2.2.1 ∧ op.2.2.1 ≤ 200) ∧ (-100 ≤ op.2.2.2 ∧ op.2.2.2 ≤ 100)
theorem num3_ok {N : Nat} {s : St} {k : Nat} (h : Rd (k + 1) s) : Ok (loop_example_hostel_spec_l20Rd_num N ([0, 7, (-1)]) s) (fun r => (-1 ≤ r.1 ∧ r.1 ≤ 7) ∧ Rd k r.2) :=
  (num_ok (by simp) h).of fun r hr => ⟨by
    have := hr.1
    simp only [List.mem_cons, List.mem_nil_iff, or_false] at this
    omega, hr.2⟩
theorem l3Op_tail {N : Nat} {s : St} {k : Nat} (h : Rd (k + 2) s) {op : Op} (ho : Opd op) {x y z : Int} (hx : -100 ≤ x ∧ x ≤ 100) (hy : -200 ≤ y ∧ y ≤ 200) (hz : -100 ≤ z ∧ z ≤ 100) :
    Ok ((loop_example_hostel_spec_l20Rd_pick N 20 s).bind fun u => (bif (u.1 == 0) then (loop_example_hostel_spec_l20Rd_num N ([0, 7, (-1)]) u.2).bind fun v => some ((v.1, x, y, z), v.2) else some ((op.1, x, y, z), u.2))) (fun r => Opd r.1 ∧ Rd k r.2) := by
  refine (pick_ok h).bind fun u hu => Ok.beq (fun _ => (num3_ok hu.2.2).bind fun v hv => Ok.val ⟨⟨by dsimp only; omega, hx, hy, hz⟩, hv.2⟩) (fun _ => Ok.val ⟨⟨ho.1, hx, hy, hz⟩, hu.2.2.mono (by omega)⟩)
theorem l3Op_loop {N : Nat} {b : Bk} (hb : Bd b) {op : Op} (ho : Opd op) {j : Nat} (z : Op) {s : St} (h : Rd (j + 5) s) : ∀ d i k (l : List Int), i + d = b.2.2.2.1.length → d < k → l.length ≤ i → (∀ x ∈ l, 0 ≤ x ∧ x < b.2.2.2.1.length) →
    Ok (spec_l3Op.l0 N k i s b z op l) (fun r => Opd r.1 ∧ Rd j r.2)
  | 0, i, k, l, h1, h2, h3, h4 => by
    have hl := hb.2.2.2.1.1
    obtain ⟨k, rfl⟩ := fuel h2
    rw [spec_l3Op.l0]
    refine Ok.ite (fun c => by omega) fun _ => Ok.ite (fun c => ?_) fun _ => ?_
    · refine (pick_ok (k := j + 4) h).bind fun u18 g18 => Ok.ite (fun c2 => ?_) fun _ => ?_
      · refine (pick_ok (k := j + 3) g18.2.2).bind fun u19 g19 => ?_
        have hlt : u19.1 < l.length := by rcases g19.2.1 with g | g <;> omega
        refine Ok.inb g19.1 hlt ?_
        have hm : l.getD u19.1.toNat 0 ∈ l := by rw [getD_lt (by omega)]; exact List.getElem_mem _
        have hm2 := h4 _ hm
        refine Ok.inb hm2.1 hm2.2 ((pick_ok (k := j + 2) g19.2.2).bind fun u20 g20 => ?_)
        have hw : (b.2.2.2.1.getD (l.getD u19.1.toNat 0).toNat 0) ∈ b.2.2.2.1 := by
          rw [getD_lt (l := b.2.2.2.1) (by omega)]; exact List.getElem_mem _
        have hw2 := hb.2.2.2.2.1 _ hw
        have e1 := w64 (n := b.2.2.2.1.getD (l.getD u19.1.toNat 0).toNat 0 - 1) (by omega) (by omega)
        have e2 := w64 (n := u20.1 - 1) (by omega) (by omega)
        rw [e1, e2]
        exact l3Op_tail g20.2.2 ho (by omega) (by omega) (by omega)
      · refine (pick_ok (k := j + 3) g18.2.2).bind fun u20 g20 => ?_
        have e2 := w64 (n := u20.1 - 1) (by omega) (by omega)
        rw [e2]
        exact l3Op_tail (g20.2.2.mono (by omega)) ho ho.2.1 ho.2.2.1 (by omega)
    · refine (pick_ok (k := j + 4) h).bind fun u20 g20 => ?_
      have e2 := w64 (n := u20.1 - 1) (by omega) (by omega)
      rw [e2]
      exact l3Op_tail (g20.2.2.mono (by omega)) ho ho.2.1 ho.2.2.1 (by omega)
  | d + 1, i, k, l, h1, h2, h3, h4 => by
    have hl := hb.2.2.2.1.1
    obtain ⟨k, rfl⟩ := fuel h2
    have e1 : IntKind.i64.wrap ((i : Int) + 1) = ((i + 1 : Nat) : Int) := wi (by omega)
    rw [spec_l3Op.l0, e1]
    refine Ok.ite (fun _ => Ok.inb (by omega) (by omega) (Ok.ite (fun _ => Ok.ite (fun _ => ?_) fun c => ?_) fun _ => ?_)) fun c => by omega
    · refine l3Op_loop hb ho z h d (i + 1) k _ (by omega) (by omega) (by rw [List.length_append]; simp; omega) fun x hx => ?_
      rcases List.mem_append.1 hx with g | g
      · exact h4 x g
      · rw [List.mem_singleton.1 g]; omega
    · exact (c (by simp; omega)).elim
    · exact l3Op_loop hb ho z h d (i + 1) k l (by omega) (by omega) (by omega) h4
theorem l3Op_ok {N : Nat} (hN : Fuel N) {b : Bk} (hb : Bd b) {s : St} {j : Nat} (h : Rd (j + 10) s) : Ok (spec_l3Op N b s) (fun r => Opd r.1 ∧ Rd j r.2) := by
  have hl := hb.2.2.2.1.1
  unfold spec_l3Op
  refine (num_ok (k := j + 9) (by simp) h).bind fun u1 g1 => (pick_ok (k := j + 8) g1.2).bind fun u2 g2 => ?_
  have hk : 1 ≤ u1.1 ∧ u1.1 ≤ 6 := by
    have := g1.1
    simp only [List.mem_cons, List.mem_nil_iff, or_false] at this
    omega
  have hop : ∀ y, -200 ≤ y → y ≤ 200 → Opd (u1.1, u2.1, y, 0) := fun y h1 h2 => ⟨by dsimp only; omega, by dsimp only; omega, by dsimp only; omega, by dsimp only; omega⟩
  have hp2 : -100 ≤ u2.1 ∧ u2.1 ≤ 100 := by omega
  have body : Ok ((loop_example_hostel_spec_l20Rd_pick N (IntKind.i64.wrap ((b.2.2.2.1.length : Int) + 2)) u2.2).bind fun u6 => spec_l3Op.l0 N N 0 u6.2 b (0, 0, 0, 0) (u1.1, u2.1, IntKind.i64.wrap (u6.1 - 1), 0) ([] : List Int)) (fun r => Opd r.1 ∧ Rd j r.2) := by
    rw [w64 (n := (b.2.2.2.1.length : Int) + 2) (by omega) (by omega)]
    refine (pick_ok (k := j + 7) g2.2.2).bind fun u6 g6 => ?_
    have e := w64 (n := u6.1 - 1) (by omega) (by omega)
    rw [e]
    unfold Fuel at hN
    exact l3Op_loop hb (hop _ (by omega) (by omega)) _ (g6.2.2.mono (by omega)) b.2.2.2.1.length 0 N [] (by omega) (by omega) (by simp) (fun x hx => by cases hx)
  have reaps : Ok ((loop_example_hostel_spec_l20Rd_pick N 5 u2.2).bind fun u7 => (loop_example_hostel_spec_l20Rd_pick N 20 u7.2).bind fun u8 => (bif (u8.1 == 0) then (loop_example_hostel_spec_l20Rd_num N ([0, 7, (-1)]) u8.2).bind fun u9 => some ((u9.1, u2.1, IntKind.i64.wrap (u7.1 - 1), 0), u9.2) else some ((u1.1, u2.1, IntKind.i64.wrap (u7.1 - 1), 0), u8.2))) (fun r => Opd r.1 ∧ Rd j r.2) := by
    refine (pick_ok (k := j + 7) g2.2.2).bind fun u7 g7 => ?_
    have e := w64 (n := u7.1 - 1) (by omega) (by omega)
    rw [e]
    exact l3Op_tail (op := (u1.1, u2.1, 0, 0)) (g7.2.2.mono (by omega)) (hop 0 (by omega) (by omega)) hp2 (by omega) (by omega)
  have plain : Ok ((loop_example_hostel_spec_l20Rd_pick N 20 u2.2).bind fun u10 => (bif (u10.1 == 0) then (loop_example_hostel_spec_l20Rd_num N ([0, 7, (-1)]) u10.2).bind fun u11 => some ((u11.1, u2.1, 0, 0), u11.2) else some ((u1.1, u2.1, 0, 0), u10.2))) (fun r => Opd r.1 ∧ Rd j r.2) :=
    l3Op_tail (op := (u1.1, u2.1, 0, 0)) (g2.2.2.mono (by omega)) (hop 0 (by omega) (by omega)) hp2 (by omega) (by omega)
  refine Ok.beq (fun _ => ?_) fun _ => Ok.beq (fun _ => Ok.beq (fun _ => body) fun _ => Ok.beq (fun _ => reaps) fun _ => plain) fun _ => Ok.beq (fun _ => body) fun _ => Ok.beq (fun _ => reaps) fun _ => plain
  refine (num_ok (k := j + 7) (by simp) g2.2.2).bind fun u3 g3 => ?_
  have h3 : 0 ≤ u3.1 ∧ u3.1 ≤ 33 := by
    have := g3.1
    simp only [List.mem_cons, List.mem_nil_iff, or_false] at this
    omega
  exact l3Op_tail (op := (u1.1, u2.1, 0, 0)) (g3.2.mono (by omega)) (hop 0 (by omega) (by omega)) hp2 (by omega) (by omega)
abbrev L8S := List Int × List Int × List Int × List Int × List Int × List Int × List Int × List Int × St
/-- The book in a result with a reader. -/
abbrev bkS (r : BkU × L8S) : Bk := (r.1.1, r.2.1, (r.2.2.1, r.2.2.2.1, r.2.2.2.2.1, r.2.2.2.2.2.1), r.2.2.2.2.2.2.1, r.2.2.2.2.2.2.2.1, r.2.2.2.2.2.2.2.2.1)
abbrev stS (r : BkU × L8S) : St := r.2.2.2.2.2.2.2.2.2
theorem bookCut_ok {b : Bk} (h : BookP b) (s : Int) : BookP (bookCut b s) := by
  unfold bookCut; rw [if_pos h]; exact cut_ok h s
theorem cfg_plat {c : Cfg} (h : (1 ≤ c.1 ∧ c.1 ≤ 3) ∧ (1 ≤ c.2.1 ∧ c.2.1 ≤ 3) ∧ (1 ≤ c.2.2 ∧ c.2.2 ≤ 3)) : Plat c := by
  unfold Plat; omega
theorem numin_ok {N : Nat} {l : List Int} {a c : Int} (hl : l ≠ []) (hb : ∀ x ∈ l, a ≤ x ∧ x ≤ c) {s : St} {k : Nat} (h : Rd (k + 1) s) : Ok (loop_example_hostel_spec_l20Rd_num N l s) (fun r => (a ≤ r.1 ∧ r.1 ≤ c) ∧ Rd k r.2) :=
  (num_ok hl h).of fun r hr => ⟨hb _ hr.1, hr.2⟩
/-- A list's numbers lie between two. -/
theorem allin {l : List Int} {a c : Int} (h : l.all (fun x => decide (a ≤ x ∧ x ≤ c)) = true) : ∀ x ∈ l, a ≤ x ∧ x ≤ c := fun x hx => of_decide_eq_true (List.all_eq_true.1 h x hx)
theorem equalI_eq (N : Nat) (hN : Fuel N) (a b : List Int) (ha : Short a) : slices_Equal_int_int N a b = some (decide (a = b), ()) := by
  unfold Short at ha
  unfold slices_Equal_int_int
  by_cases hl : a.length = b.length
  rotate_left
  · rw [bne_iff_ne.2 (by omega), cond_true, df (by intro e; rw [e] at hl; exact hl rfl)]
  have := loop_idx a.length (fun k i (_ : Unit) => slices_Equal_int_int.l0 N k a b a.length i) (fun i _ => some (decide (a.drop i = b.drop i), ())) (fun i m => True)
    (fun k m _ => by
      have e : decide (a.drop a.length = b.drop a.length) = true := by rw [hl, List.drop_length, ← hl, List.drop_length]; rfl
      simp (disch := omega) only [slices_Equal_int_int.l0, cf, e])
    (fun k i m hi _ ih => by
      rw [eq_step (d := 0) hl hi]
      simp (disch := omega) only [slices_Equal_int_int.l0, ct, bnd, w64, Int.toNat_natCast, ih () trivial]
      by_cases e : a.getD i 0 = b.getD i 0
      · rw [e, bne_self_eq_false, cond_false, beq_self_eq_true, Bool.true_and]
      · rw [bne_iff_ne.2 e, cond_true, beq_eq_false_iff_ne.2 e, Bool.false_and])
    a.length N 0 () (by omega) (by omega) trivial
  have e : ((a.length : Int) != (b.length : Int)) = false := by rw [hl, bne_self_eq_false]
  rw [e, cond_false]
  exact this
theorem same_step {p q : Prop} [Decidable p] [Decidable q] {x : Option (Bool × Unit)} (h : p → x = some (decide q, ())) : (some (decide p, ())).bind (fun u => cond (!u.1) (some (false, ())) x) = some (decide (p ∧ q), ()) := by
  simp only [Option.bind_some]
  by_cases c : p
  · rw [dt c, Bool.not_true, cond_false, h c]
    congr 2
    exact decide_eq_decide.2 ⟨fun g => ⟨c, g⟩, fun g => g.2⟩
  · rw [df c, Bool.not_false, cond_true, df (fun g => c g.1)]
theorem same_last {p q : Prop} [Decidable p] [Decidable q] {x : Option (Bool × Unit)} (h : p → x = some (decide q, ())) : (some (decide p, ())).bind (fun u => cond u.1 x (some (false, ()))) = some (decide (p ∧ q), ()) := by
  simp only [Option.bind_some]
  by_cases c : p
  · rw [dt c, cond_true, h c]
    congr 2
    exact decide_eq_decide.2 ⟨fun g => ⟨c, g⟩, fun g => g.2⟩
  · rw [df c, cond_false, df (fun g => c g.1)]
theorem impl_BookSame_eq (N : Nat) (hN : Fuel N) (a b : Bk) (ha : Bshort a) : impl_BookSame N a b = some (tf (a = b), ()) := by
  obtain ⟨g0, g1, g2, g3, g4⟩ := ha
  have w : ∀ x : Int, 0 ≤ x → x ≤ 4 → IntKind.i64.wrap (x + 1) = x + 1 := fun x h1 h2 => w64 (by omega) (by omega)
  have r0 := equalI_eq N hN a.2.2.1.1 b.2.2.1.1 (g1 0)
  have r1 := equalI_eq N hN a.2.2.1.2.1 b.2.2.1.2.1 (g1 1)
  have r2 := equalI_eq N hN a.2.2.1.2.2.1 b.2.2.1.2.2.1 (g1 2)
  have r3 := equalI_eq N hN a.2.2.1.2.2.2 b.2.2.1.2.2.2 (g1 3)
  have q0 := equalI_eq N hN a.2.1 b.2.1 g0
  have q1 := equalI_eq N hN a.2.2.2.1 b.2.2.2.1 g2
  have q2 := equalI_eq N hN a.2.2.2.2.1 b.2.2.2.2.1 g3
  have q3 := equalI_eq N hN a.2.2.2.2.2 b.2.2.2.2.2 g4
  obtain ⟨k, hk⟩ : ∃ k, N = k + 1 + 1 + 1 + 1 + 1 := ⟨N - 5, by unfold Fuel at hN; omega⟩
  have fin : ∀ k, impl_BookSame.l0 N (k + 1) (0 + 1 + 1 + 1 + 1) a b = some (decide (a.1 = b.1 ∧ a.2.1 = b.2.1 ∧ a.2.2.2.1 = b.2.2.2.1 ∧ a.2.2.2.2.1 = b.2.2.2.2.1 ∧ a.2.2.2.2.2 = b.2.2.2.2.2), ()) := by
    intro k
    rw [impl_BookSame.l0, cf (by omega), q0, q1, q2, q3]
    by_cases c : a.1 = b.1
    · rw [beq_iff_eq.2 c, cond_true]
      refine (same_last (q := a.2.2.2.1 = b.2.2.2.1 ∧ a.2.2.2.2.1 = b.2.2.2.2.1 ∧ a.2.2.2.2.2 = b.2.2.2.2.2) (fun _ => same_last (q := a.2.2.2.2.1 = b.2.2.2.2.1 ∧ a.2.2.2.2.2 = b.2.2.2.2.2) (fun _ => same_last (q := a.2.2.2.2.2 = b.2.2.2.2.2) (fun _ => rfl)))).trans ?_
      congr 2
      exact decide_eq_decide.2 ⟨fun g => ⟨c, g⟩, fun g => g.2⟩
    · rw [beq_eq_false_iff_ne.2 c, cond_false, df (fun g => c g.1)]
  have all : impl_BookSame N a b = some (decide (a.2.2.1.1 = b.2.2.1.1 ∧ a.2.2.1.2.1 = b.2.2.1.2.1 ∧ a.2.2.1.2.2.1 = b.2.2.1.2.2.1 ∧ a.2.2.1.2.2.2 = b.2.2.1.2.2.2 ∧ a.1 = b.1 ∧ a.2.1 = b.2.1 ∧ a.2.2.2.1 = b.2.2.2.1 ∧ a.2.2.2.2.1 = b.2.2.2.2.1 ∧ a.2.2.2.2.2 = b.2.2.2.2.2), ()) := by
    unfold impl_BookSame
    have hl : ∀ x, impl_BookSame.l0 N N x a b = impl_BookSame.l0 N (k + 1 + 1 + 1 + 1 + 1) x a b := fun x => by rw [← hk]
    rw [hl]
    clear hk hl
    rw [impl_BookSame.l0]
    simp (disch := omega) only [ct, cf, w, r0, decide_true, cond_true]
    refine same_step fun _ => ?_
    rw [impl_BookSame.l0]
    simp (disch := omega) only [ct, cf, w, r1, decide_true, cond_true]
    refine same_step fun _ => ?_
    rw [impl_BookSame.l0]
    simp (disch := omega) only [ct, cf, w, r2, decide_true, cond_true]
    refine same_step fun _ => ?_
    rw [impl_BookSame.l0]
    simp (disch := omega) only [ct, cf, w, r3, decide_true, cond_true]
    exact same_step fun _ => fin k
  rw [all]
  congr 2
  refine tf_eq ?_
  rw [decide_eq_true_iff]
  refine ⟨fun ⟨h1, h2, h3, h4, h5, h6, h7, h8, h9⟩ => ?_, fun e => by rw [e]; exact ⟨rfl, rfl, rfl, rfl, rfl, rfl, rfl, rfl, rfl⟩⟩
  exact Prod.ext h5 (Prod.ext h6 (Prod.ext (Prod.ext h1 (Prod.ext h2 (Prod.ext h3 h4))) (Prod.ext h7 (Prod.ext h8 h9))))
theorem wf_bytes {l : List Int} (h : Wf (.sl .frz (.int .u8)) l) : ∀ x ∈ l, 0 ≤ x ∧ x ≤ 255 := fun x hx => by have := wf_u8 (h.2 x hx); omega
theorem list_ext {l m : List Int} (hl : l.length = m.length) (h : ∀ i, l.getD i 0 = m.getD i 0) : l = m := by
  apply List.ext_getElem hl
  intro i h1 h2
  have := h i
  rwa [getD_lt h1, getD_lt h2] at this
abbrev outT (r : Bk × Bool) : Option ((BkU × Bool) × L8) :=
  some (((r.1.1, (), ((), (), (), ()), (), (), ()), r.2), (r.1.2.1, r.1.2.2.1.1, r.1.2.2.1.2.1, r.1.2.2.1.2.2.1, r.1.2.2.1.2.2.2, r.1.2.2.2.1, r.1.2.2.2.2.1, r.1.2.2.2.2.2))
def hA (c : Cfg) : Nat := (3 + 2 * c.1).toNat
def pA (c : Cfg) : Nat := (7 + 2 * c.1).toNat
def tA (c : Cfg) : Nat := (7 + 2 * c.1 + c.2.1).toNat
def kA (c : Cfg) : Nat := (7 + 2 * c.1 + 9 * c.2.1).toNat
def dA (c : Cfg) : Nat := (house c).toNat
theorem plat_at {c : Cfg} (h : Plat c) : (hA c : Int) = 3 + 2 * c.1 ∧ (pA c : Int) = 7 + 2 * c.1 ∧ (tA c : Int) = 7 + 2 * c.1 + c.2.1 ∧ (kA c : Int) = 7 + 2 * c.1 + 9 * c.2.1 ∧ (dA c : Int) = 7 + 2 * c.1 + 17 * c.2.1 ∧ 1 ≤ c.1 ∧ c.1 ≤ 4 ∧ 1 ≤ c.2.1 ∧ c.2.1 ≤ 6 := by
  unfold Plat at h
  unfold hA pA tA kA dA house
  omega
/-- A list is written as a chain: each place names the next unit. -/
def chainP (k0 : Nat) : List Int → Nat → List Int → List Int
  | M, p, [] => M
  | M, p, u :: r => chainP k0 (M.set p (u + 1)) (k0 + u.toNat) r
theorem chainP_len (k0 : Nat) : ∀ (l M : List Int) (p : Nat), (chainP k0 M p l).length = M.length
  | [], M, p => rfl
  | u :: r, M, p => by rw [chainP, chainP_len k0 r, List.length_set]
/-- The first of a list, as a place names it. -/
def headOr (l : List Int) (d : Int) : Int := match l with
  | [] => d
  | x :: _ => x + 1
/-- What follows a unit in a list, as a place names it. -/
def nextOr : List Int → Int → Int → Int
  | [], _, d => d
  | x :: r, u, d => if x = u then headOr r d else nextOr r u d
theorem nextOr_not : ∀ (l : List Int) (u d : Int), u ∉ l → nextOr l u d = d
  | [], u, d, _ => rfl
  | x :: r, u, d, h => by
    rw [nextOr, if_neg (fun e => h (by rw [e]; exact List.mem_cons_self)), nextOr_not r u d (fun g => h (List.mem_cons_of_mem _ g))]
theorem chainP_getD (k0 : Nat) : ∀ (l M : List Int) (p : Nat), l.Nodup → (∀ x ∈ l, 0 ≤ x ∧ k0 + x.toNat < M.length) → p < M.length → (∀ x ∈ l, k0 + x.toNat ≠ p) → ∀ j,
    (chainP k0 M p l).getD j 0 = if j = p then headOr l (M.getD j 0) else if k0 ≤ j then nextOr l ((j - k0 : Nat) : Int) (M.getD j 0) else M.getD j 0
  | [], M, p, _, _, _, _, j => by
    rw [chainP]
    unfold headOr nextOr
    split
    · rfl
    split <;> rfl
  | x :: r, M, p, hn, hx, hp, hne, j => by
    have hn' := List.nodup_cons.1 hn
    have hx0 := hx x List.mem_cons_self
    have hp0 := hne x List.mem_cons_self
    have ih := chainP_getD k0 r (M.set p (x + 1)) (k0 + x.toNat) hn'.2 (fun y hy => by rw [List.length_set]; exact hx y (List.mem_cons_of_mem _ hy)) (by rw [List.length_set]; exact hx0.2) (fun y hy e => by
      have := hx y (List.mem_cons_of_mem _ hy)
      have : y = x := by omega
      rw [this] at hy; exact hn'.1 hy) j
    have hM : (M.set p (x + 1)).getD j 0 = if j = p then x + 1 else M.getD j 0 := getD_set _ _ _ _ hp
    rw [chainP, ih, hM]
    by_cases c1 : j = p
    · subst c1
      rw [if_neg (show ¬ j = k0 + x.toNat from fun e => hp0 e.symm), if_pos rfl, if_pos rfl]
      have hh : headOr (x :: r) (M.getD j 0) = x + 1 := rfl
      rw [hh]
      split
      · rw [nextOr_not]
        intro g
        exact hne _ (List.mem_cons_of_mem _ g) (by omega)
      · rfl
    · rw [if_neg c1, if_neg c1]
      by_cases c2 : j = k0 + x.toNat
      · rw [if_pos c2, if_pos (by omega), nextOr, if_pos (by omega)]
      · rw [if_neg c2]
        split
        · rw [nextOr, if_neg (by omega)]
        · rfl
/-- The values but for the lists. -/
def baseV (c : Cfg) (b : Bk) (j : Nat) : Int :=
  if 3 ≤ j ∧ j < 3 + c.1.toNat then inn b (j - 3) + 4 * ep b (j - 3) else if pA c ≤ j ∧ j < tA c then pg b (j - pA c) else if tA c ≤ j ∧ j < kA c then ow b (j - tA c) else 0
def baseP (c : Cfg) (b : Bk) : List Int := (List.range (dA c)).map (baseV c b)
theorem map_range_getD (f : Nat → Int) (n j : Nat) (h : j < n) : ((List.range n).map f).getD j 0 = f j := by
  rw [getD_lt (by simp; exact h)]; simp
theorem baseP_len (c : Cfg) (b : Bk) : (baseP c b).length = dA c := by unfold baseP; simp
theorem baseP_getD (c : Cfg) (b : Bk) (j : Nat) (h : j < dA c) : (baseP c b).getD j 0 = baseV c b j := map_range_getD _ _ _ h
/-- The words' values of a book. -/
def layP (c : Cfg) (b : Bk) : List Int :=
  chainP (kA c) (chainP (kA c) (chainP (kA c) (chainP (kA c) (baseP c b) (hA c) (hd b 0)) (hA c + 1) (hd b 1)) (hA c + 2) (hd b 2)) (hA c + 3) (hd b 3)
theorem layP_len (c : Cfg) (b : Bk) : (layP c b).length = dA c := by
  unfold layP
  rw [chainP_len, chainP_len, chainP_len, chainP_len, baseP_len]
/-- A book that is one of a house. -/
def Fit (c : Cfg) (b : Bk) : Prop := Plat c ∧ BookP b ∧ b.1 = c.1 ∧ (np b : Int) = c.2.1
theorem nodup_of {l : List Int} (h : ∀ x ∈ l, l.count x ≤ 1) : l.Nodup := List.nodup_iff_count.2 fun x => by
  by_cases c : x ∈ l
  · exact h x c
  · rw [List.count_eq_zero.2 c]; omega
theorem BookP.nodup {b : Bk} (h : BookP b) {k : Nat} (hk : k < 4) : (hd b k).Nodup := nodup_of fun x hx => by
  have hm := h.mem hk hx
  have := page_count h.sizes (fun k hk x hx => h.list hk hx) (fun p hp => h.pageW hp) hk (u := x.toNat) (by omega)
  rwa [Int.toNat_of_nonneg hm.1] at this
theorem BookP.kinds {b : Bk} (h : BookP b) {k j : Nat} (hk : k < 4) (hj : j < 4) (hne : k ≠ j) {x : Int} (hx : x ∈ hd b k) : x ∉ hd b j := fun g => by
  have h1 := h.mem hk hx
  have h2 := h.mem hj g
  omega
/-- What follows a unit in the list that has it. -/
def nextV (b : Bk) (u : Int) : Int := nextOr (hd b 3) u (nextOr (hd b 2) u (nextOr (hd b 1) u (nextOr (hd b 0) u 0)))
def layV (c : Cfg) (b : Bk) (j : Nat) : Int :=
  if hA c ≤ j ∧ j < pA c then headOr (hd b (j - hA c)) 0 else if kA c ≤ j then nextV b ((j - kA c : Nat) : Int) else baseV c b j
theorem layP_getD {c : Cfg} {b : Bk} (h : Fit c b) (j : Nat) (hj : j < dA c) : (layP c b).getD j 0 = layV c b j := by
  obtain ⟨hc, hb, h1, h2⟩ := h
  obtain ⟨a1, a2, a3, a4, a5, a6, a7, a8, a9⟩ := plat_at hc
  have hdim := hb.dims
  have hm : ∀ k, k < 4 → ∀ x ∈ hd b k, 0 ≤ x ∧ kA c + x.toNat < dA c := fun k hk x hx => by have := hb.mem hk hx; omega
  have hp : ∀ k i, k < 4 → i < 4 → ∀ x ∈ hd b k, kA c + x.toNat ≠ hA c + i := fun k i hk hi x hx => by omega
  have e0 := chainP_getD (kA c) (hd b 0) (baseP c b) (hA c) (hb.nodup (by omega)) (by rw [baseP_len]; exact hm 0 (by omega)) (by rw [baseP_len]; omega) (hp 0 0 (by omega) (by omega)) j
  have e1 := chainP_getD (kA c) (hd b 1) (chainP (kA c) (baseP c b) (hA c) (hd b 0)) (hA c + 1) (hb.nodup (by omega)) (by rw [chainP_len, baseP_len]; exact hm 1 (by omega)) (by rw [chainP_len, baseP_len]; omega) (hp 1 1 (by omega) (by omega)) j
  have e2 := chainP_getD (kA c) (hd b 2) (chainP (kA c) (chainP (kA c) (baseP c b) (hA c) (hd b 0)) (hA c + 1) (hd b 1)) (hA c + 2) (hb.nodup (by omega)) (by rw [chainP_len, chainP_len, baseP_len]; exact hm 2 (by omega)) (by rw [chainP_len, chainP_len, baseP_len]; omega) (hp 2 2 (by omega) (by omega)) j
  have e3 := chainP_getD (kA c) (hd b 3) (chainP (kA c) (chainP (kA c) (chainP (kA c) (baseP c b) (hA c) (hd b 0)) (hA c + 1) (hd b 1)) (hA c + 2) (hd b 2)) (hA c + 3) (hb.nodup (by omega)) (by rw [chainP_len, chainP_len, chainP_len, baseP_len]; exact hm 3 (by omega)) (by rw [chainP_len, chainP_len, chainP_len, baseP_len]; omega) (hp 3 3 (by omega) (by omega)) j
  unfold layP
  rw [e3, e2, e1, e0, baseP_getD c b j hj]
  have hz : hA c ≤ j → (j < pA c ∨ kA c ≤ j) → baseV c b j = 0 := fun g1 g2 => by unfold baseV; rw [if_neg (by omega), if_neg (by omega), if_neg (by omega)]
  unfold layV
  by_cases g : hA c ≤ j ∧ j < pA c
  · rw [if_pos g, hz g.1 (.inl g.2)]
    obtain ⟨i, rfl⟩ : ∃ i, j = hA c + i := ⟨j - hA c, by omega⟩
    rw [show hA c + i - hA c = i by omega]
    have hi : i = 0 ∨ i = 1 ∨ i = 2 ∨ i = 3 := by omega
    rcases hi with rfl | rfl | rfl | rfl
    · rw [if_neg (by omega), if_neg (by omega), if_neg (by omega), if_neg (by omega), if_neg (by omega), if_neg (by omega), if_pos (by omega)]
    · rw [if_neg (by omega), if_neg (by omega), if_neg (by omega), if_neg (by omega), if_pos (by omega), if_neg (by omega), if_neg (by omega)]
    · rw [if_neg (by omega), if_neg (by omega), if_pos (by omega), if_neg (by omega), if_neg (by omega), if_neg (by omega), if_neg (by omega)]
    · rw [if_pos (by omega), if_neg (by omega), if_neg (by omega), if_neg (by omega), if_neg (by omega), if_neg (by omega), if_neg (by omega)]
  · have n0 : ¬ j = hA c := fun e => g ⟨by omega, by omega⟩
    have n1 : ¬ j = hA c + 1 := fun e => g ⟨by omega, by omega⟩
    have n2 : ¬ j = hA c + 2 := fun e => g ⟨by omega, by omega⟩
    have n3 : ¬ j = hA c + 3 := fun e => g ⟨by omega, by omega⟩
    rw [if_neg g, if_neg n3, if_neg n2, if_neg n1, if_neg n0]
    by_cases g2 : kA c ≤ j
    · simp only [if_pos g2]
      rw [hz (by omega) (.inr g2)]; rfl
    · simp only [if_neg g2]
/-- What follows a unit of a list. -/
theorem nextV_mem {b : Bk} (h : BookP b) {k : Nat} (hk : k < 4) {u : Int} (hu : u ∈ hd b k) : nextV b u = nextOr (hd b k) u 0 := by
  have hno : ∀ j, j < 4 → j ≠ k → u ∉ hd b j := fun j hj hne => h.kinds hk hj (fun e => hne e.symm) hu
  unfold nextV
  have hi : k = 0 ∨ k = 1 ∨ k = 2 ∨ k = 3 := by omega
  rcases hi with rfl | rfl | rfl | rfl
  · rw [nextOr_not _ _ _ (hno 3 (by omega) (by omega)), nextOr_not _ _ _ (hno 2 (by omega) (by omega)), nextOr_not _ _ _ (hno 1 (by omega) (by omega))]
  · rw [nextOr_not _ _ _ (hno 3 (by omega) (by omega)), nextOr_not _ _ _ (hno 2 (by omega) (by omega)), nextOr_not (hd b 0) _ _ (hno 0 (by omega) (by omega))]
  · rw [nextOr_not _ _ _ (hno 3 (by omega) (by omega)), nextOr_not (hd b 1) _ _ (hno 1 (by omega) (by omega)), nextOr_not (hd b 0) _ _ (hno 0 (by omega) (by omega))]
  · rw [nextOr_not (hd b 2) _ _ (hno 2 (by omega) (by omega)), nextOr_not (hd b 1) _ _ (hno 1 (by omega) (by omega)), nextOr_not (hd b 0) _ _ (hno 0 (by omega) (by omega))]
/-- A chain, as far as it goes. -/
def chainR (v : Nat → Int) (k0 : Nat) (U : Int) : Nat → Int → List Int
  | 0, _ => []
  | n + 1, a => if 0 < a ∧ a ≤ U then (a - 1) :: chainR v k0 U n (v (k0 + (a - 1).toNat)) else []
/-- Does a chain end, within so many places? -/
def chainB (v : Nat → Int) (k0 : Nat) (U : Int) : Nat → Int → Bool
  | n, a => if a = 0 then true else if a > U then false else match n with
    | 0 => false
    | m + 1 => chainB v k0 U m (v (k0 + (a - 1).toNat))
/-- A list that is written is read. -/
theorem chain_read (v : Nat → Int) (k0 : Nat) (U : Int) : ∀ (l : List Int) (n : Nat), l.length ≤ n → (∀ x ∈ l, 0 ≤ x ∧ x < U) → l.Nodup → (∀ x ∈ l, v (k0 + x.toNat) = nextOr l x 0) → chainR v k0 U n (headOr l 0) = l ∧ chainB v k0 U n (headOr l 0) = true
  | [], n, _, _, _, _ => by
    have e0 : headOr [] 0 = 0 := rfl
    rw [e0]
    refine ⟨?_, ?_⟩
    · cases n with
      | zero => rfl
      | succ n => rw [chainR, if_neg (by omega)]
    · unfold chainB; rw [if_pos rfl]
  | x :: r, n, hn, hx, hd, hv => by
    obtain ⟨m, rfl⟩ : ∃ m, n = m + 1 := ⟨n - 1, by simp at hn; omega⟩
    have hx0 := hx x List.mem_cons_self
    have hd' := List.nodup_cons.1 hd
    have hv0 := hv x List.mem_cons_self
    rw [nextOr, if_pos rfl] at hv0
    obtain ⟨i1, i2⟩ := chain_read v k0 U r m (by simp at hn; omega) (fun y hy => hx y (List.mem_cons_of_mem _ hy)) hd'.2 (fun y hy => by
      have := hv y (List.mem_cons_of_mem _ hy)
      rwa [nextOr, if_neg (fun e => hd'.1 (by rw [e]; exact hy))] at this)
    have hh : headOr (x :: r) 0 = x + 1 := rfl
    rw [hh]
    refine ⟨?_, ?_⟩
    · rw [chainR, if_pos (by omega), show x + 1 - 1 = x by omega, hv0, i1]
    · rw [chainB, if_neg (by omega), if_neg (by omega)]
      show chainB v k0 U m (v (k0 + (x + 1 - 1).toNat)) = true
      rw [show x + 1 - 1 = x by omega, hv0, i2]
/-- The book of some values, whether it is one or not. -/
def readB (c : Cfg) (v : Nat → Int) : Bk :=
  (c.1, (List.range c.2.1.toNat).map (fun i => v (pA c + i)),
    (chainR v (kA c) (8 * c.2.1) ((8 * c.2.1).toNat + 1) (v (hA c)), chainR v (kA c) (8 * c.2.1) ((8 * c.2.1).toNat + 1) (v (hA c + 1)),
      chainR v (kA c) (8 * c.2.1) ((8 * c.2.1).toNat + 1) (v (hA c + 2)), chainR v (kA c) (8 * c.2.1) ((8 * c.2.1).toNat + 1) (v (hA c + 3))),
    (List.range (8 * c.2.1).toNat).map (fun i => v (tA c + i)), (List.range c.1.toNat).map (fun i => v (3 + i) % 4), (List.range c.1.toNat).map (fun i => v (3 + i) / 4))
/-- The values that are a book's are as it lies. -/
def Agree (c : Cfg) (v : Nat → Int) (b : Bk) : Prop := ∀ j, j < dA c → (3 ≤ j ∧ j < 3 + c.1.toNat ∨ hA c ≤ j) → layV c b j = v j
noncomputable def censP (c : Cfg) (v : Nat → Int) : Bk × Bool := @ite _ (BookP (readB c v) ∧ Agree c v (readB c v)) (Classical.propDecidable _) (readB c v, true) (bk0, false)
theorem readB_fit {c : Cfg} (hc : Plat c) {v : Nat → Int} (hb : BookP (readB c v)) : Fit c (readB c v) := by
  refine ⟨hc, hb, rfl, ?_⟩
  unfold Plat at hc
  have : np (readB c v) = c.2.1.toNat := by unfold np readB; simp
  omega
theorem fit_nu {c : Cfg} {b : Bk} (h : Fit c b) : (nu b : Int) = 8 * c.2.1 := by
  have := h.2.1.dims
  have := h.2.2.2
  omega
theorem layV_head {c : Cfg} {b : Bk} (h : Fit c b) {k : Nat} (hk : k < 4) : layV c b (hA c + k) = headOr (hd b k) 0 := by
  obtain ⟨a1, a2, a3, a4, a5, a6, a7, a8, a9⟩ := plat_at h.1
  unfold layV
  rw [if_pos (by omega), show hA c + k - hA c = k by omega]
theorem layV_link {c : Cfg} {b : Bk} (h : Fit c b) (u : Nat) : layV c b (kA c + u) = nextV b u := by
  obtain ⟨a1, a2, a3, a4, a5, a6, a7, a8, a9⟩ := plat_at h.1
  unfold layV
  rw [if_neg (by omega), if_pos (by omega), show kA c + u - kA c = u by omega]
/-- What agrees with a book has its lists as chains that end. -/
theorem agree_chain {c : Cfg} {v : Nat → Int} {b : Bk} (h : Fit c b) (ha : Agree c v b) {k : Nat} (hk : k < 4) (n : Nat) (hn : (nu b : Int) ≤ n) : chainR v (kA c) (8 * c.2.1) n (v (hA c + k)) = hd b k ∧ chainB v (kA c) (8 * c.2.1) n (v (hA c + k)) = true := by
  obtain ⟨a1, a2, a3, a4, a5, a6, a7, a8, a9⟩ := plat_at h.1
  have hnu := fit_nu h
  have hb := h.2.1
  have hl := hb.hd_len hk
  have e : v (hA c + k) = headOr (hd b k) 0 := by rw [← layV_head h hk]; exact (ha _ (by omega) (.inr (by omega))).symm
  rw [e]
  refine chain_read v (kA c) (8 * c.2.1) (hd b k) n (by omega) (fun x hx => by have := hb.mem hk hx; omega) (hb.nodup hk) (fun x hx => ?_)
  have hm := hb.mem hk hx
  have := ha (kA c + x.toNat) (by omega) (.inr (by omega))
  rw [← this, layV_link h, Int.toNat_of_nonneg hm.1, nextV_mem hb hk hx]
theorem map_eq {f : Nat → Int} {l : List Int} {n : Nat} (hl : l.length = n) (h : ∀ i, i < n → f i = l.getD i 0) : (List.range n).map f = l := by
  apply list_ext (by simp; exact hl.symm)
  intro i
  by_cases c : i < n
  · rw [map_range_getD _ _ _ c, h i c]
  · have e1 : l.getD i 0 = 0 := by rw [List.getD_eq_getElem?_getD, List.getElem?_eq_none (by omega)]; rfl
    rw [e1, List.getD_eq_getElem?_getD, List.getElem?_eq_none (by simp; omega)]; rfl
/-- What agrees with a book is read as it. -/
theorem read_lay {c : Cfg} {v : Nat → Int} {b : Bk} (h : Fit c b) (ha : Agree c v b) : readB c v = b := by
  obtain ⟨a1, a2, a3, a4, a5, a6, a7, a8, a9⟩ := plat_at h.1
  have hnu := fit_nu h
  obtain ⟨hc, hb, h1, h2⟩ := h
  have hF : Fit c b := ⟨hc, hb, h1, h2⟩
  have hsl := hb.slots
  have hnp : np b = b.2.1.length := rfl
  have hnub : nu b = b.2.2.2.1.length := rfl
  have hch := fun k hk => (agree_chain hF ha (k := k) hk ((8 * c.2.1).toNat + 1) (by omega)).1
  have base : ∀ j, j < kA c → ¬ (hA c ≤ j ∧ j < pA c) → layV c b j = baseV c b j := fun j g1 g2 => by unfold layV; rw [if_neg g2, if_neg (by omega)]
  have hpages : (List.range c.2.1.toNat).map (fun i => v (pA c + i)) = b.2.1 := map_eq (by omega) fun i hi => by
    rw [← ha _ (by omega) (.inr (by omega)), base _ (by omega) (by omega)]
    unfold baseV
    rw [if_neg (by omega), if_pos (by omega), show pA c + i - pA c = i by omega]; rfl
  have howner : (List.range (8 * c.2.1).toNat).map (fun i => v (tA c + i)) = b.2.2.2.1 := map_eq (by omega) fun i hi => by
    rw [← ha _ (by omega) (.inr (by omega)), base _ (by omega) (by omega)]
    unfold baseV
    rw [if_neg (by omega), if_neg (by omega), if_pos (by omega), show tA c + i - tA c = i by omega]; rfl
  have hreg : ∀ i, i < c.1.toNat → v (3 + i) = inn b i + 4 * ep b i := fun i hi => by
    rw [← ha _ (by omega) (.inl (by omega)), base _ (by omega) (by omega)]
    unfold baseV
    rw [if_pos (by omega), show 3 + i - 3 = i by omega]
  have hslot : ∀ i, i < c.1.toNat → 0 ≤ inn b i ∧ inn b i ≤ 2 := fun i hi => by have := slotB_iff.1 (hb.slot (i := i) (by omega)); omega
  have hin : (List.range c.1.toNat).map (fun i => v (3 + i) % 4) = b.2.2.2.2.1 := map_eq (by omega) fun i hi => by
    have := hslot i hi
    rw [hreg i hi, fold_in]; omega
  have hep : (List.range c.1.toNat).map (fun i => v (3 + i) / 4) = b.2.2.2.2.2 := map_eq (by omega) fun i hi => by
    have := hslot i hi
    rw [hreg i hi, fold_ep]; omega
  have k0 := hch 0 (by omega)
  have k1 := hch 1 (by omega)
  have k2 := hch 2 (by omega)
  have k3 := hch 3 (by omega)
  unfold readB
  rw [hpages, howner, hin, hep]
  have k0' : chainR v (kA c) (8 * c.2.1) ((8 * c.2.1).toNat + 1) (v (hA c)) = hd b 0 := k0
  rw [k0', k1, k2, k3, ← h1]
  rfl
theorem censP_lay {c : Cfg} {v : Nat → Int} {b : Bk} (h : Fit c b) (ha : Agree c v b) : censP c v = (b, true) := by
  have e := read_lay h ha
  unfold censP
  rw [e, if_pos ⟨h.2.1, ha⟩]
/-- A list with given places. -/
def Mat (n : Nat) (M : List Int) (f : Nat → Int) : Prop := M.length = n ∧ ∀ j, j < n → M.getD j 0 = f j
theorem Mat.set {n : Nat} {M : List Int} {f : Nat → Int} (h : Mat n M f) {p : Nat} (hp : p < n) (x : Int) {g : Nat → Int} (hg : ∀ j, g j = if j = p then x else f j) : Mat n (M.set p x) g :=
  ⟨by rw [List.length_set]; exact h.1, fun j hj => by rw [getD_set _ _ _ _ (by rw [h.1]; exact hp), hg]; split; rfl; exact h.2 j hj⟩
theorem Mat.congr {n : Nat} {M : List Int} {f g : Nat → Int} (h : Mat n M f) (hg : ∀ j, j < n → f j = g j) : Mat n M g := ⟨h.1, fun j hj => by rw [h.2 j hj, hg j hj]⟩
theorem Mat.eq {n : Nat} {M : List Int} {f : Nat → Int} (h : Mat n M f) : M = (List.range n).map f := (map_eq h.1 fun i hi => (h.2 i hi).symm).symm
theorem mat_zero (n : Nat) : Mat n (List.replicate n 0) (fun _ => 0) := ⟨by simp, fun j _ => rep_getD n j⟩
/-- The values of the slots, from those of the first so many on. -/
def regV (b : Bk) (n : Nat) (j : Nat) : Int := if 3 ≤ j ∧ j < 3 + n then inn b (j - 3) + 4 * ep b (j - 3) else 0
def pgV (c : Cfg) (b : Bk) (n : Nat) (j : Nat) : Int := if pA c ≤ j ∧ j < pA c + n then pg b (j - pA c) else regV b c.1.toNat j
def owV (c : Cfg) (b : Bk) (n : Nat) (j : Nat) : Int := if tA c ≤ j ∧ j < tA c + n then ow b (j - tA c) else pgV c b c.2.1.toNat j
theorem owV_base {c : Cfg} (hc : Plat c) (b : Bk) (j : Nat) : owV c b (8 * c.2.1).toNat j = baseV c b j := by
  obtain ⟨a1, a2, a3, a4, a5, a6, a7, a8, a9⟩ := plat_at hc
  unfold owV pgV regV baseV
  by_cases g1 : 3 ≤ j ∧ j < 3 + c.1.toNat
  · rw [if_neg (by omega), if_neg (by omega), if_pos g1, if_pos g1]
  rw [if_neg g1, if_neg g1]
  by_cases g2 : pA c ≤ j ∧ j < tA c
  · rw [if_neg (by omega), if_pos (by omega), if_pos g2]
  rw [if_neg g2]
  by_cases g3 : tA c ≤ j ∧ j < kA c
  · rw [if_pos (by omega), if_pos g3]
  · rw [if_neg (by omega), if_neg (by omega), if_neg g3]
theorem cpy_getD (x : List Int) (o n : Nat) (y : List Int) (h1 : o + n ≤ x.length) (h2 : n ≤ y.length) : (cpy x o n y).length = x.length ∧ ∀ j, (cpy x o n y).getD j 0 = if o ≤ j ∧ j < o + n then y.getD (j - o) 0 else x.getD j 0 := by
  unfold cpy
  refine ⟨by simp; omega, fun j => ?_⟩
  simp only [List.getD_eq_getElem?_getD, List.getElem?_append, List.length_take, List.getElem?_take, List.getElem?_drop]
  by_cases c1 : j < min o x.length
  · rw [if_pos c1, if_pos (by omega), if_neg (by omega)]
  · rw [if_neg c1]
    by_cases c2 : j - min o x.length < min n y.length
    · rw [if_pos c2, if_pos (by omega), if_pos (by omega), show j - min o x.length = j - o by omega]
    · rw [if_neg c2, if_neg (by omega), show o + n + (j - min o x.length - min n y.length) = j by omega]
theorem hd_cases {P : Prop} {k : Nat} (hk : k < 4) (h0 : k = 0 → P) (h1 : k = 1 → P) (h2 : k = 2 → P) (h3 : k = 3 → P) : P := by
  have hi : k = 0 ∨ k = 1 ∨ k = 2 ∨ k = 3 := by omega
  rcases hi with h | h | h | h
  · exact h0 h
  · exact h1 h
  · exact h2 h
  · exact h3 h
theorem impl_lay_l2 (N : Nat) {c : Cfg} {b : Bk} (h : Fit c b) (k : Nat) (l : List Int) (hl : l.length ≤ 48) (hm : ∀ x ∈ l, 0 ≤ x ∧ x < nu b) : ∀ d i K (p : Nat) (M : List Int), i + d = l.length → M.length = dA c → p < dA c →
    impl_lay.l2 N (K + d + 1) (p : Nat) b.2.2.1 k l (l.length : Int) (i : Nat) c M = impl_lay.l1 N K b.2.2.1 (IntKind.i64.wrap ((k : Int) + 1)) c (chainP (kA c) M p (l.drop i))
  | 0, i, K, p, M, e, hM, hp => by
    rw [impl_lay.l2, cf (by omega), drop_end (by omega)]; rfl
  | d + 1, i, K, p, M, e, hM, hp => by
    obtain ⟨a1, a2, a3, a4, a5, a6, a7, a8, a9⟩ := plat_at h.1
    have hnu := fit_nu h
    have hx := hm (l.getD i 0) (by rw [getD_lt (by omega)]; exact List.getElem_mem _)
    rw [drop_at 0 (show i < l.length by omega), chainP]
    rw [show K + (d + 1) + 1 = K + d + 1 + 1 by omega, impl_lay.l2, ct (by omega), bnd (by omega) (by omega), bnd (by omega) (by omega), impl_linkAt_eq N h.1]
    simp only [Option.bind_some]
    rw [Int.toNat_natCast, Int.toNat_natCast, w64 (n := l.getD i 0 + 1) (by omega) (by omega), w64 (n := (i : Int) + 1) (by omega) (by omega), show (i : Int) + 1 = ((i + 1 : Nat) : Int) by omega, w64 (n := 7 + 2 * c.1 + 9 * c.2.1 + l.getD i 0) (by omega) (by omega), show 7 + 2 * c.1 + 9 * c.2.1 + l.getD i 0 = ((kA c + (l.getD i 0).toNat : Nat) : Int) by omega]
    exact impl_lay_l2 N h k l hl hm d (i + 1) K _ _ (by omega) (by rw [List.length_set]; exact hM) (by omega)
theorem impl_lay_l1 (N : Nat) {c : Cfg} {b : Bk} (h : Fit c b) (M : List Int) (hM : M.length = dA c) (K : Nat) (hK : 1000 < K) :
    impl_lay.l1 N K b.2.2.1 0 c M = some ((), chainP (kA c) (chainP (kA c) (chainP (kA c) (chainP (kA c) M (hA c) (hd b 0)) (hA c + 1) (hd b 1)) (hA c + 2) (hd b 2)) (hA c + 3) (hd b 3)) := by
  obtain ⟨a1, a2, a3, a4, a5, a6, a7, a8, a9⟩ := plat_at h.1
  have hnu := fit_nu h
  have hb := h.2.1
  have hdim := hb.dims
  have step : ∀ (k K : Nat) (M : List Int), k < 4 → M.length = dA c → 60 < K → ∃ K', K ≤ K' + 60 ∧ impl_lay.l1 N K b.2.2.1 (k : Nat) c M = impl_lay.l1 N K' b.2.2.1 ((k + 1 : Nat) : Int) c (chainP (kA c) M (hA c + k) (hd b k)) := by
    intro k K M hk hM hK
    have hl := hb.hd_len hk
    have hm : ∀ x ∈ hd b k, 0 ≤ x ∧ x < nu b := fun x hx => by have := hb.mem hk hx; omega
    refine ⟨K - 1 - (hd b k).length - 1, by omega, ?_⟩
    have e := impl_lay_l2 N h k (hd b k) (by omega) hm (hd b k).length 0 (K - 1 - (hd b k).length - 1) (hA c + k) M (by omega) hM (by omega)
    rw [show K - 1 - (hd b k).length - 1 + (hd b k).length + 1 = K - 1 by omega, List.drop_zero, w64 (n := (k : Int) + 1) (by omega) (by omega), show (k : Int) + 1 = ((k + 1 : Nat) : Int) by omega] at e
    rw [← e]
    obtain ⟨K, rfl⟩ := fuel (show 0 < K by omega)
    rw [impl_lay.l1, ct (by omega), impl_headAt_eq N h.1]
    simp only [Option.bind_some]
    rw [w64 (n := 3 + 2 * c.1 + (k : Int)) (by omega) (by omega), show 3 + 2 * c.1 + (k : Int) = ((hA c + k : Nat) : Int) by omega, show K + 1 - 1 = K by omega]
    refine hd_cases hk (fun e => ?_) (fun e => ?_) (fun e => ?_) (fun e => ?_) <;> subst e
    · rw [ct (by omega)]; rfl
    · rw [cf (by omega), ct (by omega)]; rfl
    · rw [cf (by omega), cf (by omega), ct (by omega)]; rfl
    · rw [cf (by omega), cf (by omega), cf (by omega), ct (by omega)]; rfl
  obtain ⟨K1, g1, e1⟩ := step 0 K M (by omega) hM (by omega)
  obtain ⟨K2, g2, e2⟩ := step 1 K1 (chainP (kA c) M (hA c + 0) (hd b 0)) (by omega) (by simp only [chainP_len]; exact hM) (by omega)
  obtain ⟨K3, g3, e3⟩ := step 2 K2 (chainP (kA c) (chainP (kA c) M (hA c + 0) (hd b 0)) (hA c + 1) (hd b 1)) (by omega) (by simp only [chainP_len]; exact hM) (by omega)
  obtain ⟨K4, g4, e4⟩ := step 3 K3 (chainP (kA c) (chainP (kA c) (chainP (kA c) M (hA c + 0) (hd b 0)) (hA c + 1) (hd b 1)) (hA c + 2) (hd b 2)) (by omega) (by simp only [chainP_len]; exact hM) (by omega)
  have e1' : impl_lay.l1 N K b.2.2.1 0 c M = _ := e1
  rw [e1', e2, e3, e4]
  obtain ⟨K4, rfl⟩ := fuel (show 0 < K4 by omega)
  rw [impl_lay.l1, cf (by omega)]; rfl
theorem impl_lay_l0 (N : Nat) {c : Cfg} {b : Bk} (h : Fit c b) : ∀ d i K (M : List Int), i + d = c.1.toNat → d + 2000 < K → Mat (dA c) M (regV b i) → impl_lay.l0 N K c.1 (i : Nat) c b M = some ((), layP c b)
  | 0, i, K, M, e, hK, hM => by
    obtain ⟨a1, a2, a3, a4, a5, a6, a7, a8, a9⟩ := plat_at h.1
    have hnu := fit_nu h
    have hnp : np b = b.2.1.length := rfl
    have hnub : nu b = b.2.2.2.1.length := rfl
    have h2 := h.2.2.2
    obtain ⟨K, rfl⟩ := fuel (show 0 < K by omega)
    obtain rfl : i = c.1.toNat := by omega
    have hlen := hM.1
    have p1 : (7 + 2 * c.1).toNat = pA c := rfl
    have p2 : (7 + 2 * c.1 + c.2.1).toNat = tA c := rfl
    rw [impl_lay.l0, cf (by omega), impl_pageAt_eq N h.1]
    simp only [Option.bind_some]
    rw [dt (show (0 : Int) ≤ 7 + 2 * c.1 by omega), dt (show 7 + 2 * c.1 ≤ (M.length : Int) by omega), impl_tagAt_eq N h.1, p1, Nat.min_eq_left (by omega)]
    simp only [Option.bind_some, cond_true]
    obtain ⟨q1, q2⟩ := cpy_getD M (pA c) b.2.1.length b.2.1 (by omega) (by omega)
    have hM1 : Mat (dA c) (cpy M (pA c) b.2.1.length b.2.1) (pgV c b c.2.1.toNat) := ⟨by omega, fun j hj => by
      rw [q2 j]
      unfold pgV
      by_cases g : pA c ≤ j ∧ j < pA c + b.2.1.length
      · rw [if_pos g, if_pos (by omega)]; rfl
      · rw [if_neg g, if_neg (by omega), hM.2 j hj]⟩
    obtain ⟨r1, r2⟩ := cpy_getD (cpy M (pA c) b.2.1.length b.2.1) (tA c) b.2.2.2.1.length b.2.2.2.1 (by omega) (by omega)
    have hM2 : Mat (dA c) (cpy (cpy M (pA c) b.2.1.length b.2.1) (tA c) b.2.2.2.1.length b.2.2.2.1) (baseV c b) := ⟨by omega, fun j hj => by
      rw [r2 j, ← owV_base h.1]
      unfold owV
      by_cases g : tA c ≤ j ∧ j < tA c + b.2.2.2.1.length
      · rw [if_pos g, if_pos (by omega)]; rfl
      · rw [if_neg g, if_neg (by omega), hM1.2 j hj]⟩
    rw [dt (show (0 : Int) ≤ 7 + 2 * c.1 + c.2.1 by omega), dt (show 7 + 2 * c.1 + c.2.1 ≤ ((cpy M (pA c) b.2.1.length b.2.1).length : Int) by omega), p2, Nat.min_eq_left (by omega)]
    simp only [cond_true]
    rw [impl_lay_l1 N h _ hM2.1 K (by omega), hM2.eq]
    rfl
  | d + 1, i, K, M, e, hK, hM => by
    obtain ⟨a1, a2, a3, a4, a5, a6, a7, a8, a9⟩ := plat_at h.1
    obtain ⟨K, rfl⟩ := fuel (show 0 < K by omega)
    have hsl := h.2.1.slots
    have h1 := h.2.2.1
    have hlen := hM.1
    have hs := slotB_iff.1 (h.2.1.slot (i := i) (by omega))
    rw [impl_lay.l0, ct (by omega), impl_regAt_eq]
    simp only [Option.bind_some]
    rw [bnd (by omega) (by omega), bnd (by omega) (by omega), w64 (n := 3 + (i : Int)) (by omega) (by omega), bnd (by omega) (by omega), Int.toNat_natCast, fold_in, fold_ep, w64 (n := 4 * ep b i) (by omega) (by omega), w64 (n := inn b i + 4 * ep b i) (by omega) (by omega), w64 (n := (i : Int) + 1) (by omega) (by omega), show (i : Int) + 1 = ((i + 1 : Nat) : Int) by omega, show (3 + (i : Int)).toNat = 3 + i by omega]
    refine impl_lay_l0 N h d (i + 1) K _ (by omega) (by omega) (hM.set (by omega) _ fun j => ?_)
    unfold regV
    by_cases g : j = 3 + i
    · subst g
      rw [if_pos (by omega), if_pos rfl, show 3 + i - 3 = i by omega]
    · rw [if_neg g]
      by_cases g2 : 3 ≤ j ∧ j < 3 + i
      · rw [if_pos (by omega), if_pos g2]
      · rw [if_neg (by omega), if_neg g2]
theorem impl_lay_eq (N : Nat) (hN : Fuel N) {c : Cfg} {b : Bk} (h : Fit c b) : impl_lay N c b = some ((), layP c b) := by
  obtain ⟨a1, a2, a3, a4, a5, a6, a7, a8, a9⟩ := plat_at h.1
  have hh : house c = 7 + 2 * c.1 + 17 * c.2.1 := rfl
  unfold impl_lay
  rw [impl_deskAt_eq N h.1]
  simp only [Option.bind_some]
  rw [ct (by omega), ct (by omega), ct (by omega)]
  have e : (house c).toNat = dA c := rfl
  rw [e]
  exact impl_lay_l0 N h c.1.toNat 0 N _ (by omega) (by unfold Fuel at hN; omega) ((mat_zero _).congr fun j _ => by unfold regV; rw [if_neg (by omega)])
theorem sReg (N : Nat) {c : Cfg} (h : Plat c) {i : Nat} (hi : i < c.1.toNat) : spec_PlatReg N c (i : Nat) = some (((3 + i : Nat) : Int), ()) := by
  have h' := h
  unfold Plat at h'
  unfold spec_PlatReg
  rw [spec_l2At_eq N h 3 i c.1 1 (by omega) (by omega) (by omega) (by omega) (by omega), if_pos (by omega)]
  simp only [Option.bind_some]
  congr 2; omega
theorem sHead (N : Nat) {c : Cfg} (h : Plat c) {i : Nat} (hi : i < 4) : spec_PlatHead N c (i : Nat) = some (((hA c + i : Nat) : Int), ()) := by
  obtain ⟨a1, a2, a3, a4, a5, a6, a7, a8, a9⟩ := plat_at h
  unfold spec_PlatHead
  rw [w64 (n := 2 * c.1) (by omega) (by omega), w64 (n := 3 + 2 * c.1) (by omega) (by omega), spec_l2At_eq N h _ i 4 1 (by omega) (by omega) (by omega) (by omega) (by omega), if_pos (by omega)]
  simp only [Option.bind_some]
  congr 2; omega
theorem sPage (N : Nat) {c : Cfg} (h : Plat c) {i : Nat} (hi : i < c.2.1.toNat) : spec_PlatPage N c (i : Nat) = some (((pA c + i : Nat) : Int), ()) := by
  obtain ⟨a1, a2, a3, a4, a5, a6, a7, a8, a9⟩ := plat_at h
  unfold spec_PlatPage
  rw [w64 (n := 2 * c.1) (by omega) (by omega), w64 (n := 3 + 2 * c.1) (by omega) (by omega), w64 (n := 3 + 2 * c.1 + 4) (by omega) (by omega), spec_l2At_eq N h _ i c.2.1 1 (by omega) (by omega) (by omega) (by omega) (by omega), if_pos (by omega)]
  simp only [Option.bind_some]
  congr 2; omega
theorem sTag (N : Nat) {c : Cfg} (h : Plat c) {i : Nat} (hi : i < (8 * c.2.1).toNat) : spec_PlatTag N c (i : Nat) = some (((tA c + i : Nat) : Int), ()) := by
  obtain ⟨a1, a2, a3, a4, a5, a6, a7, a8, a9⟩ := plat_at h
  unfold spec_PlatTag
  rw [w64 (n := 2 * c.1) (by omega) (by omega), w64 (n := 3 + 2 * c.1) (by omega) (by omega), w64 (n := 3 + 2 * c.1 + 4) (by omega) (by omega), w64 (n := 3 + 2 * c.1 + 4 + c.2.1) (by omega) (by omega), w64 (n := c.2.1 * 8) (by omega) (by omega), spec_l2At_eq N h _ i (c.2.1 * 8) 1 (by omega) (by omega) (by omega) (by omega) (by omega), if_pos (by omega)]
  simp only [Option.bind_some]
  congr 2; omega
theorem sLink (N : Nat) {c : Cfg} (h : Plat c) {i : Nat} (hi : i < (8 * c.2.1).toNat) : spec_PlatLink N c (i : Nat) = some (((kA c + i : Nat) : Int), ()) := by
  obtain ⟨a1, a2, a3, a4, a5, a6, a7, a8, a9⟩ := plat_at h
  unfold spec_PlatLink
  rw [w64 (n := 2 * c.1) (by omega) (by omega), w64 (n := 3 + 2 * c.1) (by omega) (by omega), w64 (n := 3 + 2 * c.1 + 4) (by omega) (by omega), w64 (n := 3 + 2 * c.1 + 4 + c.2.1) (by omega) (by omega), w64 (n := 8 * c.2.1) (by omega) (by omega), w64 (n := 3 + 2 * c.1 + 4 + c.2.1 + 8 * c.2.1) (by omega) (by omega), w64 (n := c.2.1 * 8) (by omega) (by omega), spec_l2At_eq N h _ i (c.2.1 * 8) 1 (by omega) (by omega) (by omega) (by omega) (by omega), if_pos (by omega)]
  simp only [Option.bind_some]
  congr 2; omega
theorem spec_lay_l7 (N : Nat) {c : Cfg} {b : Bk} (h : Fit c b) {k : Nat} (hk : k < 4) : ∀ d i K (p : Nat) (M : List Int), i + d = (hd b k).length → M.length = dA c → p < dA c →
    spec_l4Lay.l7 N (K + 3 * d + 2) k (p : Nat) (i : Nat) c b M = spec_l4Lay.l6 N K ((k + 1 : Nat) : Int) c b (chainP (kA c) M p ((hd b k).drop i))
  | 0, i, K, p, M, e, hM, hp => by
    rw [drop_end (by omega), chainP, show K + 3 * 0 + 2 = K + 1 + 1 by omega]
    have w : IntKind.i64.wrap ((k : Int) + 1) = ((k + 1 : Nat) : Int) := wi (by omega)
    refine hd_cases hk (fun g => ?_) (fun g => ?_) (fun g => ?_) (fun g => ?_) <;> subst g
    · have e' : ((b.2.2.1.1.length : Nat) : Int) = (i : Nat) := by have : (hd b 0).length = i := by omega
                                                                   rw [← this]; rfl
      rw [spec_l4Lay.l7, ct (by omega), cf (by omega), spec_l4Lay.l9, w]
    · have e' : ((b.2.2.1.2.1.length : Nat) : Int) = (i : Nat) := by have : (hd b 1).length = i := by omega
                                                                     rw [← this]; rfl
      rw [spec_l4Lay.l7, cf (by omega), ct (by omega), cf (by omega), spec_l4Lay.l9, w]
    · have e' : ((b.2.2.1.2.2.1.length : Nat) : Int) = (i : Nat) := by have : (hd b 2).length = i := by omega
                                                                       rw [← this]; rfl
      rw [spec_l4Lay.l7, cf (by omega), cf (by omega), ct (by omega), cf (by omega), spec_l4Lay.l9, w]
    · have e' : ((b.2.2.1.2.2.2.length : Nat) : Int) = (i : Nat) := by have : (hd b 3).length = i := by omega
                                                                       rw [← this]; rfl
      rw [spec_l4Lay.l7, cf (by omega), cf (by omega), cf (by omega), ct (by omega), cf (by omega), spec_l4Lay.l9, w]
  | d + 1, i, K, p, M, e, hM, hp => by
    obtain ⟨a1, a2, a3, a4, a5, a6, a7, a8, a9⟩ := plat_at h.1
    have hnu := fit_nu h
    have hl := h.2.1.hd_len hk
    have hx := h.2.1.mem hk (x := (hd b k).getD i 0) (by rw [getD_lt (by omega)]; exact List.getElem_mem _)
    obtain ⟨x, hxe⟩ : ∃ x : Nat, (hd b k).getD i 0 = x := ⟨((hd b k).getD i 0).toNat, by omega⟩
    have ih := spec_lay_l7 N h hk d (i + 1) K (kA c + x) (M.set p ((x : Int) + 1)) (by omega) (by rw [List.length_set]; exact hM) (by omega)
    have w1 : IntKind.i64.wrap ((i : Int) + 1) = ((i + 1 : Nat) : Int) := wi (by omega)
    have w2 : IntKind.i64.wrap ((x : Int) + 1) = (x : Int) + 1 := w64 (by omega) (by omega)
    have lk := sLink N h.1 (i := x) (by omega)
    rw [drop_at 0 (show i < (hd b k).length by omega), chainP, hxe, Int.toNat_natCast, ← ih, show K + 3 * (d + 1) + 2 = K + 3 * d + 2 + 1 + 1 + 1 by omega]
    refine hd_cases hk (fun g => ?_) (fun g => ?_) (fun g => ?_) (fun g => ?_) <;> subst g
    · have q : hd b 0 = b.2.2.1.1 := rfl
      rw [q] at hxe e hl
      rw [spec_l4Lay.l7, ct (by omega), ct (by omega), ct (by omega), bnd (by omega) (by omega), bnd (by omega) (by omega), Int.toNat_natCast, Int.toNat_natCast, hxe, w2, spec_l4Lay.l8, ct (by omega), bnd (by omega) (by omega), Int.toNat_natCast, hxe, lk]
      simp only [Option.bind_some]
      rw [spec_l4Lay.l10, w1]
    · have q : hd b 1 = b.2.2.1.2.1 := rfl
      rw [q] at hxe e hl
      rw [spec_l4Lay.l7, cf (by omega), ct (by omega), ct (by omega), cf (by omega), ct (by omega), bnd (by omega) (by omega), bnd (by omega) (by omega), Int.toNat_natCast, Int.toNat_natCast, hxe, w2, spec_l4Lay.l8, cf (by omega), ct (by omega), bnd (by omega) (by omega), Int.toNat_natCast, hxe, lk]
      simp only [Option.bind_some]
      rw [spec_l4Lay.l10, w1]
    · have q : hd b 2 = b.2.2.1.2.2.1 := rfl
      rw [q] at hxe e hl
      rw [spec_l4Lay.l7, cf (by omega), cf (by omega), ct (by omega), ct (by omega), cf (by omega), cf (by omega), ct (by omega), bnd (by omega) (by omega), bnd (by omega) (by omega), Int.toNat_natCast, Int.toNat_natCast, hxe, w2, spec_l4Lay.l8, cf (by omega), cf (by omega), ct (by omega), bnd (by omega) (by omega), Int.toNat_natCast, hxe, lk]
      simp only [Option.bind_some]
      rw [spec_l4Lay.l10, w1]
    · have q : hd b 3 = b.2.2.1.2.2.2 := rfl
      rw [q] at hxe e hl
      rw [spec_l4Lay.l7, cf (by omega), cf (by omega), cf (by omega), ct (by omega), ct (by omega), cf (by omega), cf (by omega), cf (by omega), ct (by omega), bnd (by omega) (by omega), bnd (by omega) (by omega), Int.toNat_natCast, Int.toNat_natCast, hxe, w2, spec_l4Lay.l8, cf (by omega), cf (by omega), cf (by omega), ct (by omega), bnd (by omega) (by omega), Int.toNat_natCast, hxe, lk]
      simp only [Option.bind_some]
      rw [spec_l4Lay.l10, w1]
theorem spec_lay_l6 (N : Nat) {c : Cfg} {b : Bk} (h : Fit c b) (M : List Int) (hM : M.length = dA c) (K : Nat) (hK : 2000 < K) :
    spec_l4Lay.l6 N K 0 c b M = some ((), chainP (kA c) (chainP (kA c) (chainP (kA c) (chainP (kA c) M (hA c) (hd b 0)) (hA c + 1) (hd b 1)) (hA c + 2) (hd b 2)) (hA c + 3) (hd b 3)) := by
  obtain ⟨a1, a2, a3, a4, a5, a6, a7, a8, a9⟩ := plat_at h.1
  have hnu := fit_nu h
  have hb := h.2.1
  have hdim := hb.dims
  have step : ∀ (k K : Nat) (M : List Int), k < 4 → M.length = dA c → 160 < K → ∃ K', K ≤ K' + 160 ∧ spec_l4Lay.l6 N K (k : Nat) c b M = spec_l4Lay.l6 N K' ((k + 1 : Nat) : Int) c b (chainP (kA c) M (hA c + k) (hd b k)) := by
    intro k K M hk hM hK
    have hl := hb.hd_len hk
    refine ⟨K - 1 - 3 * (hd b k).length - 2, by omega, ?_⟩
    have e := spec_lay_l7 N h hk (hd b k).length 0 (K - 1 - 3 * (hd b k).length - 2) (hA c + k) M (by omega) hM (by omega)
    rw [show K - 1 - 3 * (hd b k).length - 2 + 3 * (hd b k).length + 2 = K - 1 by omega, List.drop_zero] at e
    rw [← e]
    obtain ⟨K, rfl⟩ := fuel (show 0 < K by omega)
    rw [spec_l4Lay.l6, ct (by omega), sHead N h.1 hk, show K + 1 - 1 = K by omega]
    rfl
  obtain ⟨K1, g1, e1⟩ := step 0 K M (by omega) hM (by omega)
  obtain ⟨K2, g2, e2⟩ := step 1 K1 (chainP (kA c) M (hA c + 0) (hd b 0)) (by omega) (by simp only [chainP_len]; exact hM) (by omega)
  obtain ⟨K3, g3, e3⟩ := step 2 K2 (chainP (kA c) (chainP (kA c) M (hA c + 0) (hd b 0)) (hA c + 1) (hd b 1)) (by omega) (by simp only [chainP_len]; exact hM) (by omega)
  obtain ⟨K4, g4, e4⟩ := step 3 K3 (chainP (kA c) (chainP (kA c) (chainP (kA c) M (hA c + 0) (hd b 0)) (hA c + 1) (hd b 1)) (hA c + 2) (hd b 2)) (by omega) (by simp only [chainP_len]; exact hM) (by omega)
  have e1' : spec_l4Lay.l6 N K 0 c b M = _ := e1
  rw [e1', e2, e3, e4]
  obtain ⟨K4, rfl⟩ := fuel (show 0 < K4 by omega)
  rw [spec_l4Lay.l6, cf (by omega)]; rfl
theorem spec_lay_l4 (N : Nat) {c : Cfg} {b : Bk} (h : Fit c b) : ∀ d i K (M : List Int), i + d = (8 * c.2.1).toNat → 2 * d + 2010 < K → Mat (dA c) M (owV c b i) → spec_l4Lay.l4 N K (i : Nat) c b M = some ((), layP c b)
  | 0, i, K, M, e, hK, hM => by
    have hnu := fit_nu h
    have hnub : nu b = b.2.2.2.1.length := rfl
    obtain ⟨K, rfl⟩ := fuel (show 0 < K by omega)
    obtain rfl : i = (8 * c.2.1).toNat := by omega
    rw [spec_l4Lay.l4, cf (by omega)]
    have hM2 := hM.congr (g := baseV c b) fun j _ => owV_base h.1 b j
    have := spec_lay_l6 N h M hM.1 K (by omega)
    rw [hM2.eq] at this ⊢
    exact this
  | d + 1, i, K, M, e, hK, hM => by
    obtain ⟨a1, a2, a3, a4, a5, a6, a7, a8, a9⟩ := plat_at h.1
    have hnu := fit_nu h
    have hnub : nu b = b.2.2.2.1.length := rfl
    have hlen := hM.1
    obtain ⟨K, rfl⟩ : ∃ j, K = j + 1 + 1 := ⟨K - 2, by omega⟩
    rw [spec_l4Lay.l4, ct (by omega), sTag N h.1 (by omega)]
    simp only [Option.bind_some]
    rw [bnd (by omega) (by omega), bnd (by omega) (by omega), Int.toNat_natCast, Int.toNat_natCast, fold_ow, spec_l4Lay.l5, w64 (n := (i : Int) + 1) (by omega) (by omega), show (i : Int) + 1 = ((i + 1 : Nat) : Int) by omega]
    refine spec_lay_l4 N h d (i + 1) K _ (by omega) (by omega) (hM.set (by omega) _ fun j => ?_)
    unfold owV
    by_cases g : j = tA c + i
    · subst g
      rw [if_pos (by omega), if_pos rfl, show tA c + i - tA c = i by omega]
    · rw [if_neg g]
      by_cases g2 : tA c ≤ j ∧ j < tA c + i
      · rw [if_pos (by omega), if_pos g2]
      · rw [if_neg (by omega), if_neg g2]
theorem spec_lay_l2 (N : Nat) {c : Cfg} {b : Bk} (h : Fit c b) : ∀ d i K (M : List Int), i + d = c.2.1.toNat → 2 * d + 3000 < K → Mat (dA c) M (pgV c b i) → spec_l4Lay.l2 N K (i : Nat) c b M = some ((), layP c b)
  | 0, i, K, M, e, hK, hM => by
    obtain ⟨a1, a2, a3, a4, a5, a6, a7, a8, a9⟩ := plat_at h.1
    obtain ⟨K, rfl⟩ := fuel (show 0 < K by omega)
    obtain rfl : i = c.2.1.toNat := by omega
    rw [spec_l4Lay.l2, cf (by omega)]
    exact spec_lay_l4 N h (8 * c.2.1).toNat 0 K M (by omega) (by omega) (hM.congr fun j _ => by unfold owV; rw [if_neg (by omega)])
  | d + 1, i, K, M, e, hK, hM => by
    obtain ⟨a1, a2, a3, a4, a5, a6, a7, a8, a9⟩ := plat_at h.1
    have h2 := h.2.2.2
    have hnp : np b = b.2.1.length := rfl
    have hlen := hM.1
    obtain ⟨K, rfl⟩ : ∃ j, K = j + 1 + 1 := ⟨K - 2, by omega⟩
    rw [spec_l4Lay.l2, ct (by omega), sPage N h.1 (by omega)]
    simp only [Option.bind_some]
    rw [bnd (by omega) (by omega), bnd (by omega) (by omega), Int.toNat_natCast, Int.toNat_natCast, fold_pg, spec_l4Lay.l3, w64 (n := (i : Int) + 1) (by omega) (by omega), show (i : Int) + 1 = ((i + 1 : Nat) : Int) by omega]
    refine spec_lay_l2 N h d (i + 1) K _ (by omega) (by omega) (hM.set (by omega) _ fun j => ?_)
    unfold pgV
    by_cases g : j = pA c + i
    · subst g
      rw [if_pos (by omega), if_pos rfl, show pA c + i - pA c = i by omega]
    · rw [if_neg g]
      by_cases g2 : pA c ≤ j ∧ j < pA c + i
      · rw [if_pos (by omega), if_pos g2]
      · rw [if_neg (by omega), if_neg g2]
theorem spec_lay_l0 (N : Nat) {c : Cfg} {b : Bk} (h : Fit c b) : ∀ d i K (M : List Int), i + d = c.1.toNat → 2 * d + 4000 < K → Mat (dA c) M (regV b i) → spec_l4Lay.l0 N K (i : Nat) c b M = some ((), layP c b)
  | 0, i, K, M, e, hK, hM => by
    obtain ⟨a1, a2, a3, a4, a5, a6, a7, a8, a9⟩ := plat_at h.1
    obtain ⟨K, rfl⟩ := fuel (show 0 < K by omega)
    obtain rfl : i = c.1.toNat := by omega
    rw [spec_l4Lay.l0, cf (by omega)]
    exact spec_lay_l2 N h c.2.1.toNat 0 K M (by omega) (by omega) (hM.congr fun j _ => by unfold pgV; rw [if_neg (by omega)])
  | d + 1, i, K, M, e, hK, hM => by
    obtain ⟨a1, a2, a3, a4, a5, a6, a7, a8, a9⟩ := plat_at h.1
    have hsl := h.2.1.slots
    have h1 := h.2.2.1
    have hlen := hM.1
    have hs := slotB_iff.1 (h.2.1.slot (i := i) (by omega))
    obtain ⟨K, rfl⟩ : ∃ j, K = j + 1 + 1 := ⟨K - 2, by omega⟩
    rw [spec_l4Lay.l0, ct (by omega), sReg N h.1 (by omega)]
    simp only [Option.bind_some]
    rw [bnd (by omega) (by omega), bnd (by omega) (by omega), bnd (by omega) (by omega), Int.toNat_natCast, Int.toNat_natCast, fold_in, fold_ep, w64 (n := 4 * ep b i) (by omega) (by omega), w64 (n := inn b i + 4 * ep b i) (by omega) (by omega), spec_l4Lay.l1, w64 (n := (i : Int) + 1) (by omega) (by omega), show (i : Int) + 1 = ((i + 1 : Nat) : Int) by omega]
    refine spec_lay_l0 N h d (i + 1) K _ (by omega) (by omega) (hM.set (by omega) _ fun j => ?_)
    unfold regV
    by_cases g : j = 3 + i
    · subst g
      rw [if_pos (by omega), if_pos rfl, show 3 + i - 3 = i by omega]
    · rw [if_neg g]
      by_cases g2 : 3 ≤ j ∧ j < 3 + i
      · rw [if_pos (by omega), if_pos g2]
      · rw [if_neg (by omega), if_neg g2]
theorem spec_l4Lay_eq (N : Nat) (hN : Fuel N) {c : Cfg} {b : Bk} (h : Fit c b) : spec_l4Lay N c b = some ((), layP c b) := by
  obtain ⟨a1, a2, a3, a4, a5, a6, a7, a8, a9⟩ := plat_at h.1
  have hh : house c = 7 + 2 * c.1 + 17 * c.2.1 := rfl
  unfold spec_l4Lay
  rw [spec_l2House_eq N h.1]
  simp only [Option.bind_some]
  rw [ct (by omega), ct (by omega), ct (by omega)]
  have e : (house c).toNat = dA c := rfl
  rw [e]
  exact spec_lay_l0 N h c.1.toNat 0 N _ (by omega) (by unfold Fuel at hN; omega) ((mat_zero _).congr fun j _ => by unfold regV; rw [if_neg (by omega)])
/-- The value of a word. -/
def valW (w : List Int) (j : Nat) : Int := w.getD j 0 % 4294967296
theorem valW_nn (w : List Int) (j : Nat) : 0 ≤ valW w j ∧ valW w j < 4294967296 := by unfold valW; omega
theorem sLoad (N : Nat) (w : List Int) {j : Nat} (hj : j < w.length) : spec_PlatLoad N w (j : Nat) = some (w.getD j 0, ()) := by
  unfold spec_PlatLoad
  rw [cf (by omega), cf (by omega), bnd (by omega) (by omega), Int.toNat_natCast]
theorem sVal (N : Nat) {w : List Int} (hw : Words w) {j : Nat} (hj : j < w.length) : spec_l4Val N w (j : Nat) = some (valW w j, ()) := by
  unfold spec_l4Val
  rw [sLoad N w hj]
  simp only [Option.bind_some]
  rw [spec_CellVal_eq N (hw.at j)]; rfl
/-- Words of a house, with or without its desks. -/
def Laid (w : List Int) : Prop := Head w ∧ ((w.length : Int) = size (cfg (w.getD 0 0)) ∨ (w.length : Int) = house (cfg (w.getD 0 0)))
theorem spec_l4Whole_eq (N : Nat) {w : List Int} (hw : Words w) : ∃ c, spec_l4Whole N w = some ((c, tf (Laid w)), ()) ∧ (Laid w → c = cfg (w.getD 0 0)) := by
  have hx := hw.at 0
  have hx' := hx
  obtain ⟨x1, x2⟩ := hx'
  unfold spec_l4Whole
  by_cases h1 : w.length = 0
  · have n0 : ((w.length : Int) == 0) = true := by rw [beq_iff_eq]; omega
    have hn : ¬ Laid w := fun h => by have := h.1.1; omega
    rw [n0, cond_true, tf_f hn]; exact ⟨_, rfl, fun h => (hn h).elim⟩
  have n0 : ((w.length : Int) == 0) = false := by rw [beq_eq_false_iff_ne]; omega
  simp (disch := omega) only [n0, cond_false, ct, spec_CellVal_eq N hx, Option.bind_some, cfg_text hx, spec_PlatOk_eq]
  by_cases h3 : Plat (cfg (w.getD 0 0))
  rotate_left
  · have hn : ¬ Laid w := fun h => h3 h.1.2.2
    rw [tf_f hn]
    simp only [df h3, Bool.not_false, cond_true]
    exact ⟨_, rfl, fun h => (hn h).elim⟩
  simp only [dt h3, Bool.not_true, cond_false, spec_l2Magic_eq N hx h3, Option.bind_some, spec_l2Size_eq N h3, spec_l2House_eq N h3]
  by_cases h2 : w.getD 0 0 / 4294967296 = 201115
  rotate_left
  · have hn : ¬ Laid w := fun h => h2 h.1.2.1
    have e : w.getD 0 0 ≠ 201115 * 4294967296 + w.getD 0 0 % 4294967296 := by omega
    rw [tf_f hn, bne_iff_ne.2 e, cond_true]
    exact ⟨_, rfl, fun h => (hn h).elim⟩
  have e : 201115 * 4294967296 + w.getD 0 0 % 4294967296 = w.getD 0 0 := by omega
  rw [e, bne_self_eq_false, cond_false, cndn, cndn]
  by_cases e4 : (w.length : Int) = size (cfg (w.getD 0 0))
  · have hy : Laid w := ⟨⟨by omega, h2, h3⟩, .inl e4⟩
    rw [if_pos e4, tf_t hy]; exact ⟨_, rfl, fun _ => rfl⟩
  rw [if_neg e4]
  by_cases e5 : (w.length : Int) = house (cfg (w.getD 0 0))
  · have hy : Laid w := ⟨⟨by omega, h2, h3⟩, .inr e5⟩
    rw [if_pos e5, tf_t hy]; exact ⟨_, rfl, fun _ => rfl⟩
  · have hn : ¬ Laid w := fun h => by rcases h.2 with g | g; exact e4 g; exact e5 g
    rw [if_neg e5, tf_f hn]; exact ⟨_, rfl, fun h => (hn h).elim⟩
theorem chainR_len (v : Nat → Int) (k0 : Nat) (U : Int) : ∀ n a, (chainR v k0 U n a).length ≤ n
  | 0, a => Nat.le_refl _
  | n + 1, a => by
    rw [chainR]
    split
    · rw [List.length_cons]; have := chainR_len v k0 U n (v (k0 + (a - 1).toNat)); omega
    · simp
theorem chainR_mem (v : Nat → Int) (k0 : Nat) (U : Int) : ∀ n a, ∀ x ∈ chainR v k0 U n a, 0 ≤ x ∧ x < U
  | 0, a, x, h => by cases h
  | n + 1, a, x, h => by
    rw [chainR] at h
    split at h
    · rcases List.mem_cons.1 h with e | g
      · rw [e]; omega
      · exact chainR_mem v k0 U n _ x g
    · cases h
theorem sList_loop (N : Nat) {c : Cfg} (hc : Plat c) {w : List Int} (hw : Words w) (hl : dA c ≤ w.length) : ∀ d K (a : Int) (l : List Int), l.length + d = (8 * c.2.1).toNat + 1 → d < K → 0 ≤ a →
    spec_l4List.l0 N K w a c l = some ((), l ++ chainR (valW w) (kA c) (8 * c.2.1) d a)
  | 0, K, a, l, e, hK, ha => by
    obtain ⟨a1, a2, a3, a4, a5, a6, a7, a8, a9⟩ := plat_at hc
    obtain ⟨K, rfl⟩ := fuel hK
    rw [spec_l4List.l0, w64 (n := c.2.1 * 8) (by omega) (by omega), chainR, List.append_nil]
    by_cases c1 : a > 0
    · rw [ct c1]
      by_cases c2 : a ≤ c.2.1 * 8
      · rw [ct c2, cf (by omega)]
      · rw [cf c2]
    · rw [cf c1]
  | d + 1, K, a, l, e, hK, ha => by
    obtain ⟨a1, a2, a3, a4, a5, a6, a7, a8, a9⟩ := plat_at hc
    obtain ⟨K, rfl⟩ := fuel hK
    rw [spec_l4List.l0, w64 (n := c.2.1 * 8) (by omega) (by omega), chainR]
    by_cases c1 : a > 0
    rotate_left
    · rw [cf c1, if_neg (by omega), List.append_nil]
    rw [ct c1]
    by_cases c2 : a ≤ c.2.1 * 8
    rotate_left
    · rw [cf c2, if_neg (by omega), List.append_nil]
    rw [ct c2, ct (by omega), ct (by simp; omega), if_pos (by omega), w64 (n := a - 1) (by omega) (by omega)]
    obtain ⟨u, hu⟩ : ∃ u : Nat, a - 1 = u := ⟨(a - 1).toNat, by omega⟩
    rw [hu, sLink N hc (by omega)]
    simp only [Option.bind_some]
    rw [sVal N hw (by omega)]
    simp only [Option.bind_some]
    rw [sList_loop N hc hw hl d K _ _ (by rw [List.length_append]; simp; omega) (by omega) (valW_nn w _).1, Int.toNat_natCast, List.append_assoc]; rfl
theorem sList (N : Nat) (hN : Fuel N) {c : Cfg} (hc : Plat c) {w : List Int} (hw : Words w) (hl : dA c ≤ w.length) {k : Nat} (hk : k < 4) : spec_l4List N w c (k : Nat) = some ((), chainR (valW w) (kA c) (8 * c.2.1) ((8 * c.2.1).toNat + 1) (valW w (hA c + k))) := by
  obtain ⟨a1, a2, a3, a4, a5, a6, a7, a8, a9⟩ := plat_at hc
  unfold spec_l4List
  rw [sHead N hc hk]
  simp only [Option.bind_some]
  rw [sVal N hw (by omega)]
  simp only [Option.bind_some]
  have := sList_loop N hc hw hl ((8 * c.2.1).toNat + 1) N (valW w (hA c + k)) [] (by simp) (by unfold Fuel at hN; omega) (valW_nn w _).1
  rw [List.nil_append] at this
  exact this
theorem sRead_l3 (N : Nat) (hN : Fuel N) {c : Cfg} (hc : Plat c) {w : List Int} (hw : Words w) (hl : dA c ≤ w.length) (z : BkU) (x : Int) (P O I E : List Int) (K : Nat) :
    spec_l4Read.l3 N (K + 1 + 1 + 1 + 1 + 1) w 0 c z (x, (), ((), (), (), ()), (), (), ()) P [] [] [] [] O I E = outB (x, P, ((readB c (valW w)).2.2.1), O, I, E) := by
  have r0 : spec_l4List N w c 0 = some ((), (readB c (valW w)).2.2.1.1) := sList N hN hc hw hl (k := 0) (by omega)
  have r1 : spec_l4List N w c (0 + 1) = some ((), (readB c (valW w)).2.2.1.2.1) := sList N hN hc hw hl (k := 1) (by omega)
  have r2 : spec_l4List N w c (0 + 1 + 1) = some ((), (readB c (valW w)).2.2.1.2.2.1) := sList N hN hc hw hl (k := 2) (by omega)
  have r3 : spec_l4List N w c (0 + 1 + 1 + 1) = some ((), (readB c (valW w)).2.2.1.2.2.2) := sList N hN hc hw hl (k := 3) (by omega)
  have wr : ∀ x : Int, 0 ≤ x → x ≤ 4 → IntKind.i64.wrap (x + 1) = x + 1 := fun x h1 h2 => w64 (by omega) (by omega)
  rw [spec_l4Read.l3, r0]
  simp (disch := omega) only [ct, cf, wr, Option.bind_some, decide_true, cond_true]
  rw [spec_l4Read.l3, r1]
  simp (disch := omega) only [ct, cf, wr, Option.bind_some, decide_true, cond_true]
  rw [spec_l4Read.l3, r2]
  simp (disch := omega) only [ct, cf, wr, Option.bind_some, decide_true, cond_true]
  rw [spec_l4Read.l3, r3]
  simp (disch := omega) only [ct, cf, wr, Option.bind_some, decide_true, cond_true]
  rw [spec_l4Read.l3]
  simp (disch := omega) only [ct, cf, wr, Option.bind_some, decide_true, cond_true]
theorem sRead_l2 (N : Nat) (hN : Fuel N) {c : Cfg} (hc : Plat c) {w : List Int} (hw : Words w) (hl : dA c ≤ w.length) (z : BkU) (x : Int) (P I E : List Int) : ∀ d i K (O : List Int), i + d = (8 * c.2.1).toNat → d + 10 < K → O.length = (8 * c.2.1).toNat → (∀ j, j < i → O.getD j 0 = valW w (tA c + j)) →
    spec_l4Read.l2 N K w (i : Nat) c z (x, (), ((), (), (), ()), (), (), ()) P O I E = outB (x, P, ((readB c (valW w)).2.2.1), (readB c (valW w)).2.2.2.1, I, E)
  | 0, i, K, O, e, hK, hO, hv => by
    obtain ⟨K, rfl⟩ : ∃ j, K = j + 1 + 1 + 1 + 1 + 1 + 1 := ⟨K - 6, by omega⟩
    have : O = (readB c (valW w)).2.2.2.1 := (map_eq (f := fun i => valW w (tA c + i)) hO fun j hj => (hv j (by omega)).symm).symm
    rw [spec_l4Read.l2, cf (by omega), ← this]
    exact sRead_l3 N hN hc hw hl z x P O I E K
  | d + 1, i, K, O, e, hK, hO, hv => by
    obtain ⟨a1, a2, a3, a4, a5, a6, a7, a8, a9⟩ := plat_at hc
    obtain ⟨K, rfl⟩ := fuel (show 0 < K by omega)
    rw [spec_l4Read.l2, ct (by omega), sTag N hc (by omega)]
    simp only [Option.bind_some]
    rw [sVal N hw (by omega)]
    simp only [Option.bind_some]
    rw [bnd (by omega) (by omega), Int.toNat_natCast, w64 (n := (i : Int) + 1) (by omega) (by omega), show (i : Int) + 1 = ((i + 1 : Nat) : Int) by omega]
    refine sRead_l2 N hN hc hw hl z x P I E d (i + 1) K _ (by omega) (by omega) (by rw [List.length_set]; exact hO) (fun j hj => ?_)
    rw [getD_set _ _ _ _ (by omega)]
    by_cases g : j = i
    · rw [if_pos g, g]
    · rw [if_neg g]; exact hv j (by omega)
theorem sRead_l1 (N : Nat) (hN : Fuel N) {c : Cfg} (hc : Plat c) {w : List Int} (hw : Words w) (hl : dA c ≤ w.length) (z : BkU) (x : Int) (O I E : List Int) (hO : O.length = (8 * c.2.1).toNat) : ∀ d i K (P : List Int), i + d = c.2.1.toNat → d + 100 < K → P.length = c.2.1.toNat → (∀ j, j < i → P.getD j 0 = valW w (pA c + j)) →
    spec_l4Read.l1 N K w (i : Nat) c z (x, (), ((), (), (), ()), (), (), ()) P O I E = outB (x, (readB c (valW w)).2.1, ((readB c (valW w)).2.2.1), (readB c (valW w)).2.2.2.1, I, E)
  | 0, i, K, P, e, hK, hP, hv => by
    obtain ⟨a1, a2, a3, a4, a5, a6, a7, a8, a9⟩ := plat_at hc
    obtain ⟨K, rfl⟩ := fuel (show 0 < K by omega)
    have : P = (readB c (valW w)).2.1 := (map_eq (f := fun i => valW w (pA c + i)) hP fun j hj => (hv j (by omega)).symm).symm
    rw [spec_l4Read.l1, cf (by omega), ← this]
    exact sRead_l2 N hN hc hw hl z x P I E (8 * c.2.1).toNat 0 K O (by omega) (by omega) hO (fun j hj => by omega)
  | d + 1, i, K, P, e, hK, hP, hv => by
    obtain ⟨a1, a2, a3, a4, a5, a6, a7, a8, a9⟩ := plat_at hc
    obtain ⟨K, rfl⟩ := fuel (show 0 < K by omega)
    rw [spec_l4Read.l1, ct (by omega), sPage N hc (by omega)]
    simp only [Option.bind_some]
    rw [sVal N hw (by omega)]
    simp only [Option.bind_some]
    rw [bnd (by omega) (by omega), Int.toNat_natCast, w64 (n := (i : Int) + 1) (by omega) (by omega), show (i : Int) + 1 = ((i + 1 : Nat) : Int) by omega]
    refine sRead_l1 N hN hc hw hl z x O I E hO d (i + 1) K _ (by omega) (by omega) (by rw [List.length_set]; exact hP) (fun j hj => ?_)
    rw [getD_set _ _ _ _ (by omega)]
    by_cases g : j = i
    · rw [if_pos g, g]
    · rw [if_neg g]; exact hv j (by omega)
theorem sRead_l0 (N : Nat) (hN : Fuel N) {c : Cfg} (hc : Plat c) {w : List Int} (hw : Words w) (hl : dA c ≤ w.length) (z : BkU) (x : Int) (P O : List Int) (hP : P.length = c.2.1.toNat) (hO : O.length = (8 * c.2.1).toNat) : ∀ d i K (I E : List Int), i + d = c.1.toNat → d + 200 < K → I.length = c.1.toNat → E.length = c.1.toNat → (∀ j, j < i → I.getD j 0 = valW w (3 + j) % 4 ∧ E.getD j 0 = valW w (3 + j) / 4) →
    spec_l4Read.l0 N K w (i : Nat) c z (x, (), ((), (), (), ()), (), (), ()) P O I E = outB (x, (readB c (valW w)).2)
  | 0, i, K, I, E, e, hK, hI, hE, hv => by
    obtain ⟨a1, a2, a3, a4, a5, a6, a7, a8, a9⟩ := plat_at hc
    obtain ⟨K, rfl⟩ := fuel (show 0 < K by omega)
    have e1 : I = (readB c (valW w)).2.2.2.2.1 := (map_eq (f := fun i => valW w (3 + i) % 4) hI fun j hj => (hv j (by omega)).1.symm).symm
    have e2 : E = (readB c (valW w)).2.2.2.2.2 := (map_eq (f := fun i => valW w (3 + i) / 4) hE fun j hj => (hv j (by omega)).2.symm).symm
    rw [spec_l4Read.l0, cf (by omega)]
    have := sRead_l1 N hN hc hw hl z x O I E hO c.2.1.toNat 0 K P (by omega) (by omega) hP (fun j hj => by omega)
    rw [e1, e2] at this ⊢
    exact this
  | d + 1, i, K, I, E, e, hK, hI, hE, hv => by
    obtain ⟨a1, a2, a3, a4, a5, a6, a7, a8, a9⟩ := plat_at hc
    obtain ⟨K, rfl⟩ := fuel (show 0 < K by omega)
    rw [spec_l4Read.l0, ct (by omega), sReg N hc (by omega)]
    simp only [Option.bind_some]
    rw [sLoad N w (by omega)]
    simp only [Option.bind_some]
    rw [spec_CellRegOf_eq N (hw.at _)]
    simp only [Option.bind_some]
    rw [bnd (by omega) (by omega), bnd (by omega) (by omega), Int.toNat_natCast, w64 (n := (i : Int) + 1) (by omega) (by omega), show (i : Int) + 1 = ((i + 1 : Nat) : Int) by omega]
    refine sRead_l0 N hN hc hw hl z x P O hP hO d (i + 1) K _ _ (by omega) (by omega) (by rw [List.length_set]; exact hI) (by rw [List.length_set]; exact hE) (fun j hj => ?_)
    rw [getD_set _ _ _ _ (by omega), getD_set _ _ _ _ (by omega)]
    by_cases g : j = i
    · rw [if_pos g, if_pos g, g]; exact ⟨rfl, rfl⟩
    · rw [if_neg g, if_neg g]; exact hv j (by omega)
theorem spec_l4Read_eq (N : Nat) (hN : Fuel N) {c : Cfg} (hc : Plat c) {w : List Int} (hw : Words w) (hl : dA c ≤ w.length) : spec_l4Read N w c = outB (readB c (valW w)) := by
  obtain ⟨a1, a2, a3, a4, a5, a6, a7, a8, a9⟩ := plat_at hc
  unfold spec_l4Read
  rw [spec_BookOpen_eq N hc]
  simp only [Option.bind_some]
  unfold openP
  exact sRead_l0 N hN hc hw hl _ c.1 _ _ (by simp) (by simp; omega) c.1.toNat 0 N _ _ (by omega) (by unfold Fuel at hN; omega) (by simp) (by simp) (fun j hj => by omega)
theorem readB_ok {c : Cfg} (hc : Plat c) (w : List Int) : Bi (readB c (valW w)) ∧ Bshort (readB c (valW w)) := by
  obtain ⟨a1, a2, a3, a4, a5, a6, a7, a8, a9⟩ := plat_at hc
  have hm : ∀ (f : Nat → Int) n, (∀ i, 0 ≤ f i ∧ f i < 4294967296) → Ints ((List.range n).map f) := fun f n h x hx => by
    obtain ⟨i, _, e⟩ := List.mem_map.1 hx
    have := h i
    rw [e] at this
    exact ⟨by omega, by omega⟩
  have hs : ∀ (f : Nat → Int) n, n ≤ 100 → Short ((List.range n).map f) := fun f n h => by unfold Short; simp; omega
  have hci : ∀ a, Ints (chainR (valW w) (kA c) (8 * c.2.1) ((8 * c.2.1).toNat + 1) a) := fun a x hx => by have := chainR_mem _ _ _ _ _ x hx; exact ⟨by omega, by omega⟩
  have hcs : ∀ a, Short (chainR (valW w) (kA c) (8 * c.2.1) ((8 * c.2.1).toNat + 1) a) := fun a => by have := chainR_len (valW w) (kA c) (8 * c.2.1) ((8 * c.2.1).toNat + 1) a; unfold Short; omega
  refine ⟨⟨⟨by show -9223372036854775808 ≤ c.1; omega, by show c.1 ≤ 9223372036854775807; omega⟩, hm _ _ fun i => valW_nn w _, fun k => ?_, hm _ _ fun i => valW_nn w _, hm _ _ fun i => by have := valW_nn w (3 + i); omega, hm _ _ fun i => by have := valW_nn w (3 + i); omega⟩, ⟨hs _ _ (by omega), fun k => ?_, hs _ _ (by omega), hs _ _ (by omega), hs _ _ (by omega)⟩⟩
  · match k with
    | 0 => exact hci _
    | 1 => exact hci _
    | 2 => exact hci _
    | _ + 3 => exact hci _
  · match k with
    | 0 => exact hcs _
    | 1 => exact hcs _
    | 2 => exact hcs _
    | _ + 3 => exact hcs _
def agreeB (c : Cfg) (v : Nat → Int) (b : Bk) (j : Nat) : Bool := decide (3 + c.1.toNat ≤ j ∧ j < hA c) || decide (layV c b j = v j)
theorem agree_iff {c : Cfg} (hc : Plat c) (v : Nat → Int) (b : Bk) : Agree c v b ↔ allB (agreeB c v b) (dA c - 3) 3 = true := by
  obtain ⟨a1, a2, a3, a4, a5, a6, a7, a8, a9⟩ := plat_at hc
  rw [allB_iff]
  unfold Agree agreeB
  constructor
  · intro h j h1 h2
    rw [Bool.or_eq_true, decide_eq_true_iff, decide_eq_true_iff]
    by_cases g : 3 + c.1.toNat ≤ j ∧ j < hA c
    · exact .inl g
    · exact .inr (h j (by omega) (by omega))
  · intro h j h1 h2
    have := h j (by omega) (by omega)
    rw [Bool.or_eq_true, decide_eq_true_iff, decide_eq_true_iff] at this
    rcases this with g | g
    · omega
    · exact g
theorem spec_Cens_loop (N : Nat) {c : Cfg} {w : List Int} (hw : Words w) (hl : dA c ≤ w.length) {b : Bk} (h : Fit c b) (z : BkU) : ∀ d i K, i + d = dA c → d < K →
    spec_CensBook.l0 N K w (i : Nat) z c (b.1, (), ((), (), (), ()), (), (), ()) (layP c b) b.2.1 b.2.2.1.1 b.2.2.1.2.1 b.2.2.1.2.2.1 b.2.2.1.2.2.2 b.2.2.2.1 b.2.2.2.2.1 b.2.2.2.2.2 = cond (allB (agreeB c (valW w) b) d i) (outT (b, true)) (outT (bk0, false))
  | 0, i, K, e, hK => by
    obtain ⟨K, rfl⟩ := fuel hK
    have hlp := layP_len c b
    rw [spec_CensBook.l0, cf (by omega)]; rfl
  | d + 1, i, K, e, hK => by
    obtain ⟨K, rfl⟩ := fuel hK
    obtain ⟨a1, a2, a3, a4, a5, a6, a7, a8, a9⟩ := plat_at h.1
    have hlp := layP_len c b
    have hlv := layP_getD h i (by omega)
    have ih := spec_Cens_loop N hw hl h z d (i + 1) K (by omega) (by omega)
    have w1 : IntKind.i64.wrap ((i : Int) + 1) = ((i + 1 : Nat) : Int) := wi (by omega)
    have cmp : ∀ X : Option ((BkU × Bool) × L8), (bif (bif decide (0 ≤ ((i : Nat) : Int)) then decide (((i : Nat) : Int) < ((layP c b).length : Int)) else false) then (bif (bif decide (0 ≤ ((i : Nat) : Int)) then decide (((i : Nat) : Int) < (w.length : Int)) else false) then (spec_CellVal N (w.getD ((i : Nat) : Int).toNat 0)).bind fun u8 => (bif ((layP c b).getD ((i : Nat) : Int).toNat 0 != u8.1) then outT (bk0, false) else X) else none) else none) = if layV c b i = valW w i then X else outT (bk0, false) := fun X => by
      rw [bnd (by omega) (by omega), bnd (by omega) (by omega), Int.toNat_natCast, spec_CellVal_eq N (hw.at i), hlv]
      simp only [Option.bind_some, cndn]
      rfl
    rw [spec_CensBook.l0, ct (by omega), spec_PlatBeat_eq N h.1, if_pos (by omega)]
    simp only [Option.bind_some]
    rw [w1, w64 (n := 3 + c.1 + 0 + c.1) (by omega) (by omega), allB]
    have done : ∀ (X : Option ((BkU × Bool) × L8)), ¬ (3 + c.1.toNat ≤ i ∧ i < hA c) → X = cond (allB (agreeB c (valW w) b) d (i + 1)) (outT (b, true)) (outT (bk0, false)) → (if layV c b i = valW w i then X else outT (bk0, false)) = cond (agreeB c (valW w) b i && allB (agreeB c (valW w) b) d (i + 1)) (outT (b, true)) (outT (bk0, false)) := fun X g hX => by
      unfold agreeB
      rw [df g, Bool.false_or]
      by_cases g2 : layV c b i = valW w i
      · rw [if_pos g2, dt g2, Bool.true_and]; exact hX
      · rw [if_neg g2, df g2]; rfl
    by_cases c1 : (i : Int) ≥ 3 + c.1 + 0
    · rw [ct c1]
      by_cases c2 : (i : Int) < 3 + c.1 + 0 + c.1
      · rw [dt c2, Bool.not_true, cond_false]
        unfold agreeB
        rw [dt (show 3 + c.1.toNat ≤ i ∧ i < hA c by omega), Bool.true_or, Bool.true_and]
        exact ih
      · rw [df c2, Bool.not_false, cond_true]
        exact (cmp _).trans (done _ (by omega) ih)
    · rw [cf c1]
      exact (cmp _).trans (done _ (by omega) ih)
noncomputable def censBook (w : List Int) : Bk × Bool := @ite _ (Laid w) (Classical.propDecidable _) (censP (cfg (w.getD 0 0)) (valW w)) (bk0, false)
theorem laid_len {w : List Int} (h : Laid w) : dA (cfg (w.getD 0 0)) ≤ w.length := by
  have hc := h.1.2.2
  obtain ⟨a1, a2, a3, a4, a5, a6, a7, a8, a9⟩ := plat_at hc
  rcases h.2 with g | g
  · unfold size at g; omega
  · unfold house at g; omega
theorem spec_CensBook_eq (N : Nat) (hN : Fuel N) {w : List Int} (hw : Words w) : spec_CensBook N w = outT (censBook w) := by
  unfold spec_CensBook censBook
  obtain ⟨c, e, hcfg⟩ := spec_l4Whole_eq N hw
  rw [e]
  simp only [Option.bind_some]
  by_cases h : Laid w
  rotate_left
  · rw [tf_f h, if_neg h]; rfl
  have hc := h.1.2.2
  have hl := laid_len h
  rw [tf_t h, if_pos h, hcfg h, Bool.not_true, cond_false]
  generalize cfg (w.getD 0 0) = c at hc hl
  obtain ⟨a1, a2, a3, a4, a5, a6, a7, a8, a9⟩ := plat_at hc
  obtain ⟨r1, r2⟩ := readB_ok hc w
  rw [spec_l4Read_eq N hN hc hw hl]
  simp only [Option.bind_some, spec_BookOk_eq N hN _ r1 r2]
  unfold censP
  by_cases hb : BookP (readB c (valW w))
  rotate_left
  · rw [bookOk, tf_f hb, if_neg (fun g => hb g.1)]; rfl
  have hF := readB_fit hc hb
  rw [bookOk, tf_t hb, Bool.not_true, cond_false, spec_l4Lay_eq N hN hF, show (0 : Int) = ((0 : Nat) : Int) from rfl, sReg N hc (by omega)]
  simp only [Option.bind_some]
  have := spec_Cens_loop N hw hl hF (0, (), ((), (), (), ()), (), (), ()) (dA c - 3) 3 N (by omega) (by unfold Fuel at hN; omega)
  refine this.trans ?_
  have hag := agree_iff hc (valW w) (readB c (valW w))
  by_cases g : Agree c (valW w) (readB c (valW w))
  · rw [if_pos ⟨hb, g⟩, hag.1 g]; rfl
  · rw [if_neg (fun q => g q.2)]
    cases hq : allB (agreeB c (valW w) (readB c (valW w))) (dA c - 3) 3
    · rfl
    · exact (g (hag.2 hq)).elim
noncomputable abbrev bk8 (N K : Nat) (k a k2 : Int) (c : Cfg) (z : Int) (v : List Int) (x : Int) (P : List Int) (h : H4) (O I E : List Int) := impl_book.l8 N K k a k2 c (z, (), ((), (), (), ()), (), (), ()) v (x, (), ((), (), (), ()), (), (), ()) P h.1 h.2.1 h.2.2.1 h.2.2.2 O I E
noncomputable abbrev bk12 (N K : Nat) (k a k2 : Int) (c : Cfg) (z : Int) (v : List Int) (x : Int) (P : List Int) (h : H4) (O I E : List Int) := impl_book.l12 N K k a k2 c (z, (), ((), (), (), ()), (), (), ()) v (x, (), ((), (), (), ()), (), (), ()) P h.1 h.2.1 h.2.2.1 h.2.2.2 O I E
noncomputable abbrev bk3 (N K : Nat) (k : Int) (c : Cfg) (z : Int) (v : List Int) (x : Int) (P : List Int) (h : H4) (O I E : List Int) := impl_book.l3 N K k c (z, (), ((), (), (), ()), (), (), ()) v (x, (), ((), (), (), ()), (), (), ()) P h.1 h.2.1 h.2.2.1 h.2.2.2 O I E
theorem impl_units_eq (N : Nat) {c : Cfg} (h : Plat c) : impl_PlatCfg_units N c = some (8 * c.2.1, ()) := by
  unfold Plat at h
  unfold impl_PlatCfg_units
  rw [w64 (by omega) (by omega)]
theorem heads_hset (h : H4) {k : Nat} (hk : k < 4) (l : List Int) : heads (hset h k l) k = l := hd_hset _ _ _ _ hk _
theorem bk8_step (N : Nat) {c : Cfg} (hc : Plat c) (z : Int) (v : List Int) (x : Int) (P O I E : List Int) {k : Nat} (hk : k < 4) (K : Nat) (a : Int) (h : H4) (h0 : 0 < a) (h1 : a ≤ 8 * c.2.1) (hl : ((heads h k).length : Int) < 8 * c.2.1) :
    bk8 N (K + 1) k a k c z v x P h O I E = bk12 N K k a k c z v x P (hset h k (heads h k ++ [a - 1])) O I E := by
  obtain ⟨a1, a2, a3, a4, a5, a6, a7, a8, a9⟩ := plat_at hc
  have w := w64 (n := a - 1) (by omega) (by omega)
  have hs : ∀ l : List Int, l.length + [a - 1].length = l.length + 1 := fun l => rfl
  unfold bk8 bk12
  rw [impl_book.l8, cndn, if_neg (by omega), impl_units_eq N hc]
  simp only [Option.bind_some, cndb]
  rw [cf (by omega), w]
  refine hd_cases hk (fun g => ?_) (fun g => ?_) (fun g => ?_) (fun g => ?_) <;> subst g
  · have q : heads h 0 = h.1 := rfl
    rw [q] at hl ⊢
    rw [ct (by omega), if_neg (by omega), ct (by omega), ct (by rw [hs]; omega), ct (by omega)]; rfl
  · have q : heads h 1 = h.2.1 := rfl
    rw [q] at hl ⊢
    rw [cf (by omega), ct (by omega), if_neg (by omega), cf (by omega), ct (by omega), ct (by rw [hs]; omega), cf (by omega), ct (by omega)]; rfl
  · have q : heads h 2 = h.2.2.1 := rfl
    rw [q] at hl ⊢
    rw [cf (by omega), cf (by omega), ct (by omega), if_neg (by omega), cf (by omega), cf (by omega), ct (by omega), ct (by rw [hs]; omega), cf (by omega), cf (by omega), ct (by omega)]; rfl
  · have q : heads h 3 = h.2.2.2 := rfl
    rw [q] at hl ⊢
    rw [cf (by omega), cf (by omega), cf (by omega), ct (by omega), if_neg (by omega), cf (by omega), cf (by omega), cf (by omega), ct (by omega), ct (by rw [hs]; omega), cf (by omega), cf (by omega), cf (by omega), ct (by omega)]; rfl
theorem bk8_fail (N : Nat) {c : Cfg} (hc : Plat c) (z : Int) (v : List Int) (x : Int) (P O I E : List Int) {k : Nat} (hk : k < 4) (K : Nat) (a : Int) (h : H4) (h0 : 0 < a) (h1 : a > 8 * c.2.1 ∨ ((heads h k).length : Int) = 8 * c.2.1) :
    bk8 N (K + 1 + 1) k a k c z v x P h O I E = outT (bk0, false) := by
  obtain ⟨a1, a2, a3, a4, a5, a6, a7, a8, a9⟩ := plat_at hc
  unfold bk8
  rw [impl_book.l8, cndn, if_neg (by omega), impl_units_eq N hc]
  simp only [Option.bind_some, cndb]
  by_cases c1 : a > 8 * c.2.1
  · rw [ct c1, impl_book.l11]; rfl
  rw [cf c1]
  have hl : ((heads h k).length : Int) = 8 * c.2.1 := by omega
  refine hd_cases hk (fun g => ?_) (fun g => ?_) (fun g => ?_) (fun g => ?_) <;> subst g
  · have q : heads h 0 = h.1 := rfl
    rw [q] at hl
    rw [ct (by omega), if_pos hl, impl_book.l11]; rfl
  · have q : heads h 1 = h.2.1 := rfl
    rw [q] at hl
    rw [cf (by omega), ct (by omega), if_pos hl, impl_book.l11]; rfl
  · have q : heads h 2 = h.2.2.1 := rfl
    rw [q] at hl
    rw [cf (by omega), cf (by omega), ct (by omega), if_pos hl, impl_book.l11]; rfl
  · have q : heads h 3 = h.2.2.2 := rfl
    rw [q] at hl
    rw [cf (by omega), cf (by omega), cf (by omega), ct (by omega), if_pos hl, impl_book.l11]; rfl
/-- The values of a list of values. -/
abbrev vAt (v : List Int) (j : Nat) : Int := v.getD j 0
theorem bk8_loop (N : Nat) {c : Cfg} (hc : Plat c) (z : Int) (v : List Int) (hv : v.length = dA c) (hnn : ∀ j, 0 ≤ vAt v j ∧ vAt v j < 4294967296) (x : Int) (P O I E : List Int) {k : Nat} (hk : k < 4) : ∀ m K (a : Int) (h : H4), (heads h k).length + m = (8 * c.2.1).toNat → 2 * m + 10 < K → 0 ≤ a → a < 4294967296 →
    ∃ K', K ≤ K' + 2 * m + 2 ∧ bk8 N K k a k c z v x P h O I E = cond (chainB (vAt v) (kA c) (8 * c.2.1) m a) (bk3 N K' ((k + 1 : Nat) : Int) c z v x P (hset h k (heads h k ++ chainR (vAt v) (kA c) (8 * c.2.1) (m + 1) a)) O I E) (outT (bk0, false))
  | m, K, a, h, e, hK, ha, ha2 => by
    obtain ⟨a1, a2, a3, a4, a5, a6, a7, a8, a9⟩ := plat_at hc
    have hset_id : hset h k (heads h k ++ []) = h := by
      rw [List.append_nil]
      refine hd_cases hk (fun g => ?_) (fun g => ?_) (fun g => ?_) (fun g => ?_) <;> subst g <;> rfl
    by_cases c0 : a = 0
    · refine ⟨K - 2, by omega, ?_⟩
      obtain ⟨K, rfl⟩ : ∃ j, K = j + 1 + 1 := ⟨K - 2, by omega⟩
      unfold chainB
      rw [if_pos c0, chainR, if_neg (by omega), hset_id, cond_true, show K + 1 + 1 - 2 = K by omega]
      unfold bk8 bk3
      rw [impl_book.l8, cndn, if_pos c0, impl_book.l13, w64 (n := (k : Int) + 1) (by omega) (by omega), show (k : Int) + 1 = ((k + 1 : Nat) : Int) by omega]
    by_cases c1 : a > 8 * c.2.1
    · refine ⟨K, by omega, ?_⟩
      obtain ⟨K, rfl⟩ : ∃ j, K = j + 1 + 1 := ⟨K - 2, by omega⟩
      unfold chainB
      rw [if_neg c0, if_pos c1, cond_false]
      exact bk8_fail N hc z v x P O I E hk K a h (by omega) (.inl c1)
    match m, e, hK with
    | 0, e, hK =>
      refine ⟨K, by omega, ?_⟩
      obtain ⟨K, rfl⟩ : ∃ j, K = j + 1 + 1 := ⟨K - 2, by omega⟩
      unfold chainB
      rw [if_neg c0, if_neg c1]
      show _ = cond false _ _
      rw [cond_false]
      exact bk8_fail N hc z v x P O I E hk K a h (by omega) (.inr (by omega))
    | m + 1, e, hK =>
      obtain ⟨K, rfl⟩ : ∃ j, K = j + 1 + 1 := ⟨K - 2, by omega⟩
      have hstep := bk8_step N hc z v x P O I E hk (K + 1) a h (by omega) (by omega) (by omega)
      have hh := heads_hset h hk (heads h k ++ [a - 1])
      obtain ⟨K', g1, g2⟩ := bk8_loop N hc z v hv hnn x P O I E hk m K (vAt v (kA c + (a - 1).toNat)) (hset h k (heads h k ++ [a - 1])) (by rw [hh, List.length_append]; simp; omega) (by omega) (hnn _).1 (hnn _).2
      refine ⟨K', by omega, ?_⟩
      rw [hstep]
      have h12 : bk12 N (K + 1) k a k c z v x P (hset h k (heads h k ++ [a - 1])) O I E = bk8 N K k (vAt v (kA c + (a - 1).toNat)) k c z v x P (hset h k (heads h k ++ [a - 1])) O I E := by
        unfold bk12
        rw [impl_book.l12, impl_linkAt_eq N hc]
        simp only [Option.bind_some]
        rw [w64 (n := 7 + 2 * c.1 + 9 * c.2.1 + a) (by omega) (by omega), w64 (n := 7 + 2 * c.1 + 9 * c.2.1 + a - 1) (by omega) (by omega), bnd (by omega) (by omega), show (7 + 2 * c.1 + 9 * c.2.1 + a - 1).toNat = kA c + (a - 1).toNat by omega]
      rw [h12, g2, hh, hset_hset h hk]
      have e1 : chainB (vAt v) (kA c) (8 * c.2.1) (m + 1) a = chainB (vAt v) (kA c) (8 * c.2.1) m (vAt v (kA c + (a - 1).toNat)) := by
        rw [chainB, if_neg c0, if_neg c1]
      have e2 : chainR (vAt v) (kA c) (8 * c.2.1) (m + 1 + 1) a = (a - 1) :: chainR (vAt v) (kA c) (8 * c.2.1) (m + 1) (vAt v (kA c + (a - 1).toNat)) := by
        rw [chainR, if_pos (by omega)]
      rw [e1, e2, List.append_assoc]; rfl
theorem bk3_step (N : Nat) {c : Cfg} (hc : Plat c) (z : Int) (v : List Int) (hv : v.length = dA c) (hnn : ∀ j, 0 ≤ vAt v j ∧ vAt v j < 4294967296) (x : Int) (P O I E : List Int) {k : Nat} (hk : k < 4) (K : Nat) (h : H4) (he : heads h k = []) (hK : 200 < K) :
    ∃ K', K ≤ K' + 150 ∧ bk3 N K k c z v x P h O I E = cond (chainB (vAt v) (kA c) (8 * c.2.1) (8 * c.2.1).toNat (vAt v (hA c + k))) (bk3 N K' ((k + 1 : Nat) : Int) c z v x P (hset h k (chainR (vAt v) (kA c) (8 * c.2.1) ((8 * c.2.1).toNat + 1) (vAt v (hA c + k)))) O I E) (outT (bk0, false)) := by
  obtain ⟨a1, a2, a3, a4, a5, a6, a7, a8, a9⟩ := plat_at hc
  obtain ⟨K, rfl⟩ : ∃ j, K = j + 1 + 1 := ⟨K - 2, by omega⟩
  have h0 : (heads h k).length = 0 := by rw [he]; rfl
  obtain ⟨K', g1, g2⟩ := bk8_loop N hc z v hv hnn x P O I E hk (8 * c.2.1).toNat K (vAt v (hA c + k)) h (by omega) (by omega) (hnn _).1 (hnn _).2
  refine ⟨K', by omega, ?_⟩
  rw [he, List.nil_append] at g2
  unfold bk3
  rw [impl_book.l3, ct (by omega), impl_book.l5, impl_headAt_eq N hc]
  simp only [Option.bind_some]
  rw [w64 (n := 3 + 2 * c.1 + (k : Int)) (by omega) (by omega), bnd (by omega) (by omega), show (3 + 2 * c.1 + (k : Int)).toNat = hA c + k by omega]
  exact g2
theorem impl_isLaid_eq (N : Nat) {c : Cfg} (hc : Plat c) (j : Nat) : impl_PlatCfg_isLaid N c (j : Nat) = some (decide (3 ≤ j ∧ j < 3 + c.1.toNat ∨ hA c ≤ j ∧ j < dA c), ()) := by
  obtain ⟨a1, a2, a3, a4, a5, a6, a7, a8, a9⟩ := plat_at hc
  have hh : house c = 7 + 2 * c.1 + 17 * c.2.1 := rfl
  unfold impl_PlatCfg_isLaid
  rw [impl_regAt_eq, impl_beatAt_eq N hc, impl_headAt_eq N hc, impl_deskAt_eq N hc]
  simp only [Option.bind_some]
  rw [w64 (n := 3 + c.1 - 1) (by omega) (by omega), impl_within_eq, w64 (n := house c - 1) (by omega) (by omega), impl_within_eq]
  simp only [Option.bind_some]
  by_cases g : 3 ≤ (j : Int) ∧ (j : Int) ≤ 3 + c.1 - 1
  · rw [dt g, cond_true, dt (by omega)]
  · rw [df g, cond_false]
    congr 2
    exact decide_eq_decide.2 (by omega)
theorem impl_cmp_loop (N : Nat) {c : Cfg} {b : Bk} (h : Fit c b) (z : Int) (v : List Int) (hv : v.length = dA c) : ∀ d i K, i + d = dA c → 3 * d + 3 < K →
    impl_book.l7 N K (dA c : Int) (i : Nat) c (z, (), ((), (), (), ()), (), (), ()) v (b.1, (), ((), (), (), ()), (), (), ()) (layP c b) b.2.1 b.2.2.1.1 b.2.2.1.2.1 b.2.2.1.2.2.1 b.2.2.1.2.2.2 b.2.2.2.1 b.2.2.2.2.1 b.2.2.2.2.2 =
      cond (allB (fun j => decide (3 ≤ j ∧ j < 3 + c.1.toNat ∨ hA c ≤ j → layV c b j = vAt v j)) d i) (outT (b, true)) (outT (bk0, false))
  | 0, i, K, e, hK => by
    obtain ⟨K, rfl⟩ : ∃ j, K = j + 1 + 1 := ⟨K - 2, by omega⟩
    rw [impl_book.l7, cf (by omega), impl_book.l10]; rfl
  | d + 1, i, K, e, hK => by
    obtain ⟨K, rfl⟩ : ∃ j, K = j + 1 + 1 + 1 := ⟨K - 3, by omega⟩
    obtain ⟨a1, a2, a3, a4, a5, a6, a7, a8, a9⟩ := plat_at h.1
    have hlp := layP_len c b
    have hlv := layP_getD h i (by omega)
    have ih := impl_cmp_loop N h z v hv d (i + 1) K (by omega) (by omega)
    have next : impl_book.l15 N (K + 1) (dA c : Int) (i : Nat) c (z, (), ((), (), (), ()), (), (), ()) v (b.1, (), ((), (), (), ()), (), (), ()) (layP c b) b.2.1 b.2.2.1.1 b.2.2.1.2.1 b.2.2.1.2.2.1 b.2.2.1.2.2.2 b.2.2.2.1 b.2.2.2.2.1 b.2.2.2.2.2 = cond (allB (fun j => decide (3 ≤ j ∧ j < 3 + c.1.toNat ∨ hA c ≤ j → layV c b j = vAt v j)) d (i + 1)) (outT (b, true)) (outT (bk0, false)) := by
      rw [impl_book.l15, w64 (n := (i : Int) + 1) (by omega) (by omega), show (i : Int) + 1 = ((i + 1 : Nat) : Int) by omega]
      exact ih
    rw [impl_book.l7, ct (by omega), impl_book.l9, bnd (by omega) (by omega), impl_isLaid_eq N h.1]
    simp only [Option.bind_some]
    rw [allB]
    by_cases g : 3 ≤ i ∧ i < 3 + c.1.toNat ∨ hA c ≤ i
    · rw [dt (show 3 ≤ i ∧ i < 3 + c.1.toNat ∨ hA c ≤ i ∧ i < dA c by omega), cond_true, bnd (by omega) (by omega), Int.toNat_natCast, hlv, cndn]
      by_cases g2 : layV c b i = v.getD i 0
      · rw [if_pos g2, dt (fun _ => g2), Bool.true_and]; exact next
      · rw [if_neg g2, df (fun q => g2 (q g)), Bool.false_and, impl_book.l14]; rfl
    · rw [df (show ¬ (3 ≤ i ∧ i < 3 + c.1.toNat ∨ hA c ≤ i ∧ i < dA c) by omega), cond_false, dt (fun q => (g q).elim), Bool.true_and]; exact next
theorem impl_vals_loop (N : Nat) (l : List Int) (hw : Words l) (hl : l.length ≤ 100000) : ∀ d i K (M : List Int), i + d = l.length → d < K → M = (l.take i).map (· % 4294967296) → impl_vals.l0 N K l (l.length : Int) (i : Nat) M = some ((), l.map (· % 4294967296))
  | 0, i, K, M, e, hK, hM => by
    obtain ⟨K, rfl⟩ := fuel hK
    rw [impl_vals.l0, cf (by omega), hM, List.take_of_length_le (by omega)]
  | d + 1, i, K, M, e, hK, hM => by
    obtain ⟨K, rfl⟩ := fuel hK
    have hml : M.length ≤ 100000 := by rw [hM, List.length_map, List.length_take]; omega
    rw [impl_vals.l0, ct (by omega), bnd (by omega) (by omega), Int.toNat_natCast, impl_CellVal_eq N (hw.at i)]
    simp only [Option.bind_some]
    rw [ct (by simp; omega), w64 (n := (i : Int) + 1) (by omega) (by omega), show (i : Int) + 1 = ((i + 1 : Nat) : Int) by omega]
    refine impl_vals_loop N l hw hl d (i + 1) K _ (by omega) (by omega) ?_
    rw [hM, getD_lt (by omega), List.take_add_one, List.getElem?_eq_getElem (by omega), List.map_append]
    rfl
theorem impl_BookOpen_eq (N : Nat) {c : Cfg} (h : Plat c) : impl_BookOpen N c = some (((openP c).1, (), ((), (), (), ()), (), (), ()), ((openP c).2.1, (openP c).2.2.2.1, (openP c).2.2.2.2.1, (openP c).2.2.2.2.2)) := by
  unfold impl_BookOpen
  rw [impl_PlatOk_eq, dt h]
  unfold Plat at h
  simp only [Option.bind_some, Bool.not_true, cond_false]
  rw [w64 (n := 8 * c.2.1) (by omega) (by omega)]
  repeat rw [ct (by omega)]
  rw [show 8 * c.2.1 = c.2.1 * 8 by omega]
  rfl
theorem chainR_congr {f g : Nat → Int} {k0 : Nat} {U : Int} {n : Nat} (h : ∀ j, j < n → f j = g j) (hU : (k0 : Int) + U ≤ n) : ∀ m a, chainR f k0 U m a = chainR g k0 U m a
  | 0, a => rfl
  | m + 1, a => by
    rw [chainR, chainR]
    by_cases c : 0 < a ∧ a ≤ U
    · rw [if_pos c, if_pos c, h _ (by omega), chainR_congr h hU m]
    · rw [if_neg c, if_neg c]
theorem map_range_congr {f g : Nat → Int} {n : Nat} (h : ∀ i, i < n → f i = g i) : (List.range n).map f = (List.range n).map g :=
  List.map_congr_left fun i hi => h i (List.mem_range.1 hi)
theorem readB_congr {c : Cfg} (hc : Plat c) {f g : Nat → Int} (h : ∀ j, j < dA c → f j = g j) : readB c f = readB c g := by
  obtain ⟨a1, a2, a3, a4, a5, a6, a7, a8, a9⟩ := plat_at hc
  have hch : ∀ m a, chainR f (kA c) (8 * c.2.1) m a = chainR g (kA c) (8 * c.2.1) m a := chainR_congr h (by omega)
  unfold readB
  rw [map_range_congr (f := fun i => f (pA c + i)) (g := fun i => g (pA c + i)) (fun i hi => h _ (by omega)),
    map_range_congr (f := fun i => f (tA c + i)) (g := fun i => g (tA c + i)) (fun i hi => h _ (by omega)),
    map_range_congr (f := fun i => f (3 + i) % 4) (g := fun i => g (3 + i) % 4) (fun i hi => by rw [h _ (by omega)]),
    map_range_congr (f := fun i => f (3 + i) / 4) (g := fun i => g (3 + i) / 4) (fun i hi => by rw [h _ (by omega)]),
    hch, hch, hch, hch, h (hA c) (by omega), h (hA c + 1) (by omega), h (hA c + 2) (by omega), h (hA c + 3) (by omega)]
theorem censP_congr {c : Cfg} (hc : Plat c) {f g : Nat → Int} (h : ∀ j, j < dA c → f j = g j) : censP c f = censP c g := by
  have e := readB_congr hc h
  have ea : Agree c f (readB c g) ↔ Agree c g (readB c g) := by
    unfold Agree
    constructor
    · intro q j hj g2; rw [← h j hj]; exact q j hj g2
    · intro q j hj g2; rw [h j hj]; exact q j hj g2
  unfold censP
  rw [e]
  by_cases c1 : BookP (readB c g) ∧ Agree c g (readB c g)
  · rw [if_pos c1, if_pos ⟨c1.1, ea.2 c1.2⟩]
  · rw [if_neg c1, if_neg (fun q => c1 ⟨q.1, ea.1 q.2⟩)]
theorem censP_chain {c : Cfg} (hc : Plat c) {v : Nat → Int} (h : BookP (readB c v) ∧ Agree c v (readB c v)) {k : Nat} (hk : k < 4) : chainB v (kA c) (8 * c.2.1) (8 * c.2.1).toNat (v (hA c + k)) = true := by
  have hF := readB_fit hc h.1
  have hnu := fit_nu hF
  exact (agree_chain hF h.2 hk (8 * c.2.1).toNat (by omega)).2
theorem censP_fail {c : Cfg} (hc : Plat c) {v : Nat → Int} {k : Nat} (hk : k < 4) (hf : chainB v (kA c) (8 * c.2.1) (8 * c.2.1).toNat (v (hA c + k)) = false) : censP c v = (bk0, false) := by
  unfold censP
  rw [if_neg]
  intro g
  rw [censP_chain hc g hk] at hf
  cases hf
theorem bk_l3 (N : Nat) (hN : Fuel N) {c : Cfg} (hc : Plat c) (z : Int) (v : List Int) (hv : v.length = dA c) (hnn : ∀ j, 0 ≤ vAt v j ∧ vAt v j < 4294967296) (hbi : Bi (readB c (vAt v))) (hbs : Bshort (readB c (vAt v))) (K : Nat) (hK : 3000 < K) :
    bk3 N K 0 c z v c.1 (readB c (vAt v)).2.1 ([], [], [], []) (readB c (vAt v)).2.2.2.1 (readB c (vAt v)).2.2.2.2.1 (readB c (vAt v)).2.2.2.2.2 = outT (censP c (vAt v)) := by
  obtain ⟨a1, a2, a3, a4, a5, a6, a7, a8, a9⟩ := plat_at hc
  have step := fun (k K : Nat) (hk : k < 4) (h : H4) (he : heads h k = []) (hK : 200 < K) => bk3_step N hc z v hv hnn c.1 (readB c (vAt v)).2.1 (readB c (vAt v)).2.2.2.1 (readB c (vAt v)).2.2.2.2.1 (readB c (vAt v)).2.2.2.2.2 hk K h he hK
  obtain ⟨K1, g1, e1⟩ := step 0 K (by omega) ([], [], [], []) rfl (by omega)
  have e1' : bk3 N K 0 c z v c.1 (readB c (vAt v)).2.1 ([], [], [], []) (readB c (vAt v)).2.2.2.1 (readB c (vAt v)).2.2.2.2.1 (readB c (vAt v)).2.2.2.2.2 = _ := e1
  rw [e1']
  cases h0 : chainB (vAt v) (kA c) (8 * c.2.1) (8 * c.2.1).toNat (vAt v (hA c + 0))
  · rw [cond_false, censP_fail hc (k := 0) (by omega) h0]
  rw [cond_true]
  obtain ⟨K2, g2, e2⟩ := step 1 K1 (by omega) (hset ([], [], [], []) 0 (chainR (vAt v) (kA c) (8 * c.2.1) ((8 * c.2.1).toNat + 1) (vAt v (hA c + 0)))) rfl (by omega)
  rw [e2]
  cases h1 : chainB (vAt v) (kA c) (8 * c.2.1) (8 * c.2.1).toNat (vAt v (hA c + 1))
  · rw [cond_false, censP_fail hc (k := 1) (by omega) h1]
  rw [cond_true]
  obtain ⟨K3, g3, e3⟩ := step 2 K2 (by omega) (hset (hset ([], [], [], []) 0 (chainR (vAt v) (kA c) (8 * c.2.1) ((8 * c.2.1).toNat + 1) (vAt v (hA c + 0)))) 1 (chainR (vAt v) (kA c) (8 * c.2.1) ((8 * c.2.1).toNat + 1) (vAt v (hA c + 1)))) rfl (by omega)
  rw [e3]
  cases h2 : chainB (vAt v) (kA c) (8 * c.2.1) (8 * c.2.1).toNat (vAt v (hA c + 2))
  · rw [cond_false, censP_fail hc (k := 2) (by omega) h2]
  rw [cond_true]
  obtain ⟨K4, g4, e4⟩ := step 3 K3 (by omega) (hset (hset (hset ([], [], [], []) 0 (chainR (vAt v) (kA c) (8 * c.2.1) ((8 * c.2.1).toNat + 1) (vAt v (hA c + 0)))) 1 (chainR (vAt v) (kA c) (8 * c.2.1) ((8 * c.2.1).toNat + 1) (vAt v (hA c + 1)))) 2 (chainR (vAt v) (kA c) (8 * c.2.1) ((8 * c.2.1).toNat + 1) (vAt v (hA c + 2)))) rfl (by omega)
  rw [e4]
  cases h3 : chainB (vAt v) (kA c) (8 * c.2.1) (8 * c.2.1).toNat (vAt v (hA c + 3))
  · rw [cond_false, censP_fail hc (k := 3) (by omega) h3]
  rw [cond_true]
  obtain ⟨K4, rfl⟩ : ∃ j, K4 = j + 1 + 1 := ⟨K4 - 2, by omega⟩
  have hok : impl_BookOk N (readB c (vAt v)) = some (bookOk (readB c (vAt v)), ()) := impl_BookOk_eq N hN _ hbi hbs
  have hok' : impl_BookOk N (c.1, (readB c (vAt v)).2.1, ((readB c (vAt v)).2.2.1.1, (readB c (vAt v)).2.2.1.2.1, (readB c (vAt v)).2.2.1.2.2.1, (readB c (vAt v)).2.2.1.2.2.2), (readB c (vAt v)).2.2.2.1, (readB c (vAt v)).2.2.2.2.1, (readB c (vAt v)).2.2.2.2.2) = some (bookOk (readB c (vAt v)), ()) := hok
  show impl_book.l3 N (K4 + 1 + 1) 4 c (z, (), ((), (), (), ()), (), (), ()) v (c.1, (), ((), (), (), ()), (), (), ()) (readB c (vAt v)).2.1 (readB c (vAt v)).2.2.1.1 (readB c (vAt v)).2.2.1.2.1 (readB c (vAt v)).2.2.1.2.2.1 (readB c (vAt v)).2.2.1.2.2.2 (readB c (vAt v)).2.2.2.1 (readB c (vAt v)).2.2.2.2.1 (readB c (vAt v)).2.2.2.2.2 = _
  rw [impl_book.l3, cf (by omega), hok']
  simp only [Option.bind_some]
  unfold censP
  by_cases hb : BookP (readB c (vAt v))
  rotate_left
  · rw [bookOk, tf_f hb, Bool.not_false, cond_true, impl_book.l6, if_neg (fun g => hb g.1)]; rfl
  have hF := readB_fit hc hb
  have hlay : impl_lay N c (c.1, (readB c (vAt v)).2.1, ((readB c (vAt v)).2.2.1.1, (readB c (vAt v)).2.2.1.2.1, (readB c (vAt v)).2.2.1.2.2.1, (readB c (vAt v)).2.2.1.2.2.2), (readB c (vAt v)).2.2.2.1, (readB c (vAt v)).2.2.2.2.1, (readB c (vAt v)).2.2.2.2.2) = some ((), layP c (readB c (vAt v))) := impl_lay_eq N hN hF
  rw [bookOk, tf_t hb, Bool.not_true, cond_false, hlay]
  simp only [Option.bind_some]
  rw [layP_len]
  have := impl_cmp_loop N hF z v hv (dA c) 0 (K4 + 1) (by omega) (by omega)
  refine this.trans ?_
  have hag : Agree c (vAt v) (readB c (vAt v)) ↔ allB (fun j => decide (3 ≤ j ∧ j < 3 + c.1.toNat ∨ hA c ≤ j → layV c (readB c (vAt v)) j = vAt v j)) (dA c) 0 = true := by
    rw [allB_iff]
    unfold Agree
    constructor
    · intro h j _ h2; exact decide_eq_true (fun q => h j (by omega) q)
    · intro h j h1 h2; exact of_decide_eq_true (h j (by omega) (by omega)) h2
  by_cases g : Agree c (vAt v) (readB c (vAt v))
  · rw [if_pos ⟨hb, g⟩, hag.1 g]; rfl
  · rw [if_neg (fun q => g q.2)]
    cases hq : allB (fun j => decide (3 ≤ j ∧ j < 3 + c.1.toNat ∨ hA c ≤ j → layV c (readB c (vAt v)) j = vAt v j)) (dA c) 0
    · rfl
    · exact (g (hag.2 hq)).elim
theorem bk_l1 (N : Nat) (hN : Fuel N) {c : Cfg} (hc : Plat c) (z : Int) (v : List Int) (hv : v.length = dA c) (hnn : ∀ j, 0 ≤ vAt v j ∧ vAt v j < 4294967296) (hbi : Bi (readB c (vAt v))) (hbs : Bshort (readB c (vAt v))) : ∀ d i K (I E : List Int), i + d = c.1.toNat → 3 * d + 4000 < K → I.length = c.1.toNat → E.length = c.1.toNat → (∀ j, j < i → I.getD j 0 = vAt v (3 + j) % 4 ∧ E.getD j 0 = vAt v (3 + j) / 4) →
    impl_book.l1 N K c.1 (i : Nat) c (z, (), ((), (), (), ()), (), (), ()) v (c.1, (), ((), (), (), ()), (), (), ()) (readB c (vAt v)).2.1 (readB c (vAt v)).2.2.2.1 I E = outT (censP c (vAt v))
  | 0, i, K, I, E, e, hK, hI, hE, hx => by
    obtain ⟨a1, a2, a3, a4, a5, a6, a7, a8, a9⟩ := plat_at hc
    obtain ⟨K, rfl⟩ := fuel (show 0 < K by omega)
    have e1 : I = (readB c (vAt v)).2.2.2.2.1 := (map_eq (f := fun i => vAt v (3 + i) % 4) hI fun j hj => (hx j (by omega)).1.symm).symm
    have e2 : E = (readB c (vAt v)).2.2.2.2.2 := (map_eq (f := fun i => vAt v (3 + i) / 4) hE fun j hj => (hx j (by omega)).2.symm).symm
    rw [impl_book.l1, cf (by omega), e1, e2]
    exact bk_l3 N hN hc z v hv hnn hbi hbs K (by omega)
  | d + 1, i, K, I, E, e, hK, hI, hE, hx => by
    obtain ⟨a1, a2, a3, a4, a5, a6, a7, a8, a9⟩ := plat_at hc
    obtain ⟨K, rfl⟩ : ∃ j, K = j + 1 + 1 + 1 := ⟨K - 3, by omega⟩
    have hn : 0 ≤ v.getD (3 + i) 0 ∧ v.getD (3 + i) 0 < 4294967296 := hnn (3 + i)
    have h3 : (3 + (i : Int)).toNat = 3 + i := by omega
    rw [impl_book.l1, ct (by omega), impl_book.l2, impl_regAt_eq]
    simp only [Option.bind_some]
    rw [w64 (n := 3 + (i : Int)) (by omega) (by omega), bnd (by omega) (by omega), bnd (by omega) (by omega), bnd (by omega) (by omega), bnd (by omega) (by omega), h3, tm hn.1, td hn.1, w64 (n := v.getD (3 + i) 0 / 4) (by omega) (by omega), Int.toNat_natCast, impl_book.l4, w64 (n := (i : Int) + 1) (by omega) (by omega), show (i : Int) + 1 = ((i + 1 : Nat) : Int) by omega]
    refine bk_l1 N hN hc z v hv hnn hbi hbs d (i + 1) K _ _ (by omega) (by omega) (by rw [List.length_set]; exact hI) (by rw [List.length_set]; exact hE) (fun j hj => ?_)
    rw [getD_set _ _ _ _ (by omega), getD_set _ _ _ _ (by omega)]
    by_cases g : j = i
    · rw [if_pos g, if_pos g, g]; exact ⟨rfl, rfl⟩
    · rw [if_neg g, if_neg g]; exact hx j (by omega)
theorem slice_getD (v : List Int) (a n j : Nat) (hj : j < n) : ((v.drop a).take n).getD j 0 = v.getD (a + j) 0 := by
  simp only [List.getD_eq_getElem?_getD, List.getElem?_take, List.getElem?_drop, if_pos hj]
theorem cpy_all (n a : Nat) (v : List Int) (h : a + n ≤ v.length) : cpy (List.replicate n (0 : Int)) 0 (min ((v.drop a).take n).length (List.replicate n (0 : Int)).length) ((v.drop a).take n) = (List.range n).map (fun i => vAt v (a + i)) := by
  have hl : ((v.drop a).take n).length = n := by rw [List.length_take, List.length_drop]; omega
  have hr : (List.replicate n (0 : Int)).length = n := List.length_replicate ..
  rw [hl, hr, Nat.min_self]
  obtain ⟨q1, q2⟩ := cpy_getD (List.replicate n (0 : Int)) 0 n ((v.drop a).take n) (by rw [hr]; omega) (by omega)
  refine (map_eq (by rw [q1, hr]) fun i hi => ?_).symm
  rw [q2 i, if_pos (by omega), Nat.sub_zero, slice_getD v a n i hi]
theorem impl_book_eq (N : Nat) (hN : Fuel N) {c : Cfg} (hc : Plat c) {w : List Int} (hw : Words w) (hl : dA c ≤ w.length) : impl_book N c w = outT (censP c (valW w)) := by
  obtain ⟨a1, a2, a3, a4, a5, a6, a7, a8, a9⟩ := plat_at hc
  have hh : house c = (dA c : Int) := by unfold house; omega
  have hlen : (w.take (dA c)).length = dA c := by rw [List.length_take]; omega
  have hwt : Words (w.take (dA c)) := fun x hx => hw x (List.mem_of_mem_take hx)
  have hvals := impl_vals_loop N (w.take (dA c)) hwt (by omega) (w.take (dA c)).length 0 N [] (by omega) (by unfold Fuel at hN; omega) (by simp)
  obtain ⟨v, hv⟩ : ∃ v, v = (w.take (dA c)).map (· % 4294967296) := ⟨_, rfl⟩
  have hvl : v.length = dA c := by rw [hv, List.length_map]; exact hlen
  have hvv : ∀ j, j < dA c → vAt v j = valW w j := fun j hj => by
    unfold vAt valW
    rw [getD_lt (by omega), getD_lt (by omega)]
    simp [hv]
  have hnn : ∀ j, 0 ≤ vAt v j ∧ vAt v j < 4294967296 := fun j => by
    by_cases g : j < dA c
    · rw [hvv j g]; exact valW_nn w j
    · have : vAt v j = 0 := by unfold vAt; rw [List.getD_eq_getElem?_getD, List.getElem?_eq_none (by omega)]; rfl
      rw [this]; omega
  have er := readB_congr hc hvv
  obtain ⟨r1, r2⟩ := readB_ok hc w
  rw [← er] at r1 r2
  unfold impl_book
  rw [impl_deskAt_eq N hc]
  simp only [Option.bind_some]
  rw [hh, dt (show (0 : Int) ≤ dA c by omega), dt (show ((dA c : Nat) : Int) ≤ w.length by omega), Int.toNat_natCast, List.drop_zero]
  simp only [cond_true]
  unfold impl_vals
  have hvals' : impl_vals.l0 N N (w.take (dA c)) ((w.take (dA c)).length : Int) 0 [] = some ((), v) := by rw [hv]; exact hvals
  rw [hvals', impl_BookOpen_eq N hc]
  simp only [Option.bind_some]
  obtain ⟨m, hm⟩ : ∃ m, N = m + 1 := ⟨N - 1, by unfold Fuel at hN; omega⟩
  have hm2 : 100000 < m := by unfold Fuel at hN; omega
  rw [← censP_congr hc hvv]
  have key : ∀ K, 100000 < K → impl_book.l0 N (K + 1) c (0, (), ((), (), (), ()), (), (), ()) v ((openP c).1, (), ((), (), (), ()), (), (), ()) (openP c).2.1 (openP c).2.2.2.1 (openP c).2.2.2.2.1 (openP c).2.2.2.2.2 = outT (censP c (vAt v)) := by
    intro K hK
    rw [impl_book.l0, impl_pageAt_eq N hc, impl_tagAt_eq N hc, impl_linkAt_eq N hc]
    simp only [Option.bind_some]
    have p1 : (7 + 2 * c.1).toNat = pA c := rfl
    have p2 : (7 + 2 * c.1 + c.2.1).toNat = tA c := rfl
    have p3 : (7 + 2 * c.1 + 9 * c.2.1).toNat = kA c := rfl
    rw [dt (show (0 : Int) ≤ 7 + 2 * c.1 + c.2.1 by omega), dt (show 7 + 2 * c.1 + c.2.1 ≤ (v.length : Int) by omega), dt (show (0 : Int) ≤ 7 + 2 * c.1 by omega), dt (show 7 + 2 * c.1 ≤ 7 + 2 * c.1 + c.2.1 by omega), dt (show (0 : Int) ≤ 7 + 2 * c.1 + 9 * c.2.1 by omega), dt (show 7 + 2 * c.1 + 9 * c.2.1 ≤ (v.length : Int) by omega), dt (show 7 + 2 * c.1 + c.2.1 ≤ 7 + 2 * c.1 + 9 * c.2.1 by omega)]
    simp only [cond_true]
    rw [p1, p2, p3, show tA c - pA c = c.2.1.toNat by omega, show kA c - tA c = (8 * c.2.1).toNat by omega]
    have o1 : (openP c).2.1 = List.replicate c.2.1.toNat 0 := rfl
    have o2 : (openP c).2.2.2.1 = List.replicate (8 * c.2.1).toNat 0 := by show List.replicate (c.2.1 * 8).toNat 0 = _; rw [show c.2.1 * 8 = 8 * c.2.1 by omega]
    rw [o1, o2, cpy_all _ _ v (by omega), cpy_all _ _ v (by omega)]
    have hi : (openP c).2.2.2.2.1.length = c.1.toNat := List.length_replicate ..
    have hep : (openP c).2.2.2.2.2.length = c.1.toNat := List.length_replicate ..
    exact bk_l1 N hN hc 0 v hvl hnn r1 r2 c.1.toNat 0 K _ _ (by omega) (by omega) hi hep (fun j hj => by omega)
  have := key m hm2
  rw [← hm] at this
  exact this
theorem impl_CensBook_eq (N : Nat) (hN : Fuel N) {w : List Int} (hw : Words w) : impl_CensBook N w = outT (censBook w) := by
  unfold impl_CensBook censBook
  by_cases hH : Head w
  rotate_left
  · obtain ⟨c, hc⟩ := impl_cfgOf_no N hw hH
    rw [hc, if_neg (fun g => hH g.1)]; rfl
  have hc := hH.2.2
  rw [impl_cfgOf_yes N hw hH]
  simp only [Option.bind_some]
  rw [Bool.not_true, cond_false, impl_size_eq N hc, impl_deskAt_eq N hc]
  simp only [Option.bind_some, cndn]
  by_cases c1 : (w.length : Int) = size (cfg (w.getD 0 0))
  · have hL : Laid w := ⟨hH, .inl c1⟩
    rw [if_pos c1, if_pos hL, impl_book_eq N hN hc hw (laid_len hL)]; rfl
  rw [if_neg c1]
  by_cases c2 : (w.length : Int) = house (cfg (w.getD 0 0))
  · have hL : Laid w := ⟨hH, .inr c2⟩
    rw [if_pos c2, if_pos hL, impl_book_eq N hN hc hw (laid_len hL)]; rfl
  · rw [if_neg c2, if_neg (fun g => by rcases g.2 with q | q; exact c1 q; exact c2 q)]; rfl
theorem censBook_short {w : List Int} : Bi (censBook w).1 ∧ Bshort (censBook w).1 := by
  unfold censBook
  by_cases h : Laid w
  · rw [if_pos h]
    unfold censP
    by_cases g : BookP (readB (cfg (w.getD 0 0)) (valW w)) ∧ Agree (cfg (w.getD 0 0)) (valW w) (readB (cfg (w.getD 0 0)) (valW w))
    · rw [if_pos g]; exact ⟨g.1.ints, g.1.short⟩
    · rw [if_neg g]; exact ⟨bk0_ints, bk0_short⟩
  · rw [if_neg h]; exact ⟨bk0_ints, bk0_short⟩
/-- A word of a value and a stamp. -/
def pack (v s : Int) : Int := low s 4294967295 * 4294967296 + low v 4294967295
theorem pack_w (v s : Int) : W64 (pack v s) := by
  have h1 := low_ge v 4294967295 (by omega)
  have h2 := low_le v 4294967295 (by omega)
  have h3 := low_ge s 4294967295 (by omega)
  have h4 := low_le s 4294967295 (by omega)
  unfold pack W64; omega
theorem impl_CellPack_eq (N : Nat) (v s : Int) : impl_CellPack N v s = some (pack v s, ()) := by
  have h1 := low_ge v 4294967295 (by omega)
  have h2 := low_le v 4294967295 (by omega)
  have h3 := low_ge s 4294967295 (by omega)
  have h4 := low_le s 4294967295 (by omega)
  unfold impl_CellPack pack
  rw [impl_clamp_eq N s 4294967295 (by omega), impl_clamp_eq N v 4294967295 (by omega)]
  simp only [Option.bind_some]
  obtain ⟨a, ha⟩ := Int.eq_ofNat_of_zero_le h3
  obtain ⟨b, hb⟩ := Int.eq_ofNat_of_zero_le h1
  rw [ha] at h3 h4 ⊢
  rw [hb] at h1 h2 ⊢
  have e2 : (2 : Int) ^ 32 = 4294967296 := by decide
  rw [e2, u64w (n := (a : Int)) (by omega) (by omega), u64w (n := (b : Int)) (by omega) (by omega), u64w (n := (a : Int) * 4294967296) (by omega) (by omega)]
  have e : (BitVec.ofInt 64 ((a : Int) * 4294967296) ||| BitVec.ofInt 64 (b : Int)).toNat = 2 ^ 32 * a + b := by
    rw [BitVec.toNat_or, BitVec.toNat_ofInt, BitVec.toNat_ofInt]
    have q1 : ((a : Int) * 4294967296 % ((2 ^ 64 : Nat) : Int)).toNat = 2 ^ 32 * a := by omega
    have q2 : ((b : Int) % ((2 ^ 64 : Nat) : Int)).toNat = b := by omega
    rw [q1, q2, ← Nat.two_pow_add_eq_or_of_lt (by omega)]
  rw [e, u64w (by omega) (by omega)]
  congr 2
  omega
theorem spec_CellPack_eq' (N : Nat) (v s : Int) : spec_CellPack N v s = some (pack v s, ()) := spec_CellPack_eq N v s
def stampOf (x : Int) : Int := x / 4294967296
def valOf (x : Int) : Int := x % 4294967296
theorem pack_val {v s : Int} (h1 : 0 ≤ v) (h2 : v ≤ 4294967295) : valOf (pack v s) = v := by
  unfold valOf pack; rw [low_id h1 h2]; omega
theorem pack_stamp {v s : Int} (h1 : 0 ≤ s) (h2 : s ≤ 4294967295) : stampOf (pack v s) = s := by
  have h3 := low_ge v 4294967295 (by omega)
  have h4 := low_le v 4294967295 (by omega)
  unfold stampOf pack; rw [low_id h1 h2]; omega
theorem spec_Door0 (N : Nat) (s : Int) : spec_CellDoor N 0 0 0 s = some (pack 0 s, ()) := by
  unfold spec_CellDoor
  rw [spec_l1Low_eq, spec_l1Low_eq, spec_l1Low_eq]
  simp only [Option.bind_some]
  have e1 : low 0 2 = 0 := rfl
  have e2 : low 0 7 = 0 := rfl
  have e3 : low 0 4095 = 0 := rfl
  rw [e1, e2, e3, w64 (n := 4 * 0) (by omega) (by omega), w64 (n := 32 * 0) (by omega) (by omega), w64 (n := 0 + 4 * 0) (by omega) (by omega), w64 (n := 0 + 4 * 0 + 32 * 0) (by omega) (by omega), spec_CellPack_eq']
  rfl
theorem impl_Door0 (N : Nat) (s : Int) : impl_CellDoor N 0 0 0 s = some (pack 0 s, ()) := by
  unfold impl_CellDoor
  rw [impl_clamp_eq N _ _ (by omega), impl_clamp_eq N _ _ (by omega), impl_clamp_eq N _ _ (by omega)]
  simp only [Option.bind_some]
  have e1 : low 0 2 = 0 := rfl
  have e2 : low 0 7 = 0 := rfl
  have e3 : low 0 4095 = 0 := rfl
  rw [e1, e2, e3, w64 (n := 4 * 0) (by omega) (by omega), w64 (n := 32 * 0) (by omega) (by omega), w64 (n := 0 + 4 * 0) (by omega) (by omega), w64 (n := 0 + 4 * 0 + 32 * 0) (by omega) (by omega), impl_CellPack_eq]
  rfl
theorem words_set {w : List Int} (h : Words w) (i : Nat) {x : Int} (hx : W64 x) : Words (w.set i x) := fun y hy => by
  rcases List.mem_or_eq_of_mem_set hy with g | g
  · exact h y g
  · rw [g]; exact hx
theorem free_np (b : Bk) (u : Nat) : (freeP b u).1 = b.1 ∧ np (freeP b u) = np b := by
  unfold freeP
  dsimp only
  split
  · cases tf (FreeP (wHd (wOw b u 0) (pg b (u / 8) - 1).toNat ((u : Int) :: hd b (pg b (u / 8) - 1).toNat)) (u / 8) 0)
    · exact ⟨rfl, rfl⟩
    · refine ⟨rfl, ?_⟩
      show (b.2.1.set (u / 8) 0).length = _; rw [List.length_set]; rfl
  · refine ⟨rfl, ?_⟩
    show (setRow b.2.1 0 _ _).length = _; rw [setRow_len]; rfl
theorem take_np (b : Bk) (s u : Int) : (takeP b s u).1.1 = b.1 ∧ np (takeP b s u).1 = np b := by
  unfold takeP
  split
  · exact ⟨rfl, rfl⟩
  split
  · unfold pagesP
    split
    · exact ⟨rfl, rfl⟩
    · refine ⟨rfl, ?_⟩
      show (setRow (b.2.1.set _ _) 7 _ _).length = _; rw [setRow_len, List.length_set]; rfl
  dsimp only
  split
  · split
    · exact ⟨rfl, rfl⟩
    · refine ⟨rfl, ?_⟩
      show (b.2.1.set _ _).length = _; rw [List.length_set]; rfl
  · exact ⟨rfl, rfl⟩
theorem do_np (b : Bk) (op : Op) : (doP b op).1.1 = b.1 ∧ np (doP b op).1 = np b := by
  unfold doP
  split
  · exact ⟨rfl, rfl⟩
  split
  · unfold enterP
    split
    · exact ⟨rfl, rfl⟩
    split <;> exact ⟨rfl, rfl⟩
  split
  · exact ⟨rfl, rfl⟩
  unfold ownP
  split
  · exact take_np b _ _
  split
  · split
    · exact ⟨rfl, rfl⟩
    · exact free_np b _
  split
  · split
    · exact ⟨rfl, rfl⟩
    split <;> exact ⟨rfl, rfl⟩
  split
  · split <;> exact ⟨rfl, rfl⟩
  split
  · unfold reapP
    split
    · exact ⟨rfl, rfl⟩
    split
    · exact ⟨rfl, rfl⟩
    split
    · exact ⟨rfl, rfl⟩
    · exact free_np b _
  · exact ⟨rfl, rfl⟩
theorem Fit.do {c : Cfg} {b : Bk} (h : Fit c b) (op : Op) : Fit c (doP b op).1 := by
  have := do_np b op
  exact ⟨h.1, do_ok h.2.1 op, by rw [this.1]; exact h.2.2.1, by rw [this.2]; exact h.2.2.2⟩
theorem cens_fit {w : List Int} (h : (censBook w).2 = true) : Laid w ∧ Fit (cfg (w.getD 0 0)) (censBook w).1 ∧ Agree (cfg (w.getD 0 0)) (valW w) (censBook w).1 := by
  unfold censBook at h ⊢
  by_cases c : Laid w
  rotate_left
  · rw [if_neg c] at h; cases h
  rw [if_pos c] at h ⊢
  unfold censP at h ⊢
  by_cases g : BookP (readB (cfg (w.getD 0 0)) (valW w)) ∧ Agree (cfg (w.getD 0 0)) (valW w) (readB (cfg (w.getD 0 0)) (valW w))
  · rw [if_pos g]; exact ⟨c, readB_fit c.1.2.2 g.1, g.2⟩
  · rw [if_neg g] at h; cases h
theorem dA_le {c : Cfg} (h : Plat c) : dA c ≤ 200 := by
  obtain ⟨a1, a2, a3, a4, a5, a6, a7, a8, a9⟩ := plat_at h
  omega
/-- The first word of a house. -/
def headW (c : Cfg) : Int := pack (c.1 + 8 * c.2.1 + 64 * c.2.2) 201115
theorem headW_val {c : Cfg} (h : Plat c) : valOf (headW c) = c.1 + 8 * c.2.1 + 64 * c.2.2 := by
  unfold Plat at h
  exact pack_val (by omega) (by omega)
theorem headW_cfg {c : Cfg} (h : Plat c) : cfg (headW c) = c := by
  have e := headW_val h
  have h' := h
  unfold valOf at e
  unfold Plat at h'
  unfold cfg
  rw [e]
  exact Prod.ext (show _ = _ by dsimp only; omega) (Prod.ext (show _ = _ by dsimp only; omega) (show _ = _ by dsimp only; omega))
/-- Words of a house, with its first word. -/
def HW (c : Cfg) (w : List Int) : Prop := Words w ∧ (w.length : Int) = size c ∧ w.getD 0 0 = headW c
theorem HW.cfg {c : Cfg} {w : List Int} (hc : Plat c) (h : HW c w) : cfg (w.getD 0 0) = c := by rw [h.2.2]; exact headW_cfg hc
theorem HW.len {c : Cfg} {w : List Int} (hc : Plat c) (h : HW c w) : (w.length : Int) = 7 + 23 * c.1 + 17 * c.2.1 ∧ 40 ≤ w.length ∧ w.length ≤ 1000 ∧ dA c + 21 ≤ w.length ∧ (dA c : Int) = 7 + 2 * c.1 + 17 * c.2.1 := by
  have h1 := h.2.1
  obtain ⟨a1, a2, a3, a4, a5, a6, a7, a8, a9⟩ := plat_at hc
  unfold size at h1
  omega
theorem HW.head {c : Cfg} {w : List Int} (hc : Plat c) (h : HW c w) : Head w := by
  obtain ⟨l1, l2, l3, l4, l5⟩ := h.len hc
  refine ⟨by omega, ?_, by rw [h.cfg hc]; exact hc⟩
  rw [h.2.2]
  exact pack_stamp (by omega) (by omega)
theorem HW.set {c : Cfg} {w : List Int} (h : HW c w) {i : Nat} (hi : i ≠ 0) {x : Int} (hx : W64 x) : HW c (w.set i x) := by
  refine ⟨words_set h.1 _ hx, by rw [List.length_set]; exact h.2.1, ?_⟩
  rw [← h.2.2]
  rw [List.getD_eq_getElem?_getD, List.getD_eq_getElem?_getD, List.getElem?_set_ne hi]
def formP (c : Cfg) : List Int := ((List.replicate (size c).toNat 0).set 0 (headW c)).set 2 (pack 0 1)
theorem formP_hw {c : Cfg} (hc : Plat c) : HW c (formP c) := by
  have hs : (0 : Int) < size c := by unfold Plat at hc; unfold size; omega
  refine HW.set ⟨words_set (fun x hx => ?_) _ (pack_w _ _), by rw [List.length_set, List.length_replicate]; omega, ?_⟩ (by omega) (pack_w _ _)
  · rw [List.eq_of_mem_replicate hx]; exact ⟨by decide, by decide⟩
  · rw [getD_set _ _ _ _ (by rw [List.length_replicate]; omega), if_pos rfl]; rfl
theorem spec_PlatFormat_eq (N : Nat) {c : Cfg} (hc : Plat c) : spec_PlatFormat N c = some ((), formP c) := by
  have h' := hc
  unfold Plat at h'
  have hs : size c = 7 + 23 * c.1 + 17 * c.2.1 := rfl
  unfold spec_PlatFormat spec_l2Magic
  rw [spec_PlatOk_eq, dt hc, spec_l2Size_eq N hc]
  simp only [Option.bind_some, Bool.not_true, cond_false]
  rw [ct (by omega), ct (by omega), ct (by omega), w64 (n := 8 * c.2.1) (by omega) (by omega), w64 (n := 64 * c.2.2) (by omega) (by omega), w64 (n := c.1 + 8 * c.2.1) (by omega) (by omega), w64 (n := c.1 + 8 * c.2.1 + 64 * c.2.2) (by omega) (by omega), spec_CellPack_eq', spec_CellPack_eq']
  simp only [Option.bind_some]
  rw [ct (by rw [List.length_replicate]; omega), ct (by rw [List.length_set, List.length_replicate]; omega)]
  rfl
theorem impl_PlatFormat_eq (N : Nat) {c : Cfg} (hc : Plat c) : impl_PlatFormat N c = some ((), formP c) := by
  have h' := hc
  unfold Plat at h'
  have hs : size c = 7 + 23 * c.1 + 17 * c.2.1 := rfl
  unfold impl_PlatFormat
  rw [impl_PlatOk_eq, dt hc, impl_size_eq N hc]
  simp only [Option.bind_some, Bool.not_true, cond_false]
  rw [ct (by omega), ct (by omega), ct (by omega), w64 (n := 8 * c.2.1) (by omega) (by omega), w64 (n := 64 * c.2.2) (by omega) (by omega), w64 (n := c.1 + 8 * c.2.1) (by omega) (by omega), w64 (n := c.1 + 8 * c.2.1 + 64 * c.2.2) (by omega) (by omega), impl_CellPack_eq, impl_Door0]
  simp only [Option.bind_some]
  rw [ct (by rw [List.length_replicate]; omega), ct (by rw [List.length_set, List.length_replicate]; omega)]
  rfl
theorem bookCut_fit {c : Cfg} {b : Bk} (h : Fit c b) (s : Int) : Fit c (bookCut b s) := by
  have e : (bookCut b s).1 = b.1 ∧ np (bookCut b s) = np b := by
    unfold bookCut
    rw [if_pos h.2.1]
    unfold cutP
    split <;> exact ⟨rfl, rfl⟩
  exact ⟨h.1, bookCut_ok h.2.1 s, by rw [e.1]; exact h.2.2.1, by rw [e.2]; exact h.2.2.2⟩
theorem l3Book_fl {N : Nat} (hN : Fuel N) {c : Cfg} (n : Nat) (z : BkU) : ∀ d i k j (s : St) (b : Bk), i + d = n → d < k → n ≤ 1000 → Rd (j + 20 * d) s → Fit c b →
    Ok (spec_l3Book.l0 N k n i s z (b.1, (), ((), (), (), ()), (), (), ()) b.2.1 b.2.2.1.1 b.2.2.1.2.1 b.2.2.1.2.2.1 b.2.2.1.2.2.2 b.2.2.2.1 b.2.2.2.2.1 b.2.2.2.2.2) (fun r => Fit c (bkS r) ∧ Rd j (stS r))
  | 0, i, k, j, s, b, h1, h2, h3, h4, h5 => by
    obtain ⟨k, rfl⟩ := fuel h2
    rw [spec_l3Book.l0, cf (by omega)]
    exact Ok.val ⟨h5, h4⟩
  | d + 1, i, k, j, s, b, h1, h2, h3, h4, h5 => by
    obtain ⟨k, rfl⟩ := fuel h2
    have hb := h5.2.1
    have hdim := hb.dims
    rw [spec_l3Book.l0, ct (by omega)]
    refine (pick_ok (k := j + 20 * d + 19) (h4.mono (by omega))).bind fun u2 g2 => Ok.beq (fun _ => ?_) fun _ => ?_
    · refine (pick_ok (k := j + 20 * d + 18) g2.2.2).bind fun u3 g3 => ?_
      have e : spec_BookCut N (b.1, b.2.1, (b.2.2.1.1, b.2.2.1.2.1, b.2.2.1.2.2.1, b.2.2.1.2.2.2), b.2.2.2.1, b.2.2.2.2.1, b.2.2.2.2.2) u3.1 = outB (bookCut b u3.1) := spec_BookCut_eq N hN b hb.ints hb.short u3.1
      rw [e]
      simp only [Option.bind_some]
      rw [wi (by omega)]
      exact l3Book_fl hN n _ d (i + 1) k j u3.2 (bookCut b u3.1) (by omega) (by omega) h3 (g3.2.2.mono (by omega)) (bookCut_fit h5 _)
    · refine (l3Op_ok (j := j + 20 * d + 9) hN (b := (b.1, b.2.1, (b.2.2.1.1, b.2.2.1.2.1, b.2.2.1.2.2.1, b.2.2.1.2.2.2), b.2.2.2.1, b.2.2.2.2.1, b.2.2.2.2.2)) hb.bd g2.2.2).bind fun u5 g5 => ?_
      rw [wi (by omega)]
      refine Ok.ite (fun _ => ?_) fun _ => ?_
      · rw [spec_l3Do_eq N hN hb hb.ints (1, (i : Int), 0, 0)]
        simp only [Option.bind_some]
        exact l3Book_fl hN n _ d (i + 1) k j u5.2 (doP b (1, (i : Int), 0, 0)).1 (by omega) (by omega) h3 (g5.2.mono (by omega)) (h5.do _)
      · rw [spec_l3Do_eq N hN hb hb.ints u5.1]
        simp only [Option.bind_some]
        exact l3Book_fl hN n _ d (i + 1) k j u5.2 (doP b u5.1).1 (by omega) (by omega) h3 (g5.2.mono (by omega)) (h5.do _)
theorem l3Book_fit {N : Nat} (hN : Fuel N) {c : Cfg} (hc : Plat c) {n : Int} (hn : 0 ≤ n) (hn2 : n ≤ 100) {j : Nat} {s : St} (h : Rd (j + 2000) s) : Ok (spec_l3Book N c n s) (fun r => Fit c (bkS r) ∧ Rd j (stS r)) := by
  unfold spec_l3Book
  rw [spec_BookOpen_eq N hc]
  simp only [Option.bind_some]
  obtain ⟨m, rfl⟩ : ∃ m : Nat, n = m := ⟨n.toNat, by omega⟩
  have hc' := hc
  unfold Plat at hc'
  exact l3Book_fl hN m _ m 0 N j s (openP c) (by omega) (by unfold Fuel at hN; omega) (by omega) (h.mono (by omega)) ⟨hc, open_valid hc, rfl, by show ((List.replicate c.2.1.toNat (0 : Int)).length : Int) = c.2.1; rw [List.length_replicate]; omega⟩
theorem l4Words_l1 {N : Nat} {c : Cfg} (hc : Plat c) {Q : List Int → Prop} (hQ : ∀ W, Q W → HW c W) (hS : ∀ (W : List Int) (i : Nat) (x : Int), Q W → i ≠ 0 → i < dA c → W64 x → Q (W.set i x)) {b : Bk} (hf : Fit c b) (v : Int) : ∀ (d i K j : Nat) (s : St) (W : List Int), (i : Int) + d = c.1 → d + 5 < K → Q W → Rd (j + d + 10) s →
    Ok (spec_l4Words.l1 N K v (i : Nat) s c b W) (fun r => Q r.2.1 ∧ Rd j r.2.2)
  | 0, i, K, j, s, W, e, hK, hW, hs => by
    obtain ⟨K, rfl⟩ := fuel hK
    obtain ⟨l1, l2, l3, l4, l5⟩ := (hQ _ hW).len hc
    rw [spec_l4Words.l1, cf (by omega)]
    refine (pick_ok (k := j + 9) (hs.mono (by omega))).bind fun u1 g1 => ?_
    rw [spec_CellPack_eq']
    simp only [Option.bind_some]
    rw [ct (by omega), spec_Door0]
    simp only [Option.bind_some]
    rw [ct (by rw [List.length_set]; omega)]
    exact Ok.val ⟨hS _ _ _ (hS _ _ _ hW (by omega) (by have := plat_at hc; omega) (pack_w _ _)) (by omega) (by have := plat_at hc; omega) (pack_w _ _), g1.2.2.mono (by omega)⟩
  | d + 1, i, K, j, s, W, e, hK, hW, hs => by
    obtain ⟨K, rfl⟩ := fuel hK
    obtain ⟨l1, l2, l3, l4, l5⟩ := (hQ _ hW).len hc
    have hsl := hf.2.1.slots
    have hb1 := hf.2.2.1
    have hc' := hc
    unfold Plat at hc'
    rw [spec_l4Words.l1, ct (by omega), spec_PlatBeat_eq N hc, if_pos (by omega), w64 (n := (i : Int) + 1) (by omega) (by omega), show (i : Int) + 1 = ((i + 1 : Nat) : Int) by omega]
    simp only [Option.bind_some]
    refine (pick_ok (k := j + d + 10) (hs.mono (by omega))).bind fun u1 g1 => ?_
    rw [bnd (by omega) (by omega), spec_CellPack_eq']
    simp only [Option.bind_some]
    rw [bnd (by omega) (by omega)]
    exact l4Words_l1 hc hQ hS hf v d (i + 1) K j u1.2 _ (by omega) (by omega) (hS _ _ _ hW (by omega) (by omega) (pack_w _ _)) g1.2.2
theorem l4Words_l0 {N : Nat} {c : Cfg} (hc : Plat c) {Q : List Int → Prop} (hQ : ∀ W, Q W → HW c W) (hS : ∀ (W : List Int) (i : Nat) (x : Int), Q W → i ≠ 0 → i < dA c → W64 x → Q (W.set i x)) {b : Bk} (hf : Fit c b) (v : Int) (hv : 0 ≤ v ∧ v ≤ 100) (M : List Int) (hM : M.length = dA c) : ∀ d i K j (s : St) (W : List Int), i + d = dA c → 3 ≤ i → d + 20 < K → Q W → Rd (j + d + 20) s →
    Ok (spec_l4Words.l0 N K v (i : Nat) s c b W M) (fun r => Q r.2.1 ∧ Rd j r.2.2)
  | 0, i, K, j, s, W, e, hi, hK, hW, hs => by
    obtain ⟨K, rfl⟩ := fuel hK
    obtain ⟨a1, a2, a3, a4, a5, a6, a7, a8, a9⟩ := plat_at hc
    rw [spec_l4Words.l0, cf (by omega)]
    exact l4Words_l1 hc hQ hS hf v c.1.toNat 0 K j s W (by omega) (by omega) hW (hs.mono (by omega))
  | d + 1, i, K, j, s, W, e, hi, hK, hW, hs => by
    obtain ⟨K, rfl⟩ := fuel hK
    obtain ⟨l1, l2, l3, l4, l5⟩ := (hQ _ hW).len hc
    obtain ⟨a1, a2, a3, a4, a5, a6, a7, a8, a9⟩ := plat_at hc
    rw [spec_l4Words.l0, ct (by omega), bnd (by omega) (by omega), w64 (n := (i : Int) + 1) (by omega) (by omega), show (i : Int) + 1 = ((i + 1 : Nat) : Int) by omega]
    refine (pick_ok (k := j + d + 20) (hs.mono (by omega))).bind fun u1 g1 => ?_
    rw [spec_CellPack_eq']
    simp only [Option.bind_some]
    rw [bnd (by omega) (by omega)]
    exact l4Words_l0 hc hQ hS hf v hv M hM d (i + 1) K j u1.2 _ (by omega) (by omega) (by omega) (hS _ _ _ hW (by omega) (by omega) (pack_w _ _)) g1.2.2
theorem l4Words_ok' {N : Nat} (hN : Fuel N) {c : Cfg} (hc : Plat c) {Q : List Int → Prop} (hQ : ∀ W, Q W → HW c W) (hS : ∀ (W : List Int) (i : Nat) (x : Int), Q W → i ≠ 0 → i < dA c → W64 x → Q (W.set i x)) (h0 : Q (formP c)) {b : Bk} (hf : Fit c b) {v : Int} (hv : 0 ≤ v ∧ v ≤ 100) {j : Nat} {s : St} (h : Rd (j + 400) s) : Ok (spec_l4Words N c b v s) (fun r => Q r.2.1 ∧ Rd j r.2.2) := by
  obtain ⟨a1, a2, a3, a4, a5, a6, a7, a8, a9⟩ := plat_at hc
  unfold spec_l4Words
  rw [spec_PlatFormat_eq N hc, spec_l4Lay_eq N hN hf, spec_PlatReg_eq N hc, if_pos (by omega)]
  simp only [Option.bind_some]
  exact l4Words_l0 hc hQ hS hf v hv _ (layP_len c b) (dA c - 3) 3 N j s _ (by omega) (by omega) (by unfold Fuel at hN; omega) h0 (h.mono (by omega))
theorem l4Words_ok {N : Nat} (hN : Fuel N) {c : Cfg} (hc : Plat c) {b : Bk} (hf : Fit c b) {v : Int} (hv : 0 ≤ v ∧ v ≤ 100) {j : Nat} {s : St} (h : Rd (j + 400) s) : Ok (spec_l4Words N c b v s) (fun r => HW c r.2.1 ∧ Rd j r.2.2) :=
  l4Words_ok' hN hc (fun _ h => h) (fun W i x h hi _ hx => h.set hi hx) (formP_hw hc) hf hv h
theorem words_take {w : List Int} (h : Words w) (n : Nat) : Words (w.take n) := fun x hx => h x (List.mem_of_mem_take hx)
theorem words_inc {w : List Int} (h : Words w) (i : Nat) (x : Int) : Words (w.set i (IntKind.u64.wrap x)) := words_set h i (by
  have e : IntKind.u64.wrap x = x % 18446744073709551616 := rfl
  rw [e]; unfold W64; omega)
/-- The draw of words of a book. -/
theorem draw_cens {N : Nat} (hN : Fuel N) {code : List Int} (hc : ∀ x ∈ code, 0 ≤ x ∧ x ≤ 255) : ∃ w, spec_DrawCensBook N code = some ((), w) ∧ Words w ∧ w.length ≤ 1000 := by
  have : Ok (spec_DrawCensBook N code) (fun r => Words r.2 ∧ r.2.length ≤ 1000) := by
    unfold spec_DrawCensBook
    refine (open_ok hc).bind fun u1 g1 => (l2Cfg_ok (k := 10000) (g1.mono (by omega))).bind fun u2 g2 => ?_
    have hp := cfg_plat ⟨g2.1, g2.2.1, g2.2.2.1⟩
    refine (numin_ok (a := 0) (c := 45) (k := 9999) (by simp) (allin (by decide)) g2.2.2.2).bind fun u3 g3 => (l3Book_fit (j := 1000) hN hp g3.1.1 (by omega) (g3.2.mono (by omega))).bind fun u4 g4 => ?_
    refine (l4Words_ok (j := 10) hN hp (b := bkS u4) g4.1 (v := 9) (by omega) (g4.2.mono (by omega))).bind fun u5 g5 => ?_
    obtain ⟨l1, l2, l3, l4, l5⟩ := g5.1.len hp
    have hw := g5.1.1
    refine (pick_ok (k := 9) g5.2).bind fun u6 g6 => Ok.ite (fun _ => Ok.val ⟨hw, l3⟩) fun _ => ?_
    refine (pick_ok (k := 8) g6.2.2).bind fun u7 g7 => (pick_ok (k := 7) g7.2.2).bind fun u8 g8 => Ok.beq (fun _ => ?_) fun _ => Ok.beq (fun _ => ?_) fun _ => ?_
    · rw [dt (show 0 ≤ u7.1 by omega), cond_true, dt (show u7.1 ≤ (u5.2.1.length : Int) by omega)]
      refine Ok.val ⟨words_take (by rw [List.drop_zero]; exact hw) _, ?_⟩
      show (List.take _ (List.drop 0 u5.2.1)).length ≤ 1000
      rw [List.length_take, List.drop_zero]; omega
    · exact Ok.inb g7.1 (by omega) (Ok.inb g7.1 (by omega) (Ok.val ⟨words_inc hw _ _, by show (u5.2.1.set _ _).length ≤ 1000; rw [List.length_set]; exact l3⟩))
    · refine (pick_ok (k := 6) g8.2.2).bind fun u9 g9 => ?_
      rw [spec_CellPack_eq']
      simp only [Option.bind_some]
      exact Ok.inb g7.1 (by omega) (Ok.val ⟨words_set hw _ (pack_w _ _), by show (u5.2.1.set _ _).length ≤ 1000; rw [List.length_set]; exact l3⟩)
  obtain ⟨r, e, g⟩ := this
  exact ⟨r.2, e, g.1, g.2⟩
theorem set_at (l : List Int) (i : Nat) (x : Int) (h : i < l.length) : (l.set i x).getD i 0 = x := by rw [getD_set _ _ _ _ h, if_pos rfl]
theorem set_ne (l : List Int) (i j : Nat) (x : Int) (h : j ≠ i) : (l.set i x).getD j 0 = l.getD j 0 := by
  rw [List.getD_eq_getElem?_getD, List.getD_eq_getElem?_getD, List.getElem?_set_ne (fun e => h e.symm)]
theorem headOr_in {l : List Int} {d m : Int} (h : ∀ x ∈ l, 0 ≤ x ∧ x < m) (hd : 0 ≤ d ∧ d ≤ m) : 0 ≤ headOr l d ∧ headOr l d ≤ m := by
  cases l with
  | nil => exact hd
  | cons x r =>
    have := h x List.mem_cons_self
    show 0 ≤ x + 1 ∧ x + 1 ≤ m
    omega
theorem nextOr_in {m : Int} : ∀ (l : List Int) (u d : Int), (∀ x ∈ l, 0 ≤ x ∧ x < m) → (0 ≤ d ∧ d ≤ m) → 0 ≤ nextOr l u d ∧ nextOr l u d ≤ m
  | [], u, d, h, hd => hd
  | x :: r, u, d, h, hd => by
    rw [nextOr]
    split
    · exact headOr_in (fun y hy => h y (List.mem_cons_of_mem _ hy)) hd
    · exact nextOr_in r u d (fun y hy => h y (List.mem_cons_of_mem _ hy)) hd
theorem layV_in {c : Cfg} {b : Bk} (h : Fit c b) {j : Nat} (hj : j < dA c) : 0 ≤ layV c b j ∧ layV c b j ≤ 20000 := by
  obtain ⟨hc, hb, h1, h2⟩ := h
  obtain ⟨a1, a2, a3, a4, a5, a6, a7, a8, a9⟩ := plat_at hc
  have hdim := hb.dims
  have hm : ∀ k, k < 4 → ∀ x ∈ hd b k, 0 ≤ x ∧ x < (nu b : Int) := fun k hk x hx => by have := hb.mem hk hx; omega
  unfold layV
  split
  · rename_i g
    have := headOr_in (d := 0) (hm (j - hA c) (by omega)) (by omega)
    omega
  split
  · unfold nextV
    have h0 := nextOr_in (hd b 0) ((j - kA c : Nat) : Int) 0 (hm 0 (by omega)) (by omega)
    have h1 := nextOr_in (hd b 1) ((j - kA c : Nat) : Int) _ (hm 1 (by omega)) h0
    have h2 := nextOr_in (hd b 2) ((j - kA c : Nat) : Int) _ (hm 2 (by omega)) h1
    have h3 := nextOr_in (hd b 3) ((j - kA c : Nat) : Int) _ (hm 3 (by omega)) h2
    omega
  unfold baseV
  split
  · have := slotB_iff.1 (hb.slot (i := j - 3) (by omega))
    omega
  split
  · have := hb.cases (p := j - pA c) (by omega)
    omega
  split
  · have := ownB_iff.1 (hb.own (u := j - tA c) (by omega))
    omega
  omega
theorem wb_loop (N : Nat) (L w0 : List Int) (hL : L.length ≤ 1000) : ∀ d i K (W : List Int), i + d = L.length → d < K → 3 ≤ i → Words W → W.length = w0.length →
    (∀ j, W.getD j 0 = if 3 ≤ j ∧ j < i ∧ j < w0.length then pack (L.getD j 0) (stampOf (w0.getD j 0)) else w0.getD j 0) →
    ∃ W', laws_wbVals.l0 N K L (i : Nat) W = some ((), W') ∧ Words W' ∧ W'.length = w0.length ∧ ∀ j, W'.getD j 0 = if 3 ≤ j ∧ j < L.length ∧ j < w0.length then pack (L.getD j 0) (stampOf (w0.getD j 0)) else w0.getD j 0
  | 0, i, K, W, e, hK, hi, hW, hl, hj => by
    obtain ⟨K, rfl⟩ := fuel hK
    refine ⟨W, ?_, hW, hl, fun j => by rw [hj j]; congr 1; simp only [eq_iff_iff]; omega⟩
    rw [laws_wbVals.l0, cf (by omega)]
  | d + 1, i, K, W, e, hK, hi, hW, hl, hj => by
    obtain ⟨K, rfl⟩ := fuel hK
    rw [laws_wbVals.l0, ct (by omega)]
    by_cases c : (i : Int) < W.length
    rotate_left
    · refine ⟨W, by rw [cf c], hW, hl, fun j => by rw [hj j]; congr 1; simp only [eq_iff_iff]; omega⟩
    rw [ct c, bnd (by omega) (by omega), bnd (by omega) (by omega), Int.toNat_natCast, impl_CellStamp_eq N (hW.at i), w64 (n := (i : Int) + 1) (by omega) (by omega), show (i : Int) + 1 = ((i + 1 : Nat) : Int) by omega]
    simp only [Option.bind_some]
    rw [impl_CellPack_eq]
    simp only [Option.bind_some]
    rw [bnd (by omega) (by omega)]
    refine wb_loop N L w0 hL d (i + 1) K _ (by omega) (by omega) (by omega) (words_set hW _ (pack_w _ _)) (by rw [List.length_set]; exact hl) fun j => ?_
    have hWi : W.getD i 0 = w0.getD i 0 := by rw [hj i, if_neg (by omega)]
    by_cases q : j = i
    · subst q
      rw [set_at _ _ _ (by omega), if_pos (by omega), hWi]; rfl
    · rw [set_ne _ _ _ _ q, hj j]
      congr 1; simp only [eq_iff_iff]; omega
theorem wbVals_eq (N : Nat) (hN : Fuel N) {L w : List Int} (hL : L.length ≤ 1000) (hw : Words w) (hl : w.length ≤ 1000) : ∃ W', laws_wbVals N w L = some ((), W') ∧ Words W' ∧ W'.length = w.length ∧ ∀ j, W'.getD j 0 = if 3 ≤ j ∧ j < L.length ∧ j < w.length then pack (L.getD j 0) (stampOf (w.getD j 0)) else w.getD j 0 := by
  unfold laws_wbVals
  rw [ct (by simp; omega), List.nil_append]
  by_cases c : 3 ≤ L.length
  · exact wb_loop N L w hL (L.length - 3) 3 N w (by omega) (by unfold Fuel at hN; omega) (by omega) hw rfl fun j => by rw [if_neg (by omega)]
  · obtain ⟨K, rfl⟩ : ∃ K, N = K + 1 := fuel (n := 0) (by unfold Fuel at hN; omega)
    refine ⟨w, ?_, hw, rfl, fun j => by rw [if_neg (by omega)]⟩
    rw [laws_wbVals.l0, cf (by omega)]
/-- What is laid is read back. -/
theorem back_read {w W : List Int} (hw : Words w) (hL : Laid w) {b : Bk} (hF : Fit (cfg (w.getD 0 0)) b) (hl : W.length = w.length) (hW : ∀ j, W.getD j 0 = if 3 ≤ j ∧ j < (layP (cfg (w.getD 0 0)) b).length ∧ j < w.length then pack ((layP (cfg (w.getD 0 0)) b).getD j 0) (stampOf (w.getD j 0)) else w.getD j 0) : censBook W = (b, true) := by
  have h0 : W.getD 0 0 = w.getD 0 0 := by rw [hW 0, if_neg (by omega)]
  have hlen := laid_len hL
  have hL2 : Laid W := by
    unfold Laid Head at hL ⊢
    rw [h0, hl]; exact hL
  unfold censBook
  rw [if_pos hL2, h0]
  refine censP_lay hF fun j hj h3 => ?_
  have hr := layV_in hF hj
  obtain ⟨a1, a2, a3, a4, a5, a6, a7, a8, a9⟩ := plat_at hF.1
  unfold valW
  rw [hW j, if_pos ⟨by omega, by rw [layP_len]; exact hj, by omega⟩, layP_getD hF j hj]
  exact (pack_val hr.1 (by omega)).symm
noncomputable def censLay (c : Cfg) (b : Bk) : List Int := @ite _ (Fit c b) (Classical.propDecidable _) (layP c b) []
theorem censLay_no {c : Cfg} {b : Bk} (h : ¬ Fit c b) : censLay c b = [] := if_neg h
theorem censLay_yes {c : Cfg} {b : Bk} (h : Fit c b) : censLay c b = layP c b := if_pos h
theorem spec_CensLay_eq (N : Nat) (hN : Fuel N) (c : Cfg) (b : Bk) (hi : Bi b) (hb : Bshort b) : spec_CensLay N c b = some ((), censLay c b) := by
  unfold spec_CensLay spec_l4Fit
  rw [spec_PlatOk_eq, spec_BookOk_eq N hN b hi hb]
  simp only [Option.bind_some, cndb]
  by_cases c1 : Plat c
  rotate_left
  · rw [df c1, censLay_no (fun g => c1 g.1)]; rfl
  rw [dt c1, cond_true]
  by_cases c2 : BookP b
  rotate_left
  · rw [bookOk, tf_f c2, censLay_no (fun g => c2 g.2.1)]; rfl
  rw [bookOk, tf_t c2, cond_true]
  by_cases c3 : b.1 = c.1
  rotate_left
  · rw [if_neg c3, censLay_no (fun g => c3 g.2.2.1)]; rfl
  rw [if_pos c3]
  simp only [Option.bind_some]
  by_cases c4 : (b.2.1.length : Int) = c.2.1
  rotate_left
  · rw [beq_eq_false_iff_ne.2 c4, censLay_no (fun g => c4 g.2.2.2)]; rfl
  have hF : Fit c b := ⟨c1, c2, c3, c4⟩
  rw [beq_iff_eq.2 c4, censLay_yes hF, Bool.not_true, cond_false, spec_l4Lay_eq N hN hF]; rfl
theorem impl_CensLay_eq (N : Nat) (hN : Fuel N) (c : Cfg) (b : Bk) (hi : Bi b) (hb : Bshort b) : impl_CensLay N c b = some ((), censLay c b) := by
  unfold impl_CensLay
  rw [impl_PlatOk_eq, impl_BookOk_eq N hN b hi hb]
  simp only [Option.bind_some, cndn]
  by_cases c1 : Plat c
  rotate_left
  · rw [df c1, censLay_no (fun g => c1 g.1)]; rfl
  rw [dt c1, Bool.not_true, cond_false]
  by_cases c2 : BookP b
  rotate_left
  · rw [bookOk, tf_f c2, censLay_no (fun g => c2 g.2.1)]; rfl
  rw [bookOk, tf_t c2, Bool.not_true, cond_false]
  by_cases c3 : b.1 = c.1
  rotate_left
  · rw [if_neg c3, censLay_no (fun g => c3 g.2.2.1)]
  rw [if_pos c3]
  by_cases c4 : (b.2.1.length : Int) = c.2.1
  rotate_left
  · rw [if_neg c4, censLay_no (fun g => c4 g.2.2.2)]
  have hF : Fit c b := ⟨c1, c2, c3, c4⟩
  rw [if_pos c4, censLay_yes hF, impl_lay_eq N hN hF]; rfl
theorem censLay_len (c : Cfg) (b : Bk) : (censLay c b).length ≤ 1000 := by
  unfold censLay
  by_cases h : Fit c b
  · rw [if_pos h, layP_len]; have := dA_le h.1; omega
  · rw [if_neg h]; simp
theorem back_tail (N : Nat) (hN : Fuel N) (w : List Int) (hw : Words w) (hl : w.length ≤ 1000) : ((impl_CensBook N w).bind fun u22 => (spec_CensBook N w).bind fun u23 => (impl_PlatCheck N w).bind fun u24 => (bif (!(u22.1.2 == u23.1.2)) then some (false, ()) else (bif u22.1.2 then (impl_BookOk N (u22.1.1.1, u22.2.1, (u22.2.2.1, u22.2.2.2.1, u22.2.2.2.2.1, u22.2.2.2.2.2.1), u22.2.2.2.2.2.2)).bind fun u25 => (bif (!u25.1) then some (false, ()) else (impl_CensLay N u24.1.1 (u22.1.1.1, u22.2.1, (u22.2.2.1, u22.2.2.2.1, u22.2.2.2.2.1, u22.2.2.2.2.2.1), u22.2.2.2.2.2.2)).bind fun u26 => (laws_wbVals N w u26.2).bind fun u27 => (impl_CensBook N u27.2).bind fun u28 => (bif (!u22.1.2) then some (true, ()) else (bif (!u24.1.2) then some (true, ()) else (bif u28.1.2 then (impl_BookSame N (u22.1.1.1, u22.2.1, (u22.2.2.1, u22.2.2.2.1, u22.2.2.2.2.1, u22.2.2.2.2.2.1), u22.2.2.2.2.2.2) (u28.1.1.1, u28.2.1, (u28.2.2.1, u28.2.2.2.1, u28.2.2.2.2.1, u28.2.2.2.2.2.1), u28.2.2.2.2.2.2)).bind fun u29 => some (u29.1, ()) else some (false, ()))))) else (impl_CensLay N u24.1.1 (u22.1.1.1, u22.2.1, (u22.2.2.1, u22.2.2.2.1, u22.2.2.2.2.1, u22.2.2.2.2.2.1), u22.2.2.2.2.2.2)).bind fun u30 => (laws_wbVals N w u30.2).bind fun u31 => (impl_CensBook N u31.2).bind fun u32 => (bif (!u22.1.2) then some (true, ()) else (bif (!u24.1.2) then some (true, ()) else (bif u32.1.2 then (impl_BookSame N (u22.1.1.1, u22.2.1, (u22.2.2.1, u22.2.2.2.1, u22.2.2.2.2.1, u22.2.2.2.2.2.1), u22.2.2.2.2.2.2) (u32.1.1.1, u32.2.1, (u32.2.2.1, u32.2.2.2.1, u32.2.2.2.2.1, u32.2.2.2.2.2.1), u32.2.2.2.2.2.2)).bind fun u33 => some (u33.1, ()) else some (false, ()))))))) = some (true, ()) := by
  have hS := censBook_short (w := w)
  have h1 := impl_CensBook_eq N hN hw
  have h2 := spec_CensBook_eq N hN hw
  have h3 := impl_PlatCheck_eq N hw
  have h4 : (censBook w).2 = true → Laid w ∧ Fit (cfg (w.getD 0 0)) (censBook w).1 := fun h => ⟨(cens_fit h).1, (cens_fit h).2.1⟩
  have h5 := fun c => impl_CensLay_eq N hN c (censBook w).1 hS.1 hS.2
  have h6 : impl_BookOk N (censBook w).1 = some (bookOk (censBook w).1, ()) := impl_BookOk_eq N hN _ hS.1 hS.2
  have h7 := fun b => impl_BookSame_eq N hN (censBook w).1 b hS.2
  rcases hA : censBook w with ⟨⟨n, P, ⟨q0, q1, q2, q3⟩, O, I, E⟩, ok⟩
  rw [hA] at h1 h2 h4 h5 h6 h7
  rw [h1, h2, h3]
  simp only [outT, Option.bind_some, beq_self_eq_true, Bool.not_true, cond_false] at h4 h5 h6 h7 ⊢
  cases ok
  · rw [cond_false, h5]
    simp only [Option.bind_some]
    obtain ⟨W, e1, e2, e3, e4⟩ := wbVals_eq N hN (L := censLay (if Whole w then (cfg (w.getD 0 0), true) else ((0, 0, 0), false)).1 (n, P, (q0, q1, q2, q3), O, I, E)) (censLay_len _ _) hw hl
    rw [e1]
    simp only [Option.bind_some]
    rw [impl_CensBook_eq N hN e2]; rfl
  · obtain ⟨hL, hF⟩ := h4 rfl
    rw [cond_true, h6, bookOk, tf_t hF.2.1]
    simp only [Option.bind_some]
    rw [Bool.not_true, cond_false, h5]
    simp only [Option.bind_some]
    obtain ⟨W, e1, e2, e3, e4⟩ := wbVals_eq N hN (L := censLay (if Whole w then (cfg (w.getD 0 0), true) else ((0, 0, 0), false)).1 (n, P, (q0, q1, q2, q3), O, I, E)) (censLay_len _ _) hw hl
    rw [e1]
    simp only [Option.bind_some]
    rw [impl_CensBook_eq N hN e2]
    by_cases hW : Whole w
    rotate_left
    · rw [if_neg hW]; rfl
    rw [if_pos hW] at e4 ⊢
    simp only [censLay, if_pos hF] at e4
    rw [back_read hw hL hF e3 e4]
    simp only [outT, Option.bind_some, Bool.not_true, cond_false, cond_true]
    rw [h7, tf_t rfl]; rfl
/-- The draw of a house and a book. -/
theorem draw_lay {N : Nat} (hN : Fuel N) {code : List Int} (hc : ∀ x ∈ code, 0 ≤ x ∧ x ≤ 255) : ∃ (c : Cfg) (b : Bk), spec_DrawCensLay N code = some ((c, (b.1, (), ((), (), (), ()), (), (), ())), (b.2.1, b.2.2.1.1, b.2.2.1.2.1, b.2.2.1.2.2.1, b.2.2.1.2.2.2, b.2.2.2.1, b.2.2.2.2.1, b.2.2.2.2.2)) ∧ Plat c ∧ BookP b := by
  have : Ok (spec_DrawCensLay N code) (fun r => Plat r.1.1 ∧ BookP (r.1.2.1, r.2.1, (r.2.2.1, r.2.2.2.1, r.2.2.2.2.1, r.2.2.2.2.2.1), r.2.2.2.2.2.2.1, r.2.2.2.2.2.2.2.1, r.2.2.2.2.2.2.2.2)) := by
    unfold spec_DrawCensLay
    refine (open_ok hc).bind fun u1 g1 => (l2Cfg_ok (k := 10000) (g1.mono (by omega))).bind fun u2 g2 => ?_
    have hp := cfg_plat ⟨g2.1, g2.2.1, g2.2.2.1⟩
    refine (numin_ok (a := 0) (c := 30) (k := 9999) (by simp) (allin (by decide)) g2.2.2.2).bind fun u3 g3 => (l3Book_fit (j := 1000) hN hp g3.1.1 (by omega) (g3.2.mono (by omega))).bind fun u4 g4 => ?_
    refine (pick_ok (k := 999) g4.2).bind fun u5 g5 => Ok.beq (fun _ => Ok.val ⟨?_, g4.1.2.1⟩) fun _ => Ok.val ⟨hp, g4.1.2.1⟩
    have e := w64 (n := u2.1.1 + 1) (by omega) (by omega)
    rw [e]
    unfold Plat
    dsimp only
    omega
  obtain ⟨r, e, g⟩ := this
  exact ⟨r.1.1, _, e, g.1, g.2⟩
theorem plainCensBack (N : Nat) (hN : Fuel N) (a0 a1 : List Int) (hc0 : ∀ x ∈ a0, 0 ≤ x ∧ x ≤ 255) (hc1 : ∀ x ∈ a1, 0 ≤ x ∧ x ≤ 255) : laws_FnCensBack N a0 a1 = some (true, ()) := by
  unfold laws_FnCensBack
  by_cases hl : (a0.length : Int) > 1048576
  · rw [ct hl]
  rw [cf hl]
  by_cases hl1 : (a1.length : Int) > 1048576
  · rw [ct hl1]
  rw [cf hl1]
  obtain ⟨w, ew, hw, hlw⟩ := draw_cens hN hc1
  obtain ⟨c, b, e, hp, hb⟩ := draw_lay hN hc0
  have ht := back_tail N hN w hw hlw
  have hff := formP_hw hp
  have hfl := hff.len hp
  have h5 := impl_CensLay_eq N hN c b hb.ints hb.short
  have h6 := spec_CensLay_eq N hN c b hb.ints hb.short
  have h7 := impl_PlatFormat_eq N hp
  have h8 := fun b' => impl_BookSame_eq N hN b' b
  obtain ⟨W, e1, e2, e3, e4⟩ := wbVals_eq N hN (L := censLay c b) (w := formP c) (censLay_len _ _) hff.1 (by omega)
  have h9 := impl_CensBook_eq N hN e2
  obtain ⟨n, P, ⟨q0, q1, q2, q3⟩, O, I, E⟩ := b
  rw [e]
  simp only [Option.bind_some]
  rw [h5, h7]
  simp only [Option.bind_some]
  rw [e1]
  simp only [Option.bind_some]
  rw [h9, h6]
  simp only [outT, Option.bind_some, bne_self_eq_false, cond_false]
  by_cases hF : Fit c (n, P, (q0, q1, q2, q3), O, I, E)
  · have hcf := hff.cfg hp
    have hr : censBook W = ((n, P, (q0, q1, q2, q3), O, I, E), true) := by
      refine back_read (w := formP c) hff.1 ⟨hff.head hp, .inl (by rw [hcf]; exact hff.2.1)⟩ (by rw [hcf]; exact hF) e3 ?_
      rw [hcf]
      simp only [censLay, if_pos hF] at e4
      exact e4
    have hpos : (((censLay c (n, P, (q0, q1, q2, q3), O, I, E)).length : Nat) : Int) > 0 := by
      have := plat_at hp
      rw [censLay_yes hF, layP_len]; omega
    rw [ct hpos, hr]
    simp only [Bool.not_true, cond_false]
    rw [h8 _ hb.short, tf_t rfl]
    simp only [Option.bind_some, Bool.not_true, cond_false]
    rw [ew]
    exact ht
  · have hz : ¬ (((censLay c (n, P, (q0, q1, q2, q3), O, I, E)).length : Nat) : Int) > 0 := by
      rw [censLay_no hF]; simp
    rw [cf hz, ew]
    exact ht
theorem lawFnCensBack (y0 y1 : List Int) (w0 : Wf (.sl .frz (.int .u8)) y0) (w1 : Wf (.sl .frz (.int .u8)) y1) : laws_FnCensBack N0 y0 y1 = some (true, ()) := plainCensBack N0 hN0 y0 y1 (wf_bytes w0) (wf_bytes w1)
end Go.Proofs.Ytdhdlnojoonhcaa.Pv
