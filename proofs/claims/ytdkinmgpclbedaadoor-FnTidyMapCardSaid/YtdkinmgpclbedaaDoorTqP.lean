/- The plain law of FnTidyMap, part 2: what the functions compute, over numbers and lists. -/
import Derived.Test.YtdkinmgpclbedaaDoorTqPa
import Derived.Test.YtdkinmgpclbedaaDoorPvRow
namespace Go.Proofs.YtdkinmgpclbedaaDoor.Pv
open Go Go.Pv Go.Proofs
set_option linter.unusedVariables false
set_option linter.unusedSimpArgs false
theorem takeP_wIE (b : Bk) (s u : Int) (is es : List Int) : takeP (wIE b is es) s u = (wIE (takeP b s u).1 is es, (takeP b s u).2) := by
  unfold takeP
  by_cases c1 : kindOf u < 0
  · rw [if_pos c1, if_pos c1]
  rw [if_neg c1, if_neg c1]
  by_cases c2 : kindOf u = 4
  · rw [if_pos c2, if_pos c2]
    unfold pagesP
    have e : (wIE b is es).2.1 = b.2.1 := rfl
    rw [e]
    by_cases c3 : runOf b.2.1 ((u + 7) / 8).toNat < 0
    · rw [if_pos c3, if_pos c3]
    · rw [if_neg c3, if_neg c3]; rfl
  rw [if_neg c2, if_neg c2]
  dsimp only
  rw [hd_wIE]
  by_cases c3 : (hd b (kindOf u).toNat).length = 0
  · rw [if_pos c3, if_pos c3]
    have e : (wIE b is es).2.1 = b.2.1 := rfl
    rw [e]
    by_cases c4 : runOf b.2.1 1 < 0
    · rw [if_pos c4, if_pos c4]
    · rw [if_neg c4, if_neg c4, ← popP_wIE]
      have e2 : carveP (wIE b is es) (runOf b.2.1 1).toNat (kindOf u).toNat = wIE (carveP b (runOf b.2.1 1).toNat (kindOf u).toNat) is es := by
        unfold carveP
        rw [hd_wIE]
        rfl
      rw [e2]
  · rw [if_neg c3, if_neg c3, popP_wIE]
/-- A book that would be valid with somebody in slot 0. -/
def Near (b : Bk) : Prop := ∃ is es, BookP (wIE b is es) ∧ inn (wIE b is es) 0 ≠ 0
theorem Near.take {b : Bk} (h : Near b) (u : Int) : Near (takeP b 0 u).1 := by
  obtain ⟨is, es, hb, hi⟩ := h
  have hdim := hb.dims
  refine ⟨is, es, ?_, hi⟩
  have := take_ok hb (s := 0) (by omega) (by omega) hi u
  rwa [takeP_wIE] at this
/-- There is a value, and it has the property. -/
def Ok {α : Type _} (x : Option α) (P : α → Prop) : Prop := ∃ a, x = some a ∧ P a
theorem Ok.bind {α β : Type _} {x : Option α} {P : α → Prop} {f : α → Option β} {Q : β → Prop} (h : Ok x P) (g : ∀ a, P a → Ok (f a) Q) : Ok (x.bind f) Q := by
  obtain ⟨a, rfl, h⟩ := h
  exact g a h
theorem Ok.val {α : Type _} {a : α} {P : α → Prop} (h : P a) : Ok (some a) P := ⟨a, rfl, h⟩
theorem Ok.ite {α : Type _} {p : Prop} [Decidable p] {x y : Option α} {P : α → Prop} (h1 : p → Ok x P) (h2 : ¬ p → Ok y P) : Ok (cond (decide p) x y) P := by
  by_cases c : p
  · rw [ct c]; exact h1 c
  · rw [cf c]; exact h2 c
theorem Ok.beq {α : Type _} {a c : Int} {x y : Option α} {P : α → Prop} (h1 : a = c → Ok x P) (h2 : a ≠ c → Ok y P) : Ok (cond (a == c) x y) P := by
  rw [cndb]
  split
  · exact h1 ‹_›
  · exact h2 ‹_›
theorem Ok.inb {α : Type _} {i : Int} {n : Nat} {x y : Option α} {P : α → Prop} (h : 0 ≤ i) (h2 : i < (n : Int)) (h3 : Ok x P) : Ok (cond (cond (decide (0 ≤ i)) (decide (i < (n : Int))) false) x y) P := by
  rw [bnd h h2]; exact h3
theorem Ok.of {α : Type _} {x : Option α} {P Q : α → Prop} (h : Ok x P) (g : ∀ a, P a → Q a) : Ok x Q := by
  obtain ⟨a, e, h⟩ := h; exact ⟨a, e, g a h⟩
abbrev St := List Int × Int
/-- A reader that can go on k times. -/
def Rd (k : Nat) (s : St) : Prop := (∀ x ∈ s.1, 0 ≤ x ∧ x ≤ 255) ∧ s.1.length ≤ 2000 ∧ 0 ≤ s.2 ∧ s.2 + k ≤ 1000000000
theorem Rd.mono {k j : Nat} {s : St} (h : Rd k s) (hj : j ≤ k) : Rd j s := ⟨h.1, h.2.1, h.2.2.1, by have := h.2.2.2; omega⟩
theorem byte_at {l : List Int} (h : ∀ x ∈ l, 0 ≤ x ∧ x ≤ 255) (i : Nat) : 0 ≤ l.getD i 0 ∧ l.getD i 0 ≤ 255 := by
  rw [List.getD_eq_getElem?_getD]
  cases hi : l[i]? with
  | none => exact ⟨by decide, by decide⟩
  | some x => exact h x (List.mem_of_getElem? hi)
theorem xor_small {a c : Int} (ha : 0 ≤ a) (ha2 : a < 4398046511104) (hc : 0 ≤ c) (hc2 : c < 4398046511104) : 0 ≤ IntKind.i64.wrap (((BitVec.ofInt 64 a ^^^ BitVec.ofInt 64 c).toNat : Nat) : Int) := by
  have e : ∀ x : Int, 0 ≤ x → x < 4398046511104 → (BitVec.ofInt 64 x).toNat = x.toNat := fun x h1 h2 => by
    rw [BitVec.toNat_ofInt]; omega
  have h : (BitVec.ofInt 64 a ^^^ BitVec.ofInt 64 c).toNat < 2 ^ 42 := by
    rw [BitVec.toNat_xor, e a ha ha2, e c hc hc2]
    exact Nat.xor_lt_two_pow (by omega) (by omega)
  rw [w64 (by omega) (by omega)]
  omega
theorem pick_ok {N : Nat} {n : Int} {s : St} {k : Nat} (h : Rd (k + 1) s) : Ok (loop_example_hostel_spec_l20Rd_pick N n s) (fun r => 0 ≤ r.1 ∧ (r.1 < n ∨ r.1 = 0) ∧ Rd k r.2) := by
  obtain ⟨hb, hl, hp, hk⟩ := h
  have hrd : Rd k (s.1, s.2 + 1) := ⟨hb, hl, by show 0 ≤ s.2 + 1; omega, by show s.2 + 1 + (k : Int) ≤ 1000000000; omega⟩
  unfold loop_example_hostel_spec_l20Rd_pick
  rw [w64 (n := s.2 + 1) (by omega) (by omega)]
  rw [w64 (n := s.2 + 1 - 1) (by omega) (by omega), show s.2 + 1 - 1 = s.2 by omega]
  refine Ok.ite (fun c => Ok.val ⟨Int.le_refl 0, .inr rfl, hrd⟩) fun c => ?_
  refine Ok.beq (fun c2 => Ok.val ⟨Int.le_refl 0, .inr rfl, hrd⟩) fun c2 => ?_
  have hmod : ∀ x : Int, 0 ≤ x → 0 ≤ Int.tmod x n ∧ Int.tmod x n < n := fun x hx => by rw [tm hx]; exact ⟨Int.emod_nonneg _ (by omega), Int.emod_lt_of_pos _ (by omega)⟩
  refine Ok.ite (fun c3 => ?_) fun c3 => ?_
  · refine Ok.inb hp c3 (Ok.ite (fun e => by omega) fun e => Ok.val ?_)
    have hx := byte_at hb s.2.toNat
    rw [w64 (by omega) (by omega)]
    have := hmod _ hx.1
    exact ⟨this.1, Or.inl this.2, hrd⟩
  · have hlp : (0 : Int) < s.1.length := by omega
    have q1 : 0 ≤ Int.tmod s.2 s.1.length ∧ Int.tmod s.2 s.1.length < s.1.length := by rw [tm hp]; exact ⟨Int.emod_nonneg _ (by omega), Int.emod_lt_of_pos _ hlp⟩
    rw [w64 (n := s.2 * 7) (by omega) (by omega), w64 (n := s.2 * 7 + 3) (by omega) (by omega)]
    have q2 : 0 ≤ Int.tmod (s.2 * 7 + 3) s.1.length ∧ Int.tmod (s.2 * 7 + 3) s.1.length < s.1.length := by rw [tm (by omega)]; exact ⟨Int.emod_nonneg _ (by omega), Int.emod_lt_of_pos _ hlp⟩
    refine Ok.ite (fun e => by omega) fun _ => Ok.inb q1.1 q1.2 (Ok.ite (fun e => by omega) fun _ => Ok.inb q2.1 q2.2 (Ok.ite (fun e => by omega) fun _ => Ok.ite (fun e => by omega) fun _ => Ok.val ?_))
    have x1 := byte_at hb (Int.tmod s.2 s.1.length).toNat
    have x2 := byte_at hb (Int.tmod (s.2 * 7 + 3) s.1.length).toNat
    generalize s.1.getD (Int.tmod s.2 s.1.length).toNat 0 = a1 at x1 ⊢
    generalize s.1.getD (Int.tmod (s.2 * 7 + 3) s.1.length).toNat 0 = a2 at x2 ⊢
    have q3 : 0 ≤ Int.tdiv s.2 s.1.length ∧ Int.tdiv s.2 s.1.length ≤ 1000000000 := by
      rw [td hp]
      refine ⟨Int.ediv_nonneg hp (by omega), ?_⟩
      have := Int.ediv_le_self (s.1.length : Int) hp
      omega
    generalize Int.tdiv s.2 s.1.length = a3 at q3 ⊢
    have key : 0 ≤ IntKind.i64.wrap (IntKind.i64.wrap (IntKind.i64.wrap (IntKind.i64.wrap (IntKind.i64.wrap a1 * 131) + IntKind.i64.wrap (IntKind.i64.wrap a2 * 1117)) + IntKind.i64.wrap (s.2 * 29)) + IntKind.i64.wrap (IntKind.i64.wrap a3 * 53)) ∧ IntKind.i64.wrap (IntKind.i64.wrap (IntKind.i64.wrap (IntKind.i64.wrap (IntKind.i64.wrap a1 * 131) + IntKind.i64.wrap (IntKind.i64.wrap a2 * 1117)) + IntKind.i64.wrap (s.2 * 29)) + IntKind.i64.wrap (IntKind.i64.wrap a3 * 53)) < 1000000000000 := by
      have w1 := w64 (n := a1) (by omega) (by omega)
      have w2 := w64 (n := a2) (by omega) (by omega)
      have w3 := w64 (n := a3) (by omega) (by omega)
      have w4 := w64 (n := a1 * 131) (by omega) (by omega)
      have w5 := w64 (n := a2 * 1117) (by omega) (by omega)
      have w6 := w64 (n := s.2 * 29) (by omega) (by omega)
      have w7 := w64 (n := a3 * 53) (by omega) (by omega)
      have w8 := w64 (n := a1 * 131 + a2 * 1117) (by omega) (by omega)
      have w9 := w64 (n := a1 * 131 + a2 * 1117 + s.2 * 29) (by omega) (by omega)
      have w10 := w64 (n := a1 * 131 + a2 * 1117 + s.2 * 29 + a3 * 53) (by omega) (by omega)
      rw [w1, w2, w3, w4, w5, w6, w7, w8, w9, w10]
      omega
    first
      | rw [w64 (n := a3) (by omega) (by omega)] at key ⊢
      | skip
    revert key
    generalize IntKind.i64.wrap (IntKind.i64.wrap (IntKind.i64.wrap (IntKind.i64.wrap (IntKind.i64.wrap a1 * 131) + IntKind.i64.wrap (IntKind.i64.wrap a2 * 1117)) + IntKind.i64.wrap (s.2 * 29)) + IntKind.i64.wrap (a3 * 53)) = z
    intro key
    have q4 : 0 ≤ Int.tdiv z 64 ∧ Int.tdiv z 64 < 1000000000000 := by rw [td key.1]; omega
    have w11 := w64 (n := Int.tdiv z 64) (by omega) (by omega)
    rw [w11]
    have := hmod _ (xor_small key.1 (by omega) q4.1 (by omega))
    exact ⟨this.1, Or.inl this.2, hrd⟩
theorem num_ok {N : Nat} {l : List Int} (hl : l ≠ []) {s : St} {k : Nat} (h : Rd (k + 1) s) : Ok (loop_example_hostel_spec_l20Rd_num N l s) (fun r => r.1 ∈ l ∧ Rd k r.2) := by
  unfold loop_example_hostel_spec_l20Rd_num
  have hp : 0 < l.length := List.length_pos_iff.2 hl
  refine (pick_ok h).bind fun r hr => ?_
  have hlt : r.1 < l.length := by rcases hr.2.1 with g | g <;> omega
  refine Ok.inb hr.1 hlt (Ok.val ⟨?_, hr.2.2⟩)
  rw [getD_lt (by omega)]
  exact List.getElem_mem _
theorem open_ok {N : Nat} {l : List Int} (hl : ∀ x ∈ l, 0 ≤ x ∧ x ≤ 255) : Ok (spec_l20Open N l) (fun r => Rd 999999999 r.2) := by
  unfold spec_l20Open
  refine Ok.ite (fun c => ?_) fun c => Ok.val ⟨hl, (by show l.length ≤ 2000; omega), by show (0 : Int) ≤ 0; omega, by show (0 : Int) + 999999999 ≤ 1000000000; omega⟩
  rw [dt (show (2000 : Int) ≤ l.length by omega)]
  refine Ok.val ⟨fun x hx => hl x ?_, ?_, by show (0 : Int) ≤ 0; omega, by show (0 : Int) + 999999999 ≤ 1000000000; omega⟩
  · exact List.mem_of_mem_take (List.mem_of_mem_drop hx)
  · show ((l.take 2000).drop 0).length ≤ 2000
    rw [List.length_drop, List.length_take]; omega
/-- Short lists of small numbers. -/
def Sm (n : Nat) (l : List Int) : Prop := l.length ≤ n ∧ ∀ x ∈ l, -100000 ≤ x ∧ x ≤ 100000
theorem Sm.mono {n m : Nat} {l : List Int} (h : Sm n l) (hm : n ≤ m) : Sm m l := ⟨by have := h.1; omega, h.2⟩
theorem Sm.set {n : Nat} {l : List Int} (h : Sm n l) (i : Nat) {x : Int} (h1 : -100000 ≤ x) (h2 : x ≤ 100000) : Sm n (l.set i x) := by
  refine ⟨by rw [List.length_set]; exact h.1, fun y hy => ?_⟩
  rcases List.mem_or_eq_of_mem_set hy with g | g
  · exact h.2 y g
  · rw [g]; exact ⟨h1, h2⟩
theorem Sm.add {n : Nat} {l : List Int} (h : Sm n l) {x : Int} (h1 : -100000 ≤ x) (h2 : x ≤ 100000) : Sm (n + 1) (l ++ [x]) := by
  refine ⟨by rw [List.length_append]; have := h.1; simp; omega, fun y hy => ?_⟩
  rcases List.mem_append.1 hy with g | g
  · exact h.2 y g
  · rw [List.mem_singleton.1 g]; exact ⟨h1, h2⟩
theorem Sm.short {l : List Int} (h : Sm 100 l) : Short l := by have := h.1; unfold Short; omega
theorem Sm.ints {n : Nat} {l : List Int} (h : Sm n l) : Ints l := fun x hx => by have := h.2 x hx; exact ⟨by omega, by omega⟩
/-- A book that is small. -/
def Bd (b : Bk) : Prop := (-100 ≤ b.1 ∧ b.1 ≤ 100) ∧ Sm 100 b.2.1 ∧ (Sm 100 b.2.2.1.1 ∧ Sm 100 b.2.2.1.2.1 ∧ Sm 100 b.2.2.1.2.2.1 ∧ Sm 100 b.2.2.1.2.2.2) ∧ Sm 100 b.2.2.2.1 ∧ (∀ x ∈ b.2.2.2.1, 0 ≤ x ∧ x ≤ 10) ∧ Sm 100 b.2.2.2.2.1 ∧ Sm 100 b.2.2.2.2.2
theorem Bd.short {b : Bk} (h : Bd b) : Bshort b := by
  obtain ⟨h0, h1, ⟨g0, g1, g2, g3⟩, h2, _, h3, h4⟩ := h
  exact ⟨h1.short, fun k => by match k with | 0 => exact g0.short | 1 => exact g1.short | 2 => exact g2.short | _ + 3 => exact g3.short, h2.short, h3.short, h4.short⟩
theorem Bd.ints {b : Bk} (h : Bd b) : Bi b := by
  obtain ⟨h0, h1, ⟨g0, g1, g2, g3⟩, h2, _, h3, h4⟩ := h
  exact ⟨⟨by omega, by omega⟩, h1.ints, fun k => by match k with | 0 => exact g0.ints | 1 => exact g1.ints | 2 => exact g2.ints | _ + 3 => exact g3.ints, h2.ints, h3.ints, h4.ints⟩
theorem sm_of {l : List Int} {n : Nat} (hl : l.length ≤ n) (h : ∀ i, i < l.length → -100000 ≤ l.getD i 0 ∧ l.getD i 0 ≤ 100000) : Sm n l := by
  refine ⟨hl, fun x hx => ?_⟩
  obtain ⟨j, hj, e⟩ := mem_getD hx
  have := h j hj
  rwa [e] at this
/-- The rows of a valid book are at most 48 long. -/
theorem BookP.bd48 {b : Bk} (h : BookP b) : (1 ≤ b.1 ∧ b.1 ≤ 4) ∧ Sm 48 b.2.1 ∧ (Sm 48 b.2.2.1.1 ∧ Sm 48 b.2.2.1.2.1 ∧ Sm 48 b.2.2.1.2.2.1 ∧ Sm 48 b.2.2.1.2.2.2) ∧ Sm 48 b.2.2.2.1 ∧ (∀ x ∈ b.2.2.2.1, 0 ≤ x ∧ x ≤ 10) ∧ Sm 48 b.2.2.2.2.1 ∧ Sm 48 b.2.2.2.2.2 := by
  have hdim := h.dims
  have hsl := h.slots
  have e1 : np b = b.2.1.length := rfl
  have e2 : nu b = b.2.2.2.1.length := rfl
  have key : ∀ j, j < 4 → Sm 48 (hd b j) := fun j hj => ⟨by have := h.hd_len hj; omega, fun x hx => by have := h.mem hj hx; omega⟩
  have how : ∀ x ∈ b.2.2.2.1, 0 ≤ x ∧ x ≤ 10 := fun x hx => by
    obtain ⟨j, hj, e⟩ := mem_getD hx
    have := ownB_iff.1 (h.own (u := j) hj)
    rw [fold_ow] at e
    omega
  refine ⟨by omega, sm_of (by omega) fun i hi => ?_, ⟨key 0 (by omega), key 1 (by omega), key 2 (by omega), key 3 (by omega)⟩, ⟨by omega, fun x hx => by have := how x hx; omega⟩, how, sm_of (by omega) fun i hi => ?_, sm_of (by omega) fun i hi => ?_⟩
  · have := h.cases (p := i) hi
    rw [fold_pg]; omega
  · have := slotB_iff.1 (h.slot (i := i) (by omega))
    rw [fold_in]; omega
  · have := slotB_iff.1 (h.slot (i := i) (by omega))
    rw [fold_ep]; omega
theorem BookP.bd {b : Bk} (h : BookP b) : Bd b := by
  obtain ⟨h0, h1, ⟨g0, g1, g2, g3⟩, h2, ho, h3, h4⟩ := h.bd48
  exact ⟨by omega, h1.mono (by omega), ⟨g0.mono (by omega), g1.mono (by omega), g2.mono (by omega), g3.mono (by omega)⟩, h2.mono (by omega), ho, h3.mono (by omega), h4.mono (by omega)⟩
theorem l2Cfg_ok {N : Nat} {s : St} {k : Nat} (h : Rd (k + 3) s) : Ok (spec_l2Cfg N s) (fun r => (1 ≤ r.1.1 ∧ r.1.1 ≤ 3) ∧ (1 ≤ r.1.2.1 ∧ r.1.2.1 ≤ 3) ∧ (1 ≤ r.1.2.2 ∧ r.1.2.2 ≤ 3) ∧ Rd k r.2) := by
  unfold spec_l2Cfg
  refine (pick_ok h).bind fun u1 h1 => (pick_ok h1.2.2).bind fun u2 h2 => (pick_ok h2.2.2).bind fun u3 h3 => Ok.val ?_
  have e1 := w64 (n := 1 + u1.1) (by omega) (by omega)
  have e2 := w64 (n := 1 + u2.1) (by omega) (by omega)
  have e3 := w64 (n := 1 + u3.1) (by omega) (by omega)
  rw [e1, e2, e3]
  exact ⟨by dsimp only; omega, by dsimp only; omega, by dsimp only; omega, h3.2.2⟩
/-- A new book. -/
def openP (c : Cfg) : Bk := (c.1, List.replicate c.2.1.toNat 0, ([], [], [], []), List.replicate (c.2.1 * 8).toNat 0, List.replicate c.1.toNat 0, List.replicate c.1.toNat 0)
theorem rep_getD (n i : Nat) : (List.replicate n (0 : Int)).getD i 0 = 0 := by
  rw [List.getD_eq_getElem?_getD, List.getElem?_replicate]
  split <;> rfl
theorem open_valid {c : Cfg} (h : Plat c) : BookP (openP c) := by
  unfold Plat at h
  have hpg : ∀ p, pg (openP c) p = 0 := fun p => rep_getD _ _
  have how : ∀ p, ow (openP c) p = 0 := fun p => rep_getD _ _
  have hin : ∀ p, inn (openP c) p = 0 := fun p => rep_getD _ _
  have hep : ∀ p, ep (openP c) p = 0 := fun p => rep_getD _ _
  have e1 : np (openP c) = c.2.1.toNat := List.length_replicate ..
  have e2 : nu (openP c) = (c.2.1 * 8).toNat := List.length_replicate ..
  have e0 : (openP c).1 = c.1 := rfl
  refine BookP.mk' ?_ (fun i _ => slotB_iff.2 ?_) (fun u _ => ownB_iff.2 ?_) (fun k hk x hx => ?_) (fun p _ => .inl ⟨hpg p, fun u _ _ => how _⟩)
  · unfold Sizes
    have e3 : (openP c).2.2.2.2.1.length = c.1.toNat := List.length_replicate ..
    have e4 : (openP c).2.2.2.2.2.length = c.1.toNat := List.length_replicate ..
    rw [e1, e2, e3, e4, e0]
    omega
  · rw [hin, hep]; exact ⟨by omega, by omega, by omega, by omega, fun _ => rfl⟩
  · rw [how, e0]; exact ⟨by omega, by omega, fun g => by omega⟩
  · match k with
    | 0 => cases hx
    | 1 => cases hx
    | 2 => cases hx
    | _ + 3 => cases hx
theorem spec_BookOpen_eq (N : Nat) {c : Cfg} (h : Plat c) : spec_BookOpen N c = some (((openP c).1, (), ((), (), (), ()), (), (), ()), ((openP c).2.1, (openP c).2.2.2.1, (openP c).2.2.2.2.1, (openP c).2.2.2.2.2)) := by
  unfold spec_BookOpen
  rw [spec_PlatOk_eq, dt h]
  unfold Plat at h
  simp only [Option.bind_some, Bool.not_true, cond_false]
  rw [w64 (n := c.2.1 * 8) (by omega) (by omega)]
  repeat rw [ct (by omega)]
  rfl
def Opd (op : Op) : Prop := (-100 ≤ op.1 ∧ op.1 ≤ 100) ∧ (-100 ≤ op.2.1 ∧ op.2.1 ≤ 100) ∧ (-200 ≤ op.2.2.1 ∧ op.2.2.1 ≤ 200) ∧ (-100 ≤ op.2.2.2 ∧ op.2.2.2 ≤ 100)
theorem num3_ok {N : Nat} {s : St} {k : Nat} (h : Rd (k + 1) s) : Ok (loop_example_hostel_spec_l20Rd_num N ([0, 7, (-1)]) s) (fun r => (-1 ≤ r.1 ∧ r.1 ≤ 7) ∧ Rd k r.2) :=
  (num_ok (by simp) h).of fun r hr => ⟨by
    have := hr.1
    simp only [List.mem_cons, List.mem_nil_iff, or_false] at this
    omega, hr.2⟩
theorem l3Op_tail {N : Nat} {s : St} {k : Nat} (h : Rd (k + 2) s) {op : Op} (ho : Opd op) {x y z : Int} (hx : -100 ≤ x ∧ x ≤ 100) (hy : -200 ≤ y ∧ y ≤ 200) (hz : -100 ≤ z ∧ z ≤ 100) :
    Ok ((loop_example_hostel_spec_l20Rd_pick N 20 s).bind fun u => (bif (u.1 == 0) then (loop_example_hostel_spec_l20Rd_num N ([0, 7, (-1)]) u.2).bind fun v => some ((v.1, x, y, z), v.2) else some ((op.1, x, y, z), u.2))) (fun r => Opd r.1 ∧ Rd k r.2) := by
  refine (pick_ok h).bind fun u hu => Ok.beq (fun _ => (num3_ok hu.2.2).bind fun v hv => Ok.val ⟨⟨by dsimp only; omega, hx, hy, hz⟩, hv.2⟩) (fun _ => Ok.val ⟨⟨ho.1, hx, hy, hz⟩, hu.2.2.mono (by omega)⟩)
theorem l3Op_loop {N : Nat} {b : Bk} (hb : Bd b) {op : Op} (ho : Opd op) {j : Nat} (z : Op) {s : St} (h : Rd (j + 5) s) : ∀ d i k (l : List Int), i + d = b.2.2.2.1.length → d < k → l.length ≤ i → (∀ x ∈ l, 0 ≤ x ∧ x < b.2.2.2.1.length) →
    Ok (spec_l3Op.l0 N k i s b z op l) (fun r => Opd r.1 ∧ Rd j r.2)
  | 0, i, k, l, h1, h2, h3, h4 => by
    have hl := hb.2.2.2.1.1
    obtain ⟨k, rfl⟩ := fuel h2
    rw [spec_l3Op.l0]
    refine Ok.ite (fun c => by omega) fun _ => Ok.ite (fun c => ?_) fun _ => ?_
    · refine (pick_ok (k := j + 4) h).bind fun u18 g18 => Ok.ite (fun c2 => ?_) fun _ => ?_
      · refine (pick_ok (k := j + 3) g18.2.2).bind fun u19 g19 => ?_
        have hlt : u19.1 < l.length := by rcases g19.2.1 with g | g <;> omega
        refine Ok.inb g19.1 hlt ?_
        have hm : l.getD u19.1.toNat 0 ∈ l := by rw [getD_lt (by omega)]; exact List.getElem_mem _
        have hm2 := h4 _ hm
        refine Ok.inb hm2.1 hm2.2 ((pick_ok (k := j + 2) g19.2.2).bind fun u20 g20 => ?_)
        have hw : (b.2.2.2.1.getD (l.getD u19.1.toNat 0).toNat 0) ∈ b.2.2.2.1 := by
          rw [getD_lt (l := b.2.2.2.1) (by omega)]; exact List.getElem_mem _
        have hw2 := hb.2.2.2.2.1 _ hw
        have e1 := w64 (n := b.2.2.2.1.getD (l.getD u19.1.toNat 0).toNat 0 - 1) (by omega) (by omega)
        have e2 := w64 (n := u20.1 - 1) (by omega) (by omega)
        rw [e1, e2]
        exact l3Op_tail g20.2.2 ho (by omega) (by omega) (by omega)
      · refine (pick_ok (k := j + 3) g18.2.2).bind fun u20 g20 => ?_
        have e2 := w64 (n := u20.1 - 1) (by omega) (by omega)
        rw [e2]
        exact l3Op_tail (g20.2.2.mono (by omega)) ho ho.2.1 ho.2.2.1 (by omega)
    · refine (pick_ok (k := j + 4) h).bind fun u20 g20 => ?_
      have e2 := w64 (n := u20.1 - 1) (by omega) (by omega)
      rw [e2]
      exact l3Op_tail (g20.2.2.mono (by omega)) ho ho.2.1 ho.2.2.1 (by omega)
  | d + 1, i, k, l, h1, h2, h3, h4 => by
    have hl := hb.2.2.2.1.1
    obtain ⟨k, rfl⟩ := fuel h2
    have e1 : IntKind.i64.wrap ((i : Int) + 1) = ((i + 1 : Nat) : Int) := wi (by omega)
    rw [spec_l3Op.l0, e1]
    refine Ok.ite (fun _ => Ok.inb (by omega) (by omega) (Ok.ite (fun _ => Ok.ite (fun _ => ?_) fun c => ?_) fun _ => ?_)) fun c => by omega
    · refine l3Op_loop hb ho z h d (i + 1) k _ (by omega) (by omega) (by rw [List.length_append]; simp; omega) fun x hx => ?_
      rcases List.mem_append.1 hx with g | g
      · exact h4 x g
      · rw [List.mem_singleton.1 g]; omega
    · exact (c (by simp; omega)).elim
    · exact l3Op_loop hb ho z h d (i + 1) k l (by omega) (by omega) (by omega) h4
theorem l3Op_ok {N : Nat} (hN : Fuel N) {b : Bk} (hb : Bd b) {s : St} {j : Nat} (h : Rd (j + 10) s) : Ok (spec_l3Op N b s) (fun r => Opd r.1 ∧ Rd j r.2) := by
  have hl := hb.2.2.2.1.1
  unfold spec_l3Op
  refine (num_ok (k := j + 9) (by simp) h).bind fun u1 g1 => (pick_ok (k := j + 8) g1.2).bind fun u2 g2 => ?_
  have hk : 1 ≤ u1.1 ∧ u1.1 ≤ 6 := by
    have := g1.1
    simp only [List.mem_cons, List.mem_nil_iff, or_false] at this
    omega
  have hop : ∀ y, -200 ≤ y → y ≤ 200 → Opd (u1.1, u2.1, y, 0) := fun y h1 h2 => ⟨by dsimp only; omega, by dsimp only; omega, by dsimp only; omega, by dsimp only; omega⟩
  have hp2 : -100 ≤ u2.1 ∧ u2.1 ≤ 100 := by omega
  have body : Ok ((loop_example_hostel_spec_l20Rd_pick N (IntKind.i64.wrap ((b.2.2.2.1.length : Int) + 2)) u2.2).bind fun u6 => spec_l3Op.l0 N N 0 u6.2 b (0, 0, 0, 0) (u1.1, u2.1, IntKind.i64.wrap (u6.1 - 1), 0) ([] : List Int)) (fun r => Opd r.1 ∧ Rd j r.2) := by
    rw [w64 (n := (b.2.2.2.1.length : Int) + 2) (by omega) (by omega)]
    refine (pick_ok (k := j + 7) g2.2.2).bind fun u6 g6 => ?_
    have e := w64 (n := u6.1 - 1) (by omega) (by omega)
    rw [e]
    unfold Fuel at hN
    exact l3Op_loop hb (hop _ (by omega) (by omega)) _ (g6.2.2.mono (by omega)) b.2.2.2.1.length 0 N [] (by omega) (by omega) (by simp) (fun x hx => by cases hx)
  have reaps : Ok ((loop_example_hostel_spec_l20Rd_pick N 5 u2.2).bind fun u7 => (loop_example_hostel_spec_l20Rd_pick N 20 u7.2).bind fun u8 => (bif (u8.1 == 0) then (loop_example_hostel_spec_l20Rd_num N ([0, 7, (-1)]) u8.2).bind fun u9 => some ((u9.1, u2.1, IntKind.i64.wrap (u7.1 - 1), 0), u9.2) else some ((u1.1, u2.1, IntKind.i64.wrap (u7.1 - 1), 0), u8.2))) (fun r => Opd r.1 ∧ Rd j r.2) := by
    refine (pick_ok (k := j + 7) g2.2.2).bind fun u7 g7 => ?_
    have e := w64 (n := u7.1 - 1) (by omega) (by omega)
    rw [e]
    exact l3Op_tail (op := (u1.1, u2.1, 0, 0)) (g7.2.2.mono (by omega)) (hop 0 (by omega) (by omega)) hp2 (by omega) (by omega)
  have plain : Ok ((loop_example_hostel_spec_l20Rd_pick N 20 u2.2).bind fun u10 => (bif (u10.1 == 0) then (loop_example_hostel_spec_l20Rd_num N ([0, 7, (-1)]) u10.2).bind fun u11 => some ((u11.1, u2.1, 0, 0), u11.2) else some ((u1.1, u2.1, 0, 0), u10.2))) (fun r => Opd r.1 ∧ Rd j r.2) :=
    l3Op_tail (op := (u1.1, u2.1, 0, 0)) (g2.2.2.mono (by omega)) (hop 0 (by omega) (by omega)) hp2 (by omega) (by omega)
  refine Ok.beq (fun _ => ?_) fun _ => Ok.beq (fun _ => Ok.beq (fun _ => body) fun _ => Ok.beq (fun _ => reaps) fun _ => plain) fun _ => Ok.beq (fun _ => body) fun _ => Ok.beq (fun _ => reaps) fun _ => plain
  refine (num_ok (k := j + 7) (by simp) g2.2.2).bind fun u3 g3 => ?_
  have h3 : 0 ≤ u3.1 ∧ u3.1 ≤ 33 := by
    have := g3.1
    simp only [List.mem_cons, List.mem_nil_iff, or_false] at this
    omega
  exact l3Op_tail (op := (u1.1, u2.1, 0, 0)) (g3.2.mono (by omega)) (hop 0 (by omega) (by omega)) hp2 (by omega) (by omega)
abbrev L8S := List Int × List Int × List Int × List Int × List Int × List Int × List Int × List Int × St
/-- The book in a result with a reader. -/
abbrev bkS (r : BkU × L8S) : Bk := (r.1.1, r.2.1, (r.2.2.1, r.2.2.2.1, r.2.2.2.2.1, r.2.2.2.2.2.1), r.2.2.2.2.2.2.1, r.2.2.2.2.2.2.2.1, r.2.2.2.2.2.2.2.2.1)
abbrev stS (r : BkU × L8S) : St := r.2.2.2.2.2.2.2.2.2
theorem bookCut_ok {b : Bk} (h : BookP b) (s : Int) : BookP (bookCut b s) := by
  unfold bookCut; rw [if_pos h]; exact cut_ok h s
theorem l3Book_loop {N : Nat} (hN : Fuel N) (n : Nat) (z : BkU) : ∀ d i k j (s : St) (b : Bk), i + d = n → d < k → n ≤ 1000 → Rd (j + 20 * d) s → BookP b →
    Ok (spec_l3Book.l0 N k n i s z (b.1, (), ((), (), (), ()), (), (), ()) b.2.1 b.2.2.1.1 b.2.2.1.2.1 b.2.2.1.2.2.1 b.2.2.1.2.2.2 b.2.2.2.1 b.2.2.2.2.1 b.2.2.2.2.2) (fun r => BookP (bkS r) ∧ Rd j (stS r))
  | 0, i, k, j, s, b, h1, h2, h3, h4, h5 => by
    obtain ⟨k, rfl⟩ := fuel h2
    rw [spec_l3Book.l0, cf (by omega)]
    exact Ok.val ⟨h5, h4⟩
  | d + 1, i, k, j, s, b, h1, h2, h3, h4, h5 => by
    obtain ⟨k, rfl⟩ := fuel h2
    have hdim := h5.dims
    rw [spec_l3Book.l0, ct (by omega)]
    refine (pick_ok (k := j + 20 * d + 19) (h4.mono (by omega))).bind fun u2 g2 => Ok.beq (fun _ => ?_) fun _ => ?_
    · refine (pick_ok (k := j + 20 * d + 18) g2.2.2).bind fun u3 g3 => ?_
      have e : spec_BookCut N (b.1, b.2.1, (b.2.2.1.1, b.2.2.1.2.1, b.2.2.1.2.2.1, b.2.2.1.2.2.2), b.2.2.2.1, b.2.2.2.2.1, b.2.2.2.2.2) u3.1 = outB (bookCut b u3.1) := spec_BookCut_eq N hN b h5.ints h5.short u3.1
      rw [e]
      simp only [Option.bind_some]
      rw [wi (by omega)]
      exact l3Book_loop hN n _ d (i + 1) k j u3.2 (bookCut b u3.1) (by omega) (by omega) h3 (g3.2.2.mono (by omega)) (bookCut_ok h5 _)
    · refine (l3Op_ok (j := j + 20 * d + 9) hN (b := (b.1, b.2.1, (b.2.2.1.1, b.2.2.1.2.1, b.2.2.1.2.2.1, b.2.2.1.2.2.2), b.2.2.2.1, b.2.2.2.2.1, b.2.2.2.2.2)) h5.bd g2.2.2).bind fun u5 g5 => ?_
      rw [wi (by omega)]
      refine Ok.ite (fun _ => ?_) fun _ => ?_
      · rw [spec_l3Do_eq N hN h5 h5.ints (1, (i : Int), 0, 0)]
        simp only [Option.bind_some]
        exact l3Book_loop hN n _ d (i + 1) k j u5.2 (doP b (1, (i : Int), 0, 0)).1 (by omega) (by omega) h3 (g5.2.mono (by omega)) (do_ok h5 _)
      · rw [spec_l3Do_eq N hN h5 h5.ints u5.1]
        simp only [Option.bind_some]
        exact l3Book_loop hN n _ d (i + 1) k j u5.2 (doP b u5.1).1 (by omega) (by omega) h3 (g5.2.mono (by omega)) (do_ok h5 _)
theorem l3Book_ok {N : Nat} (hN : Fuel N) {c : Cfg} (hc : Plat c) {n : Int} (hn : 0 ≤ n) (hn2 : n ≤ 100) {j : Nat} {s : St} (h : Rd (j + 2000) s) : Ok (spec_l3Book N c n s) (fun r => BookP (bkS r) ∧ Rd j (stS r)) := by
  unfold spec_l3Book
  rw [spec_BookOpen_eq N hc]
  simp only [Option.bind_some]
  obtain ⟨m, rfl⟩ : ∃ m : Nat, n = m := ⟨n.toNat, by omega⟩
  exact l3Book_loop hN m _ m 0 N j s (openP c) (by omega) (by unfold Fuel at hN; omega) (by omega) (h.mono (by omega)) (open_valid hc)
theorem cfg_plat {c : Cfg} (h : (1 ≤ c.1 ∧ c.1 ≤ 3) ∧ (1 ≤ c.2.1 ∧ c.2.1 ≤ 3) ∧ (1 ≤ c.2.2 ∧ c.2.2 ≤ 3)) : Plat c := by
  unfold Plat; omega
theorem numin_ok {N : Nat} {l : List Int} {a c : Int} (hl : l ≠ []) (hb : ∀ x ∈ l, a ≤ x ∧ x ≤ c) {s : St} {k : Nat} (h : Rd (k + 1) s) : Ok (loop_example_hostel_spec_l20Rd_num N l s) (fun r => (a ≤ r.1 ∧ r.1 ≤ c) ∧ Rd k r.2) :=
  (num_ok hl h).of fun r hr => ⟨hb _ hr.1, hr.2⟩
/-- A list's numbers lie between two. -/
theorem allin {l : List Int} {a c : Int} (h : l.all (fun x => decide (a ≤ x ∧ x ≤ c)) = true) : ∀ x ∈ l, a ≤ x ∧ x ≤ c := fun x hx => of_decide_eq_true (List.all_eq_true.1 h x hx)
theorem Bd.of48 {b : Bk} (h0 : -100 ≤ b.1 ∧ b.1 ≤ 100) (h1 : Sm 48 b.2.1) (h2 : Sm 49 b.2.2.1.1 ∧ Sm 49 b.2.2.1.2.1 ∧ Sm 49 b.2.2.1.2.2.1 ∧ Sm 49 b.2.2.1.2.2.2) (h3 : Sm 48 b.2.2.2.1) (h4 : ∀ x ∈ b.2.2.2.1, 0 ≤ x ∧ x ≤ 10) (h5 : Sm 48 b.2.2.2.2.1) (h6 : Sm 48 b.2.2.2.2.2) : Bd b :=
  ⟨h0, h1.mono (by omega), ⟨h2.1.mono (by omega), h2.2.1.mono (by omega), h2.2.2.1.mono (by omega), h2.2.2.2.mono (by omega)⟩, h3.mono (by omega), h4, h5.mono (by omega), h6.mono (by omega)⟩
theorem l3Bent_ok {N : Nat} (hN : Fuel N) {j : Nat} {s : St} (h : Rd (j + 3000) s) : Ok (spec_l3Bent N s) (fun r => Bd (bkS r) ∧ Rd j (stS r)) := by
  unfold spec_l3Bent
  refine (l2Cfg_ok (k := j + 2900) (h.mono (by omega))).bind fun u1 g1 => ?_
  refine (numin_ok (a := 0) (c := 45) (k := j + 2899) (by simp) (allin (by decide)) g1.2.2.2).bind fun u2 g2 => ?_
  refine (l3Book_ok (j := j + 10) hN (cfg_plat ⟨g1.1, g1.2.1, g1.2.2.1⟩) g2.1.1 (by omega) (g2.2.mono (by omega))).bind fun u3 g3 => ?_
  obtain ⟨hb, hr⟩ := g3
  have hdim := hb.dims
  have hsl := hb.slots
  have e1 : np (bkS u3) = u3.2.1.length := rfl
  have e2 : nu (bkS u3) = u3.2.2.2.2.2.2.1.length := rfl
  obtain ⟨h0, h1, ⟨q0, q1, q2, q3⟩, h3, h4, h5, h6⟩ := hb.bd48
  have p0 := q0.mono (m := 49) (by omega)
  have p1 := q1.mono (m := 49) (by omega)
  have p2 := q2.mono (m := 49) (by omega)
  have p3 := q3.mono (m := 49) (by omega)
  have h0' : -100 ≤ u3.1.1 ∧ u3.1.1 ≤ 100 := by have : (bkS u3).1 = u3.1.1 := rfl; omega
  refine (pick_ok (k := j + 9) hr).bind fun u4 g4 => Ok.beq (fun _ => ?_) fun _ => Ok.beq (fun _ => ?_) fun _ => Ok.beq (fun _ => ?_) fun _ => Ok.beq (fun _ => ?_) fun _ => Ok.beq (fun _ => ?_) fun _ => Ok.beq (fun _ => ?_) fun _ => ?_
  · exact (numin_ok (a := 0) (c := 5) (k := j + 8) (by simp) (allin (by decide)) g4.2.2).bind fun u5 g5 => Ok.val ⟨Bd.of48 (by dsimp only; omega) h1 ⟨p0, p1, p2, p3⟩ h3 h4 h5 h6, g5.2.mono (by omega)⟩
  · refine (pick_ok (k := j + 8) g4.2.2).bind fun u6 g6 => (numin_ok (a := 0) (c := 13) (k := j + 7) (by simp) (allin (by decide)) g6.2.2).bind fun u7 g7 => Ok.inb g6.1 (by omega) (Ok.val ⟨Bd.of48 h0' (h1.set _ (by omega) (by omega)) ⟨p0, p1, p2, p3⟩ h3 h4 h5 h6, g7.2.mono (by omega)⟩)
  · refine (pick_ok (k := j + 8) g4.2.2).bind fun u8 g8 => ?_
    have l0 : u3.2.2.1.length ≤ 48 := q0.1
    have l1 : u3.2.2.2.1.length ≤ 48 := q1.1
    have l2 : u3.2.2.2.2.1.length ≤ 48 := q2.1
    have l3 : u3.2.2.2.2.2.1.length ≤ 48 := q3.1
    refine Ok.ite (fun c => ?_) fun c => Ok.ite (fun c => ?_) fun c => Ok.ite (fun c => ?_) fun c => Ok.ite (fun c => ?_) fun c => by omega
    · refine (numin_ok (a := -1) (c := 99) (k := j + 7) (by simp) (allin (by decide)) g8.2.2).bind fun u9 g9 => Ok.ite (fun _ => ?_) fun d => (d (by simp; omega)).elim
      repeat rw [cf (by omega)]
      rw [ct c]
      exact Ok.val ⟨Bd.of48 h0' h1 ⟨q0.add (by omega) (by omega), p1, p2, p3⟩ h3 h4 h5 h6, g9.2.mono (by omega)⟩
    · refine (numin_ok (a := -1) (c := 99) (k := j + 7) (by simp) (allin (by decide)) g8.2.2).bind fun u9 g9 => Ok.ite (fun _ => ?_) fun d => (d (by simp; omega)).elim
      repeat rw [cf (by omega)]
      rw [ct c]
      exact Ok.val ⟨Bd.of48 h0' h1 ⟨p0, q1.add (by omega) (by omega), p2, p3⟩ h3 h4 h5 h6, g9.2.mono (by omega)⟩
    · refine (numin_ok (a := -1) (c := 99) (k := j + 7) (by simp) (allin (by decide)) g8.2.2).bind fun u9 g9 => Ok.ite (fun _ => ?_) fun d => (d (by simp; omega)).elim
      repeat rw [cf (by omega)]
      rw [ct c]
      exact Ok.val ⟨Bd.of48 h0' h1 ⟨p0, p1, q2.add (by omega) (by omega), p3⟩ h3 h4 h5 h6, g9.2.mono (by omega)⟩
    · refine (numin_ok (a := -1) (c := 99) (k := j + 7) (by simp) (allin (by decide)) g8.2.2).bind fun u9 g9 => Ok.ite (fun _ => ?_) fun d => (d (by simp; omega)).elim
      repeat rw [cf (by omega)]
      rw [ct c]
      exact Ok.val ⟨Bd.of48 h0' h1 ⟨p0, p1, p2, q3.add (by omega) (by omega)⟩ h3 h4 h5 h6, g9.2.mono (by omega)⟩
  · refine (pick_ok (k := j + 8) g4.2.2).bind fun u6 g6 => (pick_ok (k := j + 7) g6.2.2).bind fun u7 g7 => Ok.inb g6.1 (by omega) (Ok.val ⟨Bd.of48 h0' h1 ⟨p0, p1, p2, p3⟩ (h3.set _ (by omega) (by omega)) (fun x hx => ?_) h5 h6, g7.2.2.mono (by omega)⟩)
    rcases List.mem_or_eq_of_mem_set hx with g | g
    · exact h4 x g
    · omega
  · refine (numin_ok (a := -1) (c := 3) (k := j + 8) (by simp) (allin (by decide)) g4.2.2).bind fun u5 g5 => Ok.ite (fun _ => Ok.val ⟨Bd.of48 h0' h1 ⟨p0, p1, p2, p3⟩ h3 h4 (h5.set _ (by omega) (by omega)) h6, g5.2.mono (by omega)⟩) fun d => ?_
    have : (u3.2.2.2.2.2.2.2.1.length : Int) = (bkS u3).1 := hsl.1
    omega
  · refine (numin_ok (a := -1) (c := 4096) (k := j + 8) (by simp) (allin (by decide)) g4.2.2).bind fun u5 g5 => Ok.ite (fun _ => Ok.val ⟨Bd.of48 h0' h1 ⟨p0, p1, p2, p3⟩ h3 h4 h5 (h6.set _ (by omega) (by omega)), g5.2.mono (by omega)⟩) fun d => ?_
    have : (u3.2.2.2.2.2.2.2.2.1.length : Int) = (bkS u3).1 := hsl.2
    omega
  · exact Ok.val ⟨Bd.of48 h0' h1 ⟨p0, p1, p2, p3⟩ h3 h4 h5 h6, g4.2.2.mono (by omega)⟩
theorem wf_bytes {l : List Int} (h : Wf (.sl .frz (.int .u8)) l) : ∀ x ∈ l, 0 ≤ x ∧ x ≤ 255 := fun x hx => by have := wf_u8 (h.2 x hx); omega
theorem BookP.ow_le {b : Bk} (h : BookP b) {u : Nat} (hu : u < nu b) : 0 ≤ ow b u ∧ ow b u ≤ 4 := by
  have h1 := h.1
  rw [slotsB, Bool.and_eq_true, Bool.and_eq_true] at h1
  have := of_decide_eq_true ((allB_iff _ _ _).1 h1.2.2 u (by omega) (by omega))
  have hd := h.dims
  omega
theorem blk_own {b : Bk} (h : BookP b) {u : Nat} (hu : u < nu b) : 0 ≤ (blk b u).2.2 ∧ (blk b u).2.2 ≤ 4 := by
  rcases blk_cases h hu with ⟨v, h1, h2, h3, h4⟩ | ⟨_, ⟨_, h4⟩ | ⟨_, _, _, h4⟩⟩
  · rw [h4]; exact h.ow_le (by omega)
  · rw [h4]; exact ⟨Int.le_refl _, by show (0 : Int) ≤ 4; decide⟩
  · rw [h4]; exact ⟨Int.le_refl _, by show (0 : Int) ≤ 4; decide⟩
theorem ba_app (a b : List UInt8) : (ByteArray.mk a.toArray) ++ (ByteArray.mk b.toArray) = ⟨(a ++ b).toArray⟩ := by
  apply ByteArray.ext
  simp [ByteArray.data_append]
theorem ba_size (a : List UInt8) : (ByteArray.mk a.toArray).size = a.length := by simp [ByteArray.size]
/-- The sign of a unit. -/
noncomputable def signP (b : Bk) (u : Nat) : UInt8 :=
  if (blk b u).2.1 = 0 then 46 else if (blk b u).2.2 = 0 then (if (blk b u).1 = u then 111 else 45) else if (blk b u).1 = u then UInt8.ofNat (48 + ((blk b u).2.2 - 1).toNat) else 61
theorem dec_one {n : Nat} (h : n < 10) : Lib.decDigits n = [UInt8.ofNat (48 + n)] := by rw [Lib.decDigits, dif_pos h]
theorem tmArm_eq {b : Bk} (h : BookP b) {u : Nat} (hu : u < nu b) : tmArm (blk b u) u = some [signP b u] := by
  have ho := blk_own h hu
  unfold tmArm signP
  generalize blk b u = z at ho
  obtain ⟨f, n, o⟩ := z
  simp only [] at ho ⊢
  by_cases c1 : n = 0
  · subst c1; rfl
  rw [beq_eq_false_iff_ne.2 c1, cond_false, if_neg c1]
  by_cases c2 : o = 0
  · subst c2
    rw [if_pos rfl]
    by_cases c3 : f = (u : Int)
    · subst c3
      rw [if_pos rfl, show (((0 : Int) == 0 && (u : Int) == (u : Int)) = true) by simp, cond_true]
    · rw [if_neg c3, show (((0 : Int) == 0 && (u : Int) == f) = false) by rw [beq_self_eq_true, Bool.true_and]; exact beq_eq_false_iff_ne.2 (fun e => c3 e.symm), cond_false]
      rfl
  · rw [if_neg c2, beq_eq_false_iff_ne.2 c2, Bool.false_and, cond_false, cond_false]
    by_cases c3 : f = (u : Int)
    · subst c3
      have hd := dec_one (n := (o - 1).toNat) (by omega)
      rw [if_pos rfl, beq_self_eq_true, cond_true, decide_eq_true (by rw [hd]; simp only [List.length_cons, List.length_nil]; omega), cond_true, hd]
    · rw [if_neg c3, beq_eq_false_iff_ne.2 (fun e => c3 e.symm), cond_false]
noncomputable def mapL (b : Bk) : Nat → Nat → List UInt8
  | 0, _ => []
  | d + 1, i => (if 0 < i ∧ i % 8 = 0 then [124] else []) ++ (signP b i :: mapL b d (i + 1))
theorem tmBar_eq (i : Nat) (s : List UInt8) : tmBar i s = s ++ (if 0 < i ∧ i % 8 = 0 then [124] else []) := by
  unfold tmBar
  by_cases h1 : 0 < i
  · by_cases h2 : i % 8 = 0
    · rw [decide_eq_true h1, beq_iff_eq.2 h2, if_pos ⟨h1, h2⟩]; rfl
    · rw [decide_eq_true h1, beq_eq_false_iff_ne.2 h2, if_neg (fun h => h2 h.2), List.append_nil]; rfl
  · rw [decide_eq_false h1, if_neg (fun h => h1 h.1), List.append_nil]; rfl
theorem impl_TidyMap_loop (N : Nat) (hN : Fuel N) {b : Bk} (h : BookP b) : ∀ d i k (s : List UInt8), i + d = nu b → d < k → s.length ≤ 2 * i →
    impl_TidyMap.l0 N k i b s = some (⟨(s ++ mapL b d i).toArray⟩, ())
  | 0, i, k, s, e, hk, hs => by
    obtain ⟨k, rfl⟩ : ∃ j, k = j + 1 := ⟨k - 1, by omega⟩
    have hnu : nu b = b.2.2.2.1.length := rfl
    rw [impl_TidyMap.l0, decide_eq_false (by omega), cond_false, mapL, List.append_nil]
  | d + 1, i, k, s, e, hk, hs => by
    obtain ⟨k, rfl⟩ : ∃ j, k = j + 1 := ⟨k - 1, by omega⟩
    have hnu : nu b = b.2.2.2.1.length := rfl
    have hd := h.dims
    rw [impl_TidyMap.l0, decide_eq_true (by omega), cond_true, decide_eq_true (by omega), cond_true, impl_at_eq N hN h i (by omega)]
    simp only [Option.bind_some]
    rw [tmArm_eq h (by omega)]
    simp only [Option.bind_some]
    rw [impl_TidyMap_loop N hN h d (i + 1) k _ (by omega) (by omega) (by rw [tmBar_eq]; simp only [List.length_append, List.length_cons, List.length_nil]; split <;> simp only [List.length_cons, List.length_nil] <;> omega), tmBar_eq, mapL]
    simp only [List.append_assoc, List.cons_append, List.nil_append]
noncomputable def tidyMap (b : Bk) : List UInt8 := @ite _ (BookP b) (Classical.propDecidable _) (mapL b (nu b) 0) []
theorem impl_TidyMap_eq (N : Nat) (hN : Fuel N) (b : Bk) (hi : Bi b) (hb : Bshort b) : impl_TidyMap N b = some (⟨(tidyMap b).toArray⟩, ()) := by
  unfold impl_TidyMap tidyMap
  rw [impl_BookOk_eq N hN b hi hb]
  simp only [Option.bind_some]
  by_cases h : BookP b
  rotate_left
  · rw [bookOk, tf_f h, if_neg h]; rfl
  have hd := h.dims
  rw [bookOk, tf_t h, Bool.not_true, cond_false, if_pos h]
  have := impl_TidyMap_loop N hN h (nu b) 0 N [] (by omega) (by unfold Fuel at hN; omega) (by simp)
  rw [List.nil_append] at this
  exact this
theorem l20Dec_small (N : Nat) (hN : Fuel N) {v : Int} (h0 : 0 ≤ v) (h1 : v ≤ 3) : spec_l20Dec N v = some (⟨[UInt8.ofNat (48 + v.toNat)].toArray⟩, ()) := by
  obtain ⟨k, rfl⟩ : ∃ k, N = k + 1 := ⟨N - 1, by unfold Fuel at hN; omega⟩
  have e : ∀ l : List UInt8, (ByteArray.mk l.toArray) ++ ByteArray.empty = ⟨l.toArray⟩ := fun l => by
    have := ba_app l []
    rw [List.append_nil] at this
    exact this
  have hv : v = 0 ∨ v = 1 ∨ v = 2 ∨ v = 3 := by omega
  unfold spec_l20Dec
  rw [cf (by omega), cf (by omega), spec_l20Dec.l0, cf (by omega)]
  rcases hv with rfl | rfl | rfl | rfl
  · exact congrArg some (Prod.ext (e [48]) rfl)
  · exact congrArg some (Prod.ext (e [49]) rfl)
  · exact congrArg some (Prod.ext (e [50]) rfl)
  · exact congrArg some (Prod.ext (e [51]) rfl)
theorem spec_l18Sign_eq (N : Nat) (hN : Fuel N) {b : Bk} (h : BookP b) (hi : Bi b) (hb : Bshort b) {u : Nat} (hu : u < nu b) : spec_l18Sign N b u = some (⟨[signP b u].toArray⟩, ()) := by
  have ho := blk_own h hu
  unfold spec_l18Sign
  rw [spec_TidyAt_eq N hN b hi hb u]
  simp only [Option.bind_some, tidyAt]
  rw [if_pos ⟨h, by omega, by omega⟩, Int.toNat_natCast]
  unfold signP
  generalize blk b u = z at ho
  obtain ⟨f, n, o⟩ := z
  simp only [] at ho ⊢
  by_cases c1 : n = 0
  · subst c1; rfl
  rw [beq_eq_false_iff_ne.2 c1, cond_false, if_neg c1]
  by_cases c2 : o = 0
  · subst c2
    rw [if_pos rfl, beq_self_eq_true, cond_true]
    by_cases c3 : f = (u : Int)
    · subst c3
      rw [if_pos rfl, beq_self_eq_true, cond_true]
    · rw [if_neg c3, beq_eq_false_iff_ne.2 c3, cond_false, cond_true]
  · rw [if_neg c2, beq_eq_false_iff_ne.2 c2, cond_false, cond_false]
    by_cases c3 : f = (u : Int)
    · subst c3
      rw [if_pos rfl, beq_self_eq_true, cond_true, w64 (by omega) (by omega), l20Dec_small N hN (by omega) (by omega)]
      rfl
    · rw [if_neg c3, beq_eq_false_iff_ne.2 c3, cond_false]
theorem spec_TidyMap_loop (N : Nat) (hN : Fuel N) {b : Bk} (h : BookP b) (hi : Bi b) (hb : Bshort b) : ∀ d i k (s : List UInt8), i + d = nu b → d < k → s.length ≤ 2 * i →
    spec_TidyMap.l0 N k ⟨s.toArray⟩ (i : Int) b = some (⟨(s ++ mapL b d i).toArray⟩, ())
  | 0, i, k, s, e, hk, hs => by
    obtain ⟨k, rfl⟩ : ∃ j, k = j + 1 := ⟨k - 1, by omega⟩
    have hnu : nu b = b.2.2.2.1.length := rfl
    rw [spec_TidyMap.l0, spec_BookOk_eq N hN b hi hb]
    simp only [Option.bind_some]
    rw [bookOk, tf_t h, cond_true, cf (by omega), mapL, List.append_nil]
  | d + 1, i, k, s, e, hk, hs => by
    obtain ⟨k, rfl⟩ : ∃ j, k = j + 1 := ⟨k - 1, by omega⟩
    have hnu : nu b = b.2.2.2.1.length := rfl
    have hd := h.dims
    have big : ∀ n : Nat, n ≤ 1000 → decide ((n : Int) > IntKind.i64.max) = false := fun n hn => decide_eq_false (by show ¬ ((n : Int) > 9223372036854775807); omega)
    have b1 : (ByteArray.mk #[124]) = ⟨[124].toArray⟩ := rfl
    have ih : ∀ s' : List UInt8, s'.length ≤ 2 * (i + 1) → spec_TidyMap.l0 N k ⟨s'.toArray⟩ (IntKind.i64.wrap ((i : Int) + 1)) b = some (⟨(s' ++ mapL b d (i + 1)).toArray⟩, ()) := fun s' hs' => by
      rw [w64 (by omega) (by omega), show (i : Int) + 1 = ((i + 1 : Nat) : Int) by omega]
      exact spec_TidyMap_loop N hN h hi hb d (i + 1) k s' (by omega) (by omega) hs'
    rw [spec_TidyMap.l0, spec_BookOk_eq N hN b hi hb]
    simp only [Option.bind_some]
    rw [bookOk, tf_t h, cond_true, ct (by omega), spec_l18Sign_eq N hN h hi hb (by omega)]
    simp only [Option.bind_some, b1, ba_app, ba_size]
    have one : [signP b i].length = 1 := rfl
    rw [big _ (by simp only [List.length_append, List.length_cons, List.length_nil]; omega), cond_false, big _ (by simp only [List.length_append, List.length_cons, List.length_nil]; omega), cond_false, big _ (by simp only [List.length_append, List.length_cons, List.length_nil]; omega), cond_false]
    rw [ih (s ++ [signP b i]) (by simp only [List.length_append, List.length_cons, List.length_nil]; omega), ih (s ++ [124] ++ [signP b i]) (by simp only [List.length_append, List.length_cons, List.length_nil]; omega), mapL]
    by_cases c1 : 0 < i
    · rw [ct (by omega)]
      by_cases c2 : i % 8 = 0
      · rw [beq_iff_eq.2 (show Int.tmod (i : Int) 8 = 0 by rw [Int.tmod_eq_emod_of_nonneg (by omega)]; omega), cond_true, if_pos ⟨c1, c2⟩]
        simp only [List.append_assoc, List.cons_append, List.nil_append]
      · rw [beq_eq_false_iff_ne.2 (show Int.tmod (i : Int) 8 ≠ 0 by rw [Int.tmod_eq_emod_of_nonneg (by omega)]; omega), cond_false, if_neg (fun q => c2 q.2)]
        simp only [List.append_assoc, List.cons_append, List.nil_append]
    · rw [cf (by omega), if_neg (fun q => c1 q.1)]
      simp only [List.append_assoc, List.cons_append, List.nil_append]
theorem spec_TidyMap_eq (N : Nat) (hN : Fuel N) (b : Bk) (hi : Bi b) (hb : Bshort b) : spec_TidyMap N b = some (⟨(tidyMap b).toArray⟩, ()) := by
  unfold spec_TidyMap tidyMap
  by_cases h : BookP b
  rotate_left
  · obtain ⟨k, rfl⟩ : ∃ k, N = k + 1 := ⟨N - 1, by unfold Fuel at hN; omega⟩
    rw [spec_TidyMap.l0, spec_BookOk_eq _ hN b hi hb]
    simp only [Option.bind_some]
    rw [bookOk, tf_f h, if_neg h]; rfl
  have hd := h.dims
  rw [if_pos h]
  have := spec_TidyMap_loop N hN h hi hb (nu b) 0 N [] (by omega) (by unfold Fuel at hN; omega) (by simp)
  rw [List.nil_append] at this
  exact this
/-- The owner that a sign tells. -/
def ownOf (s : UInt8) : Int := if 48 ≤ s.toNat ∧ s.toNat ≤ 51 then (s.toNat : Int) - 47 else 0
/-- Does a room begin here? -/
def begS (s : UInt8) : Bool := s == 111 || decide (48 ≤ s.toNat ∧ s.toNat ≤ 51)
theorem digit_cases {o : Int} (h1 : 1 ≤ o) (h2 : o ≤ 4) : ownOf (UInt8.ofNat (48 + (o - 1).toNat)) = o ∧ begS (UInt8.ofNat (48 + (o - 1).toNat)) = true ∧ UInt8.ofNat (48 + (o - 1).toNat) ≠ 46 ∧ UInt8.ofNat (48 + (o - 1).toNat) ≠ 61 := by
  have : o = 1 ∨ o = 2 ∨ o = 3 ∨ o = 4 := by omega
  rcases this with rfl | rfl | rfl | rfl <;> exact ⟨by decide, by decide, by decide, by decide⟩
/-- A unit of an owner's own room. -/
theorem sign_own {b : Bk} (h : BookP b) {u : Nat} (hu : u < nu b) (ho : ow b u ≠ 0) : signP b u = UInt8.ofNat (48 + (ow b u - 1).toNat) := by
  have hr := (h.room_le hu).2.2.2 ho
  have hb := blk_of h (Nat.le_refl u) hu ho (by omega)
  unfold signP
  rw [hb]
  dsimp only
  rw [if_neg (by omega), if_neg ho, if_pos rfl]
theorem sign_not {b : Bk} (h : BookP b) {u : Nat} (hu : u < nu b) (ho : ow b u = 0) : signP b u = 46 ∨ signP b u = 111 ∨ signP b u = 45 ∨ signP b u = 61 := by
  unfold signP
  rcases blk_cases h hu with ⟨v, h1, h2, h3, h4⟩ | ⟨_, ⟨_, h4⟩ | ⟨h5, h6, _, h4⟩⟩
  · have hr := (h.room_le (show v < nu b by omega)).2.2.2 h3
    have hv : v ≠ u := by rintro rfl; exact h3 ho
    rw [h4]
    dsimp only
    rw [if_neg (by omega), if_neg h3, if_neg (by omega)]
    exact .inr (.inr (.inr rfl))
  · rw [h4]
    exact .inl (if_pos rfl)
  · rw [h4]
    dsimp only
    split
    · exact .inl rfl
    · rw [if_pos rfl]
      split
      · exact .inr (.inl rfl)
      · exact .inr (.inr (.inl rfl))
theorem ow_sign {b : Bk} (h : BookP b) {u : Nat} (hu : u < nu b) : ow b u = ownOf (signP b u) := by
  have hl := h.ow_le hu
  by_cases ho : ow b u = 0
  · rw [ho]
    rcases sign_not h hu ho with e | e | e | e <;> rw [e] <;> decide
  · rw [sign_own h hu ho, (digit_cases (by omega) hl.2).1]
/-- The sign of a page's first unit. -/
theorem sign_empty {b : Bk} (h : BookP b) {p : Nat} (hp : p < np b) (h0 : pg b p = 0) : signP b (8 * p) = 46 := by
  have hd := h.dims
  have e := emp_unit h (show 8 * p < nu b by omega)
  rw [show 8 * p / 8 = p by omega, if_pos h0] at e
  unfold empU at e
  unfold signP
  split at e
  · rename_i c; rw [if_pos c]
  · cases e
theorem usz_pos {k : Nat} (hk : k < 4) : 1 ≤ usz k ∧ usz k ≤ 8 ∧ 8 % usz k = 0 := by
  have : k = 0 ∨ k = 1 ∨ k = 2 ∨ k = 3 := by omega
  rcases this with rfl | rfl | rfl | rfl <;> decide
/-- A page of a size class: rooms begin at its multiples. -/
theorem sign_kind {b : Bk} (h : BookP b) {p : Nat} (hp : p < np b) (h1 : 1 ≤ pg b p) (h4 : pg b p ≤ 4) {i : Nat} (hi : i < 8) : begS (signP b (8 * p + i)) = decide (i % usz (pg b p - 1).toNat = 0) ∧ signP b (8 * p + i) ≠ 46 := by
  have hd := h.dims
  have hk : (pg b p - 1).toNat < 4 := by omega
  obtain ⟨z1, z2, z3⟩ := usz_pos hk
  have e8 : (8 * p + i) / 8 = p := by omega
  have hu : 8 * p + i < nu b := by omega
  have hbk : back b p = p := back_self (by omega)
  have em : (8 * p + i) % usz (pg b p - 1).toNat = i % usz (pg b p - 1).toNat := usz_dvd hk p i
  have hb : blk b (8 * p + i) = (((8 * p + i - i % usz (pg b p - 1).toNat : Nat) : Int), (usz (pg b p - 1).toNat : Int), ow b (8 * p + i - i % usz (pg b p - 1).toNat)) := by
    unfold blk
    rw [e8, hbk, if_neg (by omega), if_pos ⟨h1, h4⟩, em]
  have hl := h.ow_le (show 8 * p + i - i % usz (pg b p - 1).toNat < nu b by omega)
  unfold signP
  rw [hb]
  dsimp only
  rw [if_neg (by omega)]
  have hmod : i % usz (pg b p - 1).toNat ≤ i := Nat.mod_le _ _
  by_cases c : i % usz (pg b p - 1).toNat = 0
  · rw [c, Nat.sub_zero, decide_eq_true (by rfl)]
    rw [c, Nat.sub_zero] at hl
    split
    · rw [if_pos rfl]; exact ⟨by decide, by decide⟩
    · rw [if_pos rfl]
      obtain ⟨_, q1, q2, _⟩ := digit_cases (o := ow b (8 * p + i)) (by omega) (by omega)
      exact ⟨q1, q2⟩
  · rw [decide_eq_false c]
    split
    · rw [if_neg (by omega)]; exact ⟨by decide, by decide⟩
    · rw [if_neg (by omega)]; exact ⟨by decide, by decide⟩
theorem sign_wide {b : Bk} (h : BookP b) {p : Nat} (hp : p < np b) (h1 : 10 ≤ pg b p) : signP b (8 * p) ≠ 61 ∧ signP b (8 * p) ≠ 46 := by
  have hd := h.dims
  have hw := h.wide hp h1
  have hu : 8 * p < nu b := by omega
  have hl := h.ow_le hu
  have ho := hw.2.2.2.1
  rw [sign_own h hu ho]
  obtain ⟨_, _, q1, q2⟩ := digit_cases (o := ow b (8 * p)) (by omega) (by omega)
  exact ⟨q2, q1⟩
theorem sign_rest {b : Bk} (h : BookP b) {p : Nat} (hp : p < np b) (h7 : pg b p = 7) : signP b (8 * p) = 61 := by
  have hd := h.dims
  have hr := (h.page hp).2.2.1 h7
  have hr1 := hr.1
  have hq := back_le b p
  have hw := h.wide (p := back b p) (by omega) (by
    rcases h.cases (p := back b p) (by omega) with c | c | c | c
    · have := hr.1; omega
    · have := hr.1; omega
    · have := hr.1
      exfalso
      omega
    · exact c.1)
  have hne : back b p ≠ p := by
    intro e
    have := hr.1
    rw [e] at this
    omega
  have hb : blk b (8 * p) = (8 * ((back b p : Nat) : Int), (pg b (back b p) - 8) * 8, ow b (8 * back b p)) := by
    unfold blk
    rw [show 8 * p / 8 = p by omega, if_neg (by omega), if_neg (by omega)]
  unfold signP
  rw [hb]
  dsimp only
  rw [if_neg (by omega), if_neg hw.2.2.2.1, if_neg (by omega)]
theorem rest_iff {b : Bk} (h : BookP b) {p : Nat} (hp : p < np b) : pg b p = 7 ↔ signP b (8 * p) = 61 := by
  constructor
  · exact sign_rest h hp
  · intro e
    rcases h.cases hp with c | c | c | c
    · rw [sign_empty h hp c] at e; exact absurd e (by decide)
    · have := (sign_kind h hp c.1 c.2 (i := 0) (by omega)).1
      rw [Nat.add_zero, e, Nat.zero_mod] at this
      exact absurd this (by decide)
    · exact c
    · exact absurd e (sign_wide h hp c.1).1
theorem pg_not_lt {a b : Bk} (ha : BookP a) (hb : BookP b) (hn : np a = np b) (hs : ∀ u, u < nu a → signP a u = signP b u) {p : Nat} (hp : p < np a) : ¬ pg a p < pg b p := by
  intro hlt
  have da := ha.dims
  have db := hb.dims
  have h0 := hs (8 * p) (by omega)
  have hr : ∀ q, q < np a → pg b q = 7 → pg a q = 7 := fun q hq e => (rest_iff ha hq).2 (by rw [hs (8 * q) (by omega)]; exact (rest_iff hb (by omega)).1 e)
  rcases ha.cases hp with c | c | c | c
  · rw [sign_empty ha hp c] at h0
    rcases hb.cases (p := p) (by omega) with d | d | d | d
    · omega
    · exact (sign_kind hb (p := p) (by omega) d.1 d.2 (i := 0) (by omega)).2 h0.symm
    · rw [sign_rest hb (by omega) d] at h0; exact absurd h0 (by decide)
    · exact (sign_wide hb (p := p) (by omega) d.1).2 h0.symm
  · rcases hb.cases (p := p) (by omega) with d | d | d | d
    · omega
    · have hka : (pg a p - 1).toNat < 4 := by omega
      have hkb : (pg b p - 1).toNat < 4 := by omega
      have hz : usz (pg a p - 1).toNat < usz (pg b p - 1).toNat ∧ usz (pg b p - 1).toNat ≤ 8 := by
        have : (pg a p - 1).toNat < (pg b p - 1).toNat := by omega
        generalize (pg a p - 1).toNat = i at this hka
        generalize (pg b p - 1).toNat = j at this hkb
        have hi : i = 0 ∨ i = 1 ∨ i = 2 := by omega
        have hj : j = 1 ∨ j = 2 ∨ j = 3 := by omega
        rcases hi with rfl | rfl | rfl <;> rcases hj with rfl | rfl | rfl <;> first | omega | decide
      have e := hs (8 * p + usz (pg a p - 1).toNat) (by omega)
      have e1 := (sign_kind ha hp c.1 c.2 (i := usz (pg a p - 1).toNat) (by omega)).1
      have e2 := (sign_kind hb (p := p) (by omega) d.1 d.2 (i := usz (pg a p - 1).toNat) (by omega)).1
      rw [Nat.mod_self, decide_eq_true rfl] at e1
      have z1 := (usz_pos hka).1
      rw [Nat.mod_eq_of_lt hz.1, decide_eq_false (by omega)] at e2
      rw [e, e2] at e1
      cases e1
    · have := hr p hp d; omega
    · have hw := hb.wide (p := p) (by omega) d.1
      have hw3 := hw.2.2.1
      have h1 := hw.2.2.2.2.2 1 (by omega) (by omega)
      have h2 := hr (p + 1) (by omega) h1
      have h3 := (ha.page (p := p + 1) (by omega)).2.2.1 h2
      have e : back a (p + 1) = p := by rw [back, if_pos h2, back_self (by omega)]
      have := h3.1
      rw [e] at this
      omega
  · rcases hb.cases (p := p) (by omega) with d | d | d | d
    · omega
    · omega
    · omega
    · rw [sign_rest ha hp c] at h0
      exact (sign_wide hb (p := p) (by omega) d.1).1 h0.symm
  · rcases hb.cases (p := p) (by omega) with d | d | d | d
    · omega
    · omega
    · omega
    · have hwa := ha.wide hp c.1
      have hwb := hb.wide (p := p) (by omega) d.1
      have hw3 := hwb.2.2.1
      obtain ⟨m, hm⟩ : ∃ m : Nat, (m : Int) = pg a p - 8 := ⟨(pg a p - 8).toNat, by omega⟩
      have h1 := hwb.2.2.2.2.2 m (by omega) (by omega)
      have h2 := hr (p + m) (by omega) h1
      have h3 := (ha.page (p := p + m) (by omega)).2.2.1 h2
      have e : back a (p + m) = p := back_run (by omega) m fun j hj hj2 => by
        by_cases c2 : j = m
        · rw [c2]; exact h2
        · exact hwa.2.2.2.2.2 j hj (by omega)
      have := h3.2.1
      rw [e] at this
      omega
theorem mapL_len (b : Bk) : ∀ d i, 0 < i → (mapL b d i).length = d + ((i + d - 1) / 8 - (i - 1) / 8)
  | 0, i, h => by rw [mapL]; simp only [List.length_nil]; omega
  | d + 1, i, h => by
    rw [mapL, List.length_append, List.length_cons, mapL_len b d (i + 1) (by omega)]
    by_cases c : i % 8 = 0
    · rw [if_pos ⟨h, c⟩]; simp only [List.length_cons, List.length_nil]; omega
    · rw [if_neg (fun q => c q.2)]; simp only [List.length_nil]; omega
theorem tidyMap_len {b : Bk} (h : BookP b) : (tidyMap b).length = 9 * np b - 1 := by
  have hd := h.dims
  unfold tidyMap
  rw [if_pos h]
  obtain ⟨d, hd2⟩ : ∃ d, nu b = d + 1 := ⟨nu b - 1, by omega⟩
  rw [hd2, mapL, if_neg (by omega), List.nil_append, List.length_cons, mapL_len b d 1 (by omega)]
  omega
theorem mapL_inj (a b : Bk) : ∀ d i, mapL a d i = mapL b d i → ∀ u, i ≤ u → u < i + d → signP a u = signP b u
  | 0, i, _, u, h1, h2 => by omega
  | d + 1, i, e, u, h1, h2 => by
    rw [mapL, mapL] at e
    have e := List.append_cancel_left e
    injection e with e1 e2
    by_cases c : u = i
    · rw [c]; exact e1
    · exact mapL_inj a b d (i + 1) e2 u (by omega) (by omega)
theorem map_same {a b : Bk} (ha : BookP a) (hb : BookP b) (e : tidyMap a = tidyMap b) : np a = np b ∧ nu a = nu b ∧ (∀ u, u < nu a → ow a u = ow b u) ∧ ∀ p, p < np a → pg a p = pg b p := by
  have da := ha.dims
  have db := hb.dims
  have l1 := tidyMap_len ha
  have l2 := tidyMap_len hb
  rw [e, l2] at l1
  have hn : np a = np b := by omega
  have hu : nu a = nu b := by omega
  unfold tidyMap at e
  rw [if_pos ha, if_pos hb, hu] at e
  have hs : ∀ u, u < nu a → signP a u = signP b u := fun u h => mapL_inj a b (nu b) 0 e u (by omega) (by omega)
  refine ⟨hn, hu, fun u h => ?_, fun p hp => ?_⟩
  · rw [ow_sign ha h, ow_sign hb (by omega), hs u h]
  · have g1 := pg_not_lt ha hb hn hs hp
    have g2 := pg_not_lt hb ha hn.symm (fun u h => (hs u (by omega)).symm) (p := p) (by omega)
    omega
theorem draw_tm {N : Nat} (hN : Fuel N) {code : List Int} (hc : ∀ x ∈ code, 0 ≤ x ∧ x ≤ 255) : ∃ (b : Bk), spec_DrawTidyMap N code = some ((b.1, (), ((), (), (), ()), (), (), ()), (b.2.1, b.2.2.1.1, b.2.2.1.2.1, b.2.2.1.2.2.1, b.2.2.1.2.2.2, b.2.2.2.1, b.2.2.2.2.1, b.2.2.2.2.2)) ∧ Bd b := by
  have : Ok (spec_DrawTidyMap N code) (fun r => Bd (r.1.1, r.2.1, (r.2.2.1, r.2.2.2.1, r.2.2.2.2.1, r.2.2.2.2.2.1), r.2.2.2.2.2.2.1, r.2.2.2.2.2.2.2.1, r.2.2.2.2.2.2.2.2)) := by
    unfold spec_DrawTidyMap
    exact (open_ok hc).bind fun u1 g1 => (l3Bent_ok (j := 0) hN (g1.mono (by omega))).bind fun u2 g2 => Ok.val g2.1
  obtain ⟨r, e, h1⟩ := this
  exact ⟨_, e, h1⟩
theorem TidyMap_loop (N : Nat) {a b : Bk} (ha : BookP a) (hb : BookP b) (hn : np a = np b) (hu : nu a = nu b) (ho : ∀ u, u < nu a → ow a u = ow b u) (hp : ∀ p, p < np a → pg a p = pg b p) (z1 z2 : BkU) : ∀ d i k, i + d = nu a → d < k →
    laws_FnTidyMap.l0 N k (i : Int) z1 z2 a.2.1 a.2.2.1.1 a.2.2.1.2.1 a.2.2.1.2.2.1 a.2.2.1.2.2.2 a.2.2.2.1 a.2.2.2.2.1 a.2.2.2.2.2 b.2.1 b.2.2.1.1 b.2.2.1.2.1 b.2.2.1.2.2.1 b.2.2.1.2.2.2 b.2.2.2.1 b.2.2.2.2.1 b.2.2.2.2.2 = some (true, ())
  | 0, i, k, e, hk => by
    obtain ⟨k, rfl⟩ : ∃ j, k = j + 1 := ⟨k - 1, by omega⟩
    have n1 : nu a = a.2.2.2.1.length := rfl
    have n2 : nu b = b.2.2.2.1.length := rfl
    rw [laws_FnTidyMap.l0, cf (by omega), beq_iff_eq.2 (by omega)]
  | d + 1, i, k, e, hk => by
    obtain ⟨k, rfl⟩ : ∃ j, k = j + 1 := ⟨k - 1, by omega⟩
    have n1 : nu a = a.2.2.2.1.length := rfl
    have n2 : nu b = b.2.2.2.1.length := rfl
    have n3 : np a = a.2.1.length := rfl
    have n4 : np b = b.2.1.length := rfl
    have da := ha.dims
    have hq : Int.tdiv (i : Int) 8 = ((i / 8 : Nat) : Int) := by rw [Int.tdiv_eq_ediv_of_nonneg (by omega)]; omega
    have e1 : a.2.2.2.1.getD i 0 = b.2.2.2.1.getD i 0 := ho i (by omega)
    have e2 : a.2.1.getD (i / 8) 0 = b.2.1.getD (i / 8) 0 := hp (i / 8) (by omega)
    rw [laws_FnTidyMap.l0, ct (by omega), hq, w64 (n := ((i / 8 : Nat) : Int)) (by omega) (by omega), w64 (n := (i : Int) + 1) (by omega) (by omega), Int.toNat_natCast, Int.toNat_natCast]
    simp (disch := omega) only [bnd]
    rw [e1, e2, bne_self_eq_false, cond_false, bne_self_eq_false, cond_false, show (i : Int) + 1 = ((i + 1 : Nat) : Int) by omega]
    exact TidyMap_loop N ha hb hn hu ho hp _ _ d (i + 1) k (by omega) (by omega)
theorem plainFnTidyMap (N : Nat) (hN : Fuel N) (code more : List Int) (hc : ∀ x ∈ code, 0 ≤ x ∧ x ≤ 255) (hm : ∀ x ∈ more, 0 ≤ x ∧ x ≤ 255) : laws_FnTidyMap N code more = some (true, ()) := by
  unfold laws_FnTidyMap
  by_cases hl : (code.length : Int) > 1048576
  · rw [ct hl]
  rw [cf hl]
  by_cases hl2 : (more.length : Int) > 1048576
  · rw [ct hl2]
  rw [cf hl2]
  obtain ⟨a, e, ha⟩ := draw_tm hN hc
  obtain ⟨b, e2, hb⟩ := draw_tm hN hm
  rw [e, e2]
  simp only [Option.bind_some, impl_TidyMap_eq N hN a ha.ints ha.short, impl_TidyMap_eq N hN b hb.ints hb.short, spec_TidyMap_eq N hN a ha.ints ha.short, beq_self_eq_true, Bool.not_true, cond_false, spec_BookOk_eq N hN a ha.ints ha.short, spec_BookOk_eq N hN b hb.ints hb.short]
  by_cases h1 : BookP a
  rotate_left
  · rw [bookOk, tf_f h1]; rfl
  by_cases h2 : BookP b
  rotate_left
  · rw [bookOk, tf_t h1, Bool.not_true, cond_false, bookOk, tf_f h2]; rfl
  rw [bookOk, tf_t h1, Bool.not_true, cond_false, bookOk, tf_t h2, Bool.not_true, cond_false, ByteArray.toList_mk, ByteArray.toList_mk]
  by_cases h3 : tidyMap a = tidyMap b
  rotate_left
  · rw [beq_eq_false_iff_ne.2 h3]; rfl
  rw [beq_iff_eq.2 h3, Bool.not_true, cond_false]
  obtain ⟨q1, q2, q3, q4⟩ := map_same h1 h2 h3
  exact TidyMap_loop N h1 h2 q1 q2 q3 q4 _ _ (nu a) 0 N (by omega) (by have := h1.dims; unfold Fuel at hN; omega)
theorem lawFnTidyMap (y0 y1 : List Int) (w0 : Wf (.sl .frz (.int .u8)) y0) (w1 : Wf (.sl .frz (.int .u8)) y1) : laws_FnTidyMap N0 y0 y1 = some (true, ()) := plainFnTidyMap N0 hN0 y0 y1 (wf_bytes w0) (wf_bytes w1)
end Go.Proofs.YtdkinmgpclbedaaDoor.Pv
