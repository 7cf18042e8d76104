import Derived.Test.YtdhdlnojoonhcaaGreatZ5Pa
import Derived.Test.YtdhdlnojoonhcaaGreatPvRow
namespace Go.Proofs.YtdhdlnojoonhcaaGreat.Pv
open Go Go.Pv Go.Proofs
set_option linter.unusedVariables false
set_option linter.unusedSimpArgs false
theorem impl_l2 (N : Nat) (s : Int) (p k : Nat) (hp : p ≤ 100) (hk : k < 4) (x : Int) (ps os is es : List Int) : ∀ d u j (h : H4), u + d * usz k = 8 → 0 < (heads h k).length + d →
    h.1.length + d ≤ 10000 → h.2.1.length + d ≤ 10000 → h.2.2.1.length + d ≤ 10000 → h.2.2.2.length + d ≤ 10000 →
    lh_impl_Book_takes.l2 N (j + 2 * d + 1) s k p ((8 * p + u : Nat) : Int) (x, (), ((), (), (), ()), (), (), ()) ps os is es h.1 h.2.1 h.2.2.1 h.2.2.2 =
      lh_impl_Book_takes.l1 N j s ((heads h k ++ roomsOf k d (8 * p + u)).getD 0 0) (x, (), ((), (), (), ()), (), (), ()) ps os is es
        (hset h k ((heads h k ++ roomsOf k d (8 * p + u)).drop 1)).1 (hset h k ((heads h k ++ roomsOf k d (8 * p + u)).drop 1)).2.1 (hset h k ((heads h k ++ roomsOf k d (8 * p + u)).drop 1)).2.2.1 (hset h k ((heads h k ++ roomsOf k d (8 * p + u)).drop 1)).2.2.2
  | 0, u, j, h, e, hne, l0, l1, l2, l3 => by
    have hw : IntKind.i64.wrap (IntKind.i64.wrap ((p : Int) + 1) * 8) = ((8 * p + 8 : Nat) : Int) := by rw [w64 (n := (p : Int) + 1) (by omega) (by omega), w64 (by omega) (by omega)]; omega
    rw [show j + 2 * 0 + 1 = j + 1 by omega, lh_impl_Book_takes.l2, hw, cf (by omega), roomsOf, List.append_nil]
    rcases usz_vals hk with ⟨e2, rfl⟩ | ⟨e2, rfl⟩ | ⟨e2, rfl⟩ | ⟨e2, rfl⟩
    · have hne' : 0 < h.1.length := hne
      simp (disch := omega) only [ct, cf]
      rw [tail_eq]; rfl
    · have hne' : 0 < h.2.1.length := hne
      simp (disch := omega) only [ct, cf]
      rw [tail_eq]; rfl
    · have hne' : 0 < h.2.2.1.length := hne
      simp (disch := omega) only [ct, cf]
      rw [tail_eq]; rfl
    · have hne' : 0 < h.2.2.2.length := hne
      simp (disch := omega) only [ct, cf]
      rw [tail_eq]; rfl
  | d + 1, u, j, h, e, hne, l0, l1, l2, l3 => by
    have hus : usz k = 1 ∨ usz k = 2 ∨ usz k = 4 ∨ usz k = 8 := by rcases usz_vals hk with ⟨h, _⟩ | ⟨h, _⟩ | ⟨h, _⟩ | ⟨h, _⟩ <;> omega
    have e' : u + usz k + d * usz k = 8 := by rw [Nat.add_mul, Nat.one_mul] at e; omega
    have sz := impl_unitsOf_eq N hk
    have hw : IntKind.i64.wrap (IntKind.i64.wrap ((p : Int) + 1) * 8) = ((8 * p + 8 : Nat) : Int) := by rw [w64 (n := (p : Int) + 1) (by omega) (by omega), w64 (by omega) (by omega)]; omega
    have hw2 : IntKind.i64.wrap (((8 * p + u : Nat) : Int) + (usz k : Nat)) = ((8 * p + (u + usz k) : Nat) : Int) := by rw [w64 (by omega) (by omega)]; omega
    rw [show j + 2 * (d + 1) + 1 = (j + 2 * d + 1) + 1 + 1 by omega, lh_impl_Book_takes.l2, hw, ct (by omega)]
    have hn : ∀ z : Int, [z].length = 1 := fun _ => rfl
    rcases usz_vals hk with ⟨e2, rfl⟩ | ⟨e2, rfl⟩ | ⟨e2, rfl⟩ | ⟨e2, rfl⟩
    · have ih := impl_l2 N s p 0 hp (by omega) x ps os is es d (u + usz 0) j (h.1 ++ [((8 * p + u : Nat) : Int)], h.2) e' (by simp [heads, hd]; omega) (by simp only [List.length_append, hn]; omega) (by dsimp only; omega) (by dsimp only; omega) (by dsimp only; omega)
      simp (disch := omega) only [ct, cf, hn, lh_impl_Book_takes.l4, sz, Ob, hw2]
      rw [ih]
      simp only [roomsOf, heads, hset, hd, List.append_assoc, List.singleton_append, Nat.add_assoc]
    · have ih := impl_l2 N s p 1 hp (by omega) x ps os is es d (u + usz 1) j (h.1, h.2.1 ++ [((8 * p + u : Nat) : Int)], h.2.2) e' (by simp [heads, hd]; omega) (by dsimp only; omega) (by simp only [List.length_append, hn]; omega) (by dsimp only; omega) (by dsimp only; omega)
      simp (disch := omega) only [ct, cf, hn, lh_impl_Book_takes.l4, sz, Ob, hw2]
      rw [ih]
      simp only [roomsOf, heads, hset, hd, List.append_assoc, List.singleton_append, Nat.add_assoc]
    · have ih := impl_l2 N s p 2 hp (by omega) x ps os is es d (u + usz 2) j (h.1, h.2.1, h.2.2.1 ++ [((8 * p + u : Nat) : Int)], h.2.2.2) e' (by simp [heads, hd]; omega) (by dsimp only; omega) (by dsimp only; omega) (by simp only [List.length_append, hn]; omega) (by dsimp only; omega)
      simp (disch := omega) only [ct, cf, hn, lh_impl_Book_takes.l4, sz, Ob, hw2]
      rw [ih]
      simp only [roomsOf, heads, hset, hd, List.append_assoc, List.singleton_append, Nat.add_assoc]
    · have ih := impl_l2 N s p 3 hp (by omega) x ps os is es d (u + usz 3) j (h.1, h.2.1, h.2.2.1, h.2.2.2 ++ [((8 * p + u : Nat) : Int)]) e' (by simp [heads, hd]; omega) (by dsimp only; omega) (by dsimp only; omega) (by dsimp only; omega) (by simp only [List.length_append, hn]; omega)
      simp (disch := omega) only [ct, cf, hn, lh_impl_Book_takes.l4, sz, Ob, hw2]
      rw [ih]
      simp only [roomsOf, heads, hset, hd, List.append_assoc, List.singleton_append, Nat.add_assoc]
theorem impl_take_tail (N k : Nat) (s x : Int) (hs : -10 ≤ s ∧ s ≤ 10) (a : Int) (ps os is es h0 h1 h2 h3 : List Int) (ha : 0 ≤ a ∧ a < os.length) :
    lh_impl_Book_takes.l1 N (k + 1 + 1) s a (x, (), ((), (), (), ()), (), (), ()) ps os is es h0 h1 h2 h3 =
      some ((0, a), ((x, (), ((), (), (), ()), (), (), ()), (ps, os.set a.toNat (s + 1), is, es, h0, h1, h2, h3))) := by
  rw [lh_impl_Book_takes.l1, bnd ha.1 ha.2, w64 (n := s + 1) (by omega) (by omega), lh_impl_Book_takes.l3]
theorem impl_takes_eq (N : Nat) (hN : Fuel N) {b : Bk} (h : Tk b) (s : Int) (hs : 0 ≤ s ∧ s ≤ 10) (u : Int) :
    lh_impl_Book_takes N s u (b.1, (), ((), (), (), ()), (), (), ()) b.2.1 b.2.2.1.1 b.2.2.1.2.1 b.2.2.1.2.2.1 b.2.2.1.2.2.2 b.2.2.2.1 b.2.2.2.2.1 b.2.2.2.2.2 = outI (takeP b s u) := by
  have hdim := h.dims
  have hnp : np b = b.2.1.length := rfl
  have hnu : nu b = b.2.2.2.1.length := rfl
  obtain ⟨m, hm⟩ : ∃ m, N = m + 100 := ⟨N - 100, by unfold Fuel at hN; omega⟩
  unfold lh_impl_Book_takes takeP
  rw [impl_BookKind_eq N hN]
  simp only [Ob]
  rcases kindOf_cases u with hk | ⟨hk, hu1, hu2⟩ | ⟨k, hk4, hk⟩
  · rw [hk, ct (by omega), if_pos (by omega)]
  · rw [hk, cf (by omega), beqD, ct (by omega), if_neg (by omega), if_pos rfl]
    have hn : IntKind.i64.wrap (Int.tdiv (IntKind.i64.wrap (IntKind.i64.wrap (u + 8) - 1)) 8) = (((u + 7) / 8).toNat : Int) := by
      rw [w64 (n := u + 8) (by omega) (by omega), w64 (n := u + 8 - 1) (by omega) (by omega), td (by omega), w64 (by omega) (by omega)]; omega
    rw [hn, impl_takesPages_eq N hN b s (by omega) _ (by omega) (by omega) (by omega) (by omega)]
    rfl
  · rw [hk, cf (by omega), beqD, cf (by omega), if_neg (by omega), if_neg (by omega)]
    have hl := h.hd_len hk4
    have q0 := h.hd_len (k := 0) (by omega)
    have q1 := h.hd_len (k := 1) (by omega)
    have q2 := h.hd_len (k := 2) (by omega)
    have q3 := h.hd_len (k := 3) (by omega)
    have r0 : b.2.2.1.1.length ≤ 48 := by show (hd b 0).length ≤ 48; omega
    have r1 : b.2.2.1.2.1.length ≤ 48 := by show (hd b 1).length ≤ 48; omega
    have r2 : b.2.2.1.2.2.1.length ≤ 48 := by show (hd b 2).length ≤ 48; omega
    have r3 : b.2.2.1.2.2.2.length ≤ 48 := by show (hd b 3).length ≤ 48; omega
    have hidx : slices_Index_int_int N b.2.1 0 = some (runOf b.2.1 1, ()) := impl_index_eq N hN b.2.1 (by omega)
    have hw1 : IntKind.i64.wrap ((k : Int) + 1) = (k : Int) + 1 := w64 (by omega) (by omega)
    have tail : ∀ (a : Int) (x : Int) (ps os is es h0 h1 h2 h3 : List Int), 0 ≤ a ∧ a < os.length → lh_impl_Book_takes.l1 N N s a (x, (), ((), (), (), ()), (), (), ()) ps os is es h0 h1 h2 h3 =
      some ((0, a), ((x, (), ((), (), (), ()), (), (), ()), (ps, os.set a.toNat (s + 1), is, es, h0, h1, h2, h3))) := by
      intro a x ps os is es h0 h1 h2 h3 ha
      have := impl_take_tail N (m + 98) s x (by omega) a ps os is es h0 h1 h2 h3 ha
      rwa [show m + 98 + 1 + 1 = N by omega] at this
    have head : (hd b k).length ≠ 0 → 0 ≤ (hd b k).getD 0 0 ∧ (hd b k).getD 0 0 < b.2.2.2.1.length := by
      intro hne
      have hmem : (hd b k).getD 0 0 ∈ hd b k := by rw [List.getD_eq_getElem?_getD, List.getElem?_eq_getElem (by omega)]; exact List.getElem_mem _
      have := h.mem hk4 hmem
      omega
    have ek : (k : Int).toNat = k := Int.toNat_natCast k
    -- a page is split and its first room taken
    have carve : ∀ p : Nat, p < np b → (hd b k).length = 0 → lh_impl_Book_takes.l0 N N s k p (b.1, (), ((), (), (), ()), (), (), ()) (b.2.1.set p ((k : Int) + 1)) b.2.2.1.1 b.2.2.1.2.1 b.2.2.1.2.2.1 b.2.2.1.2.2.2 b.2.2.2.1 b.2.2.2.2.1 b.2.2.2.2.2 = outI (popP (carveP b p k) s k) := by
      intro p hp hnil
      have hd8 : 0 + 8 / usz k * usz k = 8 := by rcases usz_vals hk4 with ⟨h, _⟩ | ⟨h, _⟩ | ⟨h, _⟩ | ⟨h, _⟩ <;> rw [h]
      have hd8' : 1 ≤ 8 / usz k ∧ 8 / usz k ≤ 8 := by rcases usz_vals hk4 with ⟨h, _⟩ | ⟨h, _⟩ | ⟨h, _⟩ | ⟨h, _⟩ <;> rw [h] <;> omega
      have hhe : heads b.2.2.1 k = hd b k := hd_heads (0, [], b.2.2.1, [], [], []) b rfl k
      have hnil' : hd b k = [] := List.eq_nil_of_length_eq_zero hnil
      have := impl_l2 N s p k (by omega) hk4 b.1 (b.2.1.set p ((k : Int) + 1)) b.2.2.2.1 b.2.2.2.2.1 b.2.2.2.2.2 (8 / usz k) 0 (m + 98 - 2 * (8 / usz k)) b.2.2.1 hd8 (by omega) (by omega) (by omega) (by omega) (by omega)
      obtain ⟨r, hr⟩ := runOf_rooms hk4 p
      rw [hhe, hnil', List.nil_append] at this
      simp only [Nat.add_zero] at this
      rw [hr] at this
      have hl0 : ∀ j, lh_impl_Book_takes.l0 N (j + 1) s k p (b.1, (), ((), (), (), ()), (), (), ()) (b.2.1.set p ((k : Int) + 1)) b.2.2.1.1 b.2.2.1.2.1 b.2.2.1.2.2.1 b.2.2.1.2.2.2 b.2.2.2.1 b.2.2.2.2.1 b.2.2.2.2.2 =
        lh_impl_Book_takes.l2 N j s k p ((8 * p : Nat) : Int) (b.1, (), ((), (), (), ()), (), (), ()) (b.2.1.set p ((k : Int) + 1)) b.2.2.2.1 b.2.2.2.2.1 b.2.2.2.2.2 b.2.2.1.1 b.2.2.1.2.1 b.2.2.1.2.2.1 b.2.2.1.2.2.2 := by
        intro j
        rw [lh_impl_Book_takes.l0, w64 (by omega) (by omega), show (p : Int) * 8 = ((8 * p : Nat) : Int) by omega]
      have e1 := hl0 (m + 99)
      rw [show m + 99 + 1 = N by omega] at e1
      rw [show m + 98 - 2 * (8 / usz k) + 2 * (8 / usz k) + 1 = m + 99 by omega] at this
      rw [e1, this]
      have t := impl_take_tail N (m + 96 - 2 * (8 / usz k)) s b.1 (by omega) ((8 * p : Nat) : Int) (b.2.1.set p ((k : Int) + 1)) b.2.2.2.1 b.2.2.2.2.1 b.2.2.2.2.2
      rw [show m + 96 - 2 * (8 / usz k) + 1 + 1 = m + 98 - 2 * (8 / usz k) by omega] at t
      have hg : ((((8 * p : Nat) : Int)) :: r).getD 0 0 = ((8 * p : Nat) : Int) := rfl
      rw [hg, t _ _ _ _ (by omega)]
      have hc : hd (carveP b p k) k = ((8 * p : Nat) : Int) :: r := by unfold carveP; rw [hnil', List.nil_append, hr]; exact hd_hset _ _ _ _ hk4 _
      unfold popP
      rw [hc, hg]
      unfold carveP wHd wPg wOw
      rw [hset_hset _ hk4]
    simp only [ek]
    have full : ∀ p, runOf b.2.1 1 = p → True := fun _ _ => trivial
    rcases usz_vals hk4 with ⟨hz, rfl⟩ | ⟨hz, rfl⟩ | ⟨hz, rfl⟩ | ⟨hz, rfl⟩
    · have hh : hd b 0 = b.2.2.1.1 := rfl
      rw [hh] at head carve ⊢
      simp (disch := omega) only [cf, ct, beqD, hidx, Ob]
      by_cases c : (b.2.2.1.1.length : Int) = 0
      · rw [ct c, if_pos (by omega)]
        by_cases c2 : runOf b.2.1 1 < 0
        · rw [ct c2, if_pos c2]
        rw [cf c2, if_neg c2]
        obtain ⟨p, hp, hpl, _⟩ := runOf_lt b.2.1 1 (by omega) c2
        rw [hp, bnd (by omega) (by omega), hw1, Int.toNat_natCast]
        exact carve p (by omega) (by omega)
      · rw [cf c, if_neg (by omega)]
        have hg := head (by omega)
        unfold popP
        rw [hh]
        simp (disch := omega) only [ct]
        rw [tail_eq, tail _ _ _ _ _ _ _ _ _ _ hg]
        rfl
    · have hh : hd b 1 = b.2.2.1.2.1 := rfl
      rw [hh] at head carve ⊢
      simp (disch := omega) only [cf, ct, beqD, hidx, Ob]
      by_cases c : (b.2.2.1.2.1.length : Int) = 0
      · rw [ct c, if_pos (by omega)]
        by_cases c2 : runOf b.2.1 1 < 0
        · rw [ct c2, if_pos c2]
        rw [cf c2, if_neg c2]
        obtain ⟨p, hp, hpl, _⟩ := runOf_lt b.2.1 1 (by omega) c2
        rw [hp, bnd (by omega) (by omega), hw1, Int.toNat_natCast]
        exact carve p (by omega) (by omega)
      · rw [cf c, if_neg (by omega)]
        have hg := head (by omega)
        unfold popP
        rw [hh]
        simp (disch := omega) only [ct]
        rw [tail_eq, tail _ _ _ _ _ _ _ _ _ _ hg]
        rfl
    · have hh : hd b 2 = b.2.2.1.2.2.1 := rfl
      rw [hh] at head carve ⊢
      simp (disch := omega) only [cf, ct, beqD, hidx, Ob]
      by_cases c : (b.2.2.1.2.2.1.length : Int) = 0
      · rw [ct c, if_pos (by omega)]
        by_cases c2 : runOf b.2.1 1 < 0
        · rw [ct c2, if_pos c2]
        rw [cf c2, if_neg c2]
        obtain ⟨p, hp, hpl, _⟩ := runOf_lt b.2.1 1 (by omega) c2
        rw [hp, bnd (by omega) (by omega), hw1, Int.toNat_natCast]
        exact carve p (by omega) (by omega)
      · rw [cf c, if_neg (by omega)]
        have hg := head (by omega)
        unfold popP
        rw [hh]
        simp (disch := omega) only [ct]
        rw [tail_eq, tail _ _ _ _ _ _ _ _ _ _ hg]
        rfl
    · have hh : hd b 3 = b.2.2.1.2.2.2 := rfl
      rw [hh] at head carve ⊢
      simp (disch := omega) only [cf, ct, beqD, hidx, Ob]
      by_cases c : (b.2.2.1.2.2.2.length : Int) = 0
      · rw [ct c, if_pos (by omega)]
        by_cases c2 : runOf b.2.1 1 < 0
        · rw [ct c2, if_pos c2]
        rw [cf c2, if_neg c2]
        obtain ⟨p, hp, hpl, _⟩ := runOf_lt b.2.1 1 (by omega) c2
        rw [hp, bnd (by omega) (by omega), hw1, Int.toNat_natCast]
        exact carve p (by omega) (by omega)
      · rw [cf c, if_neg (by omega)]
        have hg := head (by omega)
        unfold popP
        rw [hh]
        simp (disch := omega) only [ct]
        rw [tail_eq, tail _ _ _ _ _ _ _ _ _ _ hg]
        rfl
theorem take_set_succ (m : List Int) (i : Nat) (x : Int) (hi : i < m.length) : (m.set i x).take (i + 1) = m.take i ++ [x] := by
  apply List.ext_getElem?
  intro q
  by_cases c : q < i
  · rw [List.getElem?_take, if_pos (by omega), List.getElem?_append_left (by rw [List.length_take]; omega), List.getElem?_take, if_pos c, List.getElem?_set, if_neg (by omega)]
  · by_cases c2 : q = i
    · subst c2
      rw [List.getElem?_take, if_pos (by omega), List.getElem?_append_right (by rw [List.length_take]; omega), List.length_take, Nat.min_eq_left (by omega), Nat.sub_self, List.getElem?_set, if_pos rfl, if_pos hi]; rfl
    · rw [List.getElem?_take, if_neg (by omega), List.getElem?_append_right (by rw [List.length_take]; omega), List.length_take, Nat.min_eq_left (by omega)]
      rw [List.getElem?_eq_none (by simp; omega)]
theorem drop_set (m : List Int) (i j : Nat) (x : Int) (h : i < j) : (m.set i x).drop j = m.drop j := by
  apply List.ext_getElem?
  intro q
  rw [List.getElem?_drop, List.getElem?_drop, List.getElem?_set, if_neg (by omega)]
theorem drop_get {m l : List Int} {j : Nat} (h : m.drop j = l.drop j) : m.getD j 0 = l.getD j 0 ∧ m.drop (j + 1) = l.drop (j + 1) := by
  refine ⟨?_, ?_⟩
  · have := congrArg (fun z => z[0]?) h
    simp only [List.getElem?_drop, Nat.add_zero] at this
    rw [List.getD_eq_getElem?_getD, List.getD_eq_getElem?_getD, this]
  · have := congrArg (List.drop 1) h
    rwa [List.drop_drop, List.drop_drop] at this
theorem delete_loop (N : Nat) (p : Nat) (l : List Int) (hl : l.length ≤ 1000) (hz : ∀ z ∈ l, 0 ≤ z ∧ z ≤ 1000) : ∀ (d j i k : Nat) (m : List Int), j + d = l.length → i ≤ j → m.length = l.length →
    m.take i = others (l.take j) p → m.drop j = l.drop j → d < k → slices_DeleteFunc_int_int.l0 N k p i j m = some ((), others l p)
  | 0, j, i, k, m, e, hij, hm, ht, hd, hk => by
    obtain ⟨k, rfl⟩ : ∃ q, k = q + 1 := ⟨k - 1, by omega⟩
    have hcl : (cpy m i (m.length - i) (List.replicate (m.length - i) 0)).length = m.length := by simp only [cpy, List.length_append, List.length_take, List.length_drop, List.length_replicate]; omega
    rw [slices_DeleteFunc_int_int.l0, cf (by omega), dt (show (0 : Int) ≤ (i : Int) by omega), Int.toNat_natCast, hcl, dt (show (i : Int) ≤ m.length by omega)]
    simp only [cond_true, List.drop_zero, Nat.sub_zero]
    have : (cpy m i (m.length - i) (List.replicate (m.length - i) 0)).take i = m.take i := by
      unfold cpy
      rw [List.take_append_of_le_length (by rw [List.length_take]; omega), List.take_take, Nat.min_self]
    rw [this, ht, List.take_of_length_le (by omega)]
  | d + 1, j, i, k, m, e, hij, hm, ht, hd, hk => by
    obtain ⟨k, rfl⟩ : ∃ q, k = q + 1 := ⟨k - 1, by omega⟩
    obtain ⟨g1, g2⟩ := drop_get hd
    have hzj := hz (l.getD j 0) (by rw [List.getD_eq_getElem?_getD, List.getElem?_eq_getElem (by omega)]; exact List.getElem_mem _)
    have htk : l.take (j + 1) = l.take j ++ [l.getD j 0] := by rw [List.take_add_one, List.getElem?_eq_getElem (by omega), List.getD_eq_getElem?_getD, List.getElem?_eq_getElem (by omega)]; rfl
    rw [slices_DeleteFunc_int_int.l0, ct (by omega), bnd (by omega) (by omega), Int.toNat_natCast, g1]
    simp (disch := omega) only [lh_impl_Book_free_1, Ob, td, w64]
    rw [show (j : Int) + 1 = ((j + 1 : Nat) : Int) by omega, show (i : Int) + 1 = ((i + 1 : Nat) : Int) by omega]
    by_cases c : l.getD j 0 / 8 = (p : Int)
    · rw [beq_iff_eq.2 c, Bool.not_true, cond_false]
      refine delete_loop N p l hl hz d (j + 1) i k m (by omega) (by omega) hm ?_ g2 (by omega)
      rw [ht, htk]
      unfold others
      rw [List.filter_append, List.filter_cons, if_neg (by rw [c]; simp), List.filter_nil, List.append_nil]
    · rw [beq_eq_false_iff_ne.2 c, Bool.not_false, cond_true, bnd (by omega) (by omega), Int.toNat_natCast]
      refine delete_loop N p l hl hz d (j + 1) (i + 1) k _ (by omega) (by omega) (by rw [List.length_set]; exact hm) ?_ (by rw [drop_set _ _ _ _ (by omega)]; exact g2) (by omega)
      rw [take_set_succ _ _ _ (by omega), ht, htk]
      unfold others
      rw [List.filter_append, List.filter_cons, if_pos (bne_iff_ne.2 c), List.filter_nil]
theorem others_none (p : Nat) : ∀ l : List Int, (∀ z ∈ l, z / 8 ≠ (p : Int)) → others l p = l
  | [], _ => rfl
  | z :: r, h => by
    have := others_none p r (fun y hy => h y (List.mem_cons_of_mem _ hy))
    unfold others at this ⊢
    rw [List.filter_cons, if_pos (bne_iff_ne.2 (h z List.mem_cons_self)), this]
theorem idx2_loop (N : Nat) (p : Nat) (l : List Int) (hl : l.length ≤ 1000) (hz : ∀ z ∈ l, 0 ≤ z ∧ z ≤ 1000) : ∀ d i k, i + d = l.length → d < k →
    (slices_IndexFunc_int_int_2.l0 N k l p (l.length : Int) (i : Int) = some (-1, ()) ∧ ∀ j, i ≤ j → j < l.length → l.getD j 0 / 8 ≠ (p : Int)) ∨
    ∃ q : Nat, slices_IndexFunc_int_int_2.l0 N k l p (l.length : Int) (i : Int) = some ((q : Int), ()) ∧ i ≤ q ∧ q < l.length ∧ l.getD q 0 / 8 = (p : Int) ∧ ∀ j, i ≤ j → j < q → l.getD j 0 / 8 ≠ (p : Int)
  | 0, i, k, e, hk => by
    obtain ⟨k, rfl⟩ : ∃ j, k = j + 1 := ⟨k - 1, by omega⟩
    refine .inl ⟨?_, fun j h1 h2 => by omega⟩
    rw [slices_IndexFunc_int_int_2.l0, cf (by omega)]
  | d + 1, i, k, e, hk => by
    obtain ⟨k, rfl⟩ : ∃ j, k = j + 1 := ⟨k - 1, by omega⟩
    have hzi := hz (l.getD i 0) (by rw [List.getD_eq_getElem?_getD, List.getElem?_eq_getElem (by omega)]; exact List.getElem_mem _)
    rw [slices_IndexFunc_int_int_2.l0, ct (by omega), bnd (by omega) (by omega), Int.toNat_natCast]
    simp (disch := omega) only [lh_impl_Book_free_1, Ob, td, w64]
    rw [show (i : Int) + 1 = ((i + 1 : Nat) : Int) by omega]
    by_cases g : l.getD i 0 / 8 = (p : Int)
    · refine .inr ⟨i, ?_, Nat.le_refl _, by omega, g, fun j h1 h2 => by omega⟩
      rw [beq_iff_eq.2 g, cond_true]
    · rw [beq_eq_false_iff_ne.2 g, cond_false]
      rcases idx2_loop N p l hl hz d (i + 1) k (by omega) (by omega) with ⟨h1, h2⟩ | ⟨q, h1, h2, h3, h4, h5⟩
      · refine .inl ⟨h1, fun j g1 g2 => ?_⟩
        by_cases e2 : j = i
        · subst e2; exact g
        · exact h2 j (by omega) g2
      · refine .inr ⟨q, h1, by omega, h3, h4, fun j g1 g2 => ?_⟩
        by_cases e2 : j = i
        · subst e2; exact g
        · exact h5 j (by omega) g2
theorem mem_getD {l : List Int} {z : Int} (h : z ∈ l) : ∃ j, j < l.length ∧ l.getD j 0 = z := by
  obtain ⟨j, hj, e⟩ := List.getElem_of_mem h
  exact ⟨j, hj, by rw [List.getD_eq_getElem?_getD, List.getElem?_eq_getElem hj, e]; rfl⟩
theorem delete_eq (N : Nat) (hN : Fuel N) (p : Nat) (hp : p ≤ 100) (l : List Int) (hl : l.length ≤ 1000) (hz : ∀ z ∈ l, 0 ≤ z ∧ z ≤ 1000) : slices_DeleteFunc_int_int N p l = some ((), others l p) := by
  unfold Fuel at hN
  unfold slices_DeleteFunc_int_int slices_IndexFunc_int_int_2
  rcases idx2_loop N p l hl hz l.length 0 N (by omega) (by omega) with ⟨h1, h2⟩ | ⟨q, h1, h2, h3, h4, h5⟩
  · rw [show ((0 : Nat) : Int) = 0 from rfl] at h1
    rw [h1]
    simp only [Ob, beq_self_eq_true, cond_true]
    rw [others_none p l fun z hzz => by obtain ⟨j, hj, e⟩ := mem_getD hzz; rw [← e]; exact h2 j (by omega) hj]
  · rw [show ((0 : Nat) : Int) = 0 from rfl] at h1
    rw [h1]
    simp only [Ob]
    rw [beq_eq_false_iff_ne.2 (by omega), cond_false, w64 (by omega) (by omega), show (q : Int) + 1 = ((q + 1 : Nat) : Int) by omega]
    refine delete_loop N p l hl hz (l.length - (q + 1)) (q + 1) q N l (by omega) (by omega) rfl ?_ rfl (by omega)
    have htk : l.take (q + 1) = l.take q ++ [l.getD q 0] := by rw [List.take_add_one, List.getElem?_eq_getElem (by omega), List.getD_eq_getElem?_getD, List.getElem?_eq_getElem (by omega)]; rfl
    have hno := others_none p (l.take q) fun z hzz => by
      obtain ⟨j, hj, e⟩ := mem_getD hzz
      rw [List.length_take] at hj
      rw [← e, List.getD_eq_getElem?_getD, List.getElem?_take, if_pos (by omega), ← List.getD_eq_getElem?_getD]
      exact h5 j (by omega) (by omega)
    rw [htk]
    unfold others at hno ⊢
    rw [List.filter_append, List.filter_cons, if_neg (by rw [h4]; simp), List.filter_nil, List.append_nil, hno]
abbrev outF (b : Bk) : Option (Unit × (BkU × L8)) :=
  some ((), ((b.1, (), ((), (), (), ()), (), (), ()), (b.2.1, b.2.2.2.1, b.2.2.2.2.1, b.2.2.2.2.2, b.2.2.1.1, b.2.2.1.2.1, b.2.2.1.2.2.1, b.2.2.1.2.2.2)))
theorem free_wide (N : Nat) (p n : Nat) (hn : n ≤ 12) (hp : p ≤ 100) (x : Int) (h0 h1 h2 h3 os is es : List Int) :
    ∀ (d i k : Nat) (ps : List Int), i + d = n → p + n ≤ ps.length → lh_impl_Book_free.l2 N (k + 3 * d + 1) n i (x, (), ((), (), (), ()), (), (), ()) p ps h0 h1 h2 h3 os is es =
      outF (x, setRow ps 0 d (p + i), (h0, h1, h2, h3), os, is, es)
  | 0, i, k, ps, e, hl => by
    rw [show k + 3 * 0 + 1 = k + 1 by omega, lh_impl_Book_free.l2, cf (by omega)]; rfl
  | d + 1, i, k, ps, e, hl => by
    rw [show k + 3 * (d + 1) + 1 = (k + 3 * d + 1) + 1 + 1 + 1 by omega, lh_impl_Book_free.l2, ct (by omega), lh_impl_Book_free.l4, w64 (n := (p : Int) + i) (by omega) (by omega), bnd (by omega) (by omega), lh_impl_Book_free.l6, w64 (n := (i : Int) + 1) (by omega) (by omega), show ((p : Int) + i).toNat = p + i by omega, show (i : Int) + 1 = ((i + 1 : Nat) : Int) by omega]
    rw [free_wide N p n hn hp x h0 h1 h2 h3 os is es d (i + 1) k _ (by omega) (by rw [List.length_set]; exact hl)]
    rfl
theorem insert_eq (N : Nat) (l : List Int) (u : Int) (hl : l.length ≤ 1000) : slices_Insert_int_int_2 N 0 l [u] = some ((), u :: l) := by
  unfold slices_Insert_int_int_2 insF
  rw [ct ⟨by omega, by omega, by simp, by simp; omega⟩]
  rfl
theorem BookP.short_set {b : Bk} (h : BookP b) (u : Nat) (k : Nat) (hk : k < 4) (l : List Int) (hl : l.length ≤ 1000) : Bshort (wHd (wOw b u 0) k l) := by
  have hdim := h.dims
  have hsl := h.slots
  have e1 : np b = b.2.1.length := rfl
  have e2 : nu b = b.2.2.2.1.length := rfl
  refine ⟨?_, fun j => ?_, ?_, ?_, ?_⟩
  · show b.2.1.length ≤ 4194304; omega
  · show (hd (wHd (wOw b u 0) k l) j).length ≤ 4194304
    have key : ∀ j, j < 4 → (hd (wHd (wOw b u 0) k l) j).length ≤ 4194304 := by
      intro j hj
      have hlj := h.hd_len hj
      by_cases e : j = k
      · subst e
        have : hd (wHd (wOw b u 0) j l) j = l := hd_hset _ _ _ _ hj _
        rw [this]; omega
      · have : hd (wHd (wOw b u 0) k l) j = hd b j := hd_other _ _ _ _ hk hj e _
        rw [this]; omega
    by_cases c : j < 4
    · exact key j c
    · obtain ⟨q, rfl⟩ : ∃ q, j = q + 3 := ⟨j - 3, by omega⟩
      exact key 3 (by omega)
  · show (b.2.2.2.1.set u 0).length ≤ 4194304; rw [List.length_set]; omega
  · show b.2.2.2.2.1.length ≤ 4194304; omega
  · show b.2.2.2.2.2.length ≤ 4194304; omega
theorem impl_free_eq (N : Nat) (hN : Fuel N) {b : Bk} (h : BookP b) (u : Nat) (hu : u < nu b) (ho : ow b u ≠ 0) :
    lh_impl_Book_free N u (b.1, (), ((), (), (), ()), (), (), ()) b.2.1 b.2.2.1.1 b.2.2.1.2.1 b.2.2.1.2.2.1 b.2.2.1.2.2.2 b.2.2.2.1 b.2.2.2.2.1 b.2.2.2.2.2 = outF (freeP b u) := by
  have hdim := h.dims
  have hnp : np b = b.2.1.length := rfl
  have hnu : nu b = b.2.2.2.1.length := rfl
  obtain ⟨p, hp8, hp, hcase⟩ := h.owned hu ho
  have e8 : ((u : Int) / 8) = (p : Int) := by omega
  obtain ⟨m, hm⟩ : ∃ m, N = m + 1 + 1 := ⟨N - 2, by unfold Fuel at hN; omega⟩
  have hm' : 1099511627774 < m := by unfold Fuel at hN; omega
  unfold lh_impl_Book_free
  rw [bnd (by omega) (by omega), Int.toNat_natCast]
  suffices hh : lh_impl_Book_free.l0 N (m + 1 + 1) u (b.1, (), ((), (), (), ()), (), (), ()) b.2.1 b.2.2.1.1 b.2.2.1.2.1 b.2.2.1.2.2.1 b.2.2.1.2.2.2 (b.2.2.2.1.set u 0) b.2.2.2.2.1 b.2.2.2.2.2 = outF (freeP b u) by rwa [← hm] at hh
  unfold freeP
  rw [hp8, lh_impl_Book_free.l0, td (by omega), e8, w64 (n := (p : Int)) (by omega) (by omega), lh_impl_Book_free.l1, bnd (by omega) (by omega), Int.toNat_natCast, fold_pg]
  simp only [impl_isKind, impl_within_eq, Ob]
  rcases hcase with ⟨c1, c2, c3⟩ | ⟨c1, c2, c3⟩
  · obtain ⟨k, hk⟩ : ∃ k : Nat, pg b p = k + 1 := ⟨(pg b p - 1).toNat, by omega⟩
    have hk4 : k < 4 := by omega
    have ek : (pg b p - 1).toNat = k := by omega
    have ek2 : IntKind.i64.wrap (pg b p - 1) = (k : Int) := by rw [w64 (by omega) (by omega)]; omega
    rw [dt ⟨c1, c2⟩, Bool.not_true, cond_false, if_pos ⟨c1, c2⟩, ek, ek2]
    have q0 := h.hd_len (k := 0) (by omega)
    have q1 := h.hd_len (k := 1) (by omega)
    have q2 := h.hd_len (k := 2) (by omega)
    have q3 := h.hd_len (k := 3) (by omega)
    have i0 : slices_Insert_int_int_2 N 0 b.2.2.1.1 [(u : Int)] = some ((), (u : Int) :: hd b 0) := insert_eq N (hd b 0) u (by omega)
    have i1 : slices_Insert_int_int_2 N 0 b.2.2.1.2.1 [(u : Int)] = some ((), (u : Int) :: hd b 1) := insert_eq N (hd b 1) u (by omega)
    have i2 : slices_Insert_int_int_2 N 0 b.2.2.1.2.2.1 [(u : Int)] = some ((), (u : Int) :: hd b 2) := insert_eq N (hd b 2) u (by omega)
    have i3 : slices_Insert_int_int_2 N 0 b.2.2.1.2.2.2 [(u : Int)] = some ((), (u : Int) :: hd b 3) := insert_eq N (hd b 3) u (by omega)
    have hlk := h.hd_len hk4
    have key : lh_impl_Book_free.l3 N m (pg b p) (b.1, (), ((), (), (), ()), (), (), ()) p b.2.1 (b.2.2.2.1.set u 0) b.2.2.2.2.1 b.2.2.2.2.2 (hset b.2.2.1 k ((u : Int) :: hd b k)).1 (hset b.2.2.1 k ((u : Int) :: hd b k)).2.1 (hset b.2.2.1 k ((u : Int) :: hd b k)).2.2.1 (hset b.2.2.1 k ((u : Int) :: hd b k)).2.2.2 =
        outF (cond (tf (FreeP (wHd (wOw b u 0) k ((u : Int) :: hd b k)) p 0)) (wHd (wPg (wHd (wOw b u 0) k ((u : Int) :: hd b k)) (b.2.1.set p 0)) k (((u : Int) :: hd b k).filter fun x => x / 8 != (p : Int))) (wHd (wOw b u 0) k ((u : Int) :: hd b k))) := by
      have hb2 := h.short_set u k hk4 ((u : Int) :: hd b k) (by rw [List.length_cons]; omega)
      have hnu2 : nu (wHd (wOw b u 0) k ((u : Int) :: hd b k)) = nu b := by show (b.2.2.2.1.set u 0).length = _; rw [List.length_set]; rfl
      have hown := impl_owned_eq N hN (wHd (wOw b u 0) k ((u : Int) :: hd b k)) hb2 (8 * p) 8 (by omega)
      have hnz := nz_seg (wHd (wOw b u 0) k ((u : Int) :: hd b k)) (8 * p) 8 (by omega)
      have hfr : (nz (seg (wHd (wOw b u 0) k ((u : Int) :: hd b k)) (8 * p) 8) = 0) ↔ FreeP (wHd (wOw b u 0) k ((u : Int) :: hd b k)) p 0 := hnz.trans ⟨fun g v _ hv => g v hv, fun g v hv => g v (Nat.zero_le _) hv⟩
      obtain ⟨m2, hm2⟩ : ∃ m2, m = m2 + 1 + 1 := ⟨m - 2, by omega⟩
      have w1 : IntKind.i64.wrap ((p : Int) * 8) = ((8 * p : Nat) : Int) := by rw [w64 (by omega) (by omega)]; omega
      have w2 : IntKind.i64.wrap (((8 * p : Nat) : Int) + 8) = ((8 * p + 8 : Nat) : Int) := by rw [w64 (by omega) (by omega)]; omega
      have hown' : impl_Book_owned N (b.1, b.2.1, ((hset b.2.2.1 k ((u : Int) :: hd b k)).1, (hset b.2.2.1 k ((u : Int) :: hd b k)).2.1, (hset b.2.2.1 k ((u : Int) :: hd b k)).2.2.1, (hset b.2.2.1 k ((u : Int) :: hd b k)).2.2.2), b.2.2.2.1.set u 0, b.2.2.2.2.1, b.2.2.2.2.2) ((8 * p : Nat) : Int) ((8 * p + 8 : Nat) : Int) = some ((nz (seg (wHd (wOw b u 0) k ((u : Int) :: hd b k)) (8 * p) 8) : Int), ()) := hown
      rw [hm2, lh_impl_Book_free.l3, w1, w2, hown']
      simp only [Ob, cndb]
      by_cases c : (nz (seg (wHd (wOw b u 0) k ((u : Int) :: hd b k)) (8 * p) 8) : Int) = 0
      · rw [if_pos c, tf_t (hfr.1 (by omega)), cond_true, ek2]
        have hdel : slices_DeleteFunc_int_int N p ((u : Int) :: hd b k) = some ((), others ((u : Int) :: hd b k) p) := delete_eq N hN p (by omega) _ (by rw [List.length_cons]; omega) (by
          intro z hz
          rcases List.mem_cons.1 hz with rfl | hz
          · omega
          · have := h.mem hk4 hz; omega)
        rcases usz_vals hk4 with ⟨hz, rfl⟩ | ⟨hz, rfl⟩ | ⟨hz, rfl⟩ | ⟨hz, rfl⟩
        all_goals
          simp (disch := omega) only [ct, cf, hset, hdel, Ob, lh_impl_Book_free.l5, bnd, Int.toNat_natCast]
          rfl
      · rw [if_neg c, tf_f (fun g => c (by have := hfr.2 g; omega)), cond_false]
        rfl
    rcases usz_vals hk4 with ⟨hz, rfl⟩ | ⟨hz, rfl⟩ | ⟨hz, rfl⟩ | ⟨hz, rfl⟩
    all_goals
      simp (disch := omega) only [ct, cf, i0, i1, i2, i3, Ob]
      exact key
  · rw [df (by omega), Bool.not_false, cond_true, if_neg (by omega)]
    have hw := (h.wide hp c1).2.2.1
    have := free_wide N p (pg b p - 8).toNat (by omega) (by omega) b.1 b.2.2.1.1 b.2.2.1.2.1 b.2.2.1.2.2.1 b.2.2.1.2.2.2 (b.2.2.2.1.set u 0) b.2.2.2.2.1 b.2.2.2.2.2 (pg b p - 8).toNat 0 (m - 3 * (pg b p - 8).toNat - 1) b.2.1 (by omega) (by omega)
    rw [show m - 3 * (pg b p - 8).toNat - 1 + 3 * (pg b p - 8).toNat + 1 = m by omega, show ((0 : Nat) : Int) = 0 from rfl, Nat.add_zero, Int.toNat_of_nonneg (by omega)] at this
    rw [w64 (n := pg b p - 8) (by omega) (by omega), this]
    rfl
theorem impl_reaps_eq (N : Nat) (hN : Fuel N) {b : Bk} (h : BookP b) (s : Int) :
    lh_impl_Book_reaps N s (b.1, (), ((), (), (), ()), (), (), ()) b.2.1 b.2.2.1.1 b.2.2.1.2.1 b.2.2.1.2.2.1 b.2.2.1.2.2.2 b.2.2.2.1 b.2.2.2.2.1 b.2.2.2.2.2 = outI (reapP b s) := by
  have hdim := h.dims
  have hsl := h.slots
  have hin : impl_Book_isIn N (b.1, b.2.1, (b.2.2.1.1, b.2.2.1.2.1, b.2.2.1.2.2.1, b.2.2.1.2.2.2), b.2.2.2.1, b.2.2.2.2.1, b.2.2.2.2.2) s = some (decide (0 ≤ s ∧ s < b.1 ∧ inn b s.toNat ≠ 0), ()) := impl_isIn_eq N b h.sizes s
  unfold lh_impl_Book_reaps reapP
  rw [hin]
  simp only [Ob]
  by_cases c : 0 ≤ s ∧ s < b.1 ∧ inn b s.toNat ≠ 0
  rotate_left
  · rw [df c, Bool.not_false, cond_true, if_pos (Classical.byContradiction fun g => c ⟨by omega, by omega, fun e => g (.inr (.inr e))⟩)]
  rw [dt c, Bool.not_true, cond_false, if_neg (by omega), bnd (by omega) (by omega), fold_in, cndb]
  by_cases c4 : inn b s.toNat = 1
  · rw [if_pos c4, if_pos c4]
  have hbl : impl_Book_blocks N (b.1, b.2.1, (b.2.2.1.1, b.2.2.1.2.1, b.2.2.1.2.2.1, b.2.2.1.2.2.2), b.2.2.2.1, b.2.2.2.2.1, b.2.2.2.2.2) s = some ((), blksOf b s (nu b) 0) := impl_blocks_eq N hN h s (by omega)
  rw [if_neg c4, if_neg c4, hbl]
  simp only [Ob]
  have hff : firstOf b s = (blksOf b s (nu b) 0).headD (-1) := rfl
  rcases firstOf_cases (b := b) s with e | ⟨u, e, h1, h2⟩
  · cases hl : blksOf b s (nu b) 0 with
    | nil =>
      rw [if_pos (by omega)]
      rw [cf (by simp), bnd (by omega) (by omega)]
      rfl
    | cons x r =>
      obtain ⟨v, e2, _⟩ := blks_mem b s (nu b) 0 x (by rw [hl]; exact List.mem_cons_self)
      rw [hff, hl] at e
      have : x = -1 := e
      omega
  · cases hl : blksOf b s (nu b) 0 with
    | nil => rw [hff, hl] at e; have : (-1 : Int) = u := e; omega
    | cons x r =>
      have hx : x = (u : Int) := by rw [hff, hl] at e; exact e
      subst hx
      have hg : (((u : Int)) :: r).getD 0 0 = (u : Int) := rfl
      rw [ct (by simp), ct (by simp), hg, impl_free_eq N hN h u h1 (by omega), if_neg (by omega), e, Int.toNat_natCast]
      simp only [Ob]
      rw [ct (by simp)]
theorem BookP.ep_in {b : Bk} (h : BookP b) {s : Nat} (hs : (s : Int) < b.1) : 0 ≤ ep b s ∧ ep b s ≤ 4095 := by
  have h1 := h.1
  unfold slotsB at h1
  rw [Bool.and_eq_true, Bool.and_eq_true] at h1
  have := of_decide_eq_true ((allB_iff _ _ _).1 h1.2.1 s (by omega) (by omega))
  exact ⟨this.2.2.1, this.2.2.2.1⟩
theorem impl_enters_eq (N : Nat) (hN : Fuel N) {b : Bk} (h : BookP b) (s : Int) (hs : 0 ≤ s ∧ s < b.1) :
    lh_impl_Book_enters N s (b.1, (), ((), (), (), ()), (), (), ()) b.2.1 b.2.2.1.1 b.2.2.1.2.1 b.2.2.1.2.2.1 b.2.2.1.2.2.2 b.2.2.2.1 b.2.2.2.2.1 b.2.2.2.2.2 = outP (enterP b s.toNat) := by
  have hdim := h.dims
  have hsl := h.slots
  have he := h.ep_in (s := s.toNat) (by omega)
  have hin : impl_Book_isIn N (b.1, b.2.1, (b.2.2.1.1, b.2.2.1.2.1, b.2.2.1.2.2.1, b.2.2.1.2.2.2), b.2.2.2.1, b.2.2.2.2.1, b.2.2.2.2.2) s = some (decide (0 ≤ s ∧ s < b.1 ∧ inn b s.toNat ≠ 0), ()) := impl_isIn_eq N b h.sizes s
  have hgs : ∀ x : Int, (b.2.2.2.2.2.set s.toNat x).getD s.toNat 0 = x := fun x => by rw [getD_set _ _ _ _ (by omega), if_pos rfl]
  unfold lh_impl_Book_enters enterP
  rw [hin]
  simp only [Ob]
  by_cases d : inn b s.toNat = 0
  rotate_left
  · rw [dt ⟨hs.1, hs.2, d⟩, cond_true, if_pos d]
  rw [df (fun g => g.2.2 d), cond_false, if_neg (show ¬ inn b s.toNat ≠ 0 from fun g => g d)]
  simp (disch := omega) only [bnd, fold_in, fold_ep, w64, cndn, cndb, List.length_set, hgs]
  by_cases d2 : ep b s.toNat = 4095
  · rw [if_pos d2, if_pos d2]
  · rw [if_neg d2, if_neg d2]; rfl
theorem impl_do_eq (N : Nat) (hN : Fuel N) {b : Bk} (h : BookP b) (op : Op) :
    lh_impl_Book_do N op (b.1, (), ((), (), (), ()), (), (), ()) b.2.1 b.2.2.1.1 b.2.2.1.2.1 b.2.2.1.2.2.1 b.2.2.1.2.2.2 b.2.2.2.1 b.2.2.2.2.1 b.2.2.2.2.2 = outI (doP b op) := by
  have hdim := h.dims
  have hsl := h.slots
  have hnu : nu b = b.2.2.2.1.length := rfl
  have hin : ∀ s, impl_Book_isIn N (b.1, b.2.1, (b.2.2.1.1, b.2.2.1.2.1, b.2.2.1.2.2.1, b.2.2.1.2.2.2), b.2.2.2.1, b.2.2.2.2.1, b.2.2.2.2.2) s = some (decide (0 ≤ s ∧ s < b.1 ∧ inn b s.toNat ≠ 0), ()) := impl_isIn_eq N b h.sizes
  have his : impl_Book_isSlot N (b.1, b.2.1, (b.2.2.1.1, b.2.2.1.2.1, b.2.2.1.2.2.1, b.2.2.1.2.2.2), b.2.2.2.1, b.2.2.2.2.1, b.2.2.2.2.2) op.2.1 = some (decide (0 ≤ op.2.1 ∧ op.2.1 < b.1), ()) := impl_isSlotB_eq N b (by omega) (by omega) op.2.1
  unfold lh_impl_Book_do doP
  rw [his]
  simp only [Ob, cndb]
  by_cases hs : 0 ≤ op.2.1 ∧ op.2.1 < b.1
  rotate_left
  · rw [df hs, Bool.not_false, cond_true, if_pos (by omega)]
  rw [dt hs, Bool.not_true, cond_false, if_neg (show ¬ (op.2.1 < 0 ∨ op.2.1 ≥ b.1) by omega)]
  have hm : lh_impl_Book_mine N (b.1, b.2.1, (b.2.2.1.1, b.2.2.1.2.1, b.2.2.1.2.2.1, b.2.2.1.2.2.2), b.2.2.2.1, b.2.2.2.2.1, b.2.2.2.2.2) op.2.1 op.2.2.1 = some (whoseP b op.2.1 op.2.2.1, ()) := impl_mine_eq N h _ _ (by omega)
  have hbl : impl_Book_blocks N (b.1, b.2.1, (b.2.2.1.1, b.2.2.1.2.1, b.2.2.1.2.2.1, b.2.2.1.2.2.2), b.2.2.2.1, b.2.2.2.2.1, b.2.2.2.2.2) op.2.1 = some ((), blksOf b op.2.1 (nu b) 0) := impl_blocks_eq N hN h op.2.1 (by omega)
  by_cases c1 : op.1 = 1
  · rw [if_pos c1, if_pos c1, impl_enters_eq N hN h _ hs]; rfl
  rw [if_neg c1, if_neg c1, hin]
  simp only [Ob]
  by_cases d : inn b op.2.1.toNat = 0
  · rw [df (fun g => g.2.2 d), Bool.not_false, cond_true, if_pos d]
  rw [dt ⟨hs.1, hs.2, d⟩, Bool.not_true, cond_false, if_neg d]
  unfold ownP
  by_cases c2 : op.1 = 2
  · rw [if_pos c2, if_pos c2, impl_takes_eq N hN h.tk _ (by omega)]; rfl
  rw [if_neg c2, if_neg c2]
  have hwv : whoseP b op.2.1 op.2.2.1 = 0 ∨ whoseP b op.2.1 op.2.2.1 > 0 := by unfold whoseP; split; exact .inr (by omega); split; exact .inl rfl; exact .inr (by omega)
  by_cases c3 : op.1 = 3
  · rw [if_pos c3, if_pos c3, hm]
    simp only [Ob]
    by_cases c : whoseP b op.2.1 op.2.2.1 > 0
    · rw [if_neg (by omega), if_pos c]
    obtain ⟨h1, h2, h3, _⟩ := whose_in c
    have := impl_free_eq N hN h op.2.2.1.toNat (by omega) h3
    rw [Int.toNat_of_nonneg h1] at this
    have hz : whoseP b op.2.1 op.2.2.1 = 0 := by omega
    rw [if_pos hz, if_neg c, this, hz]
    rfl
  rw [if_neg c3, if_neg c3]
  by_cases c4 : op.1 = 4
  · rw [if_pos c4, if_pos c4, hm]
    simp only [Ob]
    by_cases c : whoseP b op.2.1 op.2.2.1 > 0
    · rw [if_neg (by omega), if_neg (by omega), if_pos c]
    obtain ⟨h1, h2, h3, _⟩ := whose_in c
    have hz : whoseP b op.2.1 op.2.2.1 = 0 := by omega
    rw [if_pos hz, if_neg c, hin]
    simp only [Ob]
    by_cases g : 0 ≤ op.2.2.2 ∧ op.2.2.2 < b.1 ∧ inn b op.2.2.2.toNat ≠ 0
    · rw [dt g, Bool.not_true, cond_false, if_pos hz, bnd h1 (by omega), w64 (by omega) (by omega), hz, if_neg (show ¬ (op.2.2.2 < 0 ∨ op.2.2.2 ≥ b.1 ∨ inn b op.2.2.2.toNat = 0) from fun q => by rcases q with q | q | q; omega; omega; exact g.2.2 q)]
      rfl
    · rw [df g, Bool.not_false, cond_true, if_pos (show op.2.2.2 < 0 ∨ op.2.2.2 ≥ b.1 ∨ inn b op.2.2.2.toNat = 0 from Classical.byContradiction fun q => g ⟨by omega, by omega, fun e => q (.inr (.inr e))⟩)]
      rfl
  rw [if_neg c4, if_neg c4]
  by_cases c5 : op.1 = 5
  · rw [if_pos c5, if_pos c5, hbl]
    simp only [Ob]
    rcases firstOf_cases (b := b) op.2.1 with e | ⟨u, e, h1, h2⟩
    · cases hl : blksOf b op.2.1 (nu b) 0 with
      | nil => rw [cf (by simp), if_neg (by omega), bnd (by omega) (by omega)]; rfl
      | cons x r =>
        obtain ⟨v, e2, _⟩ := blks_mem b op.2.1 (nu b) 0 x (by rw [hl]; exact List.mem_cons_self)
        unfold firstOf at e; rw [hl] at e
        have : x = -1 := e
        omega
    · cases hl : blksOf b op.2.1 (nu b) 0 with
      | nil => unfold firstOf at e; rw [hl] at e; have : (-1 : Int) = u := e; omega
      | cons x r => rw [ct (by simp), if_pos (by omega)]
  rw [if_neg c5, if_neg c5]
  by_cases c6 : op.1 = 6
  · rw [if_pos c6, if_pos c6, impl_reaps_eq N hN h]; rfl
  · rw [if_neg c6, if_neg c6]
def PageW (b : Bk) (p : Nat) : Prop :=
  (pg b p = 0 ∧ FreeP b p 0) ∨ (1 ≤ pg b p ∧ pg b p ≤ 4 ∧ RoomsP b p (pg b p - 1).toNat) ∨
  (pg b p = 7 ∧ FreeP b p 0 ∧ ∃ q, q < p ∧ 10 ≤ pg b q ∧ (p : Int) < q + (pg b q - 8)) ∨ WideP b p
theorem BookP.pageW {b : Bk} (h : BookP b) {p : Nat} (hp : p < np b) : PageW b p := by
  have hP := h.page hp
  rcases h.cases hp with h0 | h1 | h7 | h8
  · exact .inl ⟨h0, hP.1 h0⟩
  · exact .inr (.inl ⟨h1.1, h1.2, hP.2.1 h1⟩)
  · have hR := hP.2.2.1 h7
    have hbl := back_le b p
    have hb : back b p < np b := by omega
    have hne : back b p ≠ p := by
      intro e
      have h1 := hR.1
      rw [e] at h1
      omega
    refine .inr (.inr (.inl ⟨h7, hR.2.2, back b p, by omega, ?_, ?_⟩))
    · rcases h.cases hb with g | g | g | g
      · have := hR.1; omega
      · have := hR.1; omega
      · have := hR.1; omega
      · exact g.1
    · have := hR.2.1; omega
  · exact .inr (.inr (.inr (h.wide hp h8.1)))
theorem pageP_of {b : Bk} (h : ∀ p, p < np b → PageW b p) {p : Nat} (hp : p < np b) : PageP b p := by
  rcases h p hp with ⟨h0, hf⟩ | ⟨h1, h2, hr⟩ | ⟨h7, hf, q, hq, hq10, hqp⟩ | hw
  · exact ⟨fun _ => hf, fun g => by omega, fun g => by omega, fun g => (g h0).elim⟩
  · exact ⟨fun g => by omega, fun _ => hr, fun g => by omega, fun _ g => (g ⟨h1, h2⟩).elim⟩
  · refine ⟨fun g => by omega, fun g => by omega, fun _ => ?_, fun _ _ g => (g h7).elim⟩
    have hw : WideP b q := by
      rcases h q (by omega) with ⟨g, _⟩ | ⟨_, g, _⟩ | ⟨g, _⟩ | g
      · omega
      · omega
      · omega
      · exact g
    have hb : back b p = q := by
      have := back_run (b := b) (p := q) (by omega) (p - q) (fun j g1 g2 => hw.2.2.2.2.2 j g1 (by omega))
      rwa [show q + (p - q) = p by omega] at this
    unfold RestP
    rw [hb]
    exact ⟨by omega, by omega, hf⟩
  · have := hw.1
    exact ⟨fun g => by omega, fun g => by omega, fun g => by omega, fun _ _ _ => hw⟩
theorem BookP.slot {b : Bk} (h : BookP b) {i : Nat} (hi : i < b.1.toNat) : slotB b i = true := by
  have h1 := h.1
  unfold slotsB at h1
  rw [Bool.and_eq_true, Bool.and_eq_true] at h1
  exact (allB_iff _ _ _).1 h1.2.1 i (by omega) (by omega)
theorem BookP.own {b : Bk} (h : BookP b) {u : Nat} (hu : u < nu b) : ownB b u = true := by
  have h1 := h.1
  unfold slotsB at h1
  rw [Bool.and_eq_true, Bool.and_eq_true] at h1
  exact (allB_iff _ _ _).1 h1.2.2 u (by omega) (by omega)
theorem BookP.list {b : Bk} (h : BookP b) {k : Nat} (hk : k < 4) {x : Int} (hx : x ∈ hd b k) : memB b k x = true := lists_mem h.2.1 hk hx
theorem page_count {b : Bk} (hs : Sizes b) (h3 : ∀ k, k < 4 → ∀ x ∈ hd b k, memB b k x = true) (h4 : ∀ p, p < np b → PageW b p) {k : Nat} (hk : k < 4) {u : Nat} (hu : u < nu b) :
    (hd b k).count ((u : Nat) : Int) ≤ 1 := by
  unfold Sizes at hs
  by_cases c : ((u : Nat) : Int) ∈ hd b k
  · have hm := of_decide_eq_true (h3 k hk _ c)
    have hpg : pg b (u / 8) = (k : Int) + 1 := by
      have := hm.2.2.1
      rwa [show (((u : Nat) : Int) / 8).toNat = u / 8 by omega] at this
    rcases h4 (u / 8) (by omega) with ⟨g, _⟩ | ⟨_, _, hr⟩ | ⟨g, _⟩ | g
    · omega
    · rw [hpg, show ((k : Int) + 1 - 1).toNat = k by omega] at hr
      have := hr.1 (u % 8) (by omega)
      unfold RoomP at this
      rw [show 8 * (u / 8) + u % 8 = u by omega] at this
      by_cases c2 : u % 8 % usz k = 0
      · rcases this.2 c2 with g | g <;> omega
      · have := (this.1 c2).2; omega
    · omega
    · have := g.1; omega
  · rw [List.count_eq_zero.2 c]; omega
theorem BookP.mk' {b : Bk} (hs : Sizes b) (h1 : ∀ i, i < b.1.toNat → slotB b i = true) (h2 : ∀ u, u < nu b → ownB b u = true)
    (h3 : ∀ k, k < 4 → ∀ x ∈ hd b k, memB b k x = true) (h4 : ∀ p, p < np b → PageW b p) : BookP b := by
  refine ⟨?_, ?_, fun p hp => pageP_of h4 hp⟩
  · unfold slotsB
    rw [dt hs, Bool.true_and, Bool.and_eq_true]
    exact ⟨(allB_iff _ _ _).2 fun j _ hj => h1 j (by omega), (allB_iff _ _ _).2 fun j _ hj => h2 j (by omega)⟩
  · unfold listsB
    refine (allB_iff _ _ _).2 fun k _ hk => ?_
    have hk : k < 4 := by omega
    rw [listB, Bool.and_eq_true, List.all_eq_true]
    refine ⟨decide_eq_true ?_, h3 k hk⟩
    have := count_sm (nu b) (hd b k) (fun x hx => by have := of_decide_eq_true (h3 k hk x hx); omega)
    have h5 := sm_le (fun u => ((hd b k).count ((u : Nat) : Int) : Int)) 1 (nu b) (fun u hu => by
      have := page_count hs h3 h4 hk hu
      omega)
    omega
theorem PageW.same {b b' : Bk} {p : Nat} (h : PageW b p) (hn : np b' = np b) (hp : pg b' p = pg b p) (ho : ∀ u, u < 8 → (ow b' (8 * p + u) = 0 ↔ ow b (8 * p + u) = 0) ∧ (0 < ow b' (8 * p + u) ↔ 0 < ow b (8 * p + u)))
    (hc : ∀ k : Nat, k < 4 → pg b p = (k : Int) + 1 → ∀ u, u < 8 → (hd b' k).count ((8 * p + u : Nat) : Int) = (hd b k).count ((8 * p + u : Nat) : Int))
    (h7 : pg b p = 7 → ∀ q, q < p → 10 ≤ pg b q → (p : Int) < q + (pg b q - 8) → pg b' q = pg b q)
    (hw : 10 ≤ pg b p → ∀ i : Nat, 1 ≤ i → (i : Int) < pg b p - 8 → pg b' (p + i) = pg b (p + i)) : PageW b' p := by
  have hf : ∀ f, FreeP b p f → FreeP b' p f := fun f g u h1 h2 => (ho u h2).1.2 (g u h1 h2)
  rcases h with ⟨h0, hfr⟩ | ⟨h1, h2, hr⟩ | ⟨g7, hfr, q, hq, hq10, hqp⟩ | g
  · exact .inl ⟨by rw [hp]; exact h0, hf 0 hfr⟩
  · refine .inr (.inl ?_)
    rw [hp]
    refine ⟨h1, h2, fun u hu => ?_, ?_⟩
    · have := hr.1 u hu
      unfold RoomP at this ⊢
      rw [propext (ho u hu).1, propext (ho u hu).2, hc (pg b p - 1).toNat (by omega) (by omega) u hu]
      exact this
    · obtain ⟨u, hu, g⟩ := hr.2
      exact ⟨u, hu, (ho u hu).2.2 g⟩
  · have := h7 g7 q hq hq10 hqp
    exact .inr (.inr (.inl ⟨by rw [hp]; exact g7, hf 0 hfr, q, hq, by rw [this]; exact hq10, by rw [this]; exact hqp⟩))
  · refine .inr (.inr (.inr ?_))
    obtain ⟨w1, w2, w3, w4, w5, w6⟩ := g
    have h80 := ho 0 (by omega)
    rw [Nat.add_zero] at h80
    unfold WideP
    rw [hp, hn]
    exact ⟨w1, w2, w3, fun e => w4 (h80.1.1 e), hf 1 w5, fun i g1 g2 => by rw [hw w1 i g1 g2]; exact w6 i g1 g2⟩
theorem setRow_getD (x : Int) : ∀ n p (l : List Int) (v : Nat), p + n ≤ l.length → (setRow l x n p).getD v 0 = if p ≤ v ∧ v < p + n then x else l.getD v 0
  | 0, p, l, v, h => by rw [setRow, if_neg (by omega)]
  | n + 1, p, l, v, h => by
    rw [setRow, setRow_getD x n (p + 1) _ v (by rw [List.length_set]; omega), getD_set _ _ _ _ (by omega)]
    by_cases c : p + 1 ≤ v ∧ v < p + 1 + n
    · rw [if_pos c, if_pos (by omega)]
    · rw [if_neg c]
      by_cases c2 : v = p
      · rw [if_pos c2, if_pos (by omega)]
      · rw [if_neg c2, if_neg (by omega)]
theorem ieq {a c : Int} (h : a = c) : (a = 0 ↔ c = 0) ∧ (0 < a ↔ 0 < c) := by rw [h]; exact ⟨Iff.rfl, Iff.rfl⟩
theorem memB_iff {b : Bk} {k : Nat} {x : Int} : memB b k x = true ↔ 0 ≤ x ∧ x < nu b ∧ pg b (x / 8).toNat = k + 1 ∧ x % (usz k : Int) = 0 := by
  unfold memB; exact decide_eq_true_iff
theorem ownB_iff {b : Bk} {u : Nat} : ownB b u = true ↔ 0 ≤ ow b u ∧ ow b u ≤ b.1 ∧ (0 < ow b u → inn b (ow b u - 1).toNat ≠ 0) := by
  unfold ownB; exact decide_eq_true_iff
theorem book_change {b b' : Bk} (hs : Sizes b) (hsl : ∀ i, i < b.1.toNat → slotB b i = true) (hob : ∀ u, u < nu b → ownB b u = true) (h1 : b'.1 = b.1) (hi : b'.2.2.2.2 = b.2.2.2.2) (hp : np b' = np b) (hu : nu b' = nu b)
    (ho : ∀ u, u < nu b → ow b' u = ow b u ∨ ow b' u = 0 ∨ (1 ≤ ow b' u ∧ ow b' u ≤ b.1 ∧ inn b (ow b' u - 1).toNat ≠ 0))
    (hl : ∀ k, k < 4 → ∀ x ∈ hd b' k, memB b' k x = true) (hpg : ∀ p, p < np b → PageW b' p) : BookP b' := by
  have hin : ∀ i, inn b' i = inn b i := fun i => by unfold inn; rw [hi]
  have hep : ∀ i, ep b' i = ep b i := fun i => by unfold ep; rw [hi]
  refine BookP.mk' ?_ (fun i h => ?_) (fun u h => ?_) hl (fun p h => hpg p (by omega))
  · unfold Sizes at hs ⊢
    rw [h1, hi, hp, hu]
    exact hs
  · rw [h1] at h
    have := hsl i h
    unfold slotB at this ⊢
    rw [hin, hep]
    exact this
  · rw [hu] at h
    have := ownB_iff.1 (hob u h)
    refine ownB_iff.2 ?_
    rw [hin, h1]
    rcases ho u h with e | e | e
    · rw [e]; exact this
    · rw [e]; unfold Sizes at hs; exact ⟨by omega, by omega, fun g => by omega⟩
    · exact ⟨by omega, e.2.1, fun _ => e.2.2⟩
theorem pop_ok {c : Bk} (hs : Sizes c) (hsl : ∀ i, i < c.1.toNat → slotB c i = true) (hob : ∀ u, u < nu c → ownB c u = true) (h3 : ∀ k, k < 4 → ∀ x ∈ hd c k, memB c k x = true)
    {k p0 : Nat} (hk : k < 4) (hpg : pg c p0 = (k : Int) + 1) (hr : ∀ u, u < 8 → RoomP c p0 k u) (h4 : ∀ p, p < np c → p ≠ p0 → PageW c p)
    {x : Int} {r : List Int} (hx : hd c k = x :: r) (hxp : (x / 8).toNat = p0) {s : Int} (hs0 : 0 ≤ s) (hs1 : s < c.1) (hin : inn c s.toNat ≠ 0) : BookP (popP c s k).1 := by
  have hm := memB_iff.1 (h3 k hk x (by rw [hx]; exact List.mem_cons_self))
  obtain ⟨u0, rfl⟩ : ∃ u : Nat, x = u := ⟨x.toNat, by omega⟩
  have hb' : (popP c s k).1 = wOw (wHd c k r) u0 (s + 1) := by unfold popP; rw [hx]; rfl
  rw [hb']
  have hu0 : u0 < nu c := by omega
  have hu0' : u0 < c.2.2.2.1.length := hu0
  have ho : ∀ v, ow (wOw (wHd c k r) u0 (s + 1)) v = if v = u0 then s + 1 else ow c v := fun v => getD_set _ _ _ _ hu0'
  have hk1 : hd (wOw (wHd c k r) u0 (s + 1)) k = r := hd_hset _ _ _ _ hk _
  have hk2 : ∀ j, j < 4 → j ≠ k → hd (wOw (wHd c k r) u0 (s + 1)) j = hd c j := fun j hj hne => hd_other _ _ _ _ hk hj hne _
  have hnu : nu (wOw (wHd c k r) u0 (s + 1)) = nu c := by show (c.2.2.2.1.set u0 (s + 1)).length = _; rw [List.length_set]; rfl
  have hcount : ∀ v : Nat, v ≠ u0 → (hd c k).count (v : Int) = r.count (v : Int) := fun v hv => by
    rw [hx, List.count_cons, beq_eq_false_iff_ne.2 (by omega), if_neg (by decide)]; rfl
  refine book_change hs hsl hob rfl rfl rfl hnu (fun v hv => ?_) (fun j hj y hy => ?_) (fun p hp => ?_)
  · rw [ho]
    by_cases e : v = u0
    · rw [if_pos e]
      refine .inr (.inr ⟨by omega, by omega, ?_⟩)
      rw [show s + 1 - 1 = s by omega]; exact hin
    · rw [if_neg e]; exact .inl rfl
  · have hy' : y ∈ hd c j := by
      by_cases e : j = k
      · subst e; rw [hk1] at hy; rw [hx]; exact List.mem_cons_of_mem _ hy
      · rwa [hk2 j hj e] at hy
    have := memB_iff.1 (h3 j hj y hy')
    refine memB_iff.2 ?_
    rw [hnu]
    exact this
  · by_cases e : p = p0
    · subst e
      refine .inr (.inl ⟨?_, ?_, ?_, ?_⟩)
      · show 1 ≤ pg c p; omega
      · show pg c p ≤ 4; omega
      · have e2 : (pg (wOw (wHd c k r) u0 (s + 1)) p - 1).toNat = k := by show (pg c p - 1).toNat = k; omega
        rw [e2]
        intro u hu
        have hru := hr u hu
        unfold RoomP at hru ⊢
        rw [hk1, ho]
        by_cases e3 : 8 * p + u = u0
        · rw [if_pos e3]
          rw [hx, e3, List.count_cons, beq_iff_eq.2 rfl, if_pos rfl] at hru
          have hz : r.count (u0 : Int) = 0 ∧ u % usz k = 0 := by
            by_cases g : u % usz k = 0
            · refine ⟨?_, g⟩
              rcases hru.2 g with g2 | g2 <;> omega
            · have := (hru.1 g).2; omega
          rw [e3, hz.1]
          exact ⟨fun g => (g hz.2).elim, fun _ => .inl ⟨by omega, rfl⟩⟩
        · rw [if_neg e3, ← hcount _ e3]; exact hru
      · refine ⟨u0 % 8, by omega, ?_⟩
        rw [ho, if_pos (by omega)]; omega
    · refine (h4 p hp e).same rfl rfl (fun u hu => ieq ?_) (fun j hj _ u hu => ?_) (fun _ _ _ _ _ => rfl) (fun _ _ _ _ => rfl)
      · rw [ho, if_neg (by omega)]
      · by_cases e2 : j = k
        · subst e2; rw [hk1, hcount _ (by omega)]
        · rw [hk2 j hj e2]
theorem roomsOf_mem {k : Nat} (hk : k < 4) : ∀ n u, ∀ x ∈ roomsOf k n u, ∃ v : Nat, x = v ∧ u ≤ v ∧ v < u + n * usz k ∧ (v - u) % usz k = 0
  | 0, u, x, h => by cases h
  | n + 1, u, x, h => by
    have hz := usz_vals hk
    rw [roomsOf] at h
    rcases List.mem_cons.1 h with e | h
    · refine ⟨u, e, Nat.le_refl _, ?_, by rw [Nat.sub_self, Nat.zero_mod]⟩
      rw [Nat.add_mul]; omega
    · obtain ⟨v, e, h1, h2, h3⟩ := roomsOf_mem hk n _ x h
      refine ⟨v, e, by omega, by rw [Nat.add_mul]; omega, ?_⟩
      rcases hz with ⟨hz, _⟩ | ⟨hz, _⟩ | ⟨hz, _⟩ | ⟨hz, _⟩ <;> rw [hz] at h3 h1 ⊢ <;> omega
theorem roomsOf_count {k : Nat} (hk : k < 4) : ∀ n u (v : Nat), (roomsOf k n u).count (v : Int) = if u ≤ v ∧ v < u + n * usz k ∧ (v - u) % usz k = 0 then 1 else 0
  | 0, u, v => by rw [roomsOf, List.count_nil, if_neg (by omega)]
  | n + 1, u, v => by
    have hz := usz_vals hk
    rw [roomsOf, List.count_cons, roomsOf_count hk n _ v]
    by_cases e : v = u
    · subst e
      rw [beq_iff_eq.2 rfl, if_pos rfl, if_neg (by omega), if_pos]
      refine ⟨Nat.le_refl _, ?_, by rw [Nat.sub_self, Nat.zero_mod]⟩
      rw [Nat.add_mul]; omega
    · rw [beq_eq_false_iff_ne.2 (by omega), if_neg (c := false = true) (by decide), Nat.add_zero, Nat.add_mul]
      by_cases c : u + usz k ≤ v ∧ v < u + usz k + n * usz k ∧ (v - (u + usz k)) % usz k = 0
      · rw [if_pos c, if_pos]
        obtain ⟨c1, c2, c3⟩ := c
        refine ⟨by omega, by omega, ?_⟩
        rcases hz with ⟨hz, _⟩ | ⟨hz, _⟩ | ⟨hz, _⟩ | ⟨hz, _⟩ <;> rw [hz] at c1 c3 ⊢ <;> omega
      · rw [if_neg c, if_neg]
        intro ⟨c1, c2, c3⟩
        refine c ?_
        rcases hz with ⟨hz, _⟩ | ⟨hz, _⟩ | ⟨hz, _⟩ | ⟨hz, _⟩ <;> rw [hz] at c2 c3 ⊢ <;> exact ⟨by omega, by omega, by omega⟩
theorem usz_div {k : Nat} (hk : k < 4) : 8 / usz k * usz k = 8 := by
  rcases usz_vals hk with ⟨hz, _⟩ | ⟨hz, _⟩ | ⟨hz, _⟩ | ⟨hz, _⟩ <;> rw [hz]
theorem carve_ok {b : Bk} (h : BookP b) {k p : Nat} (hk : k < 4) (hp : p < np b) (h0 : pg b p = 0) (hnil : hd b k = []) {s : Int} (hs0 : 0 ≤ s) (hs1 : s < b.1) (hin : inn b s.toNat ≠ 0) : BookP (popP (carveP b p k) s k).1 := by
  have hp' : p < b.2.1.length := hp
  have hdim := h.dims
  have hpgc : ∀ q, pg (carveP b p k) q = if q = p then (k : Int) + 1 else pg b q := fun q => getD_set _ _ _ _ hp'
  have hk1 : hd (carveP b p k) k = roomsOf k (8 / usz k) (8 * p) := by
    have : hd (carveP b p k) k = hd b k ++ roomsOf k (8 / usz k) (8 * p) := hd_hset _ _ _ _ hk _
    rw [this, hnil]; rfl
  have hk2 : ∀ j, j < 4 → j ≠ k → hd (carveP b p k) j = hd b j := fun j hj hne => hd_other _ _ _ _ hk hj hne _
  have hnp : np (carveP b p k) = np b := by show (b.2.1.set p ((k : Int) + 1)).length = _; rw [List.length_set]; rfl
  have hd8 := usz_div hk
  obtain ⟨r, hr⟩ := runOf_rooms hk p
  have hfree : FreeP b p 0 := (h.page hp).1 h0
  refine pop_ok (c := carveP b p k) (p0 := p) (x := ((8 * p : Nat) : Int)) (r := r) ?_ (fun i hi => h.slot hi) (fun u hu => h.own hu) (fun j hj x hx => ?_) hk (by rw [hpgc, if_pos rfl]) (fun u hu => ?_) (fun q hq hne => ?_) (by rw [hk1, hr]) (by omega) hs0 hs1 hin
  · have := h.sizes
    unfold Sizes at this ⊢
    rw [hnp]
    exact this
  · refine memB_iff.2 ?_
    have e : nu (carveP b p k) = nu b := rfl
    rw [e]
    by_cases c : j = k
    · subst c
      rw [hk1] at hx
      obtain ⟨v, e, h1, h2, h3⟩ := roomsOf_mem hk _ _ x hx
      rw [hd8] at h2
      refine ⟨by omega, by omega, ?_, ?_⟩
      · rw [hpgc, if_pos (by omega)]
      · rw [e]
        have := usz_dvd hk p (v - 8 * p)
        rw [show 8 * p + (v - 8 * p) = v by omega] at this
        omega
    · rw [hk2 j hj c] at hx
      have := memB_iff.1 (h.list hj hx)
      refine ⟨this.1, this.2.1, ?_, this.2.2.2⟩
      rw [hpgc, if_neg, this.2.2.1]
      intro e
      have := this.2.2.1
      rw [e] at this
      omega
  · unfold RoomP
    have ho : ow (carveP b p k) (8 * p + u) = 0 := hfree u (by omega) hu
    rw [hk1, roomsOf_count hk, hd8, ho, show 8 * p + u - 8 * p = u by omega]
    by_cases c : u % usz k = 0
    · rw [if_pos ⟨by omega, by omega, c⟩]; exact ⟨fun g => (g c).elim, fun _ => .inr ⟨rfl, rfl⟩⟩
    · rw [if_neg (fun g => c g.2.2)]; exact ⟨fun _ => ⟨rfl, rfl⟩, fun g => (c g).elim⟩
  · rw [hnp] at hq
    refine (h.pageW hq).same hnp (by rw [hpgc, if_neg hne]) (fun u hu => ieq rfl) (fun j hj hj2 u hu => ?_) (fun _ q' _ h10 _ => ?_) (fun h10 i h1 h2 => ?_)
    · by_cases c : j = k
      · subst c; rw [hk1, hnil, roomsOf_count hk, hd8, if_neg (by omega), List.count_nil]
      · rw [hk2 j hj c]
    · rw [hpgc, if_neg]; intro e; rw [e] at h10; omega
    · have := (h.wide hq h10).2.2.2.2.2 i h1 h2
      rw [hpgc, if_neg]; intro e; rw [e] at this; omega
theorem runOf_in {b : Bk} {n : Nat} (hn : 1 ≤ n) (h : ¬ runOf b.2.1 n < 0) : ∃ p : Nat, runOf b.2.1 n = p ∧ p + n ≤ np b ∧ ∀ i, i < n → pg b (p + i) = 0 := by
  unfold runOf at h ⊢
  rcases runFrom_spec b.2.1 n (b.2.1.length + 1 - n) 0 with e | ⟨q, e, h1, h2, h3⟩
  · rw [e] at h; omega
  · refine ⟨q, e, by unfold np; omega, fun i hi => ?_⟩
    have := (allB_iff _ _ _).1 h3 i (by omega) (by omega)
    exact of_decide_eq_true this
theorem pages_ok {b : Bk} (h : BookP b) {n : Nat} (hn : 2 ≤ n) (hn4 : n ≤ 4) {s : Int} (hs0 : 0 ≤ s) (hs1 : s < b.1) (hin : inn b s.toNat ≠ 0) : BookP (pagesP b s n).1 := by
  unfold pagesP
  by_cases c : runOf b.2.1 n < 0
  · rw [if_pos c]; exact h
  rw [if_neg c]
  obtain ⟨p, e, hp, hz⟩ := runOf_in (by omega) c
  rw [e]
  dsimp only
  rw [Int.toNat_natCast]
  have hdim := h.dims
  have hl : b.2.1.length = np b := rfl
  have hlu : b.2.2.2.1.length = nu b := rfl
  generalize hb' : wOw (wPg b (setRow (b.2.1.set p (8 + (n : Int))) 7 (n - 1) (p + 1))) (8 * p) (s + 1) = b'
  have hpg : ∀ q, pg b' q = if q = p then 8 + (n : Int) else if p < q ∧ q < p + n then 7 else pg b q := fun q => by
    rw [← hb']
    show (setRow (b.2.1.set p (8 + (n : Int))) 7 (n - 1) (p + 1)).getD q 0 = _
    rw [setRow_getD _ _ _ _ _ (by rw [List.length_set]; omega), getD_set _ _ _ _ (by omega)]
    by_cases c1 : q = p
    · rw [if_pos c1, if_pos c1, if_neg (by omega)]
    · rw [if_neg c1, if_neg c1]
      by_cases c2 : p < q ∧ q < p + n
      · rw [if_pos c2, if_pos (by omega)]
      · rw [if_neg c2, if_neg (by omega)]; rfl
  have ho : ∀ v, ow b' v = if v = 8 * p then s + 1 else ow b v := fun v => by
    rw [← hb']; exact getD_set b.2.2.2.1 _ _ _ (by omega)
  have hnp : np b' = np b := by
    rw [← hb']
    show (setRow (b.2.1.set p (8 + (n : Int))) 7 (n - 1) (p + 1)).length = _
    rw [setRow_len, List.length_set]; rfl
  have hnu : nu b' = nu b := by rw [← hb']; show (b.2.2.2.1.set (8 * p) (s + 1)).length = _; rw [List.length_set]; rfl
  have hhd : ∀ k, hd b' k = hd b k := fun k => by rw [← hb']; exact hd_heads _ _ rfl k
  have hzero : ∀ q, p ≤ q → q < p + n → pg b q = 0 := fun q h1 h2 => by have := hz (q - p) (by omega); rwa [show p + (q - p) = q by omega] at this
  have hout : ∀ q, pg b q ≠ 0 → pg b' q = pg b q := fun q hq => by
    rw [hpg]
    by_cases c1 : p ≤ q ∧ q < p + n
    · exact (hq (hzero q c1.1 c1.2)).elim
    · rw [if_neg (by omega), if_neg (by omega)]
  refine book_change h.sizes (fun i hi => h.slot hi) (fun u hu => h.own hu) (by rw [← hb']; rfl) (by rw [← hb']; rfl) hnp hnu (fun v hv => ?_) (fun j hj x hx => ?_) (fun q hq => ?_)
  · rw [ho]
    by_cases e : v = 8 * p
    · rw [if_pos e]
      refine .inr (.inr ⟨by omega, by omega, ?_⟩)
      rw [show s + 1 - 1 = s by omega]; exact hin
    · rw [if_neg e]; exact .inl rfl
  · rw [hhd] at hx
    have := memB_iff.1 (h.list hj hx)
    refine memB_iff.2 ?_
    rw [hnu]
    refine ⟨this.1, this.2.1, ?_, this.2.2.2⟩
    rw [hout _ (by omega)]; exact this.2.2.1
  · by_cases c1 : q = p
    · subst c1
      have hf : FreeP b q 0 := (h.page (p := q) (by omega)).1 (hzero q (by omega) (by omega))
      refine .inr (.inr (.inr ?_))
      have e1 : pg b' q = 8 + (n : Int) := by rw [hpg, if_pos rfl]
      unfold WideP
      rw [e1, hnp]
      refine ⟨by omega, by omega, by omega, by rw [ho, if_pos rfl]; omega, fun u h1 h2 => ?_, fun i h1 h2 => ?_⟩
      · rw [ho, if_neg (by omega)]; exact hf u (by omega) h2
      · rw [hpg, if_neg (by omega), if_pos (by omega)]
    · by_cases c2 : p < q ∧ q < p + n
      · have hf : FreeP b q 0 := (h.page (p := q) (by omega)).1 (hzero q (by omega) (by omega))
        refine .inr (.inr (.inl ⟨by rw [hpg, if_neg c1, if_pos c2], fun u h1 h2 => ?_, p, by omega, by rw [hpg, if_pos rfl]; omega, by rw [hpg, if_pos rfl]; omega⟩))
        rw [ho, if_neg (by omega)]; exact hf u h1 h2
      · refine (h.pageW hq).same hnp (by rw [hpg, if_neg c1, if_neg c2]) (fun u hu => ieq ?_) (fun j hj hj2 u hu => by rw [hhd]) (fun _ q' _ h10 _ => hout _ (by omega)) (fun h10 i h1 h2 => hout _ ?_)
        · rw [ho, if_neg (by omega)]
        · have := (h.wide hq h10).2.2.2.2.2 i h1 h2; omega
theorem take_ok {b : Bk} (h : BookP b) {s : Int} (hs0 : 0 ≤ s) (hs1 : s < b.1) (hin : inn b s.toNat ≠ 0) (u : Int) : BookP (takeP b s u).1 := by
  unfold takeP
  rcases kindOf_cases u with hk | ⟨hk, hu1, hu2⟩ | ⟨k, hk4, hk⟩
  · rw [hk, if_pos (by omega)]; exact h
  · rw [hk, if_neg (by omega), if_pos rfl]; exact pages_ok h (by omega) (by omega) hs0 hs1 hin
  · rw [hk, if_neg (by omega), if_neg (by omega)]
    dsimp only
    rw [Int.toNat_natCast]
    by_cases c : (hd b k).length = 0
    · rw [if_pos c]
      by_cases c2 : runOf b.2.1 1 < 0
      · rw [if_pos c2]; exact h
      · rw [if_neg c2]
        obtain ⟨p, e, hp, hz⟩ := runOf_in (by omega) c2
        rw [e, Int.toNat_natCast]
        exact carve_ok h hk4 (by omega) (by have := hz 0 (by omega); rwa [Nat.add_zero] at this) (List.eq_nil_of_length_eq_zero c) hs0 hs1 hin
    · rw [if_neg c]
      cases hl : hd b k with
      | nil => rw [hl] at c; exact (c rfl).elim
      | cons x r =>
        have hm := memB_iff.1 (h.list hk4 (x := x) (by rw [hl]; exact List.mem_cons_self))
        have hdim := h.dims
        refine pop_ok h.sizes (fun i hi => h.slot hi) (fun u hu => h.own hu) (fun j hj y hy => h.list hj hy) hk4 (p0 := (x / 8).toNat) hm.2.2.1 ?_ (fun p hp _ => h.pageW hp) hl rfl hs0 hs1 hin
        have := ((h.page (p := (x / 8).toNat) (by omega)).2.1 (by omega)).1
        rwa [hm.2.2.1, show ((k : Int) + 1 - 1).toNat = k by omega] at this
theorem free_ok {b : Bk} (h : BookP b) {u : Nat} (hu : u < nu b) (hou : ow b u ≠ 0) : BookP (freeP b u) := by
  have hdim := h.dims
  have hl : b.2.1.length = np b := rfl
  have hlu : b.2.2.2.1.length = nu b := rfl
  obtain ⟨p, e8, hp, hc⟩ := h.owned hu hou
  unfold freeP
  rw [e8]
  dsimp only
  rcases hc with ⟨c1, c2, c3⟩ | ⟨c1, c2, c3⟩
  · rw [if_pos ⟨c1, c2⟩]
    obtain ⟨k, hkk⟩ : ∃ k : Nat, pg b p = (k : Int) + 1 := ⟨(pg b p - 1).toNat, by omega⟩
    have hk : k < 4 := by omega
    rw [show (pg b p - 1).toNat = k by omega] at c3 ⊢
    have hrooms := (h.page hp).2.1 ⟨c1, c2⟩
    rw [show (pg b p - 1).toNat = k by omega] at hrooms
    have hru := hrooms.1 (u % 8) (by omega)
    unfold RoomP at hru
    rw [show 8 * p + u % 8 = u by omega] at hru
    have hmod : u % 8 % usz k = 0 := by
      have := usz_dvd hk p (u % 8)
      rw [show 8 * p + u % 8 = u by omega] at this
      omega
    have hcu : (hd b k).count ((u : Nat) : Int) = 0 := by
      rcases hru.2 hmod with g | g
      · exact g.2
      · exact (hou g.1).elim
    by_cases cf : FreeP (wHd (wOw b u 0) k ((u : Int) :: hd b k)) p 0
    · -- the page becomes empty
      rw [tf_t cf, cond_true]
      generalize hb' : wHd (wPg (wHd (wOw b u 0) k ((u : Int) :: hd b k)) (b.2.1.set p 0)) k (((u : Int) :: hd b k).filter fun x => x / 8 != (p : Int)) = b'
      have hpg : ∀ q, pg b' q = if q = p then 0 else pg b q := fun q => by rw [← hb']; exact getD_set b.2.1 _ _ _ (by omega)
      have ho : ∀ v, ow b' v = if v = u then 0 else ow b v := fun v => by rw [← hb']; exact getD_set b.2.2.2.1 _ _ _ (by omega)
      have hnp : np b' = np b := by rw [← hb']; show (b.2.1.set p 0).length = _; rw [List.length_set]; rfl
      have hnu : nu b' = nu b := by rw [← hb']; show (b.2.2.2.1.set u 0).length = _; rw [List.length_set]; rfl
      have hk1 : hd b' k = ((u : Int) :: hd b k).filter fun x => x / 8 != (p : Int) := by rw [← hb']; exact hd_hset _ _ _ _ hk _
      have hk2 : ∀ j, j < 4 → j ≠ k → hd b' j = hd b j := fun j hj hne => by
        rw [← hb']
        have e1 := hd_other b.1 (b.2.1.set p 0) (hset b.2.2.1 k ((u : Int) :: hd b k)) (b.2.2.2.1.set u 0, b.2.2.2.2) hk hj hne (((u : Int) :: hd b k).filter fun x => x / 8 != (p : Int))
        have e2 := hd_other b.1 (b.2.1.set p 0) b.2.2.1 (b.2.2.2.1.set u 0, b.2.2.2.2) hk hj hne ((u : Int) :: hd b k)
        exact e1.trans (e2.trans (hd_heads _ _ rfl j))
      refine book_change h.sizes (fun i hi => h.slot hi) (fun u hu => h.own hu) (by rw [← hb']; rfl) (by rw [← hb']; rfl) hnp hnu (fun v hv => ?_) (fun j hj x hx => ?_) (fun q hq => ?_)
      · rw [ho]
        by_cases e : v = u
        · rw [if_pos e]; exact .inr (.inl rfl)
        · rw [if_neg e]; exact .inl rfl
      · refine memB_iff.2 ?_
        rw [hnu, hpg]
        by_cases c : j = k
        · subst c
          rw [hk1, List.mem_filter] at hx
          have hne : x / 8 ≠ (p : Int) := by have := hx.2; rwa [bne_iff_ne] at this
          have hx1 : x ∈ hd b j := by
            rcases List.mem_cons.1 hx.1 with g | g
            · rw [g] at hne; exact (hne (by omega)).elim
            · exact g
          have := memB_iff.1 (h.list hj hx1)
          rw [if_neg (by omega)]
          exact this
        · rw [hk2 j hj c] at hx
          have := memB_iff.1 (h.list hj hx)
          rw [if_neg]
          · exact this
          · intro e
            have g := this.2.2.1
            rw [e, hkk] at g
            omega
      · by_cases c : q = p
        · subst c
          refine .inl ⟨by rw [hpg, if_pos rfl], fun v h1 h2 => ?_⟩
          have := cf v h1 h2
          rw [← hb']
          exact this
        · refine (h.pageW hq).same hnp (by rw [hpg, if_neg c]) (fun v hv => ieq ?_) (fun j hj hj2 v hv => ?_) (fun _ q' _ h10 _ => ?_) (fun h10 i h1 h2 => ?_)
          · rw [ho, if_neg (by omega)]
          · by_cases e : j = k
            · subst e
              rw [hk1, List.count_filter (by rw [bne_iff_ne]; omega), List.count_cons, beq_eq_false_iff_ne.2 (by omega), if_neg (by decide)]; rfl
            · rw [hk2 j hj e]
          · rw [hpg, if_neg]; intro e; rw [e] at h10; omega
          · have := (h.wide hq h10).2.2.2.2.2 i h1 h2
            rw [hpg, if_neg]; intro e; rw [e] at this; omega
    · rw [tf_f cf, cond_false]
      generalize hb' : wHd (wOw b u 0) k ((u : Int) :: hd b k) = b' at cf ⊢
      have hpg : ∀ q, pg b' q = pg b q := fun q => by rw [← hb']; rfl
      have ho : ∀ v, ow b' v = if v = u then 0 else ow b v := fun v => by rw [← hb']; exact getD_set b.2.2.2.1 _ _ _ (by omega)
      have hnp : np b' = np b := by rw [← hb']; rfl
      have hnu : nu b' = nu b := by rw [← hb']; show (b.2.2.2.1.set u 0).length = _; rw [List.length_set]; rfl
      have hk1 : hd b' k = (u : Int) :: hd b k := by rw [← hb']; exact hd_hset _ _ _ _ hk _
      have hk2 : ∀ j, j < 4 → j ≠ k → hd b' j = hd b j := fun j hj hne => by rw [← hb']; exact hd_other _ _ _ _ hk hj hne _
      refine book_change h.sizes (fun i hi => h.slot hi) (fun u hu => h.own hu) (by rw [← hb']; rfl) (by rw [← hb']; rfl) hnp hnu (fun v hv => ?_) (fun j hj x hx => ?_) (fun q hq => ?_)
      · rw [ho]
        by_cases e : v = u
        · rw [if_pos e]; exact .inr (.inl rfl)
        · rw [if_neg e]; exact .inl rfl
      · refine memB_iff.2 ?_
        rw [hnu, hpg]
        by_cases c : j = k
        · subst c
          rw [hk1] at hx
          rcases List.mem_cons.1 hx with g | g
          · rw [g, show ((u : Int) / 8).toNat = p by omega]
            exact ⟨by omega, by omega, hkk, by omega⟩
          · exact memB_iff.1 (h.list hj g)
        · rw [hk2 j hj c] at hx
          exact memB_iff.1 (h.list hj hx)
      · by_cases c : q = p
        · subst c
          refine .inr (.inl ⟨by rw [hpg]; exact c1, by rw [hpg]; exact c2, ?_⟩)
          rw [hpg, show (pg b q - 1).toNat = k by omega]
          refine ⟨fun v hv => ?_, ?_⟩
          · have hrv := hrooms.1 v hv
            unfold RoomP at hrv ⊢
            rw [hk1, ho, List.count_cons]
            by_cases e : 8 * q + v = u
            · rw [if_pos e, e, hcu, beq_iff_eq.2 rfl, if_pos rfl]
              have e2 : v = u % 8 := by omega
              rw [e2]
              exact ⟨fun g => (g hmod).elim, fun _ => .inr ⟨rfl, rfl⟩⟩
            · rw [if_neg e, beq_eq_false_iff_ne.2 (by omega), if_neg (c := false = true) (by decide)]
              exact hrv
          · apply Classical.byContradiction
            intro g
            apply cf
            intro v h1 h2
            apply Classical.byContradiction
            intro g2
            refine g ⟨v, h2, ?_⟩
            have h3 := h.ow_nn (u := 8 * q + v) (by omega)
            rw [ho] at g2 ⊢
            by_cases e : 8 * q + v = u
            · rw [if_pos e] at g2; exact (g2 rfl).elim
            · rw [if_neg e] at g2 ⊢; omega
        · refine (h.pageW hq).same hnp (by rw [hpg]) (fun v hv => ieq ?_) (fun j hj hj2 v hv => ?_) (fun _ q' _ h10 _ => hpg _) (fun h10 i h1 h2 => hpg _)
          · rw [ho, if_neg (by omega)]
          · by_cases e : j = k
            · subst e
              rw [hk1, List.count_cons, beq_eq_false_iff_ne.2 (by omega), if_neg (by decide)]; rfl
            · rw [hk2 j hj e]
  · rw [if_neg (by omega)]
    obtain ⟨n, hn⟩ : ∃ n : Nat, pg b p = 8 + (n : Int) := ⟨(pg b p - 8).toNat, by omega⟩
    rw [show (pg b p - 8).toNat = n by omega]
    have hw := h.wide hp c1
    have hw3 := hw.2.2.1
    have hrest : ∀ q, p < q → q < p + n → pg b q = 7 := fun q h1 h2 => by
      have := hw.2.2.2.2.2 (q - p) (by omega) (by omega)
      rwa [show p + (q - p) = q by omega] at this
    generalize hb' : wPg (wOw b u 0) (setRow b.2.1 0 n p) = b'
    have hpg : ∀ q, pg b' q = if p ≤ q ∧ q < p + n then 0 else pg b q := fun q => by rw [← hb']; exact setRow_getD _ _ _ b.2.1 _ (by omega)
    have ho : ∀ v, ow b' v = if v = u then 0 else ow b v := fun v => by rw [← hb']; exact getD_set b.2.2.2.1 _ _ _ (by omega)
    have hnp : np b' = np b := by rw [← hb']; show (setRow b.2.1 0 n p).length = _; rw [setRow_len]; rfl
    have hnu : nu b' = nu b := by rw [← hb']; show (b.2.2.2.1.set u 0).length = _; rw [List.length_set]; rfl
    have hhd : ∀ k, hd b' k = hd b k := fun k => by rw [← hb']; exact hd_heads _ _ rfl k
    refine book_change h.sizes (fun i hi => h.slot hi) (fun u hu => h.own hu) (by rw [← hb']; rfl) (by rw [← hb']; rfl) hnp hnu (fun v hv => ?_) (fun j hj x hx => ?_) (fun q hq => ?_)
    · rw [ho]
      by_cases e : v = u
      · rw [if_pos e]; exact .inr (.inl rfl)
      · rw [if_neg e]; exact .inl rfl
    · rw [hhd] at hx
      have := memB_iff.1 (h.list hj hx)
      refine memB_iff.2 ?_
      rw [hnu, hpg, if_neg]
      · exact this
      · intro ⟨g1, g2⟩
        have g := this.2.2.1
        by_cases e : (x / 8).toNat = p
        · rw [e] at g; omega
        · rw [hrest _ (by omega) g2] at g; omega
    · by_cases c : p ≤ q ∧ q < p + n
      · refine .inl ⟨by rw [hpg, if_pos c], fun v h1 h2 => ?_⟩
        rw [ho]
        by_cases e : 8 * q + v = u
        · rw [if_pos e]
        · rw [if_neg e]
          by_cases e2 : q = p
          · rw [e2]; exact hw.2.2.2.2.1 v (by omega) h2
          · exact ((h.page hq).2.2.1 (hrest q (by omega) c.2)).2.2 v h1 h2
      · refine (h.pageW hq).same hnp (by rw [hpg, if_neg c]) (fun v hv => ieq ?_) (fun j hj hj2 v hv => by rw [hhd]) (fun g7 q' h1 h10 h2 => ?_) (fun h10 i h1 h2 => ?_)
        · rw [ho, if_neg (by omega)]
        · rw [hpg, if_neg]
          intro ⟨g1, g2⟩
          by_cases e : q' = p
          · subst e; omega
          · have := hrest q' (by omega) g2; omega
        · have := (h.wide hq h10).2.2.2.2.2 i h1 h2
          rw [hpg, if_neg]
          intro ⟨g1, g2⟩
          by_cases e : q + i = p
          · rw [e] at this; omega
          · by_cases e2 : q < p
            · have := (h.wide hq h10).2.2.2.2.2 (p - q) (by omega) (by omega)
              rw [show q + (p - q) = p by omega] at this
              omega
            · have := hrest q (by omega) (by omega); omega
theorem hand_ok {b : Bk} (h : BookP b) {u : Nat} (hu : u < nu b) (hou : ow b u ≠ 0) {s : Int} (hs0 : 0 ≤ s) (hs1 : s < b.1) (hin : inn b s.toNat ≠ 0) : BookP (wOw b u (s + 1)) := by
  have hlu : b.2.2.2.1.length = nu b := rfl
  have ho : ∀ v, ow (wOw b u (s + 1)) v = if v = u then s + 1 else ow b v := fun v => getD_set _ _ _ _ (by omega)
  have hnu : nu (wOw b u (s + 1)) = nu b := by show (b.2.2.2.1.set u (s + 1)).length = _; rw [List.length_set]; rfl
  have hpos := h.ow_nn hu
  refine book_change h.sizes (fun i hi => h.slot hi) (fun u hu => h.own hu) rfl rfl rfl hnu (fun v hv => ?_) (fun j hj x hx => ?_) (fun q hq => ?_)
  · rw [ho]
    by_cases e : v = u
    · rw [if_pos e]
      refine .inr (.inr ⟨by omega, by omega, ?_⟩)
      rw [show s + 1 - 1 = s by omega]; exact hin
    · rw [if_neg e]; exact .inl rfl
  · have := memB_iff.1 (h.list hj hx)
    refine memB_iff.2 ?_
    rw [hnu]
    exact this
  · refine (h.pageW hq).same rfl rfl (fun v hv => ?_) (fun j hj hj2 v hv => rfl) (fun _ _ _ _ _ => rfl) (fun _ _ _ _ => rfl)
    rw [ho]
    by_cases e : 8 * q + v = u
    · rw [if_pos e, e]; omega
    · rw [if_neg e]; exact ⟨Iff.rfl, Iff.rfl⟩
theorem slots_ok {b b' : Bk} (h : BookP b) (h1 : b'.1 = b.1) (h2 : b'.2.1 = b.2.1) (h3 : b'.2.2.1 = b.2.2.1) (h4 : b'.2.2.2.1 = b.2.2.2.1) (h5 : b'.2.2.2.2.1.length = b.2.2.2.2.1.length) (h6 : b'.2.2.2.2.2.length = b.2.2.2.2.2.length)
    (hsl : ∀ i, i < b.1.toNat → slotB b' i = true) (hob : ∀ u, u < nu b → ow b u ≠ 0 → inn b' (ow b u - 1).toNat ≠ 0) : BookP b' := by
  have hpg : ∀ q, pg b' q = pg b q := fun q => by unfold pg; rw [h2]
  have ho : ∀ v, ow b' v = ow b v := fun v => by unfold ow; rw [h4]
  have hnp : np b' = np b := by unfold np; rw [h2]
  have hnu : nu b' = nu b := by unfold nu; rw [h4]
  have hhd : ∀ k, hd b' k = hd b k := fun k => hd_heads _ _ h3 k
  refine BookP.mk' ?_ (fun i hi => hsl i (by omega)) (fun u hu => ?_) (fun j hj x hx => ?_) (fun q hq => ?_)
  · have := h.sizes
    unfold Sizes at this ⊢
    rw [h1, h5, h6, hnp, hnu]
    exact this
  · rw [hnu] at hu
    have := ownB_iff.1 (h.own hu)
    refine ownB_iff.2 ?_
    rw [ho, h1]
    exact ⟨this.1, this.2.1, fun g => hob u hu (by omega)⟩
  · rw [hhd] at hx
    have := memB_iff.1 (h.list hj hx)
    refine memB_iff.2 ?_
    rw [hnu, hpg]
    exact this
  · exact (h.pageW (by omega)).same hnp (hpg q) (fun v hv => ieq (ho _)) (fun j hj hj2 v hv => by rw [hhd]) (fun _ _ _ _ _ => hpg _) (fun _ _ _ _ => hpg _)
theorem slotB_iff {b : Bk} {i : Nat} : slotB b i = true ↔ 0 ≤ inn b i ∧ inn b i ≤ 2 ∧ 0 ≤ ep b i ∧ ep b i ≤ 4095 ∧ (ep b i = 0 → inn b i = 0) := by
  unfold slotB; exact decide_eq_true_iff
theorem out_ok {b : Bk} (h : BookP b) {s : Nat} (hs : (s : Int) < b.1) (hno : firstOf b s < 0) : BookP (wIn b s 0) := by
  have hdim := h.dims
  have hsl := h.slots
  have hi : ∀ i, inn (wIn b s 0) i = if i = s then 0 else inn b i := fun i => getD_set _ _ _ _ (by omega)
  refine slots_ok h rfl rfl rfl rfl (List.length_set ..) rfl (fun i hi2 => ?_) (fun u hu hne => ?_)
  · have := slotB_iff.1 (h.slot hi2)
    refine slotB_iff.2 ?_
    have e : ep (wIn b s 0) i = ep b i := rfl
    rw [hi, e]
    split
    · exact ⟨by omega, by omega, this.2.2.1, this.2.2.2.1, fun _ => rfl⟩
    · exact this
  · have hob := ownB_iff.1 (h.own hu)
    rw [hi, if_neg]
    · exact hob.2.2 (by omega)
    · intro e
      have e2 : ow b u = (s : Int) + 1 := by omega
      unfold firstOf at hno
      have hmem : ∀ d i, i ≤ u → u < i + d → ∃ x r, blksOf b s d i = x :: r := by
        intro d
        induction d with
        | zero => intro i g1 g2; omega
        | succ d ih =>
          intro i g1 g2
          rw [blksOf]
          by_cases c : ow b i = (s : Int) + 1
          · rw [if_pos c]; exact ⟨_, _, rfl⟩
          · rw [if_neg c]
            refine ih (i + 1) ?_ (by omega)
            by_cases e3 : i = u
            · rw [e3] at c; exact (c e2).elim
            · omega
      obtain ⟨x, r, hl⟩ := hmem (nu b) 0 (by omega) (by omega)
      obtain ⟨v, e3, _⟩ := blks_mem b s (nu b) 0 x (by rw [hl]; exact List.mem_cons_self)
      rw [hl] at hno
      have : x < 0 := hno
      omega
theorem enter_ok {b : Bk} (h : BookP b) {s : Nat} (hs : (s : Int) < b.1) : BookP (enterP b s).1 := by
  have hdim := h.dims
  have hsl := h.slots
  unfold enterP
  by_cases c : inn b s ≠ 0
  · rw [if_pos c]; exact h
  rw [if_neg c]
  by_cases c2 : ep b s = 4095
  · rw [if_pos c2]; exact h
  rw [if_neg c2]
  have hi : ∀ i, inn (wEp (wIn b s 1) s (ep b s + 1)) i = if i = s then 1 else inn b i := fun i => getD_set b.2.2.2.2.1 _ _ _ (by omega)
  have he : ∀ i, ep (wEp (wIn b s 1) s (ep b s + 1)) i = if i = s then ep b s + 1 else ep b i := fun i => getD_set b.2.2.2.2.2 _ _ _ (by omega)
  refine slots_ok h rfl rfl rfl rfl (List.length_set ..) (List.length_set ..) (fun i hi2 => ?_) (fun u hu hne => ?_)
  · have := slotB_iff.1 (h.slot hi2)
    refine slotB_iff.2 ?_
    rw [hi, he]
    by_cases e : i = s
    · rw [if_pos e, if_pos e]
      rw [e] at this
      omega
    · rw [if_neg e, if_neg e]
      exact this
  · have hob := ownB_iff.1 (h.own hu)
    have := h.ow_nn hu
    rw [hi]
    split
    · omega
    · exact hob.2.2 (by omega)
theorem reap_ok {b : Bk} (h : BookP b) (s : Int) : BookP (reapP b s).1 := by
  unfold reapP
  by_cases c : s < 0 ∨ s ≥ b.1 ∨ inn b s.toNat = 0
  · rw [if_pos c]; exact h
  rw [if_neg c]
  by_cases c2 : inn b s.toNat = 1
  · rw [if_pos c2]; exact h
  rw [if_neg c2]
  by_cases c3 : firstOf b s < 0
  · rw [if_pos c3]
    refine out_ok h (by omega) ?_
    rw [Int.toNat_of_nonneg (by omega)]; exact c3
  · rw [if_neg c3]
    rcases firstOf_cases (b := b) s with e | ⟨u, e, h1, h2⟩
    · omega
    · rw [e, Int.toNat_natCast]; exact free_ok h h1 (by omega)
theorem do_ok {b : Bk} (h : BookP b) (op : Op) : BookP (doP b op).1 := by
  unfold doP
  by_cases c : op.2.1 < 0 ∨ op.2.1 ≥ b.1
  · rw [if_pos c]; exact h
  rw [if_neg c]
  by_cases c1 : op.1 = 1
  · rw [if_pos c1]; exact enter_ok h (by omega)
  rw [if_neg c1]
  by_cases c2 : inn b op.2.1.toNat = 0
  · rw [if_pos c2]; exact h
  rw [if_neg c2]
  unfold ownP
  by_cases d2 : op.1 = 2
  · rw [if_pos d2]; exact take_ok h (by omega) (by omega) c2 _
  rw [if_neg d2]
  by_cases d3 : op.1 = 3
  · rw [if_pos d3]
    by_cases w : whoseP b op.2.1 op.2.2.1 > 0
    · rw [if_pos w]; exact h
    · rw [if_neg w]
      obtain ⟨w1, w2, w3, w4⟩ := whose_in w
      exact free_ok h (by omega) w3
  rw [if_neg d3]
  by_cases d4 : op.1 = 4
  · rw [if_pos d4]
    by_cases w : whoseP b op.2.1 op.2.2.1 > 0
    · rw [if_pos w]; exact h
    · rw [if_neg w]
      obtain ⟨w1, w2, w3, w4⟩ := whose_in w
      by_cases g : op.2.2.2 < 0 ∨ op.2.2.2 ≥ b.1 ∨ inn b op.2.2.2.toNat = 0
      · rw [if_pos g]; exact h
      · rw [if_neg g]
        exact hand_ok h (by omega) w3 (by omega) (by omega) (fun e => g (.inr (.inr e)))
  rw [if_neg d4]
  by_cases d5 : op.1 = 5
  · rw [if_pos d5]
    by_cases g : firstOf b op.2.1 ≥ 0
    · rw [if_pos g]; exact h
    · rw [if_neg g]
      refine out_ok h (by omega) ?_
      rw [Int.toNat_of_nonneg (by omega)]; omega
  rw [if_neg d5]
  by_cases d6 : op.1 = 6
  · rw [if_pos d6]; exact reap_ok h _
  · rw [if_neg d6]; exact h
theorem do_same (b : Bk) (op : Op) (h0 : (doP b op).2.1 ≠ 0) (h10 : (doP b op).2.1 ≠ 10) : (doP b op).1 = b ∧ (doP b op).2.2 = 0 := by
  revert h0 h10
  unfold doP
  by_cases c : op.2.1 < 0 ∨ op.2.1 ≥ b.1
  · rw [if_pos c]; exact fun _ _ => ⟨rfl, rfl⟩
  rw [if_neg c]
  by_cases c1 : op.1 = 1
  · rw [if_pos c1]
    unfold enterP
    split
    · exact fun _ _ => ⟨rfl, rfl⟩
    split
    · exact fun _ _ => ⟨rfl, rfl⟩
    · exact fun g => (g rfl).elim
  rw [if_neg c1]
  by_cases c2 : inn b op.2.1.toNat = 0
  · rw [if_pos c2]; exact fun _ _ => ⟨rfl, rfl⟩
  rw [if_neg c2]
  unfold ownP
  by_cases d2 : op.1 = 2
  · rw [if_pos d2]
    unfold takeP pagesP popP
    split
    · exact fun _ _ => ⟨rfl, rfl⟩
    split
    · split
      · exact fun _ _ => ⟨rfl, rfl⟩
      · exact fun g => (g rfl).elim
    dsimp only
    split
    · split
      · exact fun _ _ => ⟨rfl, rfl⟩
      · exact fun g => (g rfl).elim
    · exact fun g => (g rfl).elim
  rw [if_neg d2]
  by_cases d3 : op.1 = 3
  · rw [if_pos d3]
    split
    · exact fun _ _ => ⟨rfl, rfl⟩
    · exact fun g => (g rfl).elim
  rw [if_neg d3]
  by_cases d4 : op.1 = 4
  · rw [if_pos d4]
    split
    · exact fun _ _ => ⟨rfl, rfl⟩
    split
    · exact fun _ _ => ⟨rfl, rfl⟩
    · exact fun g => (g rfl).elim
  rw [if_neg d4]
  by_cases d5 : op.1 = 5
  · rw [if_pos d5]
    split
    · exact fun _ _ => ⟨rfl, rfl⟩
    · exact fun g => (g rfl).elim
  rw [if_neg d5]
  by_cases d6 : op.1 = 6
  · rw [if_pos d6]
    unfold reapP
    split
    · exact fun _ _ => ⟨rfl, rfl⟩
    split
    · exact fun _ _ => ⟨rfl, rfl⟩
    split
    · exact fun g => (g rfl).elim
    · exact fun _ g => (g rfl).elim
  · rw [if_neg d6]; exact fun _ _ => ⟨rfl, rfl⟩
theorem BookP.short {b : Bk} (h : BookP b) : Bshort b := by
  have hdim := h.dims
  have hsl := h.slots
  have e1 : np b = b.2.1.length := rfl
  have e2 : nu b = b.2.2.2.1.length := rfl
  have key : ∀ j, j < 4 → (hd b j).length ≤ 4194304 := fun j hj => by have := h.hd_len hj; omega
  refine ⟨?_, fun j => ?_, ?_, ?_, ?_⟩
  · show b.2.1.length ≤ 4194304; omega
  · by_cases c : j < 4
    · exact key j c
    · obtain ⟨q, rfl⟩ : ∃ q, j = q + 3 := ⟨j - 3, by omega⟩
      exact key 3 (by omega)
  · show b.2.2.2.1.length ≤ 4194304; omega
  · show b.2.2.2.2.1.length ≤ 4194304; omega
  · show b.2.2.2.2.2.length ≤ 4194304; omega
theorem ints_of {l : List Int} (h : ∀ i, i < l.length → -100000 ≤ l.getD i 0 ∧ l.getD i 0 ≤ 100000) : Ints l := by
  intro x hx
  obtain ⟨j, hj, e⟩ := mem_getD hx
  have := h j hj
  rw [e] at this
  exact ⟨by omega, by omega⟩
theorem BookP.ints {b : Bk} (h : BookP b) : Bi b := by
  have hdim := h.dims
  have hsl := h.slots
  have key : ∀ j, j < 4 → Ints (hd b j) := fun j hj x hx => by have := h.mem hj hx; exact ⟨by omega, by omega⟩
  refine ⟨⟨by omega, by omega⟩, ints_of fun i hi => ?_, fun j => ?_, ints_of fun i hi => ?_, ints_of fun i hi => ?_, ints_of fun i hi => ?_⟩
  · have := h.cases (p := i) hi
    rw [fold_pg]; omega
  · by_cases c : j < 4
    · exact key j c
    · obtain ⟨q, rfl⟩ : ∃ q, j = q + 3 := ⟨j - 3, by omega⟩
      exact key 3 (by omega)
  · have := ownB_iff.1 (h.own (u := i) hi)
    rw [fold_ow]; omega
  · have := slotB_iff.1 (h.slot (i := i) (by omega))
    rw [fold_in]; omega
  · have := slotB_iff.1 (h.slot (i := i) (by omega))
    rw [fold_ep]; omega
theorem impl_BookDo_eq (N : Nat) (hN : Fuel N) (b : Bk) (hi : Bi b) (hb : Bshort b) (op : Op) : impl_BookDo N b op = out (bookDo b op) := by
  unfold impl_BookDo bookDo
  rw [impl_BookOk_eq N hN b hi hb]
  simp only [Ob]
  by_cases h : BookP b
  rotate_left
  · rw [bookOk, tf_f h, if_neg h]; rfl
  rw [bookOk, tf_t h, Bool.not_true, cond_false, if_pos h, own_eq N hN b hb]
  simp only [Ob]
  have hd := impl_do_eq N hN h op
  rw [hd]
  simp only [Ob, cndn]
  have ho := own_eq N hN (doP b op).1 (do_ok h op).short
  by_cases c0 : (doP b op).2.1 = 0
  · rw [if_pos c0]
    show (impl_Book_own N (doP b op).1).bind _ = _
    rw [ho]; rfl
  rw [if_neg c0]
  by_cases c1 : (doP b op).2.1 = 10
  · rw [if_pos c1]
    show (impl_Book_own N (doP b op).1).bind _ = _
    rw [ho]; rfl
  rw [if_neg c1]
  have hs := do_same b op c0 c1
  show out (b, (doP b op).2.1, 0) = out (doP b op)
  have e : doP b op = (b, (doP b op).2.1, 0) := Prod.ext hs.1 (Prod.ext rfl hs.2)
  rw [← e]
def bk0 : Bk := (0, [], ([], [], [], []), [], [], [])
def wIE (b : Bk) (is es : List Int) : Bk := (b.1, b.2.1, b.2.2.1, b.2.2.2.1, is, es)
theorem hd_wIE (b : Bk) (is es : List Int) (k : Nat) : hd (wIE b is es) k = hd b k := hd_heads _ _ rfl k
theorem popP_wIE (b : Bk) (s : Int) (k : Nat) (is es : List Int) : popP (wIE b is es) s k = (wIE (popP b s k).1 is es, (popP b s k).2) := by
  unfold popP
  rw [hd_wIE]
  rfl
theorem takeP_wIE (b : Bk) (s u : Int) (is es : List Int) : takeP (wIE b is es) s u = (wIE (takeP b s u).1 is es, (takeP b s u).2) := by
  unfold takeP
  by_cases c1 : kindOf u < 0
  · rw [if_pos c1, if_pos c1]
  rw [if_neg c1, if_neg c1]
  by_cases c2 : kindOf u = 4
  · rw [if_pos c2, if_pos c2]
    unfold pagesP
    have e : (wIE b is es).2.1 = b.2.1 := rfl
    rw [e]
    by_cases c3 : runOf b.2.1 ((u + 7) / 8).toNat < 0
    · rw [if_pos c3, if_pos c3]
    · rw [if_neg c3, if_neg c3]; rfl
  rw [if_neg c2, if_neg c2]
  dsimp only
  rw [hd_wIE]
  by_cases c3 : (hd b (kindOf u).toNat).length = 0
  · rw [if_pos c3, if_pos c3]
    have e : (wIE b is es).2.1 = b.2.1 := rfl
    rw [e]
    by_cases c4 : runOf b.2.1 1 < 0
    · rw [if_pos c4, if_pos c4]
    · rw [if_neg c4, if_neg c4, ← popP_wIE]
      have e2 : carveP (wIE b is es) (runOf b.2.1 1).toNat (kindOf u).toNat = wIE (carveP b (runOf b.2.1 1).toNat (kindOf u).toNat) is es := by
        unfold carveP
        rw [hd_wIE]
        rfl
      rw [e2]
  · rw [if_neg c3, if_neg c3, popP_wIE]
def Near (b : Bk) : Prop := ∃ is es, BookP (wIE b is es) ∧ inn (wIE b is es) 0 ≠ 0
theorem Near.take {b : Bk} (h : Near b) (u : Int) : Near (takeP b 0 u).1 := by
  obtain ⟨is, es, hb, hi⟩ := h
  have hdim := hb.dims
  refine ⟨is, es, ?_, hi⟩
  have := take_ok hb (s := 0) (by omega) (by omega) hi u
  rwa [takeP_wIE] at this
def Ok {α : Type _} (x : Option α) (P : α → Prop) : Prop := ∃ a, x = some a ∧ P a
theorem Ok.bind {α β : Type _} {x : Option α} {P : α → Prop} {f : α → Option β} {Q : β → Prop} (h : Ok x P) (g : ∀ a, P a → Ok (f a) Q) : Ok (x.bind f) Q := by
  obtain ⟨a, rfl, h⟩ := h
  exact g a h
theorem Ok.of {α : Type _} {x : Option α} {P Q : α → Prop} (h : Ok x P) (g : ∀ a, P a → Q a) : Ok x Q := by
  obtain ⟨a, e, h⟩ := h; exact ⟨a, e, g a h⟩
def Sm (n : Nat) (l : List Int) : Prop := l.length ≤ n ∧ ∀ x ∈ l, -100000 ≤ x ∧ x ≤ 100000
theorem Sm.set {n : Nat} {l : List Int} (h : Sm n l) (i : Nat) {x : Int} (h1 : -100000 ≤ x) (h2 : x ≤ 100000) : Sm n (l.set i x) := by
  refine ⟨by rw [List.length_set]; exact h.1, fun y hy => ?_⟩
  rcases List.mem_or_eq_of_mem_set hy with g | g
  · exact h.2 y g
  · rw [g]; exact ⟨h1, h2⟩
theorem Sm.short {l : List Int} (h : Sm 100 l) : Short l := by have := h.1; unfold Short; omega
theorem Sm.ints {n : Nat} {l : List Int} (h : Sm n l) : Ints l := fun x hx => by have := h.2 x hx; exact ⟨by omega, by omega⟩
def Bd (b : Bk) : Prop := (-100 ≤ b.1 ∧ b.1 ≤ 100) ∧ Sm 100 b.2.1 ∧ (Sm 100 b.2.2.1.1 ∧ Sm 100 b.2.2.1.2.1 ∧ Sm 100 b.2.2.1.2.2.1 ∧ Sm 100 b.2.2.1.2.2.2) ∧ Sm 100 b.2.2.2.1 ∧ (∀ x ∈ b.2.2.2.1, 0 ≤ x ∧ x ≤ 10) ∧ Sm 100 b.2.2.2.2.1 ∧ Sm 100 b.2.2.2.2.2
theorem Bd.short {b : Bk} (h : Bd b) : Bshort b := by
  obtain ⟨h0, h1, ⟨g0, g1, g2, g3⟩, h2, _, h3, h4⟩ := h
  exact ⟨h1.short, fun k => by match k with | 0 => exact g0.short | 1 => exact g1.short | 2 => exact g2.short | _ + 3 => exact g3.short, h2.short, h3.short, h4.short⟩
theorem Bd.ints {b : Bk} (h : Bd b) : Bi b := by
  obtain ⟨h0, h1, ⟨g0, g1, g2, g3⟩, h2, _, h3, h4⟩ := h
  exact ⟨⟨by omega, by omega⟩, h1.ints, fun k => by match k with | 0 => exact g0.ints | 1 => exact g1.ints | 2 => exact g2.ints | _ + 3 => exact g3.ints, h2.ints, h3.ints, h4.ints⟩
def openP (c : Cfg) : Bk := (c.1, List.replicate c.2.1.toNat 0, ([], [], [], []), List.replicate (c.2.1 * 8).toNat 0, List.replicate c.1.toNat 0, List.replicate c.1.toNat 0)
theorem rep_getD (n i : Nat) : (List.replicate n (0 : Int)).getD i 0 = 0 := by
  rw [List.getD_eq_getElem?_getD, List.getElem?_replicate]
  split <;> rfl
theorem spec_BookOpen_eq (N : Nat) {c : Cfg} (h : Plat c) : spec_BookOpen N c = some (((openP c).1, (), ((), (), (), ()), (), (), ()), ((openP c).2.1, (openP c).2.2.2.1, (openP c).2.2.2.2.1, (openP c).2.2.2.2.2)) := by
  unfold spec_BookOpen
  rw [spec_PlatOk_eq, dt h]
  unfold Plat at h
  simp only [Ob, Bool.not_true, cond_false]
  rw [w64 (n := c.2.1 * 8) (by omega) (by omega)]
  repeat rw [ct (by omega)]
  rfl
theorem bookDo_ok {b : Bk} (h : BookP b) (op : Op) : bookDo b op = doP b op := by unfold bookDo; rw [if_pos h]
theorem list_ext {l m : List Int} (hl : l.length = m.length) (h : ∀ i, l.getD i 0 = m.getD i 0) : l = m := by
  apply List.ext_getElem hl
  intro i h1 h2
  have := h i
  rwa [getD_lt h1, getD_lt h2] at this
abbrev outT (r : Bk × Bool) : Option ((BkU × Bool) × L8) :=
  some (((r.1.1, (), ((), (), (), ()), (), (), ()), r.2), (r.1.2.1, r.1.2.2.1.1, r.1.2.2.1.2.1, r.1.2.2.1.2.2.1, r.1.2.2.1.2.2.2, r.1.2.2.2.1, r.1.2.2.2.2.1, r.1.2.2.2.2.2))
def hA (c : Cfg) : Nat := (3 + 2 * c.1).toNat
def pA (c : Cfg) : Nat := (7 + 2 * c.1).toNat
def tA (c : Cfg) : Nat := (7 + 2 * c.1 + c.2.1).toNat
def kA (c : Cfg) : Nat := (7 + 2 * c.1 + 9 * c.2.1).toNat
def dA (c : Cfg) : Nat := (house c).toNat
theorem plat_at {c : Cfg} (h : Plat c) : (hA c : Int) = 3 + 2 * c.1 ∧ (pA c : Int) = 7 + 2 * c.1 ∧ (tA c : Int) = 7 + 2 * c.1 + c.2.1 ∧ (kA c : Int) = 7 + 2 * c.1 + 9 * c.2.1 ∧ (dA c : Int) = 7 + 2 * c.1 + 17 * c.2.1 ∧ 1 ≤ c.1 ∧ c.1 ≤ 4 ∧ 1 ≤ c.2.1 ∧ c.2.1 ≤ 6 := by
  unfold Plat at h
  unfold hA pA tA kA dA house
  omega
def chainP (k0 : Nat) : List Int → Nat → List Int → List Int
  | M, p, [] => M
  | M, p, u :: r => chainP k0 (M.set p (u + 1)) (k0 + u.toNat) r
theorem chainP_len (k0 : Nat) : ∀ (l M : List Int) (p : Nat), (chainP k0 M p l).length = M.length
  | [], M, p => rfl
  | u :: r, M, p => by rw [chainP, chainP_len k0 r, List.length_set]
def headOr (l : List Int) (d : Int) : Int := match l with
  | [] => d
  | x :: _ => x + 1
def nextOr : List Int → Int → Int → Int
  | [], _, d => d
  | x :: r, u, d => if x = u then headOr r d else nextOr r u d
theorem nextOr_not : ∀ (l : List Int) (u d : Int), u ∉ l → nextOr l u d = d
  | [], u, d, _ => rfl
  | x :: r, u, d, h => by
    rw [nextOr, if_neg (fun e => h (by rw [e]; exact List.mem_cons_self)), nextOr_not r u d (fun g => h (List.mem_cons_of_mem _ g))]
theorem chainP_getD (k0 : Nat) : ∀ (l M : List Int) (p : Nat), l.Nodup → (∀ x ∈ l, 0 ≤ x ∧ k0 + x.toNat < M.length) → p < M.length → (∀ x ∈ l, k0 + x.toNat ≠ p) → ∀ j,
    (chainP k0 M p l).getD j 0 = if j = p then headOr l (M.getD j 0) else if k0 ≤ j then nextOr l ((j - k0 : Nat) : Int) (M.getD j 0) else M.getD j 0
  | [], M, p, _, _, _, _, j => by
    rw [chainP]
    unfold headOr nextOr
    split
    · rfl
    split <;> rfl
  | x :: r, M, p, hn, hx, hp, hne, j => by
    have hn' := List.nodup_cons.1 hn
    have hx0 := hx x List.mem_cons_self
    have hp0 := hne x List.mem_cons_self
    have ih := chainP_getD k0 r (M.set p (x + 1)) (k0 + x.toNat) hn'.2 (fun y hy => by rw [List.length_set]; exact hx y (List.mem_cons_of_mem _ hy)) (by rw [List.length_set]; exact hx0.2) (fun y hy e => by
      have := hx y (List.mem_cons_of_mem _ hy)
      have : y = x := by omega
      rw [this] at hy; exact hn'.1 hy) j
    have hM : (M.set p (x + 1)).getD j 0 = if j = p then x + 1 else M.getD j 0 := getD_set _ _ _ _ hp
    rw [chainP, ih, hM]
    by_cases c1 : j = p
    · subst c1
      rw [if_neg (show ¬ j = k0 + x.toNat from fun e => hp0 e.symm), if_pos rfl, if_pos rfl]
      have hh : headOr (x :: r) (M.getD j 0) = x + 1 := rfl
      rw [hh]
      split
      · rw [nextOr_not]
        intro g
        exact hne _ (List.mem_cons_of_mem _ g) (by omega)
      · rfl
    · rw [if_neg c1, if_neg c1]
      by_cases c2 : j = k0 + x.toNat
      · rw [if_pos c2, if_pos (by omega), nextOr, if_pos (by omega)]
      · rw [if_neg c2]
        split
        · rw [nextOr, if_neg (by omega)]
        · rfl
def baseV (c : Cfg) (b : Bk) (j : Nat) : Int :=
  if 3 ≤ j ∧ j < 3 + c.1.toNat then inn b (j - 3) + 4 * ep b (j - 3) else if pA c ≤ j ∧ j < tA c then pg b (j - pA c) else if tA c ≤ j ∧ j < kA c then ow b (j - tA c) else 0
def baseP (c : Cfg) (b : Bk) : List Int := (List.range (dA c)).map (baseV c b)
theorem map_range_getD (f : Nat → Int) (n j : Nat) (h : j < n) : ((List.range n).map f).getD j 0 = f j := by
  rw [getD_lt (by simp; exact h)]; simp
theorem baseP_len (c : Cfg) (b : Bk) : (baseP c b).length = dA c := by unfold baseP; simp
theorem baseP_getD (c : Cfg) (b : Bk) (j : Nat) (h : j < dA c) : (baseP c b).getD j 0 = baseV c b j := map_range_getD _ _ _ h
def layP (c : Cfg) (b : Bk) : List Int :=
  chainP (kA c) (chainP (kA c) (chainP (kA c) (chainP (kA c) (baseP c b) (hA c) (hd b 0)) (hA c + 1) (hd b 1)) (hA c + 2) (hd b 2)) (hA c + 3) (hd b 3)
theorem layP_len (c : Cfg) (b : Bk) : (layP c b).length = dA c := by
  unfold layP
  rw [chainP_len, chainP_len, chainP_len, chainP_len, baseP_len]
def Fit (c : Cfg) (b : Bk) : Prop := Plat c ∧ BookP b ∧ b.1 = c.1 ∧ (np b : Int) = c.2.1
theorem nodup_of {l : List Int} (h : ∀ x ∈ l, l.count x ≤ 1) : l.Nodup := List.nodup_iff_count.2 fun x => by
  by_cases c : x ∈ l
  · exact h x c
  · rw [List.count_eq_zero.2 c]; omega
theorem BookP.nodup {b : Bk} (h : BookP b) {k : Nat} (hk : k < 4) : (hd b k).Nodup := nodup_of fun x hx => by
  have hm := h.mem hk hx
  have := page_count h.sizes (fun k hk x hx => h.list hk hx) (fun p hp => h.pageW hp) hk (u := x.toNat) (by omega)
  rwa [Int.toNat_of_nonneg hm.1] at this
theorem BookP.kinds {b : Bk} (h : BookP b) {k j : Nat} (hk : k < 4) (hj : j < 4) (hne : k ≠ j) {x : Int} (hx : x ∈ hd b k) : x ∉ hd b j := fun g => by
  have h1 := h.mem hk hx
  have h2 := h.mem hj g
  omega
def nextV (b : Bk) (u : Int) : Int := nextOr (hd b 3) u (nextOr (hd b 2) u (nextOr (hd b 1) u (nextOr (hd b 0) u 0)))
def layV (c : Cfg) (b : Bk) (j : Nat) : Int :=
  if hA c ≤ j ∧ j < pA c then headOr (hd b (j - hA c)) 0 else if kA c ≤ j then nextV b ((j - kA c : Nat) : Int) else baseV c b j
theorem layP_getD {c : Cfg} {b : Bk} (h : Fit c b) (j : Nat) (hj : j < dA c) : (layP c b).getD j 0 = layV c b j := by
  obtain ⟨hc, hb, h1, h2⟩ := h
  obtain ⟨a1, a2, a3, a4, a5, a6, a7, a8, a9⟩ := plat_at hc
  have hdim := hb.dims
  have hm : ∀ k, k < 4 → ∀ x ∈ hd b k, 0 ≤ x ∧ kA c + x.toNat < dA c := fun k hk x hx => by have := hb.mem hk hx; omega
  have hp : ∀ k i, k < 4 → i < 4 → ∀ x ∈ hd b k, kA c + x.toNat ≠ hA c + i := fun k i hk hi x hx => by omega
  have e0 := chainP_getD (kA c) (hd b 0) (baseP c b) (hA c) (hb.nodup (by omega)) (by rw [baseP_len]; exact hm 0 (by omega)) (by rw [baseP_len]; omega) (hp 0 0 (by omega) (by omega)) j
  have e1 := chainP_getD (kA c) (hd b 1) (chainP (kA c) (baseP c b) (hA c) (hd b 0)) (hA c + 1) (hb.nodup (by omega)) (by rw [chainP_len, baseP_len]; exact hm 1 (by omega)) (by rw [chainP_len, baseP_len]; omega) (hp 1 1 (by omega) (by omega)) j
  have e2 := chainP_getD (kA c) (hd b 2) (chainP (kA c) (chainP (kA c) (baseP c b) (hA c) (hd b 0)) (hA c + 1) (hd b 1)) (hA c + 2) (hb.nodup (by omega)) (by rw [chainP_len, chainP_len, baseP_len]; exact hm 2 (by omega)) (by rw [chainP_len, chainP_len, baseP_len]; omega) (hp 2 2 (by omega) (by omega)) j
  have e3 := chainP_getD (kA c) (hd b 3) (chainP (kA c) (chainP (kA c) (chainP (kA c) (baseP c b) (hA c) (hd b 0)) (hA c + 1) (hd b 1)) (hA c + 2) (hd b 2)) (hA c + 3) (hb.nodup (by omega)) (by rw [chainP_len, chainP_len, chainP_len, baseP_len]; exact hm 3 (by omega)) (by rw [chainP_len, chainP_len, chainP_len, baseP_len]; omega) (hp 3 3 (by omega) (by omega)) j
  unfold layP
  rw [e3, e2, e1, e0, baseP_getD c b j hj]
  have hz : hA c ≤ j → (j < pA c ∨ kA c ≤ j) → baseV c b j = 0 := fun g1 g2 => by unfold baseV; rw [if_neg (by omega), if_neg (by omega), if_neg (by omega)]
  unfold layV
  by_cases g : hA c ≤ j ∧ j < pA c
  · rw [if_pos g, hz g.1 (.inl g.2)]
    obtain ⟨i, rfl⟩ : ∃ i, j = hA c + i := ⟨j - hA c, by omega⟩
    rw [show hA c + i - hA c = i by omega]
    have hi : i = 0 ∨ i = 1 ∨ i = 2 ∨ i = 3 := by omega
    rcases hi with rfl | rfl | rfl | rfl
    · rw [if_neg (by omega), if_neg (by omega), if_neg (by omega), if_neg (by omega), if_neg (by omega), if_neg (by omega), if_pos (by omega)]
    · rw [if_neg (by omega), if_neg (by omega), if_neg (by omega), if_neg (by omega), if_pos (by omega), if_neg (by omega), if_neg (by omega)]
    · rw [if_neg (by omega), if_neg (by omega), if_pos (by omega), if_neg (by omega), if_neg (by omega), if_neg (by omega), if_neg (by omega)]
    · rw [if_pos (by omega), if_neg (by omega), if_neg (by omega), if_neg (by omega), if_neg (by omega), if_neg (by omega), if_neg (by omega)]
  · have n0 : ¬ j = hA c := fun e => g ⟨by omega, by omega⟩
    have n1 : ¬ j = hA c + 1 := fun e => g ⟨by omega, by omega⟩
    have n2 : ¬ j = hA c + 2 := fun e => g ⟨by omega, by omega⟩
    have n3 : ¬ j = hA c + 3 := fun e => g ⟨by omega, by omega⟩
    rw [if_neg g, if_neg n3, if_neg n2, if_neg n1, if_neg n0]
    by_cases g2 : kA c ≤ j
    · simp only [if_pos g2]
      rw [hz (by omega) (.inr g2)]; rfl
    · simp only [if_neg g2]
theorem nextV_mem {b : Bk} (h : BookP b) {k : Nat} (hk : k < 4) {u : Int} (hu : u ∈ hd b k) : nextV b u = nextOr (hd b k) u 0 := by
  have hno : ∀ j, j < 4 → j ≠ k → u ∉ hd b j := fun j hj hne => h.kinds hk hj (fun e => hne e.symm) hu
  unfold nextV
  have hi : k = 0 ∨ k = 1 ∨ k = 2 ∨ k = 3 := by omega
  rcases hi with rfl | rfl | rfl | rfl
  · rw [nextOr_not _ _ _ (hno 3 (by omega) (by omega)), nextOr_not _ _ _ (hno 2 (by omega) (by omega)), nextOr_not _ _ _ (hno 1 (by omega) (by omega))]
  · rw [nextOr_not _ _ _ (hno 3 (by omega) (by omega)), nextOr_not _ _ _ (hno 2 (by omega) (by omega)), nextOr_not (hd b 0) _ _ (hno 0 (by omega) (by omega))]
  · rw [nextOr_not _ _ _ (hno 3 (by omega) (by omega)), nextOr_not (hd b 1) _ _ (hno 1 (by omega) (by omega)), nextOr_not (hd b 0) _ _ (hno 0 (by omega) (by omega))]
  · rw [nextOr_not (hd b 2) _ _ (hno 2 (by omega) (by omega)), nextOr_not (hd b 1) _ _ (hno 1 (by omega) (by omega)), nextOr_not (hd b 0) _ _ (hno 0 (by omega) (by omega))]
def chainR (v : Nat → Int) (k0 : Nat) (U : Int) : Nat → Int → List Int
  | 0, _ => []
  | n + 1, a => if 0 < a ∧ a ≤ U then (a - 1) :: chainR v k0 U n (v (k0 + (a - 1).toNat)) else []
def chainB (v : Nat → Int) (k0 : Nat) (U : Int) : Nat → Int → Bool
  | n, a => if a = 0 then true else if a > U then false else match n with
    | 0 => false
    | m + 1 => chainB v k0 U m (v (k0 + (a - 1).toNat))
theorem chain_read (v : Nat → Int) (k0 : Nat) (U : Int) : ∀ (l : List Int) (n : Nat), l.length ≤ n → (∀ x ∈ l, 0 ≤ x ∧ x < U) → l.Nodup → (∀ x ∈ l, v (k0 + x.toNat) = nextOr l x 0) → chainR v k0 U n (headOr l 0) = l ∧ chainB v k0 U n (headOr l 0) = true
  | [], n, _, _, _, _ => by
    have e0 : headOr [] 0 = 0 := rfl
    rw [e0]
    refine ⟨?_, ?_⟩
    · cases n with
      | zero => rfl
      | succ n => rw [chainR, if_neg (by omega)]
    · unfold chainB; rw [if_pos rfl]
  | x :: r, n, hn, hx, hd, hv => by
    obtain ⟨m, rfl⟩ : ∃ m, n = m + 1 := ⟨n - 1, by simp at hn; omega⟩
    have hx0 := hx x List.mem_cons_self
    have hd' := List.nodup_cons.1 hd
    have hv0 := hv x List.mem_cons_self
    rw [nextOr, if_pos rfl] at hv0
    obtain ⟨i1, i2⟩ := chain_read v k0 U r m (by simp at hn; omega) (fun y hy => hx y (List.mem_cons_of_mem _ hy)) hd'.2 (fun y hy => by
      have := hv y (List.mem_cons_of_mem _ hy)
      rwa [nextOr, if_neg (fun e => hd'.1 (by rw [e]; exact hy))] at this)
    have hh : headOr (x :: r) 0 = x + 1 := rfl
    rw [hh]
    refine ⟨?_, ?_⟩
    · rw [chainR, if_pos (by omega), show x + 1 - 1 = x by omega, hv0, i1]
    · rw [chainB, if_neg (by omega), if_neg (by omega)]
      show chainB v k0 U m (v (k0 + (x + 1 - 1).toNat)) = true
      rw [show x + 1 - 1 = x by omega, hv0, i2]
def readB (c : Cfg) (v : Nat → Int) : Bk :=
  (c.1, (List.range c.2.1.toNat).map (fun i => v (pA c + i)),
    (chainR v (kA c) (8 * c.2.1) ((8 * c.2.1).toNat + 1) (v (hA c)), chainR v (kA c) (8 * c.2.1) ((8 * c.2.1).toNat + 1) (v (hA c + 1)),
      chainR v (kA c) (8 * c.2.1) ((8 * c.2.1).toNat + 1) (v (hA c + 2)), chainR v (kA c) (8 * c.2.1) ((8 * c.2.1).toNat + 1) (v (hA c + 3))),
    (List.range (8 * c.2.1).toNat).map (fun i => v (tA c + i)), (List.range c.1.toNat).map (fun i => v (3 + i) % 4), (List.range c.1.toNat).map (fun i => v (3 + i) / 4))
def Agree (c : Cfg) (v : Nat → Int) (b : Bk) : Prop := ∀ j, j < dA c → (3 ≤ j ∧ j < 3 + c.1.toNat ∨ hA c ≤ j) → layV c b j = v j
noncomputable def censP (c : Cfg) (v : Nat → Int) : Bk × Bool := @ite _ (BookP (readB c v) ∧ Agree c v (readB c v)) (Classical.propDecidable _) (readB c v, true) (bk0, false)
theorem readB_fit {c : Cfg} (hc : Plat c) {v : Nat → Int} (hb : BookP (readB c v)) : Fit c (readB c v) := by
  refine ⟨hc, hb, rfl, ?_⟩
  unfold Plat at hc
  have : np (readB c v) = c.2.1.toNat := by unfold np readB; simp
  omega
theorem fit_nu {c : Cfg} {b : Bk} (h : Fit c b) : (nu b : Int) = 8 * c.2.1 := by
  have := h.2.1.dims
  have := h.2.2.2
  omega
theorem layV_head {c : Cfg} {b : Bk} (h : Fit c b) {k : Nat} (hk : k < 4) : layV c b (hA c + k) = headOr (hd b k) 0 := by
  obtain ⟨a1, a2, a3, a4, a5, a6, a7, a8, a9⟩ := plat_at h.1
  unfold layV
  rw [if_pos (by omega), show hA c + k - hA c = k by omega]
theorem layV_link {c : Cfg} {b : Bk} (h : Fit c b) (u : Nat) : layV c b (kA c + u) = nextV b u := by
  obtain ⟨a1, a2, a3, a4, a5, a6, a7, a8, a9⟩ := plat_at h.1
  unfold layV
  rw [if_neg (by omega), if_pos (by omega), show kA c + u - kA c = u by omega]
theorem agree_chain {c : Cfg} {v : Nat → Int} {b : Bk} (h : Fit c b) (ha : Agree c v b) {k : Nat} (hk : k < 4) (n : Nat) (hn : (nu b : Int) ≤ n) : chainR v (kA c) (8 * c.2.1) n (v (hA c + k)) = hd b k ∧ chainB v (kA c) (8 * c.2.1) n (v (hA c + k)) = true := by
  obtain ⟨a1, a2, a3, a4, a5, a6, a7, a8, a9⟩ := plat_at h.1
  have hnu := fit_nu h
  have hb := h.2.1
  have hl := hb.hd_len hk
  have e : v (hA c + k) = headOr (hd b k) 0 := by rw [← layV_head h hk]; exact (ha _ (by omega) (.inr (by omega))).symm
  rw [e]
  refine chain_read v (kA c) (8 * c.2.1) (hd b k) n (by omega) (fun x hx => by have := hb.mem hk hx; omega) (hb.nodup hk) (fun x hx => ?_)
  have hm := hb.mem hk hx
  have := ha (kA c + x.toNat) (by omega) (.inr (by omega))
  rw [← this, layV_link h, Int.toNat_of_nonneg hm.1, nextV_mem hb hk hx]
theorem map_eq {f : Nat → Int} {l : List Int} {n : Nat} (hl : l.length = n) (h : ∀ i, i < n → f i = l.getD i 0) : (List.range n).map f = l := by
  apply list_ext (by simp; exact hl.symm)
  intro i
  by_cases c : i < n
  · rw [map_range_getD _ _ _ c, h i c]
  · have e1 : l.getD i 0 = 0 := by rw [List.getD_eq_getElem?_getD, List.getElem?_eq_none (by omega)]; rfl
    rw [e1, List.getD_eq_getElem?_getD, List.getElem?_eq_none (by simp; omega)]; rfl
def Mat (n : Nat) (M : List Int) (f : Nat → Int) : Prop := M.length = n ∧ ∀ j, j < n → M.getD j 0 = f j
theorem Mat.set {n : Nat} {M : List Int} {f : Nat → Int} (h : Mat n M f) {p : Nat} (hp : p < n) (x : Int) {g : Nat → Int} (hg : ∀ j, g j = if j = p then x else f j) : Mat n (M.set p x) g :=
  ⟨by rw [List.length_set]; exact h.1, fun j hj => by rw [getD_set _ _ _ _ (by rw [h.1]; exact hp), hg]; split; rfl; exact h.2 j hj⟩
theorem Mat.congr {n : Nat} {M : List Int} {f g : Nat → Int} (h : Mat n M f) (hg : ∀ j, j < n → f j = g j) : Mat n M g := ⟨h.1, fun j hj => by rw [h.2 j hj, hg j hj]⟩
theorem Mat.eq {n : Nat} {M : List Int} {f : Nat → Int} (h : Mat n M f) : M = (List.range n).map f := (map_eq h.1 fun i hi => (h.2 i hi).symm).symm
theorem mat_zero (n : Nat) : Mat n (List.replicate n 0) (fun _ => 0) := ⟨by simp, fun j _ => rep_getD n j⟩
def regV (b : Bk) (n : Nat) (j : Nat) : Int := if 3 ≤ j ∧ j < 3 + n then inn b (j - 3) + 4 * ep b (j - 3) else 0
def pgV (c : Cfg) (b : Bk) (n : Nat) (j : Nat) : Int := if pA c ≤ j ∧ j < pA c + n then pg b (j - pA c) else regV b c.1.toNat j
def owV (c : Cfg) (b : Bk) (n : Nat) (j : Nat) : Int := if tA c ≤ j ∧ j < tA c + n then ow b (j - tA c) else pgV c b c.2.1.toNat j
theorem owV_base {c : Cfg} (hc : Plat c) (b : Bk) (j : Nat) : owV c b (8 * c.2.1).toNat j = baseV c b j := by
  obtain ⟨a1, a2, a3, a4, a5, a6, a7, a8, a9⟩ := plat_at hc
  unfold owV pgV regV baseV
  by_cases g1 : 3 ≤ j ∧ j < 3 + c.1.toNat
  · rw [if_neg (by omega), if_neg (by omega), if_pos g1, if_pos g1]
  rw [if_neg g1, if_neg g1]
  by_cases g2 : pA c ≤ j ∧ j < tA c
  · rw [if_neg (by omega), if_pos (by omega), if_pos g2]
  rw [if_neg g2]
  by_cases g3 : tA c ≤ j ∧ j < kA c
  · rw [if_pos (by omega), if_pos g3]
  · rw [if_neg (by omega), if_neg (by omega), if_neg g3]
theorem cpy_getD (x : List Int) (o n : Nat) (y : List Int) (h1 : o + n ≤ x.length) (h2 : n ≤ y.length) : (cpy x o n y).length = x.length ∧ ∀ j, (cpy x o n y).getD j 0 = if o ≤ j ∧ j < o + n then y.getD (j - o) 0 else x.getD j 0 := by
  unfold cpy
  refine ⟨by simp; omega, fun j => ?_⟩
  simp only [List.getD_eq_getElem?_getD, List.getElem?_append, List.length_take, List.getElem?_take, List.getElem?_drop]
  by_cases c1 : j < min o x.length
  · rw [if_pos c1, if_pos (by omega), if_neg (by omega)]
  · rw [if_neg c1]
    by_cases c2 : j - min o x.length < min n y.length
    · rw [if_pos c2, if_pos (by omega), if_pos (by omega), show j - min o x.length = j - o by omega]
    · rw [if_neg c2, if_neg (by omega), show o + n + (j - min o x.length - min n y.length) = j by omega]
theorem hd_cases {P : Prop} {k : Nat} (hk : k < 4) (h0 : k = 0 → P) (h1 : k = 1 → P) (h2 : k = 2 → P) (h3 : k = 3 → P) : P := by
  have hi : k = 0 ∨ k = 1 ∨ k = 2 ∨ k = 3 := by omega
  rcases hi with h | h | h | h
  · exact h0 h
  · exact h1 h
  · exact h2 h
  · exact h3 h
theorem impl_lay_l2 (N : Nat) {c : Cfg} {b : Bk} (h : Fit c b) (k : Nat) (l : List Int) (hl : l.length ≤ 48) (hm : ∀ x ∈ l, 0 ≤ x ∧ x < nu b) : ∀ d i K (p : Nat) (M : List Int), i + d = l.length → M.length = dA c → p < dA c →
    impl_lay.l2 N (K + d + 1) (p : Nat) b.2.2.1 k l (l.length : Int) (i : Nat) c M = impl_lay.l1 N K b.2.2.1 (IntKind.i64.wrap ((k : Int) + 1)) c (chainP (kA c) M p (l.drop i))
  | 0, i, K, p, M, e, hM, hp => by
    rw [impl_lay.l2, cf (by omega), drop_end (by omega)]; rfl
  | d + 1, i, K, p, M, e, hM, hp => by
    obtain ⟨a1, a2, a3, a4, a5, a6, a7, a8, a9⟩ := plat_at h.1
    have hnu := fit_nu h
    have hx := hm (l.getD i 0) (by rw [getD_lt (by omega)]; exact List.getElem_mem _)
    rw [drop_at 0 (show i < l.length by omega), chainP]
    rw [show K + (d + 1) + 1 = K + d + 1 + 1 by omega, impl_lay.l2, ct (by omega), bnd (by omega) (by omega), bnd (by omega) (by omega), impl_linkAt_eq N h.1]
    simp only [Ob]
    rw [Int.toNat_natCast, Int.toNat_natCast, w64 (n := l.getD i 0 + 1) (by omega) (by omega), w64 (n := (i : Int) + 1) (by omega) (by omega), show (i : Int) + 1 = ((i + 1 : Nat) : Int) by omega, w64 (n := 7 + 2 * c.1 + 9 * c.2.1 + l.getD i 0) (by omega) (by omega), show 7 + 2 * c.1 + 9 * c.2.1 + l.getD i 0 = ((kA c + (l.getD i 0).toNat : Nat) : Int) by omega]
    exact impl_lay_l2 N h k l hl hm d (i + 1) K _ _ (by omega) (by rw [List.length_set]; exact hM) (by omega)
theorem impl_lay_l1 (N : Nat) {c : Cfg} {b : Bk} (h : Fit c b) (M : List Int) (hM : M.length = dA c) (K : Nat) (hK : 1000 < K) :
    impl_lay.l1 N K b.2.2.1 0 c M = some ((), chainP (kA c) (chainP (kA c) (chainP (kA c) (chainP (kA c) M (hA c) (hd b 0)) (hA c + 1) (hd b 1)) (hA c + 2) (hd b 2)) (hA c + 3) (hd b 3)) := by
  obtain ⟨a1, a2, a3, a4, a5, a6, a7, a8, a9⟩ := plat_at h.1
  have hnu := fit_nu h
  have hb := h.2.1
  have hdim := hb.dims
  have step : ∀ (k K : Nat) (M : List Int), k < 4 → M.length = dA c → 60 < K → ∃ K', K ≤ K' + 60 ∧ impl_lay.l1 N K b.2.2.1 (k : Nat) c M = impl_lay.l1 N K' b.2.2.1 ((k + 1 : Nat) : Int) c (chainP (kA c) M (hA c + k) (hd b k)) := by
    intro k K M hk hM hK
    have hl := hb.hd_len hk
    have hm : ∀ x ∈ hd b k, 0 ≤ x ∧ x < nu b := fun x hx => by have := hb.mem hk hx; omega
    refine ⟨K - 1 - (hd b k).length - 1, by omega, ?_⟩
    have e := impl_lay_l2 N h k (hd b k) (by omega) hm (hd b k).length 0 (K - 1 - (hd b k).length - 1) (hA c + k) M (by omega) hM (by omega)
    rw [show K - 1 - (hd b k).length - 1 + (hd b k).length + 1 = K - 1 by omega, List.drop_zero, w64 (n := (k : Int) + 1) (by omega) (by omega), show (k : Int) + 1 = ((k + 1 : Nat) : Int) by omega] at e
    rw [← e]
    obtain ⟨K, rfl⟩ := fuel (show 0 < K by omega)
    rw [impl_lay.l1, ct (by omega), impl_headAt_eq N h.1]
    simp only [Ob]
    rw [w64 (n := 3 + 2 * c.1 + (k : Int)) (by omega) (by omega), show 3 + 2 * c.1 + (k : Int) = ((hA c + k : Nat) : Int) by omega, show K + 1 - 1 = K by omega]
    refine hd_cases hk (fun e => ?_) (fun e => ?_) (fun e => ?_) (fun e => ?_) <;> subst e
    · rw [ct (by omega)]; rfl
    · rw [cf (by omega), ct (by omega)]; rfl
    · rw [cf (by omega), cf (by omega), ct (by omega)]; rfl
    · rw [cf (by omega), cf (by omega), cf (by omega), ct (by omega)]; rfl
  obtain ⟨K1, g1, e1⟩ := step 0 K M (by omega) hM (by omega)
  obtain ⟨K2, g2, e2⟩ := step 1 K1 (chainP (kA c) M (hA c + 0) (hd b 0)) (by omega) (by simp only [chainP_len]; exact hM) (by omega)
  obtain ⟨K3, g3, e3⟩ := step 2 K2 (chainP (kA c) (chainP (kA c) M (hA c + 0) (hd b 0)) (hA c + 1) (hd b 1)) (by omega) (by simp only [chainP_len]; exact hM) (by omega)
  obtain ⟨K4, g4, e4⟩ := step 3 K3 (chainP (kA c) (chainP (kA c) (chainP (kA c) M (hA c + 0) (hd b 0)) (hA c + 1) (hd b 1)) (hA c + 2) (hd b 2)) (by omega) (by simp only [chainP_len]; exact hM) (by omega)
  have e1' : impl_lay.l1 N K b.2.2.1 0 c M = _ := e1
  rw [e1', e2, e3, e4]
  obtain ⟨K4, rfl⟩ := fuel (show 0 < K4 by omega)
  rw [impl_lay.l1, cf (by omega)]; rfl
theorem impl_lay_l0 (N : Nat) {c : Cfg} {b : Bk} (h : Fit c b) : ∀ d i K (M : List Int), i + d = c.1.toNat → d + 2000 < K → Mat (dA c) M (regV b i) → impl_lay.l0 N K c.1 (i : Nat) c b M = some ((), layP c b)
  | 0, i, K, M, e, hK, hM => by
    obtain ⟨a1, a2, a3, a4, a5, a6, a7, a8, a9⟩ := plat_at h.1
    have hnu := fit_nu h
    have hnp : np b = b.2.1.length := rfl
    have hnub : nu b = b.2.2.2.1.length := rfl
    have h2 := h.2.2.2
    obtain ⟨K, rfl⟩ := fuel (show 0 < K by omega)
    obtain rfl : i = c.1.toNat := by omega
    have hlen := hM.1
    have p1 : (7 + 2 * c.1).toNat = pA c := rfl
    have p2 : (7 + 2 * c.1 + c.2.1).toNat = tA c := rfl
    rw [impl_lay.l0, cf (by omega), impl_pageAt_eq N h.1]
    simp only [Ob]
    rw [dt (show (0 : Int) ≤ 7 + 2 * c.1 by omega), dt (show 7 + 2 * c.1 ≤ (M.length : Int) by omega), impl_tagAt_eq N h.1, p1, Nat.min_eq_left (by omega)]
    simp only [Ob, cond_true]
    obtain ⟨q1, q2⟩ := cpy_getD M (pA c) b.2.1.length b.2.1 (by omega) (by omega)
    have hM1 : Mat (dA c) (cpy M (pA c) b.2.1.length b.2.1) (pgV c b c.2.1.toNat) := ⟨by omega, fun j hj => by
      rw [q2 j]
      unfold pgV
      by_cases g : pA c ≤ j ∧ j < pA c + b.2.1.length
      · rw [if_pos g, if_pos (by omega)]; rfl
      · rw [if_neg g, if_neg (by omega), hM.2 j hj]⟩
    obtain ⟨r1, r2⟩ := cpy_getD (cpy M (pA c) b.2.1.length b.2.1) (tA c) b.2.2.2.1.length b.2.2.2.1 (by omega) (by omega)
    have hM2 : Mat (dA c) (cpy (cpy M (pA c) b.2.1.length b.2.1) (tA c) b.2.2.2.1.length b.2.2.2.1) (baseV c b) := ⟨by omega, fun j hj => by
      rw [r2 j, ← owV_base h.1]
      unfold owV
      by_cases g : tA c ≤ j ∧ j < tA c + b.2.2.2.1.length
      · rw [if_pos g, if_pos (by omega)]; rfl
      · rw [if_neg g, if_neg (by omega), hM1.2 j hj]⟩
    rw [dt (show (0 : Int) ≤ 7 + 2 * c.1 + c.2.1 by omega), dt (show 7 + 2 * c.1 + c.2.1 ≤ ((cpy M (pA c) b.2.1.length b.2.1).length : Int) by omega), p2, Nat.min_eq_left (by omega)]
    simp only [cond_true]
    rw [impl_lay_l1 N h _ hM2.1 K (by omega), hM2.eq]
    rfl
  | d + 1, i, K, M, e, hK, hM => by
    obtain ⟨a1, a2, a3, a4, a5, a6, a7, a8, a9⟩ := plat_at h.1
    obtain ⟨K, rfl⟩ := fuel (show 0 < K by omega)
    have hsl := h.2.1.slots
    have h1 := h.2.2.1
    have hlen := hM.1
    have hs := slotB_iff.1 (h.2.1.slot (i := i) (by omega))
    rw [impl_lay.l0, ct (by omega), impl_regAt_eq]
    simp only [Ob]
    rw [bnd (by omega) (by omega), bnd (by omega) (by omega), w64 (n := 3 + (i : Int)) (by omega) (by omega), bnd (by omega) (by omega), Int.toNat_natCast, fold_in, fold_ep, w64 (n := 4 * ep b i) (by omega) (by omega), w64 (n := inn b i + 4 * ep b i) (by omega) (by omega), w64 (n := (i : Int) + 1) (by omega) (by omega), show (i : Int) + 1 = ((i + 1 : Nat) : Int) by omega, show (3 + (i : Int)).toNat = 3 + i by omega]
    refine impl_lay_l0 N h d (i + 1) K _ (by omega) (by omega) (hM.set (by omega) _ fun j => ?_)
    unfold regV
    by_cases g : j = 3 + i
    · subst g
      rw [if_pos (by omega), if_pos rfl, show 3 + i - 3 = i by omega]
    · rw [if_neg g]
      by_cases g2 : 3 ≤ j ∧ j < 3 + i
      · rw [if_pos (by omega), if_pos g2]
      · rw [if_neg (by omega), if_neg g2]
theorem impl_lay_eq (N : Nat) (hN : Fuel N) {c : Cfg} {b : Bk} (h : Fit c b) : impl_lay N c b = some ((), layP c b) := by
  obtain ⟨a1, a2, a3, a4, a5, a6, a7, a8, a9⟩ := plat_at h.1
  have hh : house c = 7 + 2 * c.1 + 17 * c.2.1 := rfl
  unfold impl_lay
  rw [impl_deskAt_eq N h.1]
  simp only [Ob]
  rw [ct (by omega), ct (by omega), ct (by omega)]
  have e : (house c).toNat = dA c := rfl
  rw [e]
  exact impl_lay_l0 N h c.1.toNat 0 N _ (by omega) (by unfold Fuel at hN; omega) ((mat_zero _).congr fun j _ => by unfold regV; rw [if_neg (by omega)])
theorem sReg (N : Nat) {c : Cfg} (h : Plat c) {i : Nat} (hi : i < c.1.toNat) : spec_PlatReg N c (i : Nat) = some (((3 + i : Nat) : Int), ()) := by
  have h' := h
  unfold Plat at h'
  unfold spec_PlatReg
  rw [spec_l2At_eq N h 3 i c.1 1 (by omega) (by omega) (by omega) (by omega) (by omega), if_pos (by omega)]
  simp only [Ob]
  congr 2; omega
theorem sHead (N : Nat) {c : Cfg} (h : Plat c) {i : Nat} (hi : i < 4) : spec_PlatHead N c (i : Nat) = some (((hA c + i : Nat) : Int), ()) := by
  obtain ⟨a1, a2, a3, a4, a5, a6, a7, a8, a9⟩ := plat_at h
  unfold spec_PlatHead
  rw [w64 (n := 2 * c.1) (by omega) (by omega), w64 (n := 3 + 2 * c.1) (by omega) (by omega), spec_l2At_eq N h _ i 4 1 (by omega) (by omega) (by omega) (by omega) (by omega), if_pos (by omega)]
  simp only [Ob]
  congr 2; omega
theorem sPage (N : Nat) {c : Cfg} (h : Plat c) {i : Nat} (hi : i < c.2.1.toNat) : spec_PlatPage N c (i : Nat) = some (((pA c + i : Nat) : Int), ()) := by
  obtain ⟨a1, a2, a3, a4, a5, a6, a7, a8, a9⟩ := plat_at h
  unfold spec_PlatPage
  rw [w64 (n := 2 * c.1) (by omega) (by omega), w64 (n := 3 + 2 * c.1) (by omega) (by omega), w64 (n := 3 + 2 * c.1 + 4) (by omega) (by omega), spec_l2At_eq N h _ i c.2.1 1 (by omega) (by omega) (by omega) (by omega) (by omega), if_pos (by omega)]
  simp only [Ob]
  congr 2; omega
theorem sTag (N : Nat) {c : Cfg} (h : Plat c) {i : Nat} (hi : i < (8 * c.2.1).toNat) : spec_PlatTag N c (i : Nat) = some (((tA c + i : Nat) : Int), ()) := by
  obtain ⟨a1, a2, a3, a4, a5, a6, a7, a8, a9⟩ := plat_at h
  unfold spec_PlatTag
  rw [w64 (n := 2 * c.1) (by omega) (by omega), w64 (n := 3 + 2 * c.1) (by omega) (by omega), w64 (n := 3 + 2 * c.1 + 4) (by omega) (by omega), w64 (n := 3 + 2 * c.1 + 4 + c.2.1) (by omega) (by omega), w64 (n := c.2.1 * 8) (by omega) (by omega), spec_l2At_eq N h _ i (c.2.1 * 8) 1 (by omega) (by omega) (by omega) (by omega) (by omega), if_pos (by omega)]
  simp only [Ob]
  congr 2; omega
theorem sLink (N : Nat) {c : Cfg} (h : Plat c) {i : Nat} (hi : i < (8 * c.2.1).toNat) : spec_PlatLink N c (i : Nat) = some (((kA c + i : Nat) : Int), ()) := by
  obtain ⟨a1, a2, a3, a4, a5, a6, a7, a8, a9⟩ := plat_at h
  unfold spec_PlatLink
  rw [w64 (n := 2 * c.1) (by omega) (by omega), w64 (n := 3 + 2 * c.1) (by omega) (by omega), w64 (n := 3 + 2 * c.1 + 4) (by omega) (by omega), w64 (n := 3 + 2 * c.1 + 4 + c.2.1) (by omega) (by omega), w64 (n := 8 * c.2.1) (by omega) (by omega), w64 (n := 3 + 2 * c.1 + 4 + c.2.1 + 8 * c.2.1) (by omega) (by omega), w64 (n := c.2.1 * 8) (by omega) (by omega), spec_l2At_eq N h _ i (c.2.1 * 8) 1 (by omega) (by omega) (by omega) (by omega) (by omega), if_pos (by omega)]
  simp only [Ob]
  congr 2; omega
theorem spec_lay_l7 (N : Nat) {c : Cfg} {b : Bk} (h : Fit c b) {k : Nat} (hk : k < 4) : ∀ d i K (p : Nat) (M : List Int), i + d = (hd b k).length → M.length = dA c → p < dA c →
    spec_l4Lay.l7 N (K + 3 * d + 2) k (p : Nat) (i : Nat) c b M = spec_l4Lay.l6 N K ((k + 1 : Nat) : Int) c b (chainP (kA c) M p ((hd b k).drop i))
  | 0, i, K, p, M, e, hM, hp => by
    rw [drop_end (by omega), chainP, show K + 3 * 0 + 2 = K + 1 + 1 by omega]
    have w : IntKind.i64.wrap ((k : Int) + 1) = ((k + 1 : Nat) : Int) := wi (by omega)
    refine hd_cases hk (fun g => ?_) (fun g => ?_) (fun g => ?_) (fun g => ?_) <;> subst g
    · have e' : ((b.2.2.1.1.length : Nat) : Int) = (i : Nat) := by have : (hd b 0).length = i := by omega
                                                                   rw [← this]; rfl
      rw [spec_l4Lay.l7, ct (by omega), cf (by omega), spec_l4Lay.l9, w]
    · have e' : ((b.2.2.1.2.1.length : Nat) : Int) = (i : Nat) := by have : (hd b 1).length = i := by omega
                                                                     rw [← this]; rfl
      rw [spec_l4Lay.l7, cf (by omega), ct (by omega), cf (by omega), spec_l4Lay.l9, w]
    · have e' : ((b.2.2.1.2.2.1.length : Nat) : Int) = (i : Nat) := by have : (hd b 2).length = i := by omega
                                                                       rw [← this]; rfl
      rw [spec_l4Lay.l7, cf (by omega), cf (by omega), ct (by omega), cf (by omega), spec_l4Lay.l9, w]
    · have e' : ((b.2.2.1.2.2.2.length : Nat) : Int) = (i : Nat) := by have : (hd b 3).length = i := by omega
                                                                       rw [← this]; rfl
      rw [spec_l4Lay.l7, cf (by omega), cf (by omega), cf (by omega), ct (by omega), cf (by omega), spec_l4Lay.l9, w]
  | d + 1, i, K, p, M, e, hM, hp => by
    obtain ⟨a1, a2, a3, a4, a5, a6, a7, a8, a9⟩ := plat_at h.1
    have hnu := fit_nu h
    have hl := h.2.1.hd_len hk
    have hx := h.2.1.mem hk (x := (hd b k).getD i 0) (by rw [getD_lt (by omega)]; exact List.getElem_mem _)
    obtain ⟨x, hxe⟩ : ∃ x : Nat, (hd b k).getD i 0 = x := ⟨((hd b k).getD i 0).toNat, by omega⟩
    have ih := spec_lay_l7 N h hk d (i + 1) K (kA c + x) (M.set p ((x : Int) + 1)) (by omega) (by rw [List.length_set]; exact hM) (by omega)
    have w1 : IntKind.i64.wrap ((i : Int) + 1) = ((i + 1 : Nat) : Int) := wi (by omega)
    have w2 : IntKind.i64.wrap ((x : Int) + 1) = (x : Int) + 1 := w64 (by omega) (by omega)
    have lk := sLink N h.1 (i := x) (by omega)
    rw [drop_at 0 (show i < (hd b k).length by omega), chainP, hxe, Int.toNat_natCast, ← ih, show K + 3 * (d + 1) + 2 = K + 3 * d + 2 + 1 + 1 + 1 by omega]
    refine hd_cases hk (fun g => ?_) (fun g => ?_) (fun g => ?_) (fun g => ?_) <;> subst g
    · have q : hd b 0 = b.2.2.1.1 := rfl
      rw [q] at hxe e hl
      rw [spec_l4Lay.l7, ct (by omega), ct (by omega), ct (by omega), bnd (by omega) (by omega), bnd (by omega) (by omega), Int.toNat_natCast, Int.toNat_natCast, hxe, w2, spec_l4Lay.l8, ct (by omega), bnd (by omega) (by omega), Int.toNat_natCast, hxe, lk]
      simp only [Ob]
      rw [spec_l4Lay.l10, w1]
    · have q : hd b 1 = b.2.2.1.2.1 := rfl
      rw [q] at hxe e hl
      rw [spec_l4Lay.l7, cf (by omega), ct (by omega), ct (by omega), cf (by omega), ct (by omega), bnd (by omega) (by omega), bnd (by omega) (by omega), Int.toNat_natCast, Int.toNat_natCast, hxe, w2, spec_l4Lay.l8, cf (by omega), ct (by omega), bnd (by omega) (by omega), Int.toNat_natCast, hxe, lk]
      simp only [Ob]
      rw [spec_l4Lay.l10, w1]
    · have q : hd b 2 = b.2.2.1.2.2.1 := rfl
      rw [q] at hxe e hl
      rw [spec_l4Lay.l7, cf (by omega), cf (by omega), ct (by omega), ct (by omega), cf (by omega), cf (by omega), ct (by omega), bnd (by omega) (by omega), bnd (by omega) (by omega), Int.toNat_natCast, Int.toNat_natCast, hxe, w2, spec_l4Lay.l8, cf (by omega), cf (by omega), ct (by omega), bnd (by omega) (by omega), Int.toNat_natCast, hxe, lk]
      simp only [Ob]
      rw [spec_l4Lay.l10, w1]
    · have q : hd b 3 = b.2.2.1.2.2.2 := rfl
      rw [q] at hxe e hl
      rw [spec_l4Lay.l7, cf (by omega), cf (by omega), cf (by omega), ct (by omega), ct (by omega), cf (by omega), cf (by omega), cf (by omega), ct (by omega), bnd (by omega) (by omega), bnd (by omega) (by omega), Int.toNat_natCast, Int.toNat_natCast, hxe, w2, spec_l4Lay.l8, cf (by omega), cf (by omega), cf (by omega), ct (by omega), bnd (by omega) (by omega), Int.toNat_natCast, hxe, lk]
      simp only [Ob]
      rw [spec_l4Lay.l10, w1]
theorem spec_lay_l6 (N : Nat) {c : Cfg} {b : Bk} (h : Fit c b) (M : List Int) (hM : M.length = dA c) (K : Nat) (hK : 2000 < K) :
    spec_l4Lay.l6 N K 0 c b M = some ((), chainP (kA c) (chainP (kA c) (chainP (kA c) (chainP (kA c) M (hA c) (hd b 0)) (hA c + 1) (hd b 1)) (hA c + 2) (hd b 2)) (hA c + 3) (hd b 3)) := by
  obtain ⟨a1, a2, a3, a4, a5, a6, a7, a8, a9⟩ := plat_at h.1
  have hnu := fit_nu h
  have hb := h.2.1
  have hdim := hb.dims
  have step : ∀ (k K : Nat) (M : List Int), k < 4 → M.length = dA c → 160 < K → ∃ K', K ≤ K' + 160 ∧ spec_l4Lay.l6 N K (k : Nat) c b M = spec_l4Lay.l6 N K' ((k + 1 : Nat) : Int) c b (chainP (kA c) M (hA c + k) (hd b k)) := by
    intro k K M hk hM hK
    have hl := hb.hd_len hk
    refine ⟨K - 1 - 3 * (hd b k).length - 2, by omega, ?_⟩
    have e := spec_lay_l7 N h hk (hd b k).length 0 (K - 1 - 3 * (hd b k).length - 2) (hA c + k) M (by omega) hM (by omega)
    rw [show K - 1 - 3 * (hd b k).length - 2 + 3 * (hd b k).length + 2 = K - 1 by omega, List.drop_zero] at e
    rw [← e]
    obtain ⟨K, rfl⟩ := fuel (show 0 < K by omega)
    rw [spec_l4Lay.l6, ct (by omega), sHead N h.1 hk, show K + 1 - 1 = K by omega]
    rfl
  obtain ⟨K1, g1, e1⟩ := step 0 K M (by omega) hM (by omega)
  obtain ⟨K2, g2, e2⟩ := step 1 K1 (chainP (kA c) M (hA c + 0) (hd b 0)) (by omega) (by simp only [chainP_len]; exact hM) (by omega)
  obtain ⟨K3, g3, e3⟩ := step 2 K2 (chainP (kA c) (chainP (kA c) M (hA c + 0) (hd b 0)) (hA c + 1) (hd b 1)) (by omega) (by simp only [chainP_len]; exact hM) (by omega)
  obtain ⟨K4, g4, e4⟩ := step 3 K3 (chainP (kA c) (chainP (kA c) (chainP (kA c) M (hA c + 0) (hd b 0)) (hA c + 1) (hd b 1)) (hA c + 2) (hd b 2)) (by omega) (by simp only [chainP_len]; exact hM) (by omega)
  have e1' : spec_l4Lay.l6 N K 0 c b M = _ := e1
  rw [e1', e2, e3, e4]
  obtain ⟨K4, rfl⟩ := fuel (show 0 < K4 by omega)
  rw [spec_l4Lay.l6, cf (by omega)]; rfl
theorem spec_lay_l4 (N : Nat) {c : Cfg} {b : Bk} (h : Fit c b) : ∀ d i K (M : List Int), i + d = (8 * c.2.1).toNat → 2 * d + 2010 < K → Mat (dA c) M (owV c b i) → spec_l4Lay.l4 N K (i : Nat) c b M = some ((), layP c b)
  | 0, i, K, M, e, hK, hM => by
    have hnu := fit_nu h
    have hnub : nu b = b.2.2.2.1.length := rfl
    obtain ⟨K, rfl⟩ := fuel (show 0 < K by omega)
    obtain rfl : i = (8 * c.2.1).toNat := by omega
    rw [spec_l4Lay.l4, cf (by omega)]
    have hM2 := hM.congr (g := baseV c b) fun j _ => owV_base h.1 b j
    have := spec_lay_l6 N h M hM.1 K (by omega)
    rw [hM2.eq] at this ⊢
    exact this
  | d + 1, i, K, M, e, hK, hM => by
    obtain ⟨a1, a2, a3, a4, a5, a6, a7, a8, a9⟩ := plat_at h.1
    have hnu := fit_nu h
    have hnub : nu b = b.2.2.2.1.length := rfl
    have hlen := hM.1
    obtain ⟨K, rfl⟩ : ∃ j, K = j + 1 + 1 := ⟨K - 2, by omega⟩
    rw [spec_l4Lay.l4, ct (by omega), sTag N h.1 (by omega)]
    simp only [Ob]
    rw [bnd (by omega) (by omega), bnd (by omega) (by omega), Int.toNat_natCast, Int.toNat_natCast, fold_ow, spec_l4Lay.l5, w64 (n := (i : Int) + 1) (by omega) (by omega), show (i : Int) + 1 = ((i + 1 : Nat) : Int) by omega]
    refine spec_lay_l4 N h d (i + 1) K _ (by omega) (by omega) (hM.set (by omega) _ fun j => ?_)
    unfold owV
    by_cases g : j = tA c + i
    · subst g
      rw [if_pos (by omega), if_pos rfl, show tA c + i - tA c = i by omega]
    · rw [if_neg g]
      by_cases g2 : tA c ≤ j ∧ j < tA c + i
      · rw [if_pos (by omega), if_pos g2]
      · rw [if_neg (by omega), if_neg g2]
theorem spec_lay_l2 (N : Nat) {c : Cfg} {b : Bk} (h : Fit c b) : ∀ d i K (M : List Int), i + d = c.2.1.toNat → 2 * d + 3000 < K → Mat (dA c) M (pgV c b i) → spec_l4Lay.l2 N K (i : Nat) c b M = some ((), layP c b)
  | 0, i, K, M, e, hK, hM => by
    obtain ⟨a1, a2, a3, a4, a5, a6, a7, a8, a9⟩ := plat_at h.1
    obtain ⟨K, rfl⟩ := fuel (show 0 < K by omega)
    obtain rfl : i = c.2.1.toNat := by omega
    rw [spec_l4Lay.l2, cf (by omega)]
    exact spec_lay_l4 N h (8 * c.2.1).toNat 0 K M (by omega) (by omega) (hM.congr fun j _ => by unfold owV; rw [if_neg (by omega)])
  | d + 1, i, K, M, e, hK, hM => by
    obtain ⟨a1, a2, a3, a4, a5, a6, a7, a8, a9⟩ := plat_at h.1
    have h2 := h.2.2.2
    have hnp : np b = b.2.1.length := rfl
    have hlen := hM.1
    obtain ⟨K, rfl⟩ : ∃ j, K = j + 1 + 1 := ⟨K - 2, by omega⟩
    rw [spec_l4Lay.l2, ct (by omega), sPage N h.1 (by omega)]
    simp only [Ob]
    rw [bnd (by omega) (by omega), bnd (by omega) (by omega), Int.toNat_natCast, Int.toNat_natCast, fold_pg, spec_l4Lay.l3, w64 (n := (i : Int) + 1) (by omega) (by omega), show (i : Int) + 1 = ((i + 1 : Nat) : Int) by omega]
    refine spec_lay_l2 N h d (i + 1) K _ (by omega) (by omega) (hM.set (by omega) _ fun j => ?_)
    unfold pgV
    by_cases g : j = pA c + i
    · subst g
      rw [if_pos (by omega), if_pos rfl, show pA c + i - pA c = i by omega]
    · rw [if_neg g]
      by_cases g2 : pA c ≤ j ∧ j < pA c + i
      · rw [if_pos (by omega), if_pos g2]
      · rw [if_neg (by omega), if_neg g2]
theorem spec_lay_l0 (N : Nat) {c : Cfg} {b : Bk} (h : Fit c b) : ∀ d i K (M : List Int), i + d = c.1.toNat → 2 * d + 4000 < K → Mat (dA c) M (regV b i) → spec_l4Lay.l0 N K (i : Nat) c b M = some ((), layP c b)
  | 0, i, K, M, e, hK, hM => by
    obtain ⟨a1, a2, a3, a4, a5, a6, a7, a8, a9⟩ := plat_at h.1
    obtain ⟨K, rfl⟩ := fuel (show 0 < K by omega)
    obtain rfl : i = c.1.toNat := by omega
    rw [spec_l4Lay.l0, cf (by omega)]
    exact spec_lay_l2 N h c.2.1.toNat 0 K M (by omega) (by omega) (hM.congr fun j _ => by unfold pgV; rw [if_neg (by omega)])
  | d + 1, i, K, M, e, hK, hM => by
    obtain ⟨a1, a2, a3, a4, a5, a6, a7, a8, a9⟩ := plat_at h.1
    have hsl := h.2.1.slots
    have h1 := h.2.2.1
    have hlen := hM.1
    have hs := slotB_iff.1 (h.2.1.slot (i := i) (by omega))
    obtain ⟨K, rfl⟩ : ∃ j, K = j + 1 + 1 := ⟨K - 2, by omega⟩
    rw [spec_l4Lay.l0, ct (by omega), sReg N h.1 (by omega)]
    simp only [Ob]
    rw [bnd (by omega) (by omega), bnd (by omega) (by omega), bnd (by omega) (by omega), Int.toNat_natCast, Int.toNat_natCast, fold_in, fold_ep, w64 (n := 4 * ep b i) (by omega) (by omega), w64 (n := inn b i + 4 * ep b i) (by omega) (by omega), spec_l4Lay.l1, w64 (n := (i : Int) + 1) (by omega) (by omega), show (i : Int) + 1 = ((i + 1 : Nat) : Int) by omega]
    refine spec_lay_l0 N h d (i + 1) K _ (by omega) (by omega) (hM.set (by omega) _ fun j => ?_)
    unfold regV
    by_cases g : j = 3 + i
    · subst g
      rw [if_pos (by omega), if_pos rfl, show 3 + i - 3 = i by omega]
    · rw [if_neg g]
      by_cases g2 : 3 ≤ j ∧ j < 3 + i
      · rw [if_pos (by omega), if_pos g2]
      · rw [if_neg (by omega), if_neg g2]
theorem spec_l4Lay_eq (N : Nat) (hN : Fuel N) {c : Cfg} {b : Bk} (h : Fit c b) : spec_l4Lay N c b = some ((), layP c b) := by
  obtain ⟨a1, a2, a3, a4, a5, a6, a7, a8, a9⟩ := plat_at h.1
  have hh : house c = 7 + 2 * c.1 + 17 * c.2.1 := rfl
  unfold spec_l4Lay
  rw [spec_l2House_eq N h.1]
  simp only [Ob]
  rw [ct (by omega), ct (by omega), ct (by omega)]
  have e : (house c).toNat = dA c := rfl
  rw [e]
  exact spec_lay_l0 N h c.1.toNat 0 N _ (by omega) (by unfold Fuel at hN; omega) ((mat_zero _).congr fun j _ => by unfold regV; rw [if_neg (by omega)])
def valW (w : List Int) (j : Nat) : Int := w.getD j 0 % 4294967296
theorem valW_nn (w : List Int) (j : Nat) : 0 ≤ valW w j ∧ valW w j < 4294967296 := by unfold valW; omega
theorem sLoad (N : Nat) (w : List Int) {j : Nat} (hj : j < w.length) : spec_PlatLoad N w (j : Nat) = some (w.getD j 0, ()) := by
  unfold spec_PlatLoad
  rw [cf (by omega), cf (by omega), bnd (by omega) (by omega), Int.toNat_natCast]
theorem sVal (N : Nat) {w : List Int} (hw : Words w) {j : Nat} (hj : j < w.length) : spec_l4Val N w (j : Nat) = some (valW w j, ()) := by
  unfold spec_l4Val
  rw [sLoad N w hj]
  simp only [Ob]
  rw [spec_CellVal_eq N (hw.at j)]; rfl
def Laid (w : List Int) : Prop := Head w ∧ ((w.length : Int) = size (cfg (w.getD 0 0)) ∨ (w.length : Int) = house (cfg (w.getD 0 0)))
theorem spec_l4Whole_eq (N : Nat) {w : List Int} (hw : Words w) : ∃ c, spec_l4Whole N w = some ((c, tf (Laid w)), ()) ∧ (Laid w → c = cfg (w.getD 0 0)) := by
  have hx := hw.at 0
  have hx' := hx
  obtain ⟨x1, x2⟩ := hx'
  unfold spec_l4Whole
  by_cases h1 : w.length = 0
  · have n0 : ((w.length : Int) == 0) = true := by rw [beq_iff_eq]; omega
    have hn : ¬ Laid w := fun h => by have := h.1.1; omega
    rw [n0, cond_true, tf_f hn]; exact ⟨_, rfl, fun h => (hn h).elim⟩
  have n0 : ((w.length : Int) == 0) = false := by rw [beq_eq_false_iff_ne]; omega
  simp (disch := omega) only [n0, cond_false, ct, spec_CellVal_eq N hx, Ob, cfg_text hx, spec_PlatOk_eq]
  by_cases h3 : Plat (cfg (w.getD 0 0))
  rotate_left
  · have hn : ¬ Laid w := fun h => h3 h.1.2.2
    rw [tf_f hn]
    simp only [df h3, Bool.not_false, cond_true]
    exact ⟨_, rfl, fun h => (hn h).elim⟩
  simp only [dt h3, Bool.not_true, cond_false, spec_l2Magic_eq N hx h3, Ob, spec_l2Size_eq N h3, spec_l2House_eq N h3]
  by_cases h2 : w.getD 0 0 / 4294967296 = 201115
  rotate_left
  · have hn : ¬ Laid w := fun h => h2 h.1.2.1
    have e : w.getD 0 0 ≠ 201115 * 4294967296 + w.getD 0 0 % 4294967296 := by omega
    rw [tf_f hn, bne_iff_ne.2 e, cond_true]
    exact ⟨_, rfl, fun h => (hn h).elim⟩
  have e : 201115 * 4294967296 + w.getD 0 0 % 4294967296 = w.getD 0 0 := by omega
  rw [e, bne_self_eq_false, cond_false, cndn, cndn]
  by_cases e4 : (w.length : Int) = size (cfg (w.getD 0 0))
  · have hy : Laid w := ⟨⟨by omega, h2, h3⟩, .inl e4⟩
    rw [if_pos e4, tf_t hy]; exact ⟨_, rfl, fun _ => rfl⟩
  rw [if_neg e4]
  by_cases e5 : (w.length : Int) = house (cfg (w.getD 0 0))
  · have hy : Laid w := ⟨⟨by omega, h2, h3⟩, .inr e5⟩
    rw [if_pos e5, tf_t hy]; exact ⟨_, rfl, fun _ => rfl⟩
  · have hn : ¬ Laid w := fun h => by rcases h.2 with g | g; exact e4 g; exact e5 g
    rw [if_neg e5, tf_f hn]; exact ⟨_, rfl, fun h => (hn h).elim⟩
theorem chainR_len (v : Nat → Int) (k0 : Nat) (U : Int) : ∀ n a, (chainR v k0 U n a).length ≤ n
  | 0, a => Nat.le_refl _
  | n + 1, a => by
    rw [chainR]
    split
    · rw [List.length_cons]; have := chainR_len v k0 U n (v (k0 + (a - 1).toNat)); omega
    · simp
theorem chainR_mem (v : Nat → Int) (k0 : Nat) (U : Int) : ∀ n a, ∀ x ∈ chainR v k0 U n a, 0 ≤ x ∧ x < U
  | 0, a, x, h => by cases h
  | n + 1, a, x, h => by
    rw [chainR] at h
    split at h
    · rcases List.mem_cons.1 h with e | g
      · rw [e]; omega
      · exact chainR_mem v k0 U n _ x g
    · cases h
theorem sList_loop (N : Nat) {c : Cfg} (hc : Plat c) {w : List Int} (hw : Words w) (hl : dA c ≤ w.length) : ∀ d K (a : Int) (l : List Int), l.length + d = (8 * c.2.1).toNat + 1 → d < K → 0 ≤ a →
    spec_l4List.l0 N K w a c l = some ((), l ++ chainR (valW w) (kA c) (8 * c.2.1) d a)
  | 0, K, a, l, e, hK, ha => by
    obtain ⟨a1, a2, a3, a4, a5, a6, a7, a8, a9⟩ := plat_at hc
    obtain ⟨K, rfl⟩ := fuel hK
    rw [spec_l4List.l0, w64 (n := c.2.1 * 8) (by omega) (by omega), chainR, List.append_nil]
    by_cases c1 : a > 0
    · rw [ct c1]
      by_cases c2 : a ≤ c.2.1 * 8
      · rw [ct c2, cf (by omega)]
      · rw [cf c2]
    · rw [cf c1]
  | d + 1, K, a, l, e, hK, ha => by
    obtain ⟨a1, a2, a3, a4, a5, a6, a7, a8, a9⟩ := plat_at hc
    obtain ⟨K, rfl⟩ := fuel hK
    rw [spec_l4List.l0, w64 (n := c.2.1 * 8) (by omega) (by omega), chainR]
    by_cases c1 : a > 0
    rotate_left
    · rw [cf c1, if_neg (by omega), List.append_nil]
    rw [ct c1]
    by_cases c2 : a ≤ c.2.1 * 8
    rotate_left
    · rw [cf c2, if_neg (by omega), List.append_nil]
    rw [ct c2, ct (by omega), ct (by simp; omega), if_pos (by omega), w64 (n := a - 1) (by omega) (by omega)]
    obtain ⟨u, hu⟩ : ∃ u : Nat, a - 1 = u := ⟨(a - 1).toNat, by omega⟩
    rw [hu, sLink N hc (by omega)]
    simp only [Ob]
    rw [sVal N hw (by omega)]
    simp only [Ob]
    rw [sList_loop N hc hw hl d K _ _ (by rw [List.length_append]; simp; omega) (by omega) (valW_nn w _).1, Int.toNat_natCast, List.append_assoc]; rfl
theorem sList (N : Nat) (hN : Fuel N) {c : Cfg} (hc : Plat c) {w : List Int} (hw : Words w) (hl : dA c ≤ w.length) {k : Nat} (hk : k < 4) : spec_l4List N w c (k : Nat) = some ((), chainR (valW w) (kA c) (8 * c.2.1) ((8 * c.2.1).toNat + 1) (valW w (hA c + k))) := by
  obtain ⟨a1, a2, a3, a4, a5, a6, a7, a8, a9⟩ := plat_at hc
  unfold spec_l4List
  rw [sHead N hc hk]
  simp only [Ob]
  rw [sVal N hw (by omega)]
  simp only [Ob]
  have := sList_loop N hc hw hl ((8 * c.2.1).toNat + 1) N (valW w (hA c + k)) [] (by simp) (by unfold Fuel at hN; omega) (valW_nn w _).1
  rw [List.nil_append] at this
  exact this
theorem sRead_l3 (N : Nat) (hN : Fuel N) {c : Cfg} (hc : Plat c) {w : List Int} (hw : Words w) (hl : dA c ≤ w.length) (z : BkU) (x : Int) (P O I E : List Int) (K : Nat) :
    spec_l4Read.l3 N (K + 1 + 1 + 1 + 1 + 1) w 0 c z (x, (), ((), (), (), ()), (), (), ()) P [] [] [] [] O I E = outB (x, P, ((readB c (valW w)).2.2.1), O, I, E) := by
  have r0 : spec_l4List N w c 0 = some ((), (readB c (valW w)).2.2.1.1) := sList N hN hc hw hl (k := 0) (by omega)
  have r1 : spec_l4List N w c (0 + 1) = some ((), (readB c (valW w)).2.2.1.2.1) := sList N hN hc hw hl (k := 1) (by omega)
  have r2 : spec_l4List N w c (0 + 1 + 1) = some ((), (readB c (valW w)).2.2.1.2.2.1) := sList N hN hc hw hl (k := 2) (by omega)
  have r3 : spec_l4List N w c (0 + 1 + 1 + 1) = some ((), (readB c (valW w)).2.2.1.2.2.2) := sList N hN hc hw hl (k := 3) (by omega)
  have wr : ∀ x : Int, 0 ≤ x → x ≤ 4 → IntKind.i64.wrap (x + 1) = x + 1 := fun x h1 h2 => w64 (by omega) (by omega)
  rw [spec_l4Read.l3, r0]
  simp (disch := omega) only [ct, cf, wr, Ob, decide_true, cond_true]
  rw [spec_l4Read.l3, r1]
  simp (disch := omega) only [ct, cf, wr, Ob, decide_true, cond_true]
  rw [spec_l4Read.l3, r2]
  simp (disch := omega) only [ct, cf, wr, Ob, decide_true, cond_true]
  rw [spec_l4Read.l3, r3]
  simp (disch := omega) only [ct, cf, wr, Ob, decide_true, cond_true]
  rw [spec_l4Read.l3]
  simp (disch := omega) only [ct, cf, wr, Ob, decide_true, cond_true]
theorem sRead_l2 (N : Nat) (hN : Fuel N) {c : Cfg} (hc : Plat c) {w : List Int} (hw : Words w) (hl : dA c ≤ w.length) (z : BkU) (x : Int) (P I E : List Int) : ∀ d i K (O : List Int), i + d = (8 * c.2.1).toNat → d + 10 < K → O.length = (8 * c.2.1).toNat → (∀ j, j < i → O.getD j 0 = valW w (tA c + j)) →
    spec_l4Read.l2 N K w (i : Nat) c z (x, (), ((), (), (), ()), (), (), ()) P O I E = outB (x, P, ((readB c (valW w)).2.2.1), (readB c (valW w)).2.2.2.1, I, E)
  | 0, i, K, O, e, hK, hO, hv => by
    obtain ⟨K, rfl⟩ : ∃ j, K = j + 1 + 1 + 1 + 1 + 1 + 1 := ⟨K - 6, by omega⟩
    have : O = (readB c (valW w)).2.2.2.1 := (map_eq (f := fun i => valW w (tA c + i)) hO fun j hj => (hv j (by omega)).symm).symm
    rw [spec_l4Read.l2, cf (by omega), ← this]
    exact sRead_l3 N hN hc hw hl z x P O I E K
  | d + 1, i, K, O, e, hK, hO, hv => by
    obtain ⟨a1, a2, a3, a4, a5, a6, a7, a8, a9⟩ := plat_at hc
    obtain ⟨K, rfl⟩ := fuel (show 0 < K by omega)
    rw [spec_l4Read.l2, ct (by omega), sTag N hc (by omega)]
    simp only [Ob]
    rw [sVal N hw (by omega)]
    simp only [Ob]
    rw [bnd (by omega) (by omega), Int.toNat_natCast, w64 (n := (i : Int) + 1) (by omega) (by omega), show (i : Int) + 1 = ((i + 1 : Nat) : Int) by omega]
    refine sRead_l2 N hN hc hw hl z x P I E d (i + 1) K _ (by omega) (by omega) (by rw [List.length_set]; exact hO) (fun j hj => ?_)
    rw [getD_set _ _ _ _ (by omega)]
    by_cases g : j = i
    · rw [if_pos g, g]
    · rw [if_neg g]; exact hv j (by omega)
theorem sRead_l1 (N : Nat) (hN : Fuel N) {c : Cfg} (hc : Plat c) {w : List Int} (hw : Words w) (hl : dA c ≤ w.length) (z : BkU) (x : Int) (O I E : List Int) (hO : O.length = (8 * c.2.1).toNat) : ∀ d i K (P : List Int), i + d = c.2.1.toNat → d + 100 < K → P.length = c.2.1.toNat → (∀ j, j < i → P.getD j 0 = valW w (pA c + j)) →
    spec_l4Read.l1 N K w (i : Nat) c z (x, (), ((), (), (), ()), (), (), ()) P O I E = outB (x, (readB c (valW w)).2.1, ((readB c (valW w)).2.2.1), (readB c (valW w)).2.2.2.1, I, E)
  | 0, i, K, P, e, hK, hP, hv => by
    obtain ⟨a1, a2, a3, a4, a5, a6, a7, a8, a9⟩ := plat_at hc
    obtain ⟨K, rfl⟩ := fuel (show 0 < K by omega)
    have : P = (readB c (valW w)).2.1 := (map_eq (f := fun i => valW w (pA c + i)) hP fun j hj => (hv j (by omega)).symm).symm
    rw [spec_l4Read.l1, cf (by omega), ← this]
    exact sRead_l2 N hN hc hw hl z x P I E (8 * c.2.1).toNat 0 K O (by omega) (by omega) hO (fun j hj => by omega)
  | d + 1, i, K, P, e, hK, hP, hv => by
    obtain ⟨a1, a2, a3, a4, a5, a6, a7, a8, a9⟩ := plat_at hc
    obtain ⟨K, rfl⟩ := fuel (show 0 < K by omega)
    rw [spec_l4Read.l1, ct (by omega), sPage N hc (by omega)]
    simp only [Ob]
    rw [sVal N hw (by omega)]
    simp only [Ob]
    rw [bnd (by omega) (by omega), Int.toNat_natCast, w64 (n := (i : Int) + 1) (by omega) (by omega), show (i : Int) + 1 = ((i + 1 : Nat) : Int) by omega]
    refine sRead_l1 N hN hc hw hl z x O I E hO d (i + 1) K _ (by omega) (by omega) (by rw [List.length_set]; exact hP) (fun j hj => ?_)
    rw [getD_set _ _ _ _ (by omega)]
    by_cases g : j = i
    · rw [if_pos g, g]
    · rw [if_neg g]; exact hv j (by omega)
theorem sRead_l0 (N : Nat) (hN : Fuel N) {c : Cfg} (hc : Plat c) {w : List Int} (hw : Words w) (hl : dA c ≤ w.length) (z : BkU) (x : Int) (P O : List Int) (hP : P.length = c.2.1.toNat) (hO : O.length = (8 * c.2.1).toNat) : ∀ d i K (I E : List Int), i + d = c.1.toNat → d + 200 < K → I.length = c.1.toNat → E.length = c.1.toNat → (∀ j, j < i → I.getD j 0 = valW w (3 + j) % 4 ∧ E.getD j 0 = valW w (3 + j) / 4) →
    spec_l4Read.l0 N K w (i : Nat) c z (x, (), ((), (), (), ()), (), (), ()) P O I E = outB (x, (readB c (valW w)).2)
  | 0, i, K, I, E, e, hK, hI, hE, hv => by
    obtain ⟨a1, a2, a3, a4, a5, a6, a7, a8, a9⟩ := plat_at hc
    obtain ⟨K, rfl⟩ := fuel (show 0 < K by omega)
    have e1 : I = (readB c (valW w)).2.2.2.2.1 := (map_eq (f := fun i => valW w (3 + i) % 4) hI fun j hj => (hv j (by omega)).1.symm).symm
    have e2 : E = (readB c (valW w)).2.2.2.2.2 := (map_eq (f := fun i => valW w (3 + i) / 4) hE fun j hj => (hv j (by omega)).2.symm).symm
    rw [spec_l4Read.l0, cf (by omega)]
    have := sRead_l1 N hN hc hw hl z x O I E hO c.2.1.toNat 0 K P (by omega) (by omega) hP (fun j hj => by omega)
    rw [e1, e2] at this ⊢
    exact this
  | d + 1, i, K, I, E, e, hK, hI, hE, hv => by
    obtain ⟨a1, a2, a3, a4, a5, a6, a7, a8, a9⟩ := plat_at hc
    obtain ⟨K, rfl⟩ := fuel (show 0 < K by omega)
    rw [spec_l4Read.l0, ct (by omega), sReg N hc (by omega)]
    simp only [Ob]
    rw [sLoad N w (by omega)]
    simp only [Ob]
    rw [spec_CellRegOf_eq N (hw.at _)]
    simp only [Ob]
    rw [bnd (by omega) (by omega), bnd (by omega) (by omega), Int.toNat_natCast, w64 (n := (i : Int) + 1) (by omega) (by omega), show (i : Int) + 1 = ((i + 1 : Nat) : Int) by omega]
    refine sRead_l0 N hN hc hw hl z x P O hP hO d (i + 1) K _ _ (by omega) (by omega) (by rw [List.length_set]; exact hI) (by rw [List.length_set]; exact hE) (fun j hj => ?_)
    rw [getD_set _ _ _ _ (by omega), getD_set _ _ _ _ (by omega)]
    by_cases g : j = i
    · rw [if_pos g, if_pos g, g]; exact ⟨rfl, rfl⟩
    · rw [if_neg g, if_neg g]; exact hv j (by omega)
theorem spec_l4Read_eq (N : Nat) (hN : Fuel N) {c : Cfg} (hc : Plat c) {w : List Int} (hw : Words w) (hl : dA c ≤ w.length) : spec_l4Read N w c = outB (readB c (valW w)) := by
  obtain ⟨a1, a2, a3, a4, a5, a6, a7, a8, a9⟩ := plat_at hc
  unfold spec_l4Read
  rw [spec_BookOpen_eq N hc]
  simp only [Ob]
  unfold openP
  exact sRead_l0 N hN hc hw hl _ c.1 _ _ (by simp) (by simp; omega) c.1.toNat 0 N _ _ (by omega) (by unfold Fuel at hN; omega) (by simp) (by simp) (fun j hj => by omega)
theorem readB_ok {c : Cfg} (hc : Plat c) (w : List Int) : Bi (readB c (valW w)) ∧ Bshort (readB c (valW w)) := by
  obtain ⟨a1, a2, a3, a4, a5, a6, a7, a8, a9⟩ := plat_at hc
  have hm : ∀ (f : Nat → Int) n, (∀ i, 0 ≤ f i ∧ f i < 4294967296) → Ints ((List.range n).map f) := fun f n h x hx => by
    obtain ⟨i, _, e⟩ := List.mem_map.1 hx
    have := h i
    rw [e] at this
    exact ⟨by omega, by omega⟩
  have hs : ∀ (f : Nat → Int) n, n ≤ 100 → Short ((List.range n).map f) := fun f n h => by unfold Short; simp; omega
  have hci : ∀ a, Ints (chainR (valW w) (kA c) (8 * c.2.1) ((8 * c.2.1).toNat + 1) a) := fun a x hx => by have := chainR_mem _ _ _ _ _ x hx; exact ⟨by omega, by omega⟩
  have hcs : ∀ a, Short (chainR (valW w) (kA c) (8 * c.2.1) ((8 * c.2.1).toNat + 1) a) := fun a => by have := chainR_len (valW w) (kA c) (8 * c.2.1) ((8 * c.2.1).toNat + 1) a; unfold Short; omega
  refine ⟨⟨⟨by show -9223372036854775808 ≤ c.1; omega, by show c.1 ≤ 9223372036854775807; omega⟩, hm _ _ fun i => valW_nn w _, fun k => ?_, hm _ _ fun i => valW_nn w _, hm _ _ fun i => by have := valW_nn w (3 + i); omega, hm _ _ fun i => by have := valW_nn w (3 + i); omega⟩, ⟨hs _ _ (by omega), fun k => ?_, hs _ _ (by omega), hs _ _ (by omega), hs _ _ (by omega)⟩⟩
  · match k with
    | 0 => exact hci _
    | 1 => exact hci _
    | 2 => exact hci _
    | _ + 3 => exact hci _
  · match k with
    | 0 => exact hcs _
    | 1 => exact hcs _
    | 2 => exact hcs _
    | _ + 3 => exact hcs _
def agreeB (c : Cfg) (v : Nat → Int) (b : Bk) (j : Nat) : Bool := decide (3 + c.1.toNat ≤ j ∧ j < hA c) || decide (layV c b j = v j)
theorem agree_iff {c : Cfg} (hc : Plat c) (v : Nat → Int) (b : Bk) : Agree c v b ↔ allB (agreeB c v b) (dA c - 3) 3 = true := by
  obtain ⟨a1, a2, a3, a4, a5, a6, a7, a8, a9⟩ := plat_at hc
  rw [allB_iff]
  unfold Agree agreeB
  constructor
  · intro h j h1 h2
    rw [Bool.or_eq_true, decide_eq_true_iff, decide_eq_true_iff]
    by_cases g : 3 + c.1.toNat ≤ j ∧ j < hA c
    · exact .inl g
    · exact .inr (h j (by omega) (by omega))
  · intro h j h1 h2
    have := h j (by omega) (by omega)
    rw [Bool.or_eq_true, decide_eq_true_iff, decide_eq_true_iff] at this
    rcases this with g | g
    · omega
    · exact g
theorem spec_Cens_loop (N : Nat) {c : Cfg} {w : List Int} (hw : Words w) (hl : dA c ≤ w.length) {b : Bk} (h : Fit c b) (z : BkU) : ∀ d i K, i + d = dA c → d < K →
    spec_CensBook.l0 N K w (i : Nat) z c (b.1, (), ((), (), (), ()), (), (), ()) (layP c b) b.2.1 b.2.2.1.1 b.2.2.1.2.1 b.2.2.1.2.2.1 b.2.2.1.2.2.2 b.2.2.2.1 b.2.2.2.2.1 b.2.2.2.2.2 = cond (allB (agreeB c (valW w) b) d i) (outT (b, true)) (outT (bk0, false))
  | 0, i, K, e, hK => by
    obtain ⟨K, rfl⟩ := fuel hK
    have hlp := layP_len c b
    rw [spec_CensBook.l0, cf (by omega)]; rfl
  | d + 1, i, K, e, hK => by
    obtain ⟨K, rfl⟩ := fuel hK
    obtain ⟨a1, a2, a3, a4, a5, a6, a7, a8, a9⟩ := plat_at h.1
    have hlp := layP_len c b
    have hlv := layP_getD h i (by omega)
    have ih := spec_Cens_loop N hw hl h z d (i + 1) K (by omega) (by omega)
    have w1 : IntKind.i64.wrap ((i : Int) + 1) = ((i + 1 : Nat) : Int) := wi (by omega)
    have cmp : ∀ X : Option ((BkU × Bool) × L8), (bif (bif decide (0 ≤ ((i : Nat) : Int)) then decide (((i : Nat) : Int) < ((layP c b).length : Int)) else false) then (bif (bif decide (0 ≤ ((i : Nat) : Int)) then decide (((i : Nat) : Int) < (w.length : Int)) else false) then (spec_CellVal N (w.getD ((i : Nat) : Int).toNat 0)).bind fun u8 => (bif ((layP c b).getD ((i : Nat) : Int).toNat 0 != u8.1) then outT (bk0, false) else X) else none) else none) = if layV c b i = valW w i then X else outT (bk0, false) := fun X => by
      rw [bnd (by omega) (by omega), bnd (by omega) (by omega), Int.toNat_natCast, spec_CellVal_eq N (hw.at i), hlv]
      simp only [Ob, cndn]
      rfl
    rw [spec_CensBook.l0, ct (by omega), spec_PlatBeat_eq N h.1, if_pos (by omega)]
    simp only [Ob]
    rw [w1, w64 (n := 3 + c.1 + 0 + c.1) (by omega) (by omega), allB]
    have done : ∀ (X : Option ((BkU × Bool) × L8)), ¬ (3 + c.1.toNat ≤ i ∧ i < hA c) → X = cond (allB (agreeB c (valW w) b) d (i + 1)) (outT (b, true)) (outT (bk0, false)) → (if layV c b i = valW w i then X else outT (bk0, false)) = cond (agreeB c (valW w) b i && allB (agreeB c (valW w) b) d (i + 1)) (outT (b, true)) (outT (bk0, false)) := fun X g hX => by
      unfold agreeB
      rw [df g, Bool.false_or]
      by_cases g2 : layV c b i = valW w i
      · rw [if_pos g2, dt g2, Bool.true_and]; exact hX
      · rw [if_neg g2, df g2]; rfl
    by_cases c1 : (i : Int) ≥ 3 + c.1 + 0
    · rw [ct c1]
      by_cases c2 : (i : Int) < 3 + c.1 + 0 + c.1
      · rw [dt c2, Bool.not_true, cond_false]
        unfold agreeB
        rw [dt (show 3 + c.1.toNat ≤ i ∧ i < hA c by omega), Bool.true_or, Bool.true_and]
        exact ih
      · rw [df c2, Bool.not_false, cond_true]
        exact (cmp _).trans (done _ (by omega) ih)
    · rw [cf c1]
      exact (cmp _).trans (done _ (by omega) ih)
noncomputable def censBook (w : List Int) : Bk × Bool := @ite _ (Laid w) (Classical.propDecidable _) (censP (cfg (w.getD 0 0)) (valW w)) (bk0, false)
theorem laid_len {w : List Int} (h : Laid w) : dA (cfg (w.getD 0 0)) ≤ w.length := by
  have hc := h.1.2.2
  obtain ⟨a1, a2, a3, a4, a5, a6, a7, a8, a9⟩ := plat_at hc
  rcases h.2 with g | g
  · unfold size at g; omega
  · unfold house at g; omega
theorem spec_CensBook_eq (N : Nat) (hN : Fuel N) {w : List Int} (hw : Words w) : spec_CensBook N w = outT (censBook w) := by
  unfold spec_CensBook censBook
  obtain ⟨c, e, hcfg⟩ := spec_l4Whole_eq N hw
  rw [e]
  simp only [Ob]
  by_cases h : Laid w
  rotate_left
  · rw [tf_f h, if_neg h]; rfl
  have hc := h.1.2.2
  have hl := laid_len h
  rw [tf_t h, if_pos h, hcfg h, Bool.not_true, cond_false]
  generalize cfg (w.getD 0 0) = c at hc hl
  obtain ⟨a1, a2, a3, a4, a5, a6, a7, a8, a9⟩ := plat_at hc
  obtain ⟨r1, r2⟩ := readB_ok hc w
  rw [spec_l4Read_eq N hN hc hw hl]
  simp only [Ob, spec_BookOk_eq N hN _ r1 r2]
  unfold censP
  by_cases hb : BookP (readB c (valW w))
  rotate_left
  · rw [bookOk, tf_f hb, if_neg (fun g => hb g.1)]; rfl
  have hF := readB_fit hc hb
  rw [bookOk, tf_t hb, Bool.not_true, cond_false, spec_l4Lay_eq N hN hF, show (0 : Int) = ((0 : Nat) : Int) from rfl, sReg N hc (by omega)]
  simp only [Ob]
  have := spec_Cens_loop N hw hl hF (0, (), ((), (), (), ()), (), (), ()) (dA c - 3) 3 N (by omega) (by unfold Fuel at hN; omega)
  refine this.trans ?_
  have hag := agree_iff hc (valW w) (readB c (valW w))
  by_cases g : Agree c (valW w) (readB c (valW w))
  · rw [if_pos ⟨hb, g⟩, hag.1 g]; rfl
  · rw [if_neg (fun q => g q.2)]
    cases hq : allB (agreeB c (valW w) (readB c (valW w))) (dA c - 3) 3
    · rfl
    · exact (g (hag.2 hq)).elim
noncomputable abbrev bk8 (N K : Nat) (k a k2 : Int) (c : Cfg) (z : Int) (v : List Int) (x : Int) (P : List Int) (h : H4) (O I E : List Int) := impl_book.l8 N K k a k2 c (z, (), ((), (), (), ()), (), (), ()) v (x, (), ((), (), (), ()), (), (), ()) P h.1 h.2.1 h.2.2.1 h.2.2.2 O I E
noncomputable abbrev bk12 (N K : Nat) (k a k2 : Int) (c : Cfg) (z : Int) (v : List Int) (x : Int) (P : List Int) (h : H4) (O I E : List Int) := impl_book.l12 N K k a k2 c (z, (), ((), (), (), ()), (), (), ()) v (x, (), ((), (), (), ()), (), (), ()) P h.1 h.2.1 h.2.2.1 h.2.2.2 O I E
noncomputable abbrev bk3 (N K : Nat) (k : Int) (c : Cfg) (z : Int) (v : List Int) (x : Int) (P : List Int) (h : H4) (O I E : List Int) := impl_book.l3 N K k c (z, (), ((), (), (), ()), (), (), ()) v (x, (), ((), (), (), ()), (), (), ()) P h.1 h.2.1 h.2.2.1 h.2.2.2 O I E
theorem impl_units_eq (N : Nat) {c : Cfg} (h : Plat c) : impl_PlatCfg_units N c = some (8 * c.2.1, ()) := by
  unfold Plat at h
  unfold impl_PlatCfg_units
  rw [w64 (by omega) (by omega)]
theorem heads_hset (h : H4) {k : Nat} (hk : k < 4) (l : List Int) : heads (hset h k l) k = l := hd_hset _ _ _ _ hk _
theorem bk8_step (N : Nat) {c : Cfg} (hc : Plat c) (z : Int) (v : List Int) (x : Int) (P O I E : List Int) {k : Nat} (hk : k < 4) (K : Nat) (a : Int) (h : H4) (h0 : 0 < a) (h1 : a ≤ 8 * c.2.1) (hl : ((heads h k).length : Int) < 8 * c.2.1) :
    bk8 N (K + 1) k a k c z v x P h O I E = bk12 N K k a k c z v x P (hset h k (heads h k ++ [a - 1])) O I E := by
  obtain ⟨a1, a2, a3, a4, a5, a6, a7, a8, a9⟩ := plat_at hc
  have w := w64 (n := a - 1) (by omega) (by omega)
  have hs : ∀ l : List Int, l.length + [a - 1].length = l.length + 1 := fun l => rfl
  unfold bk8 bk12
  rw [impl_book.l8, cndn, if_neg (by omega), impl_units_eq N hc]
  simp only [Ob, cndb]
  rw [cf (by omega), w]
  refine hd_cases hk (fun g => ?_) (fun g => ?_) (fun g => ?_) (fun g => ?_) <;> subst g
  · have q : heads h 0 = h.1 := rfl
    rw [q] at hl ⊢
    rw [ct (by omega), if_neg (by omega), ct (by omega), ct (by rw [hs]; omega), ct (by omega)]; rfl
  · have q : heads h 1 = h.2.1 := rfl
    rw [q] at hl ⊢
    rw [cf (by omega), ct (by omega), if_neg (by omega), cf (by omega), ct (by omega), ct (by rw [hs]; omega), cf (by omega), ct (by omega)]; rfl
  · have q : heads h 2 = h.2.2.1 := rfl
    rw [q] at hl ⊢
    rw [cf (by omega), cf (by omega), ct (by omega), if_neg (by omega), cf (by omega), cf (by omega), ct (by omega), ct (by rw [hs]; omega), cf (by omega), cf (by omega), ct (by omega)]; rfl
  · have q : heads h 3 = h.2.2.2 := rfl
    rw [q] at hl ⊢
    rw [cf (by omega), cf (by omega), cf (by omega), ct (by omega), if_neg (by omega), cf (by omega), cf (by omega), cf (by omega), ct (by omega), ct (by rw [hs]; omega), cf (by omega), cf (by omega), cf (by omega), ct (by omega)]; rfl
theorem bk8_fail (N : Nat) {c : Cfg} (hc : Plat c) (z : Int) (v : List Int) (x : Int) (P O I E : List Int) {k : Nat} (hk : k < 4) (K : Nat) (a : Int) (h : H4) (h0 : 0 < a) (h1 : a > 8 * c.2.1 ∨ ((heads h k).length : Int) = 8 * c.2.1) :
    bk8 N (K + 1 + 1) k a k c z v x P h O I E = outT (bk0, false) := by
  obtain ⟨a1, a2, a3, a4, a5, a6, a7, a8, a9⟩ := plat_at hc
  unfold bk8
  rw [impl_book.l8, cndn, if_neg (by omega), impl_units_eq N hc]
  simp only [Ob, cndb]
  by_cases c1 : a > 8 * c.2.1
  · rw [ct c1, impl_book.l11]; rfl
  rw [cf c1]
  have hl : ((heads h k).length : Int) = 8 * c.2.1 := by omega
  refine hd_cases hk (fun g => ?_) (fun g => ?_) (fun g => ?_) (fun g => ?_) <;> subst g
  · have q : heads h 0 = h.1 := rfl
    rw [q] at hl
    rw [ct (by omega), if_pos hl, impl_book.l11]; rfl
  · have q : heads h 1 = h.2.1 := rfl
    rw [q] at hl
    rw [cf (by omega), ct (by omega), if_pos hl, impl_book.l11]; rfl
  · have q : heads h 2 = h.2.2.1 := rfl
    rw [q] at hl
    rw [cf (by omega), cf (by omega), ct (by omega), if_pos hl, impl_book.l11]; rfl
  · have q : heads h 3 = h.2.2.2 := rfl
    rw [q] at hl
    rw [cf (by omega), cf (by omega), cf (by omega), ct (by omega), if_pos hl, impl_book.l11]; rfl
abbrev vAt (v : List Int) (j : Nat) : Int := v.getD j 0
theorem bk8_loop (N : Nat) {c : Cfg} (hc : Plat c) (z : Int) (v : List Int) (hv : v.length = dA c) (hnn : ∀ j, 0 ≤ vAt v j ∧ vAt v j < 4294967296) (x : Int) (P O I E : List Int) {k : Nat} (hk : k < 4) : ∀ m K (a : Int) (h : H4), (heads h k).length + m = (8 * c.2.1).toNat → 2 * m + 10 < K → 0 ≤ a → a < 4294967296 →
    ∃ K', K ≤ K' + 2 * m + 2 ∧ bk8 N K k a k c z v x P h O I E = cond (chainB (vAt v) (kA c) (8 * c.2.1) m a) (bk3 N K' ((k + 1 : Nat) : Int) c z v x P (hset h k (heads h k ++ chainR (vAt v) (kA c) (8 * c.2.1) (m + 1) a)) O I E) (outT (bk0, false))
  | m, K, a, h, e, hK, ha, ha2 => by
    obtain ⟨a1, a2, a3, a4, a5, a6, a7, a8, a9⟩ := plat_at hc
    have hset_id : hset h k (heads h k ++ []) = h := by
      rw [List.append_nil]
      refine hd_cases hk (fun g => ?_) (fun g => ?_) (fun g => ?_) (fun g => ?_) <;> subst g <;> rfl
    by_cases c0 : a = 0
    · refine ⟨K - 2, by omega, ?_⟩
      obtain ⟨K, rfl⟩ : ∃ j, K = j + 1 + 1 := ⟨K - 2, by omega⟩
      unfold chainB
      rw [if_pos c0, chainR, if_neg (by omega), hset_id, cond_true, show K + 1 + 1 - 2 = K by omega]
      unfold bk8 bk3
      rw [impl_book.l8, cndn, if_pos c0, impl_book.l13, w64 (n := (k : Int) + 1) (by omega) (by omega), show (k : Int) + 1 = ((k + 1 : Nat) : Int) by omega]
    by_cases c1 : a > 8 * c.2.1
    · refine ⟨K, by omega, ?_⟩
      obtain ⟨K, rfl⟩ : ∃ j, K = j + 1 + 1 := ⟨K - 2, by omega⟩
      unfold chainB
      rw [if_neg c0, if_pos c1, cond_false]
      exact bk8_fail N hc z v x P O I E hk K a h (by omega) (.inl c1)
    match m, e, hK with
    | 0, e, hK =>
      refine ⟨K, by omega, ?_⟩
      obtain ⟨K, rfl⟩ : ∃ j, K = j + 1 + 1 := ⟨K - 2, by omega⟩
      unfold chainB
      rw [if_neg c0, if_neg c1]
      show _ = cond false _ _
      rw [cond_false]
      exact bk8_fail N hc z v x P O I E hk K a h (by omega) (.inr (by omega))
    | m + 1, e, hK =>
      obtain ⟨K, rfl⟩ : ∃ j, K = j + 1 + 1 := ⟨K - 2, by omega⟩
      have hstep := bk8_step N hc z v x P O I E hk (K + 1) a h (by omega) (by omega) (by omega)
      have hh := heads_hset h hk (heads h k ++ [a - 1])
      obtain ⟨K', g1, g2⟩ := bk8_loop N hc z v hv hnn x P O I E hk m K (vAt v (kA c + (a - 1).toNat)) (hset h k (heads h k ++ [a - 1])) (by rw [hh, List.length_append]; simp; omega) (by omega) (hnn _).1 (hnn _).2
      refine ⟨K', by omega, ?_⟩
      rw [hstep]
      have h12 : bk12 N (K + 1) k a k c z v x P (hset h k (heads h k ++ [a - 1])) O I E = bk8 N K k (vAt v (kA c + (a - 1).toNat)) k c z v x P (hset h k (heads h k ++ [a - 1])) O I E := by
        unfold bk12
        rw [impl_book.l12, impl_linkAt_eq N hc]
        simp only [Ob]
        rw [w64 (n := 7 + 2 * c.1 + 9 * c.2.1 + a) (by omega) (by omega), w64 (n := 7 + 2 * c.1 + 9 * c.2.1 + a - 1) (by omega) (by omega), bnd (by omega) (by omega), show (7 + 2 * c.1 + 9 * c.2.1 + a - 1).toNat = kA c + (a - 1).toNat by omega]
      rw [h12, g2, hh, hset_hset h hk]
      have e1 : chainB (vAt v) (kA c) (8 * c.2.1) (m + 1) a = chainB (vAt v) (kA c) (8 * c.2.1) m (vAt v (kA c + (a - 1).toNat)) := by
        rw [chainB, if_neg c0, if_neg c1]
      have e2 : chainR (vAt v) (kA c) (8 * c.2.1) (m + 1 + 1) a = (a - 1) :: chainR (vAt v) (kA c) (8 * c.2.1) (m + 1) (vAt v (kA c + (a - 1).toNat)) := by
        rw [chainR, if_pos (by omega)]
      rw [e1, e2, List.append_assoc]; rfl
theorem bk3_step (N : Nat) {c : Cfg} (hc : Plat c) (z : Int) (v : List Int) (hv : v.length = dA c) (hnn : ∀ j, 0 ≤ vAt v j ∧ vAt v j < 4294967296) (x : Int) (P O I E : List Int) {k : Nat} (hk : k < 4) (K : Nat) (h : H4) (he : heads h k = []) (hK : 200 < K) :
    ∃ K', K ≤ K' + 150 ∧ bk3 N K k c z v x P h O I E = cond (chainB (vAt v) (kA c) (8 * c.2.1) (8 * c.2.1).toNat (vAt v (hA c + k))) (bk3 N K' ((k + 1 : Nat) : Int) c z v x P (hset h k (chainR (vAt v) (kA c) (8 * c.2.1) ((8 * c.2.1).toNat + 1) (vAt v (hA c + k)))) O I E) (outT (bk0, false)) := by
  obtain ⟨a1, a2, a3, a4, a5, a6, a7, a8, a9⟩ := plat_at hc
  obtain ⟨K, rfl⟩ : ∃ j, K = j + 1 + 1 := ⟨K - 2, by omega⟩
  have h0 : (heads h k).length = 0 := by rw [he]; rfl
  obtain ⟨K', g1, g2⟩ := bk8_loop N hc z v hv hnn x P O I E hk (8 * c.2.1).toNat K (vAt v (hA c + k)) h (by omega) (by omega) (hnn _).1 (hnn _).2
  refine ⟨K', by omega, ?_⟩
  rw [he, List.nil_append] at g2
  unfold bk3
  rw [impl_book.l3, ct (by omega), impl_book.l5, impl_headAt_eq N hc]
  simp only [Ob]
  rw [w64 (n := 3 + 2 * c.1 + (k : Int)) (by omega) (by omega), bnd (by omega) (by omega), show (3 + 2 * c.1 + (k : Int)).toNat = hA c + k by omega]
  exact g2
theorem impl_isLaid_eq (N : Nat) {c : Cfg} (hc : Plat c) (j : Nat) : impl_PlatCfg_isLaid N c (j : Nat) = some (decide (3 ≤ j ∧ j < 3 + c.1.toNat ∨ hA c ≤ j ∧ j < dA c), ()) := by
  obtain ⟨a1, a2, a3, a4, a5, a6, a7, a8, a9⟩ := plat_at hc
  have hh : house c = 7 + 2 * c.1 + 17 * c.2.1 := rfl
  unfold impl_PlatCfg_isLaid
  rw [impl_regAt_eq, impl_beatAt_eq N hc, impl_headAt_eq N hc, impl_deskAt_eq N hc]
  simp only [Ob]
  rw [w64 (n := 3 + c.1 - 1) (by omega) (by omega), impl_within_eq, w64 (n := house c - 1) (by omega) (by omega), impl_within_eq]
  simp only [Ob]
  by_cases g : 3 ≤ (j : Int) ∧ (j : Int) ≤ 3 + c.1 - 1
  · rw [dt g, cond_true, dt (by omega)]
  · rw [df g, cond_false]
    congr 2
    exact decide_eq_decide.2 (by omega)
theorem impl_cmp_loop (N : Nat) {c : Cfg} {b : Bk} (h : Fit c b) (z : Int) (v : List Int) (hv : v.length = dA c) : ∀ d i K, i + d = dA c → 3 * d + 3 < K →
    impl_book.l7 N K (dA c : Int) (i : Nat) c (z, (), ((), (), (), ()), (), (), ()) v (b.1, (), ((), (), (), ()), (), (), ()) (layP c b) b.2.1 b.2.2.1.1 b.2.2.1.2.1 b.2.2.1.2.2.1 b.2.2.1.2.2.2 b.2.2.2.1 b.2.2.2.2.1 b.2.2.2.2.2 =
      cond (allB (fun j => decide (3 ≤ j ∧ j < 3 + c.1.toNat ∨ hA c ≤ j → layV c b j = vAt v j)) d i) (outT (b, true)) (outT (bk0, false))
  | 0, i, K, e, hK => by
    obtain ⟨K, rfl⟩ : ∃ j, K = j + 1 + 1 := ⟨K - 2, by omega⟩
    rw [impl_book.l7, cf (by omega), impl_book.l10]; rfl
  | d + 1, i, K, e, hK => by
    obtain ⟨K, rfl⟩ : ∃ j, K = j + 1 + 1 + 1 := ⟨K - 3, by omega⟩
    obtain ⟨a1, a2, a3, a4, a5, a6, a7, a8, a9⟩ := plat_at h.1
    have hlp := layP_len c b
    have hlv := layP_getD h i (by omega)
    have ih := impl_cmp_loop N h z v hv d (i + 1) K (by omega) (by omega)
    have next : impl_book.l15 N (K + 1) (dA c : Int) (i : Nat) c (z, (), ((), (), (), ()), (), (), ()) v (b.1, (), ((), (), (), ()), (), (), ()) (layP c b) b.2.1 b.2.2.1.1 b.2.2.1.2.1 b.2.2.1.2.2.1 b.2.2.1.2.2.2 b.2.2.2.1 b.2.2.2.2.1 b.2.2.2.2.2 = cond (allB (fun j => decide (3 ≤ j ∧ j < 3 + c.1.toNat ∨ hA c ≤ j → layV c b j = vAt v j)) d (i + 1)) (outT (b, true)) (outT (bk0, false)) := by
      rw [impl_book.l15, w64 (n := (i : Int) + 1) (by omega) (by omega), show (i : Int) + 1 = ((i + 1 : Nat) : Int) by omega]
      exact ih
    rw [impl_book.l7, ct (by omega), impl_book.l9, bnd (by omega) (by omega), impl_isLaid_eq N h.1]
    simp only [Ob]
    rw [allB]
    by_cases g : 3 ≤ i ∧ i < 3 + c.1.toNat ∨ hA c ≤ i
    · rw [dt (show 3 ≤ i ∧ i < 3 + c.1.toNat ∨ hA c ≤ i ∧ i < dA c by omega), cond_true, bnd (by omega) (by omega), Int.toNat_natCast, hlv, cndn]
      by_cases g2 : layV c b i = v.getD i 0
      · rw [if_pos g2, dt (fun _ => g2), Bool.true_and]; exact next
      · rw [if_neg g2, df (fun q => g2 (q g)), Bool.false_and, impl_book.l14]; rfl
    · rw [df (show ¬ (3 ≤ i ∧ i < 3 + c.1.toNat ∨ hA c ≤ i ∧ i < dA c) by omega), cond_false, dt (fun q => (g q).elim), Bool.true_and]; exact next
theorem impl_vals_loop (N : Nat) (l : List Int) (hw : Words l) (hl : l.length ≤ 100000) : ∀ d i K (M : List Int), i + d = l.length → d < K → M = (l.take i).map (· % 4294967296) → impl_vals.l0 N K l (l.length : Int) (i : Nat) M = some ((), l.map (· % 4294967296))
  | 0, i, K, M, e, hK, hM => by
    obtain ⟨K, rfl⟩ := fuel hK
    rw [impl_vals.l0, cf (by omega), hM, List.take_of_length_le (by omega)]
  | d + 1, i, K, M, e, hK, hM => by
    obtain ⟨K, rfl⟩ := fuel hK
    have hml : M.length ≤ 100000 := by rw [hM, List.length_map, List.length_take]; omega
    rw [impl_vals.l0, ct (by omega), bnd (by omega) (by omega), Int.toNat_natCast, impl_CellVal_eq N (hw.at i)]
    simp only [Ob]
    rw [ct (by simp; omega), w64 (n := (i : Int) + 1) (by omega) (by omega), show (i : Int) + 1 = ((i + 1 : Nat) : Int) by omega]
    refine impl_vals_loop N l hw hl d (i + 1) K _ (by omega) (by omega) ?_
    rw [hM, getD_lt (by omega), List.take_add_one, List.getElem?_eq_getElem (by omega), List.map_append]
    rfl
theorem impl_BookOpen_eq (N : Nat) {c : Cfg} (h : Plat c) : impl_BookOpen N c = some (((openP c).1, (), ((), (), (), ()), (), (), ()), ((openP c).2.1, (openP c).2.2.2.1, (openP c).2.2.2.2.1, (openP c).2.2.2.2.2)) := by
  unfold impl_BookOpen
  rw [impl_PlatOk_eq, dt h]
  unfold Plat at h
  simp only [Ob, Bool.not_true, cond_false]
  rw [w64 (n := 8 * c.2.1) (by omega) (by omega)]
  repeat rw [ct (by omega)]
  rw [show 8 * c.2.1 = c.2.1 * 8 by omega]
  rfl
theorem chainR_congr {f g : Nat → Int} {k0 : Nat} {U : Int} {n : Nat} (h : ∀ j, j < n → f j = g j) (hU : (k0 : Int) + U ≤ n) : ∀ m a, chainR f k0 U m a = chainR g k0 U m a
  | 0, a => rfl
  | m + 1, a => by
    rw [chainR, chainR]
    by_cases c : 0 < a ∧ a ≤ U
    · rw [if_pos c, if_pos c, h _ (by omega), chainR_congr h hU m]
    · rw [if_neg c, if_neg c]
theorem map_range_congr {f g : Nat → Int} {n : Nat} (h : ∀ i, i < n → f i = g i) : (List.range n).map f = (List.range n).map g :=
  List.map_congr_left fun i hi => h i (List.mem_range.1 hi)
theorem readB_congr {c : Cfg} (hc : Plat c) {f g : Nat → Int} (h : ∀ j, j < dA c → f j = g j) : readB c f = readB c g := by
  obtain ⟨a1, a2, a3, a4, a5, a6, a7, a8, a9⟩ := plat_at hc
  have hch : ∀ m a, chainR f (kA c) (8 * c.2.1) m a = chainR g (kA c) (8 * c.2.1) m a := chainR_congr h (by omega)
  unfold readB
  rw [map_range_congr (f := fun i => f (pA c + i)) (g := fun i => g (pA c + i)) (fun i hi => h _ (by omega)),
    map_range_congr (f := fun i => f (tA c + i)) (g := fun i => g (tA c + i)) (fun i hi => h _ (by omega)),
    map_range_congr (f := fun i => f (3 + i) % 4) (g := fun i => g (3 + i) % 4) (fun i hi => by rw [h _ (by omega)]),
    map_range_congr (f := fun i => f (3 + i) / 4) (g := fun i => g (3 + i) / 4) (fun i hi => by rw [h _ (by omega)]),
    hch, hch, hch, hch, h (hA c) (by omega), h (hA c + 1) (by omega), h (hA c + 2) (by omega), h (hA c + 3) (by omega)]
theorem censP_congr {c : Cfg} (hc : Plat c) {f g : Nat → Int} (h : ∀ j, j < dA c → f j = g j) : censP c f = censP c g := by
  have e := readB_congr hc h
  have ea : Agree c f (readB c g) ↔ Agree c g (readB c g) := by
    unfold Agree
    constructor
    · intro q j hj g2; rw [← h j hj]; exact q j hj g2
    · intro q j hj g2; rw [h j hj]; exact q j hj g2
  unfold censP
  rw [e]
  by_cases c1 : BookP (readB c g) ∧ Agree c g (readB c g)
  · rw [if_pos c1, if_pos ⟨c1.1, ea.2 c1.2⟩]
  · rw [if_neg c1, if_neg (fun q => c1 ⟨q.1, ea.1 q.2⟩)]
theorem censP_chain {c : Cfg} (hc : Plat c) {v : Nat → Int} (h : BookP (readB c v) ∧ Agree c v (readB c v)) {k : Nat} (hk : k < 4) : chainB v (kA c) (8 * c.2.1) (8 * c.2.1).toNat (v (hA c + k)) = true := by
  have hF := readB_fit hc h.1
  have hnu := fit_nu hF
  exact (agree_chain hF h.2 hk (8 * c.2.1).toNat (by omega)).2
theorem censP_fail {c : Cfg} (hc : Plat c) {v : Nat → Int} {k : Nat} (hk : k < 4) (hf : chainB v (kA c) (8 * c.2.1) (8 * c.2.1).toNat (v (hA c + k)) = false) : censP c v = (bk0, false) := by
  unfold censP
  rw [if_neg]
  intro g
  rw [censP_chain hc g hk] at hf
  cases hf
theorem bk_l3 (N : Nat) (hN : Fuel N) {c : Cfg} (hc : Plat c) (z : Int) (v : List Int) (hv : v.length = dA c) (hnn : ∀ j, 0 ≤ vAt v j ∧ vAt v j < 4294967296) (hbi : Bi (readB c (vAt v))) (hbs : Bshort (readB c (vAt v))) (K : Nat) (hK : 3000 < K) :
    bk3 N K 0 c z v c.1 (readB c (vAt v)).2.1 ([], [], [], []) (readB c (vAt v)).2.2.2.1 (readB c (vAt v)).2.2.2.2.1 (readB c (vAt v)).2.2.2.2.2 = outT (censP c (vAt v)) := by
  obtain ⟨a1, a2, a3, a4, a5, a6, a7, a8, a9⟩ := plat_at hc
  have step := fun (k K : Nat) (hk : k < 4) (h : H4) (he : heads h k = []) (hK : 200 < K) => bk3_step N hc z v hv hnn c.1 (readB c (vAt v)).2.1 (readB c (vAt v)).2.2.2.1 (readB c (vAt v)).2.2.2.2.1 (readB c (vAt v)).2.2.2.2.2 hk K h he hK
  obtain ⟨K1, g1, e1⟩ := step 0 K (by omega) ([], [], [], []) rfl (by omega)
  have e1' : bk3 N K 0 c z v c.1 (readB c (vAt v)).2.1 ([], [], [], []) (readB c (vAt v)).2.2.2.1 (readB c (vAt v)).2.2.2.2.1 (readB c (vAt v)).2.2.2.2.2 = _ := e1
  rw [e1']
  cases h0 : chainB (vAt v) (kA c) (8 * c.2.1) (8 * c.2.1).toNat (vAt v (hA c + 0))
  · rw [cond_false, censP_fail hc (k := 0) (by omega) h0]
  rw [cond_true]
  obtain ⟨K2, g2, e2⟩ := step 1 K1 (by omega) (hset ([], [], [], []) 0 (chainR (vAt v) (kA c) (8 * c.2.1) ((8 * c.2.1).toNat + 1) (vAt v (hA c + 0)))) rfl (by omega)
  rw [e2]
  cases h1 : chainB (vAt v) (kA c) (8 * c.2.1) (8 * c.2.1).toNat (vAt v (hA c + 1))
  · rw [cond_false, censP_fail hc (k := 1) (by omega) h1]
  rw [cond_true]
  obtain ⟨K3, g3, e3⟩ := step 2 K2 (by omega) (hset (hset ([], [], [], []) 0 (chainR (vAt v) (kA c) (8 * c.2.1) ((8 * c.2.1).toNat + 1) (vAt v (hA c + 0)))) 1 (chainR (vAt v) (kA c) (8 * c.2.1) ((8 * c.2.1).toNat + 1) (vAt v (hA c + 1)))) rfl (by omega)
  rw [e3]
  cases h2 : chainB (vAt v) (kA c) (8 * c.2.1) (8 * c.2.1).toNat (vAt v (hA c + 2))
  · rw [cond_false, censP_fail hc (k := 2) (by omega) h2]
  rw [cond_true]
  obtain ⟨K4, g4, e4⟩ := step 3 K3 (by omega) (hset (hset (hset ([], [], [], []) 0 (chainR (vAt v) (kA c) (8 * c.2.1) ((8 * c.2.1).toNat + 1) (vAt v (hA c + 0)))) 1 (chainR (vAt v) (kA c) (8 * c.2.1) ((8 * c.2.1).toNat + 1) (vAt v (hA c + 1)))) 2 (chainR (vAt v) (kA c) (8 * c.2.1) ((8 * c.2.1).toNat + 1) (vAt v (hA c + 2)))) rfl (by omega)
  rw [e4]
  cases h3 : chainB (vAt v) (kA c) (8 * c.2.1) (8 * c.2.1).toNat (vAt v (hA c + 3))
  · rw [cond_false, censP_fail hc (k := 3) (by omega) h3]
  rw [cond_true]
  obtain ⟨K4, rfl⟩ : ∃ j, K4 = j + 1 + 1 := ⟨K4 - 2, by omega⟩
  have hok : impl_BookOk N (readB c (vAt v)) = some (bookOk (readB c (vAt v)), ()) := impl_BookOk_eq N hN _ hbi hbs
  have hok' : impl_BookOk N (c.1, (readB c (vAt v)).2.1, ((readB c (vAt v)).2.2.1.1, (readB c (vAt v)).2.2.1.2.1, (readB c (vAt v)).2.2.1.2.2.1, (readB c (vAt v)).2.2.1.2.2.2), (readB c (vAt v)).2.2.2.1, (readB c (vAt v)).2.2.2.2.1, (readB c (vAt v)).2.2.2.2.2) = some (bookOk (readB c (vAt v)), ()) := hok
  show impl_book.l3 N (K4 + 1 + 1) 4 c (z, (), ((), (), (), ()), (), (), ()) v (c.1, (), ((), (), (), ()), (), (), ()) (readB c (vAt v)).2.1 (readB c (vAt v)).2.2.1.1 (readB c (vAt v)).2.2.1.2.1 (readB c (vAt v)).2.2.1.2.2.1 (readB c (vAt v)).2.2.1.2.2.2 (readB c (vAt v)).2.2.2.1 (readB c (vAt v)).2.2.2.2.1 (readB c (vAt v)).2.2.2.2.2 = _
  rw [impl_book.l3, cf (by omega), hok']
  simp only [Ob]
  unfold censP
  by_cases hb : BookP (readB c (vAt v))
  rotate_left
  · rw [bookOk, tf_f hb, Bool.not_false, cond_true, impl_book.l6, if_neg (fun g => hb g.1)]; rfl
  have hF := readB_fit hc hb
  have hlay : impl_lay N c (c.1, (readB c (vAt v)).2.1, ((readB c (vAt v)).2.2.1.1, (readB c (vAt v)).2.2.1.2.1, (readB c (vAt v)).2.2.1.2.2.1, (readB c (vAt v)).2.2.1.2.2.2), (readB c (vAt v)).2.2.2.1, (readB c (vAt v)).2.2.2.2.1, (readB c (vAt v)).2.2.2.2.2) = some ((), layP c (readB c (vAt v))) := impl_lay_eq N hN hF
  rw [bookOk, tf_t hb, Bool.not_true, cond_false, hlay]
  simp only [Ob]
  rw [layP_len]
  have := impl_cmp_loop N hF z v hv (dA c) 0 (K4 + 1) (by omega) (by omega)
  refine this.trans ?_
  have hag : Agree c (vAt v) (readB c (vAt v)) ↔ allB (fun j => decide (3 ≤ j ∧ j < 3 + c.1.toNat ∨ hA c ≤ j → layV c (readB c (vAt v)) j = vAt v j)) (dA c) 0 = true := by
    rw [allB_iff]
    unfold Agree
    constructor
    · intro h j _ h2; exact decide_eq_true (fun q => h j (by omega) q)
    · intro h j h1 h2; exact of_decide_eq_true (h j (by omega) (by omega)) h2
  by_cases g : Agree c (vAt v) (readB c (vAt v))
  · rw [if_pos ⟨hb, g⟩, hag.1 g]; rfl
  · rw [if_neg (fun q => g q.2)]
    cases hq : allB (fun j => decide (3 ≤ j ∧ j < 3 + c.1.toNat ∨ hA c ≤ j → layV c (readB c (vAt v)) j = vAt v j)) (dA c) 0
    · rfl
    · exact (g (hag.2 hq)).elim
theorem bk_l1 (N : Nat) (hN : Fuel N) {c : Cfg} (hc : Plat c) (z : Int) (v : List Int) (hv : v.length = dA c) (hnn : ∀ j, 0 ≤ vAt v j ∧ vAt v j < 4294967296) (hbi : Bi (readB c (vAt v))) (hbs : Bshort (readB c (vAt v))) : ∀ d i K (I E : List Int), i + d = c.1.toNat → 3 * d + 4000 < K → I.length = c.1.toNat → E.length = c.1.toNat → (∀ j, j < i → I.getD j 0 = vAt v (3 + j) % 4 ∧ E.getD j 0 = vAt v (3 + j) / 4) →
    impl_book.l1 N K c.1 (i : Nat) c (z, (), ((), (), (), ()), (), (), ()) v (c.1, (), ((), (), (), ()), (), (), ()) (readB c (vAt v)).2.1 (readB c (vAt v)).2.2.2.1 I E = outT (censP c (vAt v))
  | 0, i, K, I, E, e, hK, hI, hE, hx => by
    obtain ⟨a1, a2, a3, a4, a5, a6, a7, a8, a9⟩ := plat_at hc
    obtain ⟨K, rfl⟩ := fuel (show 0 < K by omega)
    have e1 : I = (readB c (vAt v)).2.2.2.2.1 := (map_eq (f := fun i => vAt v (3 + i) % 4) hI fun j hj => (hx j (by omega)).1.symm).symm
    have e2 : E = (readB c (vAt v)).2.2.2.2.2 := (map_eq (f := fun i => vAt v (3 + i) / 4) hE fun j hj => (hx j (by omega)).2.symm).symm
    rw [impl_book.l1, cf (by omega), e1, e2]
    exact bk_l3 N hN hc z v hv hnn hbi hbs K (by omega)
  | d + 1, i, K, I, E, e, hK, hI, hE, hx => by
    obtain ⟨a1, a2, a3, a4, a5, a6, a7, a8, a9⟩ := plat_at hc
    obtain ⟨K, rfl⟩ : ∃ j, K = j + 1 + 1 + 1 := ⟨K - 3, by omega⟩
    have hn : 0 ≤ v.getD (3 + i) 0 ∧ v.getD (3 + i) 0 < 4294967296 := hnn (3 + i)
    have h3 : (3 + (i : Int)).toNat = 3 + i := by omega
    rw [impl_book.l1, ct (by omega), impl_book.l2, impl_regAt_eq]
    simp only [Ob]
    rw [w64 (n := 3 + (i : Int)) (by omega) (by omega), bnd (by omega) (by omega), bnd (by omega) (by omega), bnd (by omega) (by omega), bnd (by omega) (by omega), h3, tm hn.1, td hn.1, w64 (n := v.getD (3 + i) 0 / 4) (by omega) (by omega), Int.toNat_natCast, impl_book.l4, w64 (n := (i : Int) + 1) (by omega) (by omega), show (i : Int) + 1 = ((i + 1 : Nat) : Int) by omega]
    refine bk_l1 N hN hc z v hv hnn hbi hbs d (i + 1) K _ _ (by omega) (by omega) (by rw [List.length_set]; exact hI) (by rw [List.length_set]; exact hE) (fun j hj => ?_)
    rw [getD_set _ _ _ _ (by omega), getD_set _ _ _ _ (by omega)]
    by_cases g : j = i
    · rw [if_pos g, if_pos g, g]; exact ⟨rfl, rfl⟩
    · rw [if_neg g, if_neg g]; exact hx j (by omega)
theorem slice_getD (v : List Int) (a n j : Nat) (hj : j < n) : ((v.drop a).take n).getD j 0 = v.getD (a + j) 0 := by
  simp only [List.getD_eq_getElem?_getD, List.getElem?_take, List.getElem?_drop, if_pos hj]
theorem cpy_all (n a : Nat) (v : List Int) (h : a + n ≤ v.length) : cpy (List.replicate n (0 : Int)) 0 (min ((v.drop a).take n).length (List.replicate n (0 : Int)).length) ((v.drop a).take n) = (List.range n).map (fun i => vAt v (a + i)) := by
  have hl : ((v.drop a).take n).length = n := by rw [List.length_take, List.length_drop]; omega
  have hr : (List.replicate n (0 : Int)).length = n := List.length_replicate ..
  rw [hl, hr, Nat.min_self]
  obtain ⟨q1, q2⟩ := cpy_getD (List.replicate n (0 : Int)) 0 n ((v.drop a).take n) (by rw [hr]; omega) (by omega)
  refine (map_eq (by rw [q1, hr]) fun i hi => ?_).symm
  rw [q2 i, if_pos (by omega), Nat.sub_zero, slice_getD v a n i hi]
theorem impl_book_eq (N : Nat) (hN : Fuel N) {c : Cfg} (hc : Plat c) {w : List Int} (hw : Words w) (hl : dA c ≤ w.length) : impl_book N c w = outT (censP c (valW w)) := by
  obtain ⟨a1, a2, a3, a4, a5, a6, a7, a8, a9⟩ := plat_at hc
  have hh : house c = (dA c : Int) := by unfold house; omega
  have hlen : (w.take (dA c)).length = dA c := by rw [List.length_take]; omega
  have hwt : Words (w.take (dA c)) := fun x hx => hw x (List.mem_of_mem_take hx)
  have hvals := impl_vals_loop N (w.take (dA c)) hwt (by omega) (w.take (dA c)).length 0 N [] (by omega) (by unfold Fuel at hN; omega) (by simp)
  obtain ⟨v, hv⟩ : ∃ v, v = (w.take (dA c)).map (· % 4294967296) := ⟨_, rfl⟩
  have hvl : v.length = dA c := by rw [hv, List.length_map]; exact hlen
  have hvv : ∀ j, j < dA c → vAt v j = valW w j := fun j hj => by
    unfold vAt valW
    rw [getD_lt (by omega), getD_lt (by omega)]
    simp [hv]
  have hnn : ∀ j, 0 ≤ vAt v j ∧ vAt v j < 4294967296 := fun j => by
    by_cases g : j < dA c
    · rw [hvv j g]; exact valW_nn w j
    · have : vAt v j = 0 := by unfold vAt; rw [List.getD_eq_getElem?_getD, List.getElem?_eq_none (by omega)]; rfl
      rw [this]; omega
  have er := readB_congr hc hvv
  obtain ⟨r1, r2⟩ := readB_ok hc w
  rw [← er] at r1 r2
  unfold impl_book
  rw [impl_deskAt_eq N hc]
  simp only [Ob]
  rw [hh, dt (show (0 : Int) ≤ dA c by omega), dt (show ((dA c : Nat) : Int) ≤ w.length by omega), Int.toNat_natCast, List.drop_zero]
  simp only [cond_true]
  unfold impl_vals
  have hvals' : impl_vals.l0 N N (w.take (dA c)) ((w.take (dA c)).length : Int) 0 [] = some ((), v) := by rw [hv]; exact hvals
  rw [hvals', impl_BookOpen_eq N hc]
  simp only [Ob]
  obtain ⟨m, hm⟩ : ∃ m, N = m + 1 := ⟨N - 1, by unfold Fuel at hN; omega⟩
  have hm2 : 100000 < m := by unfold Fuel at hN; omega
  rw [← censP_congr hc hvv]
  have key : ∀ K, 100000 < K → impl_book.l0 N (K + 1) c (0, (), ((), (), (), ()), (), (), ()) v ((openP c).1, (), ((), (), (), ()), (), (), ()) (openP c).2.1 (openP c).2.2.2.1 (openP c).2.2.2.2.1 (openP c).2.2.2.2.2 = outT (censP c (vAt v)) := by
    intro K hK
    rw [impl_book.l0, impl_pageAt_eq N hc, impl_tagAt_eq N hc, impl_linkAt_eq N hc]
    simp only [Ob]
    have p1 : (7 + 2 * c.1).toNat = pA c := rfl
    have p2 : (7 + 2 * c.1 + c.2.1).toNat = tA c := rfl
    have p3 : (7 + 2 * c.1 + 9 * c.2.1).toNat = kA c := rfl
    rw [dt (show (0 : Int) ≤ 7 + 2 * c.1 + c.2.1 by omega), dt (show 7 + 2 * c.1 + c.2.1 ≤ (v.length : Int) by omega), dt (show (0 : Int) ≤ 7 + 2 * c.1 by omega), dt (show 7 + 2 * c.1 ≤ 7 + 2 * c.1 + c.2.1 by omega), dt (show (0 : Int) ≤ 7 + 2 * c.1 + 9 * c.2.1 by omega), dt (show 7 + 2 * c.1 + 9 * c.2.1 ≤ (v.length : Int) by omega), dt (show 7 + 2 * c.1 + c.2.1 ≤ 7 + 2 * c.1 + 9 * c.2.1 by omega)]
    simp only [cond_true]
    rw [p1, p2, p3, show tA c - pA c = c.2.1.toNat by omega, show kA c - tA c = (8 * c.2.1).toNat by omega]
    have o1 : (openP c).2.1 = List.replicate c.2.1.toNat 0 := rfl
    have o2 : (openP c).2.2.2.1 = List.replicate (8 * c.2.1).toNat 0 := by show List.replicate (c.2.1 * 8).toNat 0 = _; rw [show c.2.1 * 8 = 8 * c.2.1 by omega]
    rw [o1, o2, cpy_all _ _ v (by omega), cpy_all _ _ v (by omega)]
    have hi : (openP c).2.2.2.2.1.length = c.1.toNat := List.length_replicate ..
    have hep : (openP c).2.2.2.2.2.length = c.1.toNat := List.length_replicate ..
    exact bk_l1 N hN hc 0 v hvl hnn r1 r2 c.1.toNat 0 K _ _ (by omega) (by omega) hi hep (fun j hj => by omega)
  have := key m hm2
  rw [← hm] at this
  exact this
theorem impl_CensBook_eq (N : Nat) (hN : Fuel N) {w : List Int} (hw : Words w) : impl_CensBook N w = outT (censBook w) := by
  unfold impl_CensBook censBook
  by_cases hH : Head w
  rotate_left
  · obtain ⟨c, hc⟩ := impl_cfgOf_no N hw hH
    rw [hc, if_neg (fun g => hH g.1)]; rfl
  have hc := hH.2.2
  rw [impl_cfgOf_yes N hw hH]
  simp only [Ob]
  rw [Bool.not_true, cond_false, impl_size_eq N hc, impl_deskAt_eq N hc]
  simp only [Ob, cndn]
  by_cases c1 : (w.length : Int) = size (cfg (w.getD 0 0))
  · have hL : Laid w := ⟨hH, .inl c1⟩
    rw [if_pos c1, if_pos hL, impl_book_eq N hN hc hw (laid_len hL)]; rfl
  rw [if_neg c1]
  by_cases c2 : (w.length : Int) = house (cfg (w.getD 0 0))
  · have hL : Laid w := ⟨hH, .inr c2⟩
    rw [if_pos c2, if_pos hL, impl_book_eq N hN hc hw (laid_len hL)]; rfl
  · rw [if_neg c2, if_neg (fun g => by rcases g.2 with q | q; exact c1 q; exact c2 q)]; rfl
def pack (v s : Int) : Int := low s 4294967295 * 4294967296 + low v 4294967295
theorem impl_CellPack_eq (N : Nat) (v s : Int) : impl_CellPack N v s = some (pack v s, ()) := by
  have h1 := low_ge v 4294967295 (by omega)
  have h2 := low_le v 4294967295 (by omega)
  have h3 := low_ge s 4294967295 (by omega)
  have h4 := low_le s 4294967295 (by omega)
  unfold impl_CellPack pack
  rw [impl_clamp_eq N s 4294967295 (by omega), impl_clamp_eq N v 4294967295 (by omega)]
  simp only [Ob]
  obtain ⟨a, ha⟩ := Int.eq_ofNat_of_zero_le h3
  obtain ⟨b, hb⟩ := Int.eq_ofNat_of_zero_le h1
  rw [ha] at h3 h4 ⊢
  rw [hb] at h1 h2 ⊢
  have e2 : (2 : Int) ^ 32 = 4294967296 := by decide
  rw [e2, u64w (n := (a : Int)) (by omega) (by omega), u64w (n := (b : Int)) (by omega) (by omega), u64w (n := (a : Int) * 4294967296) (by omega) (by omega)]
  have e : (BitVec.ofInt 64 ((a : Int) * 4294967296) ||| BitVec.ofInt 64 (b : Int)).toNat = 2 ^ 32 * a + b := by
    rw [BitVec.toNat_or, BitVec.toNat_ofInt, BitVec.toNat_ofInt]
    have q1 : ((a : Int) * 4294967296 % ((2 ^ 64 : Nat) : Int)).toNat = 2 ^ 32 * a := by omega
    have q2 : ((b : Int) % ((2 ^ 64 : Nat) : Int)).toNat = b := by omega
    rw [q1, q2, ← Nat.two_pow_add_eq_or_of_lt (by omega)]
  rw [e, u64w (by omega) (by omega)]
  congr 2
  omega
theorem spec_CellPack_eq' (N : Nat) (v s : Int) : spec_CellPack N v s = some (pack v s, ()) := spec_CellPack_eq N v s
def stampOf (x : Int) : Int := x / 4294967296
def valOf (x : Int) : Int := x % 4294967296
theorem val_in (x : Int) : 0 ≤ valOf x ∧ valOf x < 4294967296 := by unfold valOf; omega
theorem whole_len {w : List Int} (h : Whole w) : 30 ≤ w.length ∧ (w.length : Int) = dA (cfg (w.getD 0 0)) + 21 * (cfg (w.getD 0 0)).1 ∧ w.length ≤ 1000 := by
  obtain ⟨a1, a2, a3, a4, a5, a6, a7, a8, a9⟩ := plat_at h.2.2.1
  have := h.2.2.2
  unfold size at this
  omega
theorem free_np (b : Bk) (u : Nat) : (freeP b u).1 = b.1 ∧ np (freeP b u) = np b := by
  unfold freeP
  dsimp only
  split
  · cases tf (FreeP (wHd (wOw b u 0) (pg b (u / 8) - 1).toNat ((u : Int) :: hd b (pg b (u / 8) - 1).toNat)) (u / 8) 0)
    · exact ⟨rfl, rfl⟩
    · refine ⟨rfl, ?_⟩
      show (b.2.1.set (u / 8) 0).length = _; rw [List.length_set]; rfl
  · refine ⟨rfl, ?_⟩
    show (setRow b.2.1 0 _ _).length = _; rw [setRow_len]; rfl
theorem take_np (b : Bk) (s u : Int) : (takeP b s u).1.1 = b.1 ∧ np (takeP b s u).1 = np b := by
  unfold takeP
  split
  · exact ⟨rfl, rfl⟩
  split
  · unfold pagesP
    split
    · exact ⟨rfl, rfl⟩
    · refine ⟨rfl, ?_⟩
      show (setRow (b.2.1.set _ _) 7 _ _).length = _; rw [setRow_len, List.length_set]; rfl
  dsimp only
  split
  · split
    · exact ⟨rfl, rfl⟩
    · refine ⟨rfl, ?_⟩
      show (b.2.1.set _ _).length = _; rw [List.length_set]; rfl
  · exact ⟨rfl, rfl⟩
theorem do_np (b : Bk) (op : Op) : (doP b op).1.1 = b.1 ∧ np (doP b op).1 = np b := by
  unfold doP
  split
  · exact ⟨rfl, rfl⟩
  split
  · unfold enterP
    split
    · exact ⟨rfl, rfl⟩
    split <;> exact ⟨rfl, rfl⟩
  split
  · exact ⟨rfl, rfl⟩
  unfold ownP
  split
  · exact take_np b _ _
  split
  · split
    · exact ⟨rfl, rfl⟩
    · exact free_np b _
  split
  · split
    · exact ⟨rfl, rfl⟩
    split <;> exact ⟨rfl, rfl⟩
  split
  · split <;> exact ⟨rfl, rfl⟩
  split
  · unfold reapP
    split
    · exact ⟨rfl, rfl⟩
    split
    · exact ⟨rfl, rfl⟩
    split
    · exact ⟨rfl, rfl⟩
    · exact free_np b _
  · exact ⟨rfl, rfl⟩
theorem Fit.do {c : Cfg} {b : Bk} (h : Fit c b) (op : Op) : Fit c (doP b op).1 := by
  have := do_np b op
  exact ⟨h.1, do_ok h.2.1 op, by rw [this.1]; exact h.2.2.1, by rw [this.2]; exact h.2.2.2⟩
def entryP (a v s : Int) : Int := pack (low a 4095 * 1048576 + low v 1048575) s
theorem spec_CellEntry_eq (N : Nat) (a v s : Int) : spec_CellEntry N a v s = some (entryP a v s, ()) := by
  have h1 := low_ge a 4095 (by omega)
  have h2 := low_le a 4095 (by omega)
  have h3 := low_ge v 1048575 (by omega)
  have h4 := low_le v 1048575 (by omega)
  unfold spec_CellEntry entryP
  rw [spec_l1Low_eq, spec_l1Low_eq]
  simp only [Ob]
  rw [w64 (n := low a 4095 * 1048576) (by omega) (by omega), w64 (n := low a 4095 * 1048576 + low v 1048575) (by omega) (by omega), spec_CellPack_eq']
  rfl
theorem impl_CellEntry_eq (N : Nat) (a v s : Int) : impl_CellEntry N a v s = some (entryP a v s, ()) := by
  have h1 := low_ge a 4095 (by omega)
  have h2 := low_le a 4095 (by omega)
  have h3 := low_ge v 1048575 (by omega)
  have h4 := low_le v 1048575 (by omega)
  unfold impl_CellEntry entryP
  rw [impl_clamp_eq N a 4095 (by omega), impl_clamp_eq N v 1048575 (by omega)]
  simp only [Ob]
  rw [w64 (n := low a 4095 * 1048576) (by omega) (by omega), w64 (n := low a 4095 * 1048576 + low v 1048575) (by omega) (by omega), impl_CellPack_eq]
  rfl
def planL (f g : List Int) (s : Int) : Nat → Nat → List Int
  | 0, _ => []
  | d + 1, i => if f.getD i 0 = g.getD i 0 then planL f g s d (i + 1) else entryP i (g.getD i 0) s :: planL f g s d (i + 1)
theorem planL_len (f g : List Int) (s : Int) : ∀ d i, (planL f g s d i).length ≤ d
  | 0, i => Nat.le_refl _
  | d + 1, i => by
    rw [planL]
    split
    · have := planL_len f g s d (i + 1); omega
    · rw [List.length_cons]; have := planL_len f g s d (i + 1); omega
theorem spec_plan_loop (N : Nat) (s code n : Int) (f g : List Int) (hfg : f.length = g.length) (hl : f.length ≤ 1000) : ∀ d i K (M : List Int), i + d = f.length → d < K → M.length ≤ i →
    spec_PlanOf.l0 N K s code n (i : Nat) f g M = some (((), code, n), M ++ planL f g s d i)
  | 0, i, K, M, e, hK, hM => by
    obtain ⟨K, rfl⟩ := fuel hK
    rw [spec_PlanOf.l0, cf (by omega), planL, List.append_nil]
  | d + 1, i, K, M, e, hK, hM => by
    obtain ⟨K, rfl⟩ := fuel hK
    rw [spec_PlanOf.l0, ct (by omega), bnd (by omega) (by omega), bnd (by omega) (by omega), bnd (by omega) (by omega), Int.toNat_natCast, cndn, w64 (n := (i : Int) + 1) (by omega) (by omega), show (i : Int) + 1 = ((i + 1 : Nat) : Int) by omega, spec_CellEntry_eq, planL]
    simp only [Ob]
    by_cases c : f.getD i 0 = g.getD i 0
    · rw [if_pos c, if_pos c]
      exact spec_plan_loop N s code n f g hfg hl d (i + 1) K M (by omega) (by omega) (by omega)
    · rw [if_neg c, if_neg c, ct (by simp; omega), spec_plan_loop N s code n f g hfg hl d (i + 1) K _ (by omega) (by omega) (by rw [List.length_append]; simp; omega), List.append_assoc]; rfl
theorem impl_plan_loop (N : Nat) (s code n : Int) (f g : List Int) (hfg : f.length = g.length) (hl : f.length ≤ 1000) : ∀ d i K (M : List Int), i + d = f.length → d < K → M.length ≤ i →
    impl_PlanOf.l0 N K s code n (g.length : Int) (i : Nat) f M g = some (((), code, n), M ++ planL f g s d i)
  | 0, i, K, M, e, hK, hM => by
    obtain ⟨K, rfl⟩ := fuel hK
    rw [impl_PlanOf.l0, cf (by omega), planL, List.append_nil]
  | d + 1, i, K, M, e, hK, hM => by
    obtain ⟨K, rfl⟩ := fuel hK
    rw [impl_PlanOf.l0, ct (by omega), bnd (by omega) (by omega), bnd (by omega) (by omega), Int.toNat_natCast, cndn, w64 (n := (i : Int) + 1) (by omega) (by omega), show (i : Int) + 1 = ((i + 1 : Nat) : Int) by omega, impl_CellEntry_eq, planL]
    simp only [Ob]
    by_cases c : f.getD i 0 = g.getD i 0
    · rw [if_pos c.symm, if_pos c]
      exact impl_plan_loop N s code n f g hfg hl d (i + 1) K M (by omega) (by omega) (by omega)
    · rw [if_neg (fun e => c e.symm), if_neg c, ct (by simp; omega), impl_plan_loop N s code n f g hfg hl d (i + 1) K _ (by omega) (by omega) (by rw [List.length_append]; simp; omega), List.append_assoc]; rfl
noncomputable def planP (w : List Int) (op : Op) (s : Int) : List Int × Int × Int :=
  if (censBook w).2 = true ∧ 1 ≤ s ∧ s ≤ 1000000000 then
    (planL (layP (cfg (w.getD 0 0)) (censBook w).1) (layP (cfg (w.getD 0 0)) (doP (censBook w).1 op).1) s (dA (cfg (w.getD 0 0))) 0, (doP (censBook w).1 op).2)
  else ([], 13, 0)
theorem cens_fit {w : List Int} (h : (censBook w).2 = true) : Laid w ∧ Fit (cfg (w.getD 0 0)) (censBook w).1 ∧ Agree (cfg (w.getD 0 0)) (valW w) (censBook w).1 := by
  unfold censBook at h ⊢
  by_cases c : Laid w
  rotate_left
  · rw [if_neg c] at h; cases h
  rw [if_pos c] at h ⊢
  unfold censP at h ⊢
  by_cases g : BookP (readB (cfg (w.getD 0 0)) (valW w)) ∧ Agree (cfg (w.getD 0 0)) (valW w) (readB (cfg (w.getD 0 0)) (valW w))
  · rw [if_pos g]; exact ⟨c, readB_fit c.1.2.2 g.1, g.2⟩
  · rw [if_neg g] at h; cases h
theorem dA_le {c : Cfg} (h : Plat c) : dA c ≤ 200 := by
  obtain ⟨a1, a2, a3, a4, a5, a6, a7, a8, a9⟩ := plat_at h
  omega
theorem spec_PlanOf_eq (N : Nat) (hN : Fuel N) {w : List Int} (hw : Words w) (op : Op) (s : Int) : spec_PlanOf N w op s = some (((), (planP w op s).2), (planP w op s).1) := by
  unfold spec_PlanOf planP
  obtain ⟨c, e, hcfg⟩ := spec_l4Whole_eq N hw
  rw [spec_CensBook_eq N hN hw, e]
  simp only [Ob]
  cases hok : (censBook w).2
  · rw [Bool.not_false, cond_true, if_neg (fun g => by cases g.1)]
  rw [Bool.not_true, cond_false]
  by_cases c1 : s < 1
  · rw [ct c1, if_neg (by omega)]
  rw [cf c1]
  by_cases c2 : s > 1000000000
  · rw [ct c2, if_neg (by omega)]
  rw [cf c2, if_pos ⟨rfl, by omega, by omega⟩]
  obtain ⟨hL, hF, _⟩ := cens_fit hok
  have hb := hF.2.1
  have hd := dA_le hF.1
  have r1 : spec_BookDo N ((censBook w).1.1, (censBook w).1.2.1, ((censBook w).1.2.2.1.1, (censBook w).1.2.2.1.2.1, (censBook w).1.2.2.1.2.2.1, (censBook w).1.2.2.1.2.2.2), (censBook w).1.2.2.2.1, (censBook w).1.2.2.2.2.1, (censBook w).1.2.2.2.2.2) op = out (bookDo (censBook w).1 op) := spec_BookDo_eq N hN _ hb.ints hb.short op
  have r2 : spec_l4Lay N c ((censBook w).1.1, (censBook w).1.2.1, ((censBook w).1.2.2.1.1, (censBook w).1.2.2.1.2.1, (censBook w).1.2.2.1.2.2.1, (censBook w).1.2.2.1.2.2.2), (censBook w).1.2.2.2.1, (censBook w).1.2.2.2.2.1, (censBook w).1.2.2.2.2.2) = some ((), layP c (censBook w).1) := by rw [hcfg hL]; exact spec_l4Lay_eq N hN hF
  have r3 : spec_l4Lay N c ((doP (censBook w).1 op).1.1, (doP (censBook w).1 op).1.2.1, ((doP (censBook w).1 op).1.2.2.1.1, (doP (censBook w).1 op).1.2.2.1.2.1, (doP (censBook w).1 op).1.2.2.1.2.2.1, (doP (censBook w).1 op).1.2.2.1.2.2.2), (doP (censBook w).1 op).1.2.2.2.1, (doP (censBook w).1 op).1.2.2.2.2.1, (doP (censBook w).1 op).1.2.2.2.2.2) = some ((), layP c (doP (censBook w).1 op).1) := by rw [hcfg hL]; exact spec_l4Lay_eq N hN (hF.do op)
  rw [r1, bookDo_ok hb]
  simp only [Ob]
  rw [r2]
  simp only [Ob]
  rw [r3]
  simp only [Ob]
  rw [hcfg hL]
  have := spec_plan_loop N s (doP (censBook w).1 op).2.1 (doP (censBook w).1 op).2.2 (layP (cfg (w.getD 0 0)) (censBook w).1) (layP (cfg (w.getD 0 0)) (doP (censBook w).1 op).1) (by rw [layP_len, layP_len]) (by rw [layP_len]; omega) (dA (cfg (w.getD 0 0))) 0 N [] (by rw [layP_len]; omega) (by unfold Fuel at hN; omega) (by simp)
  rw [List.nil_append] at this
  exact this
theorem impl_PlanOf_eq (N : Nat) (hN : Fuel N) {w : List Int} (hw : Words w) (op : Op) (s : Int) : impl_PlanOf N w op s = some (((), (planP w op s).2), (planP w op s).1) := by
  unfold impl_PlanOf planP
  have hcf : ∃ c, impl_cfgOf N w = some (c, ()) ∧ (Laid w → c.1 = cfg (w.getD 0 0)) := by
    by_cases h : Head w
    · exact ⟨_, impl_cfgOf_yes N hw h, fun _ => rfl⟩
    · obtain ⟨c, e⟩ := impl_cfgOf_no N hw h
      exact ⟨_, e, fun g => (h g.1).elim⟩
  obtain ⟨c, e, hcfg⟩ := hcf
  rw [e, impl_CensBook_eq N hN hw]
  simp only [Ob]
  cases hok : (censBook w).2
  · rw [Bool.not_false, cond_true, if_neg (fun g => by cases g.1)]
  rw [Bool.not_true, cond_false, impl_within_eq]
  simp only [Ob]
  by_cases c1 : 1 ≤ s ∧ s ≤ 1000000000
  rotate_left
  · rw [df c1, if_neg (fun g => c1 g.2)]; rfl
  rw [dt c1, Bool.not_true, cond_false, if_pos ⟨trivial, c1⟩]
  obtain ⟨hL, hF, _⟩ := cens_fit hok
  have hb := hF.2.1
  have hd := dA_le hF.1
  have r1 : impl_BookDo N ((censBook w).1.1, (censBook w).1.2.1, ((censBook w).1.2.2.1.1, (censBook w).1.2.2.1.2.1, (censBook w).1.2.2.1.2.2.1, (censBook w).1.2.2.1.2.2.2), (censBook w).1.2.2.2.1, (censBook w).1.2.2.2.2.1, (censBook w).1.2.2.2.2.2) op = out (bookDo (censBook w).1 op) := impl_BookDo_eq N hN _ hb.ints hb.short op
  have r2 : impl_lay N c.1 ((censBook w).1.1, (censBook w).1.2.1, ((censBook w).1.2.2.1.1, (censBook w).1.2.2.1.2.1, (censBook w).1.2.2.1.2.2.1, (censBook w).1.2.2.1.2.2.2), (censBook w).1.2.2.2.1, (censBook w).1.2.2.2.2.1, (censBook w).1.2.2.2.2.2) = some ((), layP c.1 (censBook w).1) := by rw [hcfg hL]; exact impl_lay_eq N hN hF
  have r3 : impl_lay N c.1 ((doP (censBook w).1 op).1.1, (doP (censBook w).1 op).1.2.1, ((doP (censBook w).1 op).1.2.2.1.1, (doP (censBook w).1 op).1.2.2.1.2.1, (doP (censBook w).1 op).1.2.2.1.2.2.1, (doP (censBook w).1 op).1.2.2.1.2.2.2), (doP (censBook w).1 op).1.2.2.2.1, (doP (censBook w).1 op).1.2.2.2.2.1, (doP (censBook w).1 op).1.2.2.2.2.2) = some ((), layP c.1 (doP (censBook w).1 op).1) := by rw [hcfg hL]; exact impl_lay_eq N hN (hF.do op)
  rw [r1, bookDo_ok hb]
  simp only [Ob]
  rw [r2]
  simp only [Ob]
  rw [r3]
  simp only [Ob]
  rw [hcfg hL]
  have := impl_plan_loop N s (doP (censBook w).1 op).2.1 (doP (censBook w).1 op).2.2 (layP (cfg (w.getD 0 0)) (censBook w).1) (layP (cfg (w.getD 0 0)) (doP (censBook w).1 op).1) (by rw [layP_len, layP_len]) (by rw [layP_len]; omega) (dA (cfg (w.getD 0 0))) 0 N [] (by rw [layP_len]; omega) (by unfold Fuel at hN; omega) (by simp)
  rw [List.nil_append] at this
  exact this
theorem planP_len (w : List Int) (op : Op) (s : Int) : (planP w op s).1.length ≤ 200 := by
  unfold planP
  by_cases c : (censBook w).2 = true ∧ 1 ≤ s ∧ s ≤ 1000000000
  · rw [if_pos c]
    obtain ⟨_, hF, _⟩ := cens_fit c.1
    have := dA_le hF.1
    have h2 := planL_len (layP (cfg (w.getD 0 0)) (censBook w).1) (layP (cfg (w.getD 0 0)) (doP (censBook w).1 op).1) s (dA (cfg (w.getD 0 0))) 0
    dsimp only
    omega
  · rw [if_neg c]; simp
def headW (c : Cfg) : Int := pack (c.1 + 8 * c.2.1 + 64 * c.2.2) 201115
def HW (c : Cfg) (w : List Int) : Prop := Words w ∧ (w.length : Int) = size c ∧ w.getD 0 0 = headW c
theorem HW.len {c : Cfg} {w : List Int} (hc : Plat c) (h : HW c w) : (w.length : Int) = 7 + 23 * c.1 + 17 * c.2.1 ∧ 40 ≤ w.length ∧ w.length ≤ 1000 ∧ dA c + 21 ≤ w.length ∧ (dA c : Int) = 7 + 2 * c.1 + 17 * c.2.1 := by
  have h1 := h.2.1
  obtain ⟨a1, a2, a3, a4, a5, a6, a7, a8, a9⟩ := plat_at hc
  unfold size at h1
  omega
def cntG (g : Gst) : Int := g.2.2.2.2.2.2.2.2.2.2.2.2.2.2.2.2.2.2.2.2.2.2
def ReadyP (w : Wld) (i : Int) : Prop :=
  WorldP w ∧ 0 ≤ i ∧ i < w.2.length ∧ (gt w.2 i.toNat).1 = true ∧ (gt w.2 i.toNat).2.2.2.1 = false ∧ 0 < (gt w.2 i.toNat).2.2.1 ∧ cntG (gt w.2 i.toNat) < 1000000 ∧
  valOf (w.1.getD 2 0) % 4 = 0 ∧ 0 < stampOf (w.1.getD 2 0) ∧ stampOf (w.1.getD 2 0) < 1000000 ∧
  stOf (regW w.1 (gt w.2 i.toNat).2.1) = 1 ∧ epOf (regW w.1 (gt w.2 i.toNat).2.1) = (gt w.2 i.toNat).2.2.1 ∧ stampOf (beatW w.1 (gt w.2 i.toNat).2.1) = (gt w.2 i.toNat).2.2.1
theorem spec_Ready_eq (N : Nat) (hN : Fuel N) (w : Wld) (hw : Words w.1) (i : Int) : spec_l17Ready N w i = some (tf (ReadyP w i), ()) := by
  unfold spec_l17Ready
  rw [spec_WorldOk_eq N hN w hw, worldOk]
  simp only [Ob]
  by_cases h : WorldP w
  rotate_left
  · rw [tf_f h, tf_f (fun g => h g.1)]; rfl
  rw [tf_t h, Bool.not_true, cond_false]
  by_cases c : i < 0
  · rw [ct c, tf_f (fun g => by have := g.2.1; omega)]
  rw [cf c]
  by_cases c2 : i ≥ (w.2.length : Int)
  · rw [ct c2, tf_f (fun g => by have := g.2.2.1; omega)]
  rw [cf c2, bnd (by omega) (by omega)]
  simp only [fold_gt]
  obtain ⟨l1, l2, l3⟩ := whole_len h.1
  have hg := GuestP.slot (h.2.2 i.toNat (by omega))
  have hp : Plat (wcfg w.1) := h.1.plat
  have hp' := hp
  unfold Plat at hp'
  have hl := h.1.len
  have hz : (w.1.length : Int) = size (wcfg w.1) := hl
  unfold size at hz
  have hv := val_in (w.1.getD 2 0)
  have hv' : w.1.getD 2 0 % 4294967296 = valOf (w.1.getD 2 0) := rfl
  have hx : w.1.getD 2 0 / 4294967296 = stampOf (w.1.getD 2 0) := rfl
  unfold spec_CellDoorOf
  rw [spec_PlatCheck_eq N hw, if_pos h.1]
  simp only [Ob]
  rw [show cfg (w.1.getD 0 0) = wcfg w.1 from rfl, ct (p := 2 < (w.1.length : Int)) (by omega), spec_CellVal_eq N (hw.at 2), spec_PlatReg_eq N hp, spec_PlatBeat_eq N hp, if_pos (by omega), if_pos (by omega)]
  simp only [Ob]
  rw [bnd (by omega) (by omega), spec_CellRegOf_eq N (hw.at _)]
  simp only [Ob]
  rw [bnd (by omega) (by omega), spec_CellStamp_eq N (hw.at _), spec_CellStamp_eq N (hw.at 2)]
  simp only [Ob]
  rw [hv', hx, tm hv.1, show w.1.getD (3 + (gt w.2 i.toNat).2.1).toNat 0 % 4294967296 % 4 = stOf (regW w.1 (gt w.2 i.toNat).2.1) from rfl, show w.1.getD (3 + (gt w.2 i.toNat).2.1).toNat 0 % 4294967296 / 4 = epOf (regW w.1 (gt w.2 i.toNat).2.1) from rfl, show w.1.getD (3 + (wcfg w.1).1 + (gt w.2 i.toNat).2.1).toNat 0 / 4294967296 = stampOf (beatW w.1 (gt w.2 i.toNat).2.1) from rfl, show (gt w.2 i.toNat).2.2.2.2.2.2.2.2.2.2.2.2.2.2.2.2.2.2.2.2.2.2 = cntG (gt w.2 i.toNat) from rfl]
  cases d1 : (gt w.2 i.toNat).1
  · rw [cond_false, tf_f (fun g => by have := g.2.2.2.1; rw [d1] at this; cases this)]
  rw [cond_true]
  cases d2 : (gt w.2 i.toNat).2.2.2.1
  rotate_left
  · rw [Bool.not_true, cond_false, tf_f (fun g => by have := g.2.2.2.2.1; rw [d2] at this; cases this)]
  rw [Bool.not_false, cond_true]
  by_cases d3 : (gt w.2 i.toNat).2.2.1 > 0
  rotate_left
  · rw [cf d3, tf_f (fun g => by have := g.2.2.2.2.2.1; omega)]
  rw [ct d3]
  by_cases d4 : cntG (gt w.2 i.toNat) < 1000000
  rotate_left
  · rw [cf d4, tf_f (fun g => by have := g.2.2.2.2.2.2.1; omega)]
  rw [ct d4, cndb]
  by_cases d5 : valOf (w.1.getD 2 0) % 4 = 0
  rotate_left
  · rw [if_neg d5, tf_f (fun g => by have := g.2.2.2.2.2.2.2.1; omega)]
  rw [if_pos d5]
  by_cases d6 : stampOf (w.1.getD 2 0) < 1000000
  rotate_left
  · rw [cf d6, tf_f (fun g => by have := g.2.2.2.2.2.2.2.2.2.1; omega)]
  rw [ct d6]
  by_cases d7 : stampOf (w.1.getD 2 0) > 0
  rotate_left
  · rw [cf d7, tf_f (fun g => by have := g.2.2.2.2.2.2.2.2.1; omega)]
  rw [ct d7, cndb]
  by_cases d8 : stOf (regW w.1 (gt w.2 i.toNat).2.1) = 1
  rotate_left
  · rw [if_neg d8, tf_f (fun g => d8 g.2.2.2.2.2.2.2.2.2.2.1)]
  rw [if_pos d8, cndb]
  by_cases d9 : epOf (regW w.1 (gt w.2 i.toNat).2.1) = (gt w.2 i.toNat).2.2.1
  rotate_left
  · rw [if_neg d9, tf_f (fun g => d9 g.2.2.2.2.2.2.2.2.2.2.2.1)]
  rw [if_pos d9, d9]
  refine congrArg (fun b => some (b, ())) (tf_eq ?_)
  rw [beq_iff_eq]
  exact ⟨fun e => ⟨h, by omega, by omega, d1, d2, d3, d4, d5, d7, d6, d8, d9, e⟩, fun g => g.2.2.2.2.2.2.2.2.2.2.2.2⟩
def opG (w : Wld) (i : Int) (op : Op) : Op := (op.1, (gt w.2 i.toNat).2.1, op.2.2)
noncomputable def costsP (w : Wld) (i : Int) (op : Op) : (Unit × Int × Bool) × List Int := @ite _ (ReadyP w i) (Classical.propDecidable _) (((), (planP w.1 (opG w i op) 1).2.1, true), (planP w.1 (opG w i op) 1).1) (((), 0, false), [])
theorem costs_no {w : Wld} {i : Int} {op : Op} (h : ¬ ReadyP w i) : costsP w i op = (((), 0, false), []) := if_neg h
theorem costs_yes {w : Wld} {i : Int} {op : Op} (h : ReadyP w i) : costsP w i op = (((), (planP w.1 (opG w i op) 1).2.1, true), (planP w.1 (opG w i op) 1).1) := if_pos h
end Go.Proofs.YtdhdlnojoonhcaaGreat.Pv
