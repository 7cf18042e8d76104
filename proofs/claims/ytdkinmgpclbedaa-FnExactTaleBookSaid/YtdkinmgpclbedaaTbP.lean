/- The plain law of FnExactTaleBook, part 2: what the functions compute, over numbers and lists. -/
import Derived.Test.YtdkinmgpclbedaaTbPa
import Derived.Test.YtdkinmgpclbedaaPvRow
namespace Go.Proofs.Ytdkinmgpclbedaa.Pv
open Go Go.Pv Go.Proofs
set_option linter.unusedVariables false
set_option linter.unusedSimpArgs false
theorem others_none (p : Nat) : ∀ l : List Int, (∀ z ∈ l, z / 8 ≠ (p : Int)) → others l p = l
  | [], _ => rfl
  | z :: r, h => by
    have := others_none p r (fun y hy => h y (List.mem_cons_of_mem _ hy))
    unfold others at this ⊢
    rw [List.filter_cons, if_pos (bne_iff_ne.2 (h z List.mem_cons_self)), this]
theorem idx2_loop (N : Nat) (p : Nat) (l : List Int) (hl : l.length ≤ 1000) (hz : ∀ z ∈ l, 0 ≤ z ∧ z ≤ 1000) : ∀ d i k, i + d = l.length → d < k →
    (slices_IndexFunc_int_int_2.l0 N k l p (l.length : Int) (i : Int) = some (-1, ()) ∧ ∀ j, i ≤ j → j < l.length → l.getD j 0 / 8 ≠ (p : Int)) ∨
    ∃ q : Nat, slices_IndexFunc_int_int_2.l0 N k l p (l.length : Int) (i : Int) = some ((q : Int), ()) ∧ i ≤ q ∧ q < l.length ∧ l.getD q 0 / 8 = (p : Int) ∧ ∀ j, i ≤ j → j < q → l.getD j 0 / 8 ≠ (p : Int)
  | 0, i, k, e, hk => by
    obtain ⟨k, rfl⟩ : ∃ j, k = j + 1 := ⟨k - 1, by omega⟩
    refine .inl ⟨?_, fun j h1 h2 => by omega⟩
    rw [slices_IndexFunc_int_int_2.l0, cf (by omega)]
  | d + 1, i, k, e, hk => by
    obtain ⟨k, rfl⟩ : ∃ j, k = j + 1 := ⟨k - 1, by omega⟩
    have hzi := hz (l.getD i 0) (by rw [List.getD_eq_getElem?_getD, List.getElem?_eq_getElem (by omega)]; exact List.getElem_mem _)
    rw [slices_IndexFunc_int_int_2.l0, ct (by omega), bnd (by omega) (by omega), Int.toNat_natCast]
    simp (disch := omega) only [loop_example_hostel_impl_Book_free_1, Option.bind_some, td, w64]
    rw [show (i : Int) + 1 = ((i + 1 : Nat) : Int) by omega]
    by_cases g : l.getD i 0 / 8 = (p : Int)
    · refine .inr ⟨i, ?_, Nat.le_refl _, by omega, g, fun j h1 h2 => by omega⟩
      rw [beq_iff_eq.2 g, cond_true]
    · rw [beq_eq_false_iff_ne.2 g, cond_false]
      rcases idx2_loop N p l hl hz d (i + 1) k (by omega) (by omega) with ⟨h1, h2⟩ | ⟨q, h1, h2, h3, h4, h5⟩
      · refine .inl ⟨h1, fun j g1 g2 => ?_⟩
        by_cases e2 : j = i
        · subst e2; exact g
        · exact h2 j (by omega) g2
      · refine .inr ⟨q, h1, by omega, h3, h4, fun j g1 g2 => ?_⟩
        by_cases e2 : j = i
        · subst e2; exact g
        · exact h5 j (by omega) g2
theorem mem_getD {l : List Int} {z : Int} (h : z ∈ l) : ∃ j, j < l.length ∧ l.getD j 0 = z := by
  obtain ⟨j, hj, e⟩ := List.getElem_of_mem h
  exact ⟨j, hj, by rw [List.getD_eq_getElem?_getD, List.getElem?_eq_getElem hj, e]; rfl⟩
theorem delete_eq (N : Nat) (hN : Fuel N) (p : Nat) (hp : p ≤ 100) (l : List Int) (hl : l.length ≤ 1000) (hz : ∀ z ∈ l, 0 ≤ z ∧ z ≤ 1000) : slices_DeleteFunc_int_int N p l = some ((), others l p) := by
  unfold Fuel at hN
  unfold slices_DeleteFunc_int_int slices_IndexFunc_int_int_2
  rcases idx2_loop N p l hl hz l.length 0 N (by omega) (by omega) with ⟨h1, h2⟩ | ⟨q, h1, h2, h3, h4, h5⟩
  · rw [show ((0 : Nat) : Int) = 0 from rfl] at h1
    rw [h1]
    simp only [Option.bind_some, beq_self_eq_true, cond_true]
    rw [others_none p l fun z hzz => by obtain ⟨j, hj, e⟩ := mem_getD hzz; rw [← e]; exact h2 j (by omega) hj]
  · rw [show ((0 : Nat) : Int) = 0 from rfl] at h1
    rw [h1]
    simp only [Option.bind_some]
    rw [beq_eq_false_iff_ne.2 (by omega), cond_false, w64 (by omega) (by omega), show (q : Int) + 1 = ((q + 1 : Nat) : Int) by omega]
    refine delete_loop N p l hl hz (l.length - (q + 1)) (q + 1) q N l (by omega) (by omega) rfl ?_ rfl (by omega)
    have htk : l.take (q + 1) = l.take q ++ [l.getD q 0] := by rw [List.take_add_one, List.getElem?_eq_getElem (by omega), List.getD_eq_getElem?_getD, List.getElem?_eq_getElem (by omega)]; rfl
    have hno := others_none p (l.take q) fun z hzz => by
      obtain ⟨j, hj, e⟩ := mem_getD hzz
      rw [List.length_take] at hj
      rw [← e, List.getD_eq_getElem?_getD, List.getElem?_take, if_pos (by omega), ← List.getD_eq_getElem?_getD]
      exact h5 j (by omega) (by omega)
    rw [htk]
    unfold others at hno ⊢
    rw [List.filter_append, List.filter_cons, if_neg (by rw [h4]; simp), List.filter_nil, List.append_nil, hno]
abbrev outF (b : Bk) : Option (Unit × (BkU × L8)) :=
  some ((), ((b.1, (), ((), (), (), ()), (), (), ()), (b.2.1, b.2.2.2.1, b.2.2.2.2.1, b.2.2.2.2.2, b.2.2.1.1, b.2.2.1.2.1, b.2.2.1.2.2.1, b.2.2.1.2.2.2)))
theorem free_wide (N : Nat) (p n : Nat) (hn : n ≤ 12) (hp : p ≤ 100) (x : Int) (h0 h1 h2 h3 os is es : List Int) :
    ∀ (d i k : Nat) (ps : List Int), i + d = n → p + n ≤ ps.length → loop_example_hostel_impl_Book_free.l2 N (k + 3 * d + 1) n i (x, (), ((), (), (), ()), (), (), ()) p ps h0 h1 h2 h3 os is es =
      outF (x, setRow ps 0 d (p + i), (h0, h1, h2, h3), os, is, es)
  | 0, i, k, ps, e, hl => by
    rw [show k + 3 * 0 + 1 = k + 1 by omega, loop_example_hostel_impl_Book_free.l2, cf (by omega)]; rfl
  | d + 1, i, k, ps, e, hl => by
    rw [show k + 3 * (d + 1) + 1 = (k + 3 * d + 1) + 1 + 1 + 1 by omega, loop_example_hostel_impl_Book_free.l2, ct (by omega), loop_example_hostel_impl_Book_free.l4, w64 (n := (p : Int) + i) (by omega) (by omega), bnd (by omega) (by omega), loop_example_hostel_impl_Book_free.l6, w64 (n := (i : Int) + 1) (by omega) (by omega), show ((p : Int) + i).toNat = p + i by omega, show (i : Int) + 1 = ((i + 1 : Nat) : Int) by omega]
    rw [free_wide N p n hn hp x h0 h1 h2 h3 os is es d (i + 1) k _ (by omega) (by rw [List.length_set]; exact hl)]
    rfl
theorem insert_eq (N : Nat) (l : List Int) (u : Int) (hl : l.length ≤ 1000) : slices_Insert_int_int_2 N 0 l [u] = some ((), u :: l) := by
  unfold slices_Insert_int_int_2 insF
  rw [ct ⟨by omega, by omega, by simp, by simp; omega⟩]
  rfl
theorem BookP.short_set {b : Bk} (h : BookP b) (u : Nat) (k : Nat) (hk : k < 4) (l : List Int) (hl : l.length ≤ 1000) : Bshort (wHd (wOw b u 0) k l) := by
  have hdim := h.dims
  have hsl := h.slots
  have e1 : np b = b.2.1.length := rfl
  have e2 : nu b = b.2.2.2.1.length := rfl
  refine ⟨?_, fun j => ?_, ?_, ?_, ?_⟩
  · show b.2.1.length ≤ 4194304; omega
  · show (hd (wHd (wOw b u 0) k l) j).length ≤ 4194304
    have key : ∀ j, j < 4 → (hd (wHd (wOw b u 0) k l) j).length ≤ 4194304 := by
      intro j hj
      have hlj := h.hd_len hj
      by_cases e : j = k
      · subst e
        have : hd (wHd (wOw b u 0) j l) j = l := hd_hset _ _ _ _ hj _
        rw [this]; omega
      · have : hd (wHd (wOw b u 0) k l) j = hd b j := hd_other _ _ _ _ hk hj e _
        rw [this]; omega
    by_cases c : j < 4
    · exact key j c
    · obtain ⟨q, rfl⟩ : ∃ q, j = q + 3 := ⟨j - 3, by omega⟩
      exact key 3 (by omega)
  · show (b.2.2.2.1.set u 0).length ≤ 4194304; rw [List.length_set]; omega
  · show b.2.2.2.2.1.length ≤ 4194304; omega
  · show b.2.2.2.2.2.length ≤ 4194304; omega
theorem impl_free_eq (N : Nat) (hN : Fuel N) {b : Bk} (h : BookP b) (u : Nat) (hu : u < nu b) (ho : ow b u ≠ 0) :
    loop_example_hostel_impl_Book_free N u (b.1, (), ((), (), (), ()), (), (), ()) b.2.1 b.2.2.1.1 b.2.2.1.2.1 b.2.2.1.2.2.1 b.2.2.1.2.2.2 b.2.2.2.1 b.2.2.2.2.1 b.2.2.2.2.2 = outF (freeP b u) := by
  have hdim := h.dims
  have hnp : np b = b.2.1.length := rfl
  have hnu : nu b = b.2.2.2.1.length := rfl
  obtain ⟨p, hp8, hp, hcase⟩ := h.owned hu ho
  have e8 : ((u : Int) / 8) = (p : Int) := by omega
  obtain ⟨m, hm⟩ : ∃ m, N = m + 1 + 1 := ⟨N - 2, by unfold Fuel at hN; omega⟩
  have hm' : 1099511627774 < m := by unfold Fuel at hN; omega
  unfold loop_example_hostel_impl_Book_free
  rw [bnd (by omega) (by omega), Int.toNat_natCast]
  suffices hh : loop_example_hostel_impl_Book_free.l0 N (m + 1 + 1) u (b.1, (), ((), (), (), ()), (), (), ()) b.2.1 b.2.2.1.1 b.2.2.1.2.1 b.2.2.1.2.2.1 b.2.2.1.2.2.2 (b.2.2.2.1.set u 0) b.2.2.2.2.1 b.2.2.2.2.2 = outF (freeP b u) by rwa [← hm] at hh
  unfold freeP
  rw [hp8, loop_example_hostel_impl_Book_free.l0, td (by omega), e8, w64 (n := (p : Int)) (by omega) (by omega), loop_example_hostel_impl_Book_free.l1, bnd (by omega) (by omega), Int.toNat_natCast, fold_pg]
  simp only [impl_isKind, impl_within_eq, Option.bind_some]
  rcases hcase with ⟨c1, c2, c3⟩ | ⟨c1, c2, c3⟩
  · obtain ⟨k, hk⟩ : ∃ k : Nat, pg b p = k + 1 := ⟨(pg b p - 1).toNat, by omega⟩
    have hk4 : k < 4 := by omega
    have ek : (pg b p - 1).toNat = k := by omega
    have ek2 : IntKind.i64.wrap (pg b p - 1) = (k : Int) := by rw [w64 (by omega) (by omega)]; omega
    rw [dt ⟨c1, c2⟩, Bool.not_true, cond_false, if_pos ⟨c1, c2⟩, ek, ek2]
    have q0 := h.hd_len (k := 0) (by omega)
    have q1 := h.hd_len (k := 1) (by omega)
    have q2 := h.hd_len (k := 2) (by omega)
    have q3 := h.hd_len (k := 3) (by omega)
    have i0 : slices_Insert_int_int_2 N 0 b.2.2.1.1 [(u : Int)] = some ((), (u : Int) :: hd b 0) := insert_eq N (hd b 0) u (by omega)
    have i1 : slices_Insert_int_int_2 N 0 b.2.2.1.2.1 [(u : Int)] = some ((), (u : Int) :: hd b 1) := insert_eq N (hd b 1) u (by omega)
    have i2 : slices_Insert_int_int_2 N 0 b.2.2.1.2.2.1 [(u : Int)] = some ((), (u : Int) :: hd b 2) := insert_eq N (hd b 2) u (by omega)
    have i3 : slices_Insert_int_int_2 N 0 b.2.2.1.2.2.2 [(u : Int)] = some ((), (u : Int) :: hd b 3) := insert_eq N (hd b 3) u (by omega)
    have hlk := h.hd_len hk4
    have key : loop_example_hostel_impl_Book_free.l3 N m (pg b p) (b.1, (), ((), (), (), ()), (), (), ()) p b.2.1 (b.2.2.2.1.set u 0) b.2.2.2.2.1 b.2.2.2.2.2 (hset b.2.2.1 k ((u : Int) :: hd b k)).1 (hset b.2.2.1 k ((u : Int) :: hd b k)).2.1 (hset b.2.2.1 k ((u : Int) :: hd b k)).2.2.1 (hset b.2.2.1 k ((u : Int) :: hd b k)).2.2.2 =
        outF (cond (tf (FreeP (wHd (wOw b u 0) k ((u : Int) :: hd b k)) p 0)) (wHd (wPg (wHd (wOw b u 0) k ((u : Int) :: hd b k)) (b.2.1.set p 0)) k (((u : Int) :: hd b k).filter fun x => x / 8 != (p : Int))) (wHd (wOw b u 0) k ((u : Int) :: hd b k))) := by
      have hb2 := h.short_set u k hk4 ((u : Int) :: hd b k) (by rw [List.length_cons]; omega)
      have hnu2 : nu (wHd (wOw b u 0) k ((u : Int) :: hd b k)) = nu b := by show (b.2.2.2.1.set u 0).length = _; rw [List.length_set]; rfl
      have hown := impl_owned_eq N hN (wHd (wOw b u 0) k ((u : Int) :: hd b k)) hb2 (8 * p) 8 (by omega)
      have hnz := nz_seg (wHd (wOw b u 0) k ((u : Int) :: hd b k)) (8 * p) 8 (by omega)
      have hfr : (nz (seg (wHd (wOw b u 0) k ((u : Int) :: hd b k)) (8 * p) 8) = 0) ↔ FreeP (wHd (wOw b u 0) k ((u : Int) :: hd b k)) p 0 := hnz.trans ⟨fun g v _ hv => g v hv, fun g v hv => g v (Nat.zero_le _) hv⟩
      obtain ⟨m2, hm2⟩ : ∃ m2, m = m2 + 1 + 1 := ⟨m - 2, by omega⟩
      have w1 : IntKind.i64.wrap ((p : Int) * 8) = ((8 * p : Nat) : Int) := by rw [w64 (by omega) (by omega)]; omega
      have w2 : IntKind.i64.wrap (((8 * p : Nat) : Int) + 8) = ((8 * p + 8 : Nat) : Int) := by rw [w64 (by omega) (by omega)]; omega
      have hown' : impl_Book_owned N (b.1, b.2.1, ((hset b.2.2.1 k ((u : Int) :: hd b k)).1, (hset b.2.2.1 k ((u : Int) :: hd b k)).2.1, (hset b.2.2.1 k ((u : Int) :: hd b k)).2.2.1, (hset b.2.2.1 k ((u : Int) :: hd b k)).2.2.2), b.2.2.2.1.set u 0, b.2.2.2.2.1, b.2.2.2.2.2) ((8 * p : Nat) : Int) ((8 * p + 8 : Nat) : Int) = some ((nz (seg (wHd (wOw b u 0) k ((u : Int) :: hd b k)) (8 * p) 8) : Int), ()) := hown
      rw [hm2, loop_example_hostel_impl_Book_free.l3, w1, w2, hown']
      simp only [Option.bind_some, cndb]
      by_cases c : (nz (seg (wHd (wOw b u 0) k ((u : Int) :: hd b k)) (8 * p) 8) : Int) = 0
      · rw [if_pos c, tf_t (hfr.1 (by omega)), cond_true, ek2]
        have hdel : slices_DeleteFunc_int_int N p ((u : Int) :: hd b k) = some ((), others ((u : Int) :: hd b k) p) := delete_eq N hN p (by omega) _ (by rw [List.length_cons]; omega) (by
          intro z hz
          rcases List.mem_cons.1 hz with rfl | hz
          · omega
          · have := h.mem hk4 hz; omega)
        rcases usz_vals hk4 with ⟨hz, rfl⟩ | ⟨hz, rfl⟩ | ⟨hz, rfl⟩ | ⟨hz, rfl⟩
        all_goals
          simp (disch := omega) only [ct, cf, hset, hdel, Option.bind_some, loop_example_hostel_impl_Book_free.l5, bnd, Int.toNat_natCast]
          rfl
      · rw [if_neg c, tf_f (fun g => c (by have := hfr.2 g; omega)), cond_false]
        rfl
    rcases usz_vals hk4 with ⟨hz, rfl⟩ | ⟨hz, rfl⟩ | ⟨hz, rfl⟩ | ⟨hz, rfl⟩
    all_goals
      simp (disch := omega) only [ct, cf, i0, i1, i2, i3, Option.bind_some]
      exact key
  · rw [df (by omega), Bool.not_false, cond_true, if_neg (by omega)]
    have hw := (h.wide hp c1).2.2.1
    have := free_wide N p (pg b p - 8).toNat (by omega) (by omega) b.1 b.2.2.1.1 b.2.2.1.2.1 b.2.2.1.2.2.1 b.2.2.1.2.2.2 (b.2.2.2.1.set u 0) b.2.2.2.2.1 b.2.2.2.2.2 (pg b p - 8).toNat 0 (m - 3 * (pg b p - 8).toNat - 1) b.2.1 (by omega) (by omega)
    rw [show m - 3 * (pg b p - 8).toNat - 1 + 3 * (pg b p - 8).toNat + 1 = m by omega, show ((0 : Nat) : Int) = 0 from rfl, Nat.add_zero, Int.toNat_of_nonneg (by omega)] at this
    rw [w64 (n := pg b p - 8) (by omega) (by omega), this]
    rfl
theorem impl_reaps_eq (N : Nat) (hN : Fuel N) {b : Bk} (h : BookP b) (s : Int) :
    loop_example_hostel_impl_Book_reaps N s (b.1, (), ((), (), (), ()), (), (), ()) b.2.1 b.2.2.1.1 b.2.2.1.2.1 b.2.2.1.2.2.1 b.2.2.1.2.2.2 b.2.2.2.1 b.2.2.2.2.1 b.2.2.2.2.2 = outI (reapP b s) := by
  have hdim := h.dims
  have hsl := h.slots
  have hin : impl_Book_isIn N (b.1, b.2.1, (b.2.2.1.1, b.2.2.1.2.1, b.2.2.1.2.2.1, b.2.2.1.2.2.2), b.2.2.2.1, b.2.2.2.2.1, b.2.2.2.2.2) s = some (decide (0 ≤ s ∧ s < b.1 ∧ inn b s.toNat ≠ 0), ()) := impl_isIn_eq N b h.sizes s
  unfold loop_example_hostel_impl_Book_reaps reapP
  rw [hin]
  simp only [Option.bind_some]
  by_cases c : 0 ≤ s ∧ s < b.1 ∧ inn b s.toNat ≠ 0
  rotate_left
  · rw [df c, Bool.not_false, cond_true, if_pos (Classical.byContradiction fun g => c ⟨by omega, by omega, fun e => g (.inr (.inr e))⟩)]
  rw [dt c, Bool.not_true, cond_false, if_neg (by omega), bnd (by omega) (by omega), fold_in, cndb]
  by_cases c4 : inn b s.toNat = 1
  · rw [if_pos c4, if_pos c4]
  have hbl : impl_Book_blocks N (b.1, b.2.1, (b.2.2.1.1, b.2.2.1.2.1, b.2.2.1.2.2.1, b.2.2.1.2.2.2), b.2.2.2.1, b.2.2.2.2.1, b.2.2.2.2.2) s = some ((), blksOf b s (nu b) 0) := impl_blocks_eq N hN h s (by omega)
  rw [if_neg c4, if_neg c4, hbl]
  simp only [Option.bind_some]
  have hff : firstOf b s = (blksOf b s (nu b) 0).headD (-1) := rfl
  rcases firstOf_cases (b := b) s with e | ⟨u, e, h1, h2⟩
  · cases hl : blksOf b s (nu b) 0 with
    | nil =>
      rw [if_pos (by omega)]
      rw [cf (by simp), bnd (by omega) (by omega)]
      rfl
    | cons x r =>
      obtain ⟨v, e2, _⟩ := blks_mem b s (nu b) 0 x (by rw [hl]; exact List.mem_cons_self)
      rw [hff, hl] at e
      have : x = -1 := e
      omega
  · cases hl : blksOf b s (nu b) 0 with
    | nil => rw [hff, hl] at e; have : (-1 : Int) = u := e; omega
    | cons x r =>
      have hx : x = (u : Int) := by rw [hff, hl] at e; exact e
      subst hx
      have hg : (((u : Int)) :: r).getD 0 0 = (u : Int) := rfl
      rw [ct (by simp), ct (by simp), hg, impl_free_eq N hN h u h1 (by omega), if_neg (by omega), e, Int.toNat_natCast]
      simp only [Option.bind_some]
      rw [ct (by simp)]
theorem BookP.ep_in {b : Bk} (h : BookP b) {s : Nat} (hs : (s : Int) < b.1) : 0 ≤ ep b s ∧ ep b s ≤ 4095 := by
  have h1 := h.1
  unfold slotsB at h1
  rw [Bool.and_eq_true, Bool.and_eq_true] at h1
  have := of_decide_eq_true ((allB_iff _ _ _).1 h1.2.1 s (by omega) (by omega))
  exact ⟨this.2.2.1, this.2.2.2.1⟩
theorem impl_enters_eq (N : Nat) (hN : Fuel N) {b : Bk} (h : BookP b) (s : Int) (hs : 0 ≤ s ∧ s < b.1) :
    loop_example_hostel_impl_Book_enters N s (b.1, (), ((), (), (), ()), (), (), ()) b.2.1 b.2.2.1.1 b.2.2.1.2.1 b.2.2.1.2.2.1 b.2.2.1.2.2.2 b.2.2.2.1 b.2.2.2.2.1 b.2.2.2.2.2 = outP (enterP b s.toNat) := by
  have hdim := h.dims
  have hsl := h.slots
  have he := h.ep_in (s := s.toNat) (by omega)
  have hin : impl_Book_isIn N (b.1, b.2.1, (b.2.2.1.1, b.2.2.1.2.1, b.2.2.1.2.2.1, b.2.2.1.2.2.2), b.2.2.2.1, b.2.2.2.2.1, b.2.2.2.2.2) s = some (decide (0 ≤ s ∧ s < b.1 ∧ inn b s.toNat ≠ 0), ()) := impl_isIn_eq N b h.sizes s
  have hgs : ∀ x : Int, (b.2.2.2.2.2.set s.toNat x).getD s.toNat 0 = x := fun x => by rw [getD_set _ _ _ _ (by omega), if_pos rfl]
  unfold loop_example_hostel_impl_Book_enters enterP
  rw [hin]
  simp only [Option.bind_some]
  by_cases d : inn b s.toNat = 0
  rotate_left
  · rw [dt ⟨hs.1, hs.2, d⟩, cond_true, if_pos d]
  rw [df (fun g => g.2.2 d), cond_false, if_neg (show ¬ inn b s.toNat ≠ 0 from fun g => g d)]
  simp (disch := omega) only [bnd, fold_in, fold_ep, w64, cndn, cndb, List.length_set, hgs]
  by_cases d2 : ep b s.toNat = 4095
  · rw [if_pos d2, if_pos d2]
  · rw [if_neg d2, if_neg d2]; rfl
theorem impl_do_eq (N : Nat) (hN : Fuel N) {b : Bk} (h : BookP b) (op : Op) :
    loop_example_hostel_impl_Book_do N op (b.1, (), ((), (), (), ()), (), (), ()) b.2.1 b.2.2.1.1 b.2.2.1.2.1 b.2.2.1.2.2.1 b.2.2.1.2.2.2 b.2.2.2.1 b.2.2.2.2.1 b.2.2.2.2.2 = outI (doP b op) := by
  have hdim := h.dims
  have hsl := h.slots
  have hnu : nu b = b.2.2.2.1.length := rfl
  have hin : ∀ s, impl_Book_isIn N (b.1, b.2.1, (b.2.2.1.1, b.2.2.1.2.1, b.2.2.1.2.2.1, b.2.2.1.2.2.2), b.2.2.2.1, b.2.2.2.2.1, b.2.2.2.2.2) s = some (decide (0 ≤ s ∧ s < b.1 ∧ inn b s.toNat ≠ 0), ()) := impl_isIn_eq N b h.sizes
  have his : impl_Book_isSlot N (b.1, b.2.1, (b.2.2.1.1, b.2.2.1.2.1, b.2.2.1.2.2.1, b.2.2.1.2.2.2), b.2.2.2.1, b.2.2.2.2.1, b.2.2.2.2.2) op.2.1 = some (decide (0 ≤ op.2.1 ∧ op.2.1 < b.1), ()) := impl_isSlotB_eq N b (by omega) (by omega) op.2.1
  unfold loop_example_hostel_impl_Book_do doP
  rw [his]
  simp only [Option.bind_some, cndb]
  by_cases hs : 0 ≤ op.2.1 ∧ op.2.1 < b.1
  rotate_left
  · rw [df hs, Bool.not_false, cond_true, if_pos (by omega)]
  rw [dt hs, Bool.not_true, cond_false, if_neg (show ¬ (op.2.1 < 0 ∨ op.2.1 ≥ b.1) by omega)]
  have hm : loop_example_hostel_impl_Book_mine N (b.1, b.2.1, (b.2.2.1.1, b.2.2.1.2.1, b.2.2.1.2.2.1, b.2.2.1.2.2.2), b.2.2.2.1, b.2.2.2.2.1, b.2.2.2.2.2) op.2.1 op.2.2.1 = some (whoseP b op.2.1 op.2.2.1, ()) := impl_mine_eq N h _ _ (by omega)
  have hbl : impl_Book_blocks N (b.1, b.2.1, (b.2.2.1.1, b.2.2.1.2.1, b.2.2.1.2.2.1, b.2.2.1.2.2.2), b.2.2.2.1, b.2.2.2.2.1, b.2.2.2.2.2) op.2.1 = some ((), blksOf b op.2.1 (nu b) 0) := impl_blocks_eq N hN h op.2.1 (by omega)
  by_cases c1 : op.1 = 1
  · rw [if_pos c1, if_pos c1, impl_enters_eq N hN h _ hs]; rfl
  rw [if_neg c1, if_neg c1, hin]
  simp only [Option.bind_some]
  by_cases d : inn b op.2.1.toNat = 0
  · rw [df (fun g => g.2.2 d), Bool.not_false, cond_true, if_pos d]
  rw [dt ⟨hs.1, hs.2, d⟩, Bool.not_true, cond_false, if_neg d]
  unfold ownP
  by_cases c2 : op.1 = 2
  · rw [if_pos c2, if_pos c2, impl_takes_eq N hN h.tk _ (by omega)]; rfl
  rw [if_neg c2, if_neg c2]
  have hwv : whoseP b op.2.1 op.2.2.1 = 0 ∨ whoseP b op.2.1 op.2.2.1 > 0 := by unfold whoseP; split; exact .inr (by omega); split; exact .inl rfl; exact .inr (by omega)
  by_cases c3 : op.1 = 3
  · rw [if_pos c3, if_pos c3, hm]
    simp only [Option.bind_some]
    by_cases c : whoseP b op.2.1 op.2.2.1 > 0
    · rw [if_neg (by omega), if_pos c]
    obtain ⟨h1, h2, h3, _⟩ := whose_in c
    have := impl_free_eq N hN h op.2.2.1.toNat (by omega) h3
    rw [Int.toNat_of_nonneg h1] at this
    have hz : whoseP b op.2.1 op.2.2.1 = 0 := by omega
    rw [if_pos hz, if_neg c, this, hz]
    rfl
  rw [if_neg c3, if_neg c3]
  by_cases c4 : op.1 = 4
  · rw [if_pos c4, if_pos c4, hm]
    simp only [Option.bind_some]
    by_cases c : whoseP b op.2.1 op.2.2.1 > 0
    · rw [if_neg (by omega), if_neg (by omega), if_pos c]
    obtain ⟨h1, h2, h3, _⟩ := whose_in c
    have hz : whoseP b op.2.1 op.2.2.1 = 0 := by omega
    rw [if_pos hz, if_neg c, hin]
    simp only [Option.bind_some]
    by_cases g : 0 ≤ op.2.2.2 ∧ op.2.2.2 < b.1 ∧ inn b op.2.2.2.toNat ≠ 0
    · rw [dt g, Bool.not_true, cond_false, if_pos hz, bnd h1 (by omega), w64 (by omega) (by omega), hz, if_neg (show ¬ (op.2.2.2 < 0 ∨ op.2.2.2 ≥ b.1 ∨ inn b op.2.2.2.toNat = 0) from fun q => by rcases q with q | q | q; omega; omega; exact g.2.2 q)]
      rfl
    · rw [df g, Bool.not_false, cond_true, if_pos (show op.2.2.2 < 0 ∨ op.2.2.2 ≥ b.1 ∨ inn b op.2.2.2.toNat = 0 from Classical.byContradiction fun q => g ⟨by omega, by omega, fun e => q (.inr (.inr e))⟩)]
      rfl
  rw [if_neg c4, if_neg c4]
  by_cases c5 : op.1 = 5
  · rw [if_pos c5, if_pos c5, hbl]
    simp only [Option.bind_some]
    rcases firstOf_cases (b := b) op.2.1 with e | ⟨u, e, h1, h2⟩
    · cases hl : blksOf b op.2.1 (nu b) 0 with
      | nil => rw [cf (by simp), if_neg (by omega), bnd (by omega) (by omega)]; rfl
      | cons x r =>
        obtain ⟨v, e2, _⟩ := blks_mem b op.2.1 (nu b) 0 x (by rw [hl]; exact List.mem_cons_self)
        unfold firstOf at e; rw [hl] at e
        have : x = -1 := e
        omega
    · cases hl : blksOf b op.2.1 (nu b) 0 with
      | nil => unfold firstOf at e; rw [hl] at e; have : (-1 : Int) = u := e; omega
      | cons x r => rw [ct (by simp), if_pos (by omega)]
  rw [if_neg c5, if_neg c5]
  by_cases c6 : op.1 = 6
  · rw [if_pos c6, if_pos c6, impl_reaps_eq N hN h]; rfl
  · rw [if_neg c6, if_neg c6]
def PageW (b : Bk) (p : Nat) : Prop :=
  (pg b p = 0 ∧ FreeP b p 0) ∨ (1 ≤ pg b p ∧ pg b p ≤ 4 ∧ RoomsP b p (pg b p - 1).toNat) ∨
  (pg b p = 7 ∧ FreeP b p 0 ∧ ∃ q, q < p ∧ 10 ≤ pg b q ∧ (p : Int) < q + (pg b q - 8)) ∨ WideP b p
theorem BookP.pageW {b : Bk} (h : BookP b) {p : Nat} (hp : p < np b) : PageW b p := by
  have hP := h.page hp
  rcases h.cases hp with h0 | h1 | h7 | h8
  · exact .inl ⟨h0, hP.1 h0⟩
  · exact .inr (.inl ⟨h1.1, h1.2, hP.2.1 h1⟩)
  · have hR := hP.2.2.1 h7
    have hbl := back_le b p
    have hb : back b p < np b := by omega
    have hne : back b p ≠ p := by
      intro e
      have h1 := hR.1
      rw [e] at h1
      omega
    refine .inr (.inr (.inl ⟨h7, hR.2.2, back b p, by omega, ?_, ?_⟩))
    · rcases h.cases hb with g | g | g | g
      · have := hR.1; omega
      · have := hR.1; omega
      · have := hR.1; omega
      · exact g.1
    · have := hR.2.1; omega
  · exact .inr (.inr (.inr (h.wide hp h8.1)))
theorem pageP_of {b : Bk} (h : ∀ p, p < np b → PageW b p) {p : Nat} (hp : p < np b) : PageP b p := by
  rcases h p hp with ⟨h0, hf⟩ | ⟨h1, h2, hr⟩ | ⟨h7, hf, q, hq, hq10, hqp⟩ | hw
  · exact ⟨fun _ => hf, fun g => by omega, fun g => by omega, fun g => (g h0).elim⟩
  · exact ⟨fun g => by omega, fun _ => hr, fun g => by omega, fun _ g => (g ⟨h1, h2⟩).elim⟩
  · refine ⟨fun g => by omega, fun g => by omega, fun _ => ?_, fun _ _ g => (g h7).elim⟩
    have hw : WideP b q := by
      rcases h q (by omega) with ⟨g, _⟩ | ⟨_, g, _⟩ | ⟨g, _⟩ | g
      · omega
      · omega
      · omega
      · exact g
    have hb : back b p = q := by
      have := back_run (b := b) (p := q) (by omega) (p - q) (fun j g1 g2 => hw.2.2.2.2.2 j g1 (by omega))
      rwa [show q + (p - q) = p by omega] at this
    unfold RestP
    rw [hb]
    exact ⟨by omega, by omega, hf⟩
  · have := hw.1
    exact ⟨fun g => by omega, fun g => by omega, fun g => by omega, fun _ _ _ => hw⟩
theorem BookP.slot {b : Bk} (h : BookP b) {i : Nat} (hi : i < b.1.toNat) : slotB b i = true := by
  have h1 := h.1
  unfold slotsB at h1
  rw [Bool.and_eq_true, Bool.and_eq_true] at h1
  exact (allB_iff _ _ _).1 h1.2.1 i (by omega) (by omega)
theorem BookP.own {b : Bk} (h : BookP b) {u : Nat} (hu : u < nu b) : ownB b u = true := by
  have h1 := h.1
  unfold slotsB at h1
  rw [Bool.and_eq_true, Bool.and_eq_true] at h1
  exact (allB_iff _ _ _).1 h1.2.2 u (by omega) (by omega)
theorem BookP.list {b : Bk} (h : BookP b) {k : Nat} (hk : k < 4) {x : Int} (hx : x ∈ hd b k) : memB b k x = true := lists_mem h.2.1 hk hx
theorem page_count {b : Bk} (hs : Sizes b) (h3 : ∀ k, k < 4 → ∀ x ∈ hd b k, memB b k x = true) (h4 : ∀ p, p < np b → PageW b p) {k : Nat} (hk : k < 4) {u : Nat} (hu : u < nu b) :
    (hd b k).count ((u : Nat) : Int) ≤ 1 := by
  unfold Sizes at hs
  by_cases c : ((u : Nat) : Int) ∈ hd b k
  · have hm := of_decide_eq_true (h3 k hk _ c)
    have hpg : pg b (u / 8) = (k : Int) + 1 := by
      have := hm.2.2.1
      rwa [show (((u : Nat) : Int) / 8).toNat = u / 8 by omega] at this
    rcases h4 (u / 8) (by omega) with ⟨g, _⟩ | ⟨_, _, hr⟩ | ⟨g, _⟩ | g
    · omega
    · rw [hpg, show ((k : Int) + 1 - 1).toNat = k by omega] at hr
      have := hr.1 (u % 8) (by omega)
      unfold RoomP at this
      rw [show 8 * (u / 8) + u % 8 = u by omega] at this
      by_cases c2 : u % 8 % usz k = 0
      · rcases this.2 c2 with g | g <;> omega
      · have := (this.1 c2).2; omega
    · omega
    · have := g.1; omega
  · rw [List.count_eq_zero.2 c]; omega
theorem BookP.mk' {b : Bk} (hs : Sizes b) (h1 : ∀ i, i < b.1.toNat → slotB b i = true) (h2 : ∀ u, u < nu b → ownB b u = true)
    (h3 : ∀ k, k < 4 → ∀ x ∈ hd b k, memB b k x = true) (h4 : ∀ p, p < np b → PageW b p) : BookP b := by
  refine ⟨?_, ?_, fun p hp => pageP_of h4 hp⟩
  · unfold slotsB
    rw [dt hs, Bool.true_and, Bool.and_eq_true]
    exact ⟨(allB_iff _ _ _).2 fun j _ hj => h1 j (by omega), (allB_iff _ _ _).2 fun j _ hj => h2 j (by omega)⟩
  · unfold listsB
    refine (allB_iff _ _ _).2 fun k _ hk => ?_
    have hk : k < 4 := by omega
    rw [listB, Bool.and_eq_true, List.all_eq_true]
    refine ⟨decide_eq_true ?_, h3 k hk⟩
    have := count_sm (nu b) (hd b k) (fun x hx => by have := of_decide_eq_true (h3 k hk x hx); omega)
    have h5 := sm_le (fun u => ((hd b k).count ((u : Nat) : Int) : Int)) 1 (nu b) (fun u hu => by
      have := page_count hs h3 h4 hk hu
      omega)
    omega
/-- A page that nothing touches. -/
theorem PageW.same {b b' : Bk} {p : Nat} (h : PageW b p) (hn : np b' = np b) (hp : pg b' p = pg b p) (ho : ∀ u, u < 8 → (ow b' (8 * p + u) = 0 ↔ ow b (8 * p + u) = 0) ∧ (0 < ow b' (8 * p + u) ↔ 0 < ow b (8 * p + u)))
    (hc : ∀ k : Nat, k < 4 → pg b p = (k : Int) + 1 → ∀ u, u < 8 → (hd b' k).count ((8 * p + u : Nat) : Int) = (hd b k).count ((8 * p + u : Nat) : Int))
    (h7 : pg b p = 7 → ∀ q, q < p → 10 ≤ pg b q → (p : Int) < q + (pg b q - 8) → pg b' q = pg b q)
    (hw : 10 ≤ pg b p → ∀ i : Nat, 1 ≤ i → (i : Int) < pg b p - 8 → pg b' (p + i) = pg b (p + i)) : PageW b' p := by
  have hf : ∀ f, FreeP b p f → FreeP b' p f := fun f g u h1 h2 => (ho u h2).1.2 (g u h1 h2)
  rcases h with ⟨h0, hfr⟩ | ⟨h1, h2, hr⟩ | ⟨g7, hfr, q, hq, hq10, hqp⟩ | g
  · exact .inl ⟨by rw [hp]; exact h0, hf 0 hfr⟩
  · refine .inr (.inl ?_)
    rw [hp]
    refine ⟨h1, h2, fun u hu => ?_, ?_⟩
    · have := hr.1 u hu
      unfold RoomP at this ⊢
      rw [propext (ho u hu).1, propext (ho u hu).2, hc (pg b p - 1).toNat (by omega) (by omega) u hu]
      exact this
    · obtain ⟨u, hu, g⟩ := hr.2
      exact ⟨u, hu, (ho u hu).2.2 g⟩
  · have := h7 g7 q hq hq10 hqp
    exact .inr (.inr (.inl ⟨by rw [hp]; exact g7, hf 0 hfr, q, hq, by rw [this]; exact hq10, by rw [this]; exact hqp⟩))
  · refine .inr (.inr (.inr ?_))
    obtain ⟨w1, w2, w3, w4, w5, w6⟩ := g
    have h80 := ho 0 (by omega)
    rw [Nat.add_zero] at h80
    unfold WideP
    rw [hp, hn]
    exact ⟨w1, w2, w3, fun e => w4 (h80.1.1 e), hf 1 w5, fun i g1 g2 => by rw [hw w1 i g1 g2]; exact w6 i g1 g2⟩
theorem setRow_getD (x : Int) : ∀ n p (l : List Int) (v : Nat), p + n ≤ l.length → (setRow l x n p).getD v 0 = if p ≤ v ∧ v < p + n then x else l.getD v 0
  | 0, p, l, v, h => by rw [setRow, if_neg (by omega)]
  | n + 1, p, l, v, h => by
    rw [setRow, setRow_getD x n (p + 1) _ v (by rw [List.length_set]; omega), getD_set _ _ _ _ (by omega)]
    by_cases c : p + 1 ≤ v ∧ v < p + 1 + n
    · rw [if_pos c, if_pos (by omega)]
    · rw [if_neg c]
      by_cases c2 : v = p
      · rw [if_pos c2, if_pos (by omega)]
      · rw [if_neg c2, if_neg (by omega)]
theorem ieq {a c : Int} (h : a = c) : (a = 0 ↔ c = 0) ∧ (0 < a ↔ 0 < c) := by rw [h]; exact ⟨Iff.rfl, Iff.rfl⟩
theorem memB_iff {b : Bk} {k : Nat} {x : Int} : memB b k x = true ↔ 0 ≤ x ∧ x < nu b ∧ pg b (x / 8).toNat = k + 1 ∧ x % (usz k : Int) = 0 := by
  unfold memB; exact decide_eq_true_iff
theorem ownB_iff {b : Bk} {u : Nat} : ownB b u = true ↔ 0 ≤ ow b u ∧ ow b u ≤ b.1 ∧ (0 < ow b u → inn b (ow b u - 1).toNat ≠ 0) := by
  unfold ownB; exact decide_eq_true_iff
/-- A change that leaves the slots alone. -/
theorem book_change {b b' : Bk} (hs : Sizes b) (hsl : ∀ i, i < b.1.toNat → slotB b i = true) (hob : ∀ u, u < nu b → ownB b u = true) (h1 : b'.1 = b.1) (hi : b'.2.2.2.2 = b.2.2.2.2) (hp : np b' = np b) (hu : nu b' = nu b)
    (ho : ∀ u, u < nu b → ow b' u = ow b u ∨ ow b' u = 0 ∨ (1 ≤ ow b' u ∧ ow b' u ≤ b.1 ∧ inn b (ow b' u - 1).toNat ≠ 0))
    (hl : ∀ k, k < 4 → ∀ x ∈ hd b' k, memB b' k x = true) (hpg : ∀ p, p < np b → PageW b' p) : BookP b' := by
  have hin : ∀ i, inn b' i = inn b i := fun i => by unfold inn; rw [hi]
  have hep : ∀ i, ep b' i = ep b i := fun i => by unfold ep; rw [hi]
  refine BookP.mk' ?_ (fun i h => ?_) (fun u h => ?_) hl (fun p h => hpg p (by omega))
  · unfold Sizes at hs ⊢
    rw [h1, hi, hp, hu]
    exact hs
  · rw [h1] at h
    have := hsl i h
    unfold slotB at this ⊢
    rw [hin, hep]
    exact this
  · rw [hu] at h
    have := ownB_iff.1 (hob u h)
    refine ownB_iff.2 ?_
    rw [hin, h1]
    rcases ho u h with e | e | e
    · rw [e]; exact this
    · rw [e]; unfold Sizes at hs; exact ⟨by omega, by omega, fun g => by omega⟩
    · exact ⟨by omega, e.2.1, fun _ => e.2.2⟩
/-- A free room of a page is taken. -/
theorem pop_ok {c : Bk} (hs : Sizes c) (hsl : ∀ i, i < c.1.toNat → slotB c i = true) (hob : ∀ u, u < nu c → ownB c u = true) (h3 : ∀ k, k < 4 → ∀ x ∈ hd c k, memB c k x = true)
    {k p0 : Nat} (hk : k < 4) (hpg : pg c p0 = (k : Int) + 1) (hr : ∀ u, u < 8 → RoomP c p0 k u) (h4 : ∀ p, p < np c → p ≠ p0 → PageW c p)
    {x : Int} {r : List Int} (hx : hd c k = x :: r) (hxp : (x / 8).toNat = p0) {s : Int} (hs0 : 0 ≤ s) (hs1 : s < c.1) (hin : inn c s.toNat ≠ 0) : BookP (popP c s k).1 := by
  have hm := memB_iff.1 (h3 k hk x (by rw [hx]; exact List.mem_cons_self))
  obtain ⟨u0, rfl⟩ : ∃ u : Nat, x = u := ⟨x.toNat, by omega⟩
  have hb' : (popP c s k).1 = wOw (wHd c k r) u0 (s + 1) := by unfold popP; rw [hx]; rfl
  rw [hb']
  have hu0 : u0 < nu c := by omega
  have hu0' : u0 < c.2.2.2.1.length := hu0
  have ho : ∀ v, ow (wOw (wHd c k r) u0 (s + 1)) v = if v = u0 then s + 1 else ow c v := fun v => getD_set _ _ _ _ hu0'
  have hk1 : hd (wOw (wHd c k r) u0 (s + 1)) k = r := hd_hset _ _ _ _ hk _
  have hk2 : ∀ j, j < 4 → j ≠ k → hd (wOw (wHd c k r) u0 (s + 1)) j = hd c j := fun j hj hne => hd_other _ _ _ _ hk hj hne _
  have hnu : nu (wOw (wHd c k r) u0 (s + 1)) = nu c := by show (c.2.2.2.1.set u0 (s + 1)).length = _; rw [List.length_set]; rfl
  have hcount : ∀ v : Nat, v ≠ u0 → (hd c k).count (v : Int) = r.count (v : Int) := fun v hv => by
    rw [hx, List.count_cons, beq_eq_false_iff_ne.2 (by omega), if_neg (by decide)]; rfl
  refine book_change hs hsl hob rfl rfl rfl hnu (fun v hv => ?_) (fun j hj y hy => ?_) (fun p hp => ?_)
  · rw [ho]
    by_cases e : v = u0
    · rw [if_pos e]
      refine .inr (.inr ⟨by omega, by omega, ?_⟩)
      rw [show s + 1 - 1 = s by omega]; exact hin
    · rw [if_neg e]; exact .inl rfl
  · have hy' : y ∈ hd c j := by
      by_cases e : j = k
      · subst e; rw [hk1] at hy; rw [hx]; exact List.mem_cons_of_mem _ hy
      · rwa [hk2 j hj e] at hy
    have := memB_iff.1 (h3 j hj y hy')
    refine memB_iff.2 ?_
    rw [hnu]
    exact this
  · by_cases e : p = p0
    · subst e
      refine .inr (.inl ⟨?_, ?_, ?_, ?_⟩)
      · show 1 ≤ pg c p; omega
      · show pg c p ≤ 4; omega
      · have e2 : (pg (wOw (wHd c k r) u0 (s + 1)) p - 1).toNat = k := by show (pg c p - 1).toNat = k; omega
        rw [e2]
        intro u hu
        have hru := hr u hu
        unfold RoomP at hru ⊢
        rw [hk1, ho]
        by_cases e3 : 8 * p + u = u0
        · rw [if_pos e3]
          rw [hx, e3, List.count_cons, beq_iff_eq.2 rfl, if_pos rfl] at hru
          have hz : r.count (u0 : Int) = 0 ∧ u % usz k = 0 := by
            by_cases g : u % usz k = 0
            · refine ⟨?_, g⟩
              rcases hru.2 g with g2 | g2 <;> omega
            · have := (hru.1 g).2; omega
          rw [e3, hz.1]
          exact ⟨fun g => (g hz.2).elim, fun _ => .inl ⟨by omega, rfl⟩⟩
        · rw [if_neg e3, ← hcount _ e3]; exact hru
      · refine ⟨u0 % 8, by omega, ?_⟩
        rw [ho, if_pos (by omega)]; omega
    · refine (h4 p hp e).same rfl rfl (fun u hu => ieq ?_) (fun j hj _ u hu => ?_) (fun _ _ _ _ _ => rfl) (fun _ _ _ _ => rfl)
      · rw [ho, if_neg (by omega)]
      · by_cases e2 : j = k
        · subst e2; rw [hk1, hcount _ (by omega)]
        · rw [hk2 j hj e2]
theorem roomsOf_mem {k : Nat} (hk : k < 4) : ∀ n u, ∀ x ∈ roomsOf k n u, ∃ v : Nat, x = v ∧ u ≤ v ∧ v < u + n * usz k ∧ (v - u) % usz k = 0
  | 0, u, x, h => by cases h
  | n + 1, u, x, h => by
    have hz := usz_vals hk
    rw [roomsOf] at h
    rcases List.mem_cons.1 h with e | h
    · refine ⟨u, e, Nat.le_refl _, ?_, by rw [Nat.sub_self, Nat.zero_mod]⟩
      rw [Nat.add_mul]; omega
    · obtain ⟨v, e, h1, h2, h3⟩ := roomsOf_mem hk n _ x h
      refine ⟨v, e, by omega, by rw [Nat.add_mul]; omega, ?_⟩
      rcases hz with ⟨hz, _⟩ | ⟨hz, _⟩ | ⟨hz, _⟩ | ⟨hz, _⟩ <;> rw [hz] at h3 h1 ⊢ <;> omega
theorem roomsOf_count {k : Nat} (hk : k < 4) : ∀ n u (v : Nat), (roomsOf k n u).count (v : Int) = if u ≤ v ∧ v < u + n * usz k ∧ (v - u) % usz k = 0 then 1 else 0
  | 0, u, v => by rw [roomsOf, List.count_nil, if_neg (by omega)]
  | n + 1, u, v => by
    have hz := usz_vals hk
    rw [roomsOf, List.count_cons, roomsOf_count hk n _ v]
    by_cases e : v = u
    · subst e
      rw [beq_iff_eq.2 rfl, if_pos rfl, if_neg (by omega), if_pos]
      refine ⟨Nat.le_refl _, ?_, by rw [Nat.sub_self, Nat.zero_mod]⟩
      rw [Nat.add_mul]; omega
    · rw [beq_eq_false_iff_ne.2 (by omega), if_neg (c := false = true) (by decide), Nat.add_zero, Nat.add_mul]
      by_cases c : u + usz k ≤ v ∧ v < u + usz k + n * usz k ∧ (v - (u + usz k)) % usz k = 0
      · rw [if_pos c, if_pos]
        obtain ⟨c1, c2, c3⟩ := c
        refine ⟨by omega, by omega, ?_⟩
        rcases hz with ⟨hz, _⟩ | ⟨hz, _⟩ | ⟨hz, _⟩ | ⟨hz, _⟩ <;> rw [hz] at c1 c3 ⊢ <;> omega
      · rw [if_neg c, if_neg]
        intro ⟨c1, c2, c3⟩
        refine c ?_
        rcases hz with ⟨hz, _⟩ | ⟨hz, _⟩ | ⟨hz, _⟩ | ⟨hz, _⟩ <;> rw [hz] at c2 c3 ⊢ <;> exact ⟨by omega, by omega, by omega⟩
theorem usz_div {k : Nat} (hk : k < 4) : 8 / usz k * usz k = 8 := by
  rcases usz_vals hk with ⟨hz, _⟩ | ⟨hz, _⟩ | ⟨hz, _⟩ | ⟨hz, _⟩ <;> rw [hz]
/-- A page is split and its first room taken. -/
theorem carve_ok {b : Bk} (h : BookP b) {k p : Nat} (hk : k < 4) (hp : p < np b) (h0 : pg b p = 0) (hnil : hd b k = []) {s : Int} (hs0 : 0 ≤ s) (hs1 : s < b.1) (hin : inn b s.toNat ≠ 0) : BookP (popP (carveP b p k) s k).1 := by
  have hp' : p < b.2.1.length := hp
  have hdim := h.dims
  have hpgc : ∀ q, pg (carveP b p k) q = if q = p then (k : Int) + 1 else pg b q := fun q => getD_set _ _ _ _ hp'
  have hk1 : hd (carveP b p k) k = roomsOf k (8 / usz k) (8 * p) := by
    have : hd (carveP b p k) k = hd b k ++ roomsOf k (8 / usz k) (8 * p) := hd_hset _ _ _ _ hk _
    rw [this, hnil]; rfl
  have hk2 : ∀ j, j < 4 → j ≠ k → hd (carveP b p k) j = hd b j := fun j hj hne => hd_other _ _ _ _ hk hj hne _
  have hnp : np (carveP b p k) = np b := by show (b.2.1.set p ((k : Int) + 1)).length = _; rw [List.length_set]; rfl
  have hd8 := usz_div hk
  obtain ⟨r, hr⟩ := runOf_rooms hk p
  have hfree : FreeP b p 0 := (h.page hp).1 h0
  refine pop_ok (c := carveP b p k) (p0 := p) (x := ((8 * p : Nat) : Int)) (r := r) ?_ (fun i hi => h.slot hi) (fun u hu => h.own hu) (fun j hj x hx => ?_) hk (by rw [hpgc, if_pos rfl]) (fun u hu => ?_) (fun q hq hne => ?_) (by rw [hk1, hr]) (by omega) hs0 hs1 hin
  · have := h.sizes
    unfold Sizes at this ⊢
    rw [hnp]
    exact this
  · refine memB_iff.2 ?_
    have e : nu (carveP b p k) = nu b := rfl
    rw [e]
    by_cases c : j = k
    · subst c
      rw [hk1] at hx
      obtain ⟨v, e, h1, h2, h3⟩ := roomsOf_mem hk _ _ x hx
      rw [hd8] at h2
      refine ⟨by omega, by omega, ?_, ?_⟩
      · rw [hpgc, if_pos (by omega)]
      · rw [e]
        have := usz_dvd hk p (v - 8 * p)
        rw [show 8 * p + (v - 8 * p) = v by omega] at this
        omega
    · rw [hk2 j hj c] at hx
      have := memB_iff.1 (h.list hj hx)
      refine ⟨this.1, this.2.1, ?_, this.2.2.2⟩
      rw [hpgc, if_neg, this.2.2.1]
      intro e
      have := this.2.2.1
      rw [e] at this
      omega
  · unfold RoomP
    have ho : ow (carveP b p k) (8 * p + u) = 0 := hfree u (by omega) hu
    rw [hk1, roomsOf_count hk, hd8, ho, show 8 * p + u - 8 * p = u by omega]
    by_cases c : u % usz k = 0
    · rw [if_pos ⟨by omega, by omega, c⟩]; exact ⟨fun g => (g c).elim, fun _ => .inr ⟨rfl, rfl⟩⟩
    · rw [if_neg (fun g => c g.2.2)]; exact ⟨fun _ => ⟨rfl, rfl⟩, fun g => (c g).elim⟩
  · rw [hnp] at hq
    refine (h.pageW hq).same hnp (by rw [hpgc, if_neg hne]) (fun u hu => ieq rfl) (fun j hj hj2 u hu => ?_) (fun _ q' _ h10 _ => ?_) (fun h10 i h1 h2 => ?_)
    · by_cases c : j = k
      · subst c; rw [hk1, hnil, roomsOf_count hk, hd8, if_neg (by omega), List.count_nil]
      · rw [hk2 j hj c]
    · rw [hpgc, if_neg]; intro e; rw [e] at h10; omega
    · have := (h.wide hq h10).2.2.2.2.2 i h1 h2
      rw [hpgc, if_neg]; intro e; rw [e] at this; omega
theorem runOf_in {b : Bk} {n : Nat} (hn : 1 ≤ n) (h : ¬ runOf b.2.1 n < 0) : ∃ p : Nat, runOf b.2.1 n = p ∧ p + n ≤ np b ∧ ∀ i, i < n → pg b (p + i) = 0 := by
  unfold runOf at h ⊢
  rcases runFrom_spec b.2.1 n (b.2.1.length + 1 - n) 0 with e | ⟨q, e, h1, h2, h3⟩
  · rw [e] at h; omega
  · refine ⟨q, e, by unfold np; omega, fun i hi => ?_⟩
    have := (allB_iff _ _ _).1 h3 i (by omega) (by omega)
    exact of_decide_eq_true this
/-- A row of pages is taken. -/
theorem pages_ok {b : Bk} (h : BookP b) {n : Nat} (hn : 2 ≤ n) (hn4 : n ≤ 4) {s : Int} (hs0 : 0 ≤ s) (hs1 : s < b.1) (hin : inn b s.toNat ≠ 0) : BookP (pagesP b s n).1 := by
  unfold pagesP
  by_cases c : runOf b.2.1 n < 0
  · rw [if_pos c]; exact h
  rw [if_neg c]
  obtain ⟨p, e, hp, hz⟩ := runOf_in (by omega) c
  rw [e]
  dsimp only
  rw [Int.toNat_natCast]
  have hdim := h.dims
  have hl : b.2.1.length = np b := rfl
  have hlu : b.2.2.2.1.length = nu b := rfl
  generalize hb' : wOw (wPg b (setRow (b.2.1.set p (8 + (n : Int))) 7 (n - 1) (p + 1))) (8 * p) (s + 1) = b'
  have hpg : ∀ q, pg b' q = if q = p then 8 + (n : Int) else if p < q ∧ q < p + n then 7 else pg b q := fun q => by
    rw [← hb']
    show (setRow (b.2.1.set p (8 + (n : Int))) 7 (n - 1) (p + 1)).getD q 0 = _
    rw [setRow_getD _ _ _ _ _ (by rw [List.length_set]; omega), getD_set _ _ _ _ (by omega)]
    by_cases c1 : q = p
    · rw [if_pos c1, if_pos c1, if_neg (by omega)]
    · rw [if_neg c1, if_neg c1]
      by_cases c2 : p < q ∧ q < p + n
      · rw [if_pos c2, if_pos (by omega)]
      · rw [if_neg c2, if_neg (by omega)]; rfl
  have ho : ∀ v, ow b' v = if v = 8 * p then s + 1 else ow b v := fun v => by
    rw [← hb']; exact getD_set b.2.2.2.1 _ _ _ (by omega)
  have hnp : np b' = np b := by
    rw [← hb']
    show (setRow (b.2.1.set p (8 + (n : Int))) 7 (n - 1) (p + 1)).length = _
    rw [setRow_len, List.length_set]; rfl
  have hnu : nu b' = nu b := by rw [← hb']; show (b.2.2.2.1.set (8 * p) (s + 1)).length = _; rw [List.length_set]; rfl
  have hhd : ∀ k, hd b' k = hd b k := fun k => by rw [← hb']; exact hd_heads _ _ rfl k
  have hzero : ∀ q, p ≤ q → q < p + n → pg b q = 0 := fun q h1 h2 => by have := hz (q - p) (by omega); rwa [show p + (q - p) = q by omega] at this
  have hout : ∀ q, pg b q ≠ 0 → pg b' q = pg b q := fun q hq => by
    rw [hpg]
    by_cases c1 : p ≤ q ∧ q < p + n
    · exact (hq (hzero q c1.1 c1.2)).elim
    · rw [if_neg (by omega), if_neg (by omega)]
  refine book_change h.sizes (fun i hi => h.slot hi) (fun u hu => h.own hu) (by rw [← hb']; rfl) (by rw [← hb']; rfl) hnp hnu (fun v hv => ?_) (fun j hj x hx => ?_) (fun q hq => ?_)
  · rw [ho]
    by_cases e : v = 8 * p
    · rw [if_pos e]
      refine .inr (.inr ⟨by omega, by omega, ?_⟩)
      rw [show s + 1 - 1 = s by omega]; exact hin
    · rw [if_neg e]; exact .inl rfl
  · rw [hhd] at hx
    have := memB_iff.1 (h.list hj hx)
    refine memB_iff.2 ?_
    rw [hnu]
    refine ⟨this.1, this.2.1, ?_, this.2.2.2⟩
    rw [hout _ (by omega)]; exact this.2.2.1
  · by_cases c1 : q = p
    · subst c1
      have hf : FreeP b q 0 := (h.page (p := q) (by omega)).1 (hzero q (by omega) (by omega))
      refine .inr (.inr (.inr ?_))
      have e1 : pg b' q = 8 + (n : Int) := by rw [hpg, if_pos rfl]
      unfold WideP
      rw [e1, hnp]
      refine ⟨by omega, by omega, by omega, by rw [ho, if_pos rfl]; omega, fun u h1 h2 => ?_, fun i h1 h2 => ?_⟩
      · rw [ho, if_neg (by omega)]; exact hf u (by omega) h2
      · rw [hpg, if_neg (by omega), if_pos (by omega)]
    · by_cases c2 : p < q ∧ q < p + n
      · have hf : FreeP b q 0 := (h.page (p := q) (by omega)).1 (hzero q (by omega) (by omega))
        refine .inr (.inr (.inl ⟨by rw [hpg, if_neg c1, if_pos c2], fun u h1 h2 => ?_, p, by omega, by rw [hpg, if_pos rfl]; omega, by rw [hpg, if_pos rfl]; omega⟩))
        rw [ho, if_neg (by omega)]; exact hf u h1 h2
      · refine (h.pageW hq).same hnp (by rw [hpg, if_neg c1, if_neg c2]) (fun u hu => ieq ?_) (fun j hj hj2 u hu => by rw [hhd]) (fun _ q' _ h10 _ => hout _ (by omega)) (fun h10 i h1 h2 => hout _ ?_)
        · rw [ho, if_neg (by omega)]
        · have := (h.wide hq h10).2.2.2.2.2 i h1 h2; omega
theorem take_ok {b : Bk} (h : BookP b) {s : Int} (hs0 : 0 ≤ s) (hs1 : s < b.1) (hin : inn b s.toNat ≠ 0) (u : Int) : BookP (takeP b s u).1 := by
  unfold takeP
  rcases kindOf_cases u with hk | ⟨hk, hu1, hu2⟩ | ⟨k, hk4, hk⟩
  · rw [hk, if_pos (by omega)]; exact h
  · rw [hk, if_neg (by omega), if_pos rfl]; exact pages_ok h (by omega) (by omega) hs0 hs1 hin
  · rw [hk, if_neg (by omega), if_neg (by omega)]
    dsimp only
    rw [Int.toNat_natCast]
    by_cases c : (hd b k).length = 0
    · rw [if_pos c]
      by_cases c2 : runOf b.2.1 1 < 0
      · rw [if_pos c2]; exact h
      · rw [if_neg c2]
        obtain ⟨p, e, hp, hz⟩ := runOf_in (by omega) c2
        rw [e, Int.toNat_natCast]
        exact carve_ok h hk4 (by omega) (by have := hz 0 (by omega); rwa [Nat.add_zero] at this) (List.eq_nil_of_length_eq_zero c) hs0 hs1 hin
    · rw [if_neg c]
      cases hl : hd b k with
      | nil => rw [hl] at c; exact (c rfl).elim
      | cons x r =>
        have hm := memB_iff.1 (h.list hk4 (x := x) (by rw [hl]; exact List.mem_cons_self))
        have hdim := h.dims
        refine pop_ok h.sizes (fun i hi => h.slot hi) (fun u hu => h.own hu) (fun j hj y hy => h.list hj hy) hk4 (p0 := (x / 8).toNat) hm.2.2.1 ?_ (fun p hp _ => h.pageW hp) hl rfl hs0 hs1 hin
        have := ((h.page (p := (x / 8).toNat) (by omega)).2.1 (by omega)).1
        rwa [hm.2.2.1, show ((k : Int) + 1 - 1).toNat = k by omega] at this
theorem free_ok {b : Bk} (h : BookP b) {u : Nat} (hu : u < nu b) (hou : ow b u ≠ 0) : BookP (freeP b u) := by
  have hdim := h.dims
  have hl : b.2.1.length = np b := rfl
  have hlu : b.2.2.2.1.length = nu b := rfl
  obtain ⟨p, e8, hp, hc⟩ := h.owned hu hou
  unfold freeP
  rw [e8]
  dsimp only
  rcases hc with ⟨c1, c2, c3⟩ | ⟨c1, c2, c3⟩
  · rw [if_pos ⟨c1, c2⟩]
    obtain ⟨k, hkk⟩ : ∃ k : Nat, pg b p = (k : Int) + 1 := ⟨(pg b p - 1).toNat, by omega⟩
    have hk : k < 4 := by omega
    rw [show (pg b p - 1).toNat = k by omega] at c3 ⊢
    have hrooms := (h.page hp).2.1 ⟨c1, c2⟩
    rw [show (pg b p - 1).toNat = k by omega] at hrooms
    have hru := hrooms.1 (u % 8) (by omega)
    unfold RoomP at hru
    rw [show 8 * p + u % 8 = u by omega] at hru
    have hmod : u % 8 % usz k = 0 := by
      have := usz_dvd hk p (u % 8)
      rw [show 8 * p + u % 8 = u by omega] at this
      omega
    have hcu : (hd b k).count ((u : Nat) : Int) = 0 := by
      rcases hru.2 hmod with g | g
      · exact g.2
      · exact (hou g.1).elim
    by_cases cf : FreeP (wHd (wOw b u 0) k ((u : Int) :: hd b k)) p 0
    · -- the page becomes empty
      rw [tf_t cf, cond_true]
      generalize hb' : wHd (wPg (wHd (wOw b u 0) k ((u : Int) :: hd b k)) (b.2.1.set p 0)) k (((u : Int) :: hd b k).filter fun x => x / 8 != (p : Int)) = b'
      have hpg : ∀ q, pg b' q = if q = p then 0 else pg b q := fun q => by rw [← hb']; exact getD_set b.2.1 _ _ _ (by omega)
      have ho : ∀ v, ow b' v = if v = u then 0 else ow b v := fun v => by rw [← hb']; exact getD_set b.2.2.2.1 _ _ _ (by omega)
      have hnp : np b' = np b := by rw [← hb']; show (b.2.1.set p 0).length = _; rw [List.length_set]; rfl
      have hnu : nu b' = nu b := by rw [← hb']; show (b.2.2.2.1.set u 0).length = _; rw [List.length_set]; rfl
      have hk1 : hd b' k = ((u : Int) :: hd b k).filter fun x => x / 8 != (p : Int) := by rw [← hb']; exact hd_hset _ _ _ _ hk _
      have hk2 : ∀ j, j < 4 → j ≠ k → hd b' j = hd b j := fun j hj hne => by
        rw [← hb']
        have e1 := hd_other b.1 (b.2.1.set p 0) (hset b.2.2.1 k ((u : Int) :: hd b k)) (b.2.2.2.1.set u 0, b.2.2.2.2) hk hj hne (((u : Int) :: hd b k).filter fun x => x / 8 != (p : Int))
        have e2 := hd_other b.1 (b.2.1.set p 0) b.2.2.1 (b.2.2.2.1.set u 0, b.2.2.2.2) hk hj hne ((u : Int) :: hd b k)
        exact e1.trans (e2.trans (hd_heads _ _ rfl j))
      refine book_change h.sizes (fun i hi => h.slot hi) (fun u hu => h.own hu) (by rw [← hb']; rfl) (by rw [← hb']; rfl) hnp hnu (fun v hv => ?_) (fun j hj x hx => ?_) (fun q hq => ?_)
      · rw [ho]
        by_cases e : v = u
        · rw [if_pos e]; exact .inr (.inl rfl)
        · rw [if_neg e]; exact .inl rfl
      · refine memB_iff.2 ?_
        rw [hnu, hpg]
        by_cases c : j = k
        · subst c
          rw [hk1, List.mem_filter] at hx
          have hne : x / 8 ≠ (p : Int) := by have := hx.2; rwa [bne_iff_ne] at this
          have hx1 : x ∈ hd b j := by
            rcases List.mem_cons.1 hx.1 with g | g
            · rw [g] at hne; exact (hne (by omega)).elim
            · exact g
          have := memB_iff.1 (h.list hj hx1)
          rw [if_neg (by omega)]
          exact this
        · rw [hk2 j hj c] at hx
          have := memB_iff.1 (h.list hj hx)
          rw [if_neg]
          · exact this
          · intro e
            have g := this.2.2.1
            rw [e, hkk] at g
            omega
      · by_cases c : q = p
        · subst c
          refine .inl ⟨by rw [hpg, if_pos rfl], fun v h1 h2 => ?_⟩
          have := cf v h1 h2
          rw [← hb']
          exact this
        · refine (h.pageW hq).same hnp (by rw [hpg, if_neg c]) (fun v hv => ieq ?_) (fun j hj hj2 v hv => ?_) (fun _ q' _ h10 _ => ?_) (fun h10 i h1 h2 => ?_)
          · rw [ho, if_neg (by omega)]
          · by_cases e : j = k
            · subst e
              rw [hk1, List.count_filter (by rw [bne_iff_ne]; omega), List.count_cons, beq_eq_false_iff_ne.2 (by omega), if_neg (by decide)]; rfl
            · rw [hk2 j hj e]
          · rw [hpg, if_neg]; intro e; rw [e] at h10; omega
          · have := (h.wide hq h10).2.2.2.2.2 i h1 h2
            rw [hpg, if_neg]; intro e; rw [e] at this; omega
    · rw [tf_f cf, cond_false]
      generalize hb' : wHd (wOw b u 0) k ((u : Int) :: hd b k) = b' at cf ⊢
      have hpg : ∀ q, pg b' q = pg b q := fun q => by rw [← hb']; rfl
      have ho : ∀ v, ow b' v = if v = u then 0 else ow b v := fun v => by rw [← hb']; exact getD_set b.2.2.2.1 _ _ _ (by omega)
      have hnp : np b' = np b := by rw [← hb']; rfl
      have hnu : nu b' = nu b := by rw [← hb']; show (b.2.2.2.1.set u 0).length = _; rw [List.length_set]; rfl
      have hk1 : hd b' k = (u : Int) :: hd b k := by rw [← hb']; exact hd_hset _ _ _ _ hk _
      have hk2 : ∀ j, j < 4 → j ≠ k → hd b' j = hd b j := fun j hj hne => by rw [← hb']; exact hd_other _ _ _ _ hk hj hne _
      refine book_change h.sizes (fun i hi => h.slot hi) (fun u hu => h.own hu) (by rw [← hb']; rfl) (by rw [← hb']; rfl) hnp hnu (fun v hv => ?_) (fun j hj x hx => ?_) (fun q hq => ?_)
      · rw [ho]
        by_cases e : v = u
        · rw [if_pos e]; exact .inr (.inl rfl)
        · rw [if_neg e]; exact .inl rfl
      · refine memB_iff.2 ?_
        rw [hnu, hpg]
        by_cases c : j = k
        · subst c
          rw [hk1] at hx
          rcases List.mem_cons.1 hx with g | g
          · rw [g, show ((u : Int) / 8).toNat = p by omega]
            exact ⟨by omega, by omega, hkk, by omega⟩
          · exact memB_iff.1 (h.list hj g)
        · rw [hk2 j hj c] at hx
          exact memB_iff.1 (h.list hj hx)
      · by_cases c : q = p
        · subst c
          refine .inr (.inl ⟨by rw [hpg]; exact c1, by rw [hpg]; exact c2, ?_⟩)
          rw [hpg, show (pg b q - 1).toNat = k by omega]
          refine ⟨fun v hv => ?_, ?_⟩
          · have hrv := hrooms.1 v hv
            unfold RoomP at hrv ⊢
            rw [hk1, ho, List.count_cons]
            by_cases e : 8 * q + v = u
            · rw [if_pos e, e, hcu, beq_iff_eq.2 rfl, if_pos rfl]
              have e2 : v = u % 8 := by omega
              rw [e2]
              exact ⟨fun g => (g hmod).elim, fun _ => .inr ⟨rfl, rfl⟩⟩
            · rw [if_neg e, beq_eq_false_iff_ne.2 (by omega), if_neg (c := false = true) (by decide)]
              exact hrv
          · apply Classical.byContradiction
            intro g
            apply cf
            intro v h1 h2
            apply Classical.byContradiction
            intro g2
            refine g ⟨v, h2, ?_⟩
            have h3 := h.ow_nn (u := 8 * q + v) (by omega)
            rw [ho] at g2 ⊢
            by_cases e : 8 * q + v = u
            · rw [if_pos e] at g2; exact (g2 rfl).elim
            · rw [if_neg e] at g2 ⊢; omega
        · refine (h.pageW hq).same hnp (by rw [hpg]) (fun v hv => ieq ?_) (fun j hj hj2 v hv => ?_) (fun _ q' _ h10 _ => hpg _) (fun h10 i h1 h2 => hpg _)
          · rw [ho, if_neg (by omega)]
          · by_cases e : j = k
            · subst e
              rw [hk1, List.count_cons, beq_eq_false_iff_ne.2 (by omega), if_neg (by decide)]; rfl
            · rw [hk2 j hj e]
  · rw [if_neg (by omega)]
    obtain ⟨n, hn⟩ : ∃ n : Nat, pg b p = 8 + (n : Int) := ⟨(pg b p - 8).toNat, by omega⟩
    rw [show (pg b p - 8).toNat = n by omega]
    have hw := h.wide hp c1
    have hw3 := hw.2.2.1
    have hrest : ∀ q, p < q → q < p + n → pg b q = 7 := fun q h1 h2 => by
      have := hw.2.2.2.2.2 (q - p) (by omega) (by omega)
      rwa [show p + (q - p) = q by omega] at this
    generalize hb' : wPg (wOw b u 0) (setRow b.2.1 0 n p) = b'
    have hpg : ∀ q, pg b' q = if p ≤ q ∧ q < p + n then 0 else pg b q := fun q => by rw [← hb']; exact setRow_getD _ _ _ b.2.1 _ (by omega)
    have ho : ∀ v, ow b' v = if v = u then 0 else ow b v := fun v => by rw [← hb']; exact getD_set b.2.2.2.1 _ _ _ (by omega)
    have hnp : np b' = np b := by rw [← hb']; show (setRow b.2.1 0 n p).length = _; rw [setRow_len]; rfl
    have hnu : nu b' = nu b := by rw [← hb']; show (b.2.2.2.1.set u 0).length = _; rw [List.length_set]; rfl
    have hhd : ∀ k, hd b' k = hd b k := fun k => by rw [← hb']; exact hd_heads _ _ rfl k
    refine book_change h.sizes (fun i hi => h.slot hi) (fun u hu => h.own hu) (by rw [← hb']; rfl) (by rw [← hb']; rfl) hnp hnu (fun v hv => ?_) (fun j hj x hx => ?_) (fun q hq => ?_)
    · rw [ho]
      by_cases e : v = u
      · rw [if_pos e]; exact .inr (.inl rfl)
      · rw [if_neg e]; exact .inl rfl
    · rw [hhd] at hx
      have := memB_iff.1 (h.list hj hx)
      refine memB_iff.2 ?_
      rw [hnu, hpg, if_neg]
      · exact this
      · intro ⟨g1, g2⟩
        have g := this.2.2.1
        by_cases e : (x / 8).toNat = p
        · rw [e] at g; omega
        · rw [hrest _ (by omega) g2] at g; omega
    · by_cases c : p ≤ q ∧ q < p + n
      · refine .inl ⟨by rw [hpg, if_pos c], fun v h1 h2 => ?_⟩
        rw [ho]
        by_cases e : 8 * q + v = u
        · rw [if_pos e]
        · rw [if_neg e]
          by_cases e2 : q = p
          · rw [e2]; exact hw.2.2.2.2.1 v (by omega) h2
          · exact ((h.page hq).2.2.1 (hrest q (by omega) c.2)).2.2 v h1 h2
      · refine (h.pageW hq).same hnp (by rw [hpg, if_neg c]) (fun v hv => ieq ?_) (fun j hj hj2 v hv => by rw [hhd]) (fun g7 q' h1 h10 h2 => ?_) (fun h10 i h1 h2 => ?_)
        · rw [ho, if_neg (by omega)]
        · rw [hpg, if_neg]
          intro ⟨g1, g2⟩
          by_cases e : q' = p
          · subst e; omega
          · have := hrest q' (by omega) g2; omega
        · have := (h.wide hq h10).2.2.2.2.2 i h1 h2
          rw [hpg, if_neg]
          intro ⟨g1, g2⟩
          by_cases e : q + i = p
          · rw [e] at this; omega
          · by_cases e2 : q < p
            · have := (h.wide hq h10).2.2.2.2.2 (p - q) (by omega) (by omega)
              rw [show q + (p - q) = p by omega] at this
              omega
            · have := hrest q (by omega) (by omega); omega
theorem hand_ok {b : Bk} (h : BookP b) {u : Nat} (hu : u < nu b) (hou : ow b u ≠ 0) {s : Int} (hs0 : 0 ≤ s) (hs1 : s < b.1) (hin : inn b s.toNat ≠ 0) : BookP (wOw b u (s + 1)) := by
  have hlu : b.2.2.2.1.length = nu b := rfl
  have ho : ∀ v, ow (wOw b u (s + 1)) v = if v = u then s + 1 else ow b v := fun v => getD_set _ _ _ _ (by omega)
  have hnu : nu (wOw b u (s + 1)) = nu b := by show (b.2.2.2.1.set u (s + 1)).length = _; rw [List.length_set]; rfl
  have hpos := h.ow_nn hu
  refine book_change h.sizes (fun i hi => h.slot hi) (fun u hu => h.own hu) rfl rfl rfl hnu (fun v hv => ?_) (fun j hj x hx => ?_) (fun q hq => ?_)
  · rw [ho]
    by_cases e : v = u
    · rw [if_pos e]
      refine .inr (.inr ⟨by omega, by omega, ?_⟩)
      rw [show s + 1 - 1 = s by omega]; exact hin
    · rw [if_neg e]; exact .inl rfl
  · have := memB_iff.1 (h.list hj hx)
    refine memB_iff.2 ?_
    rw [hnu]
    exact this
  · refine (h.pageW hq).same rfl rfl (fun v hv => ?_) (fun j hj hj2 v hv => rfl) (fun _ _ _ _ _ => rfl) (fun _ _ _ _ => rfl)
    rw [ho]
    by_cases e : 8 * q + v = u
    · rw [if_pos e, e]; omega
    · rw [if_neg e]; exact ⟨Iff.rfl, Iff.rfl⟩
/-- A change of the slots alone. -/
theorem slots_ok {b b' : Bk} (h : BookP b) (h1 : b'.1 = b.1) (h2 : b'.2.1 = b.2.1) (h3 : b'.2.2.1 = b.2.2.1) (h4 : b'.2.2.2.1 = b.2.2.2.1) (h5 : b'.2.2.2.2.1.length = b.2.2.2.2.1.length) (h6 : b'.2.2.2.2.2.length = b.2.2.2.2.2.length)
    (hsl : ∀ i, i < b.1.toNat → slotB b' i = true) (hob : ∀ u, u < nu b → ow b u ≠ 0 → inn b' (ow b u - 1).toNat ≠ 0) : BookP b' := by
  have hpg : ∀ q, pg b' q = pg b q := fun q => by unfold pg; rw [h2]
  have ho : ∀ v, ow b' v = ow b v := fun v => by unfold ow; rw [h4]
  have hnp : np b' = np b := by unfold np; rw [h2]
  have hnu : nu b' = nu b := by unfold nu; rw [h4]
  have hhd : ∀ k, hd b' k = hd b k := fun k => hd_heads _ _ h3 k
  refine BookP.mk' ?_ (fun i hi => hsl i (by omega)) (fun u hu => ?_) (fun j hj x hx => ?_) (fun q hq => ?_)
  · have := h.sizes
    unfold Sizes at this ⊢
    rw [h1, h5, h6, hnp, hnu]
    exact this
  · rw [hnu] at hu
    have := ownB_iff.1 (h.own hu)
    refine ownB_iff.2 ?_
    rw [ho, h1]
    exact ⟨this.1, this.2.1, fun g => hob u hu (by omega)⟩
  · rw [hhd] at hx
    have := memB_iff.1 (h.list hj hx)
    refine memB_iff.2 ?_
    rw [hnu, hpg]
    exact this
  · exact (h.pageW (by omega)).same hnp (hpg q) (fun v hv => ieq (ho _)) (fun j hj hj2 v hv => by rw [hhd]) (fun _ _ _ _ _ => hpg _) (fun _ _ _ _ => hpg _)
theorem slotB_iff {b : Bk} {i : Nat} : slotB b i = true ↔ 0 ≤ inn b i ∧ inn b i ≤ 2 ∧ 0 ≤ ep b i ∧ ep b i ≤ 4095 ∧ (ep b i = 0 → inn b i = 0) := by
  unfold slotB; exact decide_eq_true_iff
theorem out_ok {b : Bk} (h : BookP b) {s : Nat} (hs : (s : Int) < b.1) (hno : firstOf b s < 0) : BookP (wIn b s 0) := by
  have hdim := h.dims
  have hsl := h.slots
  have hi : ∀ i, inn (wIn b s 0) i = if i = s then 0 else inn b i := fun i => getD_set _ _ _ _ (by omega)
  refine slots_ok h rfl rfl rfl rfl (List.length_set ..) rfl (fun i hi2 => ?_) (fun u hu hne => ?_)
  · have := slotB_iff.1 (h.slot hi2)
    refine slotB_iff.2 ?_
    have e : ep (wIn b s 0) i = ep b i := rfl
    rw [hi, e]
    split
    · exact ⟨by omega, by omega, this.2.2.1, this.2.2.2.1, fun _ => rfl⟩
    · exact this
  · have hob := ownB_iff.1 (h.own hu)
    rw [hi, if_neg]
    · exact hob.2.2 (by omega)
    · intro e
      have e2 : ow b u = (s : Int) + 1 := by omega
      unfold firstOf at hno
      have hmem : ∀ d i, i ≤ u → u < i + d → ∃ x r, blksOf b s d i = x :: r := by
        intro d
        induction d with
        | zero => intro i g1 g2; omega
        | succ d ih =>
          intro i g1 g2
          rw [blksOf]
          by_cases c : ow b i = (s : Int) + 1
          · rw [if_pos c]; exact ⟨_, _, rfl⟩
          · rw [if_neg c]
            refine ih (i + 1) ?_ (by omega)
            by_cases e3 : i = u
            · rw [e3] at c; exact (c e2).elim
            · omega
      obtain ⟨x, r, hl⟩ := hmem (nu b) 0 (by omega) (by omega)
      obtain ⟨v, e3, _⟩ := blks_mem b s (nu b) 0 x (by rw [hl]; exact List.mem_cons_self)
      rw [hl] at hno
      have : x < 0 := hno
      omega
theorem enter_ok {b : Bk} (h : BookP b) {s : Nat} (hs : (s : Int) < b.1) : BookP (enterP b s).1 := by
  have hdim := h.dims
  have hsl := h.slots
  unfold enterP
  by_cases c : inn b s ≠ 0
  · rw [if_pos c]; exact h
  rw [if_neg c]
  by_cases c2 : ep b s = 4095
  · rw [if_pos c2]; exact h
  rw [if_neg c2]
  have hi : ∀ i, inn (wEp (wIn b s 1) s (ep b s + 1)) i = if i = s then 1 else inn b i := fun i => getD_set b.2.2.2.2.1 _ _ _ (by omega)
  have he : ∀ i, ep (wEp (wIn b s 1) s (ep b s + 1)) i = if i = s then ep b s + 1 else ep b i := fun i => getD_set b.2.2.2.2.2 _ _ _ (by omega)
  refine slots_ok h rfl rfl rfl rfl (List.length_set ..) (List.length_set ..) (fun i hi2 => ?_) (fun u hu hne => ?_)
  · have := slotB_iff.1 (h.slot hi2)
    refine slotB_iff.2 ?_
    rw [hi, he]
    by_cases e : i = s
    · rw [if_pos e, if_pos e]
      rw [e] at this
      omega
    · rw [if_neg e, if_neg e]
      exact this
  · have hob := ownB_iff.1 (h.own hu)
    have := h.ow_nn hu
    rw [hi]
    split
    · omega
    · exact hob.2.2 (by omega)
theorem reap_ok {b : Bk} (h : BookP b) (s : Int) : BookP (reapP b s).1 := by
  unfold reapP
  by_cases c : s < 0 ∨ s ≥ b.1 ∨ inn b s.toNat = 0
  · rw [if_pos c]; exact h
  rw [if_neg c]
  by_cases c2 : inn b s.toNat = 1
  · rw [if_pos c2]; exact h
  rw [if_neg c2]
  by_cases c3 : firstOf b s < 0
  · rw [if_pos c3]
    refine out_ok h (by omega) ?_
    rw [Int.toNat_of_nonneg (by omega)]; exact c3
  · rw [if_neg c3]
    rcases firstOf_cases (b := b) s with e | ⟨u, e, h1, h2⟩
    · omega
    · rw [e, Int.toNat_natCast]; exact free_ok h h1 (by omega)
theorem do_ok {b : Bk} (h : BookP b) (op : Op) : BookP (doP b op).1 := by
  unfold doP
  by_cases c : op.2.1 < 0 ∨ op.2.1 ≥ b.1
  · rw [if_pos c]; exact h
  rw [if_neg c]
  by_cases c1 : op.1 = 1
  · rw [if_pos c1]; exact enter_ok h (by omega)
  rw [if_neg c1]
  by_cases c2 : inn b op.2.1.toNat = 0
  · rw [if_pos c2]; exact h
  rw [if_neg c2]
  unfold ownP
  by_cases d2 : op.1 = 2
  · rw [if_pos d2]; exact take_ok h (by omega) (by omega) c2 _
  rw [if_neg d2]
  by_cases d3 : op.1 = 3
  · rw [if_pos d3]
    by_cases w : whoseP b op.2.1 op.2.2.1 > 0
    · rw [if_pos w]; exact h
    · rw [if_neg w]
      obtain ⟨w1, w2, w3, w4⟩ := whose_in w
      exact free_ok h (by omega) w3
  rw [if_neg d3]
  by_cases d4 : op.1 = 4
  · rw [if_pos d4]
    by_cases w : whoseP b op.2.1 op.2.2.1 > 0
    · rw [if_pos w]; exact h
    · rw [if_neg w]
      obtain ⟨w1, w2, w3, w4⟩ := whose_in w
      by_cases g : op.2.2.2 < 0 ∨ op.2.2.2 ≥ b.1 ∨ inn b op.2.2.2.toNat = 0
      · rw [if_pos g]; exact h
      · rw [if_neg g]
        exact hand_ok h (by omega) w3 (by omega) (by omega) (fun e => g (.inr (.inr e)))
  rw [if_neg d4]
  by_cases d5 : op.1 = 5
  · rw [if_pos d5]
    by_cases g : firstOf b op.2.1 ≥ 0
    · rw [if_pos g]; exact h
    · rw [if_neg g]
      refine out_ok h (by omega) ?_
      rw [Int.toNat_of_nonneg (by omega)]; omega
  rw [if_neg d5]
  by_cases d6 : op.1 = 6
  · rw [if_pos d6]; exact reap_ok h _
  · rw [if_neg d6]; exact h
/-- With another code than Done and More the book is as it was, and there is no number. -/
theorem do_same (b : Bk) (op : Op) (h0 : (doP b op).2.1 ≠ 0) (h10 : (doP b op).2.1 ≠ 10) : (doP b op).1 = b ∧ (doP b op).2.2 = 0 := by
  revert h0 h10
  unfold doP
  by_cases c : op.2.1 < 0 ∨ op.2.1 ≥ b.1
  · rw [if_pos c]; exact fun _ _ => ⟨rfl, rfl⟩
  rw [if_neg c]
  by_cases c1 : op.1 = 1
  · rw [if_pos c1]
    unfold enterP
    split
    · exact fun _ _ => ⟨rfl, rfl⟩
    split
    · exact fun _ _ => ⟨rfl, rfl⟩
    · exact fun g => (g rfl).elim
  rw [if_neg c1]
  by_cases c2 : inn b op.2.1.toNat = 0
  · rw [if_pos c2]; exact fun _ _ => ⟨rfl, rfl⟩
  rw [if_neg c2]
  unfold ownP
  by_cases d2 : op.1 = 2
  · rw [if_pos d2]
    unfold takeP pagesP popP
    split
    · exact fun _ _ => ⟨rfl, rfl⟩
    split
    · split
      · exact fun _ _ => ⟨rfl, rfl⟩
      · exact fun g => (g rfl).elim
    dsimp only
    split
    · split
      · exact fun _ _ => ⟨rfl, rfl⟩
      · exact fun g => (g rfl).elim
    · exact fun g => (g rfl).elim
  rw [if_neg d2]
  by_cases d3 : op.1 = 3
  · rw [if_pos d3]
    split
    · exact fun _ _ => ⟨rfl, rfl⟩
    · exact fun g => (g rfl).elim
  rw [if_neg d3]
  by_cases d4 : op.1 = 4
  · rw [if_pos d4]
    split
    · exact fun _ _ => ⟨rfl, rfl⟩
    split
    · exact fun _ _ => ⟨rfl, rfl⟩
    · exact fun g => (g rfl).elim
  rw [if_neg d4]
  by_cases d5 : op.1 = 5
  · rw [if_pos d5]
    split
    · exact fun _ _ => ⟨rfl, rfl⟩
    · exact fun g => (g rfl).elim
  rw [if_neg d5]
  by_cases d6 : op.1 = 6
  · rw [if_pos d6]
    unfold reapP
    split
    · exact fun _ _ => ⟨rfl, rfl⟩
    split
    · exact fun _ _ => ⟨rfl, rfl⟩
    split
    · exact fun g => (g rfl).elim
    · exact fun _ g => (g rfl).elim
  · rw [if_neg d6]; exact fun _ _ => ⟨rfl, rfl⟩
/-- A valid book's rows are short and its numbers are Go's. -/
theorem BookP.short {b : Bk} (h : BookP b) : Bshort b := by
  have hdim := h.dims
  have hsl := h.slots
  have e1 : np b = b.2.1.length := rfl
  have e2 : nu b = b.2.2.2.1.length := rfl
  have key : ∀ j, j < 4 → (hd b j).length ≤ 4194304 := fun j hj => by have := h.hd_len hj; omega
  refine ⟨?_, fun j => ?_, ?_, ?_, ?_⟩
  · show b.2.1.length ≤ 4194304; omega
  · by_cases c : j < 4
    · exact key j c
    · obtain ⟨q, rfl⟩ : ∃ q, j = q + 3 := ⟨j - 3, by omega⟩
      exact key 3 (by omega)
  · show b.2.2.2.1.length ≤ 4194304; omega
  · show b.2.2.2.2.1.length ≤ 4194304; omega
  · show b.2.2.2.2.2.length ≤ 4194304; omega
theorem ints_of {l : List Int} (h : ∀ i, i < l.length → -100000 ≤ l.getD i 0 ∧ l.getD i 0 ≤ 100000) : Ints l := by
  intro x hx
  obtain ⟨j, hj, e⟩ := mem_getD hx
  have := h j hj
  rw [e] at this
  exact ⟨by omega, by omega⟩
theorem BookP.ints {b : Bk} (h : BookP b) : Bi b := by
  have hdim := h.dims
  have hsl := h.slots
  have key : ∀ j, j < 4 → Ints (hd b j) := fun j hj x hx => by have := h.mem hj hx; exact ⟨by omega, by omega⟩
  refine ⟨⟨by omega, by omega⟩, ints_of fun i hi => ?_, fun j => ?_, ints_of fun i hi => ?_, ints_of fun i hi => ?_, ints_of fun i hi => ?_⟩
  · have := h.cases (p := i) hi
    rw [fold_pg]; omega
  · by_cases c : j < 4
    · exact key j c
    · obtain ⟨q, rfl⟩ : ∃ q, j = q + 3 := ⟨j - 3, by omega⟩
      exact key 3 (by omega)
  · have := ownB_iff.1 (h.own (u := i) hi)
    rw [fold_ow]; omega
  · have := slotB_iff.1 (h.slot (i := i) (by omega))
    rw [fold_in]; omega
  · have := slotB_iff.1 (h.slot (i := i) (by omega))
    rw [fold_ep]; omega
theorem impl_BookDo_eq (N : Nat) (hN : Fuel N) (b : Bk) (hi : Bi b) (hb : Bshort b) (op : Op) : impl_BookDo N b op = out (bookDo b op) := by
  unfold impl_BookDo bookDo
  rw [impl_BookOk_eq N hN b hi hb]
  simp only [Option.bind_some]
  by_cases h : BookP b
  rotate_left
  · rw [bookOk, tf_f h, if_neg h]; rfl
  rw [bookOk, tf_t h, Bool.not_true, cond_false, if_pos h, own_eq N hN b hb]
  simp only [Option.bind_some]
  have hd := impl_do_eq N hN h op
  rw [hd]
  simp only [Option.bind_some, cndn]
  have ho := own_eq N hN (doP b op).1 (do_ok h op).short
  by_cases c0 : (doP b op).2.1 = 0
  · rw [if_pos c0]
    show (impl_Book_own N (doP b op).1).bind _ = _
    rw [ho]; rfl
  rw [if_neg c0]
  by_cases c1 : (doP b op).2.1 = 10
  · rw [if_pos c1]
    show (impl_Book_own N (doP b op).1).bind _ = _
    rw [ho]; rfl
  rw [if_neg c1]
  have hs := do_same b op c0 c1
  show out (b, (doP b op).2.1, 0) = out (doP b op)
  have e : doP b op = (b, (doP b op).2.1, 0) := Prod.ext hs.1 (Prod.ext rfl hs.2)
  rw [← e]
def bk0 : Bk := (0, [], ([], [], [], []), [], [], [])
theorem bk0_short : Bshort bk0 := ⟨Nat.zero_le _, fun k => by match k with | 0 => exact Nat.zero_le _ | 1 => exact Nat.zero_le _ | 2 => exact Nat.zero_le _ | _ + 3 => exact Nat.zero_le _, Nat.zero_le _, Nat.zero_le _, Nat.zero_le _⟩
noncomputable def cutP (b : Bk) (s : Int) : Bk := if 0 ≤ s ∧ s < b.1 ∧ inn b s.toNat = 1 then wIn b s.toNat 2 else b
noncomputable def bookCut (b : Bk) (s : Int) : Bk := @ite _ (BookP b) (Classical.propDecidable _) (cutP b s) bk0
theorem spec_BookCut_eq (N : Nat) (hN : Fuel N) (b : Bk) (hi : Bi b) (hb : Bshort b) (s : Int) : spec_BookCut N b s = outB (bookCut b s) := by
  unfold spec_BookCut bookCut
  rw [spec_BookOk_eq N hN b hi hb]
  simp only [Option.bind_some]
  by_cases h : BookP b
  rotate_left
  · rw [bookOk, tf_f h, if_neg h]; rfl
  have hsl := h.slots
  rw [bookOk, tf_t h, Bool.not_true, cond_false, if_pos h, l3Copy_eq N hN b hb]
  simp only [Option.bind_some, cndb]
  unfold cutP
  by_cases c1 : s ≥ 0
  rotate_left
  · rw [cf c1, if_neg (by omega)]
  rw [ct c1]
  by_cases c2 : s < b.1
  rotate_left
  · rw [cf c2, if_neg (by omega)]
  rw [ct c2, bnd (by omega) (by omega), fold_in, bnd (by omega) (by omega)]
  by_cases c3 : inn b s.toNat = 1
  · rw [if_pos c3, if_pos ⟨c1, c2, c3⟩]; rfl
  · rw [if_neg c3, if_neg (fun g => c3 g.2.2)]
theorem impl_BookCut_eq (N : Nat) (hN : Fuel N) (b : Bk) (hi : Bi b) (hb : Bshort b) (s : Int) : impl_BookCut N b s = outB (bookCut b s) := by
  unfold impl_BookCut bookCut
  rw [impl_BookOk_eq N hN b hi hb]
  simp only [Option.bind_some]
  by_cases h : BookP b
  rotate_left
  · rw [bookOk, tf_f h, if_neg h]; rfl
  have hsl := h.slots
  have hdim := h.dims
  have his : impl_Book_isSlot N (b.1, b.2.1, (b.2.2.1.1, b.2.2.1.2.1, b.2.2.1.2.2.1, b.2.2.1.2.2.2), b.2.2.2.1, b.2.2.2.2.1, b.2.2.2.2.2) s = some (decide (0 ≤ s ∧ s < b.1), ()) := impl_isSlotB_eq N b (by omega) (by omega) s
  rw [bookOk, tf_t h, Bool.not_true, cond_false, if_pos h, own_eq N hN b hb]
  simp only [Option.bind_some, cndb]
  rw [his]
  simp only [Option.bind_some]
  unfold cutP
  by_cases c1 : 0 ≤ s ∧ s < b.1
  rotate_left
  · rw [df c1, cond_false, if_neg (fun g => c1 ⟨g.1, g.2.1⟩)]
  rw [dt c1, cond_true, bnd (by omega) (by omega), fold_in, bnd (by omega) (by omega)]
  by_cases c3 : inn b s.toNat = 1
  · rw [if_pos c3, if_pos ⟨c1.1, c1.2, c3⟩]; rfl
  · rw [if_neg c3, if_neg (fun g => c3 g.2.2)]
theorem cut_ok {b : Bk} (h : BookP b) (s : Int) : BookP (cutP b s) := by
  unfold cutP
  by_cases c : 0 ≤ s ∧ s < b.1 ∧ inn b s.toNat = 1
  rotate_left
  · rw [if_neg c]; exact h
  rw [if_pos c]
  have hsl := h.slots
  have hi : ∀ i, inn (wIn b s.toNat 2) i = if i = s.toNat then 2 else inn b i := fun i => getD_set _ _ _ _ (by omega)
  refine slots_ok h rfl rfl rfl rfl (List.length_set ..) rfl (fun i hi2 => ?_) (fun u hu hne => ?_)
  · have := slotB_iff.1 (h.slot hi2)
    refine slotB_iff.2 ?_
    have e : ep (wIn b s.toNat 2) i = ep b i := rfl
    rw [hi, e]
    split
    · rename_i e2
      rw [e2] at this ⊢
      refine ⟨by omega, by omega, this.2.2.1, this.2.2.2.1, fun g => ?_⟩
      have := this.2.2.2.2 g
      omega
    · exact this
  · have hob := ownB_iff.1 (h.own hu)
    have := h.ow_nn hu
    rw [hi]
    split
    · omega
    · exact hob.2.2 (by omega)
theorem markIntSA4_eq (N : Nat) (hN : Fuel N) (l0 l1 l2 l3 : List Int) (s0 : Short l0) (s1 : Short l1) (s2 : Short l2) (s3 : Short l3) (x : Int) (h1 : 0 ≤ x) (h2 : x ≤ 1000000000) : laws_markIntSA4 N ((), (), (), ()) x l0 l1 l2 l3 =
    some (x + l0.length + l1.length + l2.length + l3.length, (marks x l0.length, marks (x + l0.length) l1.length, marks (x + l0.length + l1.length) l2.length, marks (x + l0.length + l1.length + l2.length) l3.length)) := by
  have t0 := s0; have t1 := s1; have t2 := s2; have t3 := s3
  unfold Short at t0 t1 t2 t3
  have e0 := markIntS_eq N hN l0 x s0 (by omega) (by omega)
  have e1 := markIntS_eq N hN l1 (x + l0.length) s1 (by omega) (by omega)
  have e2 := markIntS_eq N hN l2 (x + l0.length + l1.length) s2 (by omega) (by omega)
  have e3 := markIntS_eq N hN l3 (x + l0.length + l1.length + l2.length) s3 (by omega) (by omega)
  have w : ∀ x : Int, 0 ≤ x → x ≤ 4 → IntKind.i64.wrap (x + 1) = x + 1 := fun x h1 h2 => w64 (by omega) (by omega)
  obtain ⟨k, rfl⟩ : ∃ k, N = k + 1 + 1 + 1 + 1 + 1 := ⟨N - 5, by unfold Fuel at hN; omega⟩
  unfold laws_markIntSA4
  rw [laws_markIntSA4.l0]
  simp (disch := omega) only [ct, cf, w, e0, Option.bind_some, decide_true, cond_true]
  rw [laws_markIntSA4.l0]
  simp (disch := omega) only [ct, cf, w, e1, Option.bind_some, decide_true, cond_true]
  rw [laws_markIntSA4.l0]
  simp (disch := omega) only [ct, cf, w, e2, Option.bind_some, decide_true, cond_true]
  rw [laws_markIntSA4.l0]
  simp (disch := omega) only [ct, cf, w, e3, Option.bind_some, decide_true, cond_true]
  rw [laws_markIntSA4.l0]
  simp (disch := omega) only [ct, cf, w, Option.bind_some, decide_true, cond_true]
theorem heldIntSA4_eq (N : Nat) (hN : Fuel N) (n0 n1 n2 n3 : Nat) (t0 : n0 ≤ 4194304) (t1 : n1 ≤ 4194304) (t2 : n2 ≤ 4194304) (t3 : n3 ≤ 4194304) (x : Int) (h1 : 0 ≤ x) (h2 : x ≤ 1000000000) :
    laws_heldIntSA4 N (marks x n0, marks (x + n0) n1, marks (x + n0 + n1) n2, marks (x + n0 + n1 + n2) n3) x = some (x + n0 + n1 + n2 + n3, ()) := by
  have e0 := heldIntS_eq N hN n0 x t0 (by omega) (by omega)
  have e1 := heldIntS_eq N hN n1 (x + n0) t1 (by omega) (by omega)
  have e2 := heldIntS_eq N hN n2 (x + n0 + n1) t2 (by omega) (by omega)
  have e3 := heldIntS_eq N hN n3 (x + n0 + n1 + n2) t3 (by omega) (by omega)
  have w : ∀ x : Int, 0 ≤ x → x ≤ 4 → IntKind.i64.wrap (x + 1) = x + 1 := fun x h1 h2 => w64 (by omega) (by omega)
  obtain ⟨k, rfl⟩ : ∃ k, N = k + 1 + 1 + 1 + 1 + 1 := ⟨N - 5, by unfold Fuel at hN; omega⟩
  unfold laws_heldIntSA4
  rw [laws_heldIntSA4.l0]
  simp (disch := omega) only [ct, cf, w, e0, Option.bind_some, decide_true, cond_true]
  rw [laws_heldIntSA4.l0]
  simp (disch := omega) only [ct, cf, w, e1, Option.bind_some, decide_true, cond_true]
  rw [laws_heldIntSA4.l0]
  simp (disch := omega) only [ct, cf, w, e2, Option.bind_some, decide_true, cond_true]
  rw [laws_heldIntSA4.l0]
  simp (disch := omega) only [ct, cf, w, e3, Option.bind_some, decide_true, cond_true]
  rw [laws_heldIntSA4.l0]
  simp (disch := omega) only [ct, cf, w, Option.bind_some, decide_true, cond_true]
/-- A book whose rows are marked. -/
def markB (b : Bk) : Bk :=
  (b.1, marks 1 b.2.1.length,
    (marks (1 + b.2.1.length) b.2.2.1.1.length, marks (1 + b.2.1.length + b.2.2.1.1.length) b.2.2.1.2.1.length, marks (1 + b.2.1.length + b.2.2.1.1.length + b.2.2.1.2.1.length) b.2.2.1.2.2.1.length, marks (1 + b.2.1.length + b.2.2.1.1.length + b.2.2.1.2.1.length + b.2.2.1.2.2.1.length) b.2.2.1.2.2.2.length),
    marks (1 + b.2.1.length + b.2.2.1.1.length + b.2.2.1.2.1.length + b.2.2.1.2.2.1.length + b.2.2.1.2.2.2.length) b.2.2.2.1.length,
    marks (1 + b.2.1.length + b.2.2.1.1.length + b.2.2.1.2.1.length + b.2.2.1.2.2.1.length + b.2.2.1.2.2.2.length + b.2.2.2.1.length) b.2.2.2.2.1.length,
    marks (1 + b.2.1.length + b.2.2.1.1.length + b.2.2.1.2.1.length + b.2.2.1.2.2.1.length + b.2.2.1.2.2.2.length + b.2.2.2.1.length + b.2.2.2.2.1.length) b.2.2.2.2.2.length)
def markN (b : Bk) : Int := 1 + b.2.1.length + b.2.2.1.1.length + b.2.2.1.2.1.length + b.2.2.1.2.2.1.length + b.2.2.1.2.2.2.length + b.2.2.2.1.length + b.2.2.2.2.1.length + b.2.2.2.2.2.length
theorem markBook_eq (N : Nat) (hN : Fuel N) (b : Bk) (h : Bshort b) (a0 : BkU) : laws_markBook N a0 1 b.2.1 b.2.2.1.1 b.2.2.1.2.1 b.2.2.1.2.2.1 b.2.2.1.2.2.2 b.2.2.2.1 b.2.2.2.2.1 b.2.2.2.2.2 =
    some (markN b, ((markB b).2.1, (markB b).2.2.1.1, (markB b).2.2.1.2.1, (markB b).2.2.1.2.2.1, (markB b).2.2.1.2.2.2, (markB b).2.2.2.1, (markB b).2.2.2.2.1, (markB b).2.2.2.2.2)) := by
  obtain ⟨g0, g1, g2, g3, g4⟩ := h
  have r0 : Short b.2.2.1.1 := g1 0
  have r1 : Short b.2.2.1.2.1 := g1 1
  have r2 : Short b.2.2.1.2.2.1 := g1 2
  have r3 : Short b.2.2.1.2.2.2 := g1 3
  have t0 := g0; have t1 := r0; have t2 := r1; have t3 := r2; have t4 := r3; have t5 := g2; have t6 := g3; have t7 := g4
  unfold Short at t0 t1 t2 t3 t4 t5 t6 t7
  unfold laws_markBook
  rw [markIntS_eq N hN _ _ g0 (by omega) (by omega)]
  simp only [Option.bind_some]
  rw [markIntSA4_eq N hN _ _ _ _ r0 r1 r2 r3 _ (by omega) (by omega)]
  simp only [Option.bind_some]
  rw [markIntS_eq N hN _ _ g2 (by omega) (by omega)]
  simp only [Option.bind_some]
  rw [markIntS_eq N hN _ _ g3 (by omega) (by omega)]
  simp only [Option.bind_some]
  rw [markIntS_eq N hN _ _ g4 (by omega) (by omega)]
  rfl
theorem heldBook_eq (N : Nat) (hN : Fuel N) (b : Bk) (h : Bshort b) : laws_heldBook N (markB b) 1 = some (markN b, ()) := by
  obtain ⟨g0, g1, g2, g3, g4⟩ := h
  have r0 : Short b.2.2.1.1 := g1 0
  have r1 : Short b.2.2.1.2.1 := g1 1
  have r2 : Short b.2.2.1.2.2.1 := g1 2
  have r3 : Short b.2.2.1.2.2.2 := g1 3
  unfold Short at r0 r1 r2 r3 g0 g2 g3 g4
  unfold laws_heldBook markB
  dsimp only
  rw [heldIntS_eq N hN _ _ g0 (by omega) (by omega)]
  simp only [Option.bind_some]
  rw [cf (by omega), heldIntSA4_eq N hN _ _ _ _ r0 r1 r2 r3 _ (by omega) (by omega)]
  simp only [Option.bind_some]
  rw [cf (by omega), heldIntS_eq N hN _ _ g2 (by omega) (by omega)]
  simp only [Option.bind_some]
  rw [cf (by omega), heldIntS_eq N hN _ _ g3 (by omega) (by omega)]
  simp only [Option.bind_some]
  rw [cf (by omega), heldIntS_eq N hN _ _ g4 (by omega) (by omega)]
  simp only [Option.bind_some]
  rw [cf (by omega)]
  rfl
theorem markN_pos (b : Bk) : ¬ markN b < 0 := by unfold markN; omega
/-- There is a value, and it has the property. -/
def Ok {α : Type _} (x : Option α) (P : α → Prop) : Prop := ∃ a, x = some a ∧ P a
theorem Ok.of {α : Type _} {x : Option α} {P Q : α → Prop} (h : Ok x P) (g : ∀ a, P a → Q a) : Ok x Q := by
  obtain ⟨a, e, h⟩ := h; exact ⟨a, e, g a h⟩
/-- Short lists of small numbers. -/
def Sm (n : Nat) (l : List Int) : Prop := l.length ≤ n ∧ ∀ x ∈ l, -100000 ≤ x ∧ x ≤ 100000
theorem Sm.short {l : List Int} (h : Sm 100 l) : Short l := by have := h.1; unfold Short; omega
theorem Sm.ints {n : Nat} {l : List Int} (h : Sm n l) : Ints l := fun x hx => by have := h.2 x hx; exact ⟨by omega, by omega⟩
/-- A book that is small. -/
def Bd (b : Bk) : Prop := (-100 ≤ b.1 ∧ b.1 ≤ 100) ∧ Sm 100 b.2.1 ∧ (Sm 100 b.2.2.1.1 ∧ Sm 100 b.2.2.1.2.1 ∧ Sm 100 b.2.2.1.2.2.1 ∧ Sm 100 b.2.2.1.2.2.2) ∧ Sm 100 b.2.2.2.1 ∧ (∀ x ∈ b.2.2.2.1, 0 ≤ x ∧ x ≤ 10) ∧ Sm 100 b.2.2.2.2.1 ∧ Sm 100 b.2.2.2.2.2
theorem Bd.short {b : Bk} (h : Bd b) : Bshort b := by
  obtain ⟨h0, h1, ⟨g0, g1, g2, g3⟩, h2, _, h3, h4⟩ := h
  exact ⟨h1.short, fun k => by match k with | 0 => exact g0.short | 1 => exact g1.short | 2 => exact g2.short | _ + 3 => exact g3.short, h2.short, h3.short, h4.short⟩
theorem Bd.ints {b : Bk} (h : Bd b) : Bi b := by
  obtain ⟨h0, h1, ⟨g0, g1, g2, g3⟩, h2, _, h3, h4⟩ := h
  exact ⟨⟨by omega, by omega⟩, h1.ints, fun k => by match k with | 0 => exact g0.ints | 1 => exact g1.ints | 2 => exact g2.ints | _ + 3 => exact g3.ints, h2.ints, h3.ints, h4.ints⟩
theorem bookDo_ok {b : Bk} (h : BookP b) (op : Op) : bookDo b op = doP b op := by unfold bookDo; rw [if_pos h]
theorem bookCut_val {b : Bk} (h : BookP b) (s : Int) : bookCut b s = cutP b s := by unfold bookCut; rw [if_pos h]
noncomputable def taleP : List Itm → Bool → Bk → Bk × Bool
  | [], s, b => (b, s)
  | t :: r, s, b => cond t.1 (taleP r s (cutP b t.2.2.1.2.1)) (taleP r (s && ((doP b t.2.2.1).2.1 == t.2.2.2.1 && (doP b t.2.2.1).2.2 == t.2.2.2.2)) (doP b t.2.2.1).1)
theorem taleP_ok : ∀ (l : List Itm) (s : Bool) {b : Bk}, BookP b → BookP (taleP l s b).1
  | [], s, b, h => h
  | t :: r, s, b, h => by
    rw [taleP]
    cases t.1
    · exact taleP_ok r _ (do_ok h _)
    · exact taleP_ok r _ (cut_ok h _)
abbrev outT (r : Bk × Bool) : Option ((BkU × Bool) × L8) :=
  some (((r.1.1, (), ((), (), (), ()), (), (), ()), r.2), (r.1.2.1, r.1.2.2.1.1, r.1.2.2.1.2.1, r.1.2.2.1.2.2.1, r.1.2.2.1.2.2.2, r.1.2.2.2.1, r.1.2.2.2.2.1, r.1.2.2.2.2.2))
theorem spec_TaleBook_loop (N : Nat) (hN : Fuel N) (l : List Itm) (hl : l.length ≤ 2000) (z : BkU) : ∀ d i k (s : Bool) (b : Bk), i + d = l.length → d < k → BookP b →
    spec_TaleBook.l0 N k l s (i : Nat) (b.1, (), ((), (), (), ()), (), (), ()) z b.2.1 b.2.2.1.1 b.2.2.1.2.1 b.2.2.1.2.2.1 b.2.2.1.2.2.2 b.2.2.2.1 b.2.2.2.2.1 b.2.2.2.2.2 = outT (taleP (l.drop i) s b)
  | 0, i, k, s, b, e, hk, h => by
    obtain ⟨k, rfl⟩ := fuel hk
    rw [spec_TaleBook.l0, cf (by omega), drop_end (by omega)]; rfl
  | d + 1, i, k, s, b, e, hk, h => by
    obtain ⟨k, rfl⟩ := fuel hk
    rw [drop_at itm0 (show i < l.length by omega)]
    have hg : l.getD i (false, 0, (0, 0, 0, 0), 0, 0) = l.getD i itm0 := rfl
    rw [spec_TaleBook.l0, ct (by omega), w64 (n := (i : Int) + 1) (by omega) (by omega), show (i : Int) + 1 = ((i + 1 : Nat) : Int) by omega, Int.toNat_natCast, hg]
    generalize l.getD i itm0 = t
    simp (disch := omega) only [bnd]
    rw [taleP]
    cases ht : t.1
    · rw [cond_false, cond_false, spec_l3Do_eq N hN h h.ints t.2.2.1]
      simp only [Option.bind_some]
      have ih : ∀ s', _ := fun s' => spec_TaleBook_loop N hN l hl z d (i + 1) k s' (doP b t.2.2.1).1 (by omega) (by omega) (do_ok h _)
      cases s
      · rw [cond_false, Bool.false_and]; exact ih false
      · rw [cond_true, Bool.true_and]
        cases h1 : ((doP b t.2.2.1).2.1 == t.2.2.2.1)
        · rw [cond_false, Bool.false_and]; exact ih false
        · rw [cond_true, Bool.true_and]; exact ih _
    · have hc : spec_BookCut N (b.1, b.2.1, (b.2.2.1.1, b.2.2.1.2.1, b.2.2.1.2.2.1, b.2.2.1.2.2.2), b.2.2.2.1, b.2.2.2.2.1, b.2.2.2.2.2) t.2.2.1.2.1 = outB (bookCut b t.2.2.1.2.1) := spec_BookCut_eq N hN b h.ints h.short _
      rw [cond_true, cond_true, hc, bookCut_val h]
      simp only [Option.bind_some]
      exact spec_TaleBook_loop N hN l hl z d (i + 1) k s (cutP b t.2.2.1.2.1) (by omega) (by omega) (cut_ok h _)
theorem impl_TaleBook_loop (N : Nat) (hN : Fuel N) (l : List Itm) (hl : l.length ≤ 2000) (z : BkU) : ∀ d i k (s : Bool) (b : Bk), i + d = l.length → d < k → BookP b →
    impl_TaleBook_2.l0 N k s l (l.length : Int) (i : Nat) b z = outT (taleP (l.drop i) s b)
  | 0, i, k, s, b, e, hk, h => by
    obtain ⟨k, rfl⟩ := fuel hk
    rw [impl_TaleBook_2.l0, cf (by omega), drop_end (by omega), own_eq N hN b h.short]; rfl
  | d + 1, i, k, s, b, e, hk, h => by
    obtain ⟨k, rfl⟩ := fuel hk
    rw [drop_at itm0 (show i < l.length by omega)]
    have hg : l.getD i (false, 0, (0, 0, 0, 0), 0, 0) = l.getD i itm0 := rfl
    rw [impl_TaleBook_2.l0, ct (by omega), w64 (n := (i : Int) + 1) (by omega) (by omega), show (i : Int) + 1 = ((i + 1 : Nat) : Int) by omega, Int.toNat_natCast, hg]
    generalize l.getD i itm0 = t
    rw [bnd (by omega) (by omega), taleP]
    cases ht : t.1
    · rw [cond_false, cond_false, impl_BookDo_eq N hN b h.ints h.short t.2.2.1, bookDo_ok h]
      simp only [Option.bind_some]
      have ih : ∀ s', _ := fun s' => impl_TaleBook_loop N hN l hl z d (i + 1) k s' (doP b t.2.2.1).1 (by omega) (by omega) (do_ok h _)
      cases s
      · rw [cond_false, Bool.false_and]; exact ih false
      · rw [cond_true, Bool.true_and]
        cases h1 : ((doP b t.2.2.1).2.1 == t.2.2.2.1)
        · rw [cond_false, Bool.false_and]; exact ih false
        · rw [cond_true, Bool.true_and]; exact ih _
    · rw [cond_true, cond_true, impl_BookCut_eq N hN b h.ints h.short, bookCut_val h]
      simp only [Option.bind_some]
      exact impl_TaleBook_loop N hN l hl z d (i + 1) k s (cutP b t.2.2.1.2.1) (by omega) (by omega) (cut_ok h _)
noncomputable def taleBook (b : Bk) (l : List Itm) : Bk × Bool := @ite _ (BookP b ∧ l.length ≤ 2000) (Classical.propDecidable _) (taleP l true b) (bk0, false)
theorem spec_TaleBook_eq (N : Nat) (hN : Fuel N) (b : Bk) (hi : Bi b) (hb : Bshort b) (l : List Itm) : spec_TaleBook N b l = outT (taleBook b l) := by
  unfold spec_TaleBook taleBook
  rw [spec_BookOk_eq N hN b hi hb]
  simp only [Option.bind_some]
  by_cases h : BookP b
  rotate_left
  · rw [bookOk, tf_f h, if_neg (fun g => h g.1)]; rfl
  rw [bookOk, tf_t h, Bool.not_true, cond_false]
  by_cases c : l.length ≤ 2000
  rotate_left
  · rw [ct (by omega), if_neg (fun g => c g.2)]; rfl
  rw [cf (by omega), if_pos ⟨h, c⟩, l3Copy_eq N hN b hb]
  simp only [Option.bind_some]
  have := spec_TaleBook_loop N hN l c (0, (), ((), (), (), ()), (), (), ()) l.length 0 N true b (by omega) (by unfold Fuel at hN; omega) h
  rw [List.drop_zero] at this
  exact this
theorem impl_TaleBook_eq (N : Nat) (hN : Fuel N) (b : Bk) (hi : Bi b) (hb : Bshort b) (l : List Itm) : impl_TaleBook_2 N b l = outT (taleBook b l) := by
  unfold impl_TaleBook_2 taleBook
  rw [impl_BookOk_eq N hN b hi hb]
  simp only [Option.bind_some]
  by_cases h : BookP b
  rotate_left
  · rw [bookOk, tf_f h, if_neg (fun g => h g.1)]; rfl
  rw [bookOk, tf_t h, Bool.not_true, cond_false]
  by_cases c : l.length ≤ 2000
  rotate_left
  · rw [ct (by omega), if_neg (fun g => c g.2)]; rfl
  rw [cf (by omega), if_pos ⟨h, c⟩]
  have := impl_TaleBook_loop N hN l c (0, (), ((), (), (), ()), (), (), ()) l.length 0 N true b (by omega) (by unfold Fuel at hN; omega) h
  rw [List.drop_zero] at this
  exact this
theorem taleBook_short (b : Bk) (l : List Itm) : Bshort (taleBook b l).1 := by
  unfold taleBook
  by_cases h : BookP b ∧ l.length ≤ 2000
  · rw [if_pos h]; exact (taleP_ok l true h.1).short
  · rw [if_neg h]; exact bk0_short
theorem markN_le {b : Bk} (h : Bshort b) : markN b ≤ 1073741824 := by
  obtain ⟨g0, g1, g2, g3, g4⟩ := h
  have r0 : Short b.2.2.1.1 := g1 0
  have r1 : Short b.2.2.1.2.1 := g1 1
  have r2 : Short b.2.2.1.2.2.1 := g1 2
  have r3 : Short b.2.2.1.2.2.2 := g1 3
  unfold Short at r0 r1 r2 r3 g0 g2 g3 g4
  unfold markN
  omega
theorem plainTaleBook (N : Nat) (hN : Fuel N) (b : Bk) (hi : Bi b) (hl : BLens b) (l : List Itm) (hll : (l.length : Int) ≤ 9223372036854775807) : laws_FnExactTaleBook N b l = some (true, ()) := by
  unfold laws_FnExactTaleBook
  have hg := szB_ge b
  rw [szBook_eq N hN b _ (by omega) (by omega) hl]
  simp only [Option.bind_some]
  by_cases h : (1048576 : Int) - szB b < 0
  · rw [rest, if_pos h]; rfl
  have hb := Bshort.of (b := b) (by omega)
  rw [rest, if_neg h, cf h, szTaleItemS_eq N l _ (by omega) (by omega) hll]
  simp only [Option.bind_some]
  by_cases h2 : (1048576 : Int) - szB b - l.length < 0
  · rw [rest, if_pos h2]; rfl
  have hs : Short l := by unfold Short; omega
  rw [rest, if_neg h2, cf h2]
  have hr := taleBook_short b l
  have m1 := markBook_eq N hN b hb
  have m2 := markBook_eq N hN (taleBook b l).1 hr
  have hh : laws_heldBook N ((taleBook b l).1.1, (markB (taleBook b l).1).2) 1 = some (markN (taleBook b l).1, ()) := heldBook_eq N hN (taleBook b l).1 hr
  obtain ⟨r, m3⟩ := markTaleItemS_eq N hN l (markN b) hs (by have := markN_pos b; omega) (markN_le hb)
  have p1 := markN_pos b
  have m4 : ¬ markN b + 8 * (l.length : Int) < 0 := by omega
  simp only [toBook_eq N hN b hb, Option.bind_some, toTaleItemS_eq N hN l hs, spec_TaleBook_eq N hN b hi hb, impl_TaleBook_eq N hN b hi hb, eqBook_eq N hN b hb, eqBook_eq N hN _ hr, Bool.not_true, cond_false, beq_self_eq_true, eqTaleItemS_eq N hN l hs, m1, m3, cf m4, m2, cf (markN_pos _), hh, bne_self_eq_false]
theorem lawFnExactTaleBook (y0 : Bk) (y1 : List Itm) (w0 : Wf tyBk y0) (w1 : Wf (.sl .frz tyItm) y1) : laws_FnExactTaleBook N0 y0 y1 = some (true, ()) :=
  plainTaleBook N0 hN0 y0 (wf_bi w0) (wf_blens w0) y1 (wf_len w1)
end Go.Proofs.Ytdkinmgpclbedaa.Pv
