/- The plain law of FnExactCensBook, part 2: what the functions compute, over numbers and lists. -/
import Derived.Test.YtdhdlnojoonhcaaA1Pa
import Derived.Test.YtdhdlnojoonhcaaPvRow
namespace Go.Proofs.Ytdhdlnojoonhcaa.Pv
open Go Go.Pv Go.Proofs
set_option linter.unusedVariables false
set_option linter.unusedSimpArgs false
noncomputable abbrev bk12 (N K : Nat) (k a k2 : Int) (c : Cfg) (z : Int) (v : List Int) (x : Int) (P : List Int) (h : H4) (O I E : List Int) := impl_book.l12 N K k a k2 c (z, (), ((), (), (), ()), (), (), ()) v (x, (), ((), (), (), ()), (), (), ()) P h.1 h.2.1 h.2.2.1 h.2.2.2 O I E
noncomputable abbrev bk3 (N K : Nat) (k : Int) (c : Cfg) (z : Int) (v : List Int) (x : Int) (P : List Int) (h : H4) (O I E : List Int) := impl_book.l3 N K k c (z, (), ((), (), (), ()), (), (), ()) v (x, (), ((), (), (), ()), (), (), ()) P h.1 h.2.1 h.2.2.1 h.2.2.2 O I E
theorem impl_units_eq (N : Nat) {c : Cfg} (h : Plat c) : impl_PlatCfg_units N c = some (8 * c.2.1, ()) := by
  unfold Plat at h
  unfold impl_PlatCfg_units
  rw [w64 (by omega) (by omega)]
theorem heads_hset (h : H4) {k : Nat} (hk : k < 4) (l : List Int) : heads (hset h k l) k = l := hd_hset _ _ _ _ hk _
theorem bk8_step (N : Nat) {c : Cfg} (hc : Plat c) (z : Int) (v : List Int) (x : Int) (P O I E : List Int) {k : Nat} (hk : k < 4) (K : Nat) (a : Int) (h : H4) (h0 : 0 < a) (h1 : a ≤ 8 * c.2.1) (hl : ((heads h k).length : Int) < 8 * c.2.1) :
    bk8 N (K + 1) k a k c z v x P h O I E = bk12 N K k a k c z v x P (hset h k (heads h k ++ [a - 1])) O I E := by
  obtain ⟨a1, a2, a3, a4, a5, a6, a7, a8, a9⟩ := plat_at hc
  have w := w64 (n := a - 1) (by omega) (by omega)
  have hs : ∀ l : List Int, l.length + [a - 1].length = l.length + 1 := fun l => rfl
  unfold bk8 bk12
  rw [impl_book.l8, cndn, if_neg (by omega), impl_units_eq N hc]
  simp only [Option.bind_some, cndb]
  rw [cf (by omega), w]
  refine hd_cases hk (fun g => ?_) (fun g => ?_) (fun g => ?_) (fun g => ?_) <;> subst g
  · have q : heads h 0 = h.1 := rfl
    rw [q] at hl ⊢
    rw [ct (by omega), if_neg (by omega), ct (by omega), ct (by rw [hs]; omega), ct (by omega)]; rfl
  · have q : heads h 1 = h.2.1 := rfl
    rw [q] at hl ⊢
    rw [cf (by omega), ct (by omega), if_neg (by omega), cf (by omega), ct (by omega), ct (by rw [hs]; omega), cf (by omega), ct (by omega)]; rfl
  · have q : heads h 2 = h.2.2.1 := rfl
    rw [q] at hl ⊢
    rw [cf (by omega), cf (by omega), ct (by omega), if_neg (by omega), cf (by omega), cf (by omega), ct (by omega), ct (by rw [hs]; omega), cf (by omega), cf (by omega), ct (by omega)]; rfl
  · have q : heads h 3 = h.2.2.2 := rfl
    rw [q] at hl ⊢
    rw [cf (by omega), cf (by omega), cf (by omega), ct (by omega), if_neg (by omega), cf (by omega), cf (by omega), cf (by omega), ct (by omega), ct (by rw [hs]; omega), cf (by omega), cf (by omega), cf (by omega), ct (by omega)]; rfl
theorem bk8_fail (N : Nat) {c : Cfg} (hc : Plat c) (z : Int) (v : List Int) (x : Int) (P O I E : List Int) {k : Nat} (hk : k < 4) (K : Nat) (a : Int) (h : H4) (h0 : 0 < a) (h1 : a > 8 * c.2.1 ∨ ((heads h k).length : Int) = 8 * c.2.1) :
    bk8 N (K + 1 + 1) k a k c z v x P h O I E = outT (bk0, false) := by
  obtain ⟨a1, a2, a3, a4, a5, a6, a7, a8, a9⟩ := plat_at hc
  unfold bk8
  rw [impl_book.l8, cndn, if_neg (by omega), impl_units_eq N hc]
  simp only [Option.bind_some, cndb]
  by_cases c1 : a > 8 * c.2.1
  · rw [ct c1, impl_book.l11]; rfl
  rw [cf c1]
  have hl : ((heads h k).length : Int) = 8 * c.2.1 := by omega
  refine hd_cases hk (fun g => ?_) (fun g => ?_) (fun g => ?_) (fun g => ?_) <;> subst g
  · have q : heads h 0 = h.1 := rfl
    rw [q] at hl
    rw [ct (by omega), if_pos hl, impl_book.l11]; rfl
  · have q : heads h 1 = h.2.1 := rfl
    rw [q] at hl
    rw [cf (by omega), ct (by omega), if_pos hl, impl_book.l11]; rfl
  · have q : heads h 2 = h.2.2.1 := rfl
    rw [q] at hl
    rw [cf (by omega), cf (by omega), ct (by omega), if_pos hl, impl_book.l11]; rfl
  · have q : heads h 3 = h.2.2.2 := rfl
    rw [q] at hl
    rw [cf (by omega), cf (by omega), cf (by omega), ct (by omega), if_pos hl, impl_book.l11]; rfl
/-- The values of a list of values. -/
abbrev vAt (v : List Int) (j : Nat) : Int := v.getD j 0
theorem bk8_loop (N : Nat) {c : Cfg} (hc : Plat c) (z : Int) (v : List Int) (hv : v.length = dA c) (hnn : ∀ j, 0 ≤ vAt v j ∧ vAt v j < 4294967296) (x : Int) (P O I E : List Int) {k : Nat} (hk : k < 4) : ∀ m K (a : Int) (h : H4), (heads h k).length + m = (8 * c.2.1).toNat → 2 * m + 10 < K → 0 ≤ a → a < 4294967296 →
    ∃ K', K ≤ K' + 2 * m + 2 ∧ bk8 N K k a k c z v x P h O I E = cond (chainB (vAt v) (kA c) (8 * c.2.1) m a) (bk3 N K' ((k + 1 : Nat) : Int) c z v x P (hset h k (heads h k ++ chainR (vAt v) (kA c) (8 * c.2.1) (m + 1) a)) O I E) (outT (bk0, false))
  | m, K, a, h, e, hK, ha, ha2 => by
    obtain ⟨a1, a2, a3, a4, a5, a6, a7, a8, a9⟩ := plat_at hc
    have hset_id : hset h k (heads h k ++ []) = h := by
      rw [List.append_nil]
      refine hd_cases hk (fun g => ?_) (fun g => ?_) (fun g => ?_) (fun g => ?_) <;> subst g <;> rfl
    by_cases c0 : a = 0
    · refine ⟨K - 2, by omega, ?_⟩
      obtain ⟨K, rfl⟩ : ∃ j, K = j + 1 + 1 := ⟨K - 2, by omega⟩
      unfold chainB
      rw [if_pos c0, chainR, if_neg (by omega), hset_id, cond_true, show K + 1 + 1 - 2 = K by omega]
      unfold bk8 bk3
      rw [impl_book.l8, cndn, if_pos c0, impl_book.l13, w64 (n := (k : Int) + 1) (by omega) (by omega), show (k : Int) + 1 = ((k + 1 : Nat) : Int) by omega]
    by_cases c1 : a > 8 * c.2.1
    · refine ⟨K, by omega, ?_⟩
      obtain ⟨K, rfl⟩ : ∃ j, K = j + 1 + 1 := ⟨K - 2, by omega⟩
      unfold chainB
      rw [if_neg c0, if_pos c1, cond_false]
      exact bk8_fail N hc z v x P O I E hk K a h (by omega) (.inl c1)
    match m, e, hK with
    | 0, e, hK =>
      refine ⟨K, by omega, ?_⟩
      obtain ⟨K, rfl⟩ : ∃ j, K = j + 1 + 1 := ⟨K - 2, by omega⟩
      unfold chainB
      rw [if_neg c0, if_neg c1]
      show _ = cond false _ _
      rw [cond_false]
      exact bk8_fail N hc z v x P O I E hk K a h (by omega) (.inr (by omega))
    | m + 1, e, hK =>
      obtain ⟨K, rfl⟩ : ∃ j, K = j + 1 + 1 := ⟨K - 2, by omega⟩
      have hstep := bk8_step N hc z v x P O I E hk (K + 1) a h (by omega) (by omega) (by omega)
      have hh := heads_hset h hk (heads h k ++ [a - 1])
      obtain ⟨K', g1, g2⟩ := bk8_loop N hc z v hv hnn x P O I E hk m K (vAt v (kA c + (a - 1).toNat)) (hset h k (heads h k ++ [a - 1])) (by rw [hh, List.length_append]; simp; omega) (by omega) (hnn _).1 (hnn _).2
      refine ⟨K', by omega, ?_⟩
      rw [hstep]
      have h12 : bk12 N (K + 1) k a k c z v x P (hset h k (heads h k ++ [a - 1])) O I E = bk8 N K k (vAt v (kA c + (a - 1).toNat)) k c z v x P (hset h k (heads h k ++ [a - 1])) O I E := by
        unfold bk12
        rw [impl_book.l12, impl_linkAt_eq N hc]
        simp only [Option.bind_some]
        rw [w64 (n := 7 + 2 * c.1 + 9 * c.2.1 + a) (by omega) (by omega), w64 (n := 7 + 2 * c.1 + 9 * c.2.1 + a - 1) (by omega) (by omega), bnd (by omega) (by omega), show (7 + 2 * c.1 + 9 * c.2.1 + a - 1).toNat = kA c + (a - 1).toNat by omega]
      rw [h12, g2, hh, hset_hset h hk]
      have e1 : chainB (vAt v) (kA c) (8 * c.2.1) (m + 1) a = chainB (vAt v) (kA c) (8 * c.2.1) m (vAt v (kA c + (a - 1).toNat)) := by
        rw [chainB, if_neg c0, if_neg c1]
      have e2 : chainR (vAt v) (kA c) (8 * c.2.1) (m + 1 + 1) a = (a - 1) :: chainR (vAt v) (kA c) (8 * c.2.1) (m + 1) (vAt v (kA c + (a - 1).toNat)) := by
        rw [chainR, if_pos (by omega)]
      rw [e1, e2, List.append_assoc]; rfl
theorem bk3_step (N : Nat) {c : Cfg} (hc : Plat c) (z : Int) (v : List Int) (hv : v.length = dA c) (hnn : ∀ j, 0 ≤ vAt v j ∧ vAt v j < 4294967296) (x : Int) (P O I E : List Int) {k : Nat} (hk : k < 4) (K : Nat) (h : H4) (he : heads h k = []) (hK : 200 < K) :
    ∃ K', K ≤ K' + 150 ∧ bk3 N K k c z v x P h O I E = cond (chainB (vAt v) (kA c) (8 * c.2.1) (8 * c.2.1).toNat (vAt v (hA c + k))) (bk3 N K' ((k + 1 : Nat) : Int) c z v x P (hset h k (chainR (vAt v) (kA c) (8 * c.2.1) ((8 * c.2.1).toNat + 1) (vAt v (hA c + k)))) O I E) (outT (bk0, false)) := by
  obtain ⟨a1, a2, a3, a4, a5, a6, a7, a8, a9⟩ := plat_at hc
  obtain ⟨K, rfl⟩ : ∃ j, K = j + 1 + 1 := ⟨K - 2, by omega⟩
  have h0 : (heads h k).length = 0 := by rw [he]; rfl
  obtain ⟨K', g1, g2⟩ := bk8_loop N hc z v hv hnn x P O I E hk (8 * c.2.1).toNat K (vAt v (hA c + k)) h (by omega) (by omega) (hnn _).1 (hnn _).2
  refine ⟨K', by omega, ?_⟩
  rw [he, List.nil_append] at g2
  unfold bk3
  rw [impl_book.l3, ct (by omega), impl_book.l5, impl_headAt_eq N hc]
  simp only [Option.bind_some]
  rw [w64 (n := 3 + 2 * c.1 + (k : Int)) (by omega) (by omega), bnd (by omega) (by omega), show (3 + 2 * c.1 + (k : Int)).toNat = hA c + k by omega]
  exact g2
theorem impl_isLaid_eq (N : Nat) {c : Cfg} (hc : Plat c) (j : Nat) : impl_PlatCfg_isLaid N c (j : Nat) = some (decide (3 ≤ j ∧ j < 3 + c.1.toNat ∨ hA c ≤ j ∧ j < dA c), ()) := by
  obtain ⟨a1, a2, a3, a4, a5, a6, a7, a8, a9⟩ := plat_at hc
  have hh : house c = 7 + 2 * c.1 + 17 * c.2.1 := rfl
  unfold impl_PlatCfg_isLaid
  rw [impl_regAt_eq, impl_beatAt_eq N hc, impl_headAt_eq N hc, impl_deskAt_eq N hc]
  simp only [Option.bind_some]
  rw [w64 (n := 3 + c.1 - 1) (by omega) (by omega), impl_within_eq, w64 (n := house c - 1) (by omega) (by omega), impl_within_eq]
  simp only [Option.bind_some]
  by_cases g : 3 ≤ (j : Int) ∧ (j : Int) ≤ 3 + c.1 - 1
  · rw [dt g, cond_true, dt (by omega)]
  · rw [df g, cond_false]
    congr 2
    exact decide_eq_decide.2 (by omega)
theorem impl_cmp_loop (N : Nat) {c : Cfg} {b : Bk} (h : Fit c b) (z : Int) (v : List Int) (hv : v.length = dA c) : ∀ d i K, i + d = dA c → 3 * d + 3 < K →
    impl_book.l7 N K (dA c : Int) (i : Nat) c (z, (), ((), (), (), ()), (), (), ()) v (b.1, (), ((), (), (), ()), (), (), ()) (layP c b) b.2.1 b.2.2.1.1 b.2.2.1.2.1 b.2.2.1.2.2.1 b.2.2.1.2.2.2 b.2.2.2.1 b.2.2.2.2.1 b.2.2.2.2.2 =
      cond (allB (fun j => decide (3 ≤ j ∧ j < 3 + c.1.toNat ∨ hA c ≤ j → layV c b j = vAt v j)) d i) (outT (b, true)) (outT (bk0, false))
  | 0, i, K, e, hK => by
    obtain ⟨K, rfl⟩ : ∃ j, K = j + 1 + 1 := ⟨K - 2, by omega⟩
    rw [impl_book.l7, cf (by omega), impl_book.l10]; rfl
  | d + 1, i, K, e, hK => by
    obtain ⟨K, rfl⟩ : ∃ j, K = j + 1 + 1 + 1 := ⟨K - 3, by omega⟩
    obtain ⟨a1, a2, a3, a4, a5, a6, a7, a8, a9⟩ := plat_at h.1
    have hlp := layP_len c b
    have hlv := layP_getD h i (by omega)
    have ih := impl_cmp_loop N h z v hv d (i + 1) K (by omega) (by omega)
    have next : impl_book.l15 N (K + 1) (dA c : Int) (i : Nat) c (z, (), ((), (), (), ()), (), (), ()) v (b.1, (), ((), (), (), ()), (), (), ()) (layP c b) b.2.1 b.2.2.1.1 b.2.2.1.2.1 b.2.2.1.2.2.1 b.2.2.1.2.2.2 b.2.2.2.1 b.2.2.2.2.1 b.2.2.2.2.2 = cond (allB (fun j => decide (3 ≤ j ∧ j < 3 + c.1.toNat ∨ hA c ≤ j → layV c b j = vAt v j)) d (i + 1)) (outT (b, true)) (outT (bk0, false)) := by
      rw [impl_book.l15, w64 (n := (i : Int) + 1) (by omega) (by omega), show (i : Int) + 1 = ((i + 1 : Nat) : Int) by omega]
      exact ih
    rw [impl_book.l7, ct (by omega), impl_book.l9, bnd (by omega) (by omega), impl_isLaid_eq N h.1]
    simp only [Option.bind_some]
    rw [allB]
    by_cases g : 3 ≤ i ∧ i < 3 + c.1.toNat ∨ hA c ≤ i
    · rw [dt (show 3 ≤ i ∧ i < 3 + c.1.toNat ∨ hA c ≤ i ∧ i < dA c by omega), cond_true, bnd (by omega) (by omega), Int.toNat_natCast, hlv, cndn]
      by_cases g2 : layV c b i = v.getD i 0
      · rw [if_pos g2, dt (fun _ => g2), Bool.true_and]; exact next
      · rw [if_neg g2, df (fun q => g2 (q g)), Bool.false_and, impl_book.l14]; rfl
    · rw [df (show ¬ (3 ≤ i ∧ i < 3 + c.1.toNat ∨ hA c ≤ i ∧ i < dA c) by omega), cond_false, dt (fun q => (g q).elim), Bool.true_and]; exact next
theorem impl_vals_loop (N : Nat) (l : List Int) (hw : Words l) (hl : l.length ≤ 100000) : ∀ d i K (M : List Int), i + d = l.length → d < K → M = (l.take i).map (· % 4294967296) → impl_vals.l0 N K l (l.length : Int) (i : Nat) M = some ((), l.map (· % 4294967296))
  | 0, i, K, M, e, hK, hM => by
    obtain ⟨K, rfl⟩ := fuel hK
    rw [impl_vals.l0, cf (by omega), hM, List.take_of_length_le (by omega)]
  | d + 1, i, K, M, e, hK, hM => by
    obtain ⟨K, rfl⟩ := fuel hK
    have hml : M.length ≤ 100000 := by rw [hM, List.length_map, List.length_take]; omega
    rw [impl_vals.l0, ct (by omega), bnd (by omega) (by omega), Int.toNat_natCast, impl_CellVal_eq N (hw.at i)]
    simp only [Option.bind_some]
    rw [ct (by simp; omega), w64 (n := (i : Int) + 1) (by omega) (by omega), show (i : Int) + 1 = ((i + 1 : Nat) : Int) by omega]
    refine impl_vals_loop N l hw hl d (i + 1) K _ (by omega) (by omega) ?_
    rw [hM, getD_lt (by omega), List.take_add_one, List.getElem?_eq_getElem (by omega), List.map_append]
    rfl
theorem impl_BookOpen_eq (N : Nat) {c : Cfg} (h : Plat c) : impl_BookOpen N c = some (((openP c).1, (), ((), (), (), ()), (), (), ()), ((openP c).2.1, (openP c).2.2.2.1, (openP c).2.2.2.2.1, (openP c).2.2.2.2.2)) := by
  unfold impl_BookOpen
  rw [impl_PlatOk_eq, dt h]
  unfold Plat at h
  simp only [Option.bind_some, Bool.not_true, cond_false]
  rw [w64 (n := 8 * c.2.1) (by omega) (by omega)]
  repeat rw [ct (by omega)]
  rw [show 8 * c.2.1 = c.2.1 * 8 by omega]
  rfl
theorem chainR_congr {f g : Nat → Int} {k0 : Nat} {U : Int} {n : Nat} (h : ∀ j, j < n → f j = g j) (hU : (k0 : Int) + U ≤ n) : ∀ m a, chainR f k0 U m a = chainR g k0 U m a
  | 0, a => rfl
  | m + 1, a => by
    rw [chainR, chainR]
    by_cases c : 0 < a ∧ a ≤ U
    · rw [if_pos c, if_pos c, h _ (by omega), chainR_congr h hU m]
    · rw [if_neg c, if_neg c]
theorem map_range_congr {f g : Nat → Int} {n : Nat} (h : ∀ i, i < n → f i = g i) : (List.range n).map f = (List.range n).map g :=
  List.map_congr_left fun i hi => h i (List.mem_range.1 hi)
theorem readB_congr {c : Cfg} (hc : Plat c) {f g : Nat → Int} (h : ∀ j, j < dA c → f j = g j) : readB c f = readB c g := by
  obtain ⟨a1, a2, a3, a4, a5, a6, a7, a8, a9⟩ := plat_at hc
  have hch : ∀ m a, chainR f (kA c) (8 * c.2.1) m a = chainR g (kA c) (8 * c.2.1) m a := chainR_congr h (by omega)
  unfold readB
  rw [map_range_congr (f := fun i => f (pA c + i)) (g := fun i => g (pA c + i)) (fun i hi => h _ (by omega)),
    map_range_congr (f := fun i => f (tA c + i)) (g := fun i => g (tA c + i)) (fun i hi => h _ (by omega)),
    map_range_congr (f := fun i => f (3 + i) % 4) (g := fun i => g (3 + i) % 4) (fun i hi => by rw [h _ (by omega)]),
    map_range_congr (f := fun i => f (3 + i) / 4) (g := fun i => g (3 + i) / 4) (fun i hi => by rw [h _ (by omega)]),
    hch, hch, hch, hch, h (hA c) (by omega), h (hA c + 1) (by omega), h (hA c + 2) (by omega), h (hA c + 3) (by omega)]
theorem censP_congr {c : Cfg} (hc : Plat c) {f g : Nat → Int} (h : ∀ j, j < dA c → f j = g j) : censP c f = censP c g := by
  have e := readB_congr hc h
  have ea : Agree c f (readB c g) ↔ Agree c g (readB c g) := by
    unfold Agree
    constructor
    · intro q j hj g2; rw [← h j hj]; exact q j hj g2
    · intro q j hj g2; rw [h j hj]; exact q j hj g2
  unfold censP
  rw [e]
  by_cases c1 : BookP (readB c g) ∧ Agree c g (readB c g)
  · rw [if_pos c1, if_pos ⟨c1.1, ea.2 c1.2⟩]
  · rw [if_neg c1, if_neg (fun q => c1 ⟨q.1, ea.1 q.2⟩)]
theorem censP_chain {c : Cfg} (hc : Plat c) {v : Nat → Int} (h : BookP (readB c v) ∧ Agree c v (readB c v)) {k : Nat} (hk : k < 4) : chainB v (kA c) (8 * c.2.1) (8 * c.2.1).toNat (v (hA c + k)) = true := by
  have hF := readB_fit hc h.1
  have hnu := fit_nu hF
  exact (agree_chain hF h.2 hk (8 * c.2.1).toNat (by omega)).2
theorem censP_fail {c : Cfg} (hc : Plat c) {v : Nat → Int} {k : Nat} (hk : k < 4) (hf : chainB v (kA c) (8 * c.2.1) (8 * c.2.1).toNat (v (hA c + k)) = false) : censP c v = (bk0, false) := by
  unfold censP
  rw [if_neg]
  intro g
  rw [censP_chain hc g hk] at hf
  cases hf
theorem bk_l3 (N : Nat) (hN : Fuel N) {c : Cfg} (hc : Plat c) (z : Int) (v : List Int) (hv : v.length = dA c) (hnn : ∀ j, 0 ≤ vAt v j ∧ vAt v j < 4294967296) (hbi : Bi (readB c (vAt v))) (hbs : Bshort (readB c (vAt v))) (K : Nat) (hK : 3000 < K) :
    bk3 N K 0 c z v c.1 (readB c (vAt v)).2.1 ([], [], [], []) (readB c (vAt v)).2.2.2.1 (readB c (vAt v)).2.2.2.2.1 (readB c (vAt v)).2.2.2.2.2 = outT (censP c (vAt v)) := by
  obtain ⟨a1, a2, a3, a4, a5, a6, a7, a8, a9⟩ := plat_at hc
  have step := fun (k K : Nat) (hk : k < 4) (h : H4) (he : heads h k = []) (hK : 200 < K) => bk3_step N hc z v hv hnn c.1 (readB c (vAt v)).2.1 (readB c (vAt v)).2.2.2.1 (readB c (vAt v)).2.2.2.2.1 (readB c (vAt v)).2.2.2.2.2 hk K h he hK
  obtain ⟨K1, g1, e1⟩ := step 0 K (by omega) ([], [], [], []) rfl (by omega)
  have e1' : bk3 N K 0 c z v c.1 (readB c (vAt v)).2.1 ([], [], [], []) (readB c (vAt v)).2.2.2.1 (readB c (vAt v)).2.2.2.2.1 (readB c (vAt v)).2.2.2.2.2 = _ := e1
  rw [e1']
  cases h0 : chainB (vAt v) (kA c) (8 * c.2.1) (8 * c.2.1).toNat (vAt v (hA c + 0))
  · rw [cond_false, censP_fail hc (k := 0) (by omega) h0]
  rw [cond_true]
  obtain ⟨K2, g2, e2⟩ := step 1 K1 (by omega) (hset ([], [], [], []) 0 (chainR (vAt v) (kA c) (8 * c.2.1) ((8 * c.2.1).toNat + 1) (vAt v (hA c + 0)))) rfl (by omega)
  rw [e2]
  cases h1 : chainB (vAt v) (kA c) (8 * c.2.1) (8 * c.2.1).toNat (vAt v (hA c + 1))
  · rw [cond_false, censP_fail hc (k := 1) (by omega) h1]
  rw [cond_true]
  obtain ⟨K3, g3, e3⟩ := step 2 K2 (by omega) (hset (hset ([], [], [], []) 0 (chainR (vAt v) (kA c) (8 * c.2.1) ((8 * c.2.1).toNat + 1) (vAt v (hA c + 0)))) 1 (chainR (vAt v) (kA c) (8 * c.2.1) ((8 * c.2.1).toNat + 1) (vAt v (hA c + 1)))) rfl (by omega)
  rw [e3]
  cases h2 : chainB (vAt v) (kA c) (8 * c.2.1) (8 * c.2.1).toNat (vAt v (hA c + 2))
  · rw [cond_false, censP_fail hc (k := 2) (by omega) h2]
  rw [cond_true]
  obtain ⟨K4, g4, e4⟩ := step 3 K3 (by omega) (hset (hset (hset ([], [], [], []) 0 (chainR (vAt v) (kA c) (8 * c.2.1) ((8 * c.2.1).toNat + 1) (vAt v (hA c + 0)))) 1 (chainR (vAt v) (kA c) (8 * c.2.1) ((8 * c.2.1).toNat + 1) (vAt v (hA c + 1)))) 2 (chainR (vAt v) (kA c) (8 * c.2.1) ((8 * c.2.1).toNat + 1) (vAt v (hA c + 2)))) rfl (by omega)
  rw [e4]
  cases h3 : chainB (vAt v) (kA c) (8 * c.2.1) (8 * c.2.1).toNat (vAt v (hA c + 3))
  · rw [cond_false, censP_fail hc (k := 3) (by omega) h3]
  rw [cond_true]
  obtain ⟨K4, rfl⟩ : ∃ j, K4 = j + 1 + 1 := ⟨K4 - 2, by omega⟩
  have hok : impl_BookOk N (readB c (vAt v)) = some (bookOk (readB c (vAt v)), ()) := impl_BookOk_eq N hN _ hbi hbs
  have hok' : impl_BookOk N (c.1, (readB c (vAt v)).2.1, ((readB c (vAt v)).2.2.1.1, (readB c (vAt v)).2.2.1.2.1, (readB c (vAt v)).2.2.1.2.2.1, (readB c (vAt v)).2.2.1.2.2.2), (readB c (vAt v)).2.2.2.1, (readB c (vAt v)).2.2.2.2.1, (readB c (vAt v)).2.2.2.2.2) = some (bookOk (readB c (vAt v)), ()) := hok
  show impl_book.l3 N (K4 + 1 + 1) 4 c (z, (), ((), (), (), ()), (), (), ()) v (c.1, (), ((), (), (), ()), (), (), ()) (readB c (vAt v)).2.1 (readB c (vAt v)).2.2.1.1 (readB c (vAt v)).2.2.1.2.1 (readB c (vAt v)).2.2.1.2.2.1 (readB c (vAt v)).2.2.1.2.2.2 (readB c (vAt v)).2.2.2.1 (readB c (vAt v)).2.2.2.2.1 (readB c (vAt v)).2.2.2.2.2 = _
  rw [impl_book.l3, cf (by omega), hok']
  simp only [Option.bind_some]
  unfold censP
  by_cases hb : BookP (readB c (vAt v))
  rotate_left
  · rw [bookOk, tf_f hb, Bool.not_false, cond_true, impl_book.l6, if_neg (fun g => hb g.1)]; rfl
  have hF := readB_fit hc hb
  have hlay : impl_lay N c (c.1, (readB c (vAt v)).2.1, ((readB c (vAt v)).2.2.1.1, (readB c (vAt v)).2.2.1.2.1, (readB c (vAt v)).2.2.1.2.2.1, (readB c (vAt v)).2.2.1.2.2.2), (readB c (vAt v)).2.2.2.1, (readB c (vAt v)).2.2.2.2.1, (readB c (vAt v)).2.2.2.2.2) = some ((), layP c (readB c (vAt v))) := impl_lay_eq N hN hF
  rw [bookOk, tf_t hb, Bool.not_true, cond_false, hlay]
  simp only [Option.bind_some]
  rw [layP_len]
  have := impl_cmp_loop N hF z v hv (dA c) 0 (K4 + 1) (by omega) (by omega)
  refine this.trans ?_
  have hag : Agree c (vAt v) (readB c (vAt v)) ↔ allB (fun j => decide (3 ≤ j ∧ j < 3 + c.1.toNat ∨ hA c ≤ j → layV c (readB c (vAt v)) j = vAt v j)) (dA c) 0 = true := by
    rw [allB_iff]
    unfold Agree
    constructor
    · intro h j _ h2; exact decide_eq_true (fun q => h j (by omega) q)
    · intro h j h1 h2; exact of_decide_eq_true (h j (by omega) (by omega)) h2
  by_cases g : Agree c (vAt v) (readB c (vAt v))
  · rw [if_pos ⟨hb, g⟩, hag.1 g]; rfl
  · rw [if_neg (fun q => g q.2)]
    cases hq : allB (fun j => decide (3 ≤ j ∧ j < 3 + c.1.toNat ∨ hA c ≤ j → layV c (readB c (vAt v)) j = vAt v j)) (dA c) 0
    · rfl
    · exact (g (hag.2 hq)).elim
theorem bk_l1 (N : Nat) (hN : Fuel N) {c : Cfg} (hc : Plat c) (z : Int) (v : List Int) (hv : v.length = dA c) (hnn : ∀ j, 0 ≤ vAt v j ∧ vAt v j < 4294967296) (hbi : Bi (readB c (vAt v))) (hbs : Bshort (readB c (vAt v))) : ∀ d i K (I E : List Int), i + d = c.1.toNat → 3 * d + 4000 < K → I.length = c.1.toNat → E.length = c.1.toNat → (∀ j, j < i → I.getD j 0 = vAt v (3 + j) % 4 ∧ E.getD j 0 = vAt v (3 + j) / 4) →
    impl_book.l1 N K c.1 (i : Nat) c (z, (), ((), (), (), ()), (), (), ()) v (c.1, (), ((), (), (), ()), (), (), ()) (readB c (vAt v)).2.1 (readB c (vAt v)).2.2.2.1 I E = outT (censP c (vAt v))
  | 0, i, K, I, E, e, hK, hI, hE, hx => by
    obtain ⟨a1, a2, a3, a4, a5, a6, a7, a8, a9⟩ := plat_at hc
    obtain ⟨K, rfl⟩ := fuel (show 0 < K by omega)
    have e1 : I = (readB c (vAt v)).2.2.2.2.1 := (map_eq (f := fun i => vAt v (3 + i) % 4) hI fun j hj => (hx j (by omega)).1.symm).symm
    have e2 : E = (readB c (vAt v)).2.2.2.2.2 := (map_eq (f := fun i => vAt v (3 + i) / 4) hE fun j hj => (hx j (by omega)).2.symm).symm
    rw [impl_book.l1, cf (by omega), e1, e2]
    exact bk_l3 N hN hc z v hv hnn hbi hbs K (by omega)
  | d + 1, i, K, I, E, e, hK, hI, hE, hx => by
    obtain ⟨a1, a2, a3, a4, a5, a6, a7, a8, a9⟩ := plat_at hc
    obtain ⟨K, rfl⟩ : ∃ j, K = j + 1 + 1 + 1 := ⟨K - 3, by omega⟩
    have hn : 0 ≤ v.getD (3 + i) 0 ∧ v.getD (3 + i) 0 < 4294967296 := hnn (3 + i)
    have h3 : (3 + (i : Int)).toNat = 3 + i := by omega
    rw [impl_book.l1, ct (by omega), impl_book.l2, impl_regAt_eq]
    simp only [Option.bind_some]
    rw [w64 (n := 3 + (i : Int)) (by omega) (by omega), bnd (by omega) (by omega), bnd (by omega) (by omega), bnd (by omega) (by omega), bnd (by omega) (by omega), h3, tm hn.1, td hn.1, w64 (n := v.getD (3 + i) 0 / 4) (by omega) (by omega), Int.toNat_natCast, impl_book.l4, w64 (n := (i : Int) + 1) (by omega) (by omega), show (i : Int) + 1 = ((i + 1 : Nat) : Int) by omega]
    refine bk_l1 N hN hc z v hv hnn hbi hbs d (i + 1) K _ _ (by omega) (by omega) (by rw [List.length_set]; exact hI) (by rw [List.length_set]; exact hE) (fun j hj => ?_)
    rw [getD_set _ _ _ _ (by omega), getD_set _ _ _ _ (by omega)]
    by_cases g : j = i
    · rw [if_pos g, if_pos g, g]; exact ⟨rfl, rfl⟩
    · rw [if_neg g, if_neg g]; exact hx j (by omega)
theorem slice_getD (v : List Int) (a n j : Nat) (hj : j < n) : ((v.drop a).take n).getD j 0 = v.getD (a + j) 0 := by
  simp only [List.getD_eq_getElem?_getD, List.getElem?_take, List.getElem?_drop, if_pos hj]
theorem cpy_all (n a : Nat) (v : List Int) (h : a + n ≤ v.length) : cpy (List.replicate n (0 : Int)) 0 (min ((v.drop a).take n).length (List.replicate n (0 : Int)).length) ((v.drop a).take n) = (List.range n).map (fun i => vAt v (a + i)) := by
  have hl : ((v.drop a).take n).length = n := by rw [List.length_take, List.length_drop]; omega
  have hr : (List.replicate n (0 : Int)).length = n := List.length_replicate ..
  rw [hl, hr, Nat.min_self]
  obtain ⟨q1, q2⟩ := cpy_getD (List.replicate n (0 : Int)) 0 n ((v.drop a).take n) (by rw [hr]; omega) (by omega)
  refine (map_eq (by rw [q1, hr]) fun i hi => ?_).symm
  rw [q2 i, if_pos (by omega), Nat.sub_zero, slice_getD v a n i hi]
theorem impl_book_eq (N : Nat) (hN : Fuel N) {c : Cfg} (hc : Plat c) {w : List Int} (hw : Words w) (hl : dA c ≤ w.length) : impl_book N c w = outT (censP c (valW w)) := by
  obtain ⟨a1, a2, a3, a4, a5, a6, a7, a8, a9⟩ := plat_at hc
  have hh : house c = (dA c : Int) := by unfold house; omega
  have hlen : (w.take (dA c)).length = dA c := by rw [List.length_take]; omega
  have hwt : Words (w.take (dA c)) := fun x hx => hw x (List.mem_of_mem_take hx)
  have hvals := impl_vals_loop N (w.take (dA c)) hwt (by omega) (w.take (dA c)).length 0 N [] (by omega) (by unfold Fuel at hN; omega) (by simp)
  obtain ⟨v, hv⟩ : ∃ v, v = (w.take (dA c)).map (· % 4294967296) := ⟨_, rfl⟩
  have hvl : v.length = dA c := by rw [hv, List.length_map]; exact hlen
  have hvv : ∀ j, j < dA c → vAt v j = valW w j := fun j hj => by
    unfold vAt valW
    rw [getD_lt (by omega), getD_lt (by omega)]
    simp [hv]
  have hnn : ∀ j, 0 ≤ vAt v j ∧ vAt v j < 4294967296 := fun j => by
    by_cases g : j < dA c
    · rw [hvv j g]; exact valW_nn w j
    · have : vAt v j = 0 := by unfold vAt; rw [List.getD_eq_getElem?_getD, List.getElem?_eq_none (by omega)]; rfl
      rw [this]; omega
  have er := readB_congr hc hvv
  obtain ⟨r1, r2⟩ := readB_ok hc w
  rw [← er] at r1 r2
  unfold impl_book
  rw [impl_deskAt_eq N hc]
  simp only [Option.bind_some]
  rw [hh, dt (show (0 : Int) ≤ dA c by omega), dt (show ((dA c : Nat) : Int) ≤ w.length by omega), Int.toNat_natCast, List.drop_zero]
  simp only [cond_true]
  unfold impl_vals
  have hvals' : impl_vals.l0 N N (w.take (dA c)) ((w.take (dA c)).length : Int) 0 [] = some ((), v) := by rw [hv]; exact hvals
  rw [hvals', impl_BookOpen_eq N hc]
  simp only [Option.bind_some]
  obtain ⟨m, hm⟩ : ∃ m, N = m + 1 := ⟨N - 1, by unfold Fuel at hN; omega⟩
  have hm2 : 100000 < m := by unfold Fuel at hN; omega
  rw [← censP_congr hc hvv]
  have key : ∀ K, 100000 < K → impl_book.l0 N (K + 1) c (0, (), ((), (), (), ()), (), (), ()) v ((openP c).1, (), ((), (), (), ()), (), (), ()) (openP c).2.1 (openP c).2.2.2.1 (openP c).2.2.2.2.1 (openP c).2.2.2.2.2 = outT (censP c (vAt v)) := by
    intro K hK
    rw [impl_book.l0, impl_pageAt_eq N hc, impl_tagAt_eq N hc, impl_linkAt_eq N hc]
    simp only [Option.bind_some]
    have p1 : (7 + 2 * c.1).toNat = pA c := rfl
    have p2 : (7 + 2 * c.1 + c.2.1).toNat = tA c := rfl
    have p3 : (7 + 2 * c.1 + 9 * c.2.1).toNat = kA c := rfl
    rw [dt (show (0 : Int) ≤ 7 + 2 * c.1 + c.2.1 by omega), dt (show 7 + 2 * c.1 + c.2.1 ≤ (v.length : Int) by omega), dt (show (0 : Int) ≤ 7 + 2 * c.1 by omega), dt (show 7 + 2 * c.1 ≤ 7 + 2 * c.1 + c.2.1 by omega), dt (show (0 : Int) ≤ 7 + 2 * c.1 + 9 * c.2.1 by omega), dt (show 7 + 2 * c.1 + 9 * c.2.1 ≤ (v.length : Int) by omega), dt (show 7 + 2 * c.1 + c.2.1 ≤ 7 + 2 * c.1 + 9 * c.2.1 by omega)]
    simp only [cond_true]
    rw [p1, p2, p3, show tA c - pA c = c.2.1.toNat by omega, show kA c - tA c = (8 * c.2.1).toNat by omega]
    have o1 : (openP c).2.1 = List.replicate c.2.1.toNat 0 := rfl
    have o2 : (openP c).2.2.2.1 = List.replicate (8 * c.2.1).toNat 0 := by show List.replicate (c.2.1 * 8).toNat 0 = _; rw [show c.2.1 * 8 = 8 * c.2.1 by omega]
    rw [o1, o2, cpy_all _ _ v (by omega), cpy_all _ _ v (by omega)]
    have hi : (openP c).2.2.2.2.1.length = c.1.toNat := List.length_replicate ..
    have hep : (openP c).2.2.2.2.2.length = c.1.toNat := List.length_replicate ..
    exact bk_l1 N hN hc 0 v hvl hnn r1 r2 c.1.toNat 0 K _ _ (by omega) (by omega) hi hep (fun j hj => by omega)
  have := key m hm2
  rw [← hm] at this
  exact this
theorem impl_CensBook_eq (N : Nat) (hN : Fuel N) {w : List Int} (hw : Words w) : impl_CensBook N w = outT (censBook w) := by
  unfold impl_CensBook censBook
  by_cases hH : Head w
  rotate_left
  · obtain ⟨c, hc⟩ := impl_cfgOf_no N hw hH
    rw [hc, if_neg (fun g => hH g.1)]; rfl
  have hc := hH.2.2
  rw [impl_cfgOf_yes N hw hH]
  simp only [Option.bind_some]
  rw [Bool.not_true, cond_false, impl_size_eq N hc, impl_deskAt_eq N hc]
  simp only [Option.bind_some, cndn]
  by_cases c1 : (w.length : Int) = size (cfg (w.getD 0 0))
  · have hL : Laid w := ⟨hH, .inl c1⟩
    rw [if_pos c1, if_pos hL, impl_book_eq N hN hc hw (laid_len hL)]; rfl
  rw [if_neg c1]
  by_cases c2 : (w.length : Int) = house (cfg (w.getD 0 0))
  · have hL : Laid w := ⟨hH, .inr c2⟩
    rw [if_pos c2, if_pos hL, impl_book_eq N hN hc hw (laid_len hL)]; rfl
  · rw [if_neg c2, if_neg (fun g => by rcases g.2 with q | q; exact c1 q; exact c2 q)]; rfl
theorem censBook_short {w : List Int} : Bi (censBook w).1 ∧ Bshort (censBook w).1 := by
  unfold censBook
  by_cases h : Laid w
  · rw [if_pos h]
    unfold censP
    by_cases g : BookP (readB (cfg (w.getD 0 0)) (valW w)) ∧ Agree (cfg (w.getD 0 0)) (valW w) (readB (cfg (w.getD 0 0)) (valW w))
    · rw [if_pos g]; exact ⟨g.1.ints, g.1.short⟩
    · rw [if_neg g]; exact ⟨bk0_ints, bk0_short⟩
  · rw [if_neg h]; exact ⟨bk0_ints, bk0_short⟩
theorem plainCensBook (N : Nat) (hN : Fuel N) (a : List Int) (hw : Words a) : laws_FnExactCensBook N a = some (true, ()) := by
  unfold laws_FnExactCensBook
  by_cases hl : (a.length : Int) > 1048576
  · rw [ct hl]
  rw [cf hl]
  have hs : Short a := by unfold Short; omega
  obtain ⟨r1, r2⟩ := censBook_short (w := a)
  have hr := eqBook_eq N hN _ r2
  have m1 := markUint64S_eq N hN a 1 hs (by omega) (by omega)
  have m2 := markBook_eq N hN (censBook a).1 r2
  have hh : laws_heldBook N ((censBook a).1.1, (markB (censBook a).1).2) 1 = some (markN (censBook a).1, ()) := heldBook_eq N hN (censBook a).1 r2
  have hpos : ¬ ((1 : Int) + a.length < 0) := by omega
  simp only [toUint64S_eq N hN a hs, Option.bind_some, spec_CensBook_eq N hN hw, impl_CensBook_eq N hN hw, hr, Bool.not_true, cond_false, beq_self_eq_true, eqUint64S_eq N hN a hs, m1, cf hpos, m2, hh, cf (markN_pos _), bne_self_eq_false]
theorem lawFnExactCensBook (y0 : List Int) (w0 : Wf (.sl .frz (.int .u64)) y0) : laws_FnExactCensBook N0 y0 = some (true, ()) := plainCensBook N0 hN0 y0 (wf_words w0)
end Go.Proofs.Ytdhdlnojoonhcaa.Pv
