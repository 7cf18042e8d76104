/- The plain law of FnTidySum, part 2: what the functions compute, over numbers and lists. -/
import Derived.Test.YtdkinmgpclbedaaDoorTsPa
import Derived.Test.YtdkinmgpclbedaaDoorPvRow
namespace Go.Proofs.YtdkinmgpclbedaaDoor.Pv
open Go Go.Pv Go.Proofs
set_option linter.unusedVariables false
set_option linter.unusedSimpArgs false
theorem roomsOf_mem {k : Nat} (hk : k < 4) : ∀ n u, ∀ x ∈ roomsOf k n u, ∃ v : Nat, x = v ∧ u ≤ v ∧ v < u + n * usz k ∧ (v - u) % usz k = 0
  | 0, u, x, h => by cases h
  | n + 1, u, x, h => by
    have hz := usz_vals hk
    rw [roomsOf] at h
    rcases List.mem_cons.1 h with e | h
    · refine ⟨u, e, Nat.le_refl _, ?_, by rw [Nat.sub_self, Nat.zero_mod]⟩
      rw [Nat.add_mul]; omega
    · obtain ⟨v, e, h1, h2, h3⟩ := roomsOf_mem hk n _ x h
      refine ⟨v, e, by omega, by rw [Nat.add_mul]; omega, ?_⟩
      rcases hz with ⟨hz, _⟩ | ⟨hz, _⟩ | ⟨hz, _⟩ | ⟨hz, _⟩ <;> rw [hz] at h3 h1 ⊢ <;> omega
theorem roomsOf_count {k : Nat} (hk : k < 4) : ∀ n u (v : Nat), (roomsOf k n u).count (v : Int) = if u ≤ v ∧ v < u + n * usz k ∧ (v - u) % usz k = 0 then 1 else 0
  | 0, u, v => by rw [roomsOf, List.count_nil, if_neg (by omega)]
  | n + 1, u, v => by
    have hz := usz_vals hk
    rw [roomsOf, List.count_cons, roomsOf_count hk n _ v]
    by_cases e : v = u
    · subst e
      rw [beq_iff_eq.2 rfl, if_pos rfl, if_neg (by omega), if_pos]
      refine ⟨Nat.le_refl _, ?_, by rw [Nat.sub_self, Nat.zero_mod]⟩
      rw [Nat.add_mul]; omega
    · rw [beq_eq_false_iff_ne.2 (by omega), if_neg (c := false = true) (by decide), Nat.add_zero, Nat.add_mul]
      by_cases c : u + usz k ≤ v ∧ v < u + usz k + n * usz k ∧ (v - (u + usz k)) % usz k = 0
      · rw [if_pos c, if_pos]
        obtain ⟨c1, c2, c3⟩ := c
        refine ⟨by omega, by omega, ?_⟩
        rcases hz with ⟨hz, _⟩ | ⟨hz, _⟩ | ⟨hz, _⟩ | ⟨hz, _⟩ <;> rw [hz] at c1 c3 ⊢ <;> omega
      · rw [if_neg c, if_neg]
        intro ⟨c1, c2, c3⟩
        refine c ?_
        rcases hz with ⟨hz, _⟩ | ⟨hz, _⟩ | ⟨hz, _⟩ | ⟨hz, _⟩ <;> rw [hz] at c2 c3 ⊢ <;> exact ⟨by omega, by omega, by omega⟩
theorem usz_div {k : Nat} (hk : k < 4) : 8 / usz k * usz k = 8 := by
  rcases usz_vals hk with ⟨hz, _⟩ | ⟨hz, _⟩ | ⟨hz, _⟩ | ⟨hz, _⟩ <;> rw [hz]
/-- A page is split and its first room taken. -/
theorem carve_ok {b : Bk} (h : BookP b) {k p : Nat} (hk : k < 4) (hp : p < np b) (h0 : pg b p = 0) (hnil : hd b k = []) {s : Int} (hs0 : 0 ≤ s) (hs1 : s < b.1) (hin : inn b s.toNat ≠ 0) : BookP (popP (carveP b p k) s k).1 := by
  have hp' : p < b.2.1.length := hp
  have hdim := h.dims
  have hpgc : ∀ q, pg (carveP b p k) q = if q = p then (k : Int) + 1 else pg b q := fun q => getD_set _ _ _ _ hp'
  have hk1 : hd (carveP b p k) k = roomsOf k (8 / usz k) (8 * p) := by
    have : hd (carveP b p k) k = hd b k ++ roomsOf k (8 / usz k) (8 * p) := hd_hset _ _ _ _ hk _
    rw [this, hnil]; rfl
  have hk2 : ∀ j, j < 4 → j ≠ k → hd (carveP b p k) j = hd b j := fun j hj hne => hd_other _ _ _ _ hk hj hne _
  have hnp : np (carveP b p k) = np b := by show (b.2.1.set p ((k : Int) + 1)).length = _; rw [List.length_set]; rfl
  have hd8 := usz_div hk
  obtain ⟨r, hr⟩ := runOf_rooms hk p
  have hfree : FreeP b p 0 := (h.page hp).1 h0
  refine pop_ok (c := carveP b p k) (p0 := p) (x := ((8 * p : Nat) : Int)) (r := r) ?_ (fun i hi => h.slot hi) (fun u hu => h.own hu) (fun j hj x hx => ?_) hk (by rw [hpgc, if_pos rfl]) (fun u hu => ?_) (fun q hq hne => ?_) (by rw [hk1, hr]) (by omega) hs0 hs1 hin
  · have := h.sizes
    unfold Sizes at this ⊢
    rw [hnp]
    exact this
  · refine memB_iff.2 ?_
    have e : nu (carveP b p k) = nu b := rfl
    rw [e]
    by_cases c : j = k
    · subst c
      rw [hk1] at hx
      obtain ⟨v, e, h1, h2, h3⟩ := roomsOf_mem hk _ _ x hx
      rw [hd8] at h2
      refine ⟨by omega, by omega, ?_, ?_⟩
      · rw [hpgc, if_pos (by omega)]
      · rw [e]
        have := usz_dvd hk p (v - 8 * p)
        rw [show 8 * p + (v - 8 * p) = v by omega] at this
        omega
    · rw [hk2 j hj c] at hx
      have := memB_iff.1 (h.list hj hx)
      refine ⟨this.1, this.2.1, ?_, this.2.2.2⟩
      rw [hpgc, if_neg, this.2.2.1]
      intro e
      have := this.2.2.1
      rw [e] at this
      omega
  · unfold RoomP
    have ho : ow (carveP b p k) (8 * p + u) = 0 := hfree u (by omega) hu
    rw [hk1, roomsOf_count hk, hd8, ho, show 8 * p + u - 8 * p = u by omega]
    by_cases c : u % usz k = 0
    · rw [if_pos ⟨by omega, by omega, c⟩]; exact ⟨fun g => (g c).elim, fun _ => .inr ⟨rfl, rfl⟩⟩
    · rw [if_neg (fun g => c g.2.2)]; exact ⟨fun _ => ⟨rfl, rfl⟩, fun g => (c g).elim⟩
  · rw [hnp] at hq
    refine (h.pageW hq).same hnp (by rw [hpgc, if_neg hne]) (fun u hu => ieq rfl) (fun j hj hj2 u hu => ?_) (fun _ q' _ h10 _ => ?_) (fun h10 i h1 h2 => ?_)
    · by_cases c : j = k
      · subst c; rw [hk1, hnil, roomsOf_count hk, hd8, if_neg (by omega), List.count_nil]
      · rw [hk2 j hj c]
    · rw [hpgc, if_neg]; intro e; rw [e] at h10; omega
    · have := (h.wide hq h10).2.2.2.2.2 i h1 h2
      rw [hpgc, if_neg]; intro e; rw [e] at this; omega
theorem runOf_in {b : Bk} {n : Nat} (hn : 1 ≤ n) (h : ¬ runOf b.2.1 n < 0) : ∃ p : Nat, runOf b.2.1 n = p ∧ p + n ≤ np b ∧ ∀ i, i < n → pg b (p + i) = 0 := by
  unfold runOf at h ⊢
  rcases runFrom_spec b.2.1 n (b.2.1.length + 1 - n) 0 with e | ⟨q, e, h1, h2, h3⟩
  · rw [e] at h; omega
  · refine ⟨q, e, by unfold np; omega, fun i hi => ?_⟩
    have := (allB_iff _ _ _).1 h3 i (by omega) (by omega)
    exact of_decide_eq_true this
/-- A row of pages is taken. -/
theorem pages_ok {b : Bk} (h : BookP b) {n : Nat} (hn : 2 ≤ n) (hn4 : n ≤ 4) {s : Int} (hs0 : 0 ≤ s) (hs1 : s < b.1) (hin : inn b s.toNat ≠ 0) : BookP (pagesP b s n).1 := by
  unfold pagesP
  by_cases c : runOf b.2.1 n < 0
  · rw [if_pos c]; exact h
  rw [if_neg c]
  obtain ⟨p, e, hp, hz⟩ := runOf_in (by omega) c
  rw [e]
  dsimp only
  rw [Int.toNat_natCast]
  have hdim := h.dims
  have hl : b.2.1.length = np b := rfl
  have hlu : b.2.2.2.1.length = nu b := rfl
  generalize hb' : wOw (wPg b (setRow (b.2.1.set p (8 + (n : Int))) 7 (n - 1) (p + 1))) (8 * p) (s + 1) = b'
  have hpg : ∀ q, pg b' q = if q = p then 8 + (n : Int) else if p < q ∧ q < p + n then 7 else pg b q := fun q => by
    rw [← hb']
    show (setRow (b.2.1.set p (8 + (n : Int))) 7 (n - 1) (p + 1)).getD q 0 = _
    rw [setRow_getD _ _ _ _ _ (by rw [List.length_set]; omega), getD_set _ _ _ _ (by omega)]
    by_cases c1 : q = p
    · rw [if_pos c1, if_pos c1, if_neg (by omega)]
    · rw [if_neg c1, if_neg c1]
      by_cases c2 : p < q ∧ q < p + n
      · rw [if_pos c2, if_pos (by omega)]
      · rw [if_neg c2, if_neg (by omega)]; rfl
  have ho : ∀ v, ow b' v = if v = 8 * p then s + 1 else ow b v := fun v => by
    rw [← hb']; exact getD_set b.2.2.2.1 _ _ _ (by omega)
  have hnp : np b' = np b := by
    rw [← hb']
    show (setRow (b.2.1.set p (8 + (n : Int))) 7 (n - 1) (p + 1)).length = _
    rw [setRow_len, List.length_set]; rfl
  have hnu : nu b' = nu b := by rw [← hb']; show (b.2.2.2.1.set (8 * p) (s + 1)).length = _; rw [List.length_set]; rfl
  have hhd : ∀ k, hd b' k = hd b k := fun k => by rw [← hb']; exact hd_heads _ _ rfl k
  have hzero : ∀ q, p ≤ q → q < p + n → pg b q = 0 := fun q h1 h2 => by have := hz (q - p) (by omega); rwa [show p + (q - p) = q by omega] at this
  have hout : ∀ q, pg b q ≠ 0 → pg b' q = pg b q := fun q hq => by
    rw [hpg]
    by_cases c1 : p ≤ q ∧ q < p + n
    · exact (hq (hzero q c1.1 c1.2)).elim
    · rw [if_neg (by omega), if_neg (by omega)]
  refine book_change h.sizes (fun i hi => h.slot hi) (fun u hu => h.own hu) (by rw [← hb']; rfl) (by rw [← hb']; rfl) hnp hnu (fun v hv => ?_) (fun j hj x hx => ?_) (fun q hq => ?_)
  · rw [ho]
    by_cases e : v = 8 * p
    · rw [if_pos e]
      refine .inr (.inr ⟨by omega, by omega, ?_⟩)
      rw [show s + 1 - 1 = s by omega]; exact hin
    · rw [if_neg e]; exact .inl rfl
  · rw [hhd] at hx
    have := memB_iff.1 (h.list hj hx)
    refine memB_iff.2 ?_
    rw [hnu]
    refine ⟨this.1, this.2.1, ?_, this.2.2.2⟩
    rw [hout _ (by omega)]; exact this.2.2.1
  · by_cases c1 : q = p
    · subst c1
      have hf : FreeP b q 0 := (h.page (p := q) (by omega)).1 (hzero q (by omega) (by omega))
      refine .inr (.inr (.inr ?_))
      have e1 : pg b' q = 8 + (n : Int) := by rw [hpg, if_pos rfl]
      unfold WideP
      rw [e1, hnp]
      refine ⟨by omega, by omega, by omega, by rw [ho, if_pos rfl]; omega, fun u h1 h2 => ?_, fun i h1 h2 => ?_⟩
      · rw [ho, if_neg (by omega)]; exact hf u (by omega) h2
      · rw [hpg, if_neg (by omega), if_pos (by omega)]
    · by_cases c2 : p < q ∧ q < p + n
      · have hf : FreeP b q 0 := (h.page (p := q) (by omega)).1 (hzero q (by omega) (by omega))
        refine .inr (.inr (.inl ⟨by rw [hpg, if_neg c1, if_pos c2], fun u h1 h2 => ?_, p, by omega, by rw [hpg, if_pos rfl]; omega, by rw [hpg, if_pos rfl]; omega⟩))
        rw [ho, if_neg (by omega)]; exact hf u h1 h2
      · refine (h.pageW hq).same hnp (by rw [hpg, if_neg c1, if_neg c2]) (fun u hu => ieq ?_) (fun j hj hj2 u hu => by rw [hhd]) (fun _ q' _ h10 _ => hout _ (by omega)) (fun h10 i h1 h2 => hout _ ?_)
        · rw [ho, if_neg (by omega)]
        · have := (h.wide hq h10).2.2.2.2.2 i h1 h2; omega
theorem take_ok {b : Bk} (h : BookP b) {s : Int} (hs0 : 0 ≤ s) (hs1 : s < b.1) (hin : inn b s.toNat ≠ 0) (u : Int) : BookP (takeP b s u).1 := by
  unfold takeP
  rcases kindOf_cases u with hk | ⟨hk, hu1, hu2⟩ | ⟨k, hk4, hk⟩
  · rw [hk, if_pos (by omega)]; exact h
  · rw [hk, if_neg (by omega), if_pos rfl]; exact pages_ok h (by omega) (by omega) hs0 hs1 hin
  · rw [hk, if_neg (by omega), if_neg (by omega)]
    dsimp only
    rw [Int.toNat_natCast]
    by_cases c : (hd b k).length = 0
    · rw [if_pos c]
      by_cases c2 : runOf b.2.1 1 < 0
      · rw [if_pos c2]; exact h
      · rw [if_neg c2]
        obtain ⟨p, e, hp, hz⟩ := runOf_in (by omega) c2
        rw [e, Int.toNat_natCast]
        exact carve_ok h hk4 (by omega) (by have := hz 0 (by omega); rwa [Nat.add_zero] at this) (List.eq_nil_of_length_eq_zero c) hs0 hs1 hin
    · rw [if_neg c]
      cases hl : hd b k with
      | nil => rw [hl] at c; exact (c rfl).elim
      | cons x r =>
        have hm := memB_iff.1 (h.list hk4 (x := x) (by rw [hl]; exact List.mem_cons_self))
        have hdim := h.dims
        refine pop_ok h.sizes (fun i hi => h.slot hi) (fun u hu => h.own hu) (fun j hj y hy => h.list hj hy) hk4 (p0 := (x / 8).toNat) hm.2.2.1 ?_ (fun p hp _ => h.pageW hp) hl rfl hs0 hs1 hin
        have := ((h.page (p := (x / 8).toNat) (by omega)).2.1 (by omega)).1
        rwa [hm.2.2.1, show ((k : Int) + 1 - 1).toNat = k by omega] at this
theorem free_ok {b : Bk} (h : BookP b) {u : Nat} (hu : u < nu b) (hou : ow b u ≠ 0) : BookP (freeP b u) := by
  have hdim := h.dims
  have hl : b.2.1.length = np b := rfl
  have hlu : b.2.2.2.1.length = nu b := rfl
  obtain ⟨p, e8, hp, hc⟩ := h.owned hu hou
  unfold freeP
  rw [e8]
  dsimp only
  rcases hc with ⟨c1, c2, c3⟩ | ⟨c1, c2, c3⟩
  · rw [if_pos ⟨c1, c2⟩]
    obtain ⟨k, hkk⟩ : ∃ k : Nat, pg b p = (k : Int) + 1 := ⟨(pg b p - 1).toNat, by omega⟩
    have hk : k < 4 := by omega
    rw [show (pg b p - 1).toNat = k by omega] at c3 ⊢
    have hrooms := (h.page hp).2.1 ⟨c1, c2⟩
    rw [show (pg b p - 1).toNat = k by omega] at hrooms
    have hru := hrooms.1 (u % 8) (by omega)
    unfold RoomP at hru
    rw [show 8 * p + u % 8 = u by omega] at hru
    have hmod : u % 8 % usz k = 0 := by
      have := usz_dvd hk p (u % 8)
      rw [show 8 * p + u % 8 = u by omega] at this
      omega
    have hcu : (hd b k).count ((u : Nat) : Int) = 0 := by
      rcases hru.2 hmod with g | g
      · exact g.2
      · exact (hou g.1).elim
    by_cases cf : FreeP (wHd (wOw b u 0) k ((u : Int) :: hd b k)) p 0
    · -- the page becomes empty
      rw [tf_t cf, cond_true]
      generalize hb' : wHd (wPg (wHd (wOw b u 0) k ((u : Int) :: hd b k)) (b.2.1.set p 0)) k (((u : Int) :: hd b k).filter fun x => x / 8 != (p : Int)) = b'
      have hpg : ∀ q, pg b' q = if q = p then 0 else pg b q := fun q => by rw [← hb']; exact getD_set b.2.1 _ _ _ (by omega)
      have ho : ∀ v, ow b' v = if v = u then 0 else ow b v := fun v => by rw [← hb']; exact getD_set b.2.2.2.1 _ _ _ (by omega)
      have hnp : np b' = np b := by rw [← hb']; show (b.2.1.set p 0).length = _; rw [List.length_set]; rfl
      have hnu : nu b' = nu b := by rw [← hb']; show (b.2.2.2.1.set u 0).length = _; rw [List.length_set]; rfl
      have hk1 : hd b' k = ((u : Int) :: hd b k).filter fun x => x / 8 != (p : Int) := by rw [← hb']; exact hd_hset _ _ _ _ hk _
      have hk2 : ∀ j, j < 4 → j ≠ k → hd b' j = hd b j := fun j hj hne => by
        rw [← hb']
        have e1 := hd_other b.1 (b.2.1.set p 0) (hset b.2.2.1 k ((u : Int) :: hd b k)) (b.2.2.2.1.set u 0, b.2.2.2.2) hk hj hne (((u : Int) :: hd b k).filter fun x => x / 8 != (p : Int))
        have e2 := hd_other b.1 (b.2.1.set p 0) b.2.2.1 (b.2.2.2.1.set u 0, b.2.2.2.2) hk hj hne ((u : Int) :: hd b k)
        exact e1.trans (e2.trans (hd_heads _ _ rfl j))
      refine book_change h.sizes (fun i hi => h.slot hi) (fun u hu => h.own hu) (by rw [← hb']; rfl) (by rw [← hb']; rfl) hnp hnu (fun v hv => ?_) (fun j hj x hx => ?_) (fun q hq => ?_)
      · rw [ho]
        by_cases e : v = u
        · rw [if_pos e]; exact .inr (.inl rfl)
        · rw [if_neg e]; exact .inl rfl
      · refine memB_iff.2 ?_
        rw [hnu, hpg]
        by_cases c : j = k
        · subst c
          rw [hk1, List.mem_filter] at hx
          have hne : x / 8 ≠ (p : Int) := by have := hx.2; rwa [bne_iff_ne] at this
          have hx1 : x ∈ hd b j := by
            rcases List.mem_cons.1 hx.1 with g | g
            · rw [g] at hne; exact (hne (by omega)).elim
            · exact g
          have := memB_iff.1 (h.list hj hx1)
          rw [if_neg (by omega)]
          exact this
        · rw [hk2 j hj c] at hx
          have := memB_iff.1 (h.list hj hx)
          rw [if_neg]
          · exact this
          · intro e
            have g := this.2.2.1
            rw [e, hkk] at g
            omega
      · by_cases c : q = p
        · subst c
          refine .inl ⟨by rw [hpg, if_pos rfl], fun v h1 h2 => ?_⟩
          have := cf v h1 h2
          rw [← hb']
          exact this
        · refine (h.pageW hq).same hnp (by rw [hpg, if_neg c]) (fun v hv => ieq ?_) (fun j hj hj2 v hv => ?_) (fun _ q' _ h10 _ => ?_) (fun h10 i h1 h2 => ?_)
          · rw [ho, if_neg (by omega)]
          · by_cases e : j = k
            · subst e
              rw [hk1, List.count_filter (by rw [bne_iff_ne]; omega), List.count_cons, beq_eq_false_iff_ne.2 (by omega), if_neg (by decide)]; rfl
            · rw [hk2 j hj e]
          · rw [hpg, if_neg]; intro e; rw [e] at h10; omega
          · have := (h.wide hq h10).2.2.2.2.2 i h1 h2
            rw [hpg, if_neg]; intro e; rw [e] at this; omega
    · rw [tf_f cf, cond_false]
      generalize hb' : wHd (wOw b u 0) k ((u : Int) :: hd b k) = b' at cf ⊢
      have hpg : ∀ q, pg b' q = pg b q := fun q => by rw [← hb']; rfl
      have ho : ∀ v, ow b' v = if v = u then 0 else ow b v := fun v => by rw [← hb']; exact getD_set b.2.2.2.1 _ _ _ (by omega)
      have hnp : np b' = np b := by rw [← hb']; rfl
      have hnu : nu b' = nu b := by rw [← hb']; show (b.2.2.2.1.set u 0).length = _; rw [List.length_set]; rfl
      have hk1 : hd b' k = (u : Int) :: hd b k := by rw [← hb']; exact hd_hset _ _ _ _ hk _
      have hk2 : ∀ j, j < 4 → j ≠ k → hd b' j = hd b j := fun j hj hne => by rw [← hb']; exact hd_other _ _ _ _ hk hj hne _
      refine book_change h.sizes (fun i hi => h.slot hi) (fun u hu => h.own hu) (by rw [← hb']; rfl) (by rw [← hb']; rfl) hnp hnu (fun v hv => ?_) (fun j hj x hx => ?_) (fun q hq => ?_)
      · rw [ho]
        by_cases e : v = u
        · rw [if_pos e]; exact .inr (.inl rfl)
        · rw [if_neg e]; exact .inl rfl
      · refine memB_iff.2 ?_
        rw [hnu, hpg]
        by_cases c : j = k
        · subst c
          rw [hk1] at hx
          rcases List.mem_cons.1 hx with g | g
          · rw [g, show ((u : Int) / 8).toNat = p by omega]
            exact ⟨by omega, by omega, hkk, by omega⟩
          · exact memB_iff.1 (h.list hj g)
        · rw [hk2 j hj c] at hx
          exact memB_iff.1 (h.list hj hx)
      · by_cases c : q = p
        · subst c
          refine .inr (.inl ⟨by rw [hpg]; exact c1, by rw [hpg]; exact c2, ?_⟩)
          rw [hpg, show (pg b q - 1).toNat = k by omega]
          refine ⟨fun v hv => ?_, ?_⟩
          · have hrv := hrooms.1 v hv
            unfold RoomP at hrv ⊢
            rw [hk1, ho, List.count_cons]
            by_cases e : 8 * q + v = u
            · rw [if_pos e, e, hcu, beq_iff_eq.2 rfl, if_pos rfl]
              have e2 : v = u % 8 := by omega
              rw [e2]
              exact ⟨fun g => (g hmod).elim, fun _ => .inr ⟨rfl, rfl⟩⟩
            · rw [if_neg e, beq_eq_false_iff_ne.2 (by omega), if_neg (c := false = true) (by decide)]
              exact hrv
          · apply Classical.byContradiction
            intro g
            apply cf
            intro v h1 h2
            apply Classical.byContradiction
            intro g2
            refine g ⟨v, h2, ?_⟩
            have h3 := h.ow_nn (u := 8 * q + v) (by omega)
            rw [ho] at g2 ⊢
            by_cases e : 8 * q + v = u
            · rw [if_pos e] at g2; exact (g2 rfl).elim
            · rw [if_neg e] at g2 ⊢; omega
        · refine (h.pageW hq).same hnp (by rw [hpg]) (fun v hv => ieq ?_) (fun j hj hj2 v hv => ?_) (fun _ q' _ h10 _ => hpg _) (fun h10 i h1 h2 => hpg _)
          · rw [ho, if_neg (by omega)]
          · by_cases e : j = k
            · subst e
              rw [hk1, List.count_cons, beq_eq_false_iff_ne.2 (by omega), if_neg (by decide)]; rfl
            · rw [hk2 j hj e]
  · rw [if_neg (by omega)]
    obtain ⟨n, hn⟩ : ∃ n : Nat, pg b p = 8 + (n : Int) := ⟨(pg b p - 8).toNat, by omega⟩
    rw [show (pg b p - 8).toNat = n by omega]
    have hw := h.wide hp c1
    have hw3 := hw.2.2.1
    have hrest : ∀ q, p < q → q < p + n → pg b q = 7 := fun q h1 h2 => by
      have := hw.2.2.2.2.2 (q - p) (by omega) (by omega)
      rwa [show p + (q - p) = q by omega] at this
    generalize hb' : wPg (wOw b u 0) (setRow b.2.1 0 n p) = b'
    have hpg : ∀ q, pg b' q = if p ≤ q ∧ q < p + n then 0 else pg b q := fun q => by rw [← hb']; exact setRow_getD _ _ _ b.2.1 _ (by omega)
    have ho : ∀ v, ow b' v = if v = u then 0 else ow b v := fun v => by rw [← hb']; exact getD_set b.2.2.2.1 _ _ _ (by omega)
    have hnp : np b' = np b := by rw [← hb']; show (setRow b.2.1 0 n p).length = _; rw [setRow_len]; rfl
    have hnu : nu b' = nu b := by rw [← hb']; show (b.2.2.2.1.set u 0).length = _; rw [List.length_set]; rfl
    have hhd : ∀ k, hd b' k = hd b k := fun k => by rw [← hb']; exact hd_heads _ _ rfl k
    refine book_change h.sizes (fun i hi => h.slot hi) (fun u hu => h.own hu) (by rw [← hb']; rfl) (by rw [← hb']; rfl) hnp hnu (fun v hv => ?_) (fun j hj x hx => ?_) (fun q hq => ?_)
    · rw [ho]
      by_cases e : v = u
      · rw [if_pos e]; exact .inr (.inl rfl)
      · rw [if_neg e]; exact .inl rfl
    · rw [hhd] at hx
      have := memB_iff.1 (h.list hj hx)
      refine memB_iff.2 ?_
      rw [hnu, hpg, if_neg]
      · exact this
      · intro ⟨g1, g2⟩
        have g := this.2.2.1
        by_cases e : (x / 8).toNat = p
        · rw [e] at g; omega
        · rw [hrest _ (by omega) g2] at g; omega
    · by_cases c : p ≤ q ∧ q < p + n
      · refine .inl ⟨by rw [hpg, if_pos c], fun v h1 h2 => ?_⟩
        rw [ho]
        by_cases e : 8 * q + v = u
        · rw [if_pos e]
        · rw [if_neg e]
          by_cases e2 : q = p
          · rw [e2]; exact hw.2.2.2.2.1 v (by omega) h2
          · exact ((h.page hq).2.2.1 (hrest q (by omega) c.2)).2.2 v h1 h2
      · refine (h.pageW hq).same hnp (by rw [hpg, if_neg c]) (fun v hv => ieq ?_) (fun j hj hj2 v hv => by rw [hhd]) (fun g7 q' h1 h10 h2 => ?_) (fun h10 i h1 h2 => ?_)
        · rw [ho, if_neg (by omega)]
        · rw [hpg, if_neg]
          intro ⟨g1, g2⟩
          by_cases e : q' = p
          · subst e; omega
          · have := hrest q' (by omega) g2; omega
        · have := (h.wide hq h10).2.2.2.2.2 i h1 h2
          rw [hpg, if_neg]
          intro ⟨g1, g2⟩
          by_cases e : q + i = p
          · rw [e] at this; omega
          · by_cases e2 : q < p
            · have := (h.wide hq h10).2.2.2.2.2 (p - q) (by omega) (by omega)
              rw [show q + (p - q) = p by omega] at this
              omega
            · have := hrest q (by omega) (by omega); omega
theorem hand_ok {b : Bk} (h : BookP b) {u : Nat} (hu : u < nu b) (hou : ow b u ≠ 0) {s : Int} (hs0 : 0 ≤ s) (hs1 : s < b.1) (hin : inn b s.toNat ≠ 0) : BookP (wOw b u (s + 1)) := by
  have hlu : b.2.2.2.1.length = nu b := rfl
  have ho : ∀ v, ow (wOw b u (s + 1)) v = if v = u then s + 1 else ow b v := fun v => getD_set _ _ _ _ (by omega)
  have hnu : nu (wOw b u (s + 1)) = nu b := by show (b.2.2.2.1.set u (s + 1)).length = _; rw [List.length_set]; rfl
  have hpos := h.ow_nn hu
  refine book_change h.sizes (fun i hi => h.slot hi) (fun u hu => h.own hu) rfl rfl rfl hnu (fun v hv => ?_) (fun j hj x hx => ?_) (fun q hq => ?_)
  · rw [ho]
    by_cases e : v = u
    · rw [if_pos e]
      refine .inr (.inr ⟨by omega, by omega, ?_⟩)
      rw [show s + 1 - 1 = s by omega]; exact hin
    · rw [if_neg e]; exact .inl rfl
  · have := memB_iff.1 (h.list hj hx)
    refine memB_iff.2 ?_
    rw [hnu]
    exact this
  · refine (h.pageW hq).same rfl rfl (fun v hv => ?_) (fun j hj hj2 v hv => rfl) (fun _ _ _ _ _ => rfl) (fun _ _ _ _ => rfl)
    rw [ho]
    by_cases e : 8 * q + v = u
    · rw [if_pos e, e]; omega
    · rw [if_neg e]; exact ⟨Iff.rfl, Iff.rfl⟩
/-- A change of the slots alone. -/
theorem slots_ok {b b' : Bk} (h : BookP b) (h1 : b'.1 = b.1) (h2 : b'.2.1 = b.2.1) (h3 : b'.2.2.1 = b.2.2.1) (h4 : b'.2.2.2.1 = b.2.2.2.1) (h5 : b'.2.2.2.2.1.length = b.2.2.2.2.1.length) (h6 : b'.2.2.2.2.2.length = b.2.2.2.2.2.length)
    (hsl : ∀ i, i < b.1.toNat → slotB b' i = true) (hob : ∀ u, u < nu b → ow b u ≠ 0 → inn b' (ow b u - 1).toNat ≠ 0) : BookP b' := by
  have hpg : ∀ q, pg b' q = pg b q := fun q => by unfold pg; rw [h2]
  have ho : ∀ v, ow b' v = ow b v := fun v => by unfold ow; rw [h4]
  have hnp : np b' = np b := by unfold np; rw [h2]
  have hnu : nu b' = nu b := by unfold nu; rw [h4]
  have hhd : ∀ k, hd b' k = hd b k := fun k => hd_heads _ _ h3 k
  refine BookP.mk' ?_ (fun i hi => hsl i (by omega)) (fun u hu => ?_) (fun j hj x hx => ?_) (fun q hq => ?_)
  · have := h.sizes
    unfold Sizes at this ⊢
    rw [h1, h5, h6, hnp, hnu]
    exact this
  · rw [hnu] at hu
    have := ownB_iff.1 (h.own hu)
    refine ownB_iff.2 ?_
    rw [ho, h1]
    exact ⟨this.1, this.2.1, fun g => hob u hu (by omega)⟩
  · rw [hhd] at hx
    have := memB_iff.1 (h.list hj hx)
    refine memB_iff.2 ?_
    rw [hnu, hpg]
    exact this
  · exact (h.pageW (by omega)).same hnp (hpg q) (fun v hv => ieq (ho _)) (fun j hj hj2 v hv => by rw [hhd]) (fun _ _ _ _ _ => hpg _) (fun _ _ _ _ => hpg _)
theorem slotB_iff {b : Bk} {i : Nat} : slotB b i = true ↔ 0 ≤ inn b i ∧ inn b i ≤ 2 ∧ 0 ≤ ep b i ∧ ep b i ≤ 4095 ∧ (ep b i = 0 → inn b i = 0) := by
  unfold slotB; exact decide_eq_true_iff
theorem out_ok {b : Bk} (h : BookP b) {s : Nat} (hs : (s : Int) < b.1) (hno : firstOf b s < 0) : BookP (wIn b s 0) := by
  have hdim := h.dims
  have hsl := h.slots
  have hi : ∀ i, inn (wIn b s 0) i = if i = s then 0 else inn b i := fun i => getD_set _ _ _ _ (by omega)
  refine slots_ok h rfl rfl rfl rfl (List.length_set ..) rfl (fun i hi2 => ?_) (fun u hu hne => ?_)
  · have := slotB_iff.1 (h.slot hi2)
    refine slotB_iff.2 ?_
    have e : ep (wIn b s 0) i = ep b i := rfl
    rw [hi, e]
    split
    · exact ⟨by omega, by omega, this.2.2.1, this.2.2.2.1, fun _ => rfl⟩
    · exact this
  · have hob := ownB_iff.1 (h.own hu)
    rw [hi, if_neg]
    · exact hob.2.2 (by omega)
    · intro e
      have e2 : ow b u = (s : Int) + 1 := by omega
      unfold firstOf at hno
      have hmem : ∀ d i, i ≤ u → u < i + d → ∃ x r, blksOf b s d i = x :: r := by
        intro d
        induction d with
        | zero => intro i g1 g2; omega
        | succ d ih =>
          intro i g1 g2
          rw [blksOf]
          by_cases c : ow b i = (s : Int) + 1
          · rw [if_pos c]; exact ⟨_, _, rfl⟩
          · rw [if_neg c]
            refine ih (i + 1) ?_ (by omega)
            by_cases e3 : i = u
            · rw [e3] at c; exact (c e2).elim
            · omega
      obtain ⟨x, r, hl⟩ := hmem (nu b) 0 (by omega) (by omega)
      obtain ⟨v, e3, _⟩ := blks_mem b s (nu b) 0 x (by rw [hl]; exact List.mem_cons_self)
      rw [hl] at hno
      have : x < 0 := hno
      omega
theorem enter_ok {b : Bk} (h : BookP b) {s : Nat} (hs : (s : Int) < b.1) : BookP (enterP b s).1 := by
  have hdim := h.dims
  have hsl := h.slots
  unfold enterP
  by_cases c : inn b s ≠ 0
  · rw [if_pos c]; exact h
  rw [if_neg c]
  by_cases c2 : ep b s = 4095
  · rw [if_pos c2]; exact h
  rw [if_neg c2]
  have hi : ∀ i, inn (wEp (wIn b s 1) s (ep b s + 1)) i = if i = s then 1 else inn b i := fun i => getD_set b.2.2.2.2.1 _ _ _ (by omega)
  have he : ∀ i, ep (wEp (wIn b s 1) s (ep b s + 1)) i = if i = s then ep b s + 1 else ep b i := fun i => getD_set b.2.2.2.2.2 _ _ _ (by omega)
  refine slots_ok h rfl rfl rfl rfl (List.length_set ..) (List.length_set ..) (fun i hi2 => ?_) (fun u hu hne => ?_)
  · have := slotB_iff.1 (h.slot hi2)
    refine slotB_iff.2 ?_
    rw [hi, he]
    by_cases e : i = s
    · rw [if_pos e, if_pos e]
      rw [e] at this
      omega
    · rw [if_neg e, if_neg e]
      exact this
  · have hob := ownB_iff.1 (h.own hu)
    have := h.ow_nn hu
    rw [hi]
    split
    · omega
    · exact hob.2.2 (by omega)
theorem reap_ok {b : Bk} (h : BookP b) (s : Int) : BookP (reapP b s).1 := by
  unfold reapP
  by_cases c : s < 0 ∨ s ≥ b.1 ∨ inn b s.toNat = 0
  · rw [if_pos c]; exact h
  rw [if_neg c]
  by_cases c2 : inn b s.toNat = 1
  · rw [if_pos c2]; exact h
  rw [if_neg c2]
  by_cases c3 : firstOf b s < 0
  · rw [if_pos c3]
    refine out_ok h (by omega) ?_
    rw [Int.toNat_of_nonneg (by omega)]; exact c3
  · rw [if_neg c3]
    rcases firstOf_cases (b := b) s with e | ⟨u, e, h1, h2⟩
    · omega
    · rw [e, Int.toNat_natCast]; exact free_ok h h1 (by omega)
theorem do_ok {b : Bk} (h : BookP b) (op : Op) : BookP (doP b op).1 := by
  unfold doP
  by_cases c : op.2.1 < 0 ∨ op.2.1 ≥ b.1
  · rw [if_pos c]; exact h
  rw [if_neg c]
  by_cases c1 : op.1 = 1
  · rw [if_pos c1]; exact enter_ok h (by omega)
  rw [if_neg c1]
  by_cases c2 : inn b op.2.1.toNat = 0
  · rw [if_pos c2]; exact h
  rw [if_neg c2]
  unfold ownP
  by_cases d2 : op.1 = 2
  · rw [if_pos d2]; exact take_ok h (by omega) (by omega) c2 _
  rw [if_neg d2]
  by_cases d3 : op.1 = 3
  · rw [if_pos d3]
    by_cases w : whoseP b op.2.1 op.2.2.1 > 0
    · rw [if_pos w]; exact h
    · rw [if_neg w]
      obtain ⟨w1, w2, w3, w4⟩ := whose_in w
      exact free_ok h (by omega) w3
  rw [if_neg d3]
  by_cases d4 : op.1 = 4
  · rw [if_pos d4]
    by_cases w : whoseP b op.2.1 op.2.2.1 > 0
    · rw [if_pos w]; exact h
    · rw [if_neg w]
      obtain ⟨w1, w2, w3, w4⟩ := whose_in w
      by_cases g : op.2.2.2 < 0 ∨ op.2.2.2 ≥ b.1 ∨ inn b op.2.2.2.toNat = 0
      · rw [if_pos g]; exact h
      · rw [if_neg g]
        exact hand_ok h (by omega) w3 (by omega) (by omega) (fun e => g (.inr (.inr e)))
  rw [if_neg d4]
  by_cases d5 : op.1 = 5
  · rw [if_pos d5]
    by_cases g : firstOf b op.2.1 ≥ 0
    · rw [if_pos g]; exact h
    · rw [if_neg g]
      refine out_ok h (by omega) ?_
      rw [Int.toNat_of_nonneg (by omega)]; omega
  rw [if_neg d5]
  by_cases d6 : op.1 = 6
  · rw [if_pos d6]; exact reap_ok h _
  · rw [if_neg d6]; exact h
/-- A valid book's rows are short and its numbers are Go's. -/
theorem BookP.short {b : Bk} (h : BookP b) : Bshort b := by
  have hdim := h.dims
  have hsl := h.slots
  have e1 : np b = b.2.1.length := rfl
  have e2 : nu b = b.2.2.2.1.length := rfl
  have key : ∀ j, j < 4 → (hd b j).length ≤ 4194304 := fun j hj => by have := h.hd_len hj; omega
  refine ⟨?_, fun j => ?_, ?_, ?_, ?_⟩
  · show b.2.1.length ≤ 4194304; omega
  · by_cases c : j < 4
    · exact key j c
    · obtain ⟨q, rfl⟩ : ∃ q, j = q + 3 := ⟨j - 3, by omega⟩
      exact key 3 (by omega)
  · show b.2.2.2.1.length ≤ 4194304; omega
  · show b.2.2.2.2.1.length ≤ 4194304; omega
  · show b.2.2.2.2.2.length ≤ 4194304; omega
theorem ints_of {l : List Int} (h : ∀ i, i < l.length → -100000 ≤ l.getD i 0 ∧ l.getD i 0 ≤ 100000) : Ints l := by
  intro x hx
  obtain ⟨j, hj, e⟩ := mem_getD hx
  have := h j hj
  rw [e] at this
  exact ⟨by omega, by omega⟩
theorem BookP.ints {b : Bk} (h : BookP b) : Bi b := by
  have hdim := h.dims
  have hsl := h.slots
  have key : ∀ j, j < 4 → Ints (hd b j) := fun j hj x hx => by have := h.mem hj hx; exact ⟨by omega, by omega⟩
  refine ⟨⟨by omega, by omega⟩, ints_of fun i hi => ?_, fun j => ?_, ints_of fun i hi => ?_, ints_of fun i hi => ?_, ints_of fun i hi => ?_⟩
  · have := h.cases (p := i) hi
    rw [fold_pg]; omega
  · by_cases c : j < 4
    · exact key j c
    · obtain ⟨q, rfl⟩ : ∃ q, j = q + 3 := ⟨j - 3, by omega⟩
      exact key 3 (by omega)
  · have := ownB_iff.1 (h.own (u := i) hi)
    rw [fold_ow]; omega
  · have := slotB_iff.1 (h.slot (i := i) (by omega))
    rw [fold_in]; omega
  · have := slotB_iff.1 (h.slot (i := i) (by omega))
    rw [fold_ep]; omega
def bk0 : Bk := (0, [], ([], [], [], []), [], [], [])
noncomputable def cutP (b : Bk) (s : Int) : Bk := if 0 ≤ s ∧ s < b.1 ∧ inn b s.toNat = 1 then wIn b s.toNat 2 else b
noncomputable def bookCut (b : Bk) (s : Int) : Bk := @ite _ (BookP b) (Classical.propDecidable _) (cutP b s) bk0
theorem spec_BookCut_eq (N : Nat) (hN : Fuel N) (b : Bk) (hi : Bi b) (hb : Bshort b) (s : Int) : spec_BookCut N b s = outB (bookCut b s) := by
  unfold spec_BookCut bookCut
  rw [spec_BookOk_eq N hN b hi hb]
  simp only [Option.bind_some]
  by_cases h : BookP b
  rotate_left
  · rw [bookOk, tf_f h, if_neg h]; rfl
  have hsl := h.slots
  rw [bookOk, tf_t h, Bool.not_true, cond_false, if_pos h, l3Copy_eq N hN b hb]
  simp only [Option.bind_some, cndb]
  unfold cutP
  by_cases c1 : s ≥ 0
  rotate_left
  · rw [cf c1, if_neg (by omega)]
  rw [ct c1]
  by_cases c2 : s < b.1
  rotate_left
  · rw [cf c2, if_neg (by omega)]
  rw [ct c2, bnd (by omega) (by omega), fold_in, bnd (by omega) (by omega)]
  by_cases c3 : inn b s.toNat = 1
  · rw [if_pos c3, if_pos ⟨c1, c2, c3⟩]; rfl
  · rw [if_neg c3, if_neg (fun g => c3 g.2.2)]
theorem cut_ok {b : Bk} (h : BookP b) (s : Int) : BookP (cutP b s) := by
  unfold cutP
  by_cases c : 0 ≤ s ∧ s < b.1 ∧ inn b s.toNat = 1
  rotate_left
  · rw [if_neg c]; exact h
  rw [if_pos c]
  have hsl := h.slots
  have hi : ∀ i, inn (wIn b s.toNat 2) i = if i = s.toNat then 2 else inn b i := fun i => getD_set _ _ _ _ (by omega)
  refine slots_ok h rfl rfl rfl rfl (List.length_set ..) rfl (fun i hi2 => ?_) (fun u hu hne => ?_)
  · have := slotB_iff.1 (h.slot hi2)
    refine slotB_iff.2 ?_
    have e : ep (wIn b s.toNat 2) i = ep b i := rfl
    rw [hi, e]
    split
    · rename_i e2
      rw [e2] at this ⊢
      refine ⟨by omega, by omega, this.2.2.1, this.2.2.2.1, fun g => ?_⟩
      have := this.2.2.2.2 g
      omega
    · exact this
  · have hob := ownB_iff.1 (h.own hu)
    have := h.ow_nn hu
    rw [hi]
    split
    · omega
    · exact hob.2.2 (by omega)
/-- A book with other slots. -/
def wIE (b : Bk) (is es : List Int) : Bk := (b.1, b.2.1, b.2.2.1, b.2.2.2.1, is, es)
theorem hd_wIE (b : Bk) (is es : List Int) (k : Nat) : hd (wIE b is es) k = hd b k := hd_heads _ _ rfl k
theorem popP_wIE (b : Bk) (s : Int) (k : Nat) (is es : List Int) : popP (wIE b is es) s k = (wIE (popP b s k).1 is es, (popP b s k).2) := by
  unfold popP
  rw [hd_wIE]
  rfl
theorem takeP_wIE (b : Bk) (s u : Int) (is es : List Int) : takeP (wIE b is es) s u = (wIE (takeP b s u).1 is es, (takeP b s u).2) := by
  unfold takeP
  by_cases c1 : kindOf u < 0
  · rw [if_pos c1, if_pos c1]
  rw [if_neg c1, if_neg c1]
  by_cases c2 : kindOf u = 4
  · rw [if_pos c2, if_pos c2]
    unfold pagesP
    have e : (wIE b is es).2.1 = b.2.1 := rfl
    rw [e]
    by_cases c3 : runOf b.2.1 ((u + 7) / 8).toNat < 0
    · rw [if_pos c3, if_pos c3]
    · rw [if_neg c3, if_neg c3]; rfl
  rw [if_neg c2, if_neg c2]
  dsimp only
  rw [hd_wIE]
  by_cases c3 : (hd b (kindOf u).toNat).length = 0
  · rw [if_pos c3, if_pos c3]
    have e : (wIE b is es).2.1 = b.2.1 := rfl
    rw [e]
    by_cases c4 : runOf b.2.1 1 < 0
    · rw [if_pos c4, if_pos c4]
    · rw [if_neg c4, if_neg c4, ← popP_wIE]
      have e2 : carveP (wIE b is es) (runOf b.2.1 1).toNat (kindOf u).toNat = wIE (carveP b (runOf b.2.1 1).toNat (kindOf u).toNat) is es := by
        unfold carveP
        rw [hd_wIE]
        rfl
      rw [e2]
  · rw [if_neg c3, if_neg c3, popP_wIE]
/-- A book that would be valid with somebody in slot 0. -/
def Near (b : Bk) : Prop := ∃ is es, BookP (wIE b is es) ∧ inn (wIE b is es) 0 ≠ 0
theorem Near.take {b : Bk} (h : Near b) (u : Int) : Near (takeP b 0 u).1 := by
  obtain ⟨is, es, hb, hi⟩ := h
  have hdim := hb.dims
  refine ⟨is, es, ?_, hi⟩
  have := take_ok hb (s := 0) (by omega) (by omega) hi u
  rwa [takeP_wIE] at this
/-- There is a value, and it has the property. -/
def Ok {α : Type _} (x : Option α) (P : α → Prop) : Prop := ∃ a, x = some a ∧ P a
theorem Ok.bind {α β : Type _} {x : Option α} {P : α → Prop} {f : α → Option β} {Q : β → Prop} (h : Ok x P) (g : ∀ a, P a → Ok (f a) Q) : Ok (x.bind f) Q := by
  obtain ⟨a, rfl, h⟩ := h
  exact g a h
theorem Ok.val {α : Type _} {a : α} {P : α → Prop} (h : P a) : Ok (some a) P := ⟨a, rfl, h⟩
theorem Ok.ite {α : Type _} {p : Prop} [Decidable p] {x y : Option α} {P : α → Prop} (h1 : p → Ok x P) (h2 : ¬ p → Ok y P) : Ok (cond (decide p) x y) P := by
  by_cases c : p
  · rw [ct c]; exact h1 c
  · rw [cf c]; exact h2 c
theorem Ok.beq {α : Type _} {a c : Int} {x y : Option α} {P : α → Prop} (h1 : a = c → Ok x P) (h2 : a ≠ c → Ok y P) : Ok (cond (a == c) x y) P := by
  rw [cndb]
  split
  · exact h1 ‹_›
  · exact h2 ‹_›
theorem Ok.inb {α : Type _} {i : Int} {n : Nat} {x y : Option α} {P : α → Prop} (h : 0 ≤ i) (h2 : i < (n : Int)) (h3 : Ok x P) : Ok (cond (cond (decide (0 ≤ i)) (decide (i < (n : Int))) false) x y) P := by
  rw [bnd h h2]; exact h3
theorem Ok.of {α : Type _} {x : Option α} {P Q : α → Prop} (h : Ok x P) (g : ∀ a, P a → Q a) : Ok x Q := by
  obtain ⟨a, e, h⟩ := h; exact ⟨a, e, g a h⟩
abbrev St := List Int × Int
/-- A reader that can go on k times. -/
def Rd (k : Nat) (s : St) : Prop := (∀ x ∈ s.1, 0 ≤ x ∧ x ≤ 255) ∧ s.1.length ≤ 2000 ∧ 0 ≤ s.2 ∧ s.2 + k ≤ 1000000000
theorem Rd.mono {k j : Nat} {s : St} (h : Rd k s) (hj : j ≤ k) : Rd j s := ⟨h.1, h.2.1, h.2.2.1, by have := h.2.2.2; omega⟩
theorem byte_at {l : List Int} (h : ∀ x ∈ l, 0 ≤ x ∧ x ≤ 255) (i : Nat) : 0 ≤ l.getD i 0 ∧ l.getD i 0 ≤ 255 := by
  rw [List.getD_eq_getElem?_getD]
  cases hi : l[i]? with
  | none => exact ⟨by decide, by decide⟩
  | some x => exact h x (List.mem_of_getElem? hi)
theorem xor_small {a c : Int} (ha : 0 ≤ a) (ha2 : a < 4398046511104) (hc : 0 ≤ c) (hc2 : c < 4398046511104) : 0 ≤ IntKind.i64.wrap (((BitVec.ofInt 64 a ^^^ BitVec.ofInt 64 c).toNat : Nat) : Int) := by
  have e : ∀ x : Int, 0 ≤ x → x < 4398046511104 → (BitVec.ofInt 64 x).toNat = x.toNat := fun x h1 h2 => by
    rw [BitVec.toNat_ofInt]; omega
  have h : (BitVec.ofInt 64 a ^^^ BitVec.ofInt 64 c).toNat < 2 ^ 42 := by
    rw [BitVec.toNat_xor, e a ha ha2, e c hc hc2]
    exact Nat.xor_lt_two_pow (by omega) (by omega)
  rw [w64 (by omega) (by omega)]
  omega
theorem pick_ok {N : Nat} {n : Int} {s : St} {k : Nat} (h : Rd (k + 1) s) : Ok (loop_example_hostel_spec_l20Rd_pick N n s) (fun r => 0 ≤ r.1 ∧ (r.1 < n ∨ r.1 = 0) ∧ Rd k r.2) := by
  obtain ⟨hb, hl, hp, hk⟩ := h
  have hrd : Rd k (s.1, s.2 + 1) := ⟨hb, hl, by show 0 ≤ s.2 + 1; omega, by show s.2 + 1 + (k : Int) ≤ 1000000000; omega⟩
  unfold loop_example_hostel_spec_l20Rd_pick
  rw [w64 (n := s.2 + 1) (by omega) (by omega)]
  rw [w64 (n := s.2 + 1 - 1) (by omega) (by omega), show s.2 + 1 - 1 = s.2 by omega]
  refine Ok.ite (fun c => Ok.val ⟨Int.le_refl 0, .inr rfl, hrd⟩) fun c => ?_
  refine Ok.beq (fun c2 => Ok.val ⟨Int.le_refl 0, .inr rfl, hrd⟩) fun c2 => ?_
  have hmod : ∀ x : Int, 0 ≤ x → 0 ≤ Int.tmod x n ∧ Int.tmod x n < n := fun x hx => by rw [tm hx]; exact ⟨Int.emod_nonneg _ (by omega), Int.emod_lt_of_pos _ (by omega)⟩
  refine Ok.ite (fun c3 => ?_) fun c3 => ?_
  · refine Ok.inb hp c3 (Ok.ite (fun e => by omega) fun e => Ok.val ?_)
    have hx := byte_at hb s.2.toNat
    rw [w64 (by omega) (by omega)]
    have := hmod _ hx.1
    exact ⟨this.1, Or.inl this.2, hrd⟩
  · have hlp : (0 : Int) < s.1.length := by omega
    have q1 : 0 ≤ Int.tmod s.2 s.1.length ∧ Int.tmod s.2 s.1.length < s.1.length := by rw [tm hp]; exact ⟨Int.emod_nonneg _ (by omega), Int.emod_lt_of_pos _ hlp⟩
    rw [w64 (n := s.2 * 7) (by omega) (by omega), w64 (n := s.2 * 7 + 3) (by omega) (by omega)]
    have q2 : 0 ≤ Int.tmod (s.2 * 7 + 3) s.1.length ∧ Int.tmod (s.2 * 7 + 3) s.1.length < s.1.length := by rw [tm (by omega)]; exact ⟨Int.emod_nonneg _ (by omega), Int.emod_lt_of_pos _ hlp⟩
    refine Ok.ite (fun e => by omega) fun _ => Ok.inb q1.1 q1.2 (Ok.ite (fun e => by omega) fun _ => Ok.inb q2.1 q2.2 (Ok.ite (fun e => by omega) fun _ => Ok.ite (fun e => by omega) fun _ => Ok.val ?_))
    have x1 := byte_at hb (Int.tmod s.2 s.1.length).toNat
    have x2 := byte_at hb (Int.tmod (s.2 * 7 + 3) s.1.length).toNat
    generalize s.1.getD (Int.tmod s.2 s.1.length).toNat 0 = a1 at x1 ⊢
    generalize s.1.getD (Int.tmod (s.2 * 7 + 3) s.1.length).toNat 0 = a2 at x2 ⊢
    have q3 : 0 ≤ Int.tdiv s.2 s.1.length ∧ Int.tdiv s.2 s.1.length ≤ 1000000000 := by
      rw [td hp]
      refine ⟨Int.ediv_nonneg hp (by omega), ?_⟩
      have := Int.ediv_le_self (s.1.length : Int) hp
      omega
    generalize Int.tdiv s.2 s.1.length = a3 at q3 ⊢
    have key : 0 ≤ IntKind.i64.wrap (IntKind.i64.wrap (IntKind.i64.wrap (IntKind.i64.wrap (IntKind.i64.wrap a1 * 131) + IntKind.i64.wrap (IntKind.i64.wrap a2 * 1117)) + IntKind.i64.wrap (s.2 * 29)) + IntKind.i64.wrap (IntKind.i64.wrap a3 * 53)) ∧ IntKind.i64.wrap (IntKind.i64.wrap (IntKind.i64.wrap (IntKind.i64.wrap (IntKind.i64.wrap a1 * 131) + IntKind.i64.wrap (IntKind.i64.wrap a2 * 1117)) + IntKind.i64.wrap (s.2 * 29)) + IntKind.i64.wrap (IntKind.i64.wrap a3 * 53)) < 1000000000000 := by
      have w1 := w64 (n := a1) (by omega) (by omega)
      have w2 := w64 (n := a2) (by omega) (by omega)
      have w3 := w64 (n := a3) (by omega) (by omega)
      have w4 := w64 (n := a1 * 131) (by omega) (by omega)
      have w5 := w64 (n := a2 * 1117) (by omega) (by omega)
      have w6 := w64 (n := s.2 * 29) (by omega) (by omega)
      have w7 := w64 (n := a3 * 53) (by omega) (by omega)
      have w8 := w64 (n := a1 * 131 + a2 * 1117) (by omega) (by omega)
      have w9 := w64 (n := a1 * 131 + a2 * 1117 + s.2 * 29) (by omega) (by omega)
      have w10 := w64 (n := a1 * 131 + a2 * 1117 + s.2 * 29 + a3 * 53) (by omega) (by omega)
      rw [w1, w2, w3, w4, w5, w6, w7, w8, w9, w10]
      omega
    first
      | rw [w64 (n := a3) (by omega) (by omega)] at key ⊢
      | skip
    revert key
    generalize IntKind.i64.wrap (IntKind.i64.wrap (IntKind.i64.wrap (IntKind.i64.wrap (IntKind.i64.wrap a1 * 131) + IntKind.i64.wrap (IntKind.i64.wrap a2 * 1117)) + IntKind.i64.wrap (s.2 * 29)) + IntKind.i64.wrap (a3 * 53)) = z
    intro key
    have q4 : 0 ≤ Int.tdiv z 64 ∧ Int.tdiv z 64 < 1000000000000 := by rw [td key.1]; omega
    have w11 := w64 (n := Int.tdiv z 64) (by omega) (by omega)
    rw [w11]
    have := hmod _ (xor_small key.1 (by omega) q4.1 (by omega))
    exact ⟨this.1, Or.inl this.2, hrd⟩
theorem num_ok {N : Nat} {l : List Int} (hl : l ≠ []) {s : St} {k : Nat} (h : Rd (k + 1) s) : Ok (loop_example_hostel_spec_l20Rd_num N l s) (fun r => r.1 ∈ l ∧ Rd k r.2) := by
  unfold loop_example_hostel_spec_l20Rd_num
  have hp : 0 < l.length := List.length_pos_iff.2 hl
  refine (pick_ok h).bind fun r hr => ?_
  have hlt : r.1 < l.length := by rcases hr.2.1 with g | g <;> omega
  refine Ok.inb hr.1 hlt (Ok.val ⟨?_, hr.2.2⟩)
  rw [getD_lt (by omega)]
  exact List.getElem_mem _
theorem open_ok {N : Nat} {l : List Int} (hl : ∀ x ∈ l, 0 ≤ x ∧ x ≤ 255) : Ok (spec_l20Open N l) (fun r => Rd 999999999 r.2) := by
  unfold spec_l20Open
  refine Ok.ite (fun c => ?_) fun c => Ok.val ⟨hl, (by show l.length ≤ 2000; omega), by show (0 : Int) ≤ 0; omega, by show (0 : Int) + 999999999 ≤ 1000000000; omega⟩
  rw [dt (show (2000 : Int) ≤ l.length by omega)]
  refine Ok.val ⟨fun x hx => hl x ?_, ?_, by show (0 : Int) ≤ 0; omega, by show (0 : Int) + 999999999 ≤ 1000000000; omega⟩
  · exact List.mem_of_mem_take (List.mem_of_mem_drop hx)
  · show ((l.take 2000).drop 0).length ≤ 2000
    rw [List.length_drop, List.length_take]; omega
/-- Short lists of small numbers. -/
def Sm (n : Nat) (l : List Int) : Prop := l.length ≤ n ∧ ∀ x ∈ l, -100000 ≤ x ∧ x ≤ 100000
theorem Sm.mono {n m : Nat} {l : List Int} (h : Sm n l) (hm : n ≤ m) : Sm m l := ⟨by have := h.1; omega, h.2⟩
theorem Sm.set {n : Nat} {l : List Int} (h : Sm n l) (i : Nat) {x : Int} (h1 : -100000 ≤ x) (h2 : x ≤ 100000) : Sm n (l.set i x) := by
  refine ⟨by rw [List.length_set]; exact h.1, fun y hy => ?_⟩
  rcases List.mem_or_eq_of_mem_set hy with g | g
  · exact h.2 y g
  · rw [g]; exact ⟨h1, h2⟩
theorem Sm.add {n : Nat} {l : List Int} (h : Sm n l) {x : Int} (h1 : -100000 ≤ x) (h2 : x ≤ 100000) : Sm (n + 1) (l ++ [x]) := by
  refine ⟨by rw [List.length_append]; have := h.1; simp; omega, fun y hy => ?_⟩
  rcases List.mem_append.1 hy with g | g
  · exact h.2 y g
  · rw [List.mem_singleton.1 g]; exact ⟨h1, h2⟩
theorem Sm.short {l : List Int} (h : Sm 100 l) : Short l := by have := h.1; unfold Short; omega
theorem Sm.ints {n : Nat} {l : List Int} (h : Sm n l) : Ints l := fun x hx => by have := h.2 x hx; exact ⟨by omega, by omega⟩
/-- A book that is small. -/
def Bd (b : Bk) : Prop := (-100 ≤ b.1 ∧ b.1 ≤ 100) ∧ Sm 100 b.2.1 ∧ (Sm 100 b.2.2.1.1 ∧ Sm 100 b.2.2.1.2.1 ∧ Sm 100 b.2.2.1.2.2.1 ∧ Sm 100 b.2.2.1.2.2.2) ∧ Sm 100 b.2.2.2.1 ∧ (∀ x ∈ b.2.2.2.1, 0 ≤ x ∧ x ≤ 10) ∧ Sm 100 b.2.2.2.2.1 ∧ Sm 100 b.2.2.2.2.2
theorem Bd.short {b : Bk} (h : Bd b) : Bshort b := by
  obtain ⟨h0, h1, ⟨g0, g1, g2, g3⟩, h2, _, h3, h4⟩ := h
  exact ⟨h1.short, fun k => by match k with | 0 => exact g0.short | 1 => exact g1.short | 2 => exact g2.short | _ + 3 => exact g3.short, h2.short, h3.short, h4.short⟩
theorem Bd.ints {b : Bk} (h : Bd b) : Bi b := by
  obtain ⟨h0, h1, ⟨g0, g1, g2, g3⟩, h2, _, h3, h4⟩ := h
  exact ⟨⟨by omega, by omega⟩, h1.ints, fun k => by match k with | 0 => exact g0.ints | 1 => exact g1.ints | 2 => exact g2.ints | _ + 3 => exact g3.ints, h2.ints, h3.ints, h4.ints⟩
theorem sm_of {l : List Int} {n : Nat} (hl : l.length ≤ n) (h : ∀ i, i < l.length → -100000 ≤ l.getD i 0 ∧ l.getD i 0 ≤ 100000) : Sm n l := by
  refine ⟨hl, fun x hx => ?_⟩
  obtain ⟨j, hj, e⟩ := mem_getD hx
  have := h j hj
  rwa [e] at this
/-- The rows of a valid book are at most 48 long. -/
theorem BookP.bd48 {b : Bk} (h : BookP b) : (1 ≤ b.1 ∧ b.1 ≤ 4) ∧ Sm 48 b.2.1 ∧ (Sm 48 b.2.2.1.1 ∧ Sm 48 b.2.2.1.2.1 ∧ Sm 48 b.2.2.1.2.2.1 ∧ Sm 48 b.2.2.1.2.2.2) ∧ Sm 48 b.2.2.2.1 ∧ (∀ x ∈ b.2.2.2.1, 0 ≤ x ∧ x ≤ 10) ∧ Sm 48 b.2.2.2.2.1 ∧ Sm 48 b.2.2.2.2.2 := by
  have hdim := h.dims
  have hsl := h.slots
  have e1 : np b = b.2.1.length := rfl
  have e2 : nu b = b.2.2.2.1.length := rfl
  have key : ∀ j, j < 4 → Sm 48 (hd b j) := fun j hj => ⟨by have := h.hd_len hj; omega, fun x hx => by have := h.mem hj hx; omega⟩
  have how : ∀ x ∈ b.2.2.2.1, 0 ≤ x ∧ x ≤ 10 := fun x hx => by
    obtain ⟨j, hj, e⟩ := mem_getD hx
    have := ownB_iff.1 (h.own (u := j) hj)
    rw [fold_ow] at e
    omega
  refine ⟨by omega, sm_of (by omega) fun i hi => ?_, ⟨key 0 (by omega), key 1 (by omega), key 2 (by omega), key 3 (by omega)⟩, ⟨by omega, fun x hx => by have := how x hx; omega⟩, how, sm_of (by omega) fun i hi => ?_, sm_of (by omega) fun i hi => ?_⟩
  · have := h.cases (p := i) hi
    rw [fold_pg]; omega
  · have := slotB_iff.1 (h.slot (i := i) (by omega))
    rw [fold_in]; omega
  · have := slotB_iff.1 (h.slot (i := i) (by omega))
    rw [fold_ep]; omega
theorem BookP.bd {b : Bk} (h : BookP b) : Bd b := by
  obtain ⟨h0, h1, ⟨g0, g1, g2, g3⟩, h2, ho, h3, h4⟩ := h.bd48
  exact ⟨by omega, h1.mono (by omega), ⟨g0.mono (by omega), g1.mono (by omega), g2.mono (by omega), g3.mono (by omega)⟩, h2.mono (by omega), ho, h3.mono (by omega), h4.mono (by omega)⟩
theorem l2Cfg_ok {N : Nat} {s : St} {k : Nat} (h : Rd (k + 3) s) : Ok (spec_l2Cfg N s) (fun r => (1 ≤ r.1.1 ∧ r.1.1 ≤ 3) ∧ (1 ≤ r.1.2.1 ∧ r.1.2.1 ≤ 3) ∧ (1 ≤ r.1.2.2 ∧ r.1.2.2 ≤ 3) ∧ Rd k r.2) := by
  unfold spec_l2Cfg
  refine (pick_ok h).bind fun u1 h1 => (pick_ok h1.2.2).bind fun u2 h2 => (pick_ok h2.2.2).bind fun u3 h3 => Ok.val ?_
  have e1 := w64 (n := 1 + u1.1) (by omega) (by omega)
  have e2 := w64 (n := 1 + u2.1) (by omega) (by omega)
  have e3 := w64 (n := 1 + u3.1) (by omega) (by omega)
  rw [e1, e2, e3]
  exact ⟨by dsimp only; omega, by dsimp only; omega, by dsimp only; omega, h3.2.2⟩
/-- A new book. -/
def openP (c : Cfg) : Bk := (c.1, List.replicate c.2.1.toNat 0, ([], [], [], []), List.replicate (c.2.1 * 8).toNat 0, List.replicate c.1.toNat 0, List.replicate c.1.toNat 0)
theorem rep_getD (n i : Nat) : (List.replicate n (0 : Int)).getD i 0 = 0 := by
  rw [List.getD_eq_getElem?_getD, List.getElem?_replicate]
  split <;> rfl
theorem open_valid {c : Cfg} (h : Plat c) : BookP (openP c) := by
  unfold Plat at h
  have hpg : ∀ p, pg (openP c) p = 0 := fun p => rep_getD _ _
  have how : ∀ p, ow (openP c) p = 0 := fun p => rep_getD _ _
  have hin : ∀ p, inn (openP c) p = 0 := fun p => rep_getD _ _
  have hep : ∀ p, ep (openP c) p = 0 := fun p => rep_getD _ _
  have e1 : np (openP c) = c.2.1.toNat := List.length_replicate ..
  have e2 : nu (openP c) = (c.2.1 * 8).toNat := List.length_replicate ..
  have e0 : (openP c).1 = c.1 := rfl
  refine BookP.mk' ?_ (fun i _ => slotB_iff.2 ?_) (fun u _ => ownB_iff.2 ?_) (fun k hk x hx => ?_) (fun p _ => .inl ⟨hpg p, fun u _ _ => how _⟩)
  · unfold Sizes
    have e3 : (openP c).2.2.2.2.1.length = c.1.toNat := List.length_replicate ..
    have e4 : (openP c).2.2.2.2.2.length = c.1.toNat := List.length_replicate ..
    rw [e1, e2, e3, e4, e0]
    omega
  · rw [hin, hep]; exact ⟨by omega, by omega, by omega, by omega, fun _ => rfl⟩
  · rw [how, e0]; exact ⟨by omega, by omega, fun g => by omega⟩
  · match k with
    | 0 => cases hx
    | 1 => cases hx
    | 2 => cases hx
    | _ + 3 => cases hx
theorem spec_BookOpen_eq (N : Nat) {c : Cfg} (h : Plat c) : spec_BookOpen N c = some (((openP c).1, (), ((), (), (), ()), (), (), ()), ((openP c).2.1, (openP c).2.2.2.1, (openP c).2.2.2.2.1, (openP c).2.2.2.2.2)) := by
  unfold spec_BookOpen
  rw [spec_PlatOk_eq, dt h]
  unfold Plat at h
  simp only [Option.bind_some, Bool.not_true, cond_false]
  rw [w64 (n := c.2.1 * 8) (by omega) (by omega)]
  repeat rw [ct (by omega)]
  rfl
def Opd (op : Op) : Prop := (-100 ≤ op.1 ∧ op.1 ≤ 100) ∧ (-100 ≤ op.2.1 ∧ op.2.1 ≤ 100) ∧ (-200 ≤ op.2.2.1 ∧ op.2.2.1 ≤ 200) ∧ (-100 ≤ op.2.2.2 ∧ op.2.2.2 ≤ 100)
theorem num3_ok {N : Nat} {s : St} {k : Nat} (h : Rd (k + 1) s) : Ok (loop_example_hostel_spec_l20Rd_num N ([0, 7, (-1)]) s) (fun r => (-1 ≤ r.1 ∧ r.1 ≤ 7) ∧ Rd k r.2) :=
  (num_ok (by simp) h).of fun r hr => ⟨by
    have := hr.1
    simp only [List.mem_cons, List.mem_nil_iff, or_false] at this
    omega, hr.2⟩
theorem l3Op_tail {N : Nat} {s : St} {k : Nat} (h : Rd (k + 2) s) {op : Op} (ho : Opd op) {x y z : Int} (hx : -100 ≤ x ∧ x ≤ 100) (hy : -200 ≤ y ∧ y ≤ 200) (hz : -100 ≤ z ∧ z ≤ 100) :
    Ok ((loop_example_hostel_spec_l20Rd_pick N 20 s).bind fun u => (bif (u.1 == 0) then (loop_example_hostel_spec_l20Rd_num N ([0, 7, (-1)]) u.2).bind fun v => some ((v.1, x, y, z), v.2) else some ((op.1, x, y, z), u.2))) (fun r => Opd r.1 ∧ Rd k r.2) := by
  refine (pick_ok h).bind fun u hu => Ok.beq (fun _ => (num3_ok hu.2.2).bind fun v hv => Ok.val ⟨⟨by dsimp only; omega, hx, hy, hz⟩, hv.2⟩) (fun _ => Ok.val ⟨⟨ho.1, hx, hy, hz⟩, hu.2.2.mono (by omega)⟩)
theorem l3Op_loop {N : Nat} {b : Bk} (hb : Bd b) {op : Op} (ho : Opd op) {j : Nat} (z : Op) {s : St} (h : Rd (j + 5) s) : ∀ d i k (l : List Int), i + d = b.2.2.2.1.length → d < k → l.length ≤ i → (∀ x ∈ l, 0 ≤ x ∧ x < b.2.2.2.1.length) →
    Ok (spec_l3Op.l0 N k i s b z op l) (fun r => Opd r.1 ∧ Rd j r.2)
  | 0, i, k, l, h1, h2, h3, h4 => by
    have hl := hb.2.2.2.1.1
    obtain ⟨k, rfl⟩ := fuel h2
    rw [spec_l3Op.l0]
    refine Ok.ite (fun c => by omega) fun _ => Ok.ite (fun c => ?_) fun _ => ?_
    · refine (pick_ok (k := j + 4) h).bind fun u18 g18 => Ok.ite (fun c2 => ?_) fun _ => ?_
      · refine (pick_ok (k := j + 3) g18.2.2).bind fun u19 g19 => ?_
        have hlt : u19.1 < l.length := by rcases g19.2.1 with g | g <;> omega
        refine Ok.inb g19.1 hlt ?_
        have hm : l.getD u19.1.toNat 0 ∈ l := by rw [getD_lt (by omega)]; exact List.getElem_mem _
        have hm2 := h4 _ hm
        refine Ok.inb hm2.1 hm2.2 ((pick_ok (k := j + 2) g19.2.2).bind fun u20 g20 => ?_)
        have hw : (b.2.2.2.1.getD (l.getD u19.1.toNat 0).toNat 0) ∈ b.2.2.2.1 := by
          rw [getD_lt (l := b.2.2.2.1) (by omega)]; exact List.getElem_mem _
        have hw2 := hb.2.2.2.2.1 _ hw
        have e1 := w64 (n := b.2.2.2.1.getD (l.getD u19.1.toNat 0).toNat 0 - 1) (by omega) (by omega)
        have e2 := w64 (n := u20.1 - 1) (by omega) (by omega)
        rw [e1, e2]
        exact l3Op_tail g20.2.2 ho (by omega) (by omega) (by omega)
      · refine (pick_ok (k := j + 3) g18.2.2).bind fun u20 g20 => ?_
        have e2 := w64 (n := u20.1 - 1) (by omega) (by omega)
        rw [e2]
        exact l3Op_tail (g20.2.2.mono (by omega)) ho ho.2.1 ho.2.2.1 (by omega)
    · refine (pick_ok (k := j + 4) h).bind fun u20 g20 => ?_
      have e2 := w64 (n := u20.1 - 1) (by omega) (by omega)
      rw [e2]
      exact l3Op_tail (g20.2.2.mono (by omega)) ho ho.2.1 ho.2.2.1 (by omega)
  | d + 1, i, k, l, h1, h2, h3, h4 => by
    have hl := hb.2.2.2.1.1
    obtain ⟨k, rfl⟩ := fuel h2
    have e1 : IntKind.i64.wrap ((i : Int) + 1) = ((i + 1 : Nat) : Int) := wi (by omega)
    rw [spec_l3Op.l0, e1]
    refine Ok.ite (fun _ => Ok.inb (by omega) (by omega) (Ok.ite (fun _ => Ok.ite (fun _ => ?_) fun c => ?_) fun _ => ?_)) fun c => by omega
    · refine l3Op_loop hb ho z h d (i + 1) k _ (by omega) (by omega) (by rw [List.length_append]; simp; omega) fun x hx => ?_
      rcases List.mem_append.1 hx with g | g
      · exact h4 x g
      · rw [List.mem_singleton.1 g]; omega
    · exact (c (by simp; omega)).elim
    · exact l3Op_loop hb ho z h d (i + 1) k l (by omega) (by omega) (by omega) h4
theorem l3Op_ok {N : Nat} (hN : Fuel N) {b : Bk} (hb : Bd b) {s : St} {j : Nat} (h : Rd (j + 10) s) : Ok (spec_l3Op N b s) (fun r => Opd r.1 ∧ Rd j r.2) := by
  have hl := hb.2.2.2.1.1
  unfold spec_l3Op
  refine (num_ok (k := j + 9) (by simp) h).bind fun u1 g1 => (pick_ok (k := j + 8) g1.2).bind fun u2 g2 => ?_
  have hk : 1 ≤ u1.1 ∧ u1.1 ≤ 6 := by
    have := g1.1
    simp only [List.mem_cons, List.mem_nil_iff, or_false] at this
    omega
  have hop : ∀ y, -200 ≤ y → y ≤ 200 → Opd (u1.1, u2.1, y, 0) := fun y h1 h2 => ⟨by dsimp only; omega, by dsimp only; omega, by dsimp only; omega, by dsimp only; omega⟩
  have hp2 : -100 ≤ u2.1 ∧ u2.1 ≤ 100 := by omega
  have body : Ok ((loop_example_hostel_spec_l20Rd_pick N (IntKind.i64.wrap ((b.2.2.2.1.length : Int) + 2)) u2.2).bind fun u6 => spec_l3Op.l0 N N 0 u6.2 b (0, 0, 0, 0) (u1.1, u2.1, IntKind.i64.wrap (u6.1 - 1), 0) ([] : List Int)) (fun r => Opd r.1 ∧ Rd j r.2) := by
    rw [w64 (n := (b.2.2.2.1.length : Int) + 2) (by omega) (by omega)]
    refine (pick_ok (k := j + 7) g2.2.2).bind fun u6 g6 => ?_
    have e := w64 (n := u6.1 - 1) (by omega) (by omega)
    rw [e]
    unfold Fuel at hN
    exact l3Op_loop hb (hop _ (by omega) (by omega)) _ (g6.2.2.mono (by omega)) b.2.2.2.1.length 0 N [] (by omega) (by omega) (by simp) (fun x hx => by cases hx)
  have reaps : Ok ((loop_example_hostel_spec_l20Rd_pick N 5 u2.2).bind fun u7 => (loop_example_hostel_spec_l20Rd_pick N 20 u7.2).bind fun u8 => (bif (u8.1 == 0) then (loop_example_hostel_spec_l20Rd_num N ([0, 7, (-1)]) u8.2).bind fun u9 => some ((u9.1, u2.1, IntKind.i64.wrap (u7.1 - 1), 0), u9.2) else some ((u1.1, u2.1, IntKind.i64.wrap (u7.1 - 1), 0), u8.2))) (fun r => Opd r.1 ∧ Rd j r.2) := by
    refine (pick_ok (k := j + 7) g2.2.2).bind fun u7 g7 => ?_
    have e := w64 (n := u7.1 - 1) (by omega) (by omega)
    rw [e]
    exact l3Op_tail (op := (u1.1, u2.1, 0, 0)) (g7.2.2.mono (by omega)) (hop 0 (by omega) (by omega)) hp2 (by omega) (by omega)
  have plain : Ok ((loop_example_hostel_spec_l20Rd_pick N 20 u2.2).bind fun u10 => (bif (u10.1 == 0) then (loop_example_hostel_spec_l20Rd_num N ([0, 7, (-1)]) u10.2).bind fun u11 => some ((u11.1, u2.1, 0, 0), u11.2) else some ((u1.1, u2.1, 0, 0), u10.2))) (fun r => Opd r.1 ∧ Rd j r.2) :=
    l3Op_tail (op := (u1.1, u2.1, 0, 0)) (g2.2.2.mono (by omega)) (hop 0 (by omega) (by omega)) hp2 (by omega) (by omega)
  refine Ok.beq (fun _ => ?_) fun _ => Ok.beq (fun _ => Ok.beq (fun _ => body) fun _ => Ok.beq (fun _ => reaps) fun _ => plain) fun _ => Ok.beq (fun _ => body) fun _ => Ok.beq (fun _ => reaps) fun _ => plain
  refine (num_ok (k := j + 7) (by simp) g2.2.2).bind fun u3 g3 => ?_
  have h3 : 0 ≤ u3.1 ∧ u3.1 ≤ 33 := by
    have := g3.1
    simp only [List.mem_cons, List.mem_nil_iff, or_false] at this
    omega
  exact l3Op_tail (op := (u1.1, u2.1, 0, 0)) (g3.2.mono (by omega)) (hop 0 (by omega) (by omega)) hp2 (by omega) (by omega)
abbrev L8S := List Int × List Int × List Int × List Int × List Int × List Int × List Int × List Int × St
/-- The book in a result with a reader. -/
abbrev bkS (r : BkU × L8S) : Bk := (r.1.1, r.2.1, (r.2.2.1, r.2.2.2.1, r.2.2.2.2.1, r.2.2.2.2.2.1), r.2.2.2.2.2.2.1, r.2.2.2.2.2.2.2.1, r.2.2.2.2.2.2.2.2.1)
abbrev stS (r : BkU × L8S) : St := r.2.2.2.2.2.2.2.2.2
theorem bookCut_ok {b : Bk} (h : BookP b) (s : Int) : BookP (bookCut b s) := by
  unfold bookCut; rw [if_pos h]; exact cut_ok h s
theorem l3Book_loop {N : Nat} (hN : Fuel N) (n : Nat) (z : BkU) : ∀ d i k j (s : St) (b : Bk), i + d = n → d < k → n ≤ 1000 → Rd (j + 20 * d) s → BookP b →
    Ok (spec_l3Book.l0 N k n i s z (b.1, (), ((), (), (), ()), (), (), ()) b.2.1 b.2.2.1.1 b.2.2.1.2.1 b.2.2.1.2.2.1 b.2.2.1.2.2.2 b.2.2.2.1 b.2.2.2.2.1 b.2.2.2.2.2) (fun r => BookP (bkS r) ∧ Rd j (stS r))
  | 0, i, k, j, s, b, h1, h2, h3, h4, h5 => by
    obtain ⟨k, rfl⟩ := fuel h2
    rw [spec_l3Book.l0, cf (by omega)]
    exact Ok.val ⟨h5, h4⟩
  | d + 1, i, k, j, s, b, h1, h2, h3, h4, h5 => by
    obtain ⟨k, rfl⟩ := fuel h2
    have hdim := h5.dims
    rw [spec_l3Book.l0, ct (by omega)]
    refine (pick_ok (k := j + 20 * d + 19) (h4.mono (by omega))).bind fun u2 g2 => Ok.beq (fun _ => ?_) fun _ => ?_
    · refine (pick_ok (k := j + 20 * d + 18) g2.2.2).bind fun u3 g3 => ?_
      have e : spec_BookCut N (b.1, b.2.1, (b.2.2.1.1, b.2.2.1.2.1, b.2.2.1.2.2.1, b.2.2.1.2.2.2), b.2.2.2.1, b.2.2.2.2.1, b.2.2.2.2.2) u3.1 = outB (bookCut b u3.1) := spec_BookCut_eq N hN b h5.ints h5.short u3.1
      rw [e]
      simp only [Option.bind_some]
      rw [wi (by omega)]
      exact l3Book_loop hN n _ d (i + 1) k j u3.2 (bookCut b u3.1) (by omega) (by omega) h3 (g3.2.2.mono (by omega)) (bookCut_ok h5 _)
    · refine (l3Op_ok (j := j + 20 * d + 9) hN (b := (b.1, b.2.1, (b.2.2.1.1, b.2.2.1.2.1, b.2.2.1.2.2.1, b.2.2.1.2.2.2), b.2.2.2.1, b.2.2.2.2.1, b.2.2.2.2.2)) h5.bd g2.2.2).bind fun u5 g5 => ?_
      rw [wi (by omega)]
      refine Ok.ite (fun _ => ?_) fun _ => ?_
      · rw [spec_l3Do_eq N hN h5 h5.ints (1, (i : Int), 0, 0)]
        simp only [Option.bind_some]
        exact l3Book_loop hN n _ d (i + 1) k j u5.2 (doP b (1, (i : Int), 0, 0)).1 (by omega) (by omega) h3 (g5.2.mono (by omega)) (do_ok h5 _)
      · rw [spec_l3Do_eq N hN h5 h5.ints u5.1]
        simp only [Option.bind_some]
        exact l3Book_loop hN n _ d (i + 1) k j u5.2 (doP b u5.1).1 (by omega) (by omega) h3 (g5.2.mono (by omega)) (do_ok h5 _)
theorem l3Book_ok {N : Nat} (hN : Fuel N) {c : Cfg} (hc : Plat c) {n : Int} (hn : 0 ≤ n) (hn2 : n ≤ 100) {j : Nat} {s : St} (h : Rd (j + 2000) s) : Ok (spec_l3Book N c n s) (fun r => BookP (bkS r) ∧ Rd j (stS r)) := by
  unfold spec_l3Book
  rw [spec_BookOpen_eq N hc]
  simp only [Option.bind_some]
  obtain ⟨m, rfl⟩ : ∃ m : Nat, n = m := ⟨n.toNat, by omega⟩
  exact l3Book_loop hN m _ m 0 N j s (openP c) (by omega) (by unfold Fuel at hN; omega) (by omega) (h.mono (by omega)) (open_valid hc)
theorem cfg_plat {c : Cfg} (h : (1 ≤ c.1 ∧ c.1 ≤ 3) ∧ (1 ≤ c.2.1 ∧ c.2.1 ≤ 3) ∧ (1 ≤ c.2.2 ∧ c.2.2 ≤ 3)) : Plat c := by
  unfold Plat; omega
theorem numin_ok {N : Nat} {l : List Int} {a c : Int} (hl : l ≠ []) (hb : ∀ x ∈ l, a ≤ x ∧ x ≤ c) {s : St} {k : Nat} (h : Rd (k + 1) s) : Ok (loop_example_hostel_spec_l20Rd_num N l s) (fun r => (a ≤ r.1 ∧ r.1 ≤ c) ∧ Rd k r.2) :=
  (num_ok hl h).of fun r hr => ⟨hb _ hr.1, hr.2⟩
/-- A list's numbers lie between two. -/
theorem allin {l : List Int} {a c : Int} (h : l.all (fun x => decide (a ≤ x ∧ x ≤ c)) = true) : ∀ x ∈ l, a ≤ x ∧ x ≤ c := fun x hx => of_decide_eq_true (List.all_eq_true.1 h x hx)
theorem Bd.of48 {b : Bk} (h0 : -100 ≤ b.1 ∧ b.1 ≤ 100) (h1 : Sm 48 b.2.1) (h2 : Sm 49 b.2.2.1.1 ∧ Sm 49 b.2.2.1.2.1 ∧ Sm 49 b.2.2.1.2.2.1 ∧ Sm 49 b.2.2.1.2.2.2) (h3 : Sm 48 b.2.2.2.1) (h4 : ∀ x ∈ b.2.2.2.1, 0 ≤ x ∧ x ≤ 10) (h5 : Sm 48 b.2.2.2.2.1) (h6 : Sm 48 b.2.2.2.2.2) : Bd b :=
  ⟨h0, h1.mono (by omega), ⟨h2.1.mono (by omega), h2.2.1.mono (by omega), h2.2.2.1.mono (by omega), h2.2.2.2.mono (by omega)⟩, h3.mono (by omega), h4, h5.mono (by omega), h6.mono (by omega)⟩
theorem l3Bent_ok {N : Nat} (hN : Fuel N) {j : Nat} {s : St} (h : Rd (j + 3000) s) : Ok (spec_l3Bent N s) (fun r => Bd (bkS r) ∧ Rd j (stS r)) := by
  unfold spec_l3Bent
  refine (l2Cfg_ok (k := j + 2900) (h.mono (by omega))).bind fun u1 g1 => ?_
  refine (numin_ok (a := 0) (c := 45) (k := j + 2899) (by simp) (allin (by decide)) g1.2.2.2).bind fun u2 g2 => ?_
  refine (l3Book_ok (j := j + 10) hN (cfg_plat ⟨g1.1, g1.2.1, g1.2.2.1⟩) g2.1.1 (by omega) (g2.2.mono (by omega))).bind fun u3 g3 => ?_
  obtain ⟨hb, hr⟩ := g3
  have hdim := hb.dims
  have hsl := hb.slots
  have e1 : np (bkS u3) = u3.2.1.length := rfl
  have e2 : nu (bkS u3) = u3.2.2.2.2.2.2.1.length := rfl
  obtain ⟨h0, h1, ⟨q0, q1, q2, q3⟩, h3, h4, h5, h6⟩ := hb.bd48
  have p0 := q0.mono (m := 49) (by omega)
  have p1 := q1.mono (m := 49) (by omega)
  have p2 := q2.mono (m := 49) (by omega)
  have p3 := q3.mono (m := 49) (by omega)
  have h0' : -100 ≤ u3.1.1 ∧ u3.1.1 ≤ 100 := by have : (bkS u3).1 = u3.1.1 := rfl; omega
  refine (pick_ok (k := j + 9) hr).bind fun u4 g4 => Ok.beq (fun _ => ?_) fun _ => Ok.beq (fun _ => ?_) fun _ => Ok.beq (fun _ => ?_) fun _ => Ok.beq (fun _ => ?_) fun _ => Ok.beq (fun _ => ?_) fun _ => Ok.beq (fun _ => ?_) fun _ => ?_
  · exact (numin_ok (a := 0) (c := 5) (k := j + 8) (by simp) (allin (by decide)) g4.2.2).bind fun u5 g5 => Ok.val ⟨Bd.of48 (by dsimp only; omega) h1 ⟨p0, p1, p2, p3⟩ h3 h4 h5 h6, g5.2.mono (by omega)⟩
  · refine (pick_ok (k := j + 8) g4.2.2).bind fun u6 g6 => (numin_ok (a := 0) (c := 13) (k := j + 7) (by simp) (allin (by decide)) g6.2.2).bind fun u7 g7 => Ok.inb g6.1 (by omega) (Ok.val ⟨Bd.of48 h0' (h1.set _ (by omega) (by omega)) ⟨p0, p1, p2, p3⟩ h3 h4 h5 h6, g7.2.mono (by omega)⟩)
  · refine (pick_ok (k := j + 8) g4.2.2).bind fun u8 g8 => ?_
    have l0 : u3.2.2.1.length ≤ 48 := q0.1
    have l1 : u3.2.2.2.1.length ≤ 48 := q1.1
    have l2 : u3.2.2.2.2.1.length ≤ 48 := q2.1
    have l3 : u3.2.2.2.2.2.1.length ≤ 48 := q3.1
    refine Ok.ite (fun c => ?_) fun c => Ok.ite (fun c => ?_) fun c => Ok.ite (fun c => ?_) fun c => Ok.ite (fun c => ?_) fun c => by omega
    · refine (numin_ok (a := -1) (c := 99) (k := j + 7) (by simp) (allin (by decide)) g8.2.2).bind fun u9 g9 => Ok.ite (fun _ => ?_) fun d => (d (by simp; omega)).elim
      repeat rw [cf (by omega)]
      rw [ct c]
      exact Ok.val ⟨Bd.of48 h0' h1 ⟨q0.add (by omega) (by omega), p1, p2, p3⟩ h3 h4 h5 h6, g9.2.mono (by omega)⟩
    · refine (numin_ok (a := -1) (c := 99) (k := j + 7) (by simp) (allin (by decide)) g8.2.2).bind fun u9 g9 => Ok.ite (fun _ => ?_) fun d => (d (by simp; omega)).elim
      repeat rw [cf (by omega)]
      rw [ct c]
      exact Ok.val ⟨Bd.of48 h0' h1 ⟨p0, q1.add (by omega) (by omega), p2, p3⟩ h3 h4 h5 h6, g9.2.mono (by omega)⟩
    · refine (numin_ok (a := -1) (c := 99) (k := j + 7) (by simp) (allin (by decide)) g8.2.2).bind fun u9 g9 => Ok.ite (fun _ => ?_) fun d => (d (by simp; omega)).elim
      repeat rw [cf (by omega)]
      rw [ct c]
      exact Ok.val ⟨Bd.of48 h0' h1 ⟨p0, p1, q2.add (by omega) (by omega), p3⟩ h3 h4 h5 h6, g9.2.mono (by omega)⟩
    · refine (numin_ok (a := -1) (c := 99) (k := j + 7) (by simp) (allin (by decide)) g8.2.2).bind fun u9 g9 => Ok.ite (fun _ => ?_) fun d => (d (by simp; omega)).elim
      repeat rw [cf (by omega)]
      rw [ct c]
      exact Ok.val ⟨Bd.of48 h0' h1 ⟨p0, p1, p2, q3.add (by omega) (by omega)⟩ h3 h4 h5 h6, g9.2.mono (by omega)⟩
  · refine (pick_ok (k := j + 8) g4.2.2).bind fun u6 g6 => (pick_ok (k := j + 7) g6.2.2).bind fun u7 g7 => Ok.inb g6.1 (by omega) (Ok.val ⟨Bd.of48 h0' h1 ⟨p0, p1, p2, p3⟩ (h3.set _ (by omega) (by omega)) (fun x hx => ?_) h5 h6, g7.2.2.mono (by omega)⟩)
    rcases List.mem_or_eq_of_mem_set hx with g | g
    · exact h4 x g
    · omega
  · refine (numin_ok (a := -1) (c := 3) (k := j + 8) (by simp) (allin (by decide)) g4.2.2).bind fun u5 g5 => Ok.ite (fun _ => Ok.val ⟨Bd.of48 h0' h1 ⟨p0, p1, p2, p3⟩ h3 h4 (h5.set _ (by omega) (by omega)) h6, g5.2.mono (by omega)⟩) fun d => ?_
    have : (u3.2.2.2.2.2.2.2.1.length : Int) = (bkS u3).1 := hsl.1
    omega
  · refine (numin_ok (a := -1) (c := 4096) (k := j + 8) (by simp) (allin (by decide)) g4.2.2).bind fun u5 g5 => Ok.ite (fun _ => Ok.val ⟨Bd.of48 h0' h1 ⟨p0, p1, p2, p3⟩ h3 h4 h5 (h6.set _ (by omega) (by omega)), g5.2.mono (by omega)⟩) fun d => ?_
    have : (u3.2.2.2.2.2.2.2.2.1.length : Int) = (bkS u3).1 := hsl.2
    omega
  · exact Ok.val ⟨Bd.of48 h0' h1 ⟨p0, p1, p2, p3⟩ h3 h4 h5 h6, g4.2.2.mono (by omega)⟩
noncomputable def bookRoom (b : Bk) (a : Int) : Int := @ite _ (BookP b) (Classical.propDecidable _) (roomAt b a) 0
theorem impl_BookRoom_eq (N : Nat) (hN : Fuel N) (b : Bk) (hi : Bi b) (hb : Bshort b) (a : Int) : impl_BookRoom N b a = some (bookRoom b a, ()) := by
  unfold impl_BookRoom bookRoom
  rw [impl_BookOk_eq N hN b hi hb]
  simp only [Option.bind_some]
  by_cases h : BookP b
  rotate_left
  · rw [bookOk, tf_f h, if_neg h]; rfl
  rw [bookOk, tf_t h, Bool.not_true, cond_false, if_pos h, impl_room_at N h]
  rfl
theorem wf_bytes {l : List Int} (h : Wf (.sl .frz (.int .u8)) l) : ∀ x ∈ l, 0 ≤ x ∧ x ≤ 255 := fun x hx => by have := wf_u8 (h.2 x hx); omega
theorem BookP.ow_le {b : Bk} (h : BookP b) {u : Nat} (hu : u < nu b) : 0 ≤ ow b u ∧ ow b u ≤ 4 := by
  have h1 := h.1
  rw [slotsB, Bool.and_eq_true, Bool.and_eq_true] at h1
  have := of_decide_eq_true ((allB_iff _ _ _).1 h1.2.2 u (by omega) (by omega))
  have hd := h.dims
  omega
theorem blk_own {b : Bk} (h : BookP b) {u : Nat} (hu : u < nu b) : 0 ≤ (blk b u).2.2 ∧ (blk b u).2.2 ≤ 4 := by
  rcases blk_cases h hu with ⟨v, h1, h2, h3, h4⟩ | ⟨_, ⟨_, h4⟩ | ⟨_, _, _, h4⟩⟩
  · rw [h4]; exact h.ow_le (by omega)
  · rw [h4]; exact ⟨Int.le_refl _, by show (0 : Int) ≤ 4; decide⟩
  · rw [h4]; exact ⟨Int.le_refl _, by show (0 : Int) ≤ 4; decide⟩
theorem ba_size (a : List UInt8) : (ByteArray.mk a.toArray).size = a.length := by simp [ByteArray.size]
/-- The sign of a unit. -/
noncomputable def signP (b : Bk) (u : Nat) : UInt8 :=
  if (blk b u).2.1 = 0 then 46 else if (blk b u).2.2 = 0 then (if (blk b u).1 = u then 111 else 45) else if (blk b u).1 = u then UInt8.ofNat (48 + ((blk b u).2.2 - 1).toNat) else 61
theorem dec_one {n : Nat} (h : n < 10) : Lib.decDigits n = [UInt8.ofNat (48 + n)] := by rw [Lib.decDigits, dif_pos h]
theorem tmArm_eq {b : Bk} (h : BookP b) {u : Nat} (hu : u < nu b) : tmArm (blk b u) u = some [signP b u] := by
  have ho := blk_own h hu
  unfold tmArm signP
  generalize blk b u = z at ho
  obtain ⟨f, n, o⟩ := z
  simp only [] at ho ⊢
  by_cases c1 : n = 0
  · subst c1; rfl
  rw [beq_eq_false_iff_ne.2 c1, cond_false, if_neg c1]
  by_cases c2 : o = 0
  · subst c2
    rw [if_pos rfl]
    by_cases c3 : f = (u : Int)
    · subst c3
      rw [if_pos rfl, show (((0 : Int) == 0 && (u : Int) == (u : Int)) = true) by simp, cond_true]
    · rw [if_neg c3, show (((0 : Int) == 0 && (u : Int) == f) = false) by rw [beq_self_eq_true, Bool.true_and]; exact beq_eq_false_iff_ne.2 (fun e => c3 e.symm), cond_false]
      rfl
  · rw [if_neg c2, beq_eq_false_iff_ne.2 c2, Bool.false_and, cond_false, cond_false]
    by_cases c3 : f = (u : Int)
    · subst c3
      have hd := dec_one (n := (o - 1).toNat) (by omega)
      rw [if_pos rfl, beq_self_eq_true, cond_true, decide_eq_true (by rw [hd]; simp only [List.length_cons, List.length_nil]; omega), cond_true, hd]
    · rw [if_neg c3, beq_eq_false_iff_ne.2 (fun e => c3 e.symm), cond_false]
noncomputable def mapL (b : Bk) : Nat → Nat → List UInt8
  | 0, _ => []
  | d + 1, i => (if 0 < i ∧ i % 8 = 0 then [124] else []) ++ (signP b i :: mapL b d (i + 1))
theorem tmBar_eq (i : Nat) (s : List UInt8) : tmBar i s = s ++ (if 0 < i ∧ i % 8 = 0 then [124] else []) := by
  unfold tmBar
  by_cases h1 : 0 < i
  · by_cases h2 : i % 8 = 0
    · rw [decide_eq_true h1, beq_iff_eq.2 h2, if_pos ⟨h1, h2⟩]; rfl
    · rw [decide_eq_true h1, beq_eq_false_iff_ne.2 h2, if_neg (fun h => h2 h.2), List.append_nil]; rfl
  · rw [decide_eq_false h1, if_neg (fun h => h1 h.1), List.append_nil]; rfl
theorem impl_TidyMap_loop (N : Nat) (hN : Fuel N) {b : Bk} (h : BookP b) : ∀ d i k (s : List UInt8), i + d = nu b → d < k → s.length ≤ 2 * i →
    impl_TidyMap.l0 N k i b s = some (⟨(s ++ mapL b d i).toArray⟩, ())
  | 0, i, k, s, e, hk, hs => by
    obtain ⟨k, rfl⟩ : ∃ j, k = j + 1 := ⟨k - 1, by omega⟩
    have hnu : nu b = b.2.2.2.1.length := rfl
    rw [impl_TidyMap.l0, decide_eq_false (by omega), cond_false, mapL, List.append_nil]
  | d + 1, i, k, s, e, hk, hs => by
    obtain ⟨k, rfl⟩ : ∃ j, k = j + 1 := ⟨k - 1, by omega⟩
    have hnu : nu b = b.2.2.2.1.length := rfl
    have hd := h.dims
    rw [impl_TidyMap.l0, decide_eq_true (by omega), cond_true, decide_eq_true (by omega), cond_true, impl_at_eq N hN h i (by omega)]
    simp only [Option.bind_some]
    rw [tmArm_eq h (by omega)]
    simp only [Option.bind_some]
    rw [impl_TidyMap_loop N hN h d (i + 1) k _ (by omega) (by omega) (by rw [tmBar_eq]; simp only [List.length_append, List.length_cons, List.length_nil]; split <;> simp only [List.length_cons, List.length_nil] <;> omega), tmBar_eq, mapL]
    simp only [List.append_assoc, List.cons_append, List.nil_append]
noncomputable def tidyMap (b : Bk) : List UInt8 := @ite _ (BookP b) (Classical.propDecidable _) (mapL b (nu b) 0) []
theorem impl_TidyMap_eq (N : Nat) (hN : Fuel N) (b : Bk) (hi : Bi b) (hb : Bshort b) : impl_TidyMap N b = some (⟨(tidyMap b).toArray⟩, ()) := by
  unfold impl_TidyMap tidyMap
  rw [impl_BookOk_eq N hN b hi hb]
  simp only [Option.bind_some]
  by_cases h : BookP b
  rotate_left
  · rw [bookOk, tf_f h, if_neg h]; rfl
  have hd := h.dims
  rw [bookOk, tf_t h, Bool.not_true, cond_false, if_pos h]
  have := impl_TidyMap_loop N hN h (nu b) 0 N [] (by omega) (by unfold Fuel at hN; omega) (by simp)
  rw [List.nil_append] at this
  exact this
theorem usz_pos {k : Nat} (hk : k < 4) : 1 ≤ usz k ∧ usz k ≤ 8 ∧ 8 % usz k = 0 := by
  have : k = 0 ∨ k = 1 ∨ k = 2 ∨ k = 3 := by omega
  rcases this with rfl | rfl | rfl | rfl <;> decide
theorem mapL_len (b : Bk) : ∀ d i, 0 < i → (mapL b d i).length = d + ((i + d - 1) / 8 - (i - 1) / 8)
  | 0, i, h => by rw [mapL]; simp only [List.length_nil]; omega
  | d + 1, i, h => by
    rw [mapL, List.length_append, List.length_cons, mapL_len b d (i + 1) (by omega)]
    by_cases c : i % 8 = 0
    · rw [if_pos ⟨h, c⟩]; simp only [List.length_cons, List.length_nil]; omega
    · rw [if_neg (fun q => c q.2)]; simp only [List.length_nil]; omega
theorem tidyMap_len {b : Bk} (h : BookP b) : (tidyMap b).length = 9 * np b - 1 := by
  have hd := h.dims
  unfold tidyMap
  rw [if_pos h]
  obtain ⟨d, hd2⟩ : ∃ d, nu b = d + 1 := ⟨nu b - 1, by omega⟩
  rw [hd2, mapL, if_neg (by omega), List.nil_append, List.length_cons, mapL_len b d 1 (by omega)]
  omega
theorem one_slot (o r : Int) : ∀ n : Nat, 0 ≤ o → sm (fun s => if 0 < o ∧ ((s : Int) < 0 ∨ o = (s : Int) + 1) then r else 0) n = if 1 ≤ o ∧ o ≤ n then r else 0
  | 0, h => by rw [sm, if_neg (by omega)]
  | n + 1, h => by
    rw [sm, one_slot o r n h]
    by_cases c : o = (n : Int) + 1
    · rw [if_neg (by omega), if_pos (by omega), if_pos (by omega), Int.zero_add]
    · rw [if_neg (show ¬ (0 < o ∧ ((n : Int) < 0 ∨ o = (n : Int) + 1)) by omega), Int.add_zero]
      by_cases c2 : 1 ≤ o ∧ o ≤ n
      · rw [if_pos c2, if_pos (by omega)]
      · rw [if_neg c2, if_neg (by omega)]
theorem used_slots {b : Bk} (n : Nat) (hs : ∀ u, u < nu b → 0 ≤ ow b u ∧ ow b u ≤ n) : ∀ d i, i + d = nu b → sm (fun s => usedOf b (s : Int) d i) n = usedOf b (-1) d i
  | 0, i, _ => by simp only [usedOf]; exact sm_zero n
  | d + 1, i, e => by
    have h := hs i (by omega)
    have ih := used_slots n hs d (i + 1) (by omega)
    simp only [usedOf]
    rw [sm_add, ih, one_slot (ow b i) (room b i) n h.1]
    by_cases c : 0 < ow b i
    · rw [if_pos (by omega), if_pos (by omega)]
    · rw [if_neg (by omega), if_neg (by omega)]
theorem BookP.ow_slots {b : Bk} (h : BookP b) {u : Nat} (hu : u < nu b) : 0 ≤ ow b u ∧ ow b u ≤ b.1.toNat := by
  have h1 := h.1
  rw [slotsB, Bool.and_eq_true, Bool.and_eq_true] at h1
  have := of_decide_eq_true ((allB_iff _ _ _).1 h1.2.2 u (by omega) (by omega))
  have hd := h.dims
  omega
theorem share_all {b : Bk} (h : BookP b) : sm (fun s => usedOf b (s : Int) (nu b) 0) b.1.toNat = sm (ownU b) (nu b) := by
  rw [used_slots b.1.toNat (fun u hu => h.ow_slots hu) (nu b) 0 (by omega), ← own_all h]
  have := used_sm h (nu b) 0 (by omega)
  simp only [sm] at this
  omega
theorem sum_units (b : Bk) : ∀ n, sm (ownU b) n + sm (freeU b) n + sm (empU b) n = n
  | 0 => by simp [sm]
  | n + 1 => by
    have ih := sum_units b n
    have : ownU b n + freeU b n + empU b n = 1 := by
      unfold ownU freeU empU
      by_cases c : (blk b n).2.1 = 0
      · rw [if_pos c, if_pos c, if_pos c]; rfl
      · rw [if_neg c, if_neg c, if_neg c]
        by_cases c2 : (blk b n).2.2 = 0
        · rw [if_pos c2, if_pos c2]; rfl
        · rw [if_neg c2, if_neg c2]; rfl
    simp only [sm]
    omega
theorem draw_ts {N : Nat} (hN : Fuel N) {code : List Int} (hc : ∀ x ∈ code, 0 ≤ x ∧ x ≤ 255) : ∃ (b : Bk), spec_DrawTidySum N code = some ((b.1, (), ((), (), (), ()), (), (), ()), (b.2.1, b.2.2.1.1, b.2.2.1.2.1, b.2.2.1.2.2.1, b.2.2.1.2.2.2, b.2.2.2.1, b.2.2.2.2.1, b.2.2.2.2.2)) ∧ Bd b := by
  have : Ok (spec_DrawTidySum N code) (fun r => Bd (r.1.1, r.2.1, (r.2.2.1, r.2.2.2.1, r.2.2.2.2.1, r.2.2.2.2.2.1), r.2.2.2.2.2.2.1, r.2.2.2.2.2.2.2.1, r.2.2.2.2.2.2.2.2)) := by
    unfold spec_DrawTidySum
    exact (open_ok hc).bind fun u1 g1 => (l3Bent_ok (j := 0) hN (g1.mono (by omega))).bind fun u2 g2 => Ok.val g2.1
  obtain ⟨r, e, h1⟩ := this
  exact ⟨_, e, h1⟩
theorem TidySum_loop (N : Nat) (hN : Fuel N) {b : Bk} (h : BookP b) (more : List Int) (hm : more.length ≤ 1048576) : ∀ d s k, s + d = b.1.toNat → d < k →
    laws_FnTidySum.l0 N k more (sm (ownU b) (nu b)) (sm (freeU b) (nu b)) (sm (empU b) (nu b)) (sm (fun s => usedOf b (s : Int) (nu b) 0) s) (s : Int) (b.1, (), ((), (), (), ()), (), (), ()) b.2.1 b.2.2.1.1 b.2.2.1.2.1 b.2.2.1.2.2.1 b.2.2.1.2.2.2 b.2.2.2.1 b.2.2.2.2.1 b.2.2.2.2.2 = some (true, ())
  | 0, s, k, e, hk => by
    obtain ⟨k, rfl⟩ : ∃ j, k = j + 1 := ⟨k - 1, by omega⟩
    have hnu : nu b = b.2.2.2.1.length := rfl
    have hnp : np b = b.2.1.length := rfl
    have hd := h.dims
    have hi := h.ints
    have hb := h.short
    have es : s = b.1.toNat := by omega
    have hall := share_all h
    have hsum := sum_units b (nu b)
    have a1 := sm_le (ownU b) 1 (nu b) fun j _ => ownU_01 b j
    have a2 := sm_le (freeU b) 1 (nu b) fun j _ => freeU_01 b j
    have a3 := sm_le (empU b) 1 (nu b) fun j _ => empU_01 b j
    obtain ⟨v, hv⟩ : ∃ v : Nat, v = more.length % nu b := ⟨_, rfl⟩
    have hvlt : v < nu b := by rw [hv]; exact Nat.mod_lt _ (by omega)
    have emod : Int.tmod (more.length : Int) (b.2.2.2.1.length : Int) = (v : Int) := by
      rw [Int.tmod_eq_emod_of_nonneg (by omega), hv, hnu]; omega
    have et : tidyAt b (v : Int) = blk b v := by unfold tidyAt; rw [if_pos ⟨h, by omega, by omega⟩, Int.toNat_natCast]
    have w1 : IntKind.i64.wrap (sm (ownU b) (nu b) + sm (freeU b) (nu b)) = sm (ownU b) (nu b) + sm (freeU b) (nu b) := w64 (by omega) (by omega)
    have w2 : IntKind.i64.wrap (sm (ownU b) (nu b) + sm (freeU b) (nu b) + sm (empU b) (nu b)) = (b.2.2.2.1.length : Int) := by rw [hsum]; exact w64 (by omega) (by omega)
    have w3 : IntKind.i64.wrap (IntKind.i64.wrap ((b.2.2.2.1.length : Int) + (b.2.1.length : Int)) - 1) = (b.2.2.2.1.length : Int) + (b.2.1.length : Int) - 1 := ww8 (by omega) (by omega) (by omega) (by omega)
    have hlen := tidyMap_len h
    have el : ((ByteArray.mk (tidyMap b).toArray).size : Int) = (b.2.2.2.1.length : Int) + (b.2.1.length : Int) - 1 := by rw [ba_size]; omega
    have fin : (bif (sm (fun s => usedOf b (s : Int) (nu b) 0) b.1.toNat == sm (ownU b) (nu b)) then (bif (IntKind.i64.wrap (IntKind.i64.wrap (sm (ownU b) (nu b) + sm (freeU b) (nu b)) + sm (empU b) (nu b)) == (b.2.2.2.1.length : Int)) then (impl_TidyMap N (b.1, b.2.1, (b.2.2.1.1, b.2.2.1.2.1, b.2.2.1.2.2.1, b.2.2.1.2.2.2), b.2.2.2.1, b.2.2.2.2.1, b.2.2.2.2.2)).bind fun u10 => some (((u10.1.size : Int) == IntKind.i64.wrap (IntKind.i64.wrap ((b.2.2.2.1.length : Int) + (b.2.1.length : Int)) - 1)), ()) else some (false, ())) else some (false, ())) = some (true, ()) := by
      have e1 : impl_TidyMap N (b.1, b.2.1, (b.2.2.1.1, b.2.2.1.2.1, b.2.2.1.2.2.1, b.2.2.1.2.2.2), b.2.2.2.1, b.2.2.2.2.1, b.2.2.2.2.2) = some (⟨(tidyMap b).toArray⟩, ()) := impl_TidyMap_eq N hN b hi hb
      rw [hall, beq_self_eq_true, cond_true, w1, w2, beq_self_eq_true, cond_true, e1]
      simp only [Option.bind_some]
      rw [w3, el, beq_self_eq_true]
    have t1 : impl_TidyAt N (b.1, b.2.1, (b.2.2.1.1, b.2.2.1.2.1, b.2.2.1.2.2.1, b.2.2.1.2.2.2), b.2.2.2.1, b.2.2.2.2.1, b.2.2.2.2.2) (v : Int) = some (blk b v, ()) := by rw [← et]; exact impl_TidyAt_eq N hN b hi hb v
    have t2 : spec_TidyAt N (b.1, b.2.1, (b.2.2.1.1, b.2.2.1.2.1, b.2.2.1.2.2.1, b.2.2.1.2.2.2), b.2.2.2.1, b.2.2.2.2.1, b.2.2.2.2.2) (v : Int) = some (blk b v, ()) := by rw [← et]; exact spec_TidyAt_eq N hN b hi hb v
    have t3 : ∀ x : Int, impl_BookRoom N (b.1, b.2.1, (b.2.2.1.1, b.2.2.1.2.1, b.2.2.1.2.2.1, b.2.2.1.2.2.2), b.2.2.2.1, b.2.2.2.2.1, b.2.2.2.2.2) x = some (bookRoom b x, ()) := fun x => impl_BookRoom_eq N hN b hi hb x
    rw [laws_FnTidySum.l0, cf (show ¬ (s : Int) < b.1 by omega), cf (show ¬ (b.2.2.2.1.length : Int) = 0 by omega), emod, t1]
    simp only [Option.bind_some, t2, t3, bne_self_eq_false, cond_false, es]
    rw [fin]
    rcases blk_cases h hvlt with ⟨q, h1, h2, h3, h4⟩ | ⟨_, ⟨_, h4⟩ | ⟨h5, h6, _, h4⟩⟩
    · have hq : q < nu b := by omega
      have hr := h.room_le hq
      have hl := h.ow_nn hq
      have er : bookRoom b (q : Int) = room b q := by
        unfold bookRoom
        rw [if_pos h]
        unfold roomAt
        first | rw [if_pos (by omega), Int.toNat_natCast] | rw [if_neg (by omega), Int.toNat_natCast]
      have hr4 := hr.2.2.2 h3
      rw [h4]
      dsimp only
      rw [cf (by omega), ct (by omega), w64 (n := (q : Int) + room b q) (by omega) (by omega), cf (by omega), ct (by omega), er, bne_self_eq_false, cond_false]
    · rw [h4]
      dsimp only
      rw [cf (by omega), cf (by omega), cf (by omega)]
    · rw [h4]
      dsimp only
      have hk : (pg b (v / 8) - 1).toNat < 4 := by omega
      obtain ⟨z1, z2, z3⟩ := usz_pos hk
      have hml := Nat.mod_lt v z1
      have hml2 := Nat.mod_le v (usz (pg b (v / 8) - 1).toNat)
      rw [cf (by omega), ct (by omega), w64 (by omega) (by omega), cf (by omega), cf (by omega)]
  | d + 1, s, k, e, hk => by
    obtain ⟨k, rfl⟩ : ∃ j, k = j + 1 := ⟨k - 1, by omega⟩
    have hd := h.dims
    have hi := h.ints
    have hb := h.short
    have ih := TidySum_loop N hN h more hm d (s + 1) k (by omega) (by omega)
    have b1 := sm_le (fun s => usedOf b (s : Int) (nu b) 0) 2000 s fun j _ => by have := usedOf_le h (j : Int) (nu b) 0 (by omega); omega
    have b2 := usedOf_le h (s : Int) (nu b) 0 (by omega)
    have e1 : impl_TidyShare N (b.1, b.2.1, (b.2.2.1.1, b.2.2.1.2.1, b.2.2.1.2.2.1, b.2.2.1.2.2.2), b.2.2.2.1, b.2.2.2.2.1, b.2.2.2.2.2) (s : Int) = some (usedOf b (s : Int) (nu b) 0, ()) := by
      have := impl_TidyShare_eq N hN b hi hb (s : Int)
      unfold tidyShare at this
      rw [if_pos ⟨h, by omega, by omega⟩] at this
      exact this
    rw [laws_FnTidySum.l0, ct (show (s : Int) < b.1 by omega), e1]
    simp only [Option.bind_some]
    rw [w64 (n := (s : Int) + 1) (by omega) (by omega), w64 (by omega) (by omega), show (s : Int) + 1 = ((s + 1 : Nat) : Int) by omega]
    simp only [sm] at ih
    exact ih
theorem plainFnTidySum (N : Nat) (hN : Fuel N) (code more : List Int) (hc : ∀ x ∈ code, 0 ≤ x ∧ x ≤ 255) (hm : ∀ x ∈ more, 0 ≤ x ∧ x ≤ 255) : laws_FnTidySum N code more = some (true, ()) := by
  unfold laws_FnTidySum
  by_cases hl : (code.length : Int) > 1048576
  · rw [ct hl]
  rw [cf hl]
  by_cases hl2 : (more.length : Int) > 1048576
  · rw [ct hl2]
  rw [cf hl2]
  obtain ⟨b, e, hb⟩ := draw_ts hN hc
  rw [e]
  simp only [Option.bind_some, impl_TidySum_eq N hN b hb.ints hb.short, spec_TidySum_eq N hN b hb.ints hb.short, bne_self_eq_false, cond_false, spec_BookOk_eq N hN b hb.ints hb.short, impl_TidyMap_eq N hN b hb.ints hb.short]
  by_cases h : BookP b
  rotate_left
  · rw [bookOk, tf_f h]
    unfold tidySum tidyMap
    rw [if_neg h, if_neg h, Bool.not_false, cond_true]
    show some ((ByteArray.empty.toList == ByteArray.empty.toList), ()) = some (true, ())
    rw [beq_self_eq_true]
  rw [bookOk, tf_t h, Bool.not_true, cond_false]
  unfold tidySum
  rw [if_pos h]
  exact TidySum_loop N hN h more (by omega) b.1.toNat 0 N (by omega) (by have := h.dims; unfold Fuel at hN; omega)
theorem lawFnTidySum (y0 y1 : List Int) (w0 : Wf (.sl .frz (.int .u8)) y0) (w1 : Wf (.sl .frz (.int .u8)) y1) : laws_FnTidySum N0 y0 y1 = some (true, ()) := plainFnTidySum N0 hN0 y0 y1 (wf_bytes w0) (wf_bytes w1)
end Go.Proofs.YtdkinmgpclbedaaDoor.Pv
