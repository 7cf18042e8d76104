import Derived.Test.YtdhdlnojoonhcabGreatZ3Pb
import Derived.Test.YtdhdlnojoonhcabGreatPvRow
namespace Go.Proofs.YtdhdlnojoonhcabGreat.Pv
open Go Go.Pv Go.Proofs
set_option linter.unusedVariables false
set_option linter.unusedSimpArgs false
theorem impl_PlanOf_eq (N : Nat) (hN : Fuel N) {w : List Int} (hw : Words w) (op : Op) (s : Int) : impl_PlanOf N w op s = some (((), (planP w op s).2), (planP w op s).1) := by
  unfold impl_PlanOf planP
  have hcf : ∃ c, impl_cfgOf N w = some (c, ()) ∧ (Laid w → c.1 = cfg (w.getD 0 0)) := by
    by_cases h : Head w
    · exact ⟨_, impl_cfgOf_yes N hw h, fun _ => rfl⟩
    · obtain ⟨c, e⟩ := impl_cfgOf_no N hw h
      exact ⟨_, e, fun g => (h g.1).elim⟩
  obtain ⟨c, e, hcfg⟩ := hcf
  rw [e, impl_CensBook_eq N hN hw]
  simp only [Ob]
  cases hok : (censBook w).2
  · rw [Bool.not_false, cond_true, if_neg (fun g => by cases g.1)]
  rw [Bool.not_true, cond_false, impl_within_eq]
  simp only [Ob]
  by_cases c1 : 1 ≤ s ∧ s ≤ 1000000000
  rotate_left
  · rw [df c1, if_neg (fun g => c1 g.2)]; rfl
  rw [dt c1, Bool.not_true, cond_false, if_pos ⟨trivial, c1⟩]
  obtain ⟨hL, hF, _⟩ := cens_fit hok
  have hb := hF.2.1
  have hd := dA_le hF.1
  have r1 : impl_BookDo N ((censBook w).1.1, (censBook w).1.2.1, ((censBook w).1.2.2.1.1, (censBook w).1.2.2.1.2.1, (censBook w).1.2.2.1.2.2.1, (censBook w).1.2.2.1.2.2.2), (censBook w).1.2.2.2.1, (censBook w).1.2.2.2.2.1, (censBook w).1.2.2.2.2.2) op = out (bookDo (censBook w).1 op) := impl_BookDo_eq N hN _ hb.ints hb.short op
  have r2 : impl_lay N c.1 ((censBook w).1.1, (censBook w).1.2.1, ((censBook w).1.2.2.1.1, (censBook w).1.2.2.1.2.1, (censBook w).1.2.2.1.2.2.1, (censBook w).1.2.2.1.2.2.2), (censBook w).1.2.2.2.1, (censBook w).1.2.2.2.2.1, (censBook w).1.2.2.2.2.2) = some ((), layP c.1 (censBook w).1) := by rw [hcfg hL]; exact impl_lay_eq N hN hF
  have r3 : impl_lay N c.1 ((doP (censBook w).1 op).1.1, (doP (censBook w).1 op).1.2.1, ((doP (censBook w).1 op).1.2.2.1.1, (doP (censBook w).1 op).1.2.2.1.2.1, (doP (censBook w).1 op).1.2.2.1.2.2.1, (doP (censBook w).1 op).1.2.2.1.2.2.2), (doP (censBook w).1 op).1.2.2.2.1, (doP (censBook w).1 op).1.2.2.2.2.1, (doP (censBook w).1 op).1.2.2.2.2.2) = some ((), layP c.1 (doP (censBook w).1 op).1) := by rw [hcfg hL]; exact impl_lay_eq N hN (hF.do op)
  rw [r1, bookDo_ok hb]
  simp only [Ob]
  rw [r2]
  simp only [Ob]
  rw [r3]
  simp only [Ob]
  rw [hcfg hL]
  have := impl_plan_loop N s (doP (censBook w).1 op).2.1 (doP (censBook w).1 op).2.2 (layP (cfg (w.getD 0 0)) (censBook w).1) (layP (cfg (w.getD 0 0)) (doP (censBook w).1 op).1) (by rw [layP_len, layP_len]) (by rw [layP_len]; omega) (dA (cfg (w.getD 0 0))) 0 N [] (by rw [layP_len]; omega) (by unfold Fuel at hN; omega) (by simp)
  rw [List.nil_append] at this
  exact this
def headW (c : Cfg) : Int := pack (c.1 + 8 * c.2.1 + 64 * c.2.2) 201115
theorem headW_val {c : Cfg} (h : Plat c) : valOf (headW c) = c.1 + 8 * c.2.1 + 64 * c.2.2 := by
  unfold Plat at h
  exact pack_val (by omega) (by omega)
theorem headW_cfg {c : Cfg} (h : Plat c) : cfg (headW c) = c := by
  have e := headW_val h
  have h' := h
  unfold valOf at e
  unfold Plat at h'
  unfold cfg
  rw [e]
  exact Prod.ext (show _ = _ by dsimp only; omega) (Prod.ext (show _ = _ by dsimp only; omega) (show _ = _ by dsimp only; omega))
def HW (c : Cfg) (w : List Int) : Prop := Words w ∧ (w.length : Int) = size c ∧ w.getD 0 0 = headW c
theorem HW.len {c : Cfg} {w : List Int} (hc : Plat c) (h : HW c w) : (w.length : Int) = 7 + 23 * c.1 + 17 * c.2.1 ∧ 40 ≤ w.length ∧ w.length ≤ 1000 ∧ dA c + 21 ≤ w.length ∧ (dA c : Int) = 7 + 2 * c.1 + 17 * c.2.1 := by
  have h1 := h.2.1
  obtain ⟨a1, a2, a3, a4, a5, a6, a7, a8, a9⟩ := plat_at hc
  unfold size at h1
  omega
theorem HW.set {c : Cfg} {w : List Int} (h : HW c w) {i : Nat} (hi : i ≠ 0) {x : Int} (hx : W64 x) : HW c (w.set i x) := by
  refine ⟨words_set h.1 _ hx, by rw [List.length_set]; exact h.2.1, ?_⟩
  rw [← h.2.2]
  rw [List.getD_eq_getElem?_getD, List.getD_eq_getElem?_getD, List.getElem?_set_ne hi]
def formP (c : Cfg) : List Int := ((List.replicate (size c).toNat 0).set 0 (headW c)).set 2 (pack 0 1)
theorem formP_hw {c : Cfg} (hc : Plat c) : HW c (formP c) := by
  have hs : (0 : Int) < size c := by unfold Plat at hc; unfold size; omega
  refine HW.set ⟨words_set (fun x hx => ?_) _ (pack_w _ _), by rw [List.length_set, List.length_replicate]; omega, ?_⟩ (by omega) (pack_w _ _)
  · rw [List.eq_of_mem_replicate hx]; exact ⟨by decide, by decide⟩
  · rw [getD_set _ _ _ _ (by rw [List.length_replicate]; omega), if_pos rfl]; rfl
theorem spec_PlatFormat_eq (N : Nat) {c : Cfg} (hc : Plat c) : spec_PlatFormat N c = some ((), formP c) := by
  have h' := hc
  unfold Plat at h'
  have hs : size c = 7 + 23 * c.1 + 17 * c.2.1 := rfl
  unfold spec_PlatFormat spec_l2Magic
  rw [spec_PlatOk_eq, dt hc, spec_l2Size_eq N hc]
  simp only [Ob, Bool.not_true, cond_false]
  rw [ct (by omega), ct (by omega), ct (by omega), w64 (n := 8 * c.2.1) (by omega) (by omega), w64 (n := 64 * c.2.2) (by omega) (by omega), w64 (n := c.1 + 8 * c.2.1) (by omega) (by omega), w64 (n := c.1 + 8 * c.2.1 + 64 * c.2.2) (by omega) (by omega), spec_CellPack_eq', spec_CellPack_eq']
  simp only [Ob]
  rw [ct (by rw [List.length_replicate]; omega), ct (by rw [List.length_set, List.length_replicate]; omega)]
  rfl
theorem bookCut_fit {c : Cfg} {b : Bk} (h : Fit c b) (s : Int) : Fit c (bookCut b s) := by
  have e : (bookCut b s).1 = b.1 ∧ np (bookCut b s) = np b := by
    unfold bookCut
    rw [if_pos h.2.1]
    unfold cutP
    split <;> exact ⟨rfl, rfl⟩
  exact ⟨h.1, bookCut_ok h.2.1 s, by rw [e.1]; exact h.2.2.1, by rw [e.2]; exact h.2.2.2⟩
theorem l3Book_fl {N : Nat} (hN : Fuel N) {c : Cfg} (n : Nat) (z : BkU) : ∀ d i k j (s : St) (b : Bk), i + d = n → d < k → n ≤ 1000 → Rd (j + 20 * d) s → Fit c b →
    Ok (spec_l3Book.l0 N k n i s z (b.1, (), ((), (), (), ()), (), (), ()) b.2.1 b.2.2.1.1 b.2.2.1.2.1 b.2.2.1.2.2.1 b.2.2.1.2.2.2 b.2.2.2.1 b.2.2.2.2.1 b.2.2.2.2.2) (fun r => Fit c (bkS r) ∧ Rd j (stS r))
  | 0, i, k, j, s, b, h1, h2, h3, h4, h5 => by
    obtain ⟨k, rfl⟩ := fuel h2
    rw [spec_l3Book.l0, cf (by omega)]
    exact Ok.val ⟨h5, h4⟩
  | d + 1, i, k, j, s, b, h1, h2, h3, h4, h5 => by
    obtain ⟨k, rfl⟩ := fuel h2
    have hb := h5.2.1
    have hdim := hb.dims
    rw [spec_l3Book.l0, ct (by omega)]
    refine (pick_ok (k := j + 20 * d + 19) (h4.mono (by omega))).bind fun u2 g2 => Ok.beq (fun _ => ?_) fun _ => ?_
    · refine (pick_ok (k := j + 20 * d + 18) g2.2.2).bind fun u3 g3 => ?_
      have e : spec_BookCut N (b.1, b.2.1, (b.2.2.1.1, b.2.2.1.2.1, b.2.2.1.2.2.1, b.2.2.1.2.2.2), b.2.2.2.1, b.2.2.2.2.1, b.2.2.2.2.2) u3.1 = outB (bookCut b u3.1) := spec_BookCut_eq N hN b hb.ints hb.short u3.1
      rw [e]
      simp only [Ob]
      rw [wi (by omega)]
      exact l3Book_fl hN n _ d (i + 1) k j u3.2 (bookCut b u3.1) (by omega) (by omega) h3 (g3.2.2.mono (by omega)) (bookCut_fit h5 _)
    · refine (l3Op_ok (j := j + 20 * d + 9) hN (b := (b.1, b.2.1, (b.2.2.1.1, b.2.2.1.2.1, b.2.2.1.2.2.1, b.2.2.1.2.2.2), b.2.2.2.1, b.2.2.2.2.1, b.2.2.2.2.2)) hb.bd g2.2.2).bind fun u5 g5 => ?_
      rw [wi (by omega)]
      refine Ok.ite (fun _ => ?_) fun _ => ?_
      · rw [spec_l3Do_eq N hN hb hb.ints (1, (i : Int), 0, 0)]
        simp only [Ob]
        exact l3Book_fl hN n _ d (i + 1) k j u5.2 (doP b (1, (i : Int), 0, 0)).1 (by omega) (by omega) h3 (g5.2.mono (by omega)) (h5.do _)
      · rw [spec_l3Do_eq N hN hb hb.ints u5.1]
        simp only [Ob]
        exact l3Book_fl hN n _ d (i + 1) k j u5.2 (doP b u5.1).1 (by omega) (by omega) h3 (g5.2.mono (by omega)) (h5.do _)
theorem l3Book_fit {N : Nat} (hN : Fuel N) {c : Cfg} (hc : Plat c) {n : Int} (hn : 0 ≤ n) (hn2 : n ≤ 100) {j : Nat} {s : St} (h : Rd (j + 2000) s) : Ok (spec_l3Book N c n s) (fun r => Fit c (bkS r) ∧ Rd j (stS r)) := by
  unfold spec_l3Book
  rw [spec_BookOpen_eq N hc]
  simp only [Ob]
  obtain ⟨m, rfl⟩ : ∃ m : Nat, n = m := ⟨n.toNat, by omega⟩
  have hc' := hc
  unfold Plat at hc'
  exact l3Book_fl hN m _ m 0 N j s (openP c) (by omega) (by unfold Fuel at hN; omega) (by omega) (h.mono (by omega)) ⟨hc, open_valid hc, rfl, by show ((List.replicate c.2.1.toNat (0 : Int)).length : Int) = c.2.1; rw [List.length_replicate]; omega⟩
theorem l4Words_l1 {N : Nat} {c : Cfg} (hc : Plat c) (v : Int) {Q : List Int → Prop} (hQ : ∀ W, Q W → HW c W) (hS : ∀ (W : List Int) (i : Nat) (x : Int), Q W → i ≠ 0 → i < dA c → W64 x → (stampOf x ≤ v ∨ i < 3 ∨ (3 + c.1 ≤ i ∧ (i : Int) < 3 + 2 * c.1)) → Q (W.set i x)) {b : Bk} (hf : Fit c b) : ∀ (d i K j : Nat) (s : St) (W : List Int), (i : Int) + d = c.1 → d + 5 < K → Q W → Rd (j + d + 10) s →
    Ok (spec_l4Words.l1 N K v (i : Nat) s c b W) (fun r => Q r.2.1 ∧ Rd j r.2.2)
  | 0, i, K, j, s, W, e, hK, hW, hs => by
    obtain ⟨K, rfl⟩ := fuel hK
    obtain ⟨l1, l2, l3, l4, l5⟩ := (hQ _ hW).len hc
    rw [spec_l4Words.l1, cf (by omega)]
    refine (pick_ok (k := j + 9) (hs.mono (by omega))).bind fun u1 g1 => ?_
    rw [spec_CellPack_eq']
    simp only [Ob]
    rw [ct (by omega), spec_Door0]
    simp only [Ob]
    rw [ct (by rw [List.length_set]; omega)]
    exact Ok.val ⟨hS _ _ _ (hS _ _ _ hW (by omega) (by have := plat_at hc; omega) (pack_w _ _) (.inr (.inl (by omega)))) (by omega) (by have := plat_at hc; omega) (pack_w _ _) (.inr (.inl (by omega))), g1.2.2.mono (by omega)⟩
  | d + 1, i, K, j, s, W, e, hK, hW, hs => by
    obtain ⟨K, rfl⟩ := fuel hK
    obtain ⟨l1, l2, l3, l4, l5⟩ := (hQ _ hW).len hc
    have hsl := hf.2.1.slots
    have hb1 := hf.2.2.1
    have hc' := hc
    unfold Plat at hc'
    rw [spec_l4Words.l1, ct (by omega), spec_PlatBeat_eq N hc, if_pos (by omega), w64 (n := (i : Int) + 1) (by omega) (by omega), show (i : Int) + 1 = ((i + 1 : Nat) : Int) by omega]
    simp only [Ob]
    refine (pick_ok (k := j + d + 10) (hs.mono (by omega))).bind fun u1 g1 => ?_
    rw [bnd (by omega) (by omega), spec_CellPack_eq']
    simp only [Ob]
    rw [bnd (by omega) (by omega)]
    exact l4Words_l1 hc v hQ hS hf d (i + 1) K j u1.2 _ (by omega) (by omega) (hS _ _ _ hW (by omega) (by omega) (pack_w _ _) (.inr (.inr (by omega)))) g1.2.2
theorem l4Words_l0 {N : Nat} {c : Cfg} (hc : Plat c) (v : Int) (hv : 0 ≤ v ∧ v ≤ 100) {Q : List Int → Prop} (hQ : ∀ W, Q W → HW c W) (hS : ∀ (W : List Int) (i : Nat) (x : Int), Q W → i ≠ 0 → i < dA c → W64 x → (stampOf x ≤ v ∨ i < 3 ∨ (3 + c.1 ≤ i ∧ (i : Int) < 3 + 2 * c.1)) → Q (W.set i x)) {b : Bk} (hf : Fit c b) (M : List Int) (hM : M.length = dA c) : ∀ d i K j (s : St) (W : List Int), i + d = dA c → 3 ≤ i → d + 20 < K → Q W → Rd (j + d + 20) s →
    Ok (spec_l4Words.l0 N K v (i : Nat) s c b W M) (fun r => Q r.2.1 ∧ Rd j r.2.2)
  | 0, i, K, j, s, W, e, hi, hK, hW, hs => by
    obtain ⟨K, rfl⟩ := fuel hK
    obtain ⟨a1, a2, a3, a4, a5, a6, a7, a8, a9⟩ := plat_at hc
    rw [spec_l4Words.l0, cf (by omega)]
    exact l4Words_l1 hc v hQ hS hf c.1.toNat 0 K j s W (by omega) (by omega) hW (hs.mono (by omega))
  | d + 1, i, K, j, s, W, e, hi, hK, hW, hs => by
    obtain ⟨K, rfl⟩ := fuel hK
    obtain ⟨l1, l2, l3, l4, l5⟩ := (hQ _ hW).len hc
    obtain ⟨a1, a2, a3, a4, a5, a6, a7, a8, a9⟩ := plat_at hc
    rw [spec_l4Words.l0, ct (by omega), bnd (by omega) (by omega), w64 (n := (i : Int) + 1) (by omega) (by omega), show (i : Int) + 1 = ((i + 1 : Nat) : Int) by omega]
    refine (pick_ok (k := j + d + 20) (hs.mono (by omega))).bind fun u1 g1 => ?_
    rw [spec_CellPack_eq']
    simp only [Ob]
    rw [bnd (by omega) (by omega)]
    have hpk : 0 ≤ u1.1 ∧ u1.1 ≤ v := by
      have h1 := g1.1
      have h2 := g1.2.1
      rw [w64 (n := v + 1) (by omega) (by omega)] at h2
      omega
    exact l4Words_l0 hc v hv hQ hS hf M hM d (i + 1) K j u1.2 _ (by omega) (by omega) (by omega) (hS _ _ _ hW (by omega) (by omega) (pack_w _ _) (.inl (by rw [pack_stamp hpk.1 (by omega)]; exact hpk.2))) g1.2.2
theorem l4Words_ok' {N : Nat} (hN : Fuel N) {c : Cfg} (hc : Plat c) {v : Int} (hv : 0 ≤ v ∧ v ≤ 100) {Q : List Int → Prop} (hQ : ∀ W, Q W → HW c W) (hS : ∀ (W : List Int) (i : Nat) (x : Int), Q W → i ≠ 0 → i < dA c → W64 x → (stampOf x ≤ v ∨ i < 3 ∨ (3 + c.1 ≤ i ∧ (i : Int) < 3 + 2 * c.1)) → Q (W.set i x)) (h0 : Q (formP c)) {b : Bk} (hf : Fit c b) {j : Nat} {s : St} (h : Rd (j + 400) s) : Ok (spec_l4Words N c b v s) (fun r => Q r.2.1 ∧ Rd j r.2.2) := by
  obtain ⟨a1, a2, a3, a4, a5, a6, a7, a8, a9⟩ := plat_at hc
  unfold spec_l4Words
  rw [spec_PlatFormat_eq N hc, spec_l4Lay_eq N hN hf, spec_PlatReg_eq N hc, if_pos (by omega)]
  simp only [Ob]
  exact l4Words_l0 hc v hv hQ hS hf _ (layP_len c b) (dA c - 3) 3 N j s _ (by omega) (by omega) (by unfold Fuel at hN; omega) h0 (h.mono (by omega))
theorem words_take {w : List Int} (h : Words w) (n : Nat) : Words (w.take n) := fun x hx => h x (List.mem_of_mem_take hx)
theorem set_at (l : List Int) (i : Nat) (x : Int) (h : i < l.length) : (l.set i x).getD i 0 = x := by rw [getD_set _ _ _ _ h, if_pos rfl]
theorem set_ne (l : List Int) (i j : Nat) (x : Int) (h : j ≠ i) : (l.set i x).getD j 0 = l.getD j 0 := by
  rw [List.getD_eq_getElem?_getD, List.getD_eq_getElem?_getD, List.getElem?_set_ne (fun e => h e.symm)]
theorem headOr_in {l : List Int} {d m : Int} (h : ∀ x ∈ l, 0 ≤ x ∧ x < m) (hd : 0 ≤ d ∧ d ≤ m) : 0 ≤ headOr l d ∧ headOr l d ≤ m := by
  cases l with
  | nil => exact hd
  | cons x r =>
    have := h x List.mem_cons_self
    show 0 ≤ x + 1 ∧ x + 1 ≤ m
    omega
theorem nextOr_in {m : Int} : ∀ (l : List Int) (u d : Int), (∀ x ∈ l, 0 ≤ x ∧ x < m) → (0 ≤ d ∧ d ≤ m) → 0 ≤ nextOr l u d ∧ nextOr l u d ≤ m
  | [], u, d, h, hd => hd
  | x :: r, u, d, h, hd => by
    rw [nextOr]
    split
    · exact headOr_in (fun y hy => h y (List.mem_cons_of_mem _ hy)) hd
    · exact nextOr_in r u d (fun y hy => h y (List.mem_cons_of_mem _ hy)) hd
theorem layV_in {c : Cfg} {b : Bk} (h : Fit c b) {j : Nat} (hj : j < dA c) : 0 ≤ layV c b j ∧ layV c b j ≤ 20000 := by
  obtain ⟨hc, hb, h1, h2⟩ := h
  obtain ⟨a1, a2, a3, a4, a5, a6, a7, a8, a9⟩ := plat_at hc
  have hdim := hb.dims
  have hm : ∀ k, k < 4 → ∀ x ∈ hd b k, 0 ≤ x ∧ x < (nu b : Int) := fun k hk x hx => by have := hb.mem hk hx; omega
  unfold layV
  split
  · rename_i g
    have := headOr_in (d := 0) (hm (j - hA c) (by omega)) (by omega)
    omega
  split
  · unfold nextV
    have h0 := nextOr_in (hd b 0) ((j - kA c : Nat) : Int) 0 (hm 0 (by omega)) (by omega)
    have h1 := nextOr_in (hd b 1) ((j - kA c : Nat) : Int) _ (hm 1 (by omega)) h0
    have h2 := nextOr_in (hd b 2) ((j - kA c : Nat) : Int) _ (hm 2 (by omega)) h1
    have h3 := nextOr_in (hd b 3) ((j - kA c : Nat) : Int) _ (hm 3 (by omega)) h2
    omega
  unfold baseV
  split
  · have := slotB_iff.1 (hb.slot (i := j - 3) (by omega))
    omega
  split
  · have := hb.cases (p := j - pA c) (by omega)
    omega
  split
  · have := ownB_iff.1 (hb.own (u := j - tA c) (by omega))
    omega
  omega
theorem lay_in {c : Cfg} {b : Bk} (h : Fit c b) {j : Nat} (hj : j < dA c) : 0 ≤ (layP c b).getD j 0 ∧ (layP c b).getD j 0 ≤ 20000 := by rw [layP_getD h j hj]; exact layV_in h hj
theorem ext_getD {l m : List Int} (hl : l.length = m.length) (h : ∀ j, j < l.length → l.getD j 0 = m.getD j 0) : l = m := by
  refine List.ext_getElem hl fun j h1 h2 => ?_
  have := h j h1
  rwa [getD_lt h1, getD_lt h2] at this
theorem getD_ge {l : List Int} {j : Nat} (h : l.length ≤ j) : l.getD j 0 = 0 := by
  rw [List.getD_eq_getElem?_getD, List.getElem?_eq_none h]; rfl
def putX (e : Int) (x : Int) : Int := if stampOf x < stampOf e then pack (valOf e % 1048576) (stampOf e) else x
def fitX (j : Nat) : List Int → Int → Int
  | [], x => x
  | e :: r, x => fitX j r (if (valOf e / 1048576).toNat = j then putX e x else x)
theorem putP_at (e : Int) (w : List Int) (j : Nat) (hj : j < w.length) : (putP e w).getD j 0 = if (valOf e / 1048576).toNat = j then putX e (w.getD j 0) else w.getD j 0 := by
  unfold putP putX
  dsimp only
  by_cases c : (valOf e / 1048576).toNat = j
  · rw [if_pos c, c]
    by_cases g : stampOf (w.getD j 0) < stampOf e
    · rw [if_pos ⟨hj, g⟩, if_pos g, set_at _ _ _ hj]
    · rw [if_neg (fun h => g h.2), if_neg g]
  · rw [if_neg c]
    split
    · rw [set_ne _ _ _ _ (fun h => c h.symm)]
    · rfl
theorem putAll_at : ∀ (l w : List Int) (j : Nat), j < w.length → (putAll l w).getD j 0 = fitX j l (w.getD j 0)
  | [], w, j, h => rfl
  | e :: r, w, j, h => by rw [putAll, putAll_at r _ j (by rw [putP_len]; exact h), putP_at e w j h, fitX]
theorem fitX_none (j : Nat) : ∀ (l : List Int) (x : Int), (∀ e ∈ l, (valOf e / 1048576).toNat ≠ j) → fitX j l x = x
  | [], x, h => rfl
  | e :: r, x, h => by rw [fitX, if_neg (h e List.mem_cons_self)]; exact fitX_none j r x fun y hy => h y (List.mem_cons_of_mem _ hy)
theorem fitX_done (j : Nat) (s : Int) : ∀ (l : List Int) (x : Int), (∀ e ∈ l, stampOf e = s) → s ≤ stampOf x → fitX j l x = x
  | [], x, h, hx => rfl
  | e :: r, x, h, hx => by
    have e1 : putX e x = x := if_neg (by have := h e List.mem_cons_self; omega)
    rw [fitX, e1]
    split <;> exact fitX_done j s r x (fun y hy => h y (List.mem_cons_of_mem _ hy)) hx
theorem fitX_or (j : Nat) (s : Int) (hs : 0 ≤ s ∧ s ≤ 4294967295) : ∀ (l : List Int) (x : Int), (∀ e ∈ l, stampOf e = s) → fitX j l x = x ∨ s ≤ stampOf (fitX j l x)
  | [], x, h => .inl rfl
  | e :: r, x, h => by
    have hr : ∀ y ∈ r, stampOf y = s := fun y hy => h y (List.mem_cons_of_mem _ hy)
    rw [fitX]
    by_cases c : (valOf e / 1048576).toNat = j
    · rw [if_pos c]
      unfold putX
      by_cases g : stampOf x < stampOf e
      · rw [if_pos g]
        have he := h e List.mem_cons_self
        have hp : stampOf (pack (valOf e % 1048576) (stampOf e)) = s := by rw [he]; exact pack_stamp hs.1 hs.2
        rw [fitX_done j s r _ hr (by omega)]
        right; omega
      · rw [if_neg g]; exact fitX_or j s hs r x hr
    · rw [if_neg c]; exact fitX_or j s hs r x hr
theorem fitX_twice (j : Nat) (s : Int) (hs : 0 ≤ s ∧ s ≤ 4294967295) (l : List Int) (x : Int) (h : ∀ e ∈ l, stampOf e = s) : fitX j l (fitX j l x) = fitX j l x := by
  rcases fitX_or j s hs l x h with g | g
  · rw [g, g]
  · exact fitX_done j s l _ h g
theorem lay_small {c : Cfg} {b : Bk} (h : Fit c b) {j : Nat} (hj : j < 3) : (layP c b).getD j 0 = 0 := by
  obtain ⟨a1, a2, a3, a4, a5, a6, a7, a8, a9⟩ := plat_at h.1
  rw [layP_getD h j (by omega)]
  unfold layV baseV
  rw [if_neg (by omega), if_neg (by omega), if_neg (by omega), if_neg (by omega), if_neg (by omega)]
def goodX (c : Cfg) (x : Int) : Prop := stampOf x = 9 → 3 ≤ (valOf x / 1048576).toNat ∧ ((valOf x / 1048576).toNat < dA c ∨ 1000 < (valOf x / 1048576).toNat)
def HE (c : Cfg) (at0 : Nat) (w : List Int) : Prop := HW c w ∧ ∀ j, at0 < j → goodX c (w.getD j 0)
theorem HE.set {c : Cfg} {at0 : Nat} {w : List Int} (h : HE c at0 w) {i : Nat} (hi : i ≠ 0) {x : Int} (hx : W64 x) (hg : at0 < i → goodX c x) : HE c at0 (w.set i x) := by
  refine ⟨h.1.set hi hx, fun j hj => ?_⟩
  by_cases q : j = i
  · subst q
    by_cases g : j < w.length
    · rw [set_at _ _ _ g]; exact hg hj
    · rw [getD_ge (by rw [List.length_set]; omega)]
      intro g2
      exact absurd g2 (by decide)
  · rw [set_ne _ _ _ _ q]; exact h.2 j hj
theorem formP_zero {c : Cfg} (hc : Plat c) (j : Nat) (hj : 3 ≤ j) : (formP c).getD j 0 = 0 := by
  unfold formP
  rw [set_ne _ _ _ _ (by omega), set_ne _ _ _ _ (by omega)]
  exact rep_getD _ _
theorem entryP_addr {i : Nat} (hi : i ≤ 4095) (v s : Int) : valOf (entryP i v s) / 1048576 = i := by
  have h3 := low_ge v 1048575 (by omega)
  have h4 := low_le v 1048575 (by omega)
  unfold entryP
  rw [low_id (n := (i : Int)) (by omega) (by omega), pack_val (by omega) (by omega)]
  omega
theorem entryP_val {i : Nat} (hi : i ≤ 4095) {v : Int} (h1 : 0 ≤ v) (h2 : v ≤ 1048575) (s : Int) : valOf (entryP i v s) % 1048576 = v := by
  unfold entryP
  rw [low_id (n := (i : Int)) (by omega) (by omega), low_id h1 h2, pack_val (by omega) (by omega)]
  omega
theorem entryP_stamp (a v : Int) {s : Int} (h1 : 0 ≤ s) (h2 : s ≤ 4294967295) : stampOf (entryP a v s) = s := pack_stamp h1 h2
theorem planL_words (f g : List Int) (s : Int) : ∀ d i, Words (planL f g s d i)
  | 0, i => fun x hx => by cases hx
  | d + 1, i => by
    rw [planL]
    split
    · exact planL_words f g s d (i + 1)
    · intro x hx
      rcases List.mem_cons.1 hx with e | e
      · rw [e]; exact pack_w _ _
      · exact planL_words f g s d (i + 1) x e
theorem planP_words (w : List Int) (op : Op) (s : Int) : Words (planP w op s).1 := by
  unfold planP
  split
  · exact planL_words _ _ _ _ _
  · exact fun x hx => by cases hx
theorem hd_at (b : Bk) (l : List Int) {k j : Nat} (hk : k < 4) (hj : j < 4) : hd (wHd b k l) j = if j = k then l else hd b j := by
  have h1 : k = 0 ∨ k = 1 ∨ k = 2 ∨ k = 3 := by omega
  have h2 : j = 0 ∨ j = 1 ∨ j = 2 ∨ j = 3 := by omega
  rcases h1 with rfl | rfl | rfl | rfl <;> rcases h2 with rfl | rfl | rfl | rfl <;> rfl
theorem setRow_out (x : Int) : ∀ (n p : Nat) (l : List Int) (v : Nat), (v < p ∨ p + n ≤ v) → (setRow l x n p).getD v 0 = l.getD v 0
  | 0, p, l, v, h => rfl
  | n + 1, p, l, v, h => by rw [setRow, setRow_out x n (p + 1) _ v (by omega), set_ne _ _ _ _ (by omega)]
def nx (l : List Int) (u : Nat) : Int := nextOr l (u : Int) 0
theorem nextV_not {b : Bk} {u : Int} (h : ∀ k, k < 4 → u ∉ hd b k) : nextV b u = 0 := by
  unfold nextV
  rw [nextOr_not _ _ _ (h 3 (by omega)), nextOr_not _ _ _ (h 2 (by omega)), nextOr_not _ _ _ (h 1 (by omega)), nextOr_not _ _ _ (h 0 (by omega))]
theorem nextV_one {b : Bk} (h : BookP b) {k : Nat} (hk : k < 4) {u : Nat} (hn : ∀ j, j < 4 → j ≠ k → (u : Int) ∉ hd b j) : nextV b u = nx (hd b k) u := by
  by_cases c : (u : Int) ∈ hd b k
  · exact nextV_mem h hk c
  · unfold nx
    rw [nextOr_not _ _ _ c]
    exact nextV_not fun j hj => by
      by_cases e : j = k
      · subst e; exact c
      · exact hn j hj e
theorem nextV_change {b b' : Bk} (h : BookP b) (h' : BookP b') {kk : Nat} (hkk : kk < 4) (hsame : ∀ k, k < 4 → k ≠ kk → hd b' k = hd b k) {u : Nat} (hne : nextV b u ≠ nextV b' u) : nx (hd b kk) u ≠ nx (hd b' kk) u := by
  intro e
  refine hne ?_
  by_cases c : ∃ k, k < 4 ∧ k ≠ kk ∧ (u : Int) ∈ hd b k
  · obtain ⟨k, h1, h2, h3⟩ := c
    rw [nextV_mem h h1 h3, nextV_mem h' h1 (by rw [hsame k h1 h2]; exact h3), hsame k h1 h2]
  · have hn : ∀ j, j < 4 → j ≠ kk → (u : Int) ∉ hd b j := fun j h1 h2 h3 => c ⟨j, h1, h2, h3⟩
    rw [nextV_one h hkk hn, nextV_one h' hkk (fun j h1 h2 => by rw [hsame j h1 h2]; exact hn j h1 h2), e]
def Cov (c : Cfg) (b b' : Bk) : Prop := ∃ S : List Nat, S.length ≤ 20 ∧ ∀ j, j < dA c → layV c b j ≠ layV c b' j → j ∈ S
theorem Cov.same (c : Cfg) (b : Bk) : Cov c b b := ⟨[], by simp, fun j _ h => (h rfl).elim⟩
theorem Cov.mk' {c : Cfg} {b b' : Bk} (hF : Fit c b) (hF' : Fit c b') {kk : Nat} (hkk : kk < 4) (Li Lp Lu Ll : List Nat) (hlen : Li.length + Lp.length + Lu.length + Ll.length ≤ 19)
    (hsame : ∀ k, k < 4 → k ≠ kk → hd b' k = hd b k) (hi : ∀ i, i ∉ Li → inn b' i = inn b i ∧ ep b' i = ep b i) (hp : ∀ p, p ∉ Lp → pg b' p = pg b p) (hu : ∀ u, u ∉ Lu → ow b' u = ow b u)
    (hl : ∀ u : Nat, nx (hd b kk) u ≠ nx (hd b' kk) u → u ∈ Ll) : Cov c b b' := by
  obtain ⟨a1, a2, a3, a4, a5, a6, a7, a8, a9⟩ := plat_at hF.1
  refine ⟨(hA c + kk) :: (Li.map (3 + ·) ++ (Lp.map (pA c + ·) ++ (Lu.map (tA c + ·) ++ Ll.map (kA c + ·)))), ?_, fun j hj hne => ?_⟩
  · rw [List.length_cons, List.length_append, List.length_append, List.length_append, List.length_map, List.length_map, List.length_map, List.length_map]; omega
  have m1 : ∀ i, i ∈ Li → 3 + i ∈ (hA c + kk) :: (Li.map (3 + ·) ++ (Lp.map (pA c + ·) ++ (Lu.map (tA c + ·) ++ Ll.map (kA c + ·)))) := fun i h => List.mem_cons_of_mem _ (List.mem_append.2 (.inl (List.mem_map.2 ⟨i, h, rfl⟩)))
  have m2 : ∀ i, i ∈ Lp → pA c + i ∈ (hA c + kk) :: (Li.map (3 + ·) ++ (Lp.map (pA c + ·) ++ (Lu.map (tA c + ·) ++ Ll.map (kA c + ·)))) := fun i h => List.mem_cons_of_mem _ (List.mem_append.2 (.inr (List.mem_append.2 (.inl (List.mem_map.2 ⟨i, h, rfl⟩)))))
  have m3 : ∀ i, i ∈ Lu → tA c + i ∈ (hA c + kk) :: (Li.map (3 + ·) ++ (Lp.map (pA c + ·) ++ (Lu.map (tA c + ·) ++ Ll.map (kA c + ·)))) := fun i h => List.mem_cons_of_mem _ (List.mem_append.2 (.inr (List.mem_append.2 (.inr (List.mem_append.2 (.inl (List.mem_map.2 ⟨i, h, rfl⟩)))))))
  have m4 : ∀ i, i ∈ Ll → kA c + i ∈ (hA c + kk) :: (Li.map (3 + ·) ++ (Lp.map (pA c + ·) ++ (Lu.map (tA c + ·) ++ Ll.map (kA c + ·)))) := fun i h => List.mem_cons_of_mem _ (List.mem_append.2 (.inr (List.mem_append.2 (.inr (List.mem_append.2 (.inr (List.mem_map.2 ⟨i, h, rfl⟩)))))))
  unfold layV at hne
  by_cases c1 : hA c ≤ j ∧ j < pA c
  · rw [if_pos c1, if_pos c1] at hne
    by_cases e : j - hA c = kk
    · rw [show j = hA c + kk by omega]; exact List.mem_cons_self
    · rw [hsame _ (by omega) e] at hne
      exact (hne rfl).elim
  rw [if_neg c1, if_neg c1] at hne
  by_cases c2 : kA c ≤ j
  · rw [if_pos c2, if_pos c2] at hne
    have := m4 _ (hl (j - kA c) (nextV_change hF.2.1 hF'.2.1 hkk hsame hne))
    rwa [show kA c + (j - kA c) = j by omega] at this
  rw [if_neg c2, if_neg c2] at hne
  unfold baseV at hne
  by_cases c3 : 3 ≤ j ∧ j < 3 + c.1.toNat
  · rw [if_pos c3, if_pos c3] at hne
    by_cases g : j - 3 ∈ Li
    · have := m1 _ g
      rwa [show 3 + (j - 3) = j by omega] at this
    · obtain ⟨g1, g2⟩ := hi _ g
      rw [g1, g2] at hne
      exact (hne rfl).elim
  rw [if_neg c3, if_neg c3] at hne
  by_cases c4 : pA c ≤ j ∧ j < tA c
  · rw [if_pos c4, if_pos c4] at hne
    by_cases g : j - pA c ∈ Lp
    · have := m2 _ g
      rwa [show pA c + (j - pA c) = j by omega] at this
    · rw [hp _ g] at hne
      exact (hne rfl).elim
  rw [if_neg c4, if_neg c4] at hne
  by_cases c5 : tA c ≤ j ∧ j < kA c
  · rw [if_pos c5, if_pos c5] at hne
    by_cases g : j - tA c ∈ Lu
    · have := m3 _ g
      rwa [show tA c + (j - tA c) = j by omega] at this
    · rw [hu _ g] at hne
      exact (hne rfl).elim
  rw [if_neg c5, if_neg c5] at hne
  exact (hne rfl).elim
theorem nx_push (x : Int) (l : List Int) {u : Nat} (h : nx l u ≠ nx (x :: l) u) : (u : Int) = x := by
  by_cases e : x = (u : Int)
  · exact e.symm
  · unfold nx at h
    rw [nextOr, if_neg e] at h
    exact (h rfl).elim
theorem nx_nil (u : Nat) : nx [] u = 0 := rfl
theorem nx_out {l : List Int} {u : Nat} (h : (u : Int) ∉ l) : nx l u = 0 := nextOr_not _ _ _ h
def predOf : List Int → Int → Int
  | [], _ => 0
  | x :: r, v => if headOr r 0 = v + 1 then x else predOf r v
theorem predOf_eq : ∀ (l : List Int) (u v : Int), l.Nodup → 0 ≤ v → nextOr l u 0 = v + 1 → predOf l v = u
  | [], u, v, h, hv, e => by have e' : (0 : Int) = v + 1 := e; omega
  | x :: r, u, v, h, hv, e => by
    rw [nextOr] at e
    rw [predOf]
    have hn := List.nodup_cons.1 h
    by_cases c : x = u
    · rw [if_pos c] at e
      rw [if_pos e]; exact c
    · rw [if_neg c] at e
      have ih := predOf_eq r u v hn.2 hv e
      by_cases c2 : headOr r 0 = v + 1
      · -- then v is the head of r, and a unit's follower too: not twice
        exfalso
        cases r with
        | nil => have c2' : (0 : Int) = v + 1 := c2; omega
        | cons y r2 =>
          have hy : y = v := by have : y + 1 = v + 1 := c2; omega
          have : v ∈ r2 := by
            have hm : ∀ (m : List Int) (w : Int), nextOr (w :: m) u 0 = v + 1 → v ∈ m := by
              intro m
              induction m with
              | nil => intro w hw
                       rw [nextOr] at hw
                       split at hw
                       · have : (0 : Int) = v + 1 := hw; omega
                       · have : (0 : Int) = v + 1 := hw; omega
              | cons z m ih2 => intro w hw
                                rw [nextOr] at hw
                                split at hw
                                · have : z + 1 = v + 1 := hw
                                  rw [show v = z by omega]; exact List.mem_cons_self
                                · exact List.mem_cons_of_mem _ (ih2 z hw)
            exact hm r2 y e
          rw [← hy] at this
          exact (List.nodup_cons.1 hn.2).1 this
      · rw [if_neg c2]; exact ih
theorem nx_filter (q : Int → Bool) : ∀ (l : List Int) (u : Int), q u = true → nextOr l u 0 ≠ nextOr (l.filter q) u 0 → ∃ v ∈ l, q v = false ∧ nextOr l u 0 = v + 1
  | [], u, hq, h => (h rfl).elim
  | x :: r, u, hq, h => by
    rw [nextOr] at h ⊢
    by_cases c : x = u
    · subst c
      rw [if_pos rfl] at h ⊢
      rw [List.filter_cons_of_pos hq, nextOr, if_pos rfl] at h
      cases r with
      | nil => exact (h rfl).elim
      | cons y r2 =>
        cases hy : q y
        · exact ⟨y, List.mem_cons_of_mem _ List.mem_cons_self, hy, rfl⟩
        · rw [List.filter_cons_of_pos hy] at h
          exact (h rfl).elim
    · rw [if_neg c] at h ⊢
      have h' : nextOr r u 0 ≠ nextOr (r.filter q) u 0 := by
        cases hx : q x
        · rw [List.filter_cons_of_neg (by rw [hx]; decide)] at h; exact h
        · rw [List.filter_cons_of_pos hx, nextOr, if_neg c] at h; exact h
      obtain ⟨v, h1, h2, h3⟩ := nx_filter q r u hq h'
      exact ⟨v, List.mem_cons_of_mem _ h1, h2, h3⟩
theorem hd_ow (b : Bk) (u : Nat) (x : Int) (j : Nat) : hd (wOw b u x) j = hd b j := hd_heads _ _ rfl j
theorem hd_pg (b : Bk) (l : List Int) (j : Nat) : hd (wPg b l) j = hd b j := hd_heads _ _ rfl j
theorem mem_page {p v : Nat} (h : v / 8 = p) : v ∈ (List.range 8).map (8 * p + ·) := List.mem_map.2 ⟨v % 8, List.mem_range.2 (by omega), by show 8 * p + v % 8 = v; omega⟩
theorem cov_free {c : Cfg} {b : Bk} {u : Nat} (hF : Fit c b) (hF' : Fit c (freeP b u)) : Cov c b (freeP b u) := by
  have hb := hF.2.1
  have hdim := hb.dims
  have e1 : np b = b.2.1.length := rfl
  revert hF'
  unfold freeP
  dsimp only
  by_cases c1 : 1 ≤ pg b (u / 8) ∧ pg b (u / 8) ≤ 4
  · rw [if_pos c1]
    have hk : (pg b (u / 8) - 1).toNat < 4 := by omega
    cases tf (FreeP (wHd (wOw b u 0) (pg b (u / 8) - 1).toNat ((u : Int) :: hd b (pg b (u / 8) - 1).toNat)) (u / 8) 0)
    · intro hF'
      refine Cov.mk' hF hF' hk [] [] [u] [u] (by simp) (fun j h1 h2 => ?_) (fun i _ => ⟨rfl, rfl⟩) (fun p _ => rfl) (fun v hv => ?_) (fun v hv => ?_)
      · rw [cond_false, hd_at _ _ hk h1, if_neg h2]; exact hd_heads _ _ rfl j
      · exact set_ne _ _ _ _ (fun e => hv (by rw [e]; exact List.mem_singleton.2 rfl))
      · rw [cond_false, hd_at _ _ hk hk, if_pos rfl] at hv
        have := nx_push _ _ hv
        exact List.mem_singleton.2 (by omega)
    · intro hF'
      have hq : ∀ x : Int, 0 ≤ x → (x / 8 != ((u / 8 : Nat) : Int)) = false → x.toNat / 8 = u / 8 := fun x h0 h => by
        have := bne_eq_false_iff_eq.1 h
        omega
      refine Cov.mk' hF hF' hk [] [u / 8] [u] ((List.range 8).map (8 * (u / 8) + ·) ++ (List.range 8).map (fun t => (predOf (hd b (pg b (u / 8) - 1).toNat) ((8 * (u / 8) + t : Nat) : Int)).toNat)) (by simp) (fun j h1 h2 => ?_) (fun i _ => ⟨rfl, rfl⟩) (fun p hp => ?_) (fun v hv => ?_) (fun v hv => ?_)
      · rw [cond_true, hd_at _ _ hk h1, if_neg h2]
        rw [hd_pg, hd_at _ _ hk h1, if_neg h2, hd_ow]
      · exact set_ne _ _ _ _ (fun e => hp (by rw [e]; exact List.mem_singleton.2 rfl))
      · exact set_ne _ _ _ _ (fun e => hv (by rw [e]; exact List.mem_singleton.2 rfl))
      · rw [cond_true, hd_at _ _ hk hk, if_pos rfl, List.filter_cons_of_neg (by
          have : ((u : Int) / 8 != ((u / 8 : Nat) : Int)) = false := bne_eq_false_iff_eq.2 (by omega)
          rw [this]; decide)] at hv
        cases hqv : ((v : Int) / 8 != ((u / 8 : Nat) : Int))
        · exact List.mem_append.2 (.inl (mem_page (by have := hq v (by omega) hqv; omega)))
        · obtain ⟨x, g1, g2, g3⟩ := nx_filter (fun x => x / 8 != ((u / 8 : Nat) : Int)) _ (v : Int) hqv hv
          have hx := hb.mem hk g1
          have hp := hq x hx.1 g2
          have := predOf_eq _ (v : Int) x (hb.nodup hk) hx.1 g3
          refine List.mem_append.2 (.inr (List.mem_map.2 ⟨x.toNat % 8, List.mem_range.2 (by omega), ?_⟩))
          show (predOf _ ((8 * (u / 8) + x.toNat % 8 : Nat) : Int)).toNat = v
          rw [show ((8 * (u / 8) + x.toNat % 8 : Nat) : Int) = x by omega, this]; rfl
  · rw [if_neg c1]
    intro hF'
    have hn : (pg b (u / 8) - 8).toNat ≤ 4 := by
      by_cases g : u / 8 < np b
      · have := hb.cases g
        omega
      · have : pg b (u / 8) = 0 := getD_ge (by omega)
        omega
    refine Cov.mk' hF hF' (kk := 0) (by omega) [] ((List.range (pg b (u / 8) - 8).toNat).map (u / 8 + ·)) [u] [] (by simp; omega) (fun j h1 h2 => hd_heads _ _ rfl j) (fun i _ => ⟨rfl, rfl⟩) (fun p hp => ?_) (fun v hv => ?_) (fun v hv => (hv rfl).elim)
    · refine setRow_out _ _ _ _ _ ?_
      by_cases g : u / 8 ≤ p ∧ p < u / 8 + (pg b (u / 8) - 8).toNat
      · exact (hp (List.mem_map.2 ⟨p - u / 8, List.mem_range.2 (by omega), by show u / 8 + (p - u / 8) = p; omega⟩)).elim
      · omega
    · exact set_ne _ _ _ _ (fun e => hv (by rw [e]; exact List.mem_singleton.2 rfl))
theorem cov_in {c : Cfg} {b : Bk} {i : Nat} {x : Int} (hF : Fit c b) (hF' : Fit c (wIn b i x)) : Cov c b (wIn b i x) :=
  Cov.mk' hF hF' (kk := 0) (by omega) [i] [] [] [] (by simp) (fun j _ _ => hd_heads _ _ rfl j) (fun j hj => ⟨set_ne _ _ _ _ (fun e => hj (by rw [e]; exact List.mem_singleton.2 rfl)), rfl⟩) (fun _ _ => rfl) (fun _ _ => rfl) (fun v hv => (hv rfl).elim)
theorem cov_ow {c : Cfg} {b : Bk} {u : Nat} {x : Int} (hF : Fit c b) (hF' : Fit c (wOw b u x)) : Cov c b (wOw b u x) :=
  Cov.mk' hF hF' (kk := 0) (by omega) [] [] [u] [] (by simp) (fun j _ _ => hd_heads _ _ rfl j) (fun j _ => ⟨rfl, rfl⟩) (fun _ _ => rfl) (fun v hv => set_ne _ _ _ _ (fun e => hv (by rw [e]; exact List.mem_singleton.2 rfl))) (fun v hv => (hv rfl).elim)
theorem cov_enter {c : Cfg} {b : Bk} {s : Nat} (hF : Fit c b) (hF' : Fit c (enterP b s).1) : Cov c b (enterP b s).1 := by
  revert hF'
  unfold enterP
  split
  · exact fun _ => Cov.same c b
  split
  · exact fun _ => Cov.same c b
  intro hF'
  refine Cov.mk' hF hF' (kk := 0) (by omega) [s] [] [] [] (by simp) (fun j _ _ => hd_heads _ _ rfl j) (fun j hj => ?_) (fun _ _ => rfl) (fun _ _ => rfl) (fun v hv => (hv rfl).elim)
  have hne : j ≠ s := fun e => hj (by rw [e]; exact List.mem_singleton.2 rfl)
  exact ⟨set_ne _ _ _ _ hne, set_ne _ _ _ _ hne⟩
theorem cov_pages {c : Cfg} {b : Bk} {s : Int} {n : Nat} (hn : n ≤ 4) (hF : Fit c b) (hF' : Fit c (pagesP b s n).1) : Cov c b (pagesP b s n).1 := by
  revert hF'
  unfold pagesP
  split
  · exact fun _ => Cov.same c b
  dsimp only
  intro hF'
  refine Cov.mk' hF hF' (kk := 0) (by omega) [] ((List.range (n + 1)).map ((runOf b.2.1 n).toNat + ·)) [8 * (runOf b.2.1 n).toNat] [] (by simp; omega) (fun j _ _ => hd_heads _ _ rfl j) (fun j _ => ⟨rfl, rfl⟩) (fun p hp => ?_) (fun v hv => ?_) (fun v hv => (hv rfl).elim)
  · have hno : ¬ ((runOf b.2.1 n).toNat ≤ p ∧ p < (runOf b.2.1 n).toNat + (n + 1)) := fun g => hp (List.mem_map.2 ⟨p - (runOf b.2.1 n).toNat, List.mem_range.2 (by omega), by show (runOf b.2.1 n).toNat + (p - (runOf b.2.1 n).toNat) = p; omega⟩)
    refine (setRow_out _ _ _ _ _ (by omega)).trans (set_ne _ _ _ _ (by omega))
  · exact set_ne _ _ _ _ (fun e => hv (by rw [e]; exact List.mem_singleton.2 rfl))
theorem cov_pop {c : Cfg} {b : Bk} {s : Int} {k : Nat} (hk : k < 4) (hF : Fit c b) (hF' : Fit c (popP b s k).1) : Cov c b (popP b s k).1 := by
  revert hF'
  unfold popP
  dsimp only
  intro hF'
  refine Cov.mk' hF hF' hk [] [] [((hd b k).getD 0 0).toNat] [((hd b k).getD 0 0).toNat] (by simp) (fun j h1 h2 => ?_) (fun j _ => ⟨rfl, rfl⟩) (fun _ _ => rfl) (fun v hv => set_ne _ _ _ _ (fun e => hv (by rw [e]; exact List.mem_singleton.2 rfl))) (fun v hv => ?_)
  · rw [hd_ow, hd_at _ _ hk h1, if_neg h2]
  · have e : hd (wOw (wHd b k ((hd b k).drop 1)) ((hd b k).getD 0 0).toNat (s + 1)) k = (hd b k).drop 1 := by
      rw [hd_ow, hd_at _ _ hk hk, if_pos rfl]
    rw [e] at hv
    cases hl : hd b k with
    | nil => rw [hl] at hv; exact (hv rfl).elim
    | cons x r =>
      rw [hl] at hv
      have := nx_push x r (u := v) (fun h => hv h.symm)
      exact List.mem_singleton.2 (by show v = x.toNat; omega)
theorem cov_carve {c : Cfg} {b : Bk} {s : Int} {p k : Nat} (hk : k < 4) (hnil : (hd b k).length = 0) (hF : Fit c b) (hF' : Fit c (popP (carveP b p k) s k).1) : Cov c b (popP (carveP b p k) s k).1 := by
  have hl0 : hd b k = [] := List.length_eq_zero_iff.1 hnil
  revert hF'
  unfold popP
  dsimp only
  intro hF'
  have e0 : hd (carveP b p k) k = roomsOf k (8 / usz k) (8 * p) := by
    unfold carveP
    rw [hd_at _ _ hk hk, if_pos rfl, hl0]; rfl
  have e : hd (wOw (wHd (carveP b p k) k ((hd (carveP b p k) k).drop 1)) ((hd (carveP b p k) k).getD 0 0).toNat (s + 1)) k = (roomsOf k (8 / usz k) (8 * p)).drop 1 := by
    rw [hd_ow, hd_at _ _ hk hk, if_pos rfl, e0]
  refine Cov.mk' hF hF' hk [] [p] [((hd (carveP b p k) k).getD 0 0).toNat] ((List.range 8).map (8 * p + ·)) (by simp) (fun j h1 h2 => ?_) (fun j _ => ⟨rfl, rfl⟩) (fun q hq => ?_) (fun v hv => set_ne _ _ _ _ (fun e => hv (by rw [e]; exact List.mem_singleton.2 rfl))) (fun v hv => ?_)
  · rw [hd_ow, hd_at _ _ hk h1, if_neg h2]
    unfold carveP
    rw [hd_at _ _ hk h1, if_neg h2, hd_pg]
  · exact set_ne _ _ _ _ (fun e => hq (by rw [e]; exact List.mem_singleton.2 rfl))
  · rw [e, hl0, nx_nil] at hv
    have hm : (v : Int) ∈ (roomsOf k (8 / usz k) (8 * p)).drop 1 := by
      by_cases g : (v : Int) ∈ (roomsOf k (8 / usz k) (8 * p)).drop 1
      · exact g
      · exact (hv (nx_out g).symm).elim
    obtain ⟨w, h1, h2, h3, _⟩ := roomsOf_mem hk _ _ _ (List.mem_of_mem_drop hm)
    refine mem_page ?_
    rcases usz_vals hk with ⟨hz, _⟩ | ⟨hz, _⟩ | ⟨hz, _⟩ | ⟨hz, _⟩ <;> rw [hz] at h3 <;> omega
theorem cov_take {c : Cfg} {b : Bk} {s u : Int} (hF : Fit c b) (hF' : Fit c (takeP b s u).1) : Cov c b (takeP b s u).1 := by
  revert hF'
  unfold takeP
  by_cases c1 : kindOf u < 0
  · rw [if_pos c1]; exact fun _ => Cov.same c b
  rw [if_neg c1]
  by_cases c2 : kindOf u = 4
  · rw [if_pos c2]
    exact fun h => cov_pages (by rcases kindOf_cases u with g | g | ⟨k, g1, g2⟩ <;> omega) hF h
  rw [if_neg c2]
  dsimp only
  have hk : (kindOf u).toNat < 4 := by rcases kindOf_cases u with g | g | ⟨k, g1, g2⟩ <;> omega
  by_cases c3 : (hd b (kindOf u).toNat).length = 0
  · rw [if_pos c3]
    by_cases c4 : runOf b.2.1 1 < 0
    · rw [if_pos c4]; exact fun _ => Cov.same c b
    · rw [if_neg c4]; exact fun h => cov_carve hk c3 hF h
  · rw [if_neg c3]; exact fun h => cov_pop hk hF h
theorem cov_do {c : Cfg} {b : Bk} (hF : Fit c b) (op : Op) : Cov c b (doP b op).1 := by
  have hF' := hF.do op
  revert hF'
  unfold doP
  by_cases c1 : op.2.1 < 0 ∨ op.2.1 ≥ b.1
  · rw [if_pos c1]; exact fun _ => Cov.same c b
  rw [if_neg c1]
  by_cases c2 : op.1 = 1
  · rw [if_pos c2]; exact cov_enter hF
  rw [if_neg c2]
  by_cases c3 : inn b op.2.1.toNat = 0
  · rw [if_pos c3]; exact fun _ => Cov.same c b
  rw [if_neg c3]
  unfold ownP
  by_cases d2 : op.1 = 2
  · rw [if_pos d2]; exact cov_take hF
  rw [if_neg d2]
  by_cases d3 : op.1 = 3
  · rw [if_pos d3]
    split
    · exact fun _ => Cov.same c b
    · exact cov_free hF
  rw [if_neg d3]
  by_cases d4 : op.1 = 4
  · rw [if_pos d4]
    split
    · exact fun _ => Cov.same c b
    split
    · exact fun _ => Cov.same c b
    · exact cov_ow hF
  rw [if_neg d4]
  by_cases d5 : op.1 = 5
  · rw [if_pos d5]
    split
    · exact fun _ => Cov.same c b
    · exact cov_in hF
  rw [if_neg d5]
  by_cases d6 : op.1 = 6
  · rw [if_pos d6]
    unfold reapP
    split
    · exact fun _ => Cov.same c b
    split
    · exact fun _ => Cov.same c b
    split
    · exact cov_in hF
    · exact cov_free hF
  rw [if_neg d6]; exact fun _ => Cov.same c b
theorem planL_cover (f g : List Int) (s : Int) : ∀ (d i : Nat) (S : List Nat), (∀ j, i ≤ j → j < i + d → f.getD j 0 ≠ g.getD j 0 → j ∈ S) → (planL f g s d i).length ≤ S.length
  | 0, i, S, h => Nat.zero_le _
  | d + 1, i, S, h => by
    rw [planL]
    by_cases c1 : f.getD i 0 = g.getD i 0
    · rw [if_pos c1]; exact planL_cover f g s d (i + 1) S fun j h1 h2 h3 => h j (by omega) (by omega) h3
    · rw [if_neg c1]
      have hi := h i (Nat.le_refl _) (by omega) c1
      have ih := planL_cover f g s d (i + 1) (S.erase i) fun j h1 h2 h3 => (List.mem_erase_of_ne (by omega)).2 (h j (by omega) (by omega) h3)
      rw [List.length_erase_of_mem hi] at ih
      have := List.length_pos_of_mem hi
      rw [List.length_cons]
      omega
theorem planP_short (w : List Int) (op : Op) (s : Int) : (planP w op s).1.length ≤ 20 := by
  unfold planP
  by_cases h : (censBook w).2 = true ∧ 1 ≤ s ∧ s ≤ 1000000000
  rotate_left
  · rw [if_neg h]; exact Nat.zero_le _
  rw [if_pos h]
  obtain ⟨hL, hF, hA0⟩ := cens_fit h.1
  obtain ⟨S, h1, h2⟩ := cov_do hF op
  refine Nat.le_trans (planL_cover _ _ _ _ _ S fun j _ h3 h4 => h2 j (by omega) fun e => h4 ?_) h1
  rw [layP_getD hF j (by omega), layP_getD (hF.do op) j (by omega), e]
theorem mem_plan (f g : List Int) (s : Int) (e : Int) : ∀ d i, e ∈ planL f g s d i ↔ ∃ k, i ≤ k ∧ k < i + d ∧ f.getD k 0 ≠ g.getD k 0 ∧ e = entryP k (g.getD k 0) s
  | 0, i => ⟨fun h => (by cases h), fun ⟨k, h1, h2, _⟩ => by omega⟩
  | d + 1, i => by
    rw [planL]
    have ih := mem_plan f g s e d (i + 1)
    by_cases c : f.getD i 0 = g.getD i 0
    · rw [if_pos c, ih]
      refine ⟨fun ⟨k, h1, h2, h3⟩ => ⟨k, by omega, by omega, h3⟩, fun ⟨k, h1, h2, h3⟩ => ⟨k, ?_, by omega, h3⟩⟩
      by_cases q : k = i
      · subst q; exact (h3.1 c).elim
      · omega
    · rw [if_neg c, List.mem_cons, ih]
      refine ⟨fun h => ?_, fun ⟨k, h1, h2, h3⟩ => ?_⟩
      · rcases h with h | ⟨k, h1, h2, h3⟩
        · exact ⟨i, Nat.le_refl _, by omega, c, h⟩
        · exact ⟨k, by omega, by omega, h3⟩
      · by_cases q : k = i
        · subst q; exact .inl h3.2
        · exact .inr ⟨k, by omega, by omega, h3⟩
theorem putX_twice (e x : Int) (h : 0 ≤ stampOf e ∧ stampOf e ≤ 4294967295) : putX e (putX e x) = putX e x := by
  unfold putX
  by_cases c : stampOf x < stampOf e
  · rw [if_pos c, pack_stamp h.1 h.2, if_neg (by omega)]
  · rw [if_neg c, if_neg c]
theorem fitX_fix (j : Nat) (e : Int) (hs : 0 ≤ stampOf e ∧ stampOf e ≤ 4294967295) : ∀ (l : List Int) (x : Int), (∀ y ∈ l, (valOf y / 1048576).toNat = j → y = e) → fitX j l (putX e x) = putX e x
  | [], x, h => rfl
  | y :: r, x, h => by
    have hr : ∀ z ∈ r, (valOf z / 1048576).toNat = j → z = e := fun z hz => h z (List.mem_cons_of_mem _ hz)
    rw [fitX]
    by_cases c : (valOf y / 1048576).toNat = j
    · rw [if_pos c, h y List.mem_cons_self c, putX_twice e x hs]; exact fitX_fix j e hs r x hr
    · rw [if_neg c]; exact fitX_fix j e hs r x hr
theorem fitX_one (j : Nat) (e : Int) (hs : 0 ≤ stampOf e ∧ stampOf e ≤ 4294967295) (hj : (valOf e / 1048576).toNat = j) : ∀ (l : List Int) (x : Int), (∀ y ∈ l, (valOf y / 1048576).toNat = j → y = e) → e ∈ l → fitX j l x = putX e x
  | [], x, h, he => by cases he
  | y :: r, x, h, he => by
    have hr : ∀ z ∈ r, (valOf z / 1048576).toNat = j → z = e := fun z hz => h z (List.mem_cons_of_mem _ hz)
    rw [fitX]
    by_cases c : (valOf y / 1048576).toNat = j
    · rw [if_pos c, h y List.mem_cons_self c]; exact fitX_fix j e hs r x hr
    · rw [if_neg c]
      rcases List.mem_cons.1 he with q | q
      · exact (c (by rw [← q]; exact hj)).elim
      · exact fitX_one j e hs hj r x hr q
def E8 (w : List Int) : Prop := Laid w → ∀ j, 3 ≤ j → j < dA (cfg (w.getD 0 0)) → ¬ (3 + (cfg (w.getD 0 0)).1 ≤ (j : Int) ∧ (j : Int) < 3 + 2 * (cfg (w.getD 0 0)).1) → stampOf (w.getD j 0) ≤ 8
def D8 (c : Cfg) (w : List Int) : Prop := ∀ j, 3 ≤ j → j < dA c → ¬ (3 + c.1 ≤ (j : Int) ∧ (j : Int) < 3 + 2 * c.1) → stampOf (w.getD j 0) ≤ 8
theorem plan_at {w : List Int} (hw : Words w) (h8 : E8 w) (hok : (censBook w).2 = true) (op : Op) {s : Int} (hs : 8 < s) (hs2 : s ≤ 1000000000) {R : List Int} (hR : ∀ e, e ∈ R ↔ e ∈ (planP w op s).1) {j : Nat} (hj : j < w.length) :
    (putAll R w).getD j 0 = if j < dA (cfg (w.getD 0 0)) ∧ (layP (cfg (w.getD 0 0)) (censBook w).1).getD j 0 ≠ (layP (cfg (w.getD 0 0)) (doP (censBook w).1 op).1).getD j 0 then pack ((layP (cfg (w.getD 0 0)) (doP (censBook w).1 op).1).getD j 0) s else w.getD j 0 := by
  obtain ⟨hL, hF, hA0⟩ := cens_fit hok
  have hF' := hF.do op
  have hD := dA_le hF.1
  obtain ⟨a1, a2, a3, a4, a5, a6, a7, a8, a9⟩ := plat_at hF.1
  have hP : (planP w op s).1 = planL (layP (cfg (w.getD 0 0)) (censBook w).1) (layP (cfg (w.getD 0 0)) (doP (censBook w).1 op).1) s (dA (cfg (w.getD 0 0))) 0 := by unfold planP; rw [if_pos ⟨hok, by omega, hs2⟩]
  rw [hP] at hR
  rw [putAll_at _ _ _ hj]
  have hm : ∀ y ∈ R, ∃ k, k < dA (cfg (w.getD 0 0)) ∧ (layP (cfg (w.getD 0 0)) (censBook w).1).getD k 0 ≠ (layP (cfg (w.getD 0 0)) (doP (censBook w).1 op).1).getD k 0 ∧ y = entryP k ((layP (cfg (w.getD 0 0)) (doP (censBook w).1 op).1).getD k 0) s := fun y hy => by
    obtain ⟨k, h1, h2, h3⟩ := (mem_plan _ _ _ _ _ _).1 ((hR y).1 hy)
    exact ⟨k, by omega, h3⟩
  by_cases c : j < dA (cfg (w.getD 0 0)) ∧ (layP (cfg (w.getD 0 0)) (censBook w).1).getD j 0 ≠ (layP (cfg (w.getD 0 0)) (doP (censBook w).1 op).1).getD j 0
  · rw [if_pos c]
    have hv := lay_in hF' c.1
    have e1 := entryP_addr (i := j) (by omega) ((layP (cfg (w.getD 0 0)) (doP (censBook w).1 op).1).getD j 0) s
    have e2 := entryP_val (i := j) (by omega) hv.1 (by omega) s
    have e3 := entryP_stamp (j : Int) ((layP (cfg (w.getD 0 0)) (doP (censBook w).1 op).1).getD j 0) (s := s) (by omega) (by omega)
    have h3 : 3 ≤ j := by
      by_cases g : 3 ≤ j
      · exact g
      · exact (c.2 (by rw [lay_small hF (by omega), lay_small hF' (by omega)])).elim
    have hb : ¬ (3 + (cfg (w.getD 0 0)).1 ≤ (j : Int) ∧ (j : Int) < 3 + 2 * (cfg (w.getD 0 0)).1) := fun g => c.2 (by
      rw [layP_getD hF j (by omega), layP_getD hF' j (by omega)]
      unfold layV baseV
      rw [if_neg (by omega), if_neg (by omega), if_neg (by omega), if_neg (by omega), if_neg (by omega), if_neg (by omega), if_neg (by omega), if_neg (by omega), if_neg (by omega), if_neg (by omega)])
    have hst := h8 hL j h3 c.1 hb
    rw [fitX_one j (entryP j ((layP (cfg (w.getD 0 0)) (doP (censBook w).1 op).1).getD j 0) s) (by rw [e3]; omega) (by rw [e1]; omega) R _ (fun y hy hy2 => by
      obtain ⟨k, h1, h2, h4⟩ := hm y hy
      rw [h4, entryP_addr (by omega)] at hy2
      rw [h4, show k = j by omega]) ((hR _).2 ((mem_plan _ _ _ _ _ _).2 ⟨j, by omega, by omega, c.2, rfl⟩))]
    unfold putX
    rw [if_pos (by rw [e3]; omega), e2, e3]
  · rw [if_neg c]
    refine fitX_none j R _ fun y hy hy2 => c ?_
    obtain ⟨k, h1, h2, h4⟩ := hm y hy
    rw [h4, entryP_addr (by omega)] at hy2
    rw [show j = k by omega]
    exact ⟨h1, h2⟩
theorem plan_cens {w : List Int} (hw : Words w) (h8 : E8 w) (hok : (censBook w).2 = true) (op : Op) {s : Int} (hs : 8 < s) (hs2 : s ≤ 1000000000) : censBook (putAll (planP w op s).1 w) = ((doP (censBook w).1 op).1, true) := by
  obtain ⟨hL, hF, hA0⟩ := cens_fit hok
  have hF' := hF.do op
  have hlen := laid_len hL
  obtain ⟨a1, a2, a3, a4, a5, a6, a7, a8, a9⟩ := plat_at hF.1
  have hat := fun j hj => plan_at hw h8 hok op hs hs2 (R := (planP w op s).1) (fun _ => Iff.rfl) (j := j) hj
  have h0 : (putAll (planP w op s).1 w).getD 0 0 = w.getD 0 0 := by
    rw [hat 0 (by omega), if_neg (fun g => g.2 (by rw [lay_small hF (by omega), lay_small hF' (by omega)]))]
  have hL2 : Laid (putAll (planP w op s).1 w) := by
    unfold Laid Head at hL ⊢
    rw [h0, putAll_len]; exact hL
  have e0 : censBook (putAll (planP w op s).1 w) = censP (cfg ((putAll (planP w op s).1 w).getD 0 0)) (valW (putAll (planP w op s).1 w)) := if_pos hL2
  rw [e0, h0]
  refine censP_lay hF' fun j hj h3 => ?_
  have hr := layV_in hF' hj
  have hj' : j < w.length := by omega
  have := plan_at hw h8 hok op hs hs2 (R := (planP w op s).1) (fun _ => Iff.rfl) (j := j) hj'
  unfold valW
  rw [this]
  by_cases c : j < dA (cfg (w.getD 0 0)) ∧ (layP (cfg (w.getD 0 0)) (censBook w).1).getD j 0 ≠ (layP (cfg (w.getD 0 0)) (doP (censBook w).1 op).1).getD j 0
  · rw [if_pos c, layP_getD hF' j hj]
    exact (pack_val hr.1 (by omega)).symm
  · rw [if_neg c]
    have e : (layP (cfg (w.getD 0 0)) (censBook w).1).getD j 0 = (layP (cfg (w.getD 0 0)) (doP (censBook w).1 op).1).getD j 0 := by
      by_cases q : (layP (cfg (w.getD 0 0)) (censBook w).1).getD j 0 = (layP (cfg (w.getD 0 0)) (doP (censBook w).1 op).1).getD j 0
      · exact q
      · exact (c ⟨hj, q⟩).elim
    rw [layP_getD hF j hj, layP_getD hF' j hj] at e
    have := hA0 j hj h3
    rw [← e, this]; rfl
theorem planDo_loop (N : Nat) (P : List Int) (hP : Words P) (hl : P.length ≤ 1000) : ∀ d i K (M : List Int), i + d = P.length → d < K → Words M →
    impl_PlanDo.l0 N K P (P.length : Int) (i : Nat) M = some ((), putAll (P.drop i) M)
  | 0, i, K, M, e, hK, hM => by
    obtain ⟨K, rfl⟩ := fuel hK
    rw [impl_PlanDo.l0, cf (by omega), drop_end (by omega), putAll]
  | d + 1, i, K, M, e, hK, hM => by
    obtain ⟨K, rfl⟩ := fuel hK
    rw [impl_PlanDo.l0, ct (by omega), bnd (by omega) (by omega), Int.toNat_natCast, impl_applied_eq N (hP.at i) hM, w64 (n := (i : Int) + 1) (by omega) (by omega), show (i : Int) + 1 = ((i + 1 : Nat) : Int) by omega]
    simp only [Ob]
    rw [planDo_loop N P hP hl d (i + 1) K _ (by omega) (by omega) (putP_words _ hM), drop_at 0 (show i < P.length by omega), putAll]
theorem impl_PlanDo_eq (N : Nat) (hN : Fuel N) {w P : List Int} (hw : Words w) (hs : Short w) (hP : Words P) (hl : P.length ≤ 1000) : impl_PlanDo N w P = some ((), putAll P w) := by
  unfold impl_PlanDo
  rw [cloneU_eq N w hs]
  simp only [Ob]
  have := planDo_loop N P hP hl P.length 0 N w (by omega) (by unfold Fuel at hN; omega) hw
  rwa [List.drop_zero] at this
theorem fp_l1 (N : Nat) (X : List Int) (hl : X.length ≤ 1000) : ∀ d i k, i + d = X.length → d < k → laws_FnPlan.l1 N k (i : Nat) X X = some (true, ())
  | 0, i, k, e, hk => by
    obtain ⟨k, rfl⟩ := fuel hk
    rw [laws_FnPlan.l1, cf (by omega)]
  | d + 1, i, k, e, hk => by
    obtain ⟨k, rfl⟩ := fuel hk
    rw [laws_FnPlan.l1, ct (by omega), bnd (by omega) (by omega), bnd (by omega) (by omega), bne_self_eq_false, cond_false, w64 (n := (i : Int) + 1) (by omega) (by omega), show (i : Int) + 1 = ((i + 1 : Nat) : Int) by omega]
    exact fp_l1 N X hl d (i + 1) k (by omega) (by omega)
theorem fp_l0 (N : Nat) (hN : Fuel N) {w : List Int} (hw : Words w) (hlw : w.length ≤ 1000) (h8 : E8 w) (hok : (censBook w).2 = true) (op : Op) {s : Int} (hs : 8 < s) (hs2 : s ≤ 1000000000) : ∀ n k, n ≤ (planP w op s).1.length → n + w.length + 5 < k →
    laws_FnPlan.l0 N k (planP w op s).2.1 ((n : Int) - 1) w op (planP w op s).1 ((censBook w).1.1, (), ((), (), (), ()), (), (), ()) (putAll (planP w op s).1 w) ((planP w op s).1.drop n).reverse
      (censBook w).1.2.1 (censBook w).1.2.2.1.1 (censBook w).1.2.2.1.2.1 (censBook w).1.2.2.1.2.2.1 (censBook w).1.2.2.1.2.2.2 (censBook w).1.2.2.2.1 (censBook w).1.2.2.2.2.1 (censBook w).1.2.2.2.2.2 = some (true, ())
  | 0, k, hn, hk => by
    obtain ⟨k, rfl⟩ := fuel hk
    obtain ⟨hL, hF, hA0⟩ := cens_fit hok
    have hb := hF.2.1
    have hpl := planP_short w op s
    have hPw := planP_words w op s
    have hRw : Words (planP w op s).1.reverse := fun x hx => hPw x (List.mem_reverse.1 hx)
    have hX := plan_cens hw h8 hok op hs hs2
    have hXw := putAll_words (planP w op s).1 hw
    have hXl := putAll_len (planP w op s).1 w
    have hcode : (planP w op s).2 = (doP (censBook w).1 op).2 := by unfold planP; rw [if_pos ⟨hok, by omega, hs2⟩]
    have hRX : putAll (planP w op s).1.reverse w = putAll (planP w op s).1 w := ext_getD (by rw [putAll_len, putAll_len]) fun j hj => by
      rw [putAll_len] at hj
      rw [plan_at hw h8 hok op hs hs2 (fun e => List.mem_reverse) hj, plan_at hw h8 hok op hs hs2 (fun _ => Iff.rfl) hj]
    have hst : ∀ e ∈ (planP w op s).1, stampOf e = s := fun e he => by
      have hP : (planP w op s).1 = planL (layP (cfg (w.getD 0 0)) (censBook w).1) (layP (cfg (w.getD 0 0)) (doP (censBook w).1 op).1) s (dA (cfg (w.getD 0 0))) 0 := by unfold planP; rw [if_pos ⟨hok, by omega, hs2⟩]
      rw [hP] at he
      obtain ⟨i, _, _, _, rfl⟩ := (mem_plan _ _ _ _ _ _).1 he
      exact entryP_stamp _ _ (by omega) (by omega)
    have hXX : putAll (planP w op s).1 (putAll (planP w op s).1 w) = putAll (planP w op s).1 w := ext_getD (by rw [putAll_len]) fun j hj => by
      rw [putAll_len, putAll_len] at hj
      rw [putAll_at _ _ _ (by rw [putAll_len]; exact hj), putAll_at _ _ _ hj, fitX_twice j s (by omega) _ _ hst]
    have r1 : impl_BookDo N ((censBook w).1.1, (censBook w).1.2.1, ((censBook w).1.2.2.1.1, (censBook w).1.2.2.1.2.1, (censBook w).1.2.2.1.2.2.1, (censBook w).1.2.2.1.2.2.2), (censBook w).1.2.2.2.1, (censBook w).1.2.2.2.2.1, (censBook w).1.2.2.2.2.2) op = out (bookDo (censBook w).1 op) := impl_BookDo_eq N hN _ hb.ints hb.short op
    have hsame : impl_BookSame N ((doP (censBook w).1 op).1.1, (doP (censBook w).1 op).1.2.1, ((doP (censBook w).1 op).1.2.2.1.1, (doP (censBook w).1 op).1.2.2.1.2.1, (doP (censBook w).1 op).1.2.2.1.2.2.1, (doP (censBook w).1 op).1.2.2.1.2.2.2), (doP (censBook w).1 op).1.2.2.2.1, (doP (censBook w).1 op).1.2.2.2.2.1, (doP (censBook w).1 op).1.2.2.2.2.2) ((doP (censBook w).1 op).1.1, (doP (censBook w).1 op).1.2.1, ((doP (censBook w).1 op).1.2.2.1.1, (doP (censBook w).1 op).1.2.2.1.2.1, (doP (censBook w).1 op).1.2.2.1.2.2.1, (doP (censBook w).1 op).1.2.2.1.2.2.2), (doP (censBook w).1 op).1.2.2.2.1, (doP (censBook w).1 op).1.2.2.2.2.1, (doP (censBook w).1 op).1.2.2.2.2.2) = some (tf ((doP (censBook w).1 op).1 = (doP (censBook w).1 op).1), ()) := impl_BookSame_eq N hN (doP (censBook w).1 op).1 (doP (censBook w).1 op).1 (hF.do op).2.1.short
    rw [laws_FnPlan.l0, cf (by omega), List.drop_zero, impl_PlanDo_eq N hN hw (by unfold Short; omega) hRw (by rw [List.length_reverse]; omega)]
    simp only [Ob]
    rw [hRX, impl_PlanDo_eq N hN hXw (by unfold Short; omega) hPw (by omega)]
    simp only [Ob]
    rw [hXX, impl_CensBook_eq N hN hXw, hX, r1, bookDo_ok hb]
    simp only [outT, out, Ob]
    rw [Bool.not_true, cond_false, hcode, bne_self_eq_false, cond_false]
    rw [hsame]
    simp only [Ob]
    rw [tf_t trivial, Bool.not_true, cond_false, cf (by omega)]
    exact fp_l1 N _ (by omega) w.length 0 k (by omega) (by omega)
  | n + 1, k, hn, hk => by
    obtain ⟨k, rfl⟩ := fuel hk
    have hpl := planP_short w op s
    have ih := fp_l0 N hN hw hlw h8 hok op hs hs2 n k (by omega) (by omega)
    have e : ((planP w op s).1.drop (n + 1)).reverse ++ [(planP w op s).1.getD n 0] = ((planP w op s).1.drop n).reverse := by
      rw [drop_at 0 (show n < (planP w op s).1.length by omega), List.reverse_cons]
    rw [laws_FnPlan.l0, show ((n + 1 : Nat) : Int) - 1 = (n : Int) by omega, ct (by omega), bnd (by omega) (by omega), Int.toNat_natCast, ct (by rw [List.length_reverse, List.length_drop]; simp; omega), w64 (n := (n : Int) - 1) (by omega) (by omega), e]
    exact ih
theorem E8.of {c : Cfg} (hc : Plat c) {w : List Int} (h : w.getD 0 0 = headW c ∨ w.getD 0 0 = 77) (h8 : D8 c w) : E8 w := fun hL => by
  rcases h with h | h
  · rw [h, headW_cfg hc]; exact h8
  · have := hL.1.2.1
    rw [h] at this
    exact absurd this (by decide)
theorem draw_plan8 {N : Nat} (hN : Fuel N) {code : List Int} (hcd : ∀ x ∈ code, 0 ≤ x ∧ x ≤ 255) : ∃ (w : List Int) (op : Op) (s : Int), spec_DrawPlanOf N code = some (((), op, s), w) ∧ Words w ∧ w.length ≤ 1000 ∧ E8 w := by
  have : Ok (spec_DrawPlanOf N code) (fun r => Words r.2 ∧ r.2.length ≤ 1000 ∧ E8 r.2) := by
    unfold spec_DrawPlanOf
    refine (open_ok hcd).bind fun u1 g1 => (l2Cfg_ok (k := 10000) (g1.mono (by omega))).bind fun u2 g2 => ?_
    have hp := cfg_plat ⟨g2.1, g2.2.1, g2.2.2.1⟩
    obtain ⟨a1, a2, a3, a4, a5, a6, a7, a8, a9⟩ := plat_at hp
    refine (numin_ok (a := 0) (c := 40) (k := 9999) (by simp) (allin (by decide)) g2.2.2.2).bind fun u3 g3 => (l3Book_fit (j := 3000) hN hp g3.1.1 (by omega) (g3.2.mono (by omega))).bind fun u4 g4 => ?_
    refine (l3Op_ok (j := 2000) hN (b := bkS u4) g4.1.2.1.bd (g4.2.mono (by omega))).bind fun u5 g5 => ?_
    refine (l4Words_ok' (j := 1000) hN hp (v := 8) (by omega) (Q := fun w => HW u2.1 w ∧ D8 u2.1 w) (fun _ h => h.1) (fun W i x h hi h2 hx h3 => ⟨h.1.set hi hx, fun j q1 q2 q3 => by
      by_cases q : j = i
      · subst q
        have hl := h.1.len hp
        rw [set_at _ _ _ (by omega)]
        rcases h3 with h3 | h3 | h3
        · exact h3
        · omega
        · exact (q3 h3).elim
      · rw [set_ne _ _ _ _ q]; exact h.2 j q1 q2 q3⟩) ⟨formP_hw hp, fun j q1 _ _ => by rw [formP_zero hp j q1]; decide⟩ (b := bkS u4) g4.1 (g5.2.mono (by omega))).bind fun u6 g6 => ?_
    obtain ⟨l1, l2, l3, l4, l5⟩ := g6.1.1.len hp
    have hh : house u2.1 = dA u2.1 := by unfold house; omega
    have cut : ∀ (W : List Int) (z : St), W.length = u6.2.1.length → Words W → (W.getD 0 0 = headW u2.1 ∨ W.getD 0 0 = 77) → D8 u2.1 W → Rd 100 z → Ok (bif (bif (bif decide (0 ≤ house u2.1) then decide (house u2.1 ≤ (W.length : Int)) else false) then true else false) then (lh_spec_l20Rd_num N ([9, 9, 9, 9, 0, 1, 5, 1000000001]) z).bind fun u11 => some (((), u5.1, u11.1), (W.drop 0).take ((house u2.1).toNat - 0)) else none) (fun r => Words r.2 ∧ r.2.length ≤ 1000 ∧ E8 r.2) := fun W z hW hWw h0 h8 hz => by
      rw [dt (show 0 ≤ house u2.1 by omega), cond_true, dt (show house u2.1 ≤ (W.length : Int) by omega)]
      refine (num_ok (k := 99) (by simp) hz).bind fun u11 g11 => Ok.val ⟨words_take (by rw [List.drop_zero]; exact hWw) _, ?_, ?_⟩
      · show (List.take _ (List.drop 0 W)).length ≤ 1000
        rw [List.length_take, List.drop_zero]; omega
      · have hg : ∀ j, j < dA u2.1 → (List.take ((house u2.1).toNat - 0) (List.drop 0 W)).getD j 0 = W.getD j 0 := fun j hj => by
          rw [slice_getD _ _ _ _ (by omega), Nat.zero_add]
        refine E8.of hp ?_ fun j q1 q2 q3 => ?_
        · rw [hg 0 (by omega)]; exact h0
        · rw [hg j q2]; exact h8 j q1 q2 q3
    have whole : ∀ (W : List Int) (z : St), W.length = u6.2.1.length → Words W → (W.getD 0 0 = headW u2.1 ∨ W.getD 0 0 = 77) → D8 u2.1 W → Rd 100 z → Ok ((lh_spec_l20Rd_num N ([9, 9, 9, 9, 0, 1, 5, 1000000001]) z).bind fun u11 => some (((), u5.1, u11.1), W)) (fun r => Words r.2 ∧ r.2.length ≤ 1000 ∧ E8 r.2) := fun W z hW hWw h0 h8 hz =>
      (num_ok (k := 99) (by simp) hz).bind fun u11 g11 => Ok.val ⟨hWw, by show W.length ≤ 1000; omega, E8.of hp h0 h8⟩
    refine (pick_ok (k := 999) g6.2).bind fun u7 g7 => Ok.beq (fun _ => ?_) fun _ => ?_
    · refine (pick_ok (k := 998) g7.2.2).bind fun u8 g8 => Ok.inb g8.1 (by omega) ?_
      have z0 : (u6.2.1.set u8.1.toNat 77).getD 0 0 = headW u2.1 ∨ (u6.2.1.set u8.1.toNat 77).getD 0 0 = 77 := by
        by_cases q : u8.1.toNat = 0
        · right; rw [q, set_at _ _ _ (by omega)]
        · left; rw [set_ne _ _ _ _ (by omega)]; exact g6.1.1.2.2
      have z8 : D8 u2.1 (u6.2.1.set u8.1.toNat 77) := fun j q1 q2 q3 => by
        by_cases q : j = u8.1.toNat
        · rw [q, set_at _ _ _ (by omega)]; decide
        · rw [set_ne _ _ _ _ q]; exact g6.1.2 j q1 q2 q3
      refine (pick_ok (k := 997) g8.2.2).bind fun u9 g9 => Ok.beq (fun _ => ?_) fun _ => ?_
      · rw [spec_l2House_eq N hp]
        simp only [Ob]
        exact cut _ _ (List.length_set ..) (words_set g6.1.1.1 _ ⟨by decide, by decide⟩) z0 z8 (g9.2.2.mono (by omega))
      · exact whole _ _ (List.length_set ..) (words_set g6.1.1.1 _ ⟨by decide, by decide⟩) z0 z8 (g9.2.2.mono (by omega))
    · refine (pick_ok (k := 998) g7.2.2).bind fun u9 g9 => Ok.beq (fun _ => ?_) fun _ => ?_
      · rw [spec_l2House_eq N hp]
        simp only [Ob]
        exact cut _ _ rfl g6.1.1.1 (.inl g6.1.1.2.2) g6.1.2 (g9.2.2.mono (by omega))
      · exact whole _ _ rfl g6.1.1.1 (.inl g6.1.1.2.2) g6.1.2 (g9.2.2.mono (by omega))
  obtain ⟨r, e, g⟩ := this
  exact ⟨r.2, r.1.2.1, r.1.2.2, e, g⟩
theorem plainPlan (N : Nat) (hN : Fuel N) (a0 : List Int) (hc0 : ∀ x ∈ a0, 0 ≤ x ∧ x ≤ 255) : laws_FnPlan N a0 = some (true, ()) := by
  unfold laws_FnPlan
  by_cases hl : (a0.length : Int) > 1048576
  · rw [ct hl]
  rw [cf hl]
  obtain ⟨w, op, s, e, hw, hlw, h8⟩ := draw_plan8 hN hc0
  have hpl := planP_short w op s
  rw [e]
  simp only [Ob]
  rw [impl_PlanOf_eq N hN hw, spec_PlanOf_eq N hN hw]
  simp only [Ob, bne_self_eq_false, cond_false]
  rw [impl_CensBook_eq N hN hw]
  simp only [outT, Ob]
  have hno : ¬ ((censBook w).2 = true ∧ 1 ≤ s ∧ s ≤ 1000000000) → planP w op s = ([], 13, 0) := fun h => by unfold planP; rw [if_neg h]
  cases hok : (censBook w).2
  · rw [hno (fun g => by rw [hok] at g; cases g.1)]; rfl
  rw [Bool.not_true, cond_false]
  by_cases c1 : s < 1
  · rw [ct c1, hno (fun g => by omega)]; rfl
  rw [cf c1]
  by_cases c2 : s > 1000000000
  · rw [ct c2, hno (fun g => by omega)]; rfl
  rw [cf c2]
  by_cases c3 : s ≤ 8
  · rw [ct c3]
  rw [cf c3, impl_PlanDo_eq N hN hw (by unfold Short; omega) (planP_words w op s) (by omega)]
  simp only [Ob]
  have main := fp_l0 N hN hw hlw h8 hok op (s := s) (by omega) (by omega) (planP w op s).1.length N (Nat.le_refl _) (by unfold Fuel at hN; omega)
  rw [drop_end (Nat.le_refl _), List.reverse_nil] at main
  rw [w64 (n := ((planP w op s).1.length : Int) - 1) (by omega) (by omega)]
  exact main
theorem lawFnPlan (y0 : List Int) (w0 : Wf (.sl .frz (.int .u8)) y0) : laws_FnPlan N0 y0 = some (true, ()) := plainPlan N0 hN0 y0 (wf_bytes w0)
end Go.Proofs.YtdhdlnojoonhcabGreat.Pv
