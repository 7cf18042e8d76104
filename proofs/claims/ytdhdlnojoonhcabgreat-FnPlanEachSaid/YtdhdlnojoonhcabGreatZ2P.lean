/- The plain law of FnPlanEach, part 3: what the functions compute, over numbers and lists. -/
import Derived.Test.YtdhdlnojoonhcabGreatZ2Pb
import Derived.Test.YtdhdlnojoonhcabGreatPvRow
namespace Go.Proofs.YtdhdlnojoonhcabGreat.Pv
open Go Go.Pv Go.Proofs
set_option linter.unusedVariables false
set_option linter.unusedSimpArgs false
theorem l4Words_ok' {N : Nat} (hN : Fuel N) {c : Cfg} (hc : Plat c) {Q : List Int → Prop} (hQ : ∀ W, Q W → HW c W) (hS : ∀ (W : List Int) (i : Nat) (x : Int), Q W → i ≠ 0 → i < dA c → W64 x → Q (W.set i x)) (h0 : Q (formP c)) {b : Bk} (hf : Fit c b) {v : Int} (hv : 0 ≤ v ∧ v ≤ 100) {j : Nat} {s : St} (h : Rd (j + 400) s) : Ok (spec_l4Words N c b v s) (fun r => Q r.2.1 ∧ Rd j r.2.2) := by
  obtain ⟨a1, a2, a3, a4, a5, a6, a7, a8, a9⟩ := plat_at hc
  unfold spec_l4Words
  rw [spec_PlatFormat_eq N hc, spec_l4Lay_eq N hN hf, spec_PlatReg_eq N hc, if_pos (by omega)]
  simp only [Option.bind_some]
  exact l4Words_l0 hc hQ hS hf v hv _ (layP_len c b) (dA c - 3) 3 N j s _ (by omega) (by omega) (by unfold Fuel at hN; omega) h0 (h.mono (by omega))
theorem l4Words_ok {N : Nat} (hN : Fuel N) {c : Cfg} (hc : Plat c) {b : Bk} (hf : Fit c b) {v : Int} (hv : 0 ≤ v ∧ v ≤ 100) {j : Nat} {s : St} (h : Rd (j + 400) s) : Ok (spec_l4Words N c b v s) (fun r => HW c r.2.1 ∧ Rd j r.2.2) :=
  l4Words_ok' hN hc (fun _ h => h) (fun W i x h hi _ hx => h.set hi hx) (formP_hw hc) hf hv h
theorem words_take {w : List Int} (h : Words w) (n : Nat) : Words (w.take n) := fun x hx => h x (List.mem_of_mem_take hx)
theorem headOr_in {l : List Int} {d m : Int} (h : ∀ x ∈ l, 0 ≤ x ∧ x < m) (hd : 0 ≤ d ∧ d ≤ m) : 0 ≤ headOr l d ∧ headOr l d ≤ m := by
  cases l with
  | nil => exact hd
  | cons x r =>
    have := h x List.mem_cons_self
    show 0 ≤ x + 1 ∧ x + 1 ≤ m
    omega
theorem nextOr_in {m : Int} : ∀ (l : List Int) (u d : Int), (∀ x ∈ l, 0 ≤ x ∧ x < m) → (0 ≤ d ∧ d ≤ m) → 0 ≤ nextOr l u d ∧ nextOr l u d ≤ m
  | [], u, d, h, hd => hd
  | x :: r, u, d, h, hd => by
    rw [nextOr]
    split
    · exact headOr_in (fun y hy => h y (List.mem_cons_of_mem _ hy)) hd
    · exact nextOr_in r u d (fun y hy => h y (List.mem_cons_of_mem _ hy)) hd
theorem layV_in {c : Cfg} {b : Bk} (h : Fit c b) {j : Nat} (hj : j < dA c) : 0 ≤ layV c b j ∧ layV c b j ≤ 20000 := by
  obtain ⟨hc, hb, h1, h2⟩ := h
  obtain ⟨a1, a2, a3, a4, a5, a6, a7, a8, a9⟩ := plat_at hc
  have hdim := hb.dims
  have hm : ∀ k, k < 4 → ∀ x ∈ hd b k, 0 ≤ x ∧ x < (nu b : Int) := fun k hk x hx => by have := hb.mem hk hx; omega
  unfold layV
  split
  · rename_i g
    have := headOr_in (d := 0) (hm (j - hA c) (by omega)) (by omega)
    omega
  split
  · unfold nextV
    have h0 := nextOr_in (hd b 0) ((j - kA c : Nat) : Int) 0 (hm 0 (by omega)) (by omega)
    have h1 := nextOr_in (hd b 1) ((j - kA c : Nat) : Int) _ (hm 1 (by omega)) h0
    have h2 := nextOr_in (hd b 2) ((j - kA c : Nat) : Int) _ (hm 2 (by omega)) h1
    have h3 := nextOr_in (hd b 3) ((j - kA c : Nat) : Int) _ (hm 3 (by omega)) h2
    omega
  unfold baseV
  split
  · have := slotB_iff.1 (hb.slot (i := j - 3) (by omega))
    omega
  split
  · have := hb.cases (p := j - pA c) (by omega)
    omega
  split
  · have := ownB_iff.1 (hb.own (u := j - tA c) (by omega))
    omega
  omega
theorem lay_in {c : Cfg} {b : Bk} (h : Fit c b) {j : Nat} (hj : j < dA c) : 0 ≤ (layP c b).getD j 0 ∧ (layP c b).getD j 0 ≤ 20000 := by rw [layP_getD h j hj]; exact layV_in h hj
theorem lay_small {c : Cfg} {b : Bk} (h : Fit c b) {j : Nat} (hj : j < 3) : (layP c b).getD j 0 = 0 := by
  obtain ⟨a1, a2, a3, a4, a5, a6, a7, a8, a9⟩ := plat_at h.1
  rw [layP_getD h j (by omega)]
  unfold layV baseV
  rw [if_neg (by omega), if_neg (by omega), if_neg (by omega), if_neg (by omega), if_neg (by omega)]
theorem entryP_addr {i : Nat} (hi : i ≤ 4095) (v s : Int) : valOf (entryP i v s) / 1048576 = i := by
  have h3 := low_ge v 1048575 (by omega)
  have h4 := low_le v 1048575 (by omega)
  unfold entryP
  rw [low_id (n := (i : Int)) (by omega) (by omega), pack_val (by omega) (by omega)]
  omega
theorem entryP_val {i : Nat} (hi : i ≤ 4095) {v : Int} (h1 : 0 ≤ v) (h2 : v ≤ 1048575) (s : Int) : valOf (entryP i v s) % 1048576 = v := by
  unfold entryP
  rw [low_id (n := (i : Int)) (by omega) (by omega), low_id h1 h2, pack_val (by omega) (by omega)]
  omega
theorem entryP_stamp (a v : Int) {s : Int} (h1 : 0 ≤ s) (h2 : s ≤ 4294967295) : stampOf (entryP a v s) = s := pack_stamp h1 h2
theorem planL_words (f g : List Int) (s : Int) : ∀ d i, Words (planL f g s d i)
  | 0, i => fun x hx => by cases hx
  | d + 1, i => by
    rw [planL]
    split
    · exact planL_words f g s d (i + 1)
    · intro x hx
      rcases List.mem_cons.1 hx with e | e
      · rw [e]; exact pack_w _ _
      · exact planL_words f g s d (i + 1) x e
theorem planL_self (f : List Int) (s : Int) : ∀ d i, planL f f s d i = []
  | 0, i => rfl
  | d + 1, i => by rw [planL, if_pos rfl]; exact planL_self f s d (i + 1)
def Inc (w : List Int) (s : Int) : Int → List Int → Prop
  | _, [] => True
  | p, e :: r => p < valOf e / 1048576 ∧ valOf e / 1048576 < w.length ∧ stampOf e = s ∧ valW w (valOf e / 1048576).toNat ≠ valOf e % 1048576 ∧ Inc w s (valOf e / 1048576) r
theorem inc_plan {w : List Int} {c : Cfg} {b b' : Bk} (hF : Fit c b) (hF' : Fit c b') (hA0 : Agree c (valW w) b) (hl : dA c ≤ w.length) {s : Int} (hs : 0 ≤ s ∧ s ≤ 4294967295) : ∀ (d i : Nat) (p : Int), i + d = dA c → p < i → 2 ≤ p → Inc w s p (planL (layP c b) (layP c b') s d i)
  | 0, i, p, e, hp, h2 => trivial
  | d + 1, i, p, e, hp, h2 => by
    have hD := dA_le hF.1
    obtain ⟨a1, a2, a3, a4, a5, a6, a7, a8, a9⟩ := plat_at hF.1
    rw [planL]
    by_cases c1 : (layP c b).getD i 0 = (layP c b').getD i 0
    · rw [if_pos c1]; exact inc_plan hF hF' hA0 hl hs d (i + 1) p (by omega) (by omega) h2
    rw [if_neg c1]
    have hv := lay_in hF' (j := i) (by omega)
    have e1 := entryP_addr (i := i) (by omega) ((layP c b').getD i 0) s
    have e2 := entryP_val (i := i) (by omega) hv.1 (by omega) s
    have e3 := entryP_stamp (i : Int) ((layP c b').getD i 0) hs.1 hs.2
    refine ⟨by omega, by omega, e3, ?_, ?_⟩
    · rw [e1, e2, Int.toNat_natCast]
      have hb : ¬ (3 + c.1.toNat ≤ i ∧ i < hA c) := fun g => c1 (by
        rw [layP_getD hF i (by omega), layP_getD hF' i (by omega)]
        unfold layV baseV
        rw [if_neg (by omega), if_neg (by omega), if_neg (by omega), if_neg (by omega), if_neg (by omega), if_neg (by omega), if_neg (by omega), if_neg (by omega), if_neg (by omega), if_neg (by omega)])
      have := hA0 i (by omega) (by omega)
      rw [← this, ← layP_getD hF i (by omega)]
      exact c1
    · rw [e1]
      exact inc_plan hF hF' hA0 hl hs d (i + 1) i (by omega) (by omega) (by omega)
theorem pe_loop (N : Nat) {w P : List Int} (hw : Words w) (hP : Words P) (hl : P.length ≤ 1000) (hlw : w.length ≤ 100000) (s : Int) : ∀ d i k (p : Int), i + d = P.length → d < k → 2 ≤ p → Inc w s p (P.drop i) →
    laws_FnPlanEach.l0 N k s p (i : Nat) w P = some (true, ())
  | 0, i, k, p, e, hk, hp, hI => by
    obtain ⟨k, rfl⟩ := fuel hk
    rw [laws_FnPlanEach.l0, cf (by omega)]
  | d + 1, i, k, p, e, hk, hp, hI => by
    obtain ⟨k, rfl⟩ := fuel hk
    rw [drop_at 0 (by omega)] at hI
    obtain ⟨h1, h2, h3, h4, h5⟩ := hI
    have hv := val_in (P.getD i 0)
    have hv' : P.getD i 0 % 4294967296 = valOf (P.getD i 0) := rfl
    obtain ⟨a, ha⟩ : ∃ a : Nat, valOf (P.getD i 0) / 1048576 = a := ⟨(valOf (P.getD i 0) / 1048576).toNat, by omega⟩
    rw [ha] at h1 h2 h4 h5
    rw [laws_FnPlanEach.l0, ct (by omega), bnd (by omega) (by omega), Int.toNat_natCast, w64 (n := (i : Int) + 1) (by omega) (by omega), show (i : Int) + 1 = ((i + 1 : Nat) : Int) by omega]
    unfold impl_CellEntryOf
    rw [impl_CellVal_eq N (hP.at i), impl_CellStamp_eq N (hP.at i)]
    simp only [Option.bind_some]
    rw [bnd (by omega) (by omega), hv', td hv.1, tm hv.1, ha, w64 (n := (a : Int)) (by omega) (by omega), cf (by omega), cf (by omega), show P.getD i 0 / 4294967296 = s from h3, bne_self_eq_false, cond_false, bnd (by omega) (by omega), Int.toNat_natCast, impl_CellVal_eq N (hw.at a)]
    simp only [Option.bind_some]
    rw [Int.toNat_natCast] at h4
    rw [cndb, if_neg (show ¬ w.getD a 0 % 4294967296 = valOf (P.getD i 0) % 1048576 from h4)]
    exact pe_loop N hw hP hl hlw s d (i + 1) k a (by omega) (by omega) (by omega) h5
theorem draw_plan {N : Nat} (hN : Fuel N) {code : List Int} (hcd : ∀ x ∈ code, 0 ≤ x ∧ x ≤ 255) : ∃ (w : List Int) (op : Op) (s : Int), spec_DrawPlanOf N code = some (((), op, s), w) ∧ Words w ∧ w.length ≤ 1000 := by
  have : Ok (spec_DrawPlanOf N code) (fun r => Words r.2 ∧ r.2.length ≤ 1000) := by
    unfold spec_DrawPlanOf
    refine (open_ok hcd).bind fun u1 g1 => (l2Cfg_ok (k := 10000) (g1.mono (by omega))).bind fun u2 g2 => ?_
    have hp := cfg_plat ⟨g2.1, g2.2.1, g2.2.2.1⟩
    obtain ⟨a1, a2, a3, a4, a5, a6, a7, a8, a9⟩ := plat_at hp
    refine (numin_ok (a := 0) (c := 40) (k := 9999) (by simp) (allin (by decide)) g2.2.2.2).bind fun u3 g3 => (l3Book_fit (j := 3000) hN hp g3.1.1 (by omega) (g3.2.mono (by omega))).bind fun u4 g4 => ?_
    refine (l3Op_ok (j := 2000) hN (b := bkS u4) g4.1.2.1.bd (g4.2.mono (by omega))).bind fun u5 g5 => ?_
    refine (l4Words_ok (j := 1000) hN hp (b := bkS u4) g4.1 (v := 8) (by omega) (g5.2.mono (by omega))).bind fun u6 g6 => ?_
    obtain ⟨l1, l2, l3, l4, l5⟩ := g6.1.len hp
    have hh : house u2.1 = dA u2.1 := by unfold house; omega
    have cut : ∀ (W : List Int) (z : St), W.length = u6.2.1.length → Words W → Rd 100 z → Ok (bif (bif (bif decide (0 ≤ house u2.1) then decide (house u2.1 ≤ (W.length : Int)) else false) then true else false) then (lh_spec_l20Rd_num N ([9, 9, 9, 9, 0, 1, 5, 1000000001]) z).bind fun u11 => some (((), u5.1, u11.1), (W.drop 0).take ((house u2.1).toNat - 0)) else none) (fun r => Words r.2 ∧ r.2.length ≤ 1000) := fun W z hW hWw hz => by
      rw [dt (show 0 ≤ house u2.1 by omega), cond_true, dt (show house u2.1 ≤ (W.length : Int) by omega)]
      refine (num_ok (k := 99) (by simp) hz).bind fun u11 g11 => Ok.val ⟨words_take (by rw [List.drop_zero]; exact hWw) _, ?_⟩
      show (List.take _ (List.drop 0 W)).length ≤ 1000
      rw [List.length_take, List.drop_zero]; omega
    have whole : ∀ (W : List Int) (z : St), W.length = u6.2.1.length → Words W → Rd 100 z → Ok ((lh_spec_l20Rd_num N ([9, 9, 9, 9, 0, 1, 5, 1000000001]) z).bind fun u11 => some (((), u5.1, u11.1), W)) (fun r => Words r.2 ∧ r.2.length ≤ 1000) := fun W z hW hWw hz =>
      (num_ok (k := 99) (by simp) hz).bind fun u11 g11 => Ok.val ⟨hWw, by show W.length ≤ 1000; omega⟩
    refine (pick_ok (k := 999) g6.2).bind fun u7 g7 => Ok.beq (fun _ => ?_) fun _ => ?_
    · refine (pick_ok (k := 998) g7.2.2).bind fun u8 g8 => Ok.inb g8.1 (by omega) ?_
      refine (pick_ok (k := 997) g8.2.2).bind fun u9 g9 => Ok.beq (fun _ => ?_) fun _ => ?_
      · rw [spec_l2House_eq N hp]
        simp only [Option.bind_some]
        exact cut _ _ (List.length_set ..) (words_set g6.1.1 _ ⟨by decide, by decide⟩) (g9.2.2.mono (by omega))
      · exact whole _ _ (List.length_set ..) (words_set g6.1.1 _ ⟨by decide, by decide⟩) (g9.2.2.mono (by omega))
    · refine (pick_ok (k := 998) g7.2.2).bind fun u9 g9 => Ok.beq (fun _ => ?_) fun _ => ?_
      · rw [spec_l2House_eq N hp]
        simp only [Option.bind_some]
        exact cut _ _ rfl g6.1.1 (g9.2.2.mono (by omega))
      · exact whole _ _ rfl g6.1.1 (g9.2.2.mono (by omega))
  obtain ⟨r, e, g⟩ := this
  exact ⟨r.2, r.1.2.1, r.1.2.2, e, g⟩
theorem planP_words (w : List Int) (op : Op) (s : Int) : Words (planP w op s).1 := by
  unfold planP
  split
  · exact planL_words _ _ _ _ _
  · exact fun x hx => by cases hx
theorem planP_inc {w : List Int} (op : Op) (s : Int) : Inc w s 2 (planP w op s).1 := by
  unfold planP
  split
  · rename_i h
    obtain ⟨hL, hF, hA0⟩ := cens_fit h.1
    have hD := plat_at hF.1
    have hlen := laid_len hL
    have e : ∀ d, planL (layP (cfg (w.getD 0 0)) (censBook w).1) (layP (cfg (w.getD 0 0)) (doP (censBook w).1 op).1) s (d + 3) 0 = planL (layP (cfg (w.getD 0 0)) (censBook w).1) (layP (cfg (w.getD 0 0)) (doP (censBook w).1 op).1) s d 3 := fun d => by
      rw [planL, if_pos (by rw [lay_small hF (by omega), lay_small (hF.do op) (by omega)]), planL, if_pos (by rw [lay_small hF (by omega), lay_small (hF.do op) (by omega)]), planL, if_pos (by rw [lay_small hF (by omega), lay_small (hF.do op) (by omega)])]
    have e2 := e (dA (cfg (w.getD 0 0)) - 3)
    rw [show dA (cfg (w.getD 0 0)) - 3 + 3 = dA (cfg (w.getD 0 0)) by omega] at e2
    show Inc w s 2 (planL _ _ s (dA (cfg (w.getD 0 0))) 0)
    rw [e2]
    exact inc_plan hF (hF.do op) hA0 hlen ⟨by omega, by omega⟩ (dA (cfg (w.getD 0 0)) - 3) 3 2 (by omega) (by omega) (by omega)
  · trivial
theorem planP_none {w : List Int} (op : Op) (s : Int) (h0 : (planP w op s).2.1 ≠ 0) (h10 : (planP w op s).2.1 ≠ 10) : (planP w op s).1 = [] := by
  unfold planP at h0 h10 ⊢
  by_cases h : (censBook w).2 = true ∧ 1 ≤ s ∧ s ≤ 1000000000
  · rw [if_pos h] at h0 h10 ⊢
    have := (do_same (censBook w).1 op h0 h10).1
    show planL _ _ _ _ _ = []
    rw [this, planL_self]
  · rw [if_neg h]
theorem plainPlanEach (N : Nat) (hN : Fuel N) (a0 : List Int) (hc0 : ∀ x ∈ a0, 0 ≤ x ∧ x ≤ 255) : laws_FnPlanEach N a0 = some (true, ()) := by
  unfold laws_FnPlanEach
  by_cases hl : (a0.length : Int) > 1048576
  · rw [ct hl]
  rw [cf hl]
  obtain ⟨w, op, s, e, hw, hlw⟩ := draw_plan hN hc0
  have hpl := planP_len w op s
  have main := pe_loop N hw (planP_words w op s) (by omega) (by omega) s (planP w op s).1.length 0 N 2 (by omega) (by unfold Fuel at hN; omega) (by omega) (planP_inc op s)
  rw [show ((0 : Nat) : Int) = 0 from rfl] at main
  rw [e]
  simp only [Option.bind_some]
  rw [impl_PlanOf_eq N hN hw, spec_PlanOf_eq N hN hw]
  simp only [Option.bind_some, bne_self_eq_false, cond_false]
  rw [cndn, cndn]
  by_cases h0 : (planP w op s).2.1 = 0
  · rw [if_pos h0]; exact main
  rw [if_neg h0]
  by_cases h10 : (planP w op s).2.1 = 10
  · rw [if_pos h10]; exact main
  rw [if_neg h10, cf (by rw [planP_none op s h0 h10]; simp)]
  exact main
theorem lawFnPlanEach (y0 : List Int) (w0 : Wf (.sl .frz (.int .u8)) y0) : laws_FnPlanEach N0 y0 = some (true, ()) := plainPlanEach N0 hN0 y0 (wf_bytes w0)
end Go.Proofs.YtdhdlnojoonhcabGreat.Pv
