/- The plain side of FnExactWorldBook, part 2: what the functions compute, over numbers and lists. -/
import Derived.Test.YtdkinmgpclbedaaGreatWbPa
import Derived.Test.YtdkinmgpclbedaaGreatPvRow
import Derived.Lib.ItoaNum
import Derived.Laws.Strings
namespace Go.Proofs.YtdkinmgpclbedaaGreat.Pv
open Go Go.Pv Go.Proofs
set_option linter.unusedVariables false
set_option linter.unusedSimpArgs false
theorem spec_lay_l6 (N : Nat) {c : Cfg} {b : Bk} (h : Fit c b) (M : List Int) (hM : M.length = dA c) (K : Nat) (hK : 2000 < K) :
    spec_l4Lay.l6 N K 0 c b M = some ((), chainP (kA c) (chainP (kA c) (chainP (kA c) (chainP (kA c) M (hA c) (hd b 0)) (hA c + 1) (hd b 1)) (hA c + 2) (hd b 2)) (hA c + 3) (hd b 3)) := by
  obtain ⟨a1, a2, a3, a4, a5, a6, a7, a8, a9⟩ := plat_at h.1
  have hnu := fit_nu h
  have hb := h.2.1
  have hdim := hb.dims
  have step : ∀ (k K : Nat) (M : List Int), k < 4 → M.length = dA c → 160 < K → ∃ K', K ≤ K' + 160 ∧ spec_l4Lay.l6 N K (k : Nat) c b M = spec_l4Lay.l6 N K' ((k + 1 : Nat) : Int) c b (chainP (kA c) M (hA c + k) (hd b k)) := by
    intro k K M hk hM hK
    have hl := hb.hd_len hk
    refine ⟨K - 1 - 3 * (hd b k).length - 2, by omega, ?_⟩
    have e := spec_lay_l7 N h hk (hd b k).length 0 (K - 1 - 3 * (hd b k).length - 2) (hA c + k) M (by omega) hM (by omega)
    rw [show K - 1 - 3 * (hd b k).length - 2 + 3 * (hd b k).length + 2 = K - 1 by omega, List.drop_zero] at e
    rw [← e]
    obtain ⟨K, rfl⟩ := fuel (show 0 < K by omega)
    rw [spec_l4Lay.l6, ct (by omega), sHead N h.1 hk, show K + 1 - 1 = K by omega]
    rfl
  obtain ⟨K1, g1, e1⟩ := step 0 K M (by omega) hM (by omega)
  obtain ⟨K2, g2, e2⟩ := step 1 K1 (chainP (kA c) M (hA c + 0) (hd b 0)) (by omega) (by simp only [chainP_len]; exact hM) (by omega)
  obtain ⟨K3, g3, e3⟩ := step 2 K2 (chainP (kA c) (chainP (kA c) M (hA c + 0) (hd b 0)) (hA c + 1) (hd b 1)) (by omega) (by simp only [chainP_len]; exact hM) (by omega)
  obtain ⟨K4, g4, e4⟩ := step 3 K3 (chainP (kA c) (chainP (kA c) (chainP (kA c) M (hA c + 0) (hd b 0)) (hA c + 1) (hd b 1)) (hA c + 2) (hd b 2)) (by omega) (by simp only [chainP_len]; exact hM) (by omega)
  have e1' : spec_l4Lay.l6 N K 0 c b M = _ := e1
  rw [e1', e2, e3, e4]
  obtain ⟨K4, rfl⟩ := fuel (show 0 < K4 by omega)
  rw [spec_l4Lay.l6, cf (by omega)]; rfl
theorem spec_lay_l4 (N : Nat) {c : Cfg} {b : Bk} (h : Fit c b) : ∀ d i K (M : List Int), i + d = (8 * c.2.1).toNat → 2 * d + 2010 < K → Mat (dA c) M (owV c b i) → spec_l4Lay.l4 N K (i : Nat) c b M = some ((), layP c b)
  | 0, i, K, M, e, hK, hM => by
    have hnu := fit_nu h
    have hnub : nu b = b.2.2.2.1.length := rfl
    obtain ⟨K, rfl⟩ := fuel (show 0 < K by omega)
    obtain rfl : i = (8 * c.2.1).toNat := by omega
    rw [spec_l4Lay.l4, cf (by omega)]
    have hM2 := hM.congr (g := baseV c b) fun j _ => owV_base h.1 b j
    have := spec_lay_l6 N h M hM.1 K (by omega)
    rw [hM2.eq] at this ⊢
    exact this
  | d + 1, i, K, M, e, hK, hM => by
    obtain ⟨a1, a2, a3, a4, a5, a6, a7, a8, a9⟩ := plat_at h.1
    have hnu := fit_nu h
    have hnub : nu b = b.2.2.2.1.length := rfl
    have hlen := hM.1
    obtain ⟨K, rfl⟩ : ∃ j, K = j + 1 + 1 := ⟨K - 2, by omega⟩
    rw [spec_l4Lay.l4, ct (by omega), sTag N h.1 (by omega)]
    simp only [Option.bind_some]
    rw [bnd (by omega) (by omega), bnd (by omega) (by omega), Int.toNat_natCast, Int.toNat_natCast, fold_ow, spec_l4Lay.l5, w64 (n := (i : Int) + 1) (by omega) (by omega), show (i : Int) + 1 = ((i + 1 : Nat) : Int) by omega]
    refine spec_lay_l4 N h d (i + 1) K _ (by omega) (by omega) (hM.set (by omega) _ fun j => ?_)
    unfold owV
    by_cases g : j = tA c + i
    · subst g
      rw [if_pos (by omega), if_pos rfl, show tA c + i - tA c = i by omega]
    · rw [if_neg g]
      by_cases g2 : tA c ≤ j ∧ j < tA c + i
      · rw [if_pos (by omega), if_pos g2]
      · rw [if_neg (by omega), if_neg g2]
theorem spec_lay_l2 (N : Nat) {c : Cfg} {b : Bk} (h : Fit c b) : ∀ d i K (M : List Int), i + d = c.2.1.toNat → 2 * d + 3000 < K → Mat (dA c) M (pgV c b i) → spec_l4Lay.l2 N K (i : Nat) c b M = some ((), layP c b)
  | 0, i, K, M, e, hK, hM => by
    obtain ⟨a1, a2, a3, a4, a5, a6, a7, a8, a9⟩ := plat_at h.1
    obtain ⟨K, rfl⟩ := fuel (show 0 < K by omega)
    obtain rfl : i = c.2.1.toNat := by omega
    rw [spec_l4Lay.l2, cf (by omega)]
    exact spec_lay_l4 N h (8 * c.2.1).toNat 0 K M (by omega) (by omega) (hM.congr fun j _ => by unfold owV; rw [if_neg (by omega)])
  | d + 1, i, K, M, e, hK, hM => by
    obtain ⟨a1, a2, a3, a4, a5, a6, a7, a8, a9⟩ := plat_at h.1
    have h2 := h.2.2.2
    have hnp : np b = b.2.1.length := rfl
    have hlen := hM.1
    obtain ⟨K, rfl⟩ : ∃ j, K = j + 1 + 1 := ⟨K - 2, by omega⟩
    rw [spec_l4Lay.l2, ct (by omega), sPage N h.1 (by omega)]
    simp only [Option.bind_some]
    rw [bnd (by omega) (by omega), bnd (by omega) (by omega), Int.toNat_natCast, Int.toNat_natCast, fold_pg, spec_l4Lay.l3, w64 (n := (i : Int) + 1) (by omega) (by omega), show (i : Int) + 1 = ((i + 1 : Nat) : Int) by omega]
    refine spec_lay_l2 N h d (i + 1) K _ (by omega) (by omega) (hM.set (by omega) _ fun j => ?_)
    unfold pgV
    by_cases g : j = pA c + i
    · subst g
      rw [if_pos (by omega), if_pos rfl, show pA c + i - pA c = i by omega]
    · rw [if_neg g]
      by_cases g2 : pA c ≤ j ∧ j < pA c + i
      · rw [if_pos (by omega), if_pos g2]
      · rw [if_neg (by omega), if_neg g2]
theorem spec_lay_l0 (N : Nat) {c : Cfg} {b : Bk} (h : Fit c b) : ∀ d i K (M : List Int), i + d = c.1.toNat → 2 * d + 4000 < K → Mat (dA c) M (regV b i) → spec_l4Lay.l0 N K (i : Nat) c b M = some ((), layP c b)
  | 0, i, K, M, e, hK, hM => by
    obtain ⟨a1, a2, a3, a4, a5, a6, a7, a8, a9⟩ := plat_at h.1
    obtain ⟨K, rfl⟩ := fuel (show 0 < K by omega)
    obtain rfl : i = c.1.toNat := by omega
    rw [spec_l4Lay.l0, cf (by omega)]
    exact spec_lay_l2 N h c.2.1.toNat 0 K M (by omega) (by omega) (hM.congr fun j _ => by unfold pgV; rw [if_neg (by omega)])
  | d + 1, i, K, M, e, hK, hM => by
    obtain ⟨a1, a2, a3, a4, a5, a6, a7, a8, a9⟩ := plat_at h.1
    have hsl := h.2.1.slots
    have h1 := h.2.2.1
    have hlen := hM.1
    have hs := slotB_iff.1 (h.2.1.slot (i := i) (by omega))
    obtain ⟨K, rfl⟩ : ∃ j, K = j + 1 + 1 := ⟨K - 2, by omega⟩
    rw [spec_l4Lay.l0, ct (by omega), sReg N h.1 (by omega)]
    simp only [Option.bind_some]
    rw [bnd (by omega) (by omega), bnd (by omega) (by omega), bnd (by omega) (by omega), Int.toNat_natCast, Int.toNat_natCast, fold_in, fold_ep, w64 (n := 4 * ep b i) (by omega) (by omega), w64 (n := inn b i + 4 * ep b i) (by omega) (by omega), spec_l4Lay.l1, w64 (n := (i : Int) + 1) (by omega) (by omega), show (i : Int) + 1 = ((i + 1 : Nat) : Int) by omega]
    refine spec_lay_l0 N h d (i + 1) K _ (by omega) (by omega) (hM.set (by omega) _ fun j => ?_)
    unfold regV
    by_cases g : j = 3 + i
    · subst g
      rw [if_pos (by omega), if_pos rfl, show 3 + i - 3 = i by omega]
    · rw [if_neg g]
      by_cases g2 : 3 ≤ j ∧ j < 3 + i
      · rw [if_pos (by omega), if_pos g2]
      · rw [if_neg (by omega), if_neg g2]
theorem spec_l4Lay_eq (N : Nat) (hN : Fuel N) {c : Cfg} {b : Bk} (h : Fit c b) : spec_l4Lay N c b = some ((), layP c b) := by
  obtain ⟨a1, a2, a3, a4, a5, a6, a7, a8, a9⟩ := plat_at h.1
  have hh : house c = 7 + 2 * c.1 + 17 * c.2.1 := rfl
  unfold spec_l4Lay
  rw [spec_l2House_eq N h.1]
  simp only [Option.bind_some]
  rw [ct (by omega), ct (by omega), ct (by omega)]
  have e : (house c).toNat = dA c := rfl
  rw [e]
  exact spec_lay_l0 N h c.1.toNat 0 N _ (by omega) (by unfold Fuel at hN; omega) ((mat_zero _).congr fun j _ => by unfold regV; rw [if_neg (by omega)])
/-- The value of a word. -/
def valW (w : List Int) (j : Nat) : Int := w.getD j 0 % 4294967296
theorem valW_nn (w : List Int) (j : Nat) : 0 ≤ valW w j ∧ valW w j < 4294967296 := by unfold valW; omega
theorem sLoad (N : Nat) (w : List Int) {j : Nat} (hj : j < w.length) : spec_PlatLoad N w (j : Nat) = some (w.getD j 0, ()) := by
  unfold spec_PlatLoad
  rw [cf (by omega), cf (by omega), bnd (by omega) (by omega), Int.toNat_natCast]
theorem sVal (N : Nat) {w : List Int} (hw : Words w) {j : Nat} (hj : j < w.length) : spec_l4Val N w (j : Nat) = some (valW w j, ()) := by
  unfold spec_l4Val
  rw [sLoad N w hj]
  simp only [Option.bind_some]
  rw [spec_CellVal_eq N (hw.at j)]; rfl
/-- Words of a house, with or without its desks. -/
def Laid (w : List Int) : Prop := Head w ∧ ((w.length : Int) = size (cfg (w.getD 0 0)) ∨ (w.length : Int) = house (cfg (w.getD 0 0)))
theorem spec_l4Whole_eq (N : Nat) {w : List Int} (hw : Words w) : ∃ c, spec_l4Whole N w = some ((c, tf (Laid w)), ()) ∧ (Laid w → c = cfg (w.getD 0 0)) := by
  have hx := hw.at 0
  have hx' := hx
  obtain ⟨x1, x2⟩ := hx'
  unfold spec_l4Whole
  by_cases h1 : w.length = 0
  · have n0 : ((w.length : Int) == 0) = true := by rw [beq_iff_eq]; omega
    have hn : ¬ Laid w := fun h => by have := h.1.1; omega
    rw [n0, cond_true, tf_f hn]; exact ⟨_, rfl, fun h => (hn h).elim⟩
  have n0 : ((w.length : Int) == 0) = false := by rw [beq_eq_false_iff_ne]; omega
  simp (disch := omega) only [n0, cond_false, ct, spec_CellVal_eq N hx, Option.bind_some, cfg_text hx, spec_PlatOk_eq]
  by_cases h3 : Plat (cfg (w.getD 0 0))
  rotate_left
  · have hn : ¬ Laid w := fun h => h3 h.1.2.2
    rw [tf_f hn]
    simp only [df h3, Bool.not_false, cond_true]
    exact ⟨_, rfl, fun h => (hn h).elim⟩
  simp only [dt h3, Bool.not_true, cond_false, spec_l2Magic_eq N hx h3, Option.bind_some, spec_l2Size_eq N h3, spec_l2House_eq N h3]
  by_cases h2 : w.getD 0 0 / 4294967296 = 201115
  rotate_left
  · have hn : ¬ Laid w := fun h => h2 h.1.2.1
    have e : w.getD 0 0 ≠ 201115 * 4294967296 + w.getD 0 0 % 4294967296 := by omega
    rw [tf_f hn, bne_iff_ne.2 e, cond_true]
    exact ⟨_, rfl, fun h => (hn h).elim⟩
  have e : 201115 * 4294967296 + w.getD 0 0 % 4294967296 = w.getD 0 0 := by omega
  rw [e, bne_self_eq_false, cond_false, cndn, cndn]
  by_cases e4 : (w.length : Int) = size (cfg (w.getD 0 0))
  · have hy : Laid w := ⟨⟨by omega, h2, h3⟩, .inl e4⟩
    rw [if_pos e4, tf_t hy]; exact ⟨_, rfl, fun _ => rfl⟩
  rw [if_neg e4]
  by_cases e5 : (w.length : Int) = house (cfg (w.getD 0 0))
  · have hy : Laid w := ⟨⟨by omega, h2, h3⟩, .inr e5⟩
    rw [if_pos e5, tf_t hy]; exact ⟨_, rfl, fun _ => rfl⟩
  · have hn : ¬ Laid w := fun h => by rcases h.2 with g | g; exact e4 g; exact e5 g
    rw [if_neg e5, tf_f hn]; exact ⟨_, rfl, fun h => (hn h).elim⟩
theorem chainR_len (v : Nat → Int) (k0 : Nat) (U : Int) : ∀ n a, (chainR v k0 U n a).length ≤ n
  | 0, a => Nat.le_refl _
  | n + 1, a => by
    rw [chainR]
    split
    · rw [List.length_cons]; have := chainR_len v k0 U n (v (k0 + (a - 1).toNat)); omega
    · simp
theorem chainR_mem (v : Nat → Int) (k0 : Nat) (U : Int) : ∀ n a, ∀ x ∈ chainR v k0 U n a, 0 ≤ x ∧ x < U
  | 0, a, x, h => by cases h
  | n + 1, a, x, h => by
    rw [chainR] at h
    split at h
    · rcases List.mem_cons.1 h with e | g
      · rw [e]; omega
      · exact chainR_mem v k0 U n _ x g
    · cases h
theorem sList_loop (N : Nat) {c : Cfg} (hc : Plat c) {w : List Int} (hw : Words w) (hl : dA c ≤ w.length) : ∀ d K (a : Int) (l : List Int), l.length + d = (8 * c.2.1).toNat + 1 → d < K → 0 ≤ a →
    spec_l4List.l0 N K w a c l = some ((), l ++ chainR (valW w) (kA c) (8 * c.2.1) d a)
  | 0, K, a, l, e, hK, ha => by
    obtain ⟨a1, a2, a3, a4, a5, a6, a7, a8, a9⟩ := plat_at hc
    obtain ⟨K, rfl⟩ := fuel hK
    rw [spec_l4List.l0, w64 (n := c.2.1 * 8) (by omega) (by omega), chainR, List.append_nil]
    by_cases c1 : a > 0
    · rw [ct c1]
      by_cases c2 : a ≤ c.2.1 * 8
      · rw [ct c2, cf (by omega)]
      · rw [cf c2]
    · rw [cf c1]
  | d + 1, K, a, l, e, hK, ha => by
    obtain ⟨a1, a2, a3, a4, a5, a6, a7, a8, a9⟩ := plat_at hc
    obtain ⟨K, rfl⟩ := fuel hK
    rw [spec_l4List.l0, w64 (n := c.2.1 * 8) (by omega) (by omega), chainR]
    by_cases c1 : a > 0
    rotate_left
    · rw [cf c1, if_neg (by omega), List.append_nil]
    rw [ct c1]
    by_cases c2 : a ≤ c.2.1 * 8
    rotate_left
    · rw [cf c2, if_neg (by omega), List.append_nil]
    rw [ct c2, ct (by omega), ct (by simp; omega), if_pos (by omega), w64 (n := a - 1) (by omega) (by omega)]
    obtain ⟨u, hu⟩ : ∃ u : Nat, a - 1 = u := ⟨(a - 1).toNat, by omega⟩
    rw [hu, sLink N hc (by omega)]
    simp only [Option.bind_some]
    rw [sVal N hw (by omega)]
    simp only [Option.bind_some]
    rw [sList_loop N hc hw hl d K _ _ (by rw [List.length_append]; simp; omega) (by omega) (valW_nn w _).1, Int.toNat_natCast, List.append_assoc]; rfl
theorem sList (N : Nat) (hN : Fuel N) {c : Cfg} (hc : Plat c) {w : List Int} (hw : Words w) (hl : dA c ≤ w.length) {k : Nat} (hk : k < 4) : spec_l4List N w c (k : Nat) = some ((), chainR (valW w) (kA c) (8 * c.2.1) ((8 * c.2.1).toNat + 1) (valW w (hA c + k))) := by
  obtain ⟨a1, a2, a3, a4, a5, a6, a7, a8, a9⟩ := plat_at hc
  unfold spec_l4List
  rw [sHead N hc hk]
  simp only [Option.bind_some]
  rw [sVal N hw (by omega)]
  simp only [Option.bind_some]
  have := sList_loop N hc hw hl ((8 * c.2.1).toNat + 1) N (valW w (hA c + k)) [] (by simp) (by unfold Fuel at hN; omega) (valW_nn w _).1
  rw [List.nil_append] at this
  exact this
theorem sRead_l3 (N : Nat) (hN : Fuel N) {c : Cfg} (hc : Plat c) {w : List Int} (hw : Words w) (hl : dA c ≤ w.length) (z : BkU) (x : Int) (P O I E : List Int) (K : Nat) :
    spec_l4Read.l3 N (K + 1 + 1 + 1 + 1 + 1) w 0 c z (x, (), ((), (), (), ()), (), (), ()) P [] [] [] [] O I E = outB (x, P, ((readB c (valW w)).2.2.1), O, I, E) := by
  have r0 : spec_l4List N w c 0 = some ((), (readB c (valW w)).2.2.1.1) := sList N hN hc hw hl (k := 0) (by omega)
  have r1 : spec_l4List N w c (0 + 1) = some ((), (readB c (valW w)).2.2.1.2.1) := sList N hN hc hw hl (k := 1) (by omega)
  have r2 : spec_l4List N w c (0 + 1 + 1) = some ((), (readB c (valW w)).2.2.1.2.2.1) := sList N hN hc hw hl (k := 2) (by omega)
  have r3 : spec_l4List N w c (0 + 1 + 1 + 1) = some ((), (readB c (valW w)).2.2.1.2.2.2) := sList N hN hc hw hl (k := 3) (by omega)
  have wr : ∀ x : Int, 0 ≤ x → x ≤ 4 → IntKind.i64.wrap (x + 1) = x + 1 := fun x h1 h2 => w64 (by omega) (by omega)
  rw [spec_l4Read.l3, r0]
  simp (disch := omega) only [ct, cf, wr, Option.bind_some, decide_true, cond_true]
  rw [spec_l4Read.l3, r1]
  simp (disch := omega) only [ct, cf, wr, Option.bind_some, decide_true, cond_true]
  rw [spec_l4Read.l3, r2]
  simp (disch := omega) only [ct, cf, wr, Option.bind_some, decide_true, cond_true]
  rw [spec_l4Read.l3, r3]
  simp (disch := omega) only [ct, cf, wr, Option.bind_some, decide_true, cond_true]
  rw [spec_l4Read.l3]
  simp (disch := omega) only [ct, cf, wr, Option.bind_some, decide_true, cond_true]
theorem sRead_l2 (N : Nat) (hN : Fuel N) {c : Cfg} (hc : Plat c) {w : List Int} (hw : Words w) (hl : dA c ≤ w.length) (z : BkU) (x : Int) (P I E : List Int) : ∀ d i K (O : List Int), i + d = (8 * c.2.1).toNat → d + 10 < K → O.length = (8 * c.2.1).toNat → (∀ j, j < i → O.getD j 0 = valW w (tA c + j)) →
    spec_l4Read.l2 N K w (i : Nat) c z (x, (), ((), (), (), ()), (), (), ()) P O I E = outB (x, P, ((readB c (valW w)).2.2.1), (readB c (valW w)).2.2.2.1, I, E)
  | 0, i, K, O, e, hK, hO, hv => by
    obtain ⟨K, rfl⟩ : ∃ j, K = j + 1 + 1 + 1 + 1 + 1 + 1 := ⟨K - 6, by omega⟩
    have : O = (readB c (valW w)).2.2.2.1 := (map_eq (f := fun i => valW w (tA c + i)) hO fun j hj => (hv j (by omega)).symm).symm
    rw [spec_l4Read.l2, cf (by omega), ← this]
    exact sRead_l3 N hN hc hw hl z x P O I E K
  | d + 1, i, K, O, e, hK, hO, hv => by
    obtain ⟨a1, a2, a3, a4, a5, a6, a7, a8, a9⟩ := plat_at hc
    obtain ⟨K, rfl⟩ := fuel (show 0 < K by omega)
    rw [spec_l4Read.l2, ct (by omega), sTag N hc (by omega)]
    simp only [Option.bind_some]
    rw [sVal N hw (by omega)]
    simp only [Option.bind_some]
    rw [bnd (by omega) (by omega), Int.toNat_natCast, w64 (n := (i : Int) + 1) (by omega) (by omega), show (i : Int) + 1 = ((i + 1 : Nat) : Int) by omega]
    refine sRead_l2 N hN hc hw hl z x P I E d (i + 1) K _ (by omega) (by omega) (by rw [List.length_set]; exact hO) (fun j hj => ?_)
    rw [getD_set _ _ _ _ (by omega)]
    by_cases g : j = i
    · rw [if_pos g, g]
    · rw [if_neg g]; exact hv j (by omega)
theorem sRead_l1 (N : Nat) (hN : Fuel N) {c : Cfg} (hc : Plat c) {w : List Int} (hw : Words w) (hl : dA c ≤ w.length) (z : BkU) (x : Int) (O I E : List Int) (hO : O.length = (8 * c.2.1).toNat) : ∀ d i K (P : List Int), i + d = c.2.1.toNat → d + 100 < K → P.length = c.2.1.toNat → (∀ j, j < i → P.getD j 0 = valW w (pA c + j)) →
    spec_l4Read.l1 N K w (i : Nat) c z (x, (), ((), (), (), ()), (), (), ()) P O I E = outB (x, (readB c (valW w)).2.1, ((readB c (valW w)).2.2.1), (readB c (valW w)).2.2.2.1, I, E)
  | 0, i, K, P, e, hK, hP, hv => by
    obtain ⟨a1, a2, a3, a4, a5, a6, a7, a8, a9⟩ := plat_at hc
    obtain ⟨K, rfl⟩ := fuel (show 0 < K by omega)
    have : P = (readB c (valW w)).2.1 := (map_eq (f := fun i => valW w (pA c + i)) hP fun j hj => (hv j (by omega)).symm).symm
    rw [spec_l4Read.l1, cf (by omega), ← this]
    exact sRead_l2 N hN hc hw hl z x P I E (8 * c.2.1).toNat 0 K O (by omega) (by omega) hO (fun j hj => by omega)
  | d + 1, i, K, P, e, hK, hP, hv => by
    obtain ⟨a1, a2, a3, a4, a5, a6, a7, a8, a9⟩ := plat_at hc
    obtain ⟨K, rfl⟩ := fuel (show 0 < K by omega)
    rw [spec_l4Read.l1, ct (by omega), sPage N hc (by omega)]
    simp only [Option.bind_some]
    rw [sVal N hw (by omega)]
    simp only [Option.bind_some]
    rw [bnd (by omega) (by omega), Int.toNat_natCast, w64 (n := (i : Int) + 1) (by omega) (by omega), show (i : Int) + 1 = ((i + 1 : Nat) : Int) by omega]
    refine sRead_l1 N hN hc hw hl z x O I E hO d (i + 1) K _ (by omega) (by omega) (by rw [List.length_set]; exact hP) (fun j hj => ?_)
    rw [getD_set _ _ _ _ (by omega)]
    by_cases g : j = i
    · rw [if_pos g, g]
    · rw [if_neg g]; exact hv j (by omega)
theorem sRead_l0 (N : Nat) (hN : Fuel N) {c : Cfg} (hc : Plat c) {w : List Int} (hw : Words w) (hl : dA c ≤ w.length) (z : BkU) (x : Int) (P O : List Int) (hP : P.length = c.2.1.toNat) (hO : O.length = (8 * c.2.1).toNat) : ∀ d i K (I E : List Int), i + d = c.1.toNat → d + 200 < K → I.length = c.1.toNat → E.length = c.1.toNat → (∀ j, j < i → I.getD j 0 = valW w (3 + j) % 4 ∧ E.getD j 0 = valW w (3 + j) / 4) →
    spec_l4Read.l0 N K w (i : Nat) c z (x, (), ((), (), (), ()), (), (), ()) P O I E = outB (x, (readB c (valW w)).2)
  | 0, i, K, I, E, e, hK, hI, hE, hv => by
    obtain ⟨a1, a2, a3, a4, a5, a6, a7, a8, a9⟩ := plat_at hc
    obtain ⟨K, rfl⟩ := fuel (show 0 < K by omega)
    have e1 : I = (readB c (valW w)).2.2.2.2.1 := (map_eq (f := fun i => valW w (3 + i) % 4) hI fun j hj => (hv j (by omega)).1.symm).symm
    have e2 : E = (readB c (valW w)).2.2.2.2.2 := (map_eq (f := fun i => valW w (3 + i) / 4) hE fun j hj => (hv j (by omega)).2.symm).symm
    rw [spec_l4Read.l0, cf (by omega)]
    have := sRead_l1 N hN hc hw hl z x O I E hO c.2.1.toNat 0 K P (by omega) (by omega) hP (fun j hj => by omega)
    rw [e1, e2] at this ⊢
    exact this
  | d + 1, i, K, I, E, e, hK, hI, hE, hv => by
    obtain ⟨a1, a2, a3, a4, a5, a6, a7, a8, a9⟩ := plat_at hc
    obtain ⟨K, rfl⟩ := fuel (show 0 < K by omega)
    rw [spec_l4Read.l0, ct (by omega), sReg N hc (by omega)]
    simp only [Option.bind_some]
    rw [sLoad N w (by omega)]
    simp only [Option.bind_some]
    rw [spec_CellRegOf_eq N (hw.at _)]
    simp only [Option.bind_some]
    rw [bnd (by omega) (by omega), bnd (by omega) (by omega), Int.toNat_natCast, w64 (n := (i : Int) + 1) (by omega) (by omega), show (i : Int) + 1 = ((i + 1 : Nat) : Int) by omega]
    refine sRead_l0 N hN hc hw hl z x P O hP hO d (i + 1) K _ _ (by omega) (by omega) (by rw [List.length_set]; exact hI) (by rw [List.length_set]; exact hE) (fun j hj => ?_)
    rw [getD_set _ _ _ _ (by omega), getD_set _ _ _ _ (by omega)]
    by_cases g : j = i
    · rw [if_pos g, if_pos g, g]; exact ⟨rfl, rfl⟩
    · rw [if_neg g, if_neg g]; exact hv j (by omega)
theorem spec_l4Read_eq (N : Nat) (hN : Fuel N) {c : Cfg} (hc : Plat c) {w : List Int} (hw : Words w) (hl : dA c ≤ w.length) : spec_l4Read N w c = outB (readB c (valW w)) := by
  obtain ⟨a1, a2, a3, a4, a5, a6, a7, a8, a9⟩ := plat_at hc
  unfold spec_l4Read
  rw [spec_BookOpen_eq N hc]
  simp only [Option.bind_some]
  unfold openP
  exact sRead_l0 N hN hc hw hl _ c.1 _ _ (by simp) (by simp; omega) c.1.toNat 0 N _ _ (by omega) (by unfold Fuel at hN; omega) (by simp) (by simp) (fun j hj => by omega)
theorem readB_ok {c : Cfg} (hc : Plat c) (w : List Int) : Bi (readB c (valW w)) ∧ Bshort (readB c (valW w)) := by
  obtain ⟨a1, a2, a3, a4, a5, a6, a7, a8, a9⟩ := plat_at hc
  have hm : ∀ (f : Nat → Int) n, (∀ i, 0 ≤ f i ∧ f i < 4294967296) → Ints ((List.range n).map f) := fun f n h x hx => by
    obtain ⟨i, _, e⟩ := List.mem_map.1 hx
    have := h i
    rw [e] at this
    exact ⟨by omega, by omega⟩
  have hs : ∀ (f : Nat → Int) n, n ≤ 100 → Short ((List.range n).map f) := fun f n h => by unfold Short; simp; omega
  have hci : ∀ a, Ints (chainR (valW w) (kA c) (8 * c.2.1) ((8 * c.2.1).toNat + 1) a) := fun a x hx => by have := chainR_mem _ _ _ _ _ x hx; exact ⟨by omega, by omega⟩
  have hcs : ∀ a, Short (chainR (valW w) (kA c) (8 * c.2.1) ((8 * c.2.1).toNat + 1) a) := fun a => by have := chainR_len (valW w) (kA c) (8 * c.2.1) ((8 * c.2.1).toNat + 1) a; unfold Short; omega
  refine ⟨⟨⟨by show -9223372036854775808 ≤ c.1; omega, by show c.1 ≤ 9223372036854775807; omega⟩, hm _ _ fun i => valW_nn w _, fun k => ?_, hm _ _ fun i => valW_nn w _, hm _ _ fun i => by have := valW_nn w (3 + i); omega, hm _ _ fun i => by have := valW_nn w (3 + i); omega⟩, ⟨hs _ _ (by omega), fun k => ?_, hs _ _ (by omega), hs _ _ (by omega), hs _ _ (by omega)⟩⟩
  · match k with
    | 0 => exact hci _
    | 1 => exact hci _
    | 2 => exact hci _
    | _ + 3 => exact hci _
  · match k with
    | 0 => exact hcs _
    | 1 => exact hcs _
    | 2 => exact hcs _
    | _ + 3 => exact hcs _
def agreeB (c : Cfg) (v : Nat → Int) (b : Bk) (j : Nat) : Bool := decide (3 + c.1.toNat ≤ j ∧ j < hA c) || decide (layV c b j = v j)
theorem agree_iff {c : Cfg} (hc : Plat c) (v : Nat → Int) (b : Bk) : Agree c v b ↔ allB (agreeB c v b) (dA c - 3) 3 = true := by
  obtain ⟨a1, a2, a3, a4, a5, a6, a7, a8, a9⟩ := plat_at hc
  rw [allB_iff]
  unfold Agree agreeB
  constructor
  · intro h j h1 h2
    rw [Bool.or_eq_true, decide_eq_true_iff, decide_eq_true_iff]
    by_cases g : 3 + c.1.toNat ≤ j ∧ j < hA c
    · exact .inl g
    · exact .inr (h j (by omega) (by omega))
  · intro h j h1 h2
    have := h j (by omega) (by omega)
    rw [Bool.or_eq_true, decide_eq_true_iff, decide_eq_true_iff] at this
    rcases this with g | g
    · omega
    · exact g
theorem spec_Cens_loop (N : Nat) {c : Cfg} {w : List Int} (hw : Words w) (hl : dA c ≤ w.length) {b : Bk} (h : Fit c b) (z : BkU) : ∀ d i K, i + d = dA c → d < K →
    spec_CensBook.l0 N K w (i : Nat) z c (b.1, (), ((), (), (), ()), (), (), ()) (layP c b) b.2.1 b.2.2.1.1 b.2.2.1.2.1 b.2.2.1.2.2.1 b.2.2.1.2.2.2 b.2.2.2.1 b.2.2.2.2.1 b.2.2.2.2.2 = cond (allB (agreeB c (valW w) b) d i) (outT (b, true)) (outT (bk0, false))
  | 0, i, K, e, hK => by
    obtain ⟨K, rfl⟩ := fuel hK
    have hlp := layP_len c b
    rw [spec_CensBook.l0, cf (by omega)]; rfl
  | d + 1, i, K, e, hK => by
    obtain ⟨K, rfl⟩ := fuel hK
    obtain ⟨a1, a2, a3, a4, a5, a6, a7, a8, a9⟩ := plat_at h.1
    have hlp := layP_len c b
    have hlv := layP_getD h i (by omega)
    have ih := spec_Cens_loop N hw hl h z d (i + 1) K (by omega) (by omega)
    have w1 : IntKind.i64.wrap ((i : Int) + 1) = ((i + 1 : Nat) : Int) := wi (by omega)
    have cmp : ∀ X : Option ((BkU × Bool) × L8), (bif (bif decide (0 ≤ ((i : Nat) : Int)) then decide (((i : Nat) : Int) < ((layP c b).length : Int)) else false) then (bif (bif decide (0 ≤ ((i : Nat) : Int)) then decide (((i : Nat) : Int) < (w.length : Int)) else false) then (spec_CellVal N (w.getD ((i : Nat) : Int).toNat 0)).bind fun u8 => (bif ((layP c b).getD ((i : Nat) : Int).toNat 0 != u8.1) then outT (bk0, false) else X) else none) else none) = if layV c b i = valW w i then X else outT (bk0, false) := fun X => by
      rw [bnd (by omega) (by omega), bnd (by omega) (by omega), Int.toNat_natCast, spec_CellVal_eq N (hw.at i), hlv]
      simp only [Option.bind_some, cndn]
      rfl
    rw [spec_CensBook.l0, ct (by omega), spec_PlatBeat_eq N h.1, if_pos (by omega)]
    simp only [Option.bind_some]
    rw [w1, w64 (n := 3 + c.1 + 0 + c.1) (by omega) (by omega), allB]
    have done : ∀ (X : Option ((BkU × Bool) × L8)), ¬ (3 + c.1.toNat ≤ i ∧ i < hA c) → X = cond (allB (agreeB c (valW w) b) d (i + 1)) (outT (b, true)) (outT (bk0, false)) → (if layV c b i = valW w i then X else outT (bk0, false)) = cond (agreeB c (valW w) b i && allB (agreeB c (valW w) b) d (i + 1)) (outT (b, true)) (outT (bk0, false)) := fun X g hX => by
      unfold agreeB
      rw [df g, Bool.false_or]
      by_cases g2 : layV c b i = valW w i
      · rw [if_pos g2, dt g2, Bool.true_and]; exact hX
      · rw [if_neg g2, df g2]; rfl
    by_cases c1 : (i : Int) ≥ 3 + c.1 + 0
    · rw [ct c1]
      by_cases c2 : (i : Int) < 3 + c.1 + 0 + c.1
      · rw [dt c2, Bool.not_true, cond_false]
        unfold agreeB
        rw [dt (show 3 + c.1.toNat ≤ i ∧ i < hA c by omega), Bool.true_or, Bool.true_and]
        exact ih
      · rw [df c2, Bool.not_false, cond_true]
        exact (cmp _).trans (done _ (by omega) ih)
    · rw [cf c1]
      exact (cmp _).trans (done _ (by omega) ih)
noncomputable def censBook (w : List Int) : Bk × Bool := @ite _ (Laid w) (Classical.propDecidable _) (censP (cfg (w.getD 0 0)) (valW w)) (bk0, false)
theorem laid_len {w : List Int} (h : Laid w) : dA (cfg (w.getD 0 0)) ≤ w.length := by
  have hc := h.1.2.2
  obtain ⟨a1, a2, a3, a4, a5, a6, a7, a8, a9⟩ := plat_at hc
  rcases h.2 with g | g
  · unfold size at g; omega
  · unfold house at g; omega
theorem spec_CensBook_eq (N : Nat) (hN : Fuel N) {w : List Int} (hw : Words w) : spec_CensBook N w = outT (censBook w) := by
  unfold spec_CensBook censBook
  obtain ⟨c, e, hcfg⟩ := spec_l4Whole_eq N hw
  rw [e]
  simp only [Option.bind_some]
  by_cases h : Laid w
  rotate_left
  · rw [tf_f h, if_neg h]; rfl
  have hc := h.1.2.2
  have hl := laid_len h
  rw [tf_t h, if_pos h, hcfg h, Bool.not_true, cond_false]
  generalize cfg (w.getD 0 0) = c at hc hl
  obtain ⟨a1, a2, a3, a4, a5, a6, a7, a8, a9⟩ := plat_at hc
  obtain ⟨r1, r2⟩ := readB_ok hc w
  rw [spec_l4Read_eq N hN hc hw hl]
  simp only [Option.bind_some, spec_BookOk_eq N hN _ r1 r2]
  unfold censP
  by_cases hb : BookP (readB c (valW w))
  rotate_left
  · rw [bookOk, tf_f hb, if_neg (fun g => hb g.1)]; rfl
  have hF := readB_fit hc hb
  rw [bookOk, tf_t hb, Bool.not_true, cond_false, spec_l4Lay_eq N hN hF, show (0 : Int) = ((0 : Nat) : Int) from rfl, sReg N hc (by omega)]
  simp only [Option.bind_some]
  have := spec_Cens_loop N hw hl hF (0, (), ((), (), (), ()), (), (), ()) (dA c - 3) 3 N (by omega) (by unfold Fuel at hN; omega)
  refine this.trans ?_
  have hag := agree_iff hc (valW w) (readB c (valW w))
  by_cases g : Agree c (valW w) (readB c (valW w))
  · rw [if_pos ⟨hb, g⟩, hag.1 g]; rfl
  · rw [if_neg (fun q => g q.2)]
    cases hq : allB (agreeB c (valW w) (readB c (valW w))) (dA c - 3) 3
    · rfl
    · exact (g (hag.2 hq)).elim
noncomputable abbrev bk8 (N K : Nat) (k a k2 : Int) (c : Cfg) (z : Int) (v : List Int) (x : Int) (P : List Int) (h : H4) (O I E : List Int) := impl_book.l8 N K k a k2 c (z, (), ((), (), (), ()), (), (), ()) v (x, (), ((), (), (), ()), (), (), ()) P h.1 h.2.1 h.2.2.1 h.2.2.2 O I E
noncomputable abbrev bk12 (N K : Nat) (k a k2 : Int) (c : Cfg) (z : Int) (v : List Int) (x : Int) (P : List Int) (h : H4) (O I E : List Int) := impl_book.l12 N K k a k2 c (z, (), ((), (), (), ()), (), (), ()) v (x, (), ((), (), (), ()), (), (), ()) P h.1 h.2.1 h.2.2.1 h.2.2.2 O I E
noncomputable abbrev bk3 (N K : Nat) (k : Int) (c : Cfg) (z : Int) (v : List Int) (x : Int) (P : List Int) (h : H4) (O I E : List Int) := impl_book.l3 N K k c (z, (), ((), (), (), ()), (), (), ()) v (x, (), ((), (), (), ()), (), (), ()) P h.1 h.2.1 h.2.2.1 h.2.2.2 O I E
theorem impl_units_eq (N : Nat) {c : Cfg} (h : Plat c) : impl_PlatCfg_units N c = some (8 * c.2.1, ()) := by
  unfold Plat at h
  unfold impl_PlatCfg_units
  rw [w64 (by omega) (by omega)]
theorem heads_hset (h : H4) {k : Nat} (hk : k < 4) (l : List Int) : heads (hset h k l) k = l := hd_hset _ _ _ _ hk _
theorem bk8_step (N : Nat) {c : Cfg} (hc : Plat c) (z : Int) (v : List Int) (x : Int) (P O I E : List Int) {k : Nat} (hk : k < 4) (K : Nat) (a : Int) (h : H4) (h0 : 0 < a) (h1 : a ≤ 8 * c.2.1) (hl : ((heads h k).length : Int) < 8 * c.2.1) :
    bk8 N (K + 1) k a k c z v x P h O I E = bk12 N K k a k c z v x P (hset h k (heads h k ++ [a - 1])) O I E := by
  obtain ⟨a1, a2, a3, a4, a5, a6, a7, a8, a9⟩ := plat_at hc
  have w := w64 (n := a - 1) (by omega) (by omega)
  have hs : ∀ l : List Int, l.length + [a - 1].length = l.length + 1 := fun l => rfl
  unfold bk8 bk12
  rw [impl_book.l8, cndn, if_neg (by omega), impl_units_eq N hc]
  simp only [Option.bind_some, cndb]
  rw [cf (by omega), w]
  refine hd_cases hk (fun g => ?_) (fun g => ?_) (fun g => ?_) (fun g => ?_) <;> subst g
  · have q : heads h 0 = h.1 := rfl
    rw [q] at hl ⊢
    rw [ct (by omega), if_neg (by omega), ct (by omega), ct (by rw [hs]; omega), ct (by omega)]; rfl
  · have q : heads h 1 = h.2.1 := rfl
    rw [q] at hl ⊢
    rw [cf (by omega), ct (by omega), if_neg (by omega), cf (by omega), ct (by omega), ct (by rw [hs]; omega), cf (by omega), ct (by omega)]; rfl
  · have q : heads h 2 = h.2.2.1 := rfl
    rw [q] at hl ⊢
    rw [cf (by omega), cf (by omega), ct (by omega), if_neg (by omega), cf (by omega), cf (by omega), ct (by omega), ct (by rw [hs]; omega), cf (by omega), cf (by omega), ct (by omega)]; rfl
  · have q : heads h 3 = h.2.2.2 := rfl
    rw [q] at hl ⊢
    rw [cf (by omega), cf (by omega), cf (by omega), ct (by omega), if_neg (by omega), cf (by omega), cf (by omega), cf (by omega), ct (by omega), ct (by rw [hs]; omega), cf (by omega), cf (by omega), cf (by omega), ct (by omega)]; rfl
theorem bk8_fail (N : Nat) {c : Cfg} (hc : Plat c) (z : Int) (v : List Int) (x : Int) (P O I E : List Int) {k : Nat} (hk : k < 4) (K : Nat) (a : Int) (h : H4) (h0 : 0 < a) (h1 : a > 8 * c.2.1 ∨ ((heads h k).length : Int) = 8 * c.2.1) :
    bk8 N (K + 1 + 1) k a k c z v x P h O I E = outT (bk0, false) := by
  obtain ⟨a1, a2, a3, a4, a5, a6, a7, a8, a9⟩ := plat_at hc
  unfold bk8
  rw [impl_book.l8, cndn, if_neg (by omega), impl_units_eq N hc]
  simp only [Option.bind_some, cndb]
  by_cases c1 : a > 8 * c.2.1
  · rw [ct c1, impl_book.l11]; rfl
  rw [cf c1]
  have hl : ((heads h k).length : Int) = 8 * c.2.1 := by omega
  refine hd_cases hk (fun g => ?_) (fun g => ?_) (fun g => ?_) (fun g => ?_) <;> subst g
  · have q : heads h 0 = h.1 := rfl
    rw [q] at hl
    rw [ct (by omega), if_pos hl, impl_book.l11]; rfl
  · have q : heads h 1 = h.2.1 := rfl
    rw [q] at hl
    rw [cf (by omega), ct (by omega), if_pos hl, impl_book.l11]; rfl
  · have q : heads h 2 = h.2.2.1 := rfl
    rw [q] at hl
    rw [cf (by omega), cf (by omega), ct (by omega), if_pos hl, impl_book.l11]; rfl
  · have q : heads h 3 = h.2.2.2 := rfl
    rw [q] at hl
    rw [cf (by omega), cf (by omega), cf (by omega), ct (by omega), if_pos hl, impl_book.l11]; rfl
/-- The values of a list of values. -/
abbrev vAt (v : List Int) (j : Nat) : Int := v.getD j 0
theorem bk8_loop (N : Nat) {c : Cfg} (hc : Plat c) (z : Int) (v : List Int) (hv : v.length = dA c) (hnn : ∀ j, 0 ≤ vAt v j ∧ vAt v j < 4294967296) (x : Int) (P O I E : List Int) {k : Nat} (hk : k < 4) : ∀ m K (a : Int) (h : H4), (heads h k).length + m = (8 * c.2.1).toNat → 2 * m + 10 < K → 0 ≤ a → a < 4294967296 →
    ∃ K', K ≤ K' + 2 * m + 2 ∧ bk8 N K k a k c z v x P h O I E = cond (chainB (vAt v) (kA c) (8 * c.2.1) m a) (bk3 N K' ((k + 1 : Nat) : Int) c z v x P (hset h k (heads h k ++ chainR (vAt v) (kA c) (8 * c.2.1) (m + 1) a)) O I E) (outT (bk0, false))
  | m, K, a, h, e, hK, ha, ha2 => by
    obtain ⟨a1, a2, a3, a4, a5, a6, a7, a8, a9⟩ := plat_at hc
    have hset_id : hset h k (heads h k ++ []) = h := by
      rw [List.append_nil]
      refine hd_cases hk (fun g => ?_) (fun g => ?_) (fun g => ?_) (fun g => ?_) <;> subst g <;> rfl
    by_cases c0 : a = 0
    · refine ⟨K - 2, by omega, ?_⟩
      obtain ⟨K, rfl⟩ : ∃ j, K = j + 1 + 1 := ⟨K - 2, by omega⟩
      unfold chainB
      rw [if_pos c0, chainR, if_neg (by omega), hset_id, cond_true, show K + 1 + 1 - 2 = K by omega]
      unfold bk8 bk3
      rw [impl_book.l8, cndn, if_pos c0, impl_book.l13, w64 (n := (k : Int) + 1) (by omega) (by omega), show (k : Int) + 1 = ((k + 1 : Nat) : Int) by omega]
    by_cases c1 : a > 8 * c.2.1
    · refine ⟨K, by omega, ?_⟩
      obtain ⟨K, rfl⟩ : ∃ j, K = j + 1 + 1 := ⟨K - 2, by omega⟩
      unfold chainB
      rw [if_neg c0, if_pos c1, cond_false]
      exact bk8_fail N hc z v x P O I E hk K a h (by omega) (.inl c1)
    match m, e, hK with
    | 0, e, hK =>
      refine ⟨K, by omega, ?_⟩
      obtain ⟨K, rfl⟩ : ∃ j, K = j + 1 + 1 := ⟨K - 2, by omega⟩
      unfold chainB
      rw [if_neg c0, if_neg c1]
      show _ = cond false _ _
      rw [cond_false]
      exact bk8_fail N hc z v x P O I E hk K a h (by omega) (.inr (by omega))
    | m + 1, e, hK =>
      obtain ⟨K, rfl⟩ : ∃ j, K = j + 1 + 1 := ⟨K - 2, by omega⟩
      have hstep := bk8_step N hc z v x P O I E hk (K + 1) a h (by omega) (by omega) (by omega)
      have hh := heads_hset h hk (heads h k ++ [a - 1])
      obtain ⟨K', g1, g2⟩ := bk8_loop N hc z v hv hnn x P O I E hk m K (vAt v (kA c + (a - 1).toNat)) (hset h k (heads h k ++ [a - 1])) (by rw [hh, List.length_append]; simp; omega) (by omega) (hnn _).1 (hnn _).2
      refine ⟨K', by omega, ?_⟩
      rw [hstep]
      have h12 : bk12 N (K + 1) k a k c z v x P (hset h k (heads h k ++ [a - 1])) O I E = bk8 N K k (vAt v (kA c + (a - 1).toNat)) k c z v x P (hset h k (heads h k ++ [a - 1])) O I E := by
        unfold bk12
        rw [impl_book.l12, impl_linkAt_eq N hc]
        simp only [Option.bind_some]
        rw [w64 (n := 7 + 2 * c.1 + 9 * c.2.1 + a) (by omega) (by omega), w64 (n := 7 + 2 * c.1 + 9 * c.2.1 + a - 1) (by omega) (by omega), bnd (by omega) (by omega), show (7 + 2 * c.1 + 9 * c.2.1 + a - 1).toNat = kA c + (a - 1).toNat by omega]
      rw [h12, g2, hh, hset_hset h hk]
      have e1 : chainB (vAt v) (kA c) (8 * c.2.1) (m + 1) a = chainB (vAt v) (kA c) (8 * c.2.1) m (vAt v (kA c + (a - 1).toNat)) := by
        rw [chainB, if_neg c0, if_neg c1]
      have e2 : chainR (vAt v) (kA c) (8 * c.2.1) (m + 1 + 1) a = (a - 1) :: chainR (vAt v) (kA c) (8 * c.2.1) (m + 1) (vAt v (kA c + (a - 1).toNat)) := by
        rw [chainR, if_pos (by omega)]
      rw [e1, e2, List.append_assoc]; rfl
theorem bk3_step (N : Nat) {c : Cfg} (hc : Plat c) (z : Int) (v : List Int) (hv : v.length = dA c) (hnn : ∀ j, 0 ≤ vAt v j ∧ vAt v j < 4294967296) (x : Int) (P O I E : List Int) {k : Nat} (hk : k < 4) (K : Nat) (h : H4) (he : heads h k = []) (hK : 200 < K) :
    ∃ K', K ≤ K' + 150 ∧ bk3 N K k c z v x P h O I E = cond (chainB (vAt v) (kA c) (8 * c.2.1) (8 * c.2.1).toNat (vAt v (hA c + k))) (bk3 N K' ((k + 1 : Nat) : Int) c z v x P (hset h k (chainR (vAt v) (kA c) (8 * c.2.1) ((8 * c.2.1).toNat + 1) (vAt v (hA c + k)))) O I E) (outT (bk0, false)) := by
  obtain ⟨a1, a2, a3, a4, a5, a6, a7, a8, a9⟩ := plat_at hc
  obtain ⟨K, rfl⟩ : ∃ j, K = j + 1 + 1 := ⟨K - 2, by omega⟩
  have h0 : (heads h k).length = 0 := by rw [he]; rfl
  obtain ⟨K', g1, g2⟩ := bk8_loop N hc z v hv hnn x P O I E hk (8 * c.2.1).toNat K (vAt v (hA c + k)) h (by omega) (by omega) (hnn _).1 (hnn _).2
  refine ⟨K', by omega, ?_⟩
  rw [he, List.nil_append] at g2
  unfold bk3
  rw [impl_book.l3, ct (by omega), impl_book.l5, impl_headAt_eq N hc]
  simp only [Option.bind_some]
  rw [w64 (n := 3 + 2 * c.1 + (k : Int)) (by omega) (by omega), bnd (by omega) (by omega), show (3 + 2 * c.1 + (k : Int)).toNat = hA c + k by omega]
  exact g2
theorem impl_isLaid_eq (N : Nat) {c : Cfg} (hc : Plat c) (j : Nat) : impl_PlatCfg_isLaid N c (j : Nat) = some (decide (3 ≤ j ∧ j < 3 + c.1.toNat ∨ hA c ≤ j ∧ j < dA c), ()) := by
  obtain ⟨a1, a2, a3, a4, a5, a6, a7, a8, a9⟩ := plat_at hc
  have hh : house c = 7 + 2 * c.1 + 17 * c.2.1 := rfl
  unfold impl_PlatCfg_isLaid
  rw [impl_regAt_eq, impl_beatAt_eq N hc, impl_headAt_eq N hc, impl_deskAt_eq N hc]
  simp only [Option.bind_some]
  rw [w64 (n := 3 + c.1 - 1) (by omega) (by omega), impl_within_eq, w64 (n := house c - 1) (by omega) (by omega), impl_within_eq]
  simp only [Option.bind_some]
  by_cases g : 3 ≤ (j : Int) ∧ (j : Int) ≤ 3 + c.1 - 1
  · rw [dt g, cond_true, dt (by omega)]
  · rw [df g, cond_false]
    congr 2
    exact decide_eq_decide.2 (by omega)
theorem impl_cmp_loop (N : Nat) {c : Cfg} {b : Bk} (h : Fit c b) (z : Int) (v : List Int) (hv : v.length = dA c) : ∀ d i K, i + d = dA c → 3 * d + 3 < K →
    impl_book.l7 N K (dA c : Int) (i : Nat) c (z, (), ((), (), (), ()), (), (), ()) v (b.1, (), ((), (), (), ()), (), (), ()) (layP c b) b.2.1 b.2.2.1.1 b.2.2.1.2.1 b.2.2.1.2.2.1 b.2.2.1.2.2.2 b.2.2.2.1 b.2.2.2.2.1 b.2.2.2.2.2 =
      cond (allB (fun j => decide (3 ≤ j ∧ j < 3 + c.1.toNat ∨ hA c ≤ j → layV c b j = vAt v j)) d i) (outT (b, true)) (outT (bk0, false))
  | 0, i, K, e, hK => by
    obtain ⟨K, rfl⟩ : ∃ j, K = j + 1 + 1 := ⟨K - 2, by omega⟩
    rw [impl_book.l7, cf (by omega), impl_book.l10]; rfl
  | d + 1, i, K, e, hK => by
    obtain ⟨K, rfl⟩ : ∃ j, K = j + 1 + 1 + 1 := ⟨K - 3, by omega⟩
    obtain ⟨a1, a2, a3, a4, a5, a6, a7, a8, a9⟩ := plat_at h.1
    have hlp := layP_len c b
    have hlv := layP_getD h i (by omega)
    have ih := impl_cmp_loop N h z v hv d (i + 1) K (by omega) (by omega)
    have next : impl_book.l15 N (K + 1) (dA c : Int) (i : Nat) c (z, (), ((), (), (), ()), (), (), ()) v (b.1, (), ((), (), (), ()), (), (), ()) (layP c b) b.2.1 b.2.2.1.1 b.2.2.1.2.1 b.2.2.1.2.2.1 b.2.2.1.2.2.2 b.2.2.2.1 b.2.2.2.2.1 b.2.2.2.2.2 = cond (allB (fun j => decide (3 ≤ j ∧ j < 3 + c.1.toNat ∨ hA c ≤ j → layV c b j = vAt v j)) d (i + 1)) (outT (b, true)) (outT (bk0, false)) := by
      rw [impl_book.l15, w64 (n := (i : Int) + 1) (by omega) (by omega), show (i : Int) + 1 = ((i + 1 : Nat) : Int) by omega]
      exact ih
    rw [impl_book.l7, ct (by omega), impl_book.l9, bnd (by omega) (by omega), impl_isLaid_eq N h.1]
    simp only [Option.bind_some]
    rw [allB]
    by_cases g : 3 ≤ i ∧ i < 3 + c.1.toNat ∨ hA c ≤ i
    · rw [dt (show 3 ≤ i ∧ i < 3 + c.1.toNat ∨ hA c ≤ i ∧ i < dA c by omega), cond_true, bnd (by omega) (by omega), Int.toNat_natCast, hlv, cndn]
      by_cases g2 : layV c b i = v.getD i 0
      · rw [if_pos g2, dt (fun _ => g2), Bool.true_and]; exact next
      · rw [if_neg g2, df (fun q => g2 (q g)), Bool.false_and, impl_book.l14]; rfl
    · rw [df (show ¬ (3 ≤ i ∧ i < 3 + c.1.toNat ∨ hA c ≤ i ∧ i < dA c) by omega), cond_false, dt (fun q => (g q).elim), Bool.true_and]; exact next
theorem impl_vals_loop (N : Nat) (l : List Int) (hw : Words l) (hl : l.length ≤ 100000) : ∀ d i K (M : List Int), i + d = l.length → d < K → M = (l.take i).map (· % 4294967296) → impl_vals.l0 N K l (l.length : Int) (i : Nat) M = some ((), l.map (· % 4294967296))
  | 0, i, K, M, e, hK, hM => by
    obtain ⟨K, rfl⟩ := fuel hK
    rw [impl_vals.l0, cf (by omega), hM, List.take_of_length_le (by omega)]
  | d + 1, i, K, M, e, hK, hM => by
    obtain ⟨K, rfl⟩ := fuel hK
    have hml : M.length ≤ 100000 := by rw [hM, List.length_map, List.length_take]; omega
    rw [impl_vals.l0, ct (by omega), bnd (by omega) (by omega), Int.toNat_natCast, impl_CellVal_eq N (hw.at i)]
    simp only [Option.bind_some]
    rw [ct (by simp; omega), w64 (n := (i : Int) + 1) (by omega) (by omega), show (i : Int) + 1 = ((i + 1 : Nat) : Int) by omega]
    refine impl_vals_loop N l hw hl d (i + 1) K _ (by omega) (by omega) ?_
    rw [hM, getD_lt (by omega), List.take_add_one, List.getElem?_eq_getElem (by omega), List.map_append]
    rfl
theorem impl_BookOpen_eq (N : Nat) {c : Cfg} (h : Plat c) : impl_BookOpen N c = some (((openP c).1, (), ((), (), (), ()), (), (), ()), ((openP c).2.1, (openP c).2.2.2.1, (openP c).2.2.2.2.1, (openP c).2.2.2.2.2)) := by
  unfold impl_BookOpen
  rw [impl_PlatOk_eq, dt h]
  unfold Plat at h
  simp only [Option.bind_some, Bool.not_true, cond_false]
  rw [w64 (n := 8 * c.2.1) (by omega) (by omega)]
  repeat rw [ct (by omega)]
  rw [show 8 * c.2.1 = c.2.1 * 8 by omega]
  rfl
theorem chainR_congr {f g : Nat → Int} {k0 : Nat} {U : Int} {n : Nat} (h : ∀ j, j < n → f j = g j) (hU : (k0 : Int) + U ≤ n) : ∀ m a, chainR f k0 U m a = chainR g k0 U m a
  | 0, a => rfl
  | m + 1, a => by
    rw [chainR, chainR]
    by_cases c : 0 < a ∧ a ≤ U
    · rw [if_pos c, if_pos c, h _ (by omega), chainR_congr h hU m]
    · rw [if_neg c, if_neg c]
theorem map_range_congr {f g : Nat → Int} {n : Nat} (h : ∀ i, i < n → f i = g i) : (List.range n).map f = (List.range n).map g :=
  List.map_congr_left fun i hi => h i (List.mem_range.1 hi)
theorem readB_congr {c : Cfg} (hc : Plat c) {f g : Nat → Int} (h : ∀ j, j < dA c → f j = g j) : readB c f = readB c g := by
  obtain ⟨a1, a2, a3, a4, a5, a6, a7, a8, a9⟩ := plat_at hc
  have hch : ∀ m a, chainR f (kA c) (8 * c.2.1) m a = chainR g (kA c) (8 * c.2.1) m a := chainR_congr h (by omega)
  unfold readB
  rw [map_range_congr (f := fun i => f (pA c + i)) (g := fun i => g (pA c + i)) (fun i hi => h _ (by omega)),
    map_range_congr (f := fun i => f (tA c + i)) (g := fun i => g (tA c + i)) (fun i hi => h _ (by omega)),
    map_range_congr (f := fun i => f (3 + i) % 4) (g := fun i => g (3 + i) % 4) (fun i hi => by rw [h _ (by omega)]),
    map_range_congr (f := fun i => f (3 + i) / 4) (g := fun i => g (3 + i) / 4) (fun i hi => by rw [h _ (by omega)]),
    hch, hch, hch, hch, h (hA c) (by omega), h (hA c + 1) (by omega), h (hA c + 2) (by omega), h (hA c + 3) (by omega)]
theorem censP_congr {c : Cfg} (hc : Plat c) {f g : Nat → Int} (h : ∀ j, j < dA c → f j = g j) : censP c f = censP c g := by
  have e := readB_congr hc h
  have ea : Agree c f (readB c g) ↔ Agree c g (readB c g) := by
    unfold Agree
    constructor
    · intro q j hj g2; rw [← h j hj]; exact q j hj g2
    · intro q j hj g2; rw [h j hj]; exact q j hj g2
  unfold censP
  rw [e]
  by_cases c1 : BookP (readB c g) ∧ Agree c g (readB c g)
  · rw [if_pos c1, if_pos ⟨c1.1, ea.2 c1.2⟩]
  · rw [if_neg c1, if_neg (fun q => c1 ⟨q.1, ea.1 q.2⟩)]
theorem censP_chain {c : Cfg} (hc : Plat c) {v : Nat → Int} (h : BookP (readB c v) ∧ Agree c v (readB c v)) {k : Nat} (hk : k < 4) : chainB v (kA c) (8 * c.2.1) (8 * c.2.1).toNat (v (hA c + k)) = true := by
  have hF := readB_fit hc h.1
  have hnu := fit_nu hF
  exact (agree_chain hF h.2 hk (8 * c.2.1).toNat (by omega)).2
theorem censP_fail {c : Cfg} (hc : Plat c) {v : Nat → Int} {k : Nat} (hk : k < 4) (hf : chainB v (kA c) (8 * c.2.1) (8 * c.2.1).toNat (v (hA c + k)) = false) : censP c v = (bk0, false) := by
  unfold censP
  rw [if_neg]
  intro g
  rw [censP_chain hc g hk] at hf
  cases hf
theorem bk_l3 (N : Nat) (hN : Fuel N) {c : Cfg} (hc : Plat c) (z : Int) (v : List Int) (hv : v.length = dA c) (hnn : ∀ j, 0 ≤ vAt v j ∧ vAt v j < 4294967296) (hbi : Bi (readB c (vAt v))) (hbs : Bshort (readB c (vAt v))) (K : Nat) (hK : 3000 < K) :
    bk3 N K 0 c z v c.1 (readB c (vAt v)).2.1 ([], [], [], []) (readB c (vAt v)).2.2.2.1 (readB c (vAt v)).2.2.2.2.1 (readB c (vAt v)).2.2.2.2.2 = outT (censP c (vAt v)) := by
  obtain ⟨a1, a2, a3, a4, a5, a6, a7, a8, a9⟩ := plat_at hc
  have step := fun (k K : Nat) (hk : k < 4) (h : H4) (he : heads h k = []) (hK : 200 < K) => bk3_step N hc z v hv hnn c.1 (readB c (vAt v)).2.1 (readB c (vAt v)).2.2.2.1 (readB c (vAt v)).2.2.2.2.1 (readB c (vAt v)).2.2.2.2.2 hk K h he hK
  obtain ⟨K1, g1, e1⟩ := step 0 K (by omega) ([], [], [], []) rfl (by omega)
  have e1' : bk3 N K 0 c z v c.1 (readB c (vAt v)).2.1 ([], [], [], []) (readB c (vAt v)).2.2.2.1 (readB c (vAt v)).2.2.2.2.1 (readB c (vAt v)).2.2.2.2.2 = _ := e1
  rw [e1']
  cases h0 : chainB (vAt v) (kA c) (8 * c.2.1) (8 * c.2.1).toNat (vAt v (hA c + 0))
  · rw [cond_false, censP_fail hc (k := 0) (by omega) h0]
  rw [cond_true]
  obtain ⟨K2, g2, e2⟩ := step 1 K1 (by omega) (hset ([], [], [], []) 0 (chainR (vAt v) (kA c) (8 * c.2.1) ((8 * c.2.1).toNat + 1) (vAt v (hA c + 0)))) rfl (by omega)
  rw [e2]
  cases h1 : chainB (vAt v) (kA c) (8 * c.2.1) (8 * c.2.1).toNat (vAt v (hA c + 1))
  · rw [cond_false, censP_fail hc (k := 1) (by omega) h1]
  rw [cond_true]
  obtain ⟨K3, g3, e3⟩ := step 2 K2 (by omega) (hset (hset ([], [], [], []) 0 (chainR (vAt v) (kA c) (8 * c.2.1) ((8 * c.2.1).toNat + 1) (vAt v (hA c + 0)))) 1 (chainR (vAt v) (kA c) (8 * c.2.1) ((8 * c.2.1).toNat + 1) (vAt v (hA c + 1)))) rfl (by omega)
  rw [e3]
  cases h2 : chainB (vAt v) (kA c) (8 * c.2.1) (8 * c.2.1).toNat (vAt v (hA c + 2))
  · rw [cond_false, censP_fail hc (k := 2) (by omega) h2]
  rw [cond_true]
  obtain ⟨K4, g4, e4⟩ := step 3 K3 (by omega) (hset (hset (hset ([], [], [], []) 0 (chainR (vAt v) (kA c) (8 * c.2.1) ((8 * c.2.1).toNat + 1) (vAt v (hA c + 0)))) 1 (chainR (vAt v) (kA c) (8 * c.2.1) ((8 * c.2.1).toNat + 1) (vAt v (hA c + 1)))) 2 (chainR (vAt v) (kA c) (8 * c.2.1) ((8 * c.2.1).toNat + 1) (vAt v (hA c + 2)))) rfl (by omega)
  rw [e4]
  cases h3 : chainB (vAt v) (kA c) (8 * c.2.1) (8 * c.2.1).toNat (vAt v (hA c + 3))
  · rw [cond_false, censP_fail hc (k := 3) (by omega) h3]
  rw [cond_true]
  obtain ⟨K4, rfl⟩ : ∃ j, K4 = j + 1 + 1 := ⟨K4 - 2, by omega⟩
  have hok : impl_BookOk N (readB c (vAt v)) = some (bookOk (readB c (vAt v)), ()) := impl_BookOk_eq N hN _ hbi hbs
  have hok' : impl_BookOk N (c.1, (readB c (vAt v)).2.1, ((readB c (vAt v)).2.2.1.1, (readB c (vAt v)).2.2.1.2.1, (readB c (vAt v)).2.2.1.2.2.1, (readB c (vAt v)).2.2.1.2.2.2), (readB c (vAt v)).2.2.2.1, (readB c (vAt v)).2.2.2.2.1, (readB c (vAt v)).2.2.2.2.2) = some (bookOk (readB c (vAt v)), ()) := hok
  show impl_book.l3 N (K4 + 1 + 1) 4 c (z, (), ((), (), (), ()), (), (), ()) v (c.1, (), ((), (), (), ()), (), (), ()) (readB c (vAt v)).2.1 (readB c (vAt v)).2.2.1.1 (readB c (vAt v)).2.2.1.2.1 (readB c (vAt v)).2.2.1.2.2.1 (readB c (vAt v)).2.2.1.2.2.2 (readB c (vAt v)).2.2.2.1 (readB c (vAt v)).2.2.2.2.1 (readB c (vAt v)).2.2.2.2.2 = _
  rw [impl_book.l3, cf (by omega), hok']
  simp only [Option.bind_some]
  unfold censP
  by_cases hb : BookP (readB c (vAt v))
  rotate_left
  · rw [bookOk, tf_f hb, Bool.not_false, cond_true, impl_book.l6, if_neg (fun g => hb g.1)]; rfl
  have hF := readB_fit hc hb
  have hlay : impl_lay N c (c.1, (readB c (vAt v)).2.1, ((readB c (vAt v)).2.2.1.1, (readB c (vAt v)).2.2.1.2.1, (readB c (vAt v)).2.2.1.2.2.1, (readB c (vAt v)).2.2.1.2.2.2), (readB c (vAt v)).2.2.2.1, (readB c (vAt v)).2.2.2.2.1, (readB c (vAt v)).2.2.2.2.2) = some ((), layP c (readB c (vAt v))) := impl_lay_eq N hN hF
  rw [bookOk, tf_t hb, Bool.not_true, cond_false, hlay]
  simp only [Option.bind_some]
  rw [layP_len]
  have := impl_cmp_loop N hF z v hv (dA c) 0 (K4 + 1) (by omega) (by omega)
  refine this.trans ?_
  have hag : Agree c (vAt v) (readB c (vAt v)) ↔ allB (fun j => decide (3 ≤ j ∧ j < 3 + c.1.toNat ∨ hA c ≤ j → layV c (readB c (vAt v)) j = vAt v j)) (dA c) 0 = true := by
    rw [allB_iff]
    unfold Agree
    constructor
    · intro h j _ h2; exact decide_eq_true (fun q => h j (by omega) q)
    · intro h j h1 h2; exact of_decide_eq_true (h j (by omega) (by omega)) h2
  by_cases g : Agree c (vAt v) (readB c (vAt v))
  · rw [if_pos ⟨hb, g⟩, hag.1 g]; rfl
  · rw [if_neg (fun q => g q.2)]
    cases hq : allB (fun j => decide (3 ≤ j ∧ j < 3 + c.1.toNat ∨ hA c ≤ j → layV c (readB c (vAt v)) j = vAt v j)) (dA c) 0
    · rfl
    · exact (g (hag.2 hq)).elim
theorem bk_l1 (N : Nat) (hN : Fuel N) {c : Cfg} (hc : Plat c) (z : Int) (v : List Int) (hv : v.length = dA c) (hnn : ∀ j, 0 ≤ vAt v j ∧ vAt v j < 4294967296) (hbi : Bi (readB c (vAt v))) (hbs : Bshort (readB c (vAt v))) : ∀ d i K (I E : List Int), i + d = c.1.toNat → 3 * d + 4000 < K → I.length = c.1.toNat → E.length = c.1.toNat → (∀ j, j < i → I.getD j 0 = vAt v (3 + j) % 4 ∧ E.getD j 0 = vAt v (3 + j) / 4) →
    impl_book.l1 N K c.1 (i : Nat) c (z, (), ((), (), (), ()), (), (), ()) v (c.1, (), ((), (), (), ()), (), (), ()) (readB c (vAt v)).2.1 (readB c (vAt v)).2.2.2.1 I E = outT (censP c (vAt v))
  | 0, i, K, I, E, e, hK, hI, hE, hx => by
    obtain ⟨a1, a2, a3, a4, a5, a6, a7, a8, a9⟩ := plat_at hc
    obtain ⟨K, rfl⟩ := fuel (show 0 < K by omega)
    have e1 : I = (readB c (vAt v)).2.2.2.2.1 := (map_eq (f := fun i => vAt v (3 + i) % 4) hI fun j hj => (hx j (by omega)).1.symm).symm
    have e2 : E = (readB c (vAt v)).2.2.2.2.2 := (map_eq (f := fun i => vAt v (3 + i) / 4) hE fun j hj => (hx j (by omega)).2.symm).symm
    rw [impl_book.l1, cf (by omega), e1, e2]
    exact bk_l3 N hN hc z v hv hnn hbi hbs K (by omega)
  | d + 1, i, K, I, E, e, hK, hI, hE, hx => by
    obtain ⟨a1, a2, a3, a4, a5, a6, a7, a8, a9⟩ := plat_at hc
    obtain ⟨K, rfl⟩ : ∃ j, K = j + 1 + 1 + 1 := ⟨K - 3, by omega⟩
    have hn : 0 ≤ v.getD (3 + i) 0 ∧ v.getD (3 + i) 0 < 4294967296 := hnn (3 + i)
    have h3 : (3 + (i : Int)).toNat = 3 + i := by omega
    rw [impl_book.l1, ct (by omega), impl_book.l2, impl_regAt_eq]
    simp only [Option.bind_some]
    rw [w64 (n := 3 + (i : Int)) (by omega) (by omega), bnd (by omega) (by omega), bnd (by omega) (by omega), bnd (by omega) (by omega), bnd (by omega) (by omega), h3, tm hn.1, td hn.1, w64 (n := v.getD (3 + i) 0 / 4) (by omega) (by omega), Int.toNat_natCast, impl_book.l4, w64 (n := (i : Int) + 1) (by omega) (by omega), show (i : Int) + 1 = ((i + 1 : Nat) : Int) by omega]
    refine bk_l1 N hN hc z v hv hnn hbi hbs d (i + 1) K _ _ (by omega) (by omega) (by rw [List.length_set]; exact hI) (by rw [List.length_set]; exact hE) (fun j hj => ?_)
    rw [getD_set _ _ _ _ (by omega), getD_set _ _ _ _ (by omega)]
    by_cases g : j = i
    · rw [if_pos g, if_pos g, g]; exact ⟨rfl, rfl⟩
    · rw [if_neg g, if_neg g]; exact hx j (by omega)
theorem slice_getD (v : List Int) (a n j : Nat) (hj : j < n) : ((v.drop a).take n).getD j 0 = v.getD (a + j) 0 := by
  simp only [List.getD_eq_getElem?_getD, List.getElem?_take, List.getElem?_drop, if_pos hj]
theorem cpy_all (n a : Nat) (v : List Int) (h : a + n ≤ v.length) : cpy (List.replicate n (0 : Int)) 0 (min ((v.drop a).take n).length (List.replicate n (0 : Int)).length) ((v.drop a).take n) = (List.range n).map (fun i => vAt v (a + i)) := by
  have hl : ((v.drop a).take n).length = n := by rw [List.length_take, List.length_drop]; omega
  have hr : (List.replicate n (0 : Int)).length = n := List.length_replicate ..
  rw [hl, hr, Nat.min_self]
  obtain ⟨q1, q2⟩ := cpy_getD (List.replicate n (0 : Int)) 0 n ((v.drop a).take n) (by rw [hr]; omega) (by omega)
  refine (map_eq (by rw [q1, hr]) fun i hi => ?_).symm
  rw [q2 i, if_pos (by omega), Nat.sub_zero, slice_getD v a n i hi]
theorem impl_book_eq (N : Nat) (hN : Fuel N) {c : Cfg} (hc : Plat c) {w : List Int} (hw : Words w) (hl : dA c ≤ w.length) : impl_book N c w = outT (censP c (valW w)) := by
  obtain ⟨a1, a2, a3, a4, a5, a6, a7, a8, a9⟩ := plat_at hc
  have hh : house c = (dA c : Int) := by unfold house; omega
  have hlen : (w.take (dA c)).length = dA c := by rw [List.length_take]; omega
  have hwt : Words (w.take (dA c)) := fun x hx => hw x (List.mem_of_mem_take hx)
  have hvals := impl_vals_loop N (w.take (dA c)) hwt (by omega) (w.take (dA c)).length 0 N [] (by omega) (by unfold Fuel at hN; omega) (by simp)
  obtain ⟨v, hv⟩ : ∃ v, v = (w.take (dA c)).map (· % 4294967296) := ⟨_, rfl⟩
  have hvl : v.length = dA c := by rw [hv, List.length_map]; exact hlen
  have hvv : ∀ j, j < dA c → vAt v j = valW w j := fun j hj => by
    unfold vAt valW
    rw [getD_lt (by omega), getD_lt (by omega)]
    simp [hv]
  have hnn : ∀ j, 0 ≤ vAt v j ∧ vAt v j < 4294967296 := fun j => by
    by_cases g : j < dA c
    · rw [hvv j g]; exact valW_nn w j
    · have : vAt v j = 0 := by unfold vAt; rw [List.getD_eq_getElem?_getD, List.getElem?_eq_none (by omega)]; rfl
      rw [this]; omega
  have er := readB_congr hc hvv
  obtain ⟨r1, r2⟩ := readB_ok hc w
  rw [← er] at r1 r2
  unfold impl_book
  rw [impl_deskAt_eq N hc]
  simp only [Option.bind_some]
  rw [hh, dt (show (0 : Int) ≤ dA c by omega), dt (show ((dA c : Nat) : Int) ≤ w.length by omega), Int.toNat_natCast, List.drop_zero]
  simp only [cond_true]
  unfold impl_vals
  have hvals' : impl_vals.l0 N N (w.take (dA c)) ((w.take (dA c)).length : Int) 0 [] = some ((), v) := by rw [hv]; exact hvals
  rw [hvals', impl_BookOpen_eq N hc]
  simp only [Option.bind_some]
  obtain ⟨m, hm⟩ : ∃ m, N = m + 1 := ⟨N - 1, by unfold Fuel at hN; omega⟩
  have hm2 : 100000 < m := by unfold Fuel at hN; omega
  rw [← censP_congr hc hvv]
  have key : ∀ K, 100000 < K → impl_book.l0 N (K + 1) c (0, (), ((), (), (), ()), (), (), ()) v ((openP c).1, (), ((), (), (), ()), (), (), ()) (openP c).2.1 (openP c).2.2.2.1 (openP c).2.2.2.2.1 (openP c).2.2.2.2.2 = outT (censP c (vAt v)) := by
    intro K hK
    rw [impl_book.l0, impl_pageAt_eq N hc, impl_tagAt_eq N hc, impl_linkAt_eq N hc]
    simp only [Option.bind_some]
    have p1 : (7 + 2 * c.1).toNat = pA c := rfl
    have p2 : (7 + 2 * c.1 + c.2.1).toNat = tA c := rfl
    have p3 : (7 + 2 * c.1 + 9 * c.2.1).toNat = kA c := rfl
    rw [dt (show (0 : Int) ≤ 7 + 2 * c.1 + c.2.1 by omega), dt (show 7 + 2 * c.1 + c.2.1 ≤ (v.length : Int) by omega), dt (show (0 : Int) ≤ 7 + 2 * c.1 by omega), dt (show 7 + 2 * c.1 ≤ 7 + 2 * c.1 + c.2.1 by omega), dt (show (0 : Int) ≤ 7 + 2 * c.1 + 9 * c.2.1 by omega), dt (show 7 + 2 * c.1 + 9 * c.2.1 ≤ (v.length : Int) by omega), dt (show 7 + 2 * c.1 + c.2.1 ≤ 7 + 2 * c.1 + 9 * c.2.1 by omega)]
    simp only [cond_true]
    rw [p1, p2, p3, show tA c - pA c = c.2.1.toNat by omega, show kA c - tA c = (8 * c.2.1).toNat by omega]
    have o1 : (openP c).2.1 = List.replicate c.2.1.toNat 0 := rfl
    have o2 : (openP c).2.2.2.1 = List.replicate (8 * c.2.1).toNat 0 := by show List.replicate (c.2.1 * 8).toNat 0 = _; rw [show c.2.1 * 8 = 8 * c.2.1 by omega]
    rw [o1, o2, cpy_all _ _ v (by omega), cpy_all _ _ v (by omega)]
    have hi : (openP c).2.2.2.2.1.length = c.1.toNat := List.length_replicate ..
    have hep : (openP c).2.2.2.2.2.length = c.1.toNat := List.length_replicate ..
    exact bk_l1 N hN hc 0 v hvl hnn r1 r2 c.1.toNat 0 K _ _ (by omega) (by omega) hi hep (fun j hj => by omega)
  have := key m hm2
  rw [← hm] at this
  exact this
theorem impl_CensBook_eq (N : Nat) (hN : Fuel N) {w : List Int} (hw : Words w) : impl_CensBook N w = outT (censBook w) := by
  unfold impl_CensBook censBook
  by_cases hH : Head w
  rotate_left
  · obtain ⟨c, hc⟩ := impl_cfgOf_no N hw hH
    rw [hc, if_neg (fun g => hH g.1)]; rfl
  have hc := hH.2.2
  rw [impl_cfgOf_yes N hw hH]
  simp only [Option.bind_some]
  rw [Bool.not_true, cond_false, impl_size_eq N hc, impl_deskAt_eq N hc]
  simp only [Option.bind_some, cndn]
  by_cases c1 : (w.length : Int) = size (cfg (w.getD 0 0))
  · have hL : Laid w := ⟨hH, .inl c1⟩
    rw [if_pos c1, if_pos hL, impl_book_eq N hN hc hw (laid_len hL)]; rfl
  rw [if_neg c1]
  by_cases c2 : (w.length : Int) = house (cfg (w.getD 0 0))
  · have hL : Laid w := ⟨hH, .inr c2⟩
    rw [if_pos c2, if_pos hL, impl_book_eq N hN hc hw (laid_len hL)]; rfl
  · rw [if_neg c2, if_neg (fun g => by rcases g.2 with q | q; exact c1 q; exact c2 q)]; rfl
theorem censBook_short {w : List Int} : Bi (censBook w).1 ∧ Bshort (censBook w).1 := by
  unfold censBook
  by_cases h : Laid w
  · rw [if_pos h]
    unfold censP
    by_cases g : BookP (readB (cfg (w.getD 0 0)) (valW w)) ∧ Agree (cfg (w.getD 0 0)) (valW w) (readB (cfg (w.getD 0 0)) (valW w))
    · rw [if_pos g]; exact ⟨g.1.ints, g.1.short⟩
    · rw [if_neg g]; exact ⟨bk0_ints, bk0_short⟩
  · rw [if_neg h]; exact ⟨bk0_ints, bk0_short⟩
/-- A word of a value and a stamp. -/
def pack (v s : Int) : Int := low s 4294967295 * 4294967296 + low v 4294967295
theorem pack_w (v s : Int) : W64 (pack v s) := by
  have h1 := low_ge v 4294967295 (by omega)
  have h2 := low_le v 4294967295 (by omega)
  have h3 := low_ge s 4294967295 (by omega)
  have h4 := low_le s 4294967295 (by omega)
  unfold pack W64; omega
theorem impl_CellPack_eq (N : Nat) (v s : Int) : impl_CellPack N v s = some (pack v s, ()) := by
  have h1 := low_ge v 4294967295 (by omega)
  have h2 := low_le v 4294967295 (by omega)
  have h3 := low_ge s 4294967295 (by omega)
  have h4 := low_le s 4294967295 (by omega)
  unfold impl_CellPack pack
  rw [impl_clamp_eq N s 4294967295 (by omega), impl_clamp_eq N v 4294967295 (by omega)]
  simp only [Option.bind_some]
  obtain ⟨a, ha⟩ := Int.eq_ofNat_of_zero_le h3
  obtain ⟨b, hb⟩ := Int.eq_ofNat_of_zero_le h1
  rw [ha] at h3 h4 ⊢
  rw [hb] at h1 h2 ⊢
  have e2 : (2 : Int) ^ 32 = 4294967296 := by decide
  rw [e2, u64w (n := (a : Int)) (by omega) (by omega), u64w (n := (b : Int)) (by omega) (by omega), u64w (n := (a : Int) * 4294967296) (by omega) (by omega)]
  have e : (BitVec.ofInt 64 ((a : Int) * 4294967296) ||| BitVec.ofInt 64 (b : Int)).toNat = 2 ^ 32 * a + b := by
    rw [BitVec.toNat_or, BitVec.toNat_ofInt, BitVec.toNat_ofInt]
    have q1 : ((a : Int) * 4294967296 % ((2 ^ 64 : Nat) : Int)).toNat = 2 ^ 32 * a := by omega
    have q2 : ((b : Int) % ((2 ^ 64 : Nat) : Int)).toNat = b := by omega
    rw [q1, q2, ← Nat.two_pow_add_eq_or_of_lt (by omega)]
  rw [e, u64w (by omega) (by omega)]
  congr 2
  omega
theorem spec_CellPack_eq' (N : Nat) (v s : Int) : spec_CellPack N v s = some (pack v s, ()) := spec_CellPack_eq N v s
def stampOf (x : Int) : Int := x / 4294967296
def valOf (x : Int) : Int := x % 4294967296
theorem stamp_in {x : Int} (h : W64 x) : 0 ≤ stampOf x ∧ stampOf x < 4294967296 := by obtain ⟨h1, h2⟩ := h; unfold stampOf; omega
theorem val_in (x : Int) : 0 ≤ valOf x ∧ valOf x < 4294967296 := by unfold valOf; omega
theorem spec_Door0 (N : Nat) (s : Int) : spec_CellDoor N 0 0 0 s = some (pack 0 s, ()) := by
  unfold spec_CellDoor
  rw [spec_l1Low_eq, spec_l1Low_eq, spec_l1Low_eq]
  simp only [Option.bind_some]
  have e1 : low 0 2 = 0 := rfl
  have e2 : low 0 7 = 0 := rfl
  have e3 : low 0 4095 = 0 := rfl
  rw [e1, e2, e3, w64 (n := 4 * 0) (by omega) (by omega), w64 (n := 32 * 0) (by omega) (by omega), w64 (n := 0 + 4 * 0) (by omega) (by omega), w64 (n := 0 + 4 * 0 + 32 * 0) (by omega) (by omega), spec_CellPack_eq']
  rfl
theorem impl_Door0 (N : Nat) (s : Int) : impl_CellDoor N 0 0 0 s = some (pack 0 s, ()) := by
  unfold impl_CellDoor
  rw [impl_clamp_eq N _ _ (by omega), impl_clamp_eq N _ _ (by omega), impl_clamp_eq N _ _ (by omega)]
  simp only [Option.bind_some]
  have e1 : low 0 2 = 0 := rfl
  have e2 : low 0 7 = 0 := rfl
  have e3 : low 0 4095 = 0 := rfl
  rw [e1, e2, e3, w64 (n := 4 * 0) (by omega) (by omega), w64 (n := 32 * 0) (by omega) (by omega), w64 (n := 0 + 4 * 0) (by omega) (by omega), w64 (n := 0 + 4 * 0 + 32 * 0) (by omega) (by omega), impl_CellPack_eq]
  rfl
/-- A change is carried out. -/
def putP (e : Int) (w : List Int) : List Int :=
  let a := (valOf e / 1048576).toNat
  if a < w.length ∧ stampOf (w.getD a 0) < stampOf e then w.set a (pack (valOf e % 1048576) (stampOf e)) else w
theorem putP_len (e : Int) (w : List Int) : (putP e w).length = w.length := by
  unfold putP
  dsimp only
  split
  · exact List.length_set ..
  · rfl
theorem words_set {w : List Int} (h : Words w) (i : Nat) {x : Int} (hx : W64 x) : Words (w.set i x) := fun y hy => by
  rcases List.mem_or_eq_of_mem_set hy with g | g
  · exact h y g
  · rw [g]; exact hx
theorem putP_words (e : Int) {w : List Int} (h : Words w) : Words (putP e w) := by
  unfold putP
  dsimp only
  split
  · exact words_set h _ (pack_w _ _)
  · exact h
theorem spec_l4Put_eq (N : Nat) {e : Int} (he : W64 e) {w : List Int} (hw : Words w) : spec_l4Put N e w = some ((), putP e w) := by
  have hv := val_in e
  have hv' : e % 4294967296 = valOf e := rfl
  have hs' : e / 4294967296 = stampOf e := rfl
  unfold spec_l4Put spec_CellEntryOf putP
  rw [spec_CellVal_eq N he]
  simp only [Option.bind_some]
  rw [hv', td hv.1, tm hv.1, w64 (n := valOf e / 1048576) (by omega) (by omega)]
  obtain ⟨a, ha⟩ : ∃ a : Nat, valOf e / 1048576 = a := ⟨(valOf e / 1048576).toNat, by omega⟩
  rw [ha, Int.toNat_natCast]
  by_cases c : a < w.length
  rotate_left
  · rw [cf (by omega), if_neg (fun g => c g.1)]
  rw [ct (by omega), bnd (by omega) (by omega), spec_CellStamp_eq N (hw.at a), spec_CellStamp_eq N he]
  simp only [Option.bind_some]
  rw [hs']
  have hs2 : w.getD a 0 / 4294967296 = stampOf (w.getD a 0) := rfl
  rw [hs2]
  by_cases c2 : stampOf (w.getD a 0) < stampOf e
  · rw [ct c2, if_pos ⟨c, c2⟩, spec_CellPack_eq']
    simp only [Option.bind_some]
    rw [bnd (by omega) (by omega)]
  · rw [cf c2, if_neg (fun g => c2 g.2)]
theorem impl_applied_eq (N : Nat) {e : Int} (he : W64 e) {w : List Int} (hw : Words w) : impl_applied N e w = some ((), putP e w) := by
  have hv := val_in e
  have hv' : e % 4294967296 = valOf e := rfl
  have hs' : e / 4294967296 = stampOf e := rfl
  unfold impl_applied impl_CellEntryOf putP
  rw [impl_CellVal_eq N he]
  simp only [Option.bind_some]
  rw [hv', td hv.1, tm hv.1, w64 (n := valOf e / 1048576) (by omega) (by omega)]
  obtain ⟨a, ha⟩ : ∃ a : Nat, valOf e / 1048576 = a := ⟨(valOf e / 1048576).toNat, by omega⟩
  rw [ha, Int.toNat_natCast]
  by_cases c : a < w.length
  rotate_left
  · rw [cf (by omega), if_neg (fun g => c g.1)]
  rw [ct (by omega), bnd (by omega) (by omega), impl_CellStamp_eq N (hw.at a), impl_CellStamp_eq N he]
  simp only [Option.bind_some]
  rw [hs']
  have hs2 : w.getD a 0 / 4294967296 = stampOf (w.getD a 0) := rfl
  rw [hs2]
  by_cases c2 : stampOf (w.getD a 0) < stampOf e
  · rw [ct c2, if_pos ⟨c, c2⟩, impl_CellPack_eq]
    simp only [Option.bind_some]
    rw [bnd (by omega) (by omega)]
  · rw [cf c2, if_neg (fun g => c2 g.2)]
/-- Changes are carried out, one behind the other. -/
def putAll : List Int → List Int → List Int
  | [], w => w
  | e :: r, w => putAll r (putP e w)
theorem putAll_words : ∀ (l : List Int) {w : List Int}, Words w → Words (putAll l w)
  | [], w, h => h
  | e :: r, w, h => by rw [putAll]; exact putAll_words r (putP_words e h)
/-- The desk of a slot. -/
def deskP (c : Cfg) (s : Nat) : Nat := dA c + 21 * s
/-- Is something done, by the words of a house? -/
def DoneP (w : List Int) : Prop := valOf (w.getD 2 0) % 4 = 2 ∧ valOf (w.getD 2 0) / 4 % 8 < (cfg (w.getD 0 0)).1 ∧
  stampOf (w.getD (deskP (cfg (w.getD 0 0)) (valOf (w.getD 2 0) / 4 % 8).toNat) 0) = stampOf (w.getD 2 0) ∧ valOf (w.getD (deskP (cfg (w.getD 0 0)) (valOf (w.getD 2 0) / 4 % 8).toNat) 0) ≤ 20
instance (w : List Int) : Decidable (DoneP w) := inferInstanceAs (Decidable (_ ∧ _))
/-- The changes that are committed: those with the door's stamp. -/
def comP (w : List Int) : List Int :=
  (((w.drop (deskP (cfg (w.getD 0 0)) (valOf (w.getD 2 0) / 4 % 8).toNat + 1)).take (valOf (w.getD (deskP (cfg (w.getD 0 0)) (valOf (w.getD 2 0) / 4 % 8).toNat) 0)).toNat)).filter fun x => stampOf x == stampOf (w.getD 2 0)
def doneP (w : List Int) : List Int := if Whole w ∧ DoneP w then (putAll (comP w) w).set 2 (pack 0 (stampOf (w.getD 2 0) + 1)) else w
theorem doneP_words {w : List Int} (h : Words w) : Words (doneP w) := by
  unfold doneP
  split
  · exact words_set (putAll_words _ h) _ (pack_w _ _)
  · exact h
theorem whole_len {w : List Int} (h : Whole w) : 30 ≤ w.length ∧ (w.length : Int) = dA (cfg (w.getD 0 0)) + 21 * (cfg (w.getD 0 0)).1 ∧ w.length ≤ 1000 := by
  obtain ⟨a1, a2, a3, a4, a5, a6, a7, a8, a9⟩ := plat_at h.2.2.1
  have := h.2.2.2
  unfold size at this
  omega
theorem spec_PlatDesk_eq (N : Nat) {c : Cfg} (h : Plat c) {s : Nat} (hs : (s : Int) < c.1) : spec_PlatDesk N c (s : Nat) = some (((deskP c s : Nat) : Int), ()) := by
  obtain ⟨a1, a2, a3, a4, a5, a6, a7, a8, a9⟩ := plat_at h
  have hh : house c = (dA c : Int) := by unfold house; omega
  unfold spec_PlatDesk deskP
  rw [spec_l2House_eq N h]
  simp only [Option.bind_some]
  rw [hh, spec_l2At_eq N h _ s c.1 21 (by omega) (by omega) (by omega) (by omega) (by omega), if_pos (by omega)]
  simp only [Option.bind_some]
  congr 2; omega
theorem impl_PlatDesk_eq (N : Nat) {c : Cfg} (h : Plat c) {s : Nat} (hs : (s : Int) < c.1) : impl_PlatDesk N c (s : Nat) = some (((deskP c s : Nat) : Int), ()) := by
  obtain ⟨a1, a2, a3, a4, a5, a6, a7, a8, a9⟩ := plat_at h
  have hh : house c = (dA c : Int) := by unfold house; omega
  unfold impl_PlatDesk deskP
  rw [impl_PlatOk_eq, dt h]
  simp only [Option.bind_some]
  rw [Bool.not_true, cond_false, w64 (n := c.1 - 1) (by omega) (by omega), impl_within_eq]
  simp only [Option.bind_some]
  rw [dt (by omega), Bool.not_true, cond_false, impl_deskAt_eq N h, hh]
  simp only [Option.bind_some]
  rw [w64 (n := (s : Int) * 21) (by omega) (by omega), w64 (n := (dA c : Int) + (s : Int) * 21) (by omega) (by omega)]
  congr 2; omega
theorem spec_done_loop (N : Nat) {w : List Int} (hw : Words w) (at0 n : Nat) (hn : at0 + n < w.length) (hl : w.length ≤ 1000) (h2 : 2 < w.length) : ∀ d i K (M : List Int), i + d = n + 1 → d < K → 1 ≤ i → M.length = w.length → Words M →
    spec_CensDone.l0 N K w (w.getD 2 0) (at0 : Nat) (n : Nat) (i : Nat) M = some ((), (putAll (((w.drop (at0 + i)).take (n + 1 - i)).filter fun x => stampOf x == stampOf (w.getD 2 0)) M).set 2 (pack 0 (stampOf (w.getD 2 0) + 1)))
  | 0, i, K, M, e, hK, hi, hM, hMw => by
    obtain ⟨K, rfl⟩ := fuel hK
    have hd := stamp_in (hw.at 2)
    have hs2 : w.getD 2 0 / 4294967296 = stampOf (w.getD 2 0) := rfl
    rw [spec_CensDone.l0, cf (by omega), spec_CellStamp_eq N (hw.at 2), show n + 1 - i = 0 by omega, List.take_zero, List.filter_nil, putAll]
    simp only [Option.bind_some]
    rw [hs2, w64 (n := stampOf (w.getD 2 0) + 1) (by omega) (by omega), spec_Door0]
    simp only [Option.bind_some]
    rw [ct (by omega)]
  | d + 1, i, K, M, e, hK, hi, hM, hMw => by
    obtain ⟨K, rfl⟩ := fuel hK
    have hx : ∀ j, w.getD j 0 / 4294967296 = stampOf (w.getD j 0) := fun j => rfl
    have ih := fun M hM hMw => spec_done_loop N hw at0 n hn hl h2 d (i + 1) K M (by omega) (by omega) (by omega) hM hMw
    have hdrop : (w.drop (at0 + i)).take (n + 1 - i) = w.getD (at0 + i) 0 :: (w.drop (at0 + (i + 1))).take (n + 1 - (i + 1)) := by
      rw [drop_at 0 (show at0 + i < w.length by omega), show n + 1 - i = (n + 1 - (i + 1)) + 1 by omega, List.take_succ_cons]
      rfl
    rw [spec_CensDone.l0, ct (by omega), w64 (n := (at0 : Int) + i) (by omega) (by omega), show (at0 : Int) + i = ((at0 + i : Nat) : Int) by omega, bnd (by omega) (by omega), Int.toNat_natCast, spec_CellStamp_eq N (hw.at _), spec_CellStamp_eq N (hw.at 2)]
    simp only [Option.bind_some]
    rw [hx, hx, bnd (by omega) (by omega), w64 (n := (i : Int) + 1) (by omega) (by omega), show (i : Int) + 1 = ((i + 1 : Nat) : Int) by omega, spec_l4Put_eq N (hw.at _) hMw, hdrop, List.filter_cons]
    simp only [Option.bind_some]
    cases hc : (stampOf (w.getD (at0 + i) 0) == stampOf (w.getD 2 0))
    · rw [cond_false, ih M hM hMw]; rfl
    · rw [cond_true, ih _ (by rw [putP_len]; exact hM) (putP_words _ hMw)]; rfl
theorem spec_CensDone_eq (N : Nat) (hN : Fuel N) {w : List Int} (hw : Words w) (hs : Short w) : spec_CensDone N w = some ((), doneP w) := by
  unfold Short at hs
  unfold spec_CensDone doneP
  rw [spec_PlatCheck_eq N hw]
  simp only [Option.bind_some]
  rw [ct (by simp; omega), List.nil_append]
  by_cases h : Whole w
  rotate_left
  · rw [if_neg h, if_neg (fun g => h g.1)]; rfl
  obtain ⟨l1, l2, l3⟩ := whole_len h
  have hc := h.2.2.1
  obtain ⟨a1, a2, a3, a4, a5, a6, a7, a8, a9⟩ := plat_at hc
  have hv := val_in (w.getD 2 0)
  have hv' : ∀ j, w.getD j 0 % 4294967296 = valOf (w.getD j 0) := fun j => rfl
  have hx : ∀ j, w.getD j 0 / 4294967296 = stampOf (w.getD j 0) := fun j => rfl
  rw [if_pos h, Bool.not_true, cond_false, ct (by omega)]
  unfold spec_CellDoorOf
  rw [spec_CellVal_eq N (hw.at 2)]
  simp only [Option.bind_some]
  rw [hv', tm hv.1, td hv.1, w64 (n := valOf (w.getD 2 0) / 4) (by omega) (by omega), tm (by omega), cndn]
  by_cases c1 : valOf (w.getD 2 0) % 4 = 2
  rotate_left
  · rw [if_neg c1, if_neg (fun g => c1 g.2.1)]
  rw [if_pos c1]
  by_cases c2 : valOf (w.getD 2 0) / 4 % 8 < (cfg (w.getD 0 0)).1
  rotate_left
  · rw [ct (by omega), if_neg (fun g => c2 g.2.2.1)]
  obtain ⟨s, hse⟩ : ∃ s : Nat, valOf (w.getD 2 0) / 4 % 8 = s := ⟨(valOf (w.getD 2 0) / 4 % 8).toNat, by omega⟩
  rw [cf (by omega), hse, spec_PlatDesk_eq N hc (by omega)]
  simp only [Option.bind_some]
  have hdl : deskP (cfg (w.getD 0 0)) s + 20 < w.length := by unfold deskP; omega
  rw [bnd (by omega) (by omega), Int.toNat_natCast, spec_CellVal_eq N (hw.at _), spec_CellStamp_eq N (hw.at _), spec_CellStamp_eq N (hw.at 2)]
  simp only [Option.bind_some]
  rw [bnd (by omega) (by omega), hv', hx, hx, cndn]
  have hD : DoneP w ↔ stampOf (w.getD (deskP (cfg (w.getD 0 0)) s) 0) = stampOf (w.getD 2 0) ∧ valOf (w.getD (deskP (cfg (w.getD 0 0)) s) 0) ≤ 20 := by
    unfold DoneP
    rw [hse, Int.toNat_natCast]
    exact ⟨fun g => g.2.2, fun g => ⟨c1, by omega, g⟩⟩
  by_cases c3 : stampOf (w.getD (deskP (cfg (w.getD 0 0)) s) 0) = stampOf (w.getD 2 0)
  rotate_left
  · rw [if_neg c3, if_neg (fun g => c3 (hD.1 g.2).1)]
  rw [if_pos c3]
  by_cases c4 : valOf (w.getD (deskP (cfg (w.getD 0 0)) s) 0) > 20
  · rw [ct c4, if_neg (fun g => by have := (hD.1 g.2).2; omega)]
  have hvn := val_in (w.getD (deskP (cfg (w.getD 0 0)) s) 0)
  obtain ⟨n, hn⟩ : ∃ n : Nat, valOf (w.getD (deskP (cfg (w.getD 0 0)) s) 0) = n := ⟨(valOf (w.getD (deskP (cfg (w.getD 0 0)) s) 0)).toNat, by omega⟩
  rw [cf c4, if_pos ⟨h, hD.2 ⟨c3, by omega⟩⟩, hn]
  have := spec_done_loop N hw (deskP (cfg (w.getD 0 0)) s) n (by omega) (by omega) (by omega) n 1 N w (by omega) (by unfold Fuel at hN; omega) (by omega) rfl hw
  refine this.trans ?_
  unfold comP
  rw [hse, Int.toNat_natCast, hn, Int.toNat_natCast, show n + 1 - 1 = n by omega]
theorem com_loop (N : Nat) (x : Int) (hx : W64 x) (l : List Int) (hl : l.length ≤ 1000) (hw : Words l) : ∀ d i K (M : List Int), i + d = l.length → d < K → M.length ≤ i →
    impl_committed.l0 N K x l (l.length : Int) (i : Nat) M = some (((), true), M ++ (l.drop i).filter fun y => stampOf y == stampOf x)
  | 0, i, K, M, e, hK, hM => by
    obtain ⟨K, rfl⟩ := fuel hK
    rw [impl_committed.l0, cf (by omega), drop_end (by omega), List.filter_nil, List.append_nil]
  | d + 1, i, K, M, e, hK, hM => by
    obtain ⟨K, rfl⟩ := fuel hK
    have hs1 : l.getD i 0 / 4294967296 = stampOf (l.getD i 0) := rfl
    have hs2 : x / 4294967296 = stampOf x := rfl
    rw [impl_committed.l0, ct (by omega), bnd (by omega) (by omega), Int.toNat_natCast, impl_CellStamp_eq N (hw.at i), impl_CellStamp_eq N hx]
    simp only [Option.bind_some]
    rw [hs1, hs2, drop_at 0 (show i < l.length by omega), List.filter_cons, w64 (n := (i : Int) + 1) (by omega) (by omega), show (i : Int) + 1 = ((i + 1 : Nat) : Int) by omega]
    cases hc : (stampOf (l.getD i 0) == stampOf x)
    · rw [cond_false, com_loop N x hx l hl hw d (i + 1) K M (by omega) (by omega) (by omega)]; rfl
    · rw [cond_true, ct (by simp; omega), com_loop N x hx l hl hw d (i + 1) K _ (by omega) (by omega) (by rw [List.length_append]; simp; omega), List.append_assoc]; rfl
theorem impl_done_loop (N : Nat) {w : List Int} (hw : Words w) (h2 : 2 < w.length) (l : List Int) (hl : l.length ≤ 1000) (hlw : Words l) : ∀ d i K (M : List Int), i + d = l.length → d < K → M.length = w.length → Words M →
    impl_done.l0 N K w (l.length : Int) (i : Nat) M l = some ((), (putAll (l.drop i) M).set 2 (pack 0 (stampOf (w.getD 2 0) + 1)))
  | 0, i, K, M, e, hK, hM, hMw => by
    obtain ⟨K, rfl⟩ := fuel hK
    have hd := stamp_in (hw.at 2)
    have hs2 : w.getD 2 0 / 4294967296 = stampOf (w.getD 2 0) := rfl
    rw [impl_done.l0, cf (by omega), ct (by omega), impl_CellStamp_eq N (hw.at 2), drop_end (by omega), putAll]
    simp only [Option.bind_some]
    rw [hs2, w64 (n := stampOf (w.getD 2 0) + 1) (by omega) (by omega), impl_Door0]
    simp only [Option.bind_some]
    rw [ct (by omega)]
  | d + 1, i, K, M, e, hK, hM, hMw => by
    obtain ⟨K, rfl⟩ := fuel hK
    rw [impl_done.l0, ct (by omega), bnd (by omega) (by omega), Int.toNat_natCast, impl_applied_eq N (hlw.at i) hMw]
    simp only [Option.bind_some]
    rw [drop_at 0 (show i < l.length by omega), putAll, w64 (n := (i : Int) + 1) (by omega) (by omega), show (i : Int) + 1 = ((i + 1 : Nat) : Int) by omega]
    exact impl_done_loop N hw h2 l hl hlw d (i + 1) K _ (by omega) (by omega) (by rw [putP_len]; exact hM) (putP_words _ hMw)
theorem cloneU_eq (N : Nat) (l : List Int) (h : Short l) : slices_Clone_uint64_uint64 N l = some ((), l) := by
  unfold Short at h
  unfold slices_Clone_uint64_uint64
  by_cases c : l.length = 0
  · obtain rfl := List.eq_nil_of_length_eq_zero c
    rw [ct (show ([] : List Int).length = 0 from rfl), nd_same]
    rfl
  · rw [cf c, ct (by simp only [List.length_nil]; omega), List.nil_append]
theorem impl_done_eq (N : Nat) (hN : Fuel N) {w : List Int} (hw : Words w) (h : Whole w) : impl_done N (cfg (w.getD 0 0)) w = some ((), doneP w) := by
  obtain ⟨l1, l2, l3⟩ := whole_len h
  have hs : Short w := by unfold Short; omega
  have hc := h.2.2.1
  obtain ⟨a1, a2, a3, a4, a5, a6, a7, a8, a9⟩ := plat_at hc
  have hv := val_in (w.getD 2 0)
  have hv' : ∀ j, w.getD j 0 % 4294967296 = valOf (w.getD j 0) := fun j => rfl
  have hx : ∀ j, w.getD j 0 / 4294967296 = stampOf (w.getD j 0) := fun j => rfl
  unfold impl_done doneP
  rw [cloneU_eq N w hs]
  simp only [Option.bind_some]
  unfold impl_committed impl_CellDoorOf
  rw [ct (by omega), impl_CellVal_eq N (hw.at 2)]
  simp only [Option.bind_some]
  rw [hv', tm hv.1, td hv.1, w64 (n := valOf (w.getD 2 0) / 4) (by omega) (by omega), tm (by omega), cndn]
  by_cases c1 : valOf (w.getD 2 0) % 4 = 2
  rotate_left
  · rw [if_neg c1, if_neg (fun g => c1 g.2.1)]; rfl
  rw [if_pos c1]
  by_cases c2 : valOf (w.getD 2 0) / 4 % 8 < (cfg (w.getD 0 0)).1
  rotate_left
  · rw [ct (by omega), if_neg (fun g => c2 g.2.2.1)]; rfl
  obtain ⟨s, hse⟩ : ∃ s : Nat, valOf (w.getD 2 0) / 4 % 8 = s := ⟨(valOf (w.getD 2 0) / 4 % 8).toNat, by omega⟩
  rw [cf (by omega), hse, impl_PlatDesk_eq N hc (by omega)]
  simp only [Option.bind_some]
  have hdl : deskP (cfg (w.getD 0 0)) s + 20 < w.length := by unfold deskP; omega
  rw [bnd (by omega) (by omega), Int.toNat_natCast, impl_CellVal_eq N (hw.at _), impl_CellStamp_eq N (hw.at _), impl_CellStamp_eq N (hw.at 2)]
  simp only [Option.bind_some]
  rw [bnd (by omega) (by omega), hv', hx, hx, cndn]
  have hD : DoneP w ↔ stampOf (w.getD (deskP (cfg (w.getD 0 0)) s) 0) = stampOf (w.getD 2 0) ∧ valOf (w.getD (deskP (cfg (w.getD 0 0)) s) 0) ≤ 20 := by
    unfold DoneP
    rw [hse, Int.toNat_natCast]
    exact ⟨fun g => g.2.2, fun g => ⟨c1, by omega, g⟩⟩
  by_cases c3 : stampOf (w.getD (deskP (cfg (w.getD 0 0)) s) 0) = stampOf (w.getD 2 0)
  rotate_left
  · rw [if_neg c3, if_neg (fun g => c3 (hD.1 g.2).1)]; rfl
  rw [if_pos c3]
  by_cases c4 : valOf (w.getD (deskP (cfg (w.getD 0 0)) s) 0) > 20
  · rw [ct c4, if_neg (fun g => by have := (hD.1 g.2).2; omega)]; rfl
  have hvn := val_in (w.getD (deskP (cfg (w.getD 0 0)) s) 0)
  obtain ⟨n, hn⟩ : ∃ n : Nat, valOf (w.getD (deskP (cfg (w.getD 0 0)) s) 0) = n := ⟨(valOf (w.getD (deskP (cfg (w.getD 0 0)) s) 0)).toNat, by omega⟩
  rw [cf c4, if_pos ⟨h, hD.2 ⟨c3, by omega⟩⟩, hn, w64 (n := ((deskP (cfg (w.getD 0 0)) s : Nat) : Int) + 1) (by omega) (by omega), w64 (n := ((deskP (cfg (w.getD 0 0)) s : Nat) : Int) + 1 + n) (by omega) (by omega)]
  obtain ⟨p, hp⟩ : ∃ p : Nat, p = deskP (cfg (w.getD 0 0)) s + 1 := ⟨_, rfl⟩
  rw [show ((deskP (cfg (w.getD 0 0)) s : Nat) : Int) + 1 + n = ((p + n : Nat) : Int) by omega, show ((deskP (cfg (w.getD 0 0)) s : Nat) : Int) + 1 = ((p : Nat) : Int) by omega]
  rw [dt (show (0 : Int) ≤ ((p + n : Nat) : Int) by omega), dt (show ((p + n : Nat) : Int) ≤ w.length by omega), dt (show (0 : Int) ≤ (p : Nat) by omega), dt (show ((p : Nat) : Int) ≤ ((p + n : Nat) : Int) by omega)]
  simp only [cond_true]
  rw [Int.toNat_natCast, Int.toNat_natCast]
  have hsl : (w.take (p + n)).drop p = (w.drop p).take n := by rw [List.drop_take, show p + n - p = n by omega]
  rw [hsl]
  have hlen : ((w.drop p).take n).length = n := by rw [List.length_take, List.length_drop]; omega
  have hlw : Words ((w.drop p).take n) := fun y hy => hw y (List.mem_of_mem_drop (List.mem_of_mem_take hy))
  have hcom := com_loop N (w.getD 2 0) (hw.at 2) ((w.drop p).take n) (by omega) hlw ((w.drop p).take n).length 0 N [] (by omega) (by unfold Fuel at hN; omega) (by simp)
  rw [List.drop_zero, List.nil_append] at hcom
  have hcom' : impl_committed.l0 N N (w.getD 2 0) ((w.drop p).take n) (((w.drop p).take n).length : Int) 0 [] = _ := hcom
  rw [hcom']
  simp only [Option.bind_some]
  rw [Bool.not_true, cond_false]
  have hcp : comP w = ((w.drop p).take n).filter fun y => stampOf y == stampOf (w.getD 2 0) := by
    unfold comP
    rw [hse, Int.toNat_natCast, hn, Int.toNat_natCast, hp]
  have hfl : (((w.drop p).take n).filter fun y => stampOf y == stampOf (w.getD 2 0)).length ≤ n := by
    have := List.length_filter_le (fun y => stampOf y == stampOf (w.getD 2 0)) ((w.drop p).take n)
    omega
  have := impl_done_loop N hw (by omega) (((w.drop p).take n).filter fun y => stampOf y == stampOf (w.getD 2 0)) (by omega) (fun y hy => hlw y (List.mem_filter.1 hy).1) (((w.drop p).take n).filter fun y => stampOf y == stampOf (w.getD 2 0)).length 0 N w (by omega) (by unfold Fuel at hN; omega) rfl hw
  rw [List.drop_zero] at this
  rw [hcp]
  exact this
noncomputable def censTrue (w : List Int) : Bk × Bool := if Whole w then censBook (doneP w) else (bk0, false)
theorem spec_CensTrue_eq (N : Nat) (hN : Fuel N) {w : List Int} (hw : Words w) (hs : Short w) : spec_CensTrue N w = outT (censTrue w) := by
  unfold spec_CensTrue censTrue
  rw [spec_PlatCheck_eq N hw]
  simp only [Option.bind_some]
  by_cases h : Whole w
  · rw [if_pos h, if_pos h, Bool.not_true, cond_false, spec_CensDone_eq N hN hw hs]
    simp only [Option.bind_some]
    rw [spec_CensBook_eq N hN (doneP_words hw)]; rfl
  · rw [if_neg h, if_neg h]; rfl
theorem impl_CensTrue_eq (N : Nat) (hN : Fuel N) {w : List Int} (hw : Words w) : impl_CensTrue N w = outT (censTrue w) := by
  unfold impl_CensTrue censTrue
  rw [impl_PlatCheck_eq N hw]
  simp only [Option.bind_some]
  by_cases h : Whole w
  · rw [if_pos h, if_pos h, Bool.not_true, cond_false, impl_done_eq N hN hw h]
    simp only [Option.bind_some]
    rw [impl_CensBook_eq N hN (doneP_words hw)]; rfl
  · rw [if_neg h, if_neg h]; rfl
theorem censTrue_short {w : List Int} : Bi (censTrue w).1 ∧ Bshort (censTrue w).1 := by
  unfold censTrue
  split
  · exact censBook_short
  · exact ⟨bk0_ints, bk0_short⟩
noncomputable def worldBook (w : Wld) : Bk × Bool := cond (worldOk w) (censTrue w.1) (bk0, false)
theorem spec_WorldBook_eq (N : Nat) (hN : Fuel N) (w : Wld) (hw : Words w.1) (hs : Short w.1) : spec_WorldBook N w = outT (worldBook w) := by
  unfold spec_WorldBook worldBook
  rw [spec_WorldOk_eq N hN w hw]
  simp only [Option.bind_some]
  cases worldOk w
  · rfl
  · rw [Bool.not_true, cond_false, cond_true, spec_CensTrue_eq N hN hw hs]; rfl
theorem impl_WorldBook_eq (N : Nat) (hN : Fuel N) (w : Wld) (hw : Words w.1) : impl_WorldBook N w = outT (worldBook w) := by
  unfold impl_WorldBook worldBook
  rw [impl_WorldOk_eq N hN w hw]
  simp only [Option.bind_some]
  cases worldOk w
  · rfl
  · rw [Bool.not_true, cond_false, cond_true, impl_CensTrue_eq N hN hw]; rfl
theorem worldBook_short (w : Wld) : Bshort (worldBook w).1 := by
  unfold worldBook
  cases worldOk w
  · exact bk0_short
  · exact censTrue_short.2
/-- What the law's walk leans on. -/
structure WbSpec (y : Wld) (b : Bk) (ok : Bool) : Prop where
  s1 : y.1.length ≤ 1048576
  s2 : y.2.length ≤ 1048576
  s3 : ∀ g ∈ y.2, (gSnap g).length ≤ 1048576 ∧ (gPlan g).length ≤ 1048576
  words : laws_toUint64S N0 y.1 = some ((), y.1)
  guest : ∀ g ∈ y.2, laws_toGuest N0 g = some ((g.1, g.2.1, g.2.2.1, g.2.2.2.1, g.2.2.2.2.1, g.2.2.2.2.2.1, g.2.2.2.2.2.2.1, g.2.2.2.2.2.2.2.1, g.2.2.2.2.2.2.2.2.1, g.2.2.2.2.2.2.2.2.2.1, g.2.2.2.2.2.2.2.2.2.2.1, g.2.2.2.2.2.2.2.2.2.2.2.1, g.2.2.2.2.2.2.2.2.2.2.2.2.1, g.2.2.2.2.2.2.2.2.2.2.2.2.2.1, g.2.2.2.2.2.2.2.2.2.2.2.2.2.2.1, g.2.2.2.2.2.2.2.2.2.2.2.2.2.2.2.1, g.2.2.2.2.2.2.2.2.2.2.2.2.2.2.2.2.1, g.2.2.2.2.2.2.2.2.2.2.2.2.2.2.2.2.2.1, (), (), g.2.2.2.2.2.2.2.2.2.2.2.2.2.2.2.2.2.2.2.2), (gSnap g, gPlan g))
  spec : spec_WorldBook N0 y = some (((b.1, (), ((), (), (), ()), (), (), ()), ok), b.2.1, b.2.2.1.1, b.2.2.1.2.1, b.2.2.1.2.2.1, b.2.2.1.2.2.2, b.2.2.2.1, b.2.2.2.2.1, b.2.2.2.2.2)
  impl : impl_WorldBook N0 y = some (((b.1, (), ((), (), (), ()), (), (), ()), ok), b.2.1, b.2.2.1.1, b.2.2.1.2.1, b.2.2.1.2.2.1, b.2.2.1.2.2.2, b.2.2.2.1, b.2.2.2.2.1, b.2.2.2.2.2)
  eqB : laws_eqBook N0 b b = some (true, ())
  eqW : laws_eqWorld N0 y y = some (true, ())
  mark : laws_markBook N0 (b.1, (), ((), (), (), ()), (), (), ()) 1 b.2.1 b.2.2.1.1 b.2.2.1.2.1 b.2.2.1.2.2.1 b.2.2.1.2.2.2 b.2.2.2.1 b.2.2.2.2.1 b.2.2.2.2.2 =
    some (markN b, ((markB b).2.1, (markB b).2.2.1.1, (markB b).2.2.1.2.1, (markB b).2.2.1.2.2.1, (markB b).2.2.1.2.2.2, (markB b).2.2.2.1, (markB b).2.2.2.2.1, (markB b).2.2.2.2.2))
  held : laws_heldBook N0 (b.1, (markB b).2) 1 = some (markN b, ())
  pos : 0 ≤ markN b
theorem lawWorldBookSpec (y0 : Wld) (w0 : Wf tyWld y0) : ∃ r : Int, laws_szWorld N0 y0 1048576 = some (r, ()) ∧ (0 ≤ r → ∃ b ok, WbSpec y0 b ok) := by
  have ha := wf_wlens w0
  have hw := wf_words w0.1
  have h0 := szGs_ge y0.2
  have h1 : 0 ≤ szW y0 := by unfold szW; omega
  refine ⟨_, szWorld_eq N0 hN0 y0 _ (by omega) (by omega) ha, fun hr => ?_⟩
  have h : ¬ (1048576 : Int) - szW y0 < 0 := by
    intro h
    rw [rest, if_pos h] at hr
    omega
  have sa := WShort.of (w := y0) (by omega)
  have hb := worldBook_short y0
  have hz : szW y0 ≤ 1048576 := by omega
  unfold szW at hz
  have g3 : ∀ g ∈ y0.2, (gSnap g).length ≤ 1048576 ∧ (gPlan g).length ≤ 1048576 := fun g hg => by
    have := szGs_mem y0.2 g hg
    unfold szG at this
    omega
  refine ⟨(worldBook y0).1, (worldBook y0).2, ⟨by omega, by omega, g3, toUint64S_eq N0 hN0 _ sa.1, fun g hg => toGuest_eq N0 hN0 g (sa.2.2 g hg), spec_WorldBook_eq N0 hN0 y0 hw sa.1, impl_WorldBook_eq N0 hN0 y0 hw, eqBook_eq N0 hN0 _ hb, eqWorld_eq N0 hN0 _ sa, markBook_eq N0 hN0 _ hb _, heldBook_eq N0 hN0 _ hb, ?_⟩⟩
  unfold markN
  omega
end Go.Proofs.YtdkinmgpclbedaaGreat.Pv
