/- The plain law of FnStatSum, part 2: what the functions compute, over numbers and lists. -/
import Derived.Test.YtdhdlnojoonhcaaA4Pa
import Derived.Test.YtdhdlnojoonhcaaPvRow
namespace Go.Proofs.Ytdhdlnojoonhcaa.Pv
open Go Go.Pv Go.Proofs
set_option linter.unusedVariables false
set_option linter.unusedSimpArgs false
theorem one_code (t : Itm) : sm (fun j => if isC j t then 1 else 0) 14 + (if oddB t then 1 else 0) + (if t.1 then 1 else 0) = 1 := by
  cases ht : t.1
  rotate_left
  · have e : ∀ j, (if isC j t then (1 : Int) else 0) = 0 := fun j => by unfold isC; rw [ht]; rfl
    have eo : oddB t = false := by unfold oddB; rw [ht]; rfl
    rw [sm_congr (g := fun _ => 0) 14 (fun j _ => e j), sm_zero, eo]; rfl
  by_cases c : t.2.2.2.1 < 0 ∨ t.2.2.2.1 > 13
  · have e : ∀ j, j < 14 → (if isC j t then (1 : Int) else 0) = 0 := fun j hj => by
      unfold isC
      rw [ht, beq_eq_false_iff_ne.2 (by omega)]; rfl
    have eo : oddB t = true := by unfold oddB; rw [ht, dt c]; rfl
    rw [sm_congr (g := fun _ => 0) 14 e, sm_zero, eo]; rfl
  · have eo : oddB t = false := by unfold oddB; rw [ht, df c]; rfl
    have := sm_upto (fun j => if isC j t then (1 : Int) else 0) (fun _ => 0) t.2.2.2.1.toNat 1 14 (fun j hj => by
      unfold isC
      rw [ht]
      by_cases e : j = t.2.2.2.1.toNat
      · rw [if_pos e, beq_iff_eq.2 (by omega)]; rfl
      · rw [if_neg e, beq_eq_false_iff_ne.2 (by omega)]; rfl)
    rw [this, sm_zero, if_pos (by omega), eo]; rfl
theorem all_codes : ∀ l : List Itm, allC l 14 + (oddOf l : Int) + (cutsOf l : Int) = l.length
  | [] => by
    unfold allC oddOf cutsOf
    rw [sm_congr (g := fun _ => 0) 14 (fun j _ => by rw [List.countP_nil]; rfl), sm_zero]; rfl
  | t :: r => by
    have ih := all_codes r
    have h1 := one_code t
    have e1 : allC (t :: r) 14 = allC r 14 + sm (fun j => if isC j t then 1 else 0) 14 := by
      unfold allC
      rw [← sm_add]
      refine sm_congr 14 fun j _ => ?_
      rw [List.countP_cons]
      split <;> omega
    have e2 : (oddOf (t :: r) : Int) = (oddOf r : Int) + (if oddB t then 1 else 0) := by unfold oddOf; rw [List.countP_cons]; split <;> omega
    have e3 : (cutsOf (t :: r) : Int) = (cutsOf r : Int) + (if t.1 then 1 else 0) := by unfold cutsOf; rw [List.countP_cons]; split <;> omega
    rw [e1, e2, e3, List.length_cons]
    omega
theorem oddOf_drop (l : List Itm) (i : Nat) (h : i < l.length) : oddOf (l.drop i) = (if oddB (l.getD i itm0) then 1 else 0) + oddOf (l.drop (i + 1)) := by
  rw [drop_at itm0 h]
  unfold oddOf
  rw [List.countP_cons]; omega
theorem sum_l2 (N : Nat) (l : List Itm) (hl : l.length ≤ 1000) (all by' : Int) (ha : 0 ≤ all ∧ all ≤ 100000) (hb : 0 ≤ by' ∧ by' ≤ 100000) (h1 : all + oddOf l + cutsOf l = l.length) (h2 : by' + cutsOf l = l.length) :
    ∀ d i k (o c : Nat), i + d = l.length → d < k → o ≤ i → c ≤ i → o + oddOf (l.drop i) = oddOf l → c + cutsOf (l.drop i) = cutsOf l → laws_FnStatSum.l2 N k all (o : Nat) by' (c : Nat) (i : Nat) l = some (true, ())
  | 0, i, k, o, c, e, hk, ho, hc, q1, q2 => by
    obtain ⟨k, rfl⟩ := fuel hk
    obtain rfl : i = l.length := by omega
    rw [List.drop_length] at q1 q2
    have z1 : oddOf [] = 0 := rfl
    have z2 : cutsOf [] = 0 := rfl
    rw [laws_FnStatSum.l2, cf (by omega), w64 (n := all + (o : Int)) (by omega) (by omega), w64 (n := all + (o : Int) + c) (by omega) (by omega), w64 (n := by' + (c : Int)) (by omega) (by omega), beq_iff_eq.2 (by omega), beq_iff_eq.2 (by omega)]; rfl
  | d + 1, i, k, o, c, e, hk, ho, hc, q1, q2 => by
    obtain ⟨k, rfl⟩ := fuel hk
    have d1 := oddOf_drop l i (by omega)
    have d2 := cuts_drop l i (by omega)
    have ih := fun o c h1' h2' h3 h4 => sum_l2 N l hl all by' ha hb h1 h2 d (i + 1) k o c (by omega) (by omega) h1' h2' h3 h4
    have hg : l.getD i (false, 0, (0, 0, 0, 0), 0, 0) = l.getD i itm0 := rfl
    have wi' : ∀ n : Nat, n ≤ 100000 → IntKind.i64.wrap ((n : Int) + 1) = ((n + 1 : Nat) : Int) := fun n h => wi (by omega)
    rw [laws_FnStatSum.l2, ct (by omega), bnd (by omega) (by omega), wi' i (by omega), wi' o (by omega), wi' c (by omega), Int.toNat_natCast, hg]
    unfold oddB at d1
    cases ht : (l.getD i itm0).1
    rotate_left
    · rw [ht] at d1 d2
      simp only [Bool.not_true, Bool.false_and, Bool.false_eq_true, if_false, if_true] at d1 d2
      exact ih o (c + 1) (by omega) (by omega) (by omega) (by omega)
    rw [ht] at d1 d2
    simp only [Bool.not_false, Bool.true_and, Bool.false_eq_true, if_false] at d1 d2
    rw [cond_false, bnd (by omega) (by omega)]
    by_cases c1 : (l.getD i itm0).2.2.2.1 < 0
    · rw [dt (.inl c1), if_pos rfl] at d1
      rw [ct c1]; exact ih (o + 1) c (by omega) (by omega) (by omega) (by omega)
    rw [cf c1, bnd (by omega) (by omega)]
    by_cases c2 : (l.getD i itm0).2.2.2.1 > 13
    · rw [dt (.inr c2), if_pos rfl] at d1
      rw [ct c2]; exact ih (o + 1) c (by omega) (by omega) (by omega) (by omega)
    · rw [df (by omega)] at d1
      simp only [Bool.false_eq_true, if_false] at d1
      rw [cf c2]; exact ih o c (by omega) (by omega) (by omega) (by omega)
theorem taleOf_mem {l : List Itm} {g : Int} {t : Itm} (h : t ∈ taleOf l g) : t.1 = false ∧ t.2.1 = g := by
  unfold taleOf at h
  have := (List.mem_filter.1 h).2
  rw [Bool.and_eq_true, beq_iff_eq] at this
  exact ⟨by cases ht : t.1; rfl; rw [ht] at this; exact absurd this.1 (by decide), this.2⟩
theorem sum_l1 (N : Nat) (hN : Fuel N) (l : List Itm) (hl : l.length ≤ 1000) (all : Int) (z : Option (Bool × Unit)) (hend : ∀ k, 2000 < k → laws_FnStatSum.l2 N k all 0 (((taleOf l 0).length + (taleOf l 1).length + (taleOf l 2).length : Nat) : Int) 0 0 l = z) (k : Nat) (hk : 3000 < k) :
    laws_FnStatSum.l1 N (k + 1 + 1 + 1 + 1) all 0 0 0 l (byGuest l 3) = z := by
  have hs : Short l := by unfold Short; omega
  have hbl : (byGuest l 3).length = 3 := byGuest_len l 3
  have hg : ∀ g : Nat, g < 3 → (byGuest l 3).getD g 0 = ((taleOf l (g : Nat)).length : Int) := fun g hg => by
    unfold byGuest
    rw [getD_lt (by simp; omega)]; simp
  have step : ∀ (g : Nat) (by' : Int) (k : Nat), g < 3 → 0 ≤ by' → by' ≤ 10000 → laws_FnStatSum.l1 N (k + 1) all 0 by' (g : Nat) l (byGuest l 3) = laws_FnStatSum.l1 N k all 0 (by' + (taleOf l (g : Nat)).length) ((g + 1 : Nat) : Int) l (byGuest l 3) := by
    intro g by' k hg3 h1 h2
    have ht := taleOf_len l (g : Nat)
    rw [laws_FnStatSum.l1, ct (by omega), bnd (by omega) (by omega), impl_StatLast_eq N hN l _ hs]
    simp only [Option.bind_some]
    rw [bnd (by omega) (by omega), Int.toNat_natCast, hg g hg3, w64 (n := by' + _) (by omega) (by omega), w64 (n := (g : Int) + 1) (by omega) (by omega), show (g : Int) + 1 = ((g + 1 : Nat) : Int) by omega]
    unfold statLast
    by_cases c : (taleOf l (g : Nat)).length = 0
    · rw [if_pos c, df (by omega)]; rfl
    · rw [if_neg c, dt (by omega)]
      have hm : (taleOf l (g : Nat)).getD ((taleOf l (g : Nat)).length - 1) itm0 ∈ taleOf l (g : Nat) := by rw [getD_lt (by omega)]; exact List.getElem_mem _
      have := taleOf_mem hm
      dsimp only
      rw [this.1, this.2, bne_self_eq_false]; rfl
  have h0 := taleOf_len l 0
  have h1 := taleOf_len l 1
  have e0 := step 0 0 (k + 1 + 1 + 1) (by omega) (by omega) (by omega)
  have e1 := step 1 (0 + (taleOf l (0 : Nat)).length) (k + 1 + 1) (by omega) (by omega) (by have : ((0 : Nat) : Int) = 0 := rfl; rw [this]; omega)
  have e2 := step 2 (0 + (taleOf l (0 : Nat)).length + (taleOf l (1 : Nat)).length) (k + 1) (by omega) (by omega) (by have : ((0 : Nat) : Int) = 0 := rfl; have t : ((1 : Nat) : Int) = 1 := rfl; rw [this, t]; omega)
  have : laws_FnStatSum.l1 N (k + 1 + 1 + 1 + 1) all 0 0 ((0 : Nat) : Int) l (byGuest l 3) = z := by
    rw [e0, e1, e2, laws_FnStatSum.l1, cf (by omega)]
    have e : (0 : Int) + (taleOf l ((0 : Nat) : Int)).length + (taleOf l ((1 : Nat) : Int)).length + (taleOf l ((2 : Nat) : Int)).length = (((taleOf l 0).length + (taleOf l 1).length + (taleOf l 2).length : Nat) : Int) := by
      have t0 : ((0 : Nat) : Int) = 0 := rfl
      have t1 : ((1 : Nat) : Int) = 1 := rfl
      have t2 : ((2 : Nat) : Int) = 2 := rfl
      rw [t0, t1, t2]; omega
    rw [e]
    exact hend k (by omega)
  exact this
theorem allC_le (l : List Itm) (hl : l.length ≤ 1000) : ∀ n, 0 ≤ allC l n ∧ allC l n ≤ 1000 * n := fun n =>
  sm_le (fun j => (l.countP (isC j) : Nat)) 1000 n (fun j _ => by
    have : l.countP (isC j) ≤ l.length := List.countP_le_length
    omega)
theorem sum_l0 (N : Nat) (l : List Itm) (hl : l.length ≤ 1000) (gs : List Int) (z : Option (Bool × Unit)) (m : Nat) (hend : ∀ k, m < k → laws_FnStatSum.l1 N k (allC l 14) 0 0 0 l gs = z) :
    ∀ d i k, i + d = 14 → m + d + 1 < k → laws_FnStatSum.l0 N k (allC l i) 0 (i : Nat) l (codesOn l (List.replicate 14 0)) gs (codesOn l (List.replicate 14 0)) = z
  | 0, i, k, e, hk => by
    obtain ⟨k, rfl⟩ := fuel (show 0 < k by omega)
    have hc := codesOn_len l
    obtain rfl : i = 14 := by omega
    rw [laws_FnStatSum.l0, cf (by omega)]
    exact hend k (by omega)
  | d + 1, i, k, e, hk => by
    obtain ⟨k, rfl⟩ := fuel (show 0 < k by omega)
    have hc := codesOn_len l
    have hle := allC_le l hl (i + 1)
    have hs : allC l (i + 1) = allC l i + (l.countP (isC i) : Nat) := rfl
    rw [laws_FnStatSum.l0, ct (by omega), ct (by omega), bnd (by omega) (by omega), bnd (by omega) (by omega), bne_self_eq_false, cond_false, bnd (by omega) (by omega), Int.toNat_natCast, codes_at l i (by omega), ← hs, w64 (n := allC l (i + 1)) (by omega) (by omega), w64 (n := (i : Int) + 1) (by omega) (by omega), show (i : Int) + 1 = ((i + 1 : Nat) : Int) by omega]
    exact sum_l0 N l hl gs z m hend d (i + 1) k (by omega) (by omega)
theorem plainStatSum (N : Nat) (hN : Fuel N) (code : List Int) (hc : ∀ x ∈ code, 0 ≤ x ∧ x ≤ 255) : laws_FnStatSum N code = some (true, ()) := by
  unfold laws_FnStatSum
  by_cases hl : (code.length : Int) > 1048576
  · rw [ct hl]
  rw [cf hl]
  obtain ⟨r, e, hi⟩ : Ok (spec_DrawStatCodes N code) (fun r => ItmsD r.2 6) := by
    unfold spec_DrawStatCodes
    exact (l15Items_ok hN hc).bind fun u1 g1 => Ok.val g1
  have hlen := hi.1
  rw [e]
  simp only [Option.bind_some]
  obtain ⟨u, l⟩ := r
  dsimp only at hlen hi ⊢
  have s0 : Short l := by unfold Short; omega
  have h3 : (low 3 100).toNat = 3 := rfl
  rw [impl_StatCodes_eq N hN l s0, impl_StatGuests_eq N hN l s0, h3, spec_StatCodes_eq N hN l s0]
  simp only [Option.bind_some]
  have hall := all_codes l
  have hgs := guests_all l hi.2
  have hle := allC_le l (by omega) 14
  refine sum_l0 N l (by omega) (byGuest l 3) _ 10000 (fun k hk => ?_) 14 0 N (by omega) (by unfold Fuel at hN; omega)
  obtain ⟨k, rfl⟩ : ∃ j, k = j + 1 + 1 + 1 + 1 := ⟨k - 4, by omega⟩
  refine sum_l1 N hN l (by omega) _ _ (fun k hk => ?_) k (by omega)
  exact sum_l2 N l (by omega) (allC l 14) _ (by omega) (by omega) (by omega) (by omega) l.length 0 k 0 0 (by omega) (by omega) (by omega) (by omega) (by rw [List.drop_zero]; omega) (by rw [List.drop_zero]; omega)
theorem lawFnStatSum (y0 : List Int) (w0 : Wf (.sl .frz (.int .u8)) y0) : laws_FnStatSum N0 y0 = some (true, ()) := plainStatSum N0 hN0 y0 (wf_bytes w0)
end Go.Proofs.Ytdhdlnojoonhcaa.Pv
