import Derived.Test.YtdhdlnojoonhcaaGreatZ5Pb
import Derived.Test.YtdhdlnojoonhcaaGreatPvRow
namespace Go.Proofs.YtdhdlnojoonhcaaGreat.Pv
open Go Go.Pv Go.Proofs
set_option linter.unusedVariables false
set_option linter.unusedSimpArgs false
theorem q0 (N : Nat) (hN : Fuel N) (w : Wld) (hw : Words w.1) (hs6 : Short w.2) (i : Int) (op : Op) : impl_costs N w i op = some (costsP w i op) := by
  unfold impl_costs
  rw [impl_WorldOk_eq N hN w hw,worldOk]
  unfold Short at hs6
  simp only [Ob]
  by_cases h : WorldP w
  rotate_left
  · rw [tf_f h,costs_no (fun g => h g.1)]; rfl
  rw [tf_t h,Bool.not_true,cond_false]
  unfold lh_impl_World_isGuest
  rw [impl_within_eq]
  simp only [Ob]
  rw [w64 (n := (w.2.length : Int) - 1) (by omega) (by omega)]
  by_cases c : 0 ≤ i ∧ i ≤ (w.2.length : Int) - 1
  rotate_left
  · rw [df c,costs_no (fun g => by have h1 := g.2.1; have h2 := g.2.2.1; omega)]; rfl
  rw [dt c,Bool.not_true,cond_false,bnd (by omega) (by omega)]
  simp only [fold_gt]
  obtain ⟨l1,l2,l3⟩ := whole_len h.1
  have hgp := h.2.2 i.toNat (by omega)
  have hg := GuestP.slot hgp
  have hep : 0 ≤ (gt w.2 i.toNat).2.2.1 := hgp.2.2.2.1.2.2.1
  have hp : Plat (wcfg w.1) := h.1.plat
  have hp' := hp
  unfold Plat at hp'
  have hl := h.1.len
  have hz : (w.1.length : Int) = size (wcfg w.1) := hl
  unfold size at hz
  have hv := val_in (w.1.getD 2 0)
  have hv' : w.1.getD 2 0 % 4294967296 = valOf (w.1.getD 2 0) := rfl
  have hx : w.1.getD 2 0 / 4294967296 = stampOf (w.1.getD 2 0) := rfl
  rw [show (gt w.2 i.toNat).2.2.2.2.2.2.2.2.2.2.2.2.2.2.2.2.2.2.2.2.2.2 = cntG (gt w.2 i.toNat) from rfl]
  cases d1 : (gt w.2 i.toNat).1
  · rw [Bool.not_false,cond_true,costs_no (fun g => by have := g.2.2.2.1; rw [d1] at this; cases this)]
  rw [Bool.not_true,cond_false]
  cases d2 : (gt w.2 i.toNat).2.2.2.1
  rotate_left
  · rw [cond_true,costs_no (fun g => by have := g.2.2.2.2.1; rw [d2] at this; cases this)]
  rw [cond_false,cndb]
  by_cases d3 : (gt w.2 i.toNat).2.2.1 = 0
  · rw [if_pos d3,costs_no (fun g => by have := g.2.2.2.2.2.1; omega)]
  rw [if_neg d3]
  by_cases d4 : cntG (gt w.2 i.toNat) ≥ 1000000
  · rw [ct d4,costs_no (fun g => by have := g.2.2.2.2.2.2.1; omega)]
  rw [cf d4]
  unfold lh_impl_World_cfg impl_CellDoorOf
  rw [impl_PlatCheck_eq N hw,if_pos h.1]
  simp only [Ob]
  rw [show cfg (w.1.getD 0 0) = wcfg w.1 from rfl,ct (p := 2 < (w.1.length : Int)) (by omega),impl_CellVal_eq N (hw.at 2),impl_regAt_eq,impl_beatAt_eq N hp]
  simp only [Ob]
  rw [w64 (n := 3 + (gt w.2 i.toNat).2.1) (by omega) (by omega),w64 (n := 3 + (wcfg w.1).1 + (gt w.2 i.toNat).2.1) (by omega) (by omega),bnd (by omega) (by omega),impl_CellRegOf_eq N (hw.at _)]
  simp only [Ob]
  rw [bnd (by omega) (by omega),impl_CellStamp_eq N (hw.at 2),impl_CellStamp_eq N (hw.at (3 + (wcfg w.1).1 + (gt w.2 i.toNat).2.1).toNat)]
  simp only [Ob]
  rw [hv',hx,tm hv.1,show w.1.getD (3 + (gt w.2 i.toNat).2.1).toNat 0 % 4294967296 % 4 = stOf (regW w.1 (gt w.2 i.toNat).2.1) from rfl,show w.1.getD (3 + (gt w.2 i.toNat).2.1).toNat 0 % 4294967296 / 4 = epOf (regW w.1 (gt w.2 i.toNat).2.1) from rfl,show w.1.getD (3 + (wcfg w.1).1 + (gt w.2 i.toNat).2.1).toNat 0 / 4294967296 = stampOf (beatW w.1 (gt w.2 i.toNat).2.1) from rfl,cndn,cndn,cndn,cndn]
  by_cases d5 : valOf (w.1.getD 2 0) % 4 = 0
  rotate_left
  · rw [if_neg d5,costs_no (fun g => by have := g.2.2.2.2.2.2.2.1; omega)]
  rw [if_pos d5,impl_within_eq]
  simp only [Ob]
  by_cases d6 : 1 ≤ stampOf (w.1.getD 2 0) ∧ stampOf (w.1.getD 2 0) ≤ 999999
  rotate_left
  · rw [df d6,costs_no (fun g => by have h1 := g.2.2.2.2.2.2.2.2.2.1; have h2 := g.2.2.2.2.2.2.2.2.1; omega)]; rfl
  rw [dt d6,Bool.not_true,cond_false]
  by_cases d8 : stOf (regW w.1 (gt w.2 i.toNat).2.1) = 1
  rotate_left
  · rw [if_neg d8,costs_no (fun g => d8 g.2.2.2.2.2.2.2.2.2.2.1)]
  rw [if_pos d8]
  by_cases d9 : epOf (regW w.1 (gt w.2 i.toNat).2.1) = (gt w.2 i.toNat).2.2.1
  rotate_left
  · rw [if_neg d9,costs_no (fun g => d9 g.2.2.2.2.2.2.2.2.2.2.2.1)]
  rw [if_pos d9]
  by_cases d10 : stampOf (beatW w.1 (gt w.2 i.toNat).2.1) = (gt w.2 i.toNat).2.2.1
  rotate_left
  · rw [if_neg d10,costs_no (fun g => d10 g.2.2.2.2.2.2.2.2.2.2.2.2)]
  rw [if_pos d10,impl_PlanOf_eq N hN hw,costs_yes ⟨h,by omega,by omega,d1,d2,by omega,by omega,d5,by omega,by omega,d8,d9,d10⟩]
  rfl
noncomputable def cS (w : Wld) (i : Int) (op : Op) : Int := @ite _ (ReadyP w i) (Classical.propDecidable _)
  (if 2 ≤ op.1 ∧ op.1 ≤ 5 then (if (planP w.1 (opG w i op) 1).2.1 = 13 then 0 else if (planP w.1 (opG w i op) 1).2.1 = 5 then house (wcfg w.1) + 6 else house (wcfg w.1) + 9 + 4 * ((planP w.1 (opG w i op) 1).1.length : Int)) else 0) 0
theorem sn {w : Wld} {i : Int} {op : Op} (h : ¬ ReadyP w i) : cS w i op = 0 := if_neg h
theorem sy {w : Wld} {i : Int} {op : Op} (h : ReadyP w i) : cS w i op = (if 2 ≤ op.1 ∧ op.1 ≤ 5 then (if (planP w.1 (opG w i op) 1).2.1 = 13 then 0 else if (planP w.1 (opG w i op) 1).2.1 = 5 then house (wcfg w.1) + 6 else house (wcfg w.1) + 9 + 4 * ((planP w.1 (opG w i op) 1).1.length : Int)) else 0) := if_pos h
theorem sCS (N : Nat) (hN : Fuel N) (w : Wld) (hw : Words w.1) (i : Int) (op : Op) : spec_CostSteps N w i op = some (cS w i op,()) := by
  unfold spec_CostSteps
  rw [spec_Ready_eq N hN w hw]
  simp only [Ob]
  by_cases h : ReadyP w i
  rotate_left
  · rw [tf_f h,sn h]; rfl
  have h1 := h.2.1
  have h2 := h.2.2.1
  rw [tf_t h,Bool.not_true,cond_false,sy h]
  by_cases c1 : op.1 < 2
  · rw [ct c1,if_neg (by omega)]
  rw [cf c1]
  by_cases c2 : op.1 > 5
  · rw [ct c2,if_neg (by omega)]
  have hp : Plat (wcfg w.1) := h.1.1.plat
  have hp' := hp
  unfold Plat at hp'
  have hpl := planP_len w.1 (opG w i op) 1
  have hh : house (wcfg w.1) = 7 + 2 * (wcfg w.1).1 + 17 * (wcfg w.1).2.1 := rfl
  rw [cf c2,spec_PlatCheck_eq N hw,if_pos h.1.1]
  simp only [Ob,fold_gt]
  rw [bnd h1 h2,if_pos (by omega)]
  rw [show cfg (w.1.getD 0 0) = wcfg w.1 from rfl,spec_PlanOf_eq N hN hw,spec_l2House_eq N hp]
  simp only [Ob]
  rw [show (op.1,(gt w.2 i.toNat).2.1,op.2.2) = opG w i op from rfl,cndb,cndb,w64 (n := house (wcfg w.1) + 6) (by omega) (by omega),w64 (n := house (wcfg w.1) + 9) (by omega) (by omega),w64 (n := 4 * ((planP w.1 (opG w i op) 1).1.length : Int)) (by omega) (by omega),w64 (n := house (wcfg w.1) + 9 + 4 * ((planP w.1 (opG w i op) 1).1.length : Int)) (by omega) (by omega)]
  split
  · rfl
  split <;> rfl
theorem iCS (N : Nat) (hN : Fuel N) (w : Wld) (hw : Words w.1) (hs6 : Short w.2) (i : Int) (op : Op) : impl_CostSteps N w i op = some (cS w i op,()) := by
  unfold impl_CostSteps
  rw [q0 N hN w hw hs6]
  simp only [Ob]
  by_cases h : ReadyP w i
  rotate_left
  · rw [costs_no h,sn h]; rfl
  have hp : Plat (wcfg w.1) := h.1.1.plat
  have hp' := hp
  unfold Plat at hp'
  have hpl := planP_len w.1 (opG w i op) 1
  have hh : house (wcfg w.1) = 7 + 2 * (wcfg w.1).1 + 17 * (wcfg w.1).2.1 := rfl
  rw [costs_yes h,sy h,impl_within_eq]
  simp only [Ob,Bool.not_true,cond_false]
  by_cases c : 2 ≤ op.1 ∧ op.1 ≤ 5
  rotate_left
  · rw [df c,if_neg c]; rfl
  unfold lh_impl_World_cfg
  rw [dt c,if_pos c,Bool.not_true,cond_false,cndb,impl_PlatCheck_eq N hw,if_pos h.1.1]
  simp only [Ob]
  rw [show cfg (w.1.getD 0 0) = wcfg w.1 from rfl,impl_deskAt_eq N hp]
  simp only [Ob]
  rw [cndb,w64 (n := house (wcfg w.1) + 6) (by omega) (by omega),w64 (n := house (wcfg w.1) + 9) (by omega) (by omega),w64 (n := 4 * ((planP w.1 (opG w i op) 1).1.length : Int)) (by omega) (by omega),w64 (n := house (wcfg w.1) + 9 + 4 * ((planP w.1 (opG w i op) 1).1.length : Int)) (by omega) (by omega)]
  split
  · rfl
  split <;> rfl
theorem pCS (N : Nat) (hN : Fuel N) (a : Wld) (ha : WLens a) (hw : Words a.1) (i : Int) (op : Op) : laws_FnExactCostSteps N a i op = some (true,()) := by
  unfold laws_FnExactCostSteps
  have h0 := szGs_ge a.2
  have h1 : 0 ≤ szW a := by unfold szW; omega
  rw [szWorld_eq N hN a _ (by omega) (by omega) ha]
  simp only [Ob]
  by_cases h : (1048576 : Int) - szW a < 0
  · rw [rest,if_pos h]; rfl
  have sa := WShort.of (w := a) (by omega)
  rw [rest,if_neg h,cf h]
  simp only [laws_toBookOp,toWorld_eq N hN _ sa,Ob,sCS N hN a hw,iCS N hN a hw sa.2.1,bne_self_eq_false,Bool.not_true,cond_false,eqWorld_eq N hN _ sa]
theorem lawFnExactCostSteps (y0 : Wld) (y1 : Int) (y2 : Op) (w0 : Wf tyWld y0) (w1 : Wf (.int .i64) y1) (w2 : Wf (.agg (.pair (.int .i64) (.pair (.int .i64) (.pair (.int .i64) (.int .i64))))) y2) : laws_FnExactCostSteps N0 y0 y1 y2 = some (true,()) := pCS N0 hN0 y0 (wf_wlens w0) (wf_words w0.1) y1 y2
end Go.Proofs.YtdhdlnojoonhcaaGreat.Pv
