import Derived.Test.YtdhdlnojoonhcaaGreatZ6Pb
import Derived.Test.YtdhdlnojoonhcaaGreatPvRow
namespace Go.Proofs.YtdhdlnojoonhcaaGreat.Pv
open Go Go.Pv Go.Proofs
set_option linter.unusedVariables false
set_option linter.unusedSimpArgs false
theorem plainTerm (N : Nat) (hN : Fuel N) (a0 : List Int) (hc0 : ∀ x ∈ a0,0 ≤ x ∧ x ≤ 255) : laws_FnTerm N a0 = some (true,()) := by
  unfold laws_FnTerm
  by_cases hl : (a0.length : Int) > 1048576
  · rw [ct hl]
  rw [cf hl]
  obtain ⟨w,s,e,hw,hlw⟩ := draw_term hN hc0
  rw [e]
  simp only [Ob]
  rw [impl_TermLeft_eq N hw,impl_TermOver_eq N hw,spec_TermLeft_eq N hw,spec_TermOver_eq N hw]
  simp only [Ob,bne_self_eq_false,cond_false,beq_self_eq_true,Bool.not_true]
  rw [impl_PlatCheck_eq N hw]
  simp only [Ob]
  by_cases hs : HasSlot w s
  rotate_left
  · have hL : termLeft w s = 0 := by unfold termLeft; rw [if_neg (fun g => hs g.1)]
    have hO : termOver w s = false := df (fun g => hs g.1)
    rw [hL,hO,cond_false]
    by_cases hW : Whole w
    · rw [if_pos hW,Bool.not_true,cond_false]
      by_cases c1 : s < 0
      · rw [ct c1]; rfl
      rw [cf c1,ct (show s ≥ (cfg (w.getD 0 0)).1 from Classical.byContradiction fun g => hs ⟨hW,by omega,by show s < (cfg (w.getD 0 0)).1; omega⟩)]; rfl
    · rw [if_neg hW]; rfl
  obtain ⟨hW,hs1,hs2⟩ := hs
  have hp := hW.plat
  have hp' := hp
  unfold Plat at hp'
  have hll := whole_len hW
  have hz := hW.len
  have hsl : HasSlot w s := ⟨hW,hs1,hs2⟩
  rw [if_pos hW,show cfg (w.getD 0 0) = wcfg w from rfl]
  simp only [Bool.not_true,cond_false]
  rw [cf (show ¬ s < 0 by omega),cf (show ¬ s ≥ (wcfg w).1 by omega),impl_Reg_eq N hp ⟨hs1,hs2⟩,impl_Beat_eq N hp ⟨hs1,hs2⟩]
  simp only [Ob]
  rw [bnd (by omega) (by omega),impl_CellRegOf_eq N (hw.at _)]
  simp only [Ob]
  rw [bnd (by omega) (by omega),impl_CellStamp_eq N (hw.at _),impl_CellVal_eq N (hw.at 1)]
  simp only [Ob]
  rw [show w.getD (3 + s).toNat 0 % 4294967296 % 4 = stOf (regW w s) from rfl,show w.getD (3 + s).toNat 0 % 4294967296 / 4 = epOf (regW w s) from rfl,show w.getD (3 + (wcfg w).1 + s).toNat 0 / 4294967296 = sp (beatW w s) from rfl,show w.getD 1 0 % 4294967296 = vl (w.getD 1 0) from rfl]
  have hvb := vl_lt (beatW w s)
  have hvc := vl_lt (w.getD 1 0)
  have hlive : ∀ (x : Option (Bool × Unit)),stOf (regW w s) = 1 → (bif stOf (regW w s) == 1 then some (true,()) else x) = some (true,()) := fun x h => by rw [cndb,if_pos h]
  cases hO : termOver w s
  rotate_left
  · have hov : IsOver w s := of_decide_eq_true hO
    obtain ⟨_,o1,o2⟩ := hov
    have hL : termLeft w s = 0 := by
      unfold termLeft
      rw [if_pos ⟨hsl,o1⟩]
      rcases o2 with o2 | o2
      · rw [if_neg (by omega),if_pos o2]
      · rw [if_neg (by omega),if_neg (by omega)]
        unfold low
        rw [if_pos (by omega)]
    rw [hL,cond_true,cond_true,cf (by omega),cndn,if_pos o1,hlive _ o1,cndn]
    split <;> rfl
  have hno : ¬ IsOver w s := of_decide_eq_false hO
  rw [cond_false,cond_false,cndn]
  by_cases o1 : stOf (regW w s) = 1
  rotate_left
  · have hL : termLeft w s = 0 := by unfold termLeft; rw [if_neg (fun g => o1 g.2)]
    rw [if_neg o1,cndb,if_neg o1,hL]; rfl
  rw [if_pos o1,hlive _ o1,cndn]
  by_cases o2 : sp (beatW w s) = epOf (regW w s)
  rotate_left
  · rw [if_neg o2]
  rw [if_pos o2]
  by_cases o3 : termLeft w s > (wcfg w).2.2
  · rw [ct o3]
  rw [cf o3,ct (by omega)]
  by_cases o4 : vl (w.getD 1 0) > 1000000
  · rw [ct o4]
  have hle : vl (w.getD 1 0) - vl (beatW w s) ≤ (wcfg w).2.2 := Classical.byContradiction fun g => hno ⟨hsl,o1,.inr ⟨o2,by omega⟩⟩
  have hT : termLeft w s = (wcfg w).2.2 - (vl (w.getD 1 0) - vl (beatW w s)) := by
    have e0 : termLeft w s = low ((wcfg w).2.2 - (vl (w.getD 1 0) - vl (beatW w s))) 2000000 := by
      unfold termLeft
      rw [if_pos ⟨hsl,o1⟩,if_neg (by omega),if_neg (by omega)]
    rw [e0] at o3 ⊢
    unfold low at o3 ⊢
    rw [if_neg (by omega)] at o3 ⊢
    split
    · rename_i h; rw [if_pos h] at o3; omega
    · rfl
  have hT0 : 0 ≤ termLeft w s := by omega
  have w1 : IntKind.i64.wrap (vl (w.getD 1 0) + termLeft w s) = vl (w.getD 1 0) + termLeft w s := w64 (by omega) (by omega)
  have w2 : IntKind.i64.wrap (vl (w.getD 1 0) + termLeft w s + 1) = vl (w.getD 1 0) + termLeft w s + 1 := w64 (by omega) (by omega)
  rw [cf o4,ct (by simp; omega),ct (by omega),w1,w2,impl_CellPack_eq,impl_CellPack_eq,List.nil_append]
  simp only [Ob]
  obtain ⟨x1,x2,x3,x4,x5⟩ := clock_set hW (pack (vl (w.getD 1 0) + termLeft w s) 0) s ⟨hs1,hs2⟩
  obtain ⟨y1,y2,y3,y4,y5⟩ := clock_set hW (pack (vl (w.getD 1 0) + termLeft w s + 1) 0) s ⟨hs1,hs2⟩
  have hxw : Words (w.set 1 (pack (vl (w.getD 1 0) + termLeft w s) 0)) := words_set hw _ (pack_w _ _)
  have hyw : Words (w.set 1 (pack (vl (w.getD 1 0) + termLeft w s + 1) 0)) := words_set hw _ (pack_w _ _)
  have hx : termOver (w.set 1 (pack (vl (w.getD 1 0) + termLeft w s) 0)) s = false := df (fun g => by
    have g2 := g.2.2
    rw [x1,x3,x4,x5,show vl (pack (vl (w.getD 1 0) + termLeft w s) 0) = vl (w.getD 1 0) + termLeft w s from pack_val (by omega) (by omega)] at g2
    omega)
  have hy : termOver (w.set 1 (pack (vl (w.getD 1 0) + termLeft w s + 1) 0)) s = true := dt ⟨y2,by rw [y3]; exact o1,.inr ⟨by rw [y3,y4]; exact o2,by
    rw [y1,y4,y5,show vl (pack (vl (w.getD 1 0) + termLeft w s + 1) 0) = vl (w.getD 1 0) + termLeft w s + 1 from pack_val (by omega) (by omega)]
    omega⟩⟩
  rw [ct (by omega),List.set_set,impl_TermOver_eq N hxw,hx]
  simp only [Ob]
  rw [cond_false,ct (by rw [List.length_set]; omega),impl_TermDead_eq N hN hyw]
  simp only [Ob]
  have hD : s ∈ termDead (w.set 1 (pack (vl (w.getD 1 0) + termLeft w s + 1) 0)) := by
    unfold termDead deadTo
    rw [if_pos y2.1,y1]
    refine List.mem_filter.2 ⟨List.mem_map.2 ⟨s.toNat,List.mem_range.2 (by omega),by omega⟩,?_⟩
    unfold isDead
    rw [hy,Bool.or_true]
  have hlD : (termDead (w.set 1 (pack (vl (w.getD 1 0) + termLeft w s + 1) 0))).length ≤ 1000 := by
    unfold termDead
    rw [if_pos y2.1,y1]
    have := deadTo_len (w.set 1 (pack (vl (w.getD 1 0) + termLeft w s + 1) 0)) (wcfg w).1.toNat
    omega
  exact term_find N hyw hlD hy (termDead (w.set 1 (pack (vl (w.getD 1 0) + termLeft w s + 1) 0))).length 0 N (by omega) (by unfold Fuel at hN; omega) (by rw [List.drop_zero]; exact hD)
theorem lawFnTerm (y0 : List Int) (w0 : Wf (.sl .frz (.int .u8)) y0) : laws_FnTerm N0 y0 = some (true,()) := plainTerm N0 hN0 y0 (wf_bytes w0)
end Go.Proofs.YtdhdlnojoonhcaaGreat.Pv
