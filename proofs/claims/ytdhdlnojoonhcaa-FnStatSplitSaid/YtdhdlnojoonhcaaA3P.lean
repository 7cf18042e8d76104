/- The plain law of FnStatSplit, part 2: what the functions compute, over numbers and lists. -/
import Derived.Test.YtdhdlnojoonhcaaA3Pa
import Derived.Test.YtdhdlnojoonhcaaPvRow
namespace Go.Proofs.Ytdhdlnojoonhcaa.Pv
open Go Go.Pv Go.Proofs
set_option linter.unusedVariables false
set_option linter.unusedSimpArgs false
theorem plainStatSplit (N : Nat) (hN : Fuel N) (code more : List Int) (hc : ∀ x ∈ code, 0 ≤ x ∧ x ≤ 255) : laws_FnStatSplit N code more = some (true, ()) := by
  unfold laws_FnStatSplit
  by_cases hl : (code.length : Int) > 1048576
  · rw [ct hl]
  rw [cf hl]
  by_cases hm : (more.length : Int) > 1048576
  · rw [ct hm]
  rw [cf hm]
  obtain ⟨r, e, hi⟩ : Ok (spec_DrawStatRooms N code) (fun r => ItmsD r.2 6) := by
    unfold spec_DrawStatRooms
    exact (l15Items_ok hN hc).bind fun u1 g1 => Ok.val g1
  have hlen := hi.1
  rw [e]
  simp only [Option.bind_some]
  obtain ⟨u, l⟩ := r
  dsimp only at hlen hi ⊢
  obtain ⟨q, hq⟩ : ∃ q : Nat, q = more.length % (l.length + 1) := ⟨_, rfl⟩
  have hql : q < l.length + 1 := by rw [hq]; exact Nat.mod_lt _ (by omega)
  have hqe : Int.tmod (more.length : Int) (((l.length : Nat) : Int) + 1) = (q : Int) := by
    rw [tm (by omega), hq, Int.natCast_emod]; rfl
  have t1 : ((l.drop 0).take (q - 0)) = l.take q := by rw [List.drop_zero, Nat.sub_zero]
  have t2 : (l.drop q).take (l.length - q) = l.drop q := List.take_of_length_le (by rw [List.length_drop]; omega)
  have s0 : Short l := by unfold Short; omega
  have l1 : (l.take q).length ≤ 6 := by rw [List.length_take]; omega
  have l2 : (l.drop q).length ≤ 6 := by rw [List.length_drop]; omega
  have s1 : Short (l.take q) := by unfold Short; omega
  have s2 : Short (l.drop q) := by unfold Short; omega
  rw [w64 (n := (l.length : Int) + 1) (by omega) (by omega), cf (by omega), hqe, Int.toNat_natCast, t1, t2, dt (show (0 : Int) ≤ q by omega), dt (show (q : Int) ≤ l.length by omega)]
  simp only [cond_true, impl_StatRooms_eq N hN l (by omega), impl_StatRooms_eq N hN (l.take q) (by omega), impl_StatRooms_eq N hN (l.drop q) (by omega), spec_StatRooms_eq N hN l (by omega), impl_StatCodes_eq N hN l s0, impl_StatCodes_eq N hN _ s1, impl_StatCodes_eq N hN _ s2, Option.bind_some]
  have app : ∀ P : Itm → Bool, l.countP P = (l.take q).countP P + (l.drop q).countP P := fun P => by rw [← List.countP_append, List.take_append_drop]
  have a1 := app (isK 2 0)
  have a2 := app (isK 3 0)
  have a3 := app (isK 6 10)
  refine split_loop N _ _ _ _ _ _ _ _ _ _ _ _ _ _ _ (codesOn_len _) (codesOn_len _) (codesOn_len _) (fun j hj => ?_) _ (fun k => ?_) 14 0 N (by omega) (by unfold Fuel at hN; omega)
  · rw [codes_at _ j hj, codes_at _ j hj, codes_at _ j hj]
    have := app (isC j)
    have h3 : l.countP (isC j) ≤ l.length := List.countP_le_length
    omega
  · have hcl := codesOn_len l
    have e1 : (cntK 2 0 l : Int) = (cntK 2 0 (l.take q) : Int) + (cntK 2 0 (l.drop q) : Int) := by unfold cntK; omega
    have e2 : (cntK 3 0 l : Int) = (cntK 3 0 (l.take q) : Int) + (cntK 3 0 (l.drop q) : Int) := by unfold cntK; omega
    have e3 : (cntK 6 10 l : Int) = (cntK 6 10 (l.take q) : Int) + (cntK 6 10 (l.drop q) : Int) := by unfold cntK; omega
    have b1 := cntK_le 2 0 l
    have b2 := cntK_le 3 0 l
    have b3 := cntK_le 6 10 l
    rw [laws_FnStatSplit.l0, cf (by omega), beq_self_eq_true, beq_self_eq_true, beq_self_eq_true, ← e1, ← e2, ← e3, w64 (n := (cntK 2 0 l : Int)) (by omega) (by omega), w64 (n := (cntK 3 0 l : Int)) (by omega) (by omega), w64 (n := (cntK 6 10 l : Int)) (by omega) (by omega), beq_self_eq_true, beq_self_eq_true, beq_self_eq_true]
    rfl
theorem lawFnStatSplit (y0 y1 : List Int) (w0 : Wf (.sl .frz (.int .u8)) y0) (w1 : Wf (.sl .frz (.int .u8)) y1) : laws_FnStatSplit N0 y0 y1 = some (true, ()) := plainStatSplit N0 hN0 y0 y1 (wf_bytes w0)
end Go.Proofs.Ytdhdlnojoonhcaa.Pv
