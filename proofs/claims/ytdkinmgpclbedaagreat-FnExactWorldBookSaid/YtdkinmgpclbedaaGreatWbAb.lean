/- The mark function of guests, walked a field at a time. -/
import Derived.Test.YtdkinmgpclbedaaGreatWbA
import Derived.Deep.CutRange
namespace Go.Proofs.YtdkinmgpclbedaaGreat.Pv
open Go Go.Proofs Go.RowKit
set_option linter.unusedVariables false
set_option linter.unusedSimpArgs false
set_option maxRecDepth 100000
set_option maxHeartbeats 0
/-- A round's world: what of the row is yet to be read is as it was. -/
def Mg (Z : Nat → Prop) (G off j : Nat) (w wr : World) : Prop := OnlyZ (fun b => Z b ∨ b = G) w wr ∧ ∀ o, (o = off + 26 * j + 21 ∨ o = off + 26 * j + 22 ∨ off + 26 * (j + 1) ≤ o) → wr.cell? ⟨G, o, none⟩ = w.cell? ⟨G, o, none⟩
theorem Mg.set {Z : Nat → Prop} {G off j : Nat} {w wr : World} (h : Hid (Mg Z G off j w wr)) (q : Nat) (hq : q < 26) (h1 : q ≠ 21) (h2 : q ≠ 22) {o : Nat} (ho : o = off + 26 * j + q) (v : Value) : Hid (Mg Z G off j w (wr.setCell ⟨G, o, none⟩ v)) := by
  subst ho
  refine ⟨h.out.1.set (.inr rfl) _, fun o ho => ?_⟩
  rw [cell_set_ne _ _ _ _ _ (by omega)]
  exact h.out.2 o ho
theorem Mg.cell {Z : Nat → Prop} {G off j n : Nat} {w wr : World} (h : Hid (Mg Z G off j w wr)) (HR : Hid (RowW w G off (26 * n))) (hj : j < n) (q : Nat) (hq : q < 26) {o : Nat} (ho : o = off + 26 * j + q) : (∃ v, wr.cell? ⟨G, o, none⟩ = some v) ∧ wr.frozen? ⟨G, o, none⟩ = false := by
  subst ho
  obtain ⟨⟨v, hv⟩, hf⟩ := HR.out (26 * j + q) (by omega)
  rw [← Nat.add_assoc] at hv hf
  exact ⟨h.out.1.cell _ _ _ hv, (h.out.1.frz _ _).trans hf⟩
theorem mg26 (Z : Nat → Prop) (G off c n : Nat) (k : Int) (w : World) (m1 m2 : Nat → Nat) (hZ : ¬ Z G) (hR : RowW w G off (26 * n)) (hn : n ≤ 1048576) (hk : 0 ≤ k) (hk2 : k ≤ 10000000000)
    (h1 : ∀ i, i < n → ∃ v, w.cell? ⟨G, off + 26 * i + 21, none⟩ = some v ∧ RowV Z w v (m1 i) ∧ m1 i ≤ 1048576)
    (h2 : ∀ i, i < n → ∃ v, w.cell? ⟨G, off + 26 * i + 22, none⟩ = some v ∧ RowV Z w v (m2 i) ∧ m2 i ≤ 1048576) :
    Calls Tryz.prog 26 #[.slice (some ⟨G, off, none⟩) n c, .int .i64 k] w fun e w' => (∃ q : Int, e = .returned (.int .i64 q) ∧ 0 ≤ q) ∧ OnlyZ (fun b => Z b ∨ b = G) w w' := by
  have HR := Lib.hid hR
  have H1 := Lib.hid h1
  have H2 := Lib.hid h2
  have HZ := Lib.hid hZ
  clear hR h1 h2 hZ
  go_enter Tryz.func26, Tryz.ntmps26
  go_wp2
  go_loopw [1, 5] (fun q i wr => ∃ (j : Nat) (x : Int), i = .int .i64 j ∧ q = .int .i64 x ∧ 0 ≤ x ∧ x ≤ 10000000000 + 2097200 * j ∧ j ≤ n ∧ Hid (OnlyZ (fun b => Z b ∨ b = G) w wr) ∧ Hid (∀ o, off + 26 * j ≤ o → wr.cell? ⟨G, o, none⟩ = w.cell? ⟨G, o, none⟩)) (fun _ i _ => n - (intOf i).toNat)
  case atStart => exact ⟨0, k, rfl, rfl, hk, by omega, by omega, Lib.hid (OnlyZ.refl _ w), Lib.hid fun _ _ => rfl⟩
  case round =>
    obtain ⟨j, x, rfl, rfl, hx0, hx1, hj, HO, HG⟩ := hrel
    by_cases hjn : j < n
    · have HT : Hid (Mg Z G off j w wr) := ⟨HO.out, fun o ho => HG.out o (by omega)⟩
      clear HO HG
      go_upto_region 4 with fail
      go_cut [] from 12 to 18 (fun wx => Hid (Mg Z G off j w wx))
      case first =>
        as_aux_lemma =>
          obtain ⟨⟨v, hv⟩, hf⟩ := Mg.cell HT HR hjn 0 (by omega) (o := off + j * 26) (by omega)
          go_wp2
          go_meet
          case rel => exact Mg.set HT 0 (by omega) (by omega) (by omega) (by omega) _
      case rest =>
        as_aux_lemma =>
          clear HT; have HT := hcut; clear hcut
          go_upto_region 6 with fail
          go_cut [] from 21 to 25 (fun wx => Hid (Mg Z G off j w wx))
          case first =>
            as_aux_lemma =>
              obtain ⟨⟨v, hv⟩, hf⟩ := Mg.cell HT HR hjn 1 (by omega) (o := off + j * 26 + 1) (by omega)
              go_wp2
              go_meet
              case rel => exact Mg.set HT 1 (by omega) (by omega) (by omega) (by omega) _
          case rest =>
            as_aux_lemma =>
              clear HT; have HT := hcut; clear hcut
              go_upto_region 8 with fail
              go_cut [] from 28 to 32 (fun wx => Hid (Mg Z G off j w wx))
              case first =>
                as_aux_lemma =>
                  obtain ⟨⟨v, hv⟩, hf⟩ := Mg.cell HT HR hjn 2 (by omega) (o := off + j * 26 + 2) (by omega)
                  go_wp2
                  go_meet
                  case rel => exact Mg.set HT 2 (by omega) (by omega) (by omega) (by omega) _
              case rest =>
                as_aux_lemma =>
                  clear HT; have HT := hcut; clear hcut
                  go_upto_region 10 with fail
                  go_cut [] from 35 to 41 (fun wx => Hid (Mg Z G off j w wx))
                  case first =>
                    as_aux_lemma =>
                      obtain ⟨⟨v, hv⟩, hf⟩ := Mg.cell HT HR hjn 3 (by omega) (o := off + j * 26 + 3) (by omega)
                      go_wp2
                      go_meet
                      case rel => exact Mg.set HT 3 (by omega) (by omega) (by omega) (by omega) _
                  case rest =>
                    as_aux_lemma =>
                      clear HT; have HT := hcut; clear hcut
                      go_upto_region 12 with fail
                      go_cut [] from 44 to 49 (fun wx => Hid (Mg Z G off j w wx))
                      case first =>
                        as_aux_lemma =>
                          obtain ⟨⟨v, hv⟩, hf⟩ := Mg.cell HT HR hjn 4 (by omega) (o := off + j * 26 + 4) (by omega)
                          go_wp2
                          go_meet
                          case rel => exact Mg.set HT 4 (by omega) (by omega) (by omega) (by omega) _
                      case rest =>
                        as_aux_lemma =>
                          clear HT; have HT := hcut; clear hcut
                          go_upto_region 14 with fail
                          go_cut [] from 52 to 57 (fun wx => Hid (Mg Z G off j w wx))
                          case first =>
                            as_aux_lemma =>
                              obtain ⟨⟨v, hv⟩, hf⟩ := Mg.cell HT HR hjn 5 (by omega) (o := off + j * 26 + 5) (by omega)
                              go_wp2
                              go_meet
                              case rel => exact Mg.set HT 5 (by omega) (by omega) (by omega) (by omega) _
                          case rest =>
                            as_aux_lemma =>
                              clear HT; have HT := hcut; clear hcut
                              go_upto_region 16 with fail
                              go_cut [] from 60 to 65 (fun wx => Hid (Mg Z G off j w wx))
                              case first =>
                                as_aux_lemma =>
                                  obtain ⟨⟨v, hv⟩, hf⟩ := Mg.cell HT HR hjn 6 (by omega) (o := off + j * 26 + 6) (by omega)
                                  go_wp2
                                  go_meet
                                  case rel => exact Mg.set HT 6 (by omega) (by omega) (by omega) (by omega) _
                              case rest =>
                                as_aux_lemma =>
                                  clear HT; have HT := hcut; clear hcut
                                  go_upto_region 18 with fail
                                  go_cut [] from 68 to 73 (fun wx => Hid (Mg Z G off j w wx))
                                  case first =>
                                    as_aux_lemma =>
                                      obtain ⟨⟨v, hv⟩, hf⟩ := Mg.cell HT HR hjn 7 (by omega) (o := off + j * 26 + 7) (by omega)
                                      go_wp2
                                      go_meet
                                      case rel => exact Mg.set HT 7 (by omega) (by omega) (by omega) (by omega) _
                                  case rest =>
                                    as_aux_lemma =>
                                      clear HT; have HT := hcut; clear hcut
                                      go_upto_region 20 with fail
                                      go_cut [] from 76 to 80 (fun wx => Hid (Mg Z G off j w wx))
                                      case first =>
                                        as_aux_lemma =>
                                          obtain ⟨⟨v, hv⟩, hf⟩ := Mg.cell HT HR hjn 8 (by omega) (o := off + j * 26 + 8) (by omega)
                                          go_wp2
                                          go_meet
                                          case rel => exact Mg.set HT 8 (by omega) (by omega) (by omega) (by omega) _
                                      case rest =>
                                        as_aux_lemma =>
                                          clear HT; have HT := hcut; clear hcut
                                          go_upto_region 22 with fail
                                          go_cut [] from 83 to 87 (fun wx => Hid (Mg Z G off j w wx))
                                          case first =>
                                            as_aux_lemma =>
                                              obtain ⟨⟨v, hv⟩, hf⟩ := Mg.cell HT HR hjn 9 (by omega) (o := off + j * 26 + 9) (by omega)
                                              go_wp2
                                              go_meet
                                              case rel => exact Mg.set HT 9 (by omega) (by omega) (by omega) (by omega) _
                                          case rest =>
                                            as_aux_lemma =>
                                              clear HT; have HT := hcut; clear hcut
                                              go_upto_region 24 with fail
                                              go_cut [] from 90 to 94 (fun wx => Hid (Mg Z G off j w wx))
                                              case first =>
                                                as_aux_lemma =>
                                                  obtain ⟨⟨v, hv⟩, hf⟩ := Mg.cell HT HR hjn 10 (by omega) (o := off + j * 26 + 10) (by omega)
                                                  go_wp2
                                                  go_meet
                                                  case rel => exact Mg.set HT 10 (by omega) (by omega) (by omega) (by omega) _
                                              case rest =>
                                                as_aux_lemma =>
                                                  clear HT; have HT := hcut; clear hcut
                                                  go_upto_region 26 with fail
                                                  go_cut [] from 97 to 101 (fun wx => Hid (Mg Z G off j w wx))
                                                  case first =>
                                                    as_aux_lemma =>
                                                      obtain ⟨⟨v, hv⟩, hf⟩ := Mg.cell HT HR hjn 11 (by omega) (o := off + j * 26 + 11) (by omega)
                                                      go_wp2
                                                      go_meet
                                                      case rel => exact Mg.set HT 11 (by omega) (by omega) (by omega) (by omega) _
                                                  case rest =>
                                                    as_aux_lemma =>
                                                      clear HT; have HT := hcut; clear hcut
                                                      go_upto_region 28 with fail
                                                      go_cut [] from 104 to 108 (fun wx => Hid (Mg Z G off j w wx))
                                                      case first =>
                                                        as_aux_lemma =>
                                                          obtain ⟨⟨v, hv⟩, hf⟩ := Mg.cell HT HR hjn 12 (by omega) (o := off + j * 26 + 12) (by omega)
                                                          go_wp2
                                                          go_meet
                                                          case rel => exact Mg.set HT 12 (by omega) (by omega) (by omega) (by omega) _
                                                      case rest =>
                                                        as_aux_lemma =>
                                                          clear HT; have HT := hcut; clear hcut
                                                          go_upto_region 30 with fail
                                                          go_cut [] from 111 to 115 (fun wx => Hid (Mg Z G off j w wx))
                                                          case first =>
                                                            as_aux_lemma =>
                                                              obtain ⟨⟨v, hv⟩, hf⟩ := Mg.cell HT HR hjn 13 (by omega) (o := off + j * 26 + 13) (by omega)
                                                              go_wp2
                                                              go_meet
                                                              case rel => exact Mg.set HT 13 (by omega) (by omega) (by omega) (by omega) _
                                                          case rest =>
                                                            as_aux_lemma =>
                                                              clear HT; have HT := hcut; clear hcut
                                                              go_upto_region 32 with fail
                                                              go_cut [] from 118 to 122 (fun wx => Hid (Mg Z G off j w wx))
                                                              case first =>
                                                                as_aux_lemma =>
                                                                  obtain ⟨⟨v, hv⟩, hf⟩ := Mg.cell HT HR hjn 14 (by omega) (o := off + j * 26 + 14) (by omega)
                                                                  go_wp2
                                                                  go_meet
                                                                  case rel => exact Mg.set HT 14 (by omega) (by omega) (by omega) (by omega) _
                                                              case rest =>
                                                                as_aux_lemma =>
                                                                  clear HT; have HT := hcut; clear hcut
                                                                  go_upto_region 34 with fail
                                                                  go_cut [] from 125 to 131 (fun wx => Hid (Mg Z G off j w wx))
                                                                  case first =>
                                                                    as_aux_lemma =>
                                                                      obtain ⟨⟨v, hv⟩, hf⟩ := Mg.cell HT HR hjn 15 (by omega) (o := off + j * 26 + 15) (by omega)
                                                                      go_wp2
                                                                      go_meet
                                                                      case rel => exact Mg.set HT 15 (by omega) (by omega) (by omega) (by omega) _
                                                                  case rest =>
                                                                    as_aux_lemma =>
                                                                      clear HT; have HT := hcut; clear hcut
                                                                      go_upto_region 36 with fail
                                                                      go_cut [] from 134 to 138 (fun wx => Hid (Mg Z G off j w wx))
                                                                      case first =>
                                                                        as_aux_lemma =>
                                                                          obtain ⟨⟨v, hv⟩, hf⟩ := Mg.cell HT HR hjn 16 (by omega) (o := off + j * 26 + 16) (by omega)
                                                                          go_wp2
                                                                          go_meet
                                                                          case rel => exact Mg.set HT 16 (by omega) (by omega) (by omega) (by omega) _
                                                                      case rest =>
                                                                        as_aux_lemma =>
                                                                          clear HT; have HT := hcut; clear hcut
                                                                          go_upto_region 38 with fail
                                                                          go_cut [] from 141 to 146 (fun wx => Hid (Mg Z G off j w wx))
                                                                          case first =>
                                                                            as_aux_lemma =>
                                                                              obtain ⟨⟨v, hv⟩, hf⟩ := Mg.cell HT HR hjn 17 (by omega) (o := off + j * 26 + 17) (by omega)
                                                                              go_wp2
                                                                              go_meet
                                                                              case rel => exact Mg.set HT 17 (by omega) (by omega) (by omega) (by omega) _
                                                                          case rest =>
                                                                            as_aux_lemma =>
                                                                              clear HT; have HT := hcut; clear hcut
                                                                              go_upto_region 40 with fail
                                                                              go_cut [] from 149 to 154 (fun wx => Hid (Mg Z G off j w wx))
                                                                              case first =>
                                                                                as_aux_lemma =>
                                                                                  obtain ⟨⟨v, hv⟩, hf⟩ := Mg.cell HT HR hjn 18 (by omega) (o := off + j * 26 + 18) (by omega)
                                                                                  go_wp2
                                                                                  go_meet
                                                                                  case rel => exact Mg.set HT 18 (by omega) (by omega) (by omega) (by omega) _
                                                                              case rest =>
                                                                                as_aux_lemma =>
                                                                                  clear HT; have HT := hcut; clear hcut
                                                                                  go_upto_region 42 with fail
                                                                                  go_cut [] from 157 to 162 (fun wx => Hid (Mg Z G off j w wx))
                                                                                  case first =>
                                                                                    as_aux_lemma =>
                                                                                      obtain ⟨⟨v, hv⟩, hf⟩ := Mg.cell HT HR hjn 19 (by omega) (o := off + j * 26 + 19) (by omega)
                                                                                      go_wp2
                                                                                      go_meet
                                                                                      case rel => exact Mg.set HT 19 (by omega) (by omega) (by omega) (by omega) _
                                                                                  case rest =>
                                                                                    as_aux_lemma =>
                                                                                      clear HT; have HT := hcut; clear hcut
                                                                                      go_upto_region 44 with fail
                                                                                      go_cut [] from 165 to 170 (fun wx => Hid (Mg Z G off j w wx))
                                                                                      case first =>
                                                                                        as_aux_lemma =>
                                                                                          obtain ⟨⟨v, hv⟩, hf⟩ := Mg.cell HT HR hjn 20 (by omega) (o := off + j * 26 + 20) (by omega)
                                                                                          go_wp2
                                                                                          go_meet
                                                                                          case rel => exact Mg.set HT 20 (by omega) (by omega) (by omega) (by omega) _
                                                                                      case rest =>
                                                                                        as_aux_lemma =>
                                                                                          clear HT; have HT := hcut; clear hcut
                                                                                          go_upto_region 46 with fail
                                                                                          go_cut [1] from 173 to 179 (fun s1 wx => ∃ y : Int, s1 = .int .i64 y ∧ 0 ≤ y ∧ y ≤ x + 21 + 1048576 ∧ Hid (Mg Z G off j w wx))
                                                                                          case first =>
                                                                                            as_aux_lemma =>
                                                                                              obtain ⟨v, hv0, hrv, hm⟩ := H1.out j hjn
                                                                                              have hv := (HT.out.2 (off + j * 26 + 21) (by omega)).trans (show w.cell? ⟨G, off + j * 26 + 21, none⟩ = some v by rw [← hv0, Nat.mul_comm j 26])
                                                                                              clear hv0
                                                                                              have HRV := Lib.hid (hrv.only HT.out.1)
                                                                                              clear hrv
                                                                                              go_wp2_with (go_at_call 25; refine (mu25 Z v (m1 j) _ _ HRV.out hm (by omega) (by omega)).mono ?_; rintro e w2 ⟨rfl, ho⟩; refine Hid.out ?_)
                                                                                              have HT2 : Hid (Mg Z G off j w w2) := ⟨HT.out.1.trans (ho.mono fun _ h => .inl h), fun o h => by rw [← HT.out.2 o h]; exact World.cell?_of_block (ho.block G HZ.out)⟩
                                                                                              clear ho
                                                                                              refine Lib.hid ?_
                                                                                              go_wp2
                                                                                              go_meet
                                                                                              case rel => exact ⟨_, rfl, by omega, by omega, HT2⟩
                                                                                          case rest =>
                                                                                            as_aux_lemma =>
                                                                                              clear HT; obtain ⟨y21, rfl, hy21, hz21, HT⟩ := hcut
                                                                                              go_upto_region 47 with fail
                                                                                              go_cut [1] from 180 to 186 (fun s1 wx => ∃ y : Int, s1 = .int .i64 y ∧ 0 ≤ y ∧ y ≤ x + 21 + 2097152 ∧ Hid (Mg Z G off j w wx))
                                                                                              case first =>
                                                                                                as_aux_lemma =>
                                                                                                  obtain ⟨v, hv0, hrv, hm⟩ := H2.out j hjn
                                                                                                  have hv := (HT.out.2 (off + j * 26 + 22) (by omega)).trans (show w.cell? ⟨G, off + j * 26 + 22, none⟩ = some v by rw [← hv0, Nat.mul_comm j 26])
                                                                                                  clear hv0
                                                                                                  have HRV := Lib.hid (hrv.only HT.out.1)
                                                                                                  clear hrv
                                                                                                  go_wp2_with (go_at_call 25; refine (mu25 Z v (m2 j) _ _ HRV.out hm (by omega) (by omega)).mono ?_; rintro e w2 ⟨rfl, ho⟩; refine Hid.out ?_)
                                                                                                  have HT2 : Hid (Mg Z G off j w w2) := ⟨HT.out.1.trans (ho.mono fun _ h => .inl h), fun o h => by rw [← HT.out.2 o h]; exact World.cell?_of_block (ho.block G HZ.out)⟩
                                                                                                  clear ho
                                                                                                  refine Lib.hid ?_
                                                                                                  go_wp2
                                                                                                  go_meet
                                                                                                  case rel => exact ⟨_, rfl, by omega, by omega, HT2⟩
                                                                                              case rest =>
                                                                                                as_aux_lemma =>
                                                                                                  clear HT; obtain ⟨y22, rfl, hy22, hz22, HT⟩ := hcut
                                                                                                  go_upto_region 48 with fail
                                                                                                  go_cut [] from 187 to 191 (fun wx => Hid (Mg Z G off j w wx))
                                                                                                  case first =>
                                                                                                    as_aux_lemma =>
                                                                                                      obtain ⟨⟨v, hv⟩, hf⟩ := Mg.cell HT HR hjn 23 (by omega) (o := off + j * 26 + 23) (by omega)
                                                                                                      go_wp2
                                                                                                      go_meet
                                                                                                      case rel => exact Mg.set HT 23 (by omega) (by omega) (by omega) (by omega) _
                                                                                                  case rest =>
                                                                                                    as_aux_lemma =>
                                                                                                      clear HT; have HT := hcut; clear hcut
                                                                                                      go_upto_region 50 with fail
                                                                                                      go_cut [] from 194 to 198 (fun wx => Hid (Mg Z G off j w wx))
                                                                                                      case first =>
                                                                                                        as_aux_lemma =>
                                                                                                          obtain ⟨⟨v, hv⟩, hf⟩ := Mg.cell HT HR hjn 24 (by omega) (o := off + j * 26 + 24) (by omega)
                                                                                                          go_wp2
                                                                                                          go_meet
                                                                                                          case rel => exact Mg.set HT 24 (by omega) (by omega) (by omega) (by omega) _
                                                                                                      case rest =>
                                                                                                        as_aux_lemma =>
                                                                                                          clear HT; have HT := hcut; clear hcut
                                                                                                          go_upto_region 52 with fail
                                                                                                          go_cut [] from 201 to 205 (fun wx => Hid (Mg Z G off j w wx))
                                                                                                          case first =>
                                                                                                            as_aux_lemma =>
                                                                                                              obtain ⟨⟨v, hv⟩, hf⟩ := Mg.cell HT HR hjn 25 (by omega) (o := off + j * 26 + 25) (by omega)
                                                                                                              go_wp2
                                                                                                              go_meet
                                                                                                              case rel => exact Mg.set HT 25 (by omega) (by omega) (by omega) (by omega) _
                                                                                                          case rest =>
                                                                                                            as_aux_lemma =>
                                                                                                              clear HT; have HT := hcut; clear hcut
                                                                                                              go_wp2
                                                                                                              go_roundw
                                                                                                              case rel => exact ⟨j + 1, _, by go_num, rfl, by omega, by omega, by omega, Lib.hid HT.out.1, Lib.hid fun o h => HT.out.2 o (.inr (.inr h))⟩
                                                                                                              case measure => simp [intOf]; omega
    · have e : j = n := by omega
      subst e
      go_wp2
      go_ret
      exact ⟨⟨x, rfl, hx0⟩, HO.out⟩
end Go.Proofs.YtdkinmgpclbedaaGreat.Pv
