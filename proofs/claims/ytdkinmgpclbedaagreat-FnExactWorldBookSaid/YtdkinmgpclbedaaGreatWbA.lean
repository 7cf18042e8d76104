/- The mark functions of a world, walked. -/
import Derived.Test.YtdkinmgpclbedaaGreatChecked
import Derived.WalkKit
import Derived.BigCall
import Derived.Lib.Hide
import Derived.Lib.LaidU8
import Derived.Deep.RegionWith
namespace Go.Proofs.YtdkinmgpclbedaaGreat.Pv
open Go Go.Proofs Go.RowKit
set_option linter.unusedVariables false
set_option linter.unusedSimpArgs false
set_option maxRecDepth 100000
/-- A row of cells that may be written. -/
def RowW (w : World) (B off n : Nat) : Prop := ∀ j, j < n → (∃ v, w.cell? ⟨B, off + j, none⟩ = some v) ∧ w.frozen? ⟨B, off + j, none⟩ = false
/-- Only blocks of a set are written; what they can be written at stays. -/
structure OnlyZ (Z : Nat → Prop) (w w' : World) : Prop where
  os : w'.os = w.os
  tape : w'.tape = w.tape
  output : w'.output = w.output
  size : w'.heap.size = w.heap.size
  block : ∀ k, ¬ Z k → w'.heap[k]? = w.heap[k]?
  cell : ∀ b o v, w.cell? ⟨b, o, none⟩ = some v → ∃ v', w'.cell? ⟨b, o, none⟩ = some v'
  frz : ∀ b o, w'.frozen? ⟨b, o, none⟩ = w.frozen? ⟨b, o, none⟩
theorem OnlyZ.refl (Z : Nat → Prop) (w : World) : OnlyZ Z w w := ⟨rfl, rfl, rfl, rfl, fun _ _ => rfl, fun _ _ v h => ⟨v, h⟩, fun _ _ => rfl⟩
theorem OnlyZ.trans {Z : Nat → Prop} {w w' w'' : World} (h : OnlyZ Z w w') (h2 : OnlyZ Z w' w'') : OnlyZ Z w w'' :=
  ⟨h2.os.trans h.os, h2.tape.trans h.tape, h2.output.trans h.output, h2.size.trans h.size, fun k hk => (h2.block k hk).trans (h.block k hk), fun b o v hv => (h.cell b o v hv).elim fun v' hv' => h2.cell b o v' hv', fun b o => (h2.frz b o).trans (h.frz b o)⟩
theorem OnlyZ.mono {Z Y : Nat → Prop} {w w' : World} (h : OnlyZ Z w w') (hz : ∀ k, Z k → Y k) : OnlyZ Y w w' :=
  ⟨h.os, h.tape, h.output, h.size, fun k hk => h.block k (fun c => hk (hz k c)), h.cell, h.frz⟩
theorem cell_set_self (w : World) (b o : Nat) (v u : Value) (h : w.cell? ⟨b, o, none⟩ = some u) : (w.setCell ⟨b, o, none⟩ v).cell? ⟨b, o, none⟩ = some v := by
  unfold World.cell? World.setCell at *
  simp only [Array.getElem?_modify, if_true]
  cases hb : w.heap[b]? with
  | none => simp [hb] at h
  | some ob =>
    cases ob with
    | cells c t f =>
      simp [hb] at h ⊢
      have := (Array.getElem?_eq_some_iff.1 h).1
      simp [this]
    | _ => simp [hb] at h
theorem cell_set_ne (w : World) (b o o2 : Nat) (v : Value) (h : o ≠ o2) : (w.setCell ⟨b, o, none⟩ v).cell? ⟨b, o2, none⟩ = w.cell? ⟨b, o2, none⟩ := by
  unfold World.cell? World.setCell
  simp only [Array.getElem?_modify, if_true]
  cases hb : w.heap[b]? with
  | none => simp
  | some ob =>
    cases ob with
    | cells c t f => simp [Array.getElem?_setIfInBounds, h]
    | _ => simp
theorem heap_set_ne (w : World) (p : Addr) (v : Value) (k : Nat) (h : k ≠ p.block) : (w.setCell p v).heap[k]? = w.heap[k]? := by
  unfold World.setCell
  simp only [Array.getElem?_modify]
  rw [if_neg (fun e => h e.symm)]
theorem OnlyZ.set {Z : Nat → Prop} {w w' : World} (h : OnlyZ Z w w') {B o : Nat} (hB : Z B) (v : Value) : OnlyZ Z w (w'.setCell ⟨B, o, none⟩ v) := by
  refine h.trans ⟨rfl, rfl, rfl, by simp [World.setCell], fun k hk => heap_set_ne _ _ _ _ (fun e => hk (by rw [e]; exact hB)), fun b o2 u hu => ?_, fun b o2 => World.frozen?_setCell ..⟩
  by_cases hb : b = B
  · subst hb
    by_cases ho : o = o2
    · subst ho; exact ⟨v, cell_set_self _ _ _ _ _ hu⟩
    · exact ⟨u, by rw [cell_set_ne _ _ _ _ _ ho]; exact hu⟩
  · refine ⟨u, ?_⟩
    rw [← hu]
    exact World.cell?_of_block (heap_set_ne _ _ _ _ hb)
theorem RowW.only {Z : Nat → Prop} {w w' : World} {B off n : Nat} (h : RowW w B off n) (ho : OnlyZ Z w w') : RowW w' B off n := fun j hj =>
  ⟨(h j hj).1.elim fun v hv => ho.cell _ _ v hv, (ho.frz _ _).trans (h j hj).2⟩
/-- A row that may be written, or none at all. -/
def RowV (Z : Nat → Prop) (w : World) (v : Value) (n : Nat) : Prop := ∃ A c, v = .slice A n c ∧ (n = 0 ∨ ∃ B off, A = some ⟨B, off, none⟩ ∧ Z B ∧ RowW w B off n)
theorem RowV.only {Z Y : Nat → Prop} {w w' : World} {v : Value} {n : Nat} (h : RowV Z w v n) (ho : OnlyZ Y w w') : RowV Z w' v n := by
  obtain ⟨A, c, rfl, h⟩ := h
  exact ⟨A, c, rfl, h.imp id fun ⟨B, off, h1, h2, h3⟩ => ⟨B, off, h1, h2, h3.only ho⟩⟩
theorem mu25c (B off c n : Nat) (k : Int) (w : World) (hR : RowW w B off n) (hn : n ≤ 1048576) (hk : 0 ≤ k) (hk2 : k ≤ 1000000000000000) :
    Calls Tryz.prog 25 #[.slice (some ⟨B, off, none⟩) n c, .int .i64 k] w fun e w' => e = .returned (.int .i64 (k + n)) ∧ OnlyZ (· = B) w w' := by
  have HR := Lib.hid hR
  clear hR
  go_enter Tryz.func25, Tryz.ntmps25
  go_wp2
  go_loopw [1, 5] (fun q i wr => ∃ j : Nat, i = .int .i64 j ∧ q = .int .i64 (k + j) ∧ j ≤ n ∧ Hid (OnlyZ (· = B) w wr)) (fun _ i _ => n - (intOf i).toNat)
  case atStart => exact ⟨0, rfl, by go_num, by omega, Lib.hid (OnlyZ.refl _ w)⟩
  case round =>
    obtain ⟨j, rfl, rfl, hj, HO⟩ := hrel
    by_cases hjn : j < n
    · obtain ⟨⟨v, hv⟩, hf⟩ := HR.out j hjn
      obtain ⟨v', hv'⟩ := HO.out.cell _ _ _ hv
      have hf' := (HO.out.frz B (off + j)).trans hf
      clear hv hf
      go_wp2
      go_roundw
      case rel => exact ⟨j + 1, by go_num, by go_num, by omega, Lib.hid (HO.out.set rfl _)⟩
      case measure => simp [intOf]; omega
    · have e : j = n := by omega
      subst e
      go_wp2
      go_ret
      exact ⟨rfl, HO.out⟩
theorem mu25n (A : Option Addr) (c : Nat) (k : Int) (w : World) :
    Calls Tryz.prog 25 #[.slice A 0 c, .int .i64 k] w fun e w' => e = .returned (.int .i64 k) ∧ w' = w := by
  go_enter Tryz.func25, Tryz.ntmps25
  go_wp2
  go_loopw [1, 5] (fun q i wr => i = .int .i64 0 ∧ q = .int .i64 k ∧ wr = w) (fun _ i _ => 0)
  case atStart => exact ⟨rfl, rfl, rfl⟩
  case round =>
    obtain ⟨rfl, rfl, rfl⟩ := hrel
    go_wp2
    go_ret
    exact ⟨rfl, rfl⟩
theorem mu25 (Z : Nat → Prop) (v : Value) (n : Nat) (k : Int) (w : World) (hR : RowV Z w v n) (hn : n ≤ 1048576) (hk : 0 ≤ k) (hk2 : k ≤ 1000000000000000) :
    Calls Tryz.prog 25 #[v, .int .i64 k] w fun e w' => e = .returned (.int .i64 (k + n)) ∧ OnlyZ Z w w' := by
  obtain ⟨A, c, rfl, h⟩ := hR
  rcases h with rfl | ⟨B, off, rfl, hB, h⟩
  · refine (mu25n A c k w).mono ?_
    rintro e w' ⟨rfl, rfl⟩
    exact ⟨by simp, OnlyZ.refl _ _⟩
  · refine (mu25c B off c n k w h hn hk hk2).mono ?_
    rintro e w' ⟨rfl, h⟩
    exact ⟨rfl, h.mono fun k e => e ▸ hB⟩
end Go.Proofs.YtdkinmgpclbedaaGreat.Pv
