/- Pv, twenty-first text: code. -/
import Derived.Test.YtdkinmgpclbedaaDoorPvDraw
set_option linter.unusedVariables false
set_option linter.unusedSimpArgs false
namespace Go.Pv
open Go Go.RowKit

def StInv (F : Fix) (s : St) (a : Act) (w : World) : Prop := ∃ born φ fz, Inv F s.rho s.st born a w φ fz ∧ ∀ k, born k → k < s.nx

def dstLt (nt : Nat) : List Oper → Bool
  | [] => true
  | o :: r => cond (match o.dst with | some t => Nat.blt t nt | none => true) (dstLt nt r) false
def dstOk (nt : Nat) : Code → Bool
  | .seq a b => cond (dstOk nt a) (dstOk nt b) false
  | .cond _ a b => cond (dstOk nt a) (dstOk nt b) false
  | .block _ c => dstOk nt c
  | .loop c => dstOk nt c
  | .region _ ops _ => dstLt nt ops.toList
  | _ => true
theorem dstLt_ok {nt : Nat} : ∀ {l : List Oper}, dstLt nt l = true → ∀ o ∈ l, ∀ t, o.dst = some t → t < nt
  | [], _, o, h, _, _ => by simp at h
  | p :: r, h, o, ho, t, ht => by
    have h := cond_true_of h
    rcases List.mem_cons.1 ho with rfl | ho
    · have h1 := h.1; rw [ht] at h1; simpa [Nat.blt_eq] using h1
    · exact dstLt_ok h.2 o ho t ht

theorem Inv.drew {F : Fix} {ρ : Rd} {σ : Sg} {born : Nat → Prop} {a : Act} {w : World} {φ : Nat → Value} {fz : Nat → Prop} (hI : Inv F ρ σ born a w φ fz) (n : Nat) : Inv F ρ σ born a { w with drawn := n } φ fz := by
  have e : ∀ b : Nat, ({ w with drawn := n } : World).heap[b]? = w.heap[b]? := fun _ => rfl
  refine ⟨hI.siz, fun t v h => ?_, hI.bt, fun k c h => ?_, hI.bs, hI.inj, hI.own, hI.fzlt, hI.bzlt, hI.fz0, hI.fz1, hI.par, hI.pb, hI.one, hI.size, hI.frame, hI.os, hI.tape, hI.output, hI.def_⟩
  · obtain ⟨cv, h1, h2⟩ := hI.tmps t v h
    exact ⟨cv, h1, RepV.mono (fun b _ => e b) (fun _ h => h) (fun _ h => .inr h) (fun _ _ => rfl) h2⟩
  · exact CellAt.mono (fun b _ => e b) (fun b _ => e b) (fun _ h => h) (fun _ h => .inr h) (fun _ _ => rfl) (hI.sto k c h)

section
variable {P : Program} {R : Type} {r : R} {C : Cx} {F : Fix}

/-- Every loop's jump is its body, with one round less to come. -/
def LoopsOk (C : Cx) (F : Fix) (J : Nat → Jx R) (r : R) : Code → List Nat → (Nat → Kn R) → Prop
  | .seq a b, p, κ => LoopsOk C F J r a (0 :: p) (fun k => ⟨fun s => cond (isCut C (1 :: p) b) ((J k).jump (1 :: p) s) (evCode C (J k) b (1 :: p) (κ k) s), (κ k).ex⟩) ∧ LoopsOk C F J r b (1 :: p) κ ∧
      (isCut C (1 :: p) b = true → ∀ k s, (J k).jump (1 :: p) s = some r → ∃ k' s', k = k' + 1 ∧ evCode C (J k') b (1 :: p) (κ k') s' = some r ∧ ∀ a w, StInv F s a w → StInv F s' a w)
  | .cond _ a b, p, κ => LoopsOk C F J r a (0 :: p) κ ∧ LoopsOk C F J r b (1 :: p) κ
  | .block id c, p, κ => LoopsOk C F J r c (0 :: p) (fun k => ⟨(κ k).nrm, fun i s => cond (Nat.beq i id) ((κ k).nrm s) ((κ k).ex i s)⟩)
  | .loop c, p, κ => (∀ k s, (J k).jump p s = some r → ∃ k' s', k = k' + 1 ∧ evCode C (J k') c (0 :: p) ⟨(J k').jump p, (κ k').ex⟩ s' = some r ∧ ∀ a w, StInv F s a w → StInv F s' a w) ∧
      LoopsOk C F J r c (0 :: p) (fun k => ⟨(J k).jump p, (κ k).ex⟩)
  | _, _, _ => True

theorem region_ok (hC : CxOk P C) (hmix : P.follows .mixedOrders = true) {id : Nat} {arr : Array Oper} {draw : Bool} {K : St → Option R} {s : St} (hd : dstLt F.nt arr.toList = true)
    (h : cond (cond draw (ordered arr.toList 0) true) (evOps C arr.toList draw (cond draw (Region.before arr) #[]) arr.toList 0 s [] K) none = some r) {Q : Exit → Act → World → Prop} {a : Act} {w : World} (hI : StInv F s a w)
    (hQ : ∀ s a w, K s = some r → StInv F s a w → Q .normal a w) : (Code.region id arr draw).wp P Q a w := by
  obtain ⟨hord, h⟩ := cond_some h
  obtain ⟨born, φ, fz, hI, hb⟩ := hI
  obtain ⟨ds, s', q1, q2, q3, q4, q5, q6⟩ := evOps_ok hC h
  have hQ' : ∀ a w born φ fz, Inv F (Rn arr.toList ds s.rho arr.toList.length) (Sn ds s.st arr.toList.length) born a w φ fz → (∀ k, born k → k < s.nx + 64 * arr.toList.length) → Q .normal a w := by
    intro a w born φ fz hI hb
    refine hQ s' a w q2 ⟨born, φ, fz, ?_, fun k hk => by rw [q5]; exact hb k hk⟩
    rw [q3, q4]; exact hI
  cases draw with
  | false => exact wp_region_list (text_ok q6 q1 (dstLt_ok hd) hQ' hI hb)
  | true =>
    simp only [cond_true] at hord q6
    refine wp_region_any hmix ?_
    have hz : ∀ i, (Array.replicate arr.size false).getD i false = false := by
      intro i
      rw [Array.getD_eq_getD_getElem?, Array.getElem?_replicate]
      split <;> rfl
    have e1 : ∀ n, PRn (fun i => (Array.replicate arr.size false).getD i false) arr.toList ds s.rho n = s.rho := by
      intro n
      induction n with
      | zero => rfl
      | succ n ih => rw [PRn, if_neg (by rw [hz]; simp), ih]
    have e2 : ∀ n, PSn (fun i => (Array.replicate arr.size false).getD i false) ds s.st n = s.st := by
      intro n
      induction n with
      | zero => rfl
      | succ n ih => rw [PSn, if_neg (by rw [hz]; simp), ih]
    rw [Array.length_toList] at q1 hQ'
    refine draw_ok hord q6 q1 (dstLt_ok hd) hQ' arr.size _ (List.range arr.size) (by simp) (fun j hj => by rw [hz] at hj; cases hj) (by simp) (fun i hi _ => List.mem_range.2 hi) (born := born) (φ := φ) (fz := fz) ?_ (fun k hk => .inl (hb k hk))
    rw [e1, e2]; exact hI.drew _

theorem code_ok (hC : CxOk P C) (hmix : P.follows .mixedOrders = true) {J : Nat → Jx R} : ∀ (c : Code) (p : List Nat) (κ : Nat → Kn R), dstOk F.nt c = true → LoopsOk C F J r c p κ →
    ∀ (K : Nat) (Q : Exit → Act → World → Prop), (∀ k ≤ K, ∀ s a w, (κ k).nrm s = some r → StInv F s a w → Q .normal a w) → (∀ k ≤ K, ∀ id s a w, (κ k).ex id s = some r → StInv F s a w → Q (.exit id) a w) →
    (∀ k ≤ K, ∀ s a w, (J k).ret s = some r → StInv F s a w → Q .ret a w) → ∀ s a w, evCode C (J K) c p (κ K) s = some r → StInv F s a w → c.wp P Q a w := by
  intro c
  induction c with
  | skip => intro p κ _ _ K Q hn he hr s a w h hI; exact wp_skip (hn K (Nat.le_refl _) s a w h hI)
  | exit id => intro p κ _ _ K Q hn he hr s a w h hI; exact wp_exit (he K (Nat.le_refl _) id s a w h hI)
  | ret => intro p κ _ _ K Q hn he hr s a w h hI; exact wp_ret (hr K (Nat.le_refl _) s a w h hI)
  | region id ops draw =>
    intro p κ hd _ K Q hn he hr s a w h hI
    exact region_ok hC hmix hd h hI (fun s a w h hI => hn K (Nat.le_refl _) s a w h hI)
  | seq x y ihx ihy =>
    intro p κ hd hl K Q hn he hr s a w h hI
    have hd := cond_true_of hd
    refine wp_seq (ihx (0 :: p) _ hd.1 hl.1 K _ ?_ ?_ ?_ s a w h hI)
    · intro k hk s a w h hI
      simp only [] at h
      by_cases hc : isCut C (1 :: p) y = true
      · rw [hc] at h
        obtain ⟨k1, s1, rfl, h1, hs⟩ := hl.2.2 hc k s h
        exact ihy (1 :: p) κ hd.2 hl.2.1 k1 Q (fun k' hk' => hn k' (by omega)) (fun k' hk' => he k' (by omega)) (fun k' hk' => hr k' (by omega)) s1 a w h1 (hs a w hI)
      · rw [Bool.eq_false_iff.2 hc] at h
        exact ihy (1 :: p) κ hd.2 hl.2.1 k Q (fun k' hk' => hn k' (Nat.le_trans hk' hk)) (fun k' hk' => he k' (Nat.le_trans hk' hk)) (fun k' hk' => hr k' (Nat.le_trans hk' hk)) s a w h hI
    · intro k hk id s a w h hI
      exact he k hk id s a w h hI
    · intro k hk s a w h hI
      exact hr k hk s a w h hI
  | cond c x y ihx ihy =>
    intro p κ hd hl K Q hn he hr s a w h hI
    have hd := cond_true_of hd
    simp only [evCode] at h
    split at h
    · rename_i b hb
      obtain ⟨born, φ, fz, hI', hbn⟩ := id hI
      have hev := rep_bool.1 (hI'.rd (show rdOf s.rho c = some ⟨.bool, b⟩ by rw [← St.rd_eq]; exact hb))
      refine wp_cond hev ?_
      cases b
      · exact ihy (1 :: p) κ hd.2 hl.2 K Q hn he hr s a w h hI
      · exact ihx (0 :: p) κ hd.1 hl.1 K Q hn he hr s a w h hI
    · rename_i hb
      obtain ⟨h1, h2⟩ := nd_some h
      obtain ⟨born, φ, fz, hI', hbn⟩ := id hI
      have hev := hI'.rd (show rdOf s.rho c = some ⟨.ubool, ()⟩ by rw [← St.rd_eq]; exact hb)
      simp only [RepV, RepV0, RepC] at hev
      obtain ⟨b, hev⟩ := hev
      injection hev with hev
      refine wp_cond hev ?_
      cases b
      · exact ihy (1 :: p) κ hd.2 hl.2 K Q hn he hr s a w h2 hI
      · exact ihx (0 :: p) κ hd.1 hl.1 K Q hn he hr s a w h1 hI
    · cases h
  | block id c ih =>
    intro p κ hd hl K Q hn he hr s a w h hI
    refine wp_block (ih (0 :: p) _ hd hl K _ ?_ ?_ ?_ s a w h hI)
    · intro k hk s a w h hI; exact hn k hk s a w h hI
    · intro k hk i s a w h hI
      simp only [] at h
      by_cases e : i = id
      · subst e
        rw [show Nat.beq i i = true from Nat.beq_refl i] at h
        simp only [Exit.inBlock, if_true]
        exact hn k hk s a w h hI
      · have : Nat.beq i id = false := by
          cases hb : Nat.beq i id with
          | false => rfl
          | true => exact absurd (nbeq_eq hb) e
        rw [this] at h
        simp only [Exit.inBlock, if_neg e]
        exact he k hk i s a w h hI
    · intro k hk s a w h hI; exact hr k hk s a w h hI
  | loop c ih =>
    intro p κ hd hl K Q hn he hr s a w h hI
    simp only [evCode] at h
    refine wp_loop_ghost (fun n a w => n ≤ K ∧ ∃ s, (J n).jump p s = some r ∧ StInv F s a w) K ⟨Nat.le_refl _, s, h, hI⟩ ?_
    rintro n a w ⟨hn', s, h, hI⟩
    obtain ⟨k', s', rfl, h', hs⟩ := hl.1 n s h
    refine ih (0 :: p) (fun k => ⟨(J k).jump p, (κ k).ex⟩) hd hl.2 k' _ ?_ ?_ ?_ s' a w h' (hs a w hI)
    · intro k hk s a w h hI
      exact ⟨k, by omega, by omega, s, h, hI⟩
    · intro k hk id s a w h hI; exact he k (by omega) id s a w h hI
    · intro k hk s a w h hI; exact hr k (by omega) s a w h hI
  | rangeFunc f ps a b _ _ => intro p κ _ _ K Q hn he hr s a w h hI; simp [evCode] at h
  | scope c _ => intro p κ _ _ K Q hn he hr s a w h hI; simp [evCode] at h
  | label l => intro p κ _ _ K Q hn he hr s a w h hI; simp [evCode] at h
  | goto l => intro p κ _ _ K Q hn he hr s a w h hI; simp [evCode] at h
  | refuse _ => intro p κ _ _ K Q hn he hr s a w h hI; simp [evCode] at h
end
end Go.Pv
