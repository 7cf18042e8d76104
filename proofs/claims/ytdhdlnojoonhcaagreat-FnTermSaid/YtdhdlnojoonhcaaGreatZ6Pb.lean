import Derived.Test.YtdhdlnojoonhcaaGreatZ6Pa
import Derived.Test.YtdhdlnojoonhcaaGreatPvRow
namespace Go.Proofs.YtdhdlnojoonhcaaGreat.Pv
open Go Go.Pv Go.Proofs
set_option linter.unusedVariables false
set_option linter.unusedSimpArgs false
theorem l2Cfg_ok {N : Nat} {s : St} {k : Nat} (h : Rd (k + 3) s) : Ok (spec_l2Cfg N s) (fun r => (1 ≤ r.1.1 ∧ r.1.1 ≤ 3) ∧ (1 ≤ r.1.2.1 ∧ r.1.2.1 ≤ 3) ∧ (1 ≤ r.1.2.2 ∧ r.1.2.2 ≤ 3) ∧ Rd k r.2) := by
  unfold spec_l2Cfg
  refine (pick_ok h).bind fun u1 h1 => (pick_ok h1.2.2).bind fun u2 h2 => (pick_ok h2.2.2).bind fun u3 h3 => Ok.val ?_
  have e1 := w64 (n := 1 + u1.1) (by omega) (by omega)
  have e2 := w64 (n := 1 + u2.1) (by omega) (by omega)
  have e3 := w64 (n := 1 + u3.1) (by omega) (by omega)
  rw [e1,e2,e3]
  exact ⟨by dsimp only; omega,by dsimp only; omega,by dsimp only; omega,h3.2.2⟩
def openP (c : Cfg) : Bk := (c.1,List.replicate c.2.1.toNat 0,([],[],[],[]),List.replicate (c.2.1 * 8).toNat 0,List.replicate c.1.toNat 0,List.replicate c.1.toNat 0)
theorem rep_getD (n i : Nat) : (List.replicate n (0 : Int)).getD i 0 = 0 := by
  rw [List.getD_eq_getElem?_getD,List.getElem?_replicate]
  split <;> rfl
theorem spec_BookOpen_eq (N : Nat) {c : Cfg} (h : Plat c) : spec_BookOpen N c = some (((openP c).1,(),((),(),(),()),(),(),()),((openP c).2.1,(openP c).2.2.2.1,(openP c).2.2.2.2.1,(openP c).2.2.2.2.2)) := by
  unfold spec_BookOpen
  rw [spec_PlatOk_eq,dt h]
  unfold Plat at h
  simp only [Ob,Bool.not_true,cond_false]
  rw [w64 (n := c.2.1 * 8) (by omega) (by omega)]
  repeat rw [ct (by omega)]
  rfl
def Opd (op : Op) : Prop := (-100 ≤ op.1 ∧ op.1 ≤ 100) ∧ (-100 ≤ op.2.1 ∧ op.2.1 ≤ 100) ∧ (-200 ≤ op.2.2.1 ∧ op.2.2.1 ≤ 200) ∧ (-100 ≤ op.2.2.2 ∧ op.2.2.2 ≤ 100)
theorem num3_ok {N : Nat} {s : St} {k : Nat} (h : Rd (k + 1) s) : Ok (lh_spec_l20Rd_num N ([0,7,(-1)]) s) (fun r => (-1 ≤ r.1 ∧ r.1 ≤ 7) ∧ Rd k r.2) :=
  (num_ok (by simp) h).of fun r hr => ⟨by
    have := hr.1
    simp only [List.mem_cons,List.mem_nil_iff,or_false] at this
    omega,hr.2⟩
theorem l3Op_tail {N : Nat} {s : St} {k : Nat} (h : Rd (k + 2) s) {op : Op} (ho : Opd op) {x y z : Int} (hx : -100 ≤ x ∧ x ≤ 100) (hy : -200 ≤ y ∧ y ≤ 200) (hz : -100 ≤ z ∧ z ≤ 100) :
    Ok ((lh_spec_l20Rd_pick N 20 s).bind fun u => (bif (u.1 == 0) then (lh_spec_l20Rd_num N ([0,7,(-1)]) u.2).bind fun v => some ((v.1,x,y,z),v.2) else some ((op.1,x,y,z),u.2))) (fun r => Opd r.1 ∧ Rd k r.2) := by
  refine (pick_ok h).bind fun u hu => Ok.beq (fun _ => (num3_ok hu.2.2).bind fun v hv => Ok.val ⟨⟨by dsimp only; omega,hx,hy,hz⟩,hv.2⟩) (fun _ => Ok.val ⟨⟨ho.1,hx,hy,hz⟩,hu.2.2.mono (by omega)⟩)
theorem l3Op_loop {N : Nat} {b : Bk} (hb : Bd b) {op : Op} (ho : Opd op) {j : Nat} (z : Op) {s : St} (h : Rd (j + 5) s) : ∀ d i k (l : List Int),i + d = b.2.2.2.1.length → d < k → l.length ≤ i → (∀ x ∈ l,0 ≤ x ∧ x < b.2.2.2.1.length) →
    Ok (spec_l3Op.l0 N k i s b z op l) (fun r => Opd r.1 ∧ Rd j r.2)
  | 0,i,k,l,h1,h2,h3,h4 => by
    have hl := hb.2.2.2.1.1
    obtain ⟨k,rfl⟩ := fuel h2
    rw [spec_l3Op.l0]
    refine Ok.ite (fun c => by omega) fun _ => Ok.ite (fun c => ?_) fun _ => ?_
    · refine (pick_ok (k := j + 4) h).bind fun u18 g18 => Ok.ite (fun c2 => ?_) fun _ => ?_
      · refine (pick_ok (k := j + 3) g18.2.2).bind fun u19 g19 => ?_
        have hlt : u19.1 < l.length := by rcases g19.2.1 with g | g <;> omega
        refine Ok.inb g19.1 hlt ?_
        have hm : l.getD u19.1.toNat 0 ∈ l := by rw [getD_lt (by omega)]; exact List.getElem_mem _
        have hm2 := h4 _ hm
        refine Ok.inb hm2.1 hm2.2 ((pick_ok (k := j + 2) g19.2.2).bind fun u20 g20 => ?_)
        have hw : (b.2.2.2.1.getD (l.getD u19.1.toNat 0).toNat 0) ∈ b.2.2.2.1 := by
          rw [getD_lt (l := b.2.2.2.1) (by omega)]; exact List.getElem_mem _
        have hw2 := hb.2.2.2.2.1 _ hw
        have e1 := w64 (n := b.2.2.2.1.getD (l.getD u19.1.toNat 0).toNat 0 - 1) (by omega) (by omega)
        have e2 := w64 (n := u20.1 - 1) (by omega) (by omega)
        rw [e1,e2]
        exact l3Op_tail g20.2.2 ho (by omega) (by omega) (by omega)
      · refine (pick_ok (k := j + 3) g18.2.2).bind fun u20 g20 => ?_
        have e2 := w64 (n := u20.1 - 1) (by omega) (by omega)
        rw [e2]
        exact l3Op_tail (g20.2.2.mono (by omega)) ho ho.2.1 ho.2.2.1 (by omega)
    · refine (pick_ok (k := j + 4) h).bind fun u20 g20 => ?_
      have e2 := w64 (n := u20.1 - 1) (by omega) (by omega)
      rw [e2]
      exact l3Op_tail (g20.2.2.mono (by omega)) ho ho.2.1 ho.2.2.1 (by omega)
  | d + 1,i,k,l,h1,h2,h3,h4 => by
    have hl := hb.2.2.2.1.1
    obtain ⟨k,rfl⟩ := fuel h2
    have e1 : IntKind.i64.wrap ((i : Int) + 1) = ((i + 1 : Nat) : Int) := wi (by omega)
    rw [spec_l3Op.l0,e1]
    refine Ok.ite (fun _ => Ok.inb (by omega) (by omega) (Ok.ite (fun _ => Ok.ite (fun _ => ?_) fun c => ?_) fun _ => ?_)) fun c => by omega
    · refine l3Op_loop hb ho z h d (i + 1) k _ (by omega) (by omega) (by rw [List.length_append]; simp; omega) fun x hx => ?_
      rcases List.mem_append.1 hx with g | g
      · exact h4 x g
      · rw [List.mem_singleton.1 g]; omega
    · exact (c (by simp; omega)).elim
    · exact l3Op_loop hb ho z h d (i + 1) k l (by omega) (by omega) (by omega) h4
theorem l3Op_ok {N : Nat} (hN : Fuel N) {b : Bk} (hb : Bd b) {s : St} {j : Nat} (h : Rd (j + 10) s) : Ok (spec_l3Op N b s) (fun r => Opd r.1 ∧ Rd j r.2) := by
  have hl := hb.2.2.2.1.1
  unfold spec_l3Op
  refine (num_ok (k := j + 9) (by simp) h).bind fun u1 g1 => (pick_ok (k := j + 8) g1.2).bind fun u2 g2 => ?_
  have hk : 1 ≤ u1.1 ∧ u1.1 ≤ 6 := by
    have := g1.1
    simp only [List.mem_cons,List.mem_nil_iff,or_false] at this
    omega
  have hop : ∀ y,-200 ≤ y → y ≤ 200 → Opd (u1.1,u2.1,y,0) := fun y h1 h2 => ⟨by dsimp only; omega,by dsimp only; omega,by dsimp only; omega,by dsimp only; omega⟩
  have hp2 : -100 ≤ u2.1 ∧ u2.1 ≤ 100 := by omega
  have body : Ok ((lh_spec_l20Rd_pick N (IntKind.i64.wrap ((b.2.2.2.1.length : Int) + 2)) u2.2).bind fun u6 => spec_l3Op.l0 N N 0 u6.2 b (0,0,0,0) (u1.1,u2.1,IntKind.i64.wrap (u6.1 - 1),0) ([] : List Int)) (fun r => Opd r.1 ∧ Rd j r.2) := by
    rw [w64 (n := (b.2.2.2.1.length : Int) + 2) (by omega) (by omega)]
    refine (pick_ok (k := j + 7) g2.2.2).bind fun u6 g6 => ?_
    have e := w64 (n := u6.1 - 1) (by omega) (by omega)
    rw [e]
    unfold Fuel at hN
    exact l3Op_loop hb (hop _ (by omega) (by omega)) _ (g6.2.2.mono (by omega)) b.2.2.2.1.length 0 N [] (by omega) (by omega) (by simp) (fun x hx => by cases hx)
  have reaps : Ok ((lh_spec_l20Rd_pick N 5 u2.2).bind fun u7 => (lh_spec_l20Rd_pick N 20 u7.2).bind fun u8 => (bif (u8.1 == 0) then (lh_spec_l20Rd_num N ([0,7,(-1)]) u8.2).bind fun u9 => some ((u9.1,u2.1,IntKind.i64.wrap (u7.1 - 1),0),u9.2) else some ((u1.1,u2.1,IntKind.i64.wrap (u7.1 - 1),0),u8.2))) (fun r => Opd r.1 ∧ Rd j r.2) := by
    refine (pick_ok (k := j + 7) g2.2.2).bind fun u7 g7 => ?_
    have e := w64 (n := u7.1 - 1) (by omega) (by omega)
    rw [e]
    exact l3Op_tail (op := (u1.1,u2.1,0,0)) (g7.2.2.mono (by omega)) (hop 0 (by omega) (by omega)) hp2 (by omega) (by omega)
  have plain : Ok ((lh_spec_l20Rd_pick N 20 u2.2).bind fun u10 => (bif (u10.1 == 0) then (lh_spec_l20Rd_num N ([0,7,(-1)]) u10.2).bind fun u11 => some ((u11.1,u2.1,0,0),u11.2) else some ((u1.1,u2.1,0,0),u10.2))) (fun r => Opd r.1 ∧ Rd j r.2) :=
    l3Op_tail (op := (u1.1,u2.1,0,0)) (g2.2.2.mono (by omega)) (hop 0 (by omega) (by omega)) hp2 (by omega) (by omega)
  refine Ok.beq (fun _ => ?_) fun _ => Ok.beq (fun _ => Ok.beq (fun _ => body) fun _ => Ok.beq (fun _ => reaps) fun _ => plain) fun _ => Ok.beq (fun _ => body) fun _ => Ok.beq (fun _ => reaps) fun _ => plain
  refine (num_ok (k := j + 7) (by simp) g2.2.2).bind fun u3 g3 => ?_
  have h3 : 0 ≤ u3.1 ∧ u3.1 ≤ 33 := by
    have := g3.1
    simp only [List.mem_cons,List.mem_nil_iff,or_false] at this
    omega
  exact l3Op_tail (op := (u1.1,u2.1,0,0)) (g3.2.mono (by omega)) (hop 0 (by omega) (by omega)) hp2 (by omega) (by omega)
theorem cfg_plat {c : Cfg} (h : (1 ≤ c.1 ∧ c.1 ≤ 3) ∧ (1 ≤ c.2.1 ∧ c.2.1 ≤ 3) ∧ (1 ≤ c.2.2 ∧ c.2.2 ≤ 3)) : Plat c := by
  unfold Plat; omega
theorem numin_ok {N : Nat} {l : List Int} {a c : Int} (hl : l ≠ []) (hb : ∀ x ∈ l,a ≤ x ∧ x ≤ c) {s : St} {k : Nat} (h : Rd (k + 1) s) : Ok (lh_spec_l20Rd_num N l s) (fun r => (a ≤ r.1 ∧ r.1 ≤ c) ∧ Rd k r.2) :=
  (num_ok hl h).of fun r hr => ⟨hb _ hr.1,hr.2⟩
theorem allin {l : List Int} {a c : Int} (h : l.all (fun x => decide (a ≤ x ∧ x ≤ c)) = true) : ∀ x ∈ l,a ≤ x ∧ x ≤ c := fun x hx => of_decide_eq_true (List.all_eq_true.1 h x hx)
noncomputable def bookOf (b : Bk) (s : Int) : List Int := @ite _ (BookP b ∧ 0 ≤ s ∧ s < b.1) (Classical.propDecidable _) (blksOf b s (nu b) 0) []
theorem blks_none {b : Bk} (h : BookP b) {s : Int} (hs : s < 0 ∨ b.1 ≤ s) : ∀ d i,i + d = nu b → s ≠ -1 → blksOf b s d i = []
  | 0,i,_,_ => rfl
  | d + 1,i,e,hs2 => by
    have := ownB_iff.1 (h.own (u := i) (by omega))
    rw [blksOf,if_neg (by omega),blks_none h hs d (i + 1) (by omega) hs2]
theorem spec_BookOf_loop (N : Nat) (hN : Fuel N) {b : Bk} (h : BookP b) (hi : Bi b) (hb : Bshort b) (s : Int) (hs : -10 ≤ s ∧ s ≤ 10) : ∀ d i k (l : List Int),i + d = nu b → d < k → l.length ≤ i →
    spec_BookOf.l0 N k s i b l = some ((),l ++ if 0 ≤ s then blksOf b s d i else [])
  | 0,i,k,l,e,hk,hl => by
    obtain ⟨k,rfl⟩ := fuel hk
    have hnu : nu b = b.2.2.2.1.length := rfl
    rw [spec_BookOf.l0,spec_BookOk_eq N hN b hi hb,bookOk,tf_t h]
    simp only [Ob,cond_true]
    rw [cf (by omega),blksOf]
    split <;> rw [List.append_nil]
  | d + 1,i,k,l,e,hk,hl => by
    obtain ⟨k,rfl⟩ := fuel hk
    have hdim := h.dims
    have hnu : nu b = b.2.2.2.1.length := rfl
    rw [spec_BookOf.l0,spec_BookOk_eq N hN b hi hb,bookOk,tf_t h]
    simp only [Ob,cond_true]
    rw [ct (by omega),bnd (by omega) (by omega),Int.toNat_natCast,fold_ow,cndb,w64 (n := s + 1) (by omega) (by omega),w64 (n := (i : Int) + 1) (by omega) (by omega),show (i : Int) + 1 = ((i + 1 : Nat) : Int) by omega,blksOf]
    by_cases c : ow b i = s + 1
    · rw [if_pos c,if_pos c]
      by_cases c2 : s ≥ 0
      · rw [ct c2,ct (by simp; omega),spec_BookOf_loop N hN h hi hb s hs d (i + 1) k _ (by omega) (by omega) (by rw [List.length_append]; simp; omega),if_pos c2,if_pos c2,List.append_assoc]; rfl
      · rw [cf c2,spec_BookOf_loop N hN h hi hb s hs d (i + 1) k _ (by omega) (by omega) (by omega),if_neg c2,if_neg c2]
    · rw [if_neg c,if_neg c]
      exact spec_BookOf_loop N hN h hi hb s hs d (i + 1) k _ (by omega) (by omega) (by omega)
theorem spec_BookOf_eq (N : Nat) (hN : Fuel N) (b : Bk) (hi : Bi b) (hb : Bshort b) (s : Int) (hs : -10 ≤ s ∧ s ≤ 10) : spec_BookOf N b s = some ((),bookOf b s) := by
  unfold spec_BookOf bookOf
  obtain ⟨m,hm⟩ : ∃ m,N = m + 1 := ⟨N - 1,by unfold Fuel at hN; omega⟩
  by_cases h : BookP b
  rotate_left
  · rw [if_neg (fun g => h g.1)]
    have : ∀ k,spec_BookOf.l0 N (k + 1) s 0 b [] = some ((),[]) := fun k => by
      rw [spec_BookOf.l0,spec_BookOk_eq N hN b hi hb,bookOk,tf_f h]; rfl
    have := this m
    rwa [← hm] at this
  have hdim := h.dims
  have := spec_BookOf_loop N hN h hi hb s hs (nu b) 0 N [] (by omega) (by unfold Fuel at hN; omega) (by simp)
  rw [show ((0 : Nat) : Int) = 0 from rfl,List.nil_append] at this
  rw [this]
  by_cases c : 0 ≤ s
  · rw [if_pos c]
    by_cases c2 : s < b.1
    · rw [if_pos ⟨h,c,c2⟩]
    · rw [if_neg (fun g => c2 g.2.2),blks_none h (.inr (by omega)) _ _ (by omega) (by omega)]
  · rw [if_neg c,if_neg (fun g => c g.2.1)]
theorem wf_bytes {l : List Int} (h : Wf (.sl .frz (.int .u8)) l) : ∀ x ∈ l,0 ≤ x ∧ x ≤ 255 := fun x hx => by have := wf_u8 (h.2 x hx); omega
theorem bookDo_ok {b : Bk} (h : BookP b) (op : Op) : bookDo b op = doP b op := by unfold bookDo; rw [if_pos h]
theorem list_ext {l m : List Int} (hl : l.length = m.length) (h : ∀ i,l.getD i 0 = m.getD i 0) : l = m := by
  apply List.ext_getElem hl
  intro i h1 h2
  have := h i
  rwa [getD_lt h1,getD_lt h2] at this
abbrev outT (r : Bk × Bool) : Option ((BkU × Bool) × L8) :=
  some (((r.1.1,(),((),(),(),()),(),(),()),r.2),(r.1.2.1,r.1.2.2.1.1,r.1.2.2.1.2.1,r.1.2.2.1.2.2.1,r.1.2.2.1.2.2.2,r.1.2.2.2.1,r.1.2.2.2.2.1,r.1.2.2.2.2.2))
def ItmsD (l : List Itm) (n : Nat) : Prop := l.length ≤ n ∧ ∀ t ∈ l,0 ≤ t.2.1 ∧ t.2.1 ≤ 2
theorem ItmsD.add {l : List Itm} {n : Nat} (h : ItmsD l n) {t : Itm} (ht : 0 ≤ t.2.1 ∧ t.2.1 ≤ 2) : ItmsD (l ++ [t]) (n + 1) := by
  refine ⟨by rw [List.length_append]; have := h.1; simp; omega,fun y hy => ?_⟩
  rcases List.mem_append.1 hy with g | g
  · exact h.2 y g
  · rw [List.mem_singleton.1 g]; exact ht
theorem sm_nil (n : Nat) : Sm n [] := ⟨Nat.zero_le _,fun x hx => by cases hx⟩
theorem bk0_bd : Bd bk0 := ⟨⟨by decide,by decide⟩,sm_nil _,⟨sm_nil _,sm_nil _,sm_nil _,sm_nil _⟩,sm_nil _,fun x hx => (by cases hx),sm_nil _,sm_nil _⟩
def hA (c : Cfg) : Nat := (3 + 2 * c.1).toNat
def pA (c : Cfg) : Nat := (7 + 2 * c.1).toNat
def tA (c : Cfg) : Nat := (7 + 2 * c.1 + c.2.1).toNat
def kA (c : Cfg) : Nat := (7 + 2 * c.1 + 9 * c.2.1).toNat
def dA (c : Cfg) : Nat := (house c).toNat
theorem plat_at {c : Cfg} (h : Plat c) : (hA c : Int) = 3 + 2 * c.1 ∧ (pA c : Int) = 7 + 2 * c.1 ∧ (tA c : Int) = 7 + 2 * c.1 + c.2.1 ∧ (kA c : Int) = 7 + 2 * c.1 + 9 * c.2.1 ∧ (dA c : Int) = 7 + 2 * c.1 + 17 * c.2.1 ∧ 1 ≤ c.1 ∧ c.1 ≤ 4 ∧ 1 ≤ c.2.1 ∧ c.2.1 ≤ 6 := by
  unfold Plat at h
  unfold hA pA tA kA dA house
  omega
def chainP (k0 : Nat) : List Int → Nat → List Int → List Int
  | M,p,[] => M
  | M,p,u :: r => chainP k0 (M.set p (u + 1)) (k0 + u.toNat) r
theorem chainP_len (k0 : Nat) : ∀ (l M : List Int) (p : Nat),(chainP k0 M p l).length = M.length
  | [],M,p => rfl
  | u :: r,M,p => by rw [chainP,chainP_len k0 r,List.length_set]
def headOr (l : List Int) (d : Int) : Int := match l with
  | [] => d
  | x :: _ => x + 1
def nextOr : List Int → Int → Int → Int
  | [],_,d => d
  | x :: r,u,d => if x = u then headOr r d else nextOr r u d
theorem nextOr_not : ∀ (l : List Int) (u d : Int),u ∉ l → nextOr l u d = d
  | [],u,d,_ => rfl
  | x :: r,u,d,h => by
    rw [nextOr,if_neg (fun e => h (by rw [e]; exact List.mem_cons_self)),nextOr_not r u d (fun g => h (List.mem_cons_of_mem _ g))]
theorem chainP_getD (k0 : Nat) : ∀ (l M : List Int) (p : Nat),l.Nodup → (∀ x ∈ l,0 ≤ x ∧ k0 + x.toNat < M.length) → p < M.length → (∀ x ∈ l,k0 + x.toNat ≠ p) → ∀ j,
    (chainP k0 M p l).getD j 0 = if j = p then headOr l (M.getD j 0) else if k0 ≤ j then nextOr l ((j - k0 : Nat) : Int) (M.getD j 0) else M.getD j 0
  | [],M,p,_,_,_,_,j => by
    rw [chainP]
    unfold headOr nextOr
    split
    · rfl
    split <;> rfl
  | x :: r,M,p,hn,hx,hp,hne,j => by
    have hn' := List.nodup_cons.1 hn
    have hx0 := hx x List.mem_cons_self
    have hp0 := hne x List.mem_cons_self
    have ih := chainP_getD k0 r (M.set p (x + 1)) (k0 + x.toNat) hn'.2 (fun y hy => by rw [List.length_set]; exact hx y (List.mem_cons_of_mem _ hy)) (by rw [List.length_set]; exact hx0.2) (fun y hy e => by
      have := hx y (List.mem_cons_of_mem _ hy)
      have : y = x := by omega
      rw [this] at hy; exact hn'.1 hy) j
    have hM : (M.set p (x + 1)).getD j 0 = if j = p then x + 1 else M.getD j 0 := getD_set _ _ _ _ hp
    rw [chainP,ih,hM]
    by_cases c1 : j = p
    · subst c1
      rw [if_neg (show ¬ j = k0 + x.toNat from fun e => hp0 e.symm),if_pos rfl,if_pos rfl]
      have hh : headOr (x :: r) (M.getD j 0) = x + 1 := rfl
      rw [hh]
      split
      · rw [nextOr_not]
        intro g
        exact hne _ (List.mem_cons_of_mem _ g) (by omega)
      · rfl
    · rw [if_neg c1,if_neg c1]
      by_cases c2 : j = k0 + x.toNat
      · rw [if_pos c2,if_pos (by omega),nextOr,if_pos (by omega)]
      · rw [if_neg c2]
        split
        · rw [nextOr,if_neg (by omega)]
        · rfl
def baseV (c : Cfg) (b : Bk) (j : Nat) : Int :=
  if 3 ≤ j ∧ j < 3 + c.1.toNat then inn b (j - 3) + 4 * ep b (j - 3) else if pA c ≤ j ∧ j < tA c then pg b (j - pA c) else if tA c ≤ j ∧ j < kA c then ow b (j - tA c) else 0
def baseP (c : Cfg) (b : Bk) : List Int := (List.range (dA c)).map (baseV c b)
theorem map_range_getD (f : Nat → Int) (n j : Nat) (h : j < n) : ((List.range n).map f).getD j 0 = f j := by
  rw [getD_lt (by simp; exact h)]; simp
theorem baseP_len (c : Cfg) (b : Bk) : (baseP c b).length = dA c := by unfold baseP; simp
theorem baseP_getD (c : Cfg) (b : Bk) (j : Nat) (h : j < dA c) : (baseP c b).getD j 0 = baseV c b j := map_range_getD _ _ _ h
def layP (c : Cfg) (b : Bk) : List Int :=
  chainP (kA c) (chainP (kA c) (chainP (kA c) (chainP (kA c) (baseP c b) (hA c) (hd b 0)) (hA c + 1) (hd b 1)) (hA c + 2) (hd b 2)) (hA c + 3) (hd b 3)
theorem layP_len (c : Cfg) (b : Bk) : (layP c b).length = dA c := by
  unfold layP
  rw [chainP_len,chainP_len,chainP_len,chainP_len,baseP_len]
def Fit (c : Cfg) (b : Bk) : Prop := Plat c ∧ BookP b ∧ b.1 = c.1 ∧ (np b : Int) = c.2.1
theorem nodup_of {l : List Int} (h : ∀ x ∈ l,l.count x ≤ 1) : l.Nodup := List.nodup_iff_count.2 fun x => by
  by_cases c : x ∈ l
  · exact h x c
  · rw [List.count_eq_zero.2 c]; omega
theorem BookP.nodup {b : Bk} (h : BookP b) {k : Nat} (hk : k < 4) : (hd b k).Nodup := nodup_of fun x hx => by
  have hm := h.mem hk hx
  have := page_count h.sizes (fun k hk x hx => h.list hk hx) (fun p hp => h.pageW hp) hk (u := x.toNat) (by omega)
  rwa [Int.toNat_of_nonneg hm.1] at this
theorem BookP.kinds {b : Bk} (h : BookP b) {k j : Nat} (hk : k < 4) (hj : j < 4) (hne : k ≠ j) {x : Int} (hx : x ∈ hd b k) : x ∉ hd b j := fun g => by
  have h1 := h.mem hk hx
  have h2 := h.mem hj g
  omega
def nextV (b : Bk) (u : Int) : Int := nextOr (hd b 3) u (nextOr (hd b 2) u (nextOr (hd b 1) u (nextOr (hd b 0) u 0)))
def layV (c : Cfg) (b : Bk) (j : Nat) : Int :=
  if hA c ≤ j ∧ j < pA c then headOr (hd b (j - hA c)) 0 else if kA c ≤ j then nextV b ((j - kA c : Nat) : Int) else baseV c b j
theorem layP_getD {c : Cfg} {b : Bk} (h : Fit c b) (j : Nat) (hj : j < dA c) : (layP c b).getD j 0 = layV c b j := by
  obtain ⟨hc,hb,h1,h2⟩ := h
  obtain ⟨a1,a2,a3,a4,a5,a6,a7,a8,a9⟩ := plat_at hc
  have hdim := hb.dims
  have hm : ∀ k,k < 4 → ∀ x ∈ hd b k,0 ≤ x ∧ kA c + x.toNat < dA c := fun k hk x hx => by have := hb.mem hk hx; omega
  have hp : ∀ k i,k < 4 → i < 4 → ∀ x ∈ hd b k,kA c + x.toNat ≠ hA c + i := fun k i hk hi x hx => by omega
  have e0 := chainP_getD (kA c) (hd b 0) (baseP c b) (hA c) (hb.nodup (by omega)) (by rw [baseP_len]; exact hm 0 (by omega)) (by rw [baseP_len]; omega) (hp 0 0 (by omega) (by omega)) j
  have e1 := chainP_getD (kA c) (hd b 1) (chainP (kA c) (baseP c b) (hA c) (hd b 0)) (hA c + 1) (hb.nodup (by omega)) (by rw [chainP_len,baseP_len]; exact hm 1 (by omega)) (by rw [chainP_len,baseP_len]; omega) (hp 1 1 (by omega) (by omega)) j
  have e2 := chainP_getD (kA c) (hd b 2) (chainP (kA c) (chainP (kA c) (baseP c b) (hA c) (hd b 0)) (hA c + 1) (hd b 1)) (hA c + 2) (hb.nodup (by omega)) (by rw [chainP_len,chainP_len,baseP_len]; exact hm 2 (by omega)) (by rw [chainP_len,chainP_len,baseP_len]; omega) (hp 2 2 (by omega) (by omega)) j
  have e3 := chainP_getD (kA c) (hd b 3) (chainP (kA c) (chainP (kA c) (chainP (kA c) (baseP c b) (hA c) (hd b 0)) (hA c + 1) (hd b 1)) (hA c + 2) (hd b 2)) (hA c + 3) (hb.nodup (by omega)) (by rw [chainP_len,chainP_len,chainP_len,baseP_len]; exact hm 3 (by omega)) (by rw [chainP_len,chainP_len,chainP_len,baseP_len]; omega) (hp 3 3 (by omega) (by omega)) j
  unfold layP
  rw [e3,e2,e1,e0,baseP_getD c b j hj]
  have hz : hA c ≤ j → (j < pA c ∨ kA c ≤ j) → baseV c b j = 0 := fun g1 g2 => by unfold baseV; rw [if_neg (by omega),if_neg (by omega),if_neg (by omega)]
  unfold layV
  by_cases g : hA c ≤ j ∧ j < pA c
  · rw [if_pos g,hz g.1 (.inl g.2)]
    obtain ⟨i,rfl⟩ : ∃ i,j = hA c + i := ⟨j - hA c,by omega⟩
    rw [show hA c + i - hA c = i by omega]
    have hi : i = 0 ∨ i = 1 ∨ i = 2 ∨ i = 3 := by omega
    rcases hi with rfl | rfl | rfl | rfl
    · rw [if_neg (by omega),if_neg (by omega),if_neg (by omega),if_neg (by omega),if_neg (by omega),if_neg (by omega),if_pos (by omega)]
    · rw [if_neg (by omega),if_neg (by omega),if_neg (by omega),if_neg (by omega),if_pos (by omega),if_neg (by omega),if_neg (by omega)]
    · rw [if_neg (by omega),if_neg (by omega),if_pos (by omega),if_neg (by omega),if_neg (by omega),if_neg (by omega),if_neg (by omega)]
    · rw [if_pos (by omega),if_neg (by omega),if_neg (by omega),if_neg (by omega),if_neg (by omega),if_neg (by omega),if_neg (by omega)]
  · have n0 : ¬ j = hA c := fun e => g ⟨by omega,by omega⟩
    have n1 : ¬ j = hA c + 1 := fun e => g ⟨by omega,by omega⟩
    have n2 : ¬ j = hA c + 2 := fun e => g ⟨by omega,by omega⟩
    have n3 : ¬ j = hA c + 3 := fun e => g ⟨by omega,by omega⟩
    rw [if_neg g,if_neg n3,if_neg n2,if_neg n1,if_neg n0]
    by_cases g2 : kA c ≤ j
    · simp only [if_pos g2]
      rw [hz (by omega) (.inr g2)]; rfl
    · simp only [if_neg g2]
theorem nextV_mem {b : Bk} (h : BookP b) {k : Nat} (hk : k < 4) {u : Int} (hu : u ∈ hd b k) : nextV b u = nextOr (hd b k) u 0 := by
  have hno : ∀ j,j < 4 → j ≠ k → u ∉ hd b j := fun j hj hne => h.kinds hk hj (fun e => hne e.symm) hu
  unfold nextV
  have hi : k = 0 ∨ k = 1 ∨ k = 2 ∨ k = 3 := by omega
  rcases hi with rfl | rfl | rfl | rfl
  · rw [nextOr_not _ _ _ (hno 3 (by omega) (by omega)),nextOr_not _ _ _ (hno 2 (by omega) (by omega)),nextOr_not _ _ _ (hno 1 (by omega) (by omega))]
  · rw [nextOr_not _ _ _ (hno 3 (by omega) (by omega)),nextOr_not _ _ _ (hno 2 (by omega) (by omega)),nextOr_not (hd b 0) _ _ (hno 0 (by omega) (by omega))]
  · rw [nextOr_not _ _ _ (hno 3 (by omega) (by omega)),nextOr_not (hd b 1) _ _ (hno 1 (by omega) (by omega)),nextOr_not (hd b 0) _ _ (hno 0 (by omega) (by omega))]
  · rw [nextOr_not (hd b 2) _ _ (hno 2 (by omega) (by omega)),nextOr_not (hd b 1) _ _ (hno 1 (by omega) (by omega)),nextOr_not (hd b 0) _ _ (hno 0 (by omega) (by omega))]
def chainR (v : Nat → Int) (k0 : Nat) (U : Int) : Nat → Int → List Int
  | 0,_ => []
  | n + 1,a => if 0 < a ∧ a ≤ U then (a - 1) :: chainR v k0 U n (v (k0 + (a - 1).toNat)) else []
def readB (c : Cfg) (v : Nat → Int) : Bk :=
  (c.1,(List.range c.2.1.toNat).map (fun i => v (pA c + i)),
    (chainR v (kA c) (8 * c.2.1) ((8 * c.2.1).toNat + 1) (v (hA c)),chainR v (kA c) (8 * c.2.1) ((8 * c.2.1).toNat + 1) (v (hA c + 1)),
      chainR v (kA c) (8 * c.2.1) ((8 * c.2.1).toNat + 1) (v (hA c + 2)),chainR v (kA c) (8 * c.2.1) ((8 * c.2.1).toNat + 1) (v (hA c + 3))),
    (List.range (8 * c.2.1).toNat).map (fun i => v (tA c + i)),(List.range c.1.toNat).map (fun i => v (3 + i) % 4),(List.range c.1.toNat).map (fun i => v (3 + i) / 4))
def Agree (c : Cfg) (v : Nat → Int) (b : Bk) : Prop := ∀ j,j < dA c → (3 ≤ j ∧ j < 3 + c.1.toNat ∨ hA c ≤ j) → layV c b j = v j
noncomputable def censP (c : Cfg) (v : Nat → Int) : Bk × Bool := @ite _ (BookP (readB c v) ∧ Agree c v (readB c v)) (Classical.propDecidable _) (readB c v,true) (bk0,false)
theorem readB_fit {c : Cfg} (hc : Plat c) {v : Nat → Int} (hb : BookP (readB c v)) : Fit c (readB c v) := by
  refine ⟨hc,hb,rfl,?_⟩
  unfold Plat at hc
  have : np (readB c v) = c.2.1.toNat := by unfold np readB; simp
  omega
theorem fit_nu {c : Cfg} {b : Bk} (h : Fit c b) : (nu b : Int) = 8 * c.2.1 := by
  have := h.2.1.dims
  have := h.2.2.2
  omega
theorem map_eq {f : Nat → Int} {l : List Int} {n : Nat} (hl : l.length = n) (h : ∀ i,i < n → f i = l.getD i 0) : (List.range n).map f = l := by
  apply list_ext (by simp; exact hl.symm)
  intro i
  by_cases c : i < n
  · rw [map_range_getD _ _ _ c,h i c]
  · have e1 : l.getD i 0 = 0 := by rw [List.getD_eq_getElem?_getD,List.getElem?_eq_none (by omega)]; rfl
    rw [e1,List.getD_eq_getElem?_getD,List.getElem?_eq_none (by simp; omega)]; rfl
def Mat (n : Nat) (M : List Int) (f : Nat → Int) : Prop := M.length = n ∧ ∀ j,j < n → M.getD j 0 = f j
theorem Mat.set {n : Nat} {M : List Int} {f : Nat → Int} (h : Mat n M f) {p : Nat} (hp : p < n) (x : Int) {g : Nat → Int} (hg : ∀ j,g j = if j = p then x else f j) : Mat n (M.set p x) g :=
  ⟨by rw [List.length_set]; exact h.1,fun j hj => by rw [getD_set _ _ _ _ (by rw [h.1]; exact hp),hg]; split; rfl; exact h.2 j hj⟩
theorem Mat.congr {n : Nat} {M : List Int} {f g : Nat → Int} (h : Mat n M f) (hg : ∀ j,j < n → f j = g j) : Mat n M g := ⟨h.1,fun j hj => by rw [h.2 j hj,hg j hj]⟩
theorem Mat.eq {n : Nat} {M : List Int} {f : Nat → Int} (h : Mat n M f) : M = (List.range n).map f := (map_eq h.1 fun i hi => (h.2 i hi).symm).symm
theorem mat_zero (n : Nat) : Mat n (List.replicate n 0) (fun _ => 0) := ⟨by simp,fun j _ => rep_getD n j⟩
def regV (b : Bk) (n : Nat) (j : Nat) : Int := if 3 ≤ j ∧ j < 3 + n then inn b (j - 3) + 4 * ep b (j - 3) else 0
def pgV (c : Cfg) (b : Bk) (n : Nat) (j : Nat) : Int := if pA c ≤ j ∧ j < pA c + n then pg b (j - pA c) else regV b c.1.toNat j
def owV (c : Cfg) (b : Bk) (n : Nat) (j : Nat) : Int := if tA c ≤ j ∧ j < tA c + n then ow b (j - tA c) else pgV c b c.2.1.toNat j
theorem owV_base {c : Cfg} (hc : Plat c) (b : Bk) (j : Nat) : owV c b (8 * c.2.1).toNat j = baseV c b j := by
  obtain ⟨a1,a2,a3,a4,a5,a6,a7,a8,a9⟩ := plat_at hc
  unfold owV pgV regV baseV
  by_cases g1 : 3 ≤ j ∧ j < 3 + c.1.toNat
  · rw [if_neg (by omega),if_neg (by omega),if_pos g1,if_pos g1]
  rw [if_neg g1,if_neg g1]
  by_cases g2 : pA c ≤ j ∧ j < tA c
  · rw [if_neg (by omega),if_pos (by omega),if_pos g2]
  rw [if_neg g2]
  by_cases g3 : tA c ≤ j ∧ j < kA c
  · rw [if_pos (by omega),if_pos g3]
  · rw [if_neg (by omega),if_neg (by omega),if_neg g3]
theorem hd_cases {P : Prop} {k : Nat} (hk : k < 4) (h0 : k = 0 → P) (h1 : k = 1 → P) (h2 : k = 2 → P) (h3 : k = 3 → P) : P := by
  have hi : k = 0 ∨ k = 1 ∨ k = 2 ∨ k = 3 := by omega
  rcases hi with h | h | h | h
  · exact h0 h
  · exact h1 h
  · exact h2 h
  · exact h3 h
theorem sReg (N : Nat) {c : Cfg} (h : Plat c) {i : Nat} (hi : i < c.1.toNat) : spec_PlatReg N c (i : Nat) = some (((3 + i : Nat) : Int),()) := by
  have h' := h
  unfold Plat at h'
  unfold spec_PlatReg
  rw [spec_l2At_eq N h 3 i c.1 1 (by omega) (by omega) (by omega) (by omega) (by omega),if_pos (by omega)]
  simp only [Ob]
  congr 2; omega
theorem sHead (N : Nat) {c : Cfg} (h : Plat c) {i : Nat} (hi : i < 4) : spec_PlatHead N c (i : Nat) = some (((hA c + i : Nat) : Int),()) := by
  obtain ⟨a1,a2,a3,a4,a5,a6,a7,a8,a9⟩ := plat_at h
  unfold spec_PlatHead
  rw [w64 (n := 2 * c.1) (by omega) (by omega),w64 (n := 3 + 2 * c.1) (by omega) (by omega),spec_l2At_eq N h _ i 4 1 (by omega) (by omega) (by omega) (by omega) (by omega),if_pos (by omega)]
  simp only [Ob]
  congr 2; omega
theorem sPage (N : Nat) {c : Cfg} (h : Plat c) {i : Nat} (hi : i < c.2.1.toNat) : spec_PlatPage N c (i : Nat) = some (((pA c + i : Nat) : Int),()) := by
  obtain ⟨a1,a2,a3,a4,a5,a6,a7,a8,a9⟩ := plat_at h
  unfold spec_PlatPage
  rw [w64 (n := 2 * c.1) (by omega) (by omega),w64 (n := 3 + 2 * c.1) (by omega) (by omega),w64 (n := 3 + 2 * c.1 + 4) (by omega) (by omega),spec_l2At_eq N h _ i c.2.1 1 (by omega) (by omega) (by omega) (by omega) (by omega),if_pos (by omega)]
  simp only [Ob]
  congr 2; omega
theorem sTag (N : Nat) {c : Cfg} (h : Plat c) {i : Nat} (hi : i < (8 * c.2.1).toNat) : spec_PlatTag N c (i : Nat) = some (((tA c + i : Nat) : Int),()) := by
  obtain ⟨a1,a2,a3,a4,a5,a6,a7,a8,a9⟩ := plat_at h
  unfold spec_PlatTag
  rw [w64 (n := 2 * c.1) (by omega) (by omega),w64 (n := 3 + 2 * c.1) (by omega) (by omega),w64 (n := 3 + 2 * c.1 + 4) (by omega) (by omega),w64 (n := 3 + 2 * c.1 + 4 + c.2.1) (by omega) (by omega),w64 (n := c.2.1 * 8) (by omega) (by omega),spec_l2At_eq N h _ i (c.2.1 * 8) 1 (by omega) (by omega) (by omega) (by omega) (by omega),if_pos (by omega)]
  simp only [Ob]
  congr 2; omega
theorem sLink (N : Nat) {c : Cfg} (h : Plat c) {i : Nat} (hi : i < (8 * c.2.1).toNat) : spec_PlatLink N c (i : Nat) = some (((kA c + i : Nat) : Int),()) := by
  obtain ⟨a1,a2,a3,a4,a5,a6,a7,a8,a9⟩ := plat_at h
  unfold spec_PlatLink
  rw [w64 (n := 2 * c.1) (by omega) (by omega),w64 (n := 3 + 2 * c.1) (by omega) (by omega),w64 (n := 3 + 2 * c.1 + 4) (by omega) (by omega),w64 (n := 3 + 2 * c.1 + 4 + c.2.1) (by omega) (by omega),w64 (n := 8 * c.2.1) (by omega) (by omega),w64 (n := 3 + 2 * c.1 + 4 + c.2.1 + 8 * c.2.1) (by omega) (by omega),w64 (n := c.2.1 * 8) (by omega) (by omega),spec_l2At_eq N h _ i (c.2.1 * 8) 1 (by omega) (by omega) (by omega) (by omega) (by omega),if_pos (by omega)]
  simp only [Ob]
  congr 2; omega
theorem spec_lay_l7 (N : Nat) {c : Cfg} {b : Bk} (h : Fit c b) {k : Nat} (hk : k < 4) : ∀ d i K (p : Nat) (M : List Int),i + d = (hd b k).length → M.length = dA c → p < dA c →
    spec_l4Lay.l7 N (K + 3 * d + 2) k (p : Nat) (i : Nat) c b M = spec_l4Lay.l6 N K ((k + 1 : Nat) : Int) c b (chainP (kA c) M p ((hd b k).drop i))
  | 0,i,K,p,M,e,hM,hp => by
    rw [drop_end (by omega),chainP,show K + 3 * 0 + 2 = K + 1 + 1 by omega]
    have w : IntKind.i64.wrap ((k : Int) + 1) = ((k + 1 : Nat) : Int) := wi (by omega)
    refine hd_cases hk (fun g => ?_) (fun g => ?_) (fun g => ?_) (fun g => ?_) <;> subst g
    · have e' : ((b.2.2.1.1.length : Nat) : Int) = (i : Nat) := by have : (hd b 0).length = i := by omega
                                                                   rw [← this]; rfl
      rw [spec_l4Lay.l7,ct (by omega),cf (by omega),spec_l4Lay.l9,w]
    · have e' : ((b.2.2.1.2.1.length : Nat) : Int) = (i : Nat) := by have : (hd b 1).length = i := by omega
                                                                     rw [← this]; rfl
      rw [spec_l4Lay.l7,cf (by omega),ct (by omega),cf (by omega),spec_l4Lay.l9,w]
    · have e' : ((b.2.2.1.2.2.1.length : Nat) : Int) = (i : Nat) := by have : (hd b 2).length = i := by omega
                                                                       rw [← this]; rfl
      rw [spec_l4Lay.l7,cf (by omega),cf (by omega),ct (by omega),cf (by omega),spec_l4Lay.l9,w]
    · have e' : ((b.2.2.1.2.2.2.length : Nat) : Int) = (i : Nat) := by have : (hd b 3).length = i := by omega
                                                                       rw [← this]; rfl
      rw [spec_l4Lay.l7,cf (by omega),cf (by omega),cf (by omega),ct (by omega),cf (by omega),spec_l4Lay.l9,w]
  | d + 1,i,K,p,M,e,hM,hp => by
    obtain ⟨a1,a2,a3,a4,a5,a6,a7,a8,a9⟩ := plat_at h.1
    have hnu := fit_nu h
    have hl := h.2.1.hd_len hk
    have hx := h.2.1.mem hk (x := (hd b k).getD i 0) (by rw [getD_lt (by omega)]; exact List.getElem_mem _)
    obtain ⟨x,hxe⟩ : ∃ x : Nat,(hd b k).getD i 0 = x := ⟨((hd b k).getD i 0).toNat,by omega⟩
    have ih := spec_lay_l7 N h hk d (i + 1) K (kA c + x) (M.set p ((x : Int) + 1)) (by omega) (by rw [List.length_set]; exact hM) (by omega)
    have w1 : IntKind.i64.wrap ((i : Int) + 1) = ((i + 1 : Nat) : Int) := wi (by omega)
    have w2 : IntKind.i64.wrap ((x : Int) + 1) = (x : Int) + 1 := w64 (by omega) (by omega)
    have lk := sLink N h.1 (i := x) (by omega)
    rw [drop_at 0 (show i < (hd b k).length by omega),chainP,hxe,Int.toNat_natCast,← ih,show K + 3 * (d + 1) + 2 = K + 3 * d + 2 + 1 + 1 + 1 by omega]
    refine hd_cases hk (fun g => ?_) (fun g => ?_) (fun g => ?_) (fun g => ?_) <;> subst g
    · have q : hd b 0 = b.2.2.1.1 := rfl
      rw [q] at hxe e hl
      rw [spec_l4Lay.l7,ct (by omega),ct (by omega),ct (by omega),bnd (by omega) (by omega),bnd (by omega) (by omega),Int.toNat_natCast,Int.toNat_natCast,hxe,w2,spec_l4Lay.l8,ct (by omega),bnd (by omega) (by omega),Int.toNat_natCast,hxe,lk]
      simp only [Ob]
      rw [spec_l4Lay.l10,w1]
    · have q : hd b 1 = b.2.2.1.2.1 := rfl
      rw [q] at hxe e hl
      rw [spec_l4Lay.l7,cf (by omega),ct (by omega),ct (by omega),cf (by omega),ct (by omega),bnd (by omega) (by omega),bnd (by omega) (by omega),Int.toNat_natCast,Int.toNat_natCast,hxe,w2,spec_l4Lay.l8,cf (by omega),ct (by omega),bnd (by omega) (by omega),Int.toNat_natCast,hxe,lk]
      simp only [Ob]
      rw [spec_l4Lay.l10,w1]
    · have q : hd b 2 = b.2.2.1.2.2.1 := rfl
      rw [q] at hxe e hl
      rw [spec_l4Lay.l7,cf (by omega),cf (by omega),ct (by omega),ct (by omega),cf (by omega),cf (by omega),ct (by omega),bnd (by omega) (by omega),bnd (by omega) (by omega),Int.toNat_natCast,Int.toNat_natCast,hxe,w2,spec_l4Lay.l8,cf (by omega),cf (by omega),ct (by omega),bnd (by omega) (by omega),Int.toNat_natCast,hxe,lk]
      simp only [Ob]
      rw [spec_l4Lay.l10,w1]
    · have q : hd b 3 = b.2.2.1.2.2.2 := rfl
      rw [q] at hxe e hl
      rw [spec_l4Lay.l7,cf (by omega),cf (by omega),cf (by omega),ct (by omega),ct (by omega),cf (by omega),cf (by omega),cf (by omega),ct (by omega),bnd (by omega) (by omega),bnd (by omega) (by omega),Int.toNat_natCast,Int.toNat_natCast,hxe,w2,spec_l4Lay.l8,cf (by omega),cf (by omega),cf (by omega),ct (by omega),bnd (by omega) (by omega),Int.toNat_natCast,hxe,lk]
      simp only [Ob]
      rw [spec_l4Lay.l10,w1]
theorem spec_lay_l6 (N : Nat) {c : Cfg} {b : Bk} (h : Fit c b) (M : List Int) (hM : M.length = dA c) (K : Nat) (hK : 2000 < K) :
    spec_l4Lay.l6 N K 0 c b M = some ((),chainP (kA c) (chainP (kA c) (chainP (kA c) (chainP (kA c) M (hA c) (hd b 0)) (hA c + 1) (hd b 1)) (hA c + 2) (hd b 2)) (hA c + 3) (hd b 3)) := by
  obtain ⟨a1,a2,a3,a4,a5,a6,a7,a8,a9⟩ := plat_at h.1
  have hnu := fit_nu h
  have hb := h.2.1
  have hdim := hb.dims
  have step : ∀ (k K : Nat) (M : List Int),k < 4 → M.length = dA c → 160 < K → ∃ K',K ≤ K' + 160 ∧ spec_l4Lay.l6 N K (k : Nat) c b M = spec_l4Lay.l6 N K' ((k + 1 : Nat) : Int) c b (chainP (kA c) M (hA c + k) (hd b k)) := by
    intro k K M hk hM hK
    have hl := hb.hd_len hk
    refine ⟨K - 1 - 3 * (hd b k).length - 2,by omega,?_⟩
    have e := spec_lay_l7 N h hk (hd b k).length 0 (K - 1 - 3 * (hd b k).length - 2) (hA c + k) M (by omega) hM (by omega)
    rw [show K - 1 - 3 * (hd b k).length - 2 + 3 * (hd b k).length + 2 = K - 1 by omega,List.drop_zero] at e
    rw [← e]
    obtain ⟨K,rfl⟩ := fuel (show 0 < K by omega)
    rw [spec_l4Lay.l6,ct (by omega),sHead N h.1 hk,show K + 1 - 1 = K by omega]
    rfl
  obtain ⟨K1,g1,e1⟩ := step 0 K M (by omega) hM (by omega)
  obtain ⟨K2,g2,e2⟩ := step 1 K1 (chainP (kA c) M (hA c + 0) (hd b 0)) (by omega) (by simp only [chainP_len]; exact hM) (by omega)
  obtain ⟨K3,g3,e3⟩ := step 2 K2 (chainP (kA c) (chainP (kA c) M (hA c + 0) (hd b 0)) (hA c + 1) (hd b 1)) (by omega) (by simp only [chainP_len]; exact hM) (by omega)
  obtain ⟨K4,g4,e4⟩ := step 3 K3 (chainP (kA c) (chainP (kA c) (chainP (kA c) M (hA c + 0) (hd b 0)) (hA c + 1) (hd b 1)) (hA c + 2) (hd b 2)) (by omega) (by simp only [chainP_len]; exact hM) (by omega)
  have e1' : spec_l4Lay.l6 N K 0 c b M = _ := e1
  rw [e1',e2,e3,e4]
  obtain ⟨K4,rfl⟩ := fuel (show 0 < K4 by omega)
  rw [spec_l4Lay.l6,cf (by omega)]; rfl
theorem spec_lay_l4 (N : Nat) {c : Cfg} {b : Bk} (h : Fit c b) : ∀ d i K (M : List Int),i + d = (8 * c.2.1).toNat → 2 * d + 2010 < K → Mat (dA c) M (owV c b i) → spec_l4Lay.l4 N K (i : Nat) c b M = some ((),layP c b)
  | 0,i,K,M,e,hK,hM => by
    have hnu := fit_nu h
    have hnub : nu b = b.2.2.2.1.length := rfl
    obtain ⟨K,rfl⟩ := fuel (show 0 < K by omega)
    obtain rfl : i = (8 * c.2.1).toNat := by omega
    rw [spec_l4Lay.l4,cf (by omega)]
    have hM2 := hM.congr (g := baseV c b) fun j _ => owV_base h.1 b j
    have := spec_lay_l6 N h M hM.1 K (by omega)
    rw [hM2.eq] at this ⊢
    exact this
  | d + 1,i,K,M,e,hK,hM => by
    obtain ⟨a1,a2,a3,a4,a5,a6,a7,a8,a9⟩ := plat_at h.1
    have hnu := fit_nu h
    have hnub : nu b = b.2.2.2.1.length := rfl
    have hlen := hM.1
    obtain ⟨K,rfl⟩ : ∃ j,K = j + 1 + 1 := ⟨K - 2,by omega⟩
    rw [spec_l4Lay.l4,ct (by omega),sTag N h.1 (by omega)]
    simp only [Ob]
    rw [bnd (by omega) (by omega),bnd (by omega) (by omega),Int.toNat_natCast,Int.toNat_natCast,fold_ow,spec_l4Lay.l5,w64 (n := (i : Int) + 1) (by omega) (by omega),show (i : Int) + 1 = ((i + 1 : Nat) : Int) by omega]
    refine spec_lay_l4 N h d (i + 1) K _ (by omega) (by omega) (hM.set (by omega) _ fun j => ?_)
    unfold owV
    by_cases g : j = tA c + i
    · subst g
      rw [if_pos (by omega),if_pos rfl,show tA c + i - tA c = i by omega]
    · rw [if_neg g]
      by_cases g2 : tA c ≤ j ∧ j < tA c + i
      · rw [if_pos (by omega),if_pos g2]
      · rw [if_neg (by omega),if_neg g2]
theorem spec_lay_l2 (N : Nat) {c : Cfg} {b : Bk} (h : Fit c b) : ∀ d i K (M : List Int),i + d = c.2.1.toNat → 2 * d + 3000 < K → Mat (dA c) M (pgV c b i) → spec_l4Lay.l2 N K (i : Nat) c b M = some ((),layP c b)
  | 0,i,K,M,e,hK,hM => by
    obtain ⟨a1,a2,a3,a4,a5,a6,a7,a8,a9⟩ := plat_at h.1
    obtain ⟨K,rfl⟩ := fuel (show 0 < K by omega)
    obtain rfl : i = c.2.1.toNat := by omega
    rw [spec_l4Lay.l2,cf (by omega)]
    exact spec_lay_l4 N h (8 * c.2.1).toNat 0 K M (by omega) (by omega) (hM.congr fun j _ => by unfold owV; rw [if_neg (by omega)])
  | d + 1,i,K,M,e,hK,hM => by
    obtain ⟨a1,a2,a3,a4,a5,a6,a7,a8,a9⟩ := plat_at h.1
    have h2 := h.2.2.2
    have hnp : np b = b.2.1.length := rfl
    have hlen := hM.1
    obtain ⟨K,rfl⟩ : ∃ j,K = j + 1 + 1 := ⟨K - 2,by omega⟩
    rw [spec_l4Lay.l2,ct (by omega),sPage N h.1 (by omega)]
    simp only [Ob]
    rw [bnd (by omega) (by omega),bnd (by omega) (by omega),Int.toNat_natCast,Int.toNat_natCast,fold_pg,spec_l4Lay.l3,w64 (n := (i : Int) + 1) (by omega) (by omega),show (i : Int) + 1 = ((i + 1 : Nat) : Int) by omega]
    refine spec_lay_l2 N h d (i + 1) K _ (by omega) (by omega) (hM.set (by omega) _ fun j => ?_)
    unfold pgV
    by_cases g : j = pA c + i
    · subst g
      rw [if_pos (by omega),if_pos rfl,show pA c + i - pA c = i by omega]
    · rw [if_neg g]
      by_cases g2 : pA c ≤ j ∧ j < pA c + i
      · rw [if_pos (by omega),if_pos g2]
      · rw [if_neg (by omega),if_neg g2]
theorem spec_lay_l0 (N : Nat) {c : Cfg} {b : Bk} (h : Fit c b) : ∀ d i K (M : List Int),i + d = c.1.toNat → 2 * d + 4000 < K → Mat (dA c) M (regV b i) → spec_l4Lay.l0 N K (i : Nat) c b M = some ((),layP c b)
  | 0,i,K,M,e,hK,hM => by
    obtain ⟨a1,a2,a3,a4,a5,a6,a7,a8,a9⟩ := plat_at h.1
    obtain ⟨K,rfl⟩ := fuel (show 0 < K by omega)
    obtain rfl : i = c.1.toNat := by omega
    rw [spec_l4Lay.l0,cf (by omega)]
    exact spec_lay_l2 N h c.2.1.toNat 0 K M (by omega) (by omega) (hM.congr fun j _ => by unfold pgV; rw [if_neg (by omega)])
  | d + 1,i,K,M,e,hK,hM => by
    obtain ⟨a1,a2,a3,a4,a5,a6,a7,a8,a9⟩ := plat_at h.1
    have hsl := h.2.1.slots
    have h1 := h.2.2.1
    have hlen := hM.1
    have hs := slotB_iff.1 (h.2.1.slot (i := i) (by omega))
    obtain ⟨K,rfl⟩ : ∃ j,K = j + 1 + 1 := ⟨K - 2,by omega⟩
    rw [spec_l4Lay.l0,ct (by omega),sReg N h.1 (by omega)]
    simp only [Ob]
    rw [bnd (by omega) (by omega),bnd (by omega) (by omega),bnd (by omega) (by omega),Int.toNat_natCast,Int.toNat_natCast,fold_in,fold_ep,w64 (n := 4 * ep b i) (by omega) (by omega),w64 (n := inn b i + 4 * ep b i) (by omega) (by omega),spec_l4Lay.l1,w64 (n := (i : Int) + 1) (by omega) (by omega),show (i : Int) + 1 = ((i + 1 : Nat) : Int) by omega]
    refine spec_lay_l0 N h d (i + 1) K _ (by omega) (by omega) (hM.set (by omega) _ fun j => ?_)
    unfold regV
    by_cases g : j = 3 + i
    · subst g
      rw [if_pos (by omega),if_pos rfl,show 3 + i - 3 = i by omega]
    · rw [if_neg g]
      by_cases g2 : 3 ≤ j ∧ j < 3 + i
      · rw [if_pos (by omega),if_pos g2]
      · rw [if_neg (by omega),if_neg g2]
theorem spec_l4Lay_eq (N : Nat) (hN : Fuel N) {c : Cfg} {b : Bk} (h : Fit c b) : spec_l4Lay N c b = some ((),layP c b) := by
  obtain ⟨a1,a2,a3,a4,a5,a6,a7,a8,a9⟩ := plat_at h.1
  have hh : house c = 7 + 2 * c.1 + 17 * c.2.1 := rfl
  unfold spec_l4Lay
  rw [spec_l2House_eq N h.1]
  simp only [Ob]
  rw [ct (by omega),ct (by omega),ct (by omega)]
  have e : (house c).toNat = dA c := rfl
  rw [e]
  exact spec_lay_l0 N h c.1.toNat 0 N _ (by omega) (by unfold Fuel at hN; omega) ((mat_zero _).congr fun j _ => by unfold regV; rw [if_neg (by omega)])
def valW (w : List Int) (j : Nat) : Int := w.getD j 0 % 4294967296
theorem valW_nn (w : List Int) (j : Nat) : 0 ≤ valW w j ∧ valW w j < 4294967296 := by unfold valW; omega
theorem sLoad (N : Nat) (w : List Int) {j : Nat} (hj : j < w.length) : spec_PlatLoad N w (j : Nat) = some (w.getD j 0,()) := by
  unfold spec_PlatLoad
  rw [cf (by omega),cf (by omega),bnd (by omega) (by omega),Int.toNat_natCast]
theorem sVal (N : Nat) {w : List Int} (hw : Words w) {j : Nat} (hj : j < w.length) : spec_l4Val N w (j : Nat) = some (valW w j,()) := by
  unfold spec_l4Val
  rw [sLoad N w hj]
  simp only [Ob]
  rw [spec_CellVal_eq N (hw.at j)]; rfl
def Laid (w : List Int) : Prop := Head w ∧ ((w.length : Int) = size (cfg (w.getD 0 0)) ∨ (w.length : Int) = house (cfg (w.getD 0 0)))
theorem spec_l4Whole_eq (N : Nat) {w : List Int} (hw : Words w) : ∃ c,spec_l4Whole N w = some ((c,tf (Laid w)),()) ∧ (Laid w → c = cfg (w.getD 0 0)) := by
  have hx := hw.at 0
  have hx' := hx
  obtain ⟨x1,x2⟩ := hx'
  unfold spec_l4Whole
  by_cases h1 : w.length = 0
  · have n0 : ((w.length : Int) == 0) = true := by rw [beq_iff_eq]; omega
    have hn : ¬ Laid w := fun h => by have := h.1.1; omega
    rw [n0,cond_true,tf_f hn]; exact ⟨_,rfl,fun h => (hn h).elim⟩
  have n0 : ((w.length : Int) == 0) = false := by rw [beq_eq_false_iff_ne]; omega
  simp (disch := omega) only [n0,cond_false,ct,spec_CellVal_eq N hx,Ob,cfg_text hx,spec_PlatOk_eq]
  by_cases h3 : Plat (cfg (w.getD 0 0))
  rotate_left
  · have hn : ¬ Laid w := fun h => h3 h.1.2.2
    rw [tf_f hn]
    simp only [df h3,Bool.not_false,cond_true]
    exact ⟨_,rfl,fun h => (hn h).elim⟩
  simp only [dt h3,Bool.not_true,cond_false,spec_l2Magic_eq N hx h3,Ob,spec_l2Size_eq N h3,spec_l2House_eq N h3]
  by_cases h2 : w.getD 0 0 / 4294967296 = 201115
  rotate_left
  · have hn : ¬ Laid w := fun h => h2 h.1.2.1
    have e : w.getD 0 0 ≠ 201115 * 4294967296 + w.getD 0 0 % 4294967296 := by omega
    rw [tf_f hn,bne_iff_ne.2 e,cond_true]
    exact ⟨_,rfl,fun h => (hn h).elim⟩
  have e : 201115 * 4294967296 + w.getD 0 0 % 4294967296 = w.getD 0 0 := by omega
  rw [e,bne_self_eq_false,cond_false,cndn,cndn]
  by_cases e4 : (w.length : Int) = size (cfg (w.getD 0 0))
  · have hy : Laid w := ⟨⟨by omega,h2,h3⟩,.inl e4⟩
    rw [if_pos e4,tf_t hy]; exact ⟨_,rfl,fun _ => rfl⟩
  rw [if_neg e4]
  by_cases e5 : (w.length : Int) = house (cfg (w.getD 0 0))
  · have hy : Laid w := ⟨⟨by omega,h2,h3⟩,.inr e5⟩
    rw [if_pos e5,tf_t hy]; exact ⟨_,rfl,fun _ => rfl⟩
  · have hn : ¬ Laid w := fun h => by rcases h.2 with g | g; exact e4 g; exact e5 g
    rw [if_neg e5,tf_f hn]; exact ⟨_,rfl,fun h => (hn h).elim⟩
theorem chainR_len (v : Nat → Int) (k0 : Nat) (U : Int) : ∀ n a,(chainR v k0 U n a).length ≤ n
  | 0,a => Nat.le_refl _
  | n + 1,a => by
    rw [chainR]
    split
    · rw [List.length_cons]; have := chainR_len v k0 U n (v (k0 + (a - 1).toNat)); omega
    · simp
theorem chainR_mem (v : Nat → Int) (k0 : Nat) (U : Int) : ∀ n a,∀ x ∈ chainR v k0 U n a,0 ≤ x ∧ x < U
  | 0,a,x,h => by cases h
  | n + 1,a,x,h => by
    rw [chainR] at h
    split at h
    · rcases List.mem_cons.1 h with e | g
      · rw [e]; omega
      · exact chainR_mem v k0 U n _ x g
    · cases h
theorem sList_loop (N : Nat) {c : Cfg} (hc : Plat c) {w : List Int} (hw : Words w) (hl : dA c ≤ w.length) : ∀ d K (a : Int) (l : List Int),l.length + d = (8 * c.2.1).toNat + 1 → d < K → 0 ≤ a →
    spec_l4List.l0 N K w a c l = some ((),l ++ chainR (valW w) (kA c) (8 * c.2.1) d a)
  | 0,K,a,l,e,hK,ha => by
    obtain ⟨a1,a2,a3,a4,a5,a6,a7,a8,a9⟩ := plat_at hc
    obtain ⟨K,rfl⟩ := fuel hK
    rw [spec_l4List.l0,w64 (n := c.2.1 * 8) (by omega) (by omega),chainR,List.append_nil]
    by_cases c1 : a > 0
    · rw [ct c1]
      by_cases c2 : a ≤ c.2.1 * 8
      · rw [ct c2,cf (by omega)]
      · rw [cf c2]
    · rw [cf c1]
  | d + 1,K,a,l,e,hK,ha => by
    obtain ⟨a1,a2,a3,a4,a5,a6,a7,a8,a9⟩ := plat_at hc
    obtain ⟨K,rfl⟩ := fuel hK
    rw [spec_l4List.l0,w64 (n := c.2.1 * 8) (by omega) (by omega),chainR]
    by_cases c1 : a > 0
    rotate_left
    · rw [cf c1,if_neg (by omega),List.append_nil]
    rw [ct c1]
    by_cases c2 : a ≤ c.2.1 * 8
    rotate_left
    · rw [cf c2,if_neg (by omega),List.append_nil]
    rw [ct c2,ct (by omega),ct (by simp; omega),if_pos (by omega),w64 (n := a - 1) (by omega) (by omega)]
    obtain ⟨u,hu⟩ : ∃ u : Nat,a - 1 = u := ⟨(a - 1).toNat,by omega⟩
    rw [hu,sLink N hc (by omega)]
    simp only [Ob]
    rw [sVal N hw (by omega)]
    simp only [Ob]
    rw [sList_loop N hc hw hl d K _ _ (by rw [List.length_append]; simp; omega) (by omega) (valW_nn w _).1,Int.toNat_natCast,List.append_assoc]; rfl
theorem sList (N : Nat) (hN : Fuel N) {c : Cfg} (hc : Plat c) {w : List Int} (hw : Words w) (hl : dA c ≤ w.length) {k : Nat} (hk : k < 4) : spec_l4List N w c (k : Nat) = some ((),chainR (valW w) (kA c) (8 * c.2.1) ((8 * c.2.1).toNat + 1) (valW w (hA c + k))) := by
  obtain ⟨a1,a2,a3,a4,a5,a6,a7,a8,a9⟩ := plat_at hc
  unfold spec_l4List
  rw [sHead N hc hk]
  simp only [Ob]
  rw [sVal N hw (by omega)]
  simp only [Ob]
  have := sList_loop N hc hw hl ((8 * c.2.1).toNat + 1) N (valW w (hA c + k)) [] (by simp) (by unfold Fuel at hN; omega) (valW_nn w _).1
  rw [List.nil_append] at this
  exact this
theorem sRead_l3 (N : Nat) (hN : Fuel N) {c : Cfg} (hc : Plat c) {w : List Int} (hw : Words w) (hl : dA c ≤ w.length) (z : BkU) (x : Int) (P O I E : List Int) (K : Nat) :
    spec_l4Read.l3 N (K + 1 + 1 + 1 + 1 + 1) w 0 c z (x,(),((),(),(),()),(),(),()) P [] [] [] [] O I E = outB (x,P,((readB c (valW w)).2.2.1),O,I,E) := by
  have r0 : spec_l4List N w c 0 = some ((),(readB c (valW w)).2.2.1.1) := sList N hN hc hw hl (k := 0) (by omega)
  have r1 : spec_l4List N w c (0 + 1) = some ((),(readB c (valW w)).2.2.1.2.1) := sList N hN hc hw hl (k := 1) (by omega)
  have r2 : spec_l4List N w c (0 + 1 + 1) = some ((),(readB c (valW w)).2.2.1.2.2.1) := sList N hN hc hw hl (k := 2) (by omega)
  have r3 : spec_l4List N w c (0 + 1 + 1 + 1) = some ((),(readB c (valW w)).2.2.1.2.2.2) := sList N hN hc hw hl (k := 3) (by omega)
  have wr : ∀ x : Int,0 ≤ x → x ≤ 4 → IntKind.i64.wrap (x + 1) = x + 1 := fun x h1 h2 => w64 (by omega) (by omega)
  rw [spec_l4Read.l3,r0]
  simp (disch := omega) only [ct,cf,wr,Ob,decide_true,cond_true]
  rw [spec_l4Read.l3,r1]
  simp (disch := omega) only [ct,cf,wr,Ob,decide_true,cond_true]
  rw [spec_l4Read.l3,r2]
  simp (disch := omega) only [ct,cf,wr,Ob,decide_true,cond_true]
  rw [spec_l4Read.l3,r3]
  simp (disch := omega) only [ct,cf,wr,Ob,decide_true,cond_true]
  rw [spec_l4Read.l3]
  simp (disch := omega) only [ct,cf,wr,Ob,decide_true,cond_true]
theorem sRead_l2 (N : Nat) (hN : Fuel N) {c : Cfg} (hc : Plat c) {w : List Int} (hw : Words w) (hl : dA c ≤ w.length) (z : BkU) (x : Int) (P I E : List Int) : ∀ d i K (O : List Int),i + d = (8 * c.2.1).toNat → d + 10 < K → O.length = (8 * c.2.1).toNat → (∀ j,j < i → O.getD j 0 = valW w (tA c + j)) →
    spec_l4Read.l2 N K w (i : Nat) c z (x,(),((),(),(),()),(),(),()) P O I E = outB (x,P,((readB c (valW w)).2.2.1),(readB c (valW w)).2.2.2.1,I,E)
  | 0,i,K,O,e,hK,hO,hv => by
    obtain ⟨K,rfl⟩ : ∃ j,K = j + 1 + 1 + 1 + 1 + 1 + 1 := ⟨K - 6,by omega⟩
    have : O = (readB c (valW w)).2.2.2.1 := (map_eq (f := fun i => valW w (tA c + i)) hO fun j hj => (hv j (by omega)).symm).symm
    rw [spec_l4Read.l2,cf (by omega),← this]
    exact sRead_l3 N hN hc hw hl z x P O I E K
  | d + 1,i,K,O,e,hK,hO,hv => by
    obtain ⟨a1,a2,a3,a4,a5,a6,a7,a8,a9⟩ := plat_at hc
    obtain ⟨K,rfl⟩ := fuel (show 0 < K by omega)
    rw [spec_l4Read.l2,ct (by omega),sTag N hc (by omega)]
    simp only [Ob]
    rw [sVal N hw (by omega)]
    simp only [Ob]
    rw [bnd (by omega) (by omega),Int.toNat_natCast,w64 (n := (i : Int) + 1) (by omega) (by omega),show (i : Int) + 1 = ((i + 1 : Nat) : Int) by omega]
    refine sRead_l2 N hN hc hw hl z x P I E d (i + 1) K _ (by omega) (by omega) (by rw [List.length_set]; exact hO) (fun j hj => ?_)
    rw [getD_set _ _ _ _ (by omega)]
    by_cases g : j = i
    · rw [if_pos g,g]
    · rw [if_neg g]; exact hv j (by omega)
theorem sRead_l1 (N : Nat) (hN : Fuel N) {c : Cfg} (hc : Plat c) {w : List Int} (hw : Words w) (hl : dA c ≤ w.length) (z : BkU) (x : Int) (O I E : List Int) (hO : O.length = (8 * c.2.1).toNat) : ∀ d i K (P : List Int),i + d = c.2.1.toNat → d + 100 < K → P.length = c.2.1.toNat → (∀ j,j < i → P.getD j 0 = valW w (pA c + j)) →
    spec_l4Read.l1 N K w (i : Nat) c z (x,(),((),(),(),()),(),(),()) P O I E = outB (x,(readB c (valW w)).2.1,((readB c (valW w)).2.2.1),(readB c (valW w)).2.2.2.1,I,E)
  | 0,i,K,P,e,hK,hP,hv => by
    obtain ⟨a1,a2,a3,a4,a5,a6,a7,a8,a9⟩ := plat_at hc
    obtain ⟨K,rfl⟩ := fuel (show 0 < K by omega)
    have : P = (readB c (valW w)).2.1 := (map_eq (f := fun i => valW w (pA c + i)) hP fun j hj => (hv j (by omega)).symm).symm
    rw [spec_l4Read.l1,cf (by omega),← this]
    exact sRead_l2 N hN hc hw hl z x P I E (8 * c.2.1).toNat 0 K O (by omega) (by omega) hO (fun j hj => by omega)
  | d + 1,i,K,P,e,hK,hP,hv => by
    obtain ⟨a1,a2,a3,a4,a5,a6,a7,a8,a9⟩ := plat_at hc
    obtain ⟨K,rfl⟩ := fuel (show 0 < K by omega)
    rw [spec_l4Read.l1,ct (by omega),sPage N hc (by omega)]
    simp only [Ob]
    rw [sVal N hw (by omega)]
    simp only [Ob]
    rw [bnd (by omega) (by omega),Int.toNat_natCast,w64 (n := (i : Int) + 1) (by omega) (by omega),show (i : Int) + 1 = ((i + 1 : Nat) : Int) by omega]
    refine sRead_l1 N hN hc hw hl z x O I E hO d (i + 1) K _ (by omega) (by omega) (by rw [List.length_set]; exact hP) (fun j hj => ?_)
    rw [getD_set _ _ _ _ (by omega)]
    by_cases g : j = i
    · rw [if_pos g,g]
    · rw [if_neg g]; exact hv j (by omega)
theorem sRead_l0 (N : Nat) (hN : Fuel N) {c : Cfg} (hc : Plat c) {w : List Int} (hw : Words w) (hl : dA c ≤ w.length) (z : BkU) (x : Int) (P O : List Int) (hP : P.length = c.2.1.toNat) (hO : O.length = (8 * c.2.1).toNat) : ∀ d i K (I E : List Int),i + d = c.1.toNat → d + 200 < K → I.length = c.1.toNat → E.length = c.1.toNat → (∀ j,j < i → I.getD j 0 = valW w (3 + j) % 4 ∧ E.getD j 0 = valW w (3 + j) / 4) →
    spec_l4Read.l0 N K w (i : Nat) c z (x,(),((),(),(),()),(),(),()) P O I E = outB (x,(readB c (valW w)).2)
  | 0,i,K,I,E,e,hK,hI,hE,hv => by
    obtain ⟨a1,a2,a3,a4,a5,a6,a7,a8,a9⟩ := plat_at hc
    obtain ⟨K,rfl⟩ := fuel (show 0 < K by omega)
    have e1 : I = (readB c (valW w)).2.2.2.2.1 := (map_eq (f := fun i => valW w (3 + i) % 4) hI fun j hj => (hv j (by omega)).1.symm).symm
    have e2 : E = (readB c (valW w)).2.2.2.2.2 := (map_eq (f := fun i => valW w (3 + i) / 4) hE fun j hj => (hv j (by omega)).2.symm).symm
    rw [spec_l4Read.l0,cf (by omega)]
    have := sRead_l1 N hN hc hw hl z x O I E hO c.2.1.toNat 0 K P (by omega) (by omega) hP (fun j hj => by omega)
    rw [e1,e2] at this ⊢
    exact this
  | d + 1,i,K,I,E,e,hK,hI,hE,hv => by
    obtain ⟨a1,a2,a3,a4,a5,a6,a7,a8,a9⟩ := plat_at hc
    obtain ⟨K,rfl⟩ := fuel (show 0 < K by omega)
    rw [spec_l4Read.l0,ct (by omega),sReg N hc (by omega)]
    simp only [Ob]
    rw [sLoad N w (by omega)]
    simp only [Ob]
    rw [spec_CellRegOf_eq N (hw.at _)]
    simp only [Ob]
    rw [bnd (by omega) (by omega),bnd (by omega) (by omega),Int.toNat_natCast,w64 (n := (i : Int) + 1) (by omega) (by omega),show (i : Int) + 1 = ((i + 1 : Nat) : Int) by omega]
    refine sRead_l0 N hN hc hw hl z x P O hP hO d (i + 1) K _ _ (by omega) (by omega) (by rw [List.length_set]; exact hI) (by rw [List.length_set]; exact hE) (fun j hj => ?_)
    rw [getD_set _ _ _ _ (by omega),getD_set _ _ _ _ (by omega)]
    by_cases g : j = i
    · rw [if_pos g,if_pos g,g]; exact ⟨rfl,rfl⟩
    · rw [if_neg g,if_neg g]; exact hv j (by omega)
theorem spec_l4Read_eq (N : Nat) (hN : Fuel N) {c : Cfg} (hc : Plat c) {w : List Int} (hw : Words w) (hl : dA c ≤ w.length) : spec_l4Read N w c = outB (readB c (valW w)) := by
  obtain ⟨a1,a2,a3,a4,a5,a6,a7,a8,a9⟩ := plat_at hc
  unfold spec_l4Read
  rw [spec_BookOpen_eq N hc]
  simp only [Ob]
  unfold openP
  exact sRead_l0 N hN hc hw hl _ c.1 _ _ (by simp) (by simp; omega) c.1.toNat 0 N _ _ (by omega) (by unfold Fuel at hN; omega) (by simp) (by simp) (fun j hj => by omega)
theorem readB_ok {c : Cfg} (hc : Plat c) (w : List Int) : Bi (readB c (valW w)) ∧ Bshort (readB c (valW w)) := by
  obtain ⟨a1,a2,a3,a4,a5,a6,a7,a8,a9⟩ := plat_at hc
  have hm : ∀ (f : Nat → Int) n,(∀ i,0 ≤ f i ∧ f i < 4294967296) → Ints ((List.range n).map f) := fun f n h x hx => by
    obtain ⟨i,_,e⟩ := List.mem_map.1 hx
    have := h i
    rw [e] at this
    exact ⟨by omega,by omega⟩
  have hs : ∀ (f : Nat → Int) n,n ≤ 100 → Short ((List.range n).map f) := fun f n h => by unfold Short; simp; omega
  have hci : ∀ a,Ints (chainR (valW w) (kA c) (8 * c.2.1) ((8 * c.2.1).toNat + 1) a) := fun a x hx => by have := chainR_mem _ _ _ _ _ x hx; exact ⟨by omega,by omega⟩
  have hcs : ∀ a,Short (chainR (valW w) (kA c) (8 * c.2.1) ((8 * c.2.1).toNat + 1) a) := fun a => by have := chainR_len (valW w) (kA c) (8 * c.2.1) ((8 * c.2.1).toNat + 1) a; unfold Short; omega
  refine ⟨⟨⟨by show -9223372036854775808 ≤ c.1; omega,by show c.1 ≤ 9223372036854775807; omega⟩,hm _ _ fun i => valW_nn w _,fun k => ?_,hm _ _ fun i => valW_nn w _,hm _ _ fun i => by have := valW_nn w (3 + i); omega,hm _ _ fun i => by have := valW_nn w (3 + i); omega⟩,⟨hs _ _ (by omega),fun k => ?_,hs _ _ (by omega),hs _ _ (by omega),hs _ _ (by omega)⟩⟩
  · match k with
    | 0 => exact hci _
    | 1 => exact hci _
    | 2 => exact hci _
    | _ + 3 => exact hci _
  · match k with
    | 0 => exact hcs _
    | 1 => exact hcs _
    | 2 => exact hcs _
    | _ + 3 => exact hcs _
def agreeB (c : Cfg) (v : Nat → Int) (b : Bk) (j : Nat) : Bool := decide (3 + c.1.toNat ≤ j ∧ j < hA c) || decide (layV c b j = v j)
theorem agree_iff {c : Cfg} (hc : Plat c) (v : Nat → Int) (b : Bk) : Agree c v b ↔ allB (agreeB c v b) (dA c - 3) 3 = true := by
  obtain ⟨a1,a2,a3,a4,a5,a6,a7,a8,a9⟩ := plat_at hc
  rw [allB_iff]
  unfold Agree agreeB
  constructor
  · intro h j h1 h2
    rw [Bool.or_eq_true,decide_eq_true_iff,decide_eq_true_iff]
    by_cases g : 3 + c.1.toNat ≤ j ∧ j < hA c
    · exact .inl g
    · exact .inr (h j (by omega) (by omega))
  · intro h j h1 h2
    have := h j (by omega) (by omega)
    rw [Bool.or_eq_true,decide_eq_true_iff,decide_eq_true_iff] at this
    rcases this with g | g
    · omega
    · exact g
theorem spec_Cens_loop (N : Nat) {c : Cfg} {w : List Int} (hw : Words w) (hl : dA c ≤ w.length) {b : Bk} (h : Fit c b) (z : BkU) : ∀ d i K,i + d = dA c → d < K →
    spec_CensBook.l0 N K w (i : Nat) z c (b.1,(),((),(),(),()),(),(),()) (layP c b) b.2.1 b.2.2.1.1 b.2.2.1.2.1 b.2.2.1.2.2.1 b.2.2.1.2.2.2 b.2.2.2.1 b.2.2.2.2.1 b.2.2.2.2.2 = cond (allB (agreeB c (valW w) b) d i) (outT (b,true)) (outT (bk0,false))
  | 0,i,K,e,hK => by
    obtain ⟨K,rfl⟩ := fuel hK
    have hlp := layP_len c b
    rw [spec_CensBook.l0,cf (by omega)]; rfl
  | d + 1,i,K,e,hK => by
    obtain ⟨K,rfl⟩ := fuel hK
    obtain ⟨a1,a2,a3,a4,a5,a6,a7,a8,a9⟩ := plat_at h.1
    have hlp := layP_len c b
    have hlv := layP_getD h i (by omega)
    have ih := spec_Cens_loop N hw hl h z d (i + 1) K (by omega) (by omega)
    have w1 : IntKind.i64.wrap ((i : Int) + 1) = ((i + 1 : Nat) : Int) := wi (by omega)
    have cmp : ∀ X : Option ((BkU × Bool) × L8),(bif (bif decide (0 ≤ ((i : Nat) : Int)) then decide (((i : Nat) : Int) < ((layP c b).length : Int)) else false) then (bif (bif decide (0 ≤ ((i : Nat) : Int)) then decide (((i : Nat) : Int) < (w.length : Int)) else false) then (spec_CellVal N (w.getD ((i : Nat) : Int).toNat 0)).bind fun u8 => (bif ((layP c b).getD ((i : Nat) : Int).toNat 0 != u8.1) then outT (bk0,false) else X) else none) else none) = if layV c b i = valW w i then X else outT (bk0,false) := fun X => by
      rw [bnd (by omega) (by omega),bnd (by omega) (by omega),Int.toNat_natCast,spec_CellVal_eq N (hw.at i),hlv]
      simp only [Ob,cndn]
      rfl
    rw [spec_CensBook.l0,ct (by omega),spec_PlatBeat_eq N h.1,if_pos (by omega)]
    simp only [Ob]
    rw [w1,w64 (n := 3 + c.1 + 0 + c.1) (by omega) (by omega),allB]
    have done : ∀ (X : Option ((BkU × Bool) × L8)),¬ (3 + c.1.toNat ≤ i ∧ i < hA c) → X = cond (allB (agreeB c (valW w) b) d (i + 1)) (outT (b,true)) (outT (bk0,false)) → (if layV c b i = valW w i then X else outT (bk0,false)) = cond (agreeB c (valW w) b i && allB (agreeB c (valW w) b) d (i + 1)) (outT (b,true)) (outT (bk0,false)) := fun X g hX => by
      unfold agreeB
      rw [df g,Bool.false_or]
      by_cases g2 : layV c b i = valW w i
      · rw [if_pos g2,dt g2,Bool.true_and]; exact hX
      · rw [if_neg g2,df g2]; rfl
    by_cases c1 : (i : Int) ≥ 3 + c.1 + 0
    · rw [ct c1]
      by_cases c2 : (i : Int) < 3 + c.1 + 0 + c.1
      · rw [dt c2,Bool.not_true,cond_false]
        unfold agreeB
        rw [dt (show 3 + c.1.toNat ≤ i ∧ i < hA c by omega),Bool.true_or,Bool.true_and]
        exact ih
      · rw [df c2,Bool.not_false,cond_true]
        exact (cmp _).trans (done _ (by omega) ih)
    · rw [cf c1]
      exact (cmp _).trans (done _ (by omega) ih)
noncomputable def censBook (w : List Int) : Bk × Bool := @ite _ (Laid w) (Classical.propDecidable _) (censP (cfg (w.getD 0 0)) (valW w)) (bk0,false)
theorem laid_len {w : List Int} (h : Laid w) : dA (cfg (w.getD 0 0)) ≤ w.length := by
  have hc := h.1.2.2
  obtain ⟨a1,a2,a3,a4,a5,a6,a7,a8,a9⟩ := plat_at hc
  rcases h.2 with g | g
  · unfold size at g; omega
  · unfold house at g; omega
theorem spec_CensBook_eq (N : Nat) (hN : Fuel N) {w : List Int} (hw : Words w) : spec_CensBook N w = outT (censBook w) := by
  unfold spec_CensBook censBook
  obtain ⟨c,e,hcfg⟩ := spec_l4Whole_eq N hw
  rw [e]
  simp only [Ob]
  by_cases h : Laid w
  rotate_left
  · rw [tf_f h,if_neg h]; rfl
  have hc := h.1.2.2
  have hl := laid_len h
  rw [tf_t h,if_pos h,hcfg h,Bool.not_true,cond_false]
  generalize cfg (w.getD 0 0) = c at hc hl
  obtain ⟨a1,a2,a3,a4,a5,a6,a7,a8,a9⟩ := plat_at hc
  obtain ⟨r1,r2⟩ := readB_ok hc w
  rw [spec_l4Read_eq N hN hc hw hl]
  simp only [Ob,spec_BookOk_eq N hN _ r1 r2]
  unfold censP
  by_cases hb : BookP (readB c (valW w))
  rotate_left
  · rw [bookOk,tf_f hb,if_neg (fun g => hb g.1)]; rfl
  have hF := readB_fit hc hb
  rw [bookOk,tf_t hb,Bool.not_true,cond_false,spec_l4Lay_eq N hN hF,show (0 : Int) = ((0 : Nat) : Int) from rfl,sReg N hc (by omega)]
  simp only [Ob]
  have := spec_Cens_loop N hw hl hF (0,(),((),(),(),()),(),(),()) (dA c - 3) 3 N (by omega) (by unfold Fuel at hN; omega)
  refine this.trans ?_
  have hag := agree_iff hc (valW w) (readB c (valW w))
  by_cases g : Agree c (valW w) (readB c (valW w))
  · rw [if_pos ⟨hb,g⟩,hag.1 g]; rfl
  · rw [if_neg (fun q => g q.2)]
    cases hq : allB (agreeB c (valW w) (readB c (valW w))) (dA c - 3) 3
    · rfl
    · exact (g (hag.2 hq)).elim
def pack (v s : Int) : Int := low s 4294967295 * 4294967296 + low v 4294967295
theorem pack_w (v s : Int) : W64 (pack v s) := by
  have h1 := low_ge v 4294967295 (by omega)
  have h2 := low_le v 4294967295 (by omega)
  have h3 := low_ge s 4294967295 (by omega)
  have h4 := low_le s 4294967295 (by omega)
  unfold pack W64; omega
theorem impl_CellPack_eq (N : Nat) (v s : Int) : impl_CellPack N v s = some (pack v s,()) := by
  have h1 := low_ge v 4294967295 (by omega)
  have h2 := low_le v 4294967295 (by omega)
  have h3 := low_ge s 4294967295 (by omega)
  have h4 := low_le s 4294967295 (by omega)
  unfold impl_CellPack pack
  rw [impl_clamp_eq N s 4294967295 (by omega),impl_clamp_eq N v 4294967295 (by omega)]
  simp only [Ob]
  obtain ⟨a,ha⟩ := Int.eq_ofNat_of_zero_le h3
  obtain ⟨b,hb⟩ := Int.eq_ofNat_of_zero_le h1
  rw [ha] at h3 h4 ⊢
  rw [hb] at h1 h2 ⊢
  have e2 : (2 : Int) ^ 32 = 4294967296 := by decide
  rw [e2,u64w (n := (a : Int)) (by omega) (by omega),u64w (n := (b : Int)) (by omega) (by omega),u64w (n := (a : Int) * 4294967296) (by omega) (by omega)]
  have e : (BitVec.ofInt 64 ((a : Int) * 4294967296) ||| BitVec.ofInt 64 (b : Int)).toNat = 2 ^ 32 * a + b := by
    rw [BitVec.toNat_or,BitVec.toNat_ofInt,BitVec.toNat_ofInt]
    have q1 : ((a : Int) * 4294967296 % ((2 ^ 64 : Nat) : Int)).toNat = 2 ^ 32 * a := by omega
    have q2 : ((b : Int) % ((2 ^ 64 : Nat) : Int)).toNat = b := by omega
    rw [q1,q2,← Nat.two_pow_add_eq_or_of_lt (by omega)]
  rw [e,u64w (by omega) (by omega)]
  congr 2
  omega
theorem spec_CellPack_eq' (N : Nat) (v s : Int) : spec_CellPack N v s = some (pack v s,()) := spec_CellPack_eq N v s
def stampOf (x : Int) : Int := x / 4294967296
def valOf (x : Int) : Int := x % 4294967296
theorem stamp_in {x : Int} (h : W64 x) : 0 ≤ stampOf x ∧ stampOf x < 4294967296 := by obtain ⟨h1,h2⟩ := h; unfold stampOf; omega
theorem val_in (x : Int) : 0 ≤ valOf x ∧ valOf x < 4294967296 := by unfold valOf; omega
theorem pack_val {v s : Int} (h1 : 0 ≤ v) (h2 : v ≤ 4294967295) : valOf (pack v s) = v := by
  unfold valOf pack; rw [low_id h1 h2]; omega
theorem spec_Door0 (N : Nat) (s : Int) : spec_CellDoor N 0 0 0 s = some (pack 0 s,()) := by
  unfold spec_CellDoor
  rw [spec_l1Low_eq,spec_l1Low_eq,spec_l1Low_eq]
  simp only [Ob]
  have e1 : low 0 2 = 0 := rfl
  have e2 : low 0 7 = 0 := rfl
  have e3 : low 0 4095 = 0 := rfl
  rw [e1,e2,e3,w64 (n := 4 * 0) (by omega) (by omega),w64 (n := 32 * 0) (by omega) (by omega),w64 (n := 0 + 4 * 0) (by omega) (by omega),w64 (n := 0 + 4 * 0 + 32 * 0) (by omega) (by omega),spec_CellPack_eq']
  rfl
def putP (e : Int) (w : List Int) : List Int :=
  let a := (valOf e / 1048576).toNat
  if a < w.length ∧ stampOf (w.getD a 0) < stampOf e then w.set a (pack (valOf e % 1048576) (stampOf e)) else w
theorem putP_len (e : Int) (w : List Int) : (putP e w).length = w.length := by
  unfold putP
  dsimp only
  split
  · exact List.length_set ..
  · rfl
theorem words_set {w : List Int} (h : Words w) (i : Nat) {x : Int} (hx : W64 x) : Words (w.set i x) := fun y hy => by
  rcases List.mem_or_eq_of_mem_set hy with g | g
  · exact h y g
  · rw [g]; exact hx
theorem putP_words (e : Int) {w : List Int} (h : Words w) : Words (putP e w) := by
  unfold putP
  dsimp only
  split
  · exact words_set h _ (pack_w _ _)
  · exact h
theorem spec_l4Put_eq (N : Nat) {e : Int} (he : W64 e) {w : List Int} (hw : Words w) : spec_l4Put N e w = some ((),putP e w) := by
  have hv := val_in e
  have hv' : e % 4294967296 = valOf e := rfl
  have hs' : e / 4294967296 = stampOf e := rfl
  unfold spec_l4Put spec_CellEntryOf putP
  rw [spec_CellVal_eq N he]
  simp only [Ob]
  rw [hv',td hv.1,tm hv.1,w64 (n := valOf e / 1048576) (by omega) (by omega)]
  obtain ⟨a,ha⟩ : ∃ a : Nat,valOf e / 1048576 = a := ⟨(valOf e / 1048576).toNat,by omega⟩
  rw [ha,Int.toNat_natCast]
  by_cases c : a < w.length
  rotate_left
  · rw [cf (by omega),if_neg (fun g => c g.1)]
  rw [ct (by omega),bnd (by omega) (by omega),spec_CellStamp_eq N (hw.at a),spec_CellStamp_eq N he]
  simp only [Ob]
  rw [hs']
  have hs2 : w.getD a 0 / 4294967296 = stampOf (w.getD a 0) := rfl
  rw [hs2]
  by_cases c2 : stampOf (w.getD a 0) < stampOf e
  · rw [ct c2,if_pos ⟨c,c2⟩,spec_CellPack_eq']
    simp only [Ob]
    rw [bnd (by omega) (by omega)]
  · rw [cf c2,if_neg (fun g => c2 g.2)]
def putAll : List Int → List Int → List Int
  | [],w => w
  | e :: r,w => putAll r (putP e w)
theorem putAll_words : ∀ (l : List Int) {w : List Int},Words w → Words (putAll l w)
  | [],w,h => h
  | e :: r,w,h => by rw [putAll]; exact putAll_words r (putP_words e h)
def deskP (c : Cfg) (s : Nat) : Nat := dA c + 21 * s
def DoneP (w : List Int) : Prop := valOf (w.getD 2 0) % 4 = 2 ∧ valOf (w.getD 2 0) / 4 % 8 < (cfg (w.getD 0 0)).1 ∧
  stampOf (w.getD (deskP (cfg (w.getD 0 0)) (valOf (w.getD 2 0) / 4 % 8).toNat) 0) = stampOf (w.getD 2 0) ∧ valOf (w.getD (deskP (cfg (w.getD 0 0)) (valOf (w.getD 2 0) / 4 % 8).toNat) 0) ≤ 20
instance (w : List Int) : Decidable (DoneP w) := inferInstanceAs (Decidable (_ ∧ _))
def comP (w : List Int) : List Int :=
  (((w.drop (deskP (cfg (w.getD 0 0)) (valOf (w.getD 2 0) / 4 % 8).toNat + 1)).take (valOf (w.getD (deskP (cfg (w.getD 0 0)) (valOf (w.getD 2 0) / 4 % 8).toNat) 0)).toNat)).filter fun x => stampOf x == stampOf (w.getD 2 0)
def doneP (w : List Int) : List Int := if Whole w ∧ DoneP w then (putAll (comP w) w).set 2 (pack 0 (stampOf (w.getD 2 0) + 1)) else w
theorem doneP_words {w : List Int} (h : Words w) : Words (doneP w) := by
  unfold doneP
  split
  · exact words_set (putAll_words _ h) _ (pack_w _ _)
  · exact h
theorem whole_len {w : List Int} (h : Whole w) : 30 ≤ w.length ∧ (w.length : Int) = dA (cfg (w.getD 0 0)) + 21 * (cfg (w.getD 0 0)).1 ∧ w.length ≤ 1000 := by
  obtain ⟨a1,a2,a3,a4,a5,a6,a7,a8,a9⟩ := plat_at h.2.2.1
  have := h.2.2.2
  unfold size at this
  omega
theorem spec_PlatDesk_eq (N : Nat) {c : Cfg} (h : Plat c) {s : Nat} (hs : (s : Int) < c.1) : spec_PlatDesk N c (s : Nat) = some (((deskP c s : Nat) : Int),()) := by
  obtain ⟨a1,a2,a3,a4,a5,a6,a7,a8,a9⟩ := plat_at h
  have hh : house c = (dA c : Int) := by unfold house; omega
  unfold spec_PlatDesk deskP
  rw [spec_l2House_eq N h]
  simp only [Ob]
  rw [hh,spec_l2At_eq N h _ s c.1 21 (by omega) (by omega) (by omega) (by omega) (by omega),if_pos (by omega)]
  simp only [Ob]
  congr 2; omega
theorem spec_done_loop (N : Nat) {w : List Int} (hw : Words w) (at0 n : Nat) (hn : at0 + n < w.length) (hl : w.length ≤ 1000) (h2 : 2 < w.length) : ∀ d i K (M : List Int),i + d = n + 1 → d < K → 1 ≤ i → M.length = w.length → Words M →
    spec_CensDone.l0 N K w (w.getD 2 0) (at0 : Nat) (n : Nat) (i : Nat) M = some ((),(putAll (((w.drop (at0 + i)).take (n + 1 - i)).filter fun x => stampOf x == stampOf (w.getD 2 0)) M).set 2 (pack 0 (stampOf (w.getD 2 0) + 1)))
  | 0,i,K,M,e,hK,hi,hM,hMw => by
    obtain ⟨K,rfl⟩ := fuel hK
    have hd := stamp_in (hw.at 2)
    have hs2 : w.getD 2 0 / 4294967296 = stampOf (w.getD 2 0) := rfl
    rw [spec_CensDone.l0,cf (by omega),spec_CellStamp_eq N (hw.at 2),show n + 1 - i = 0 by omega,List.take_zero,List.filter_nil,putAll]
    simp only [Ob]
    rw [hs2,w64 (n := stampOf (w.getD 2 0) + 1) (by omega) (by omega),spec_Door0]
    simp only [Ob]
    rw [ct (by omega)]
  | d + 1,i,K,M,e,hK,hi,hM,hMw => by
    obtain ⟨K,rfl⟩ := fuel hK
    have hx : ∀ j,w.getD j 0 / 4294967296 = stampOf (w.getD j 0) := fun j => rfl
    have ih := fun M hM hMw => spec_done_loop N hw at0 n hn hl h2 d (i + 1) K M (by omega) (by omega) (by omega) hM hMw
    have hdrop : (w.drop (at0 + i)).take (n + 1 - i) = w.getD (at0 + i) 0 :: (w.drop (at0 + (i + 1))).take (n + 1 - (i + 1)) := by
      rw [drop_at 0 (show at0 + i < w.length by omega),show n + 1 - i = (n + 1 - (i + 1)) + 1 by omega,List.take_succ_cons]
      rfl
    rw [spec_CensDone.l0,ct (by omega),w64 (n := (at0 : Int) + i) (by omega) (by omega),show (at0 : Int) + i = ((at0 + i : Nat) : Int) by omega,bnd (by omega) (by omega),Int.toNat_natCast,spec_CellStamp_eq N (hw.at _),spec_CellStamp_eq N (hw.at 2)]
    simp only [Ob]
    rw [hx,hx,bnd (by omega) (by omega),w64 (n := (i : Int) + 1) (by omega) (by omega),show (i : Int) + 1 = ((i + 1 : Nat) : Int) by omega,spec_l4Put_eq N (hw.at _) hMw,hdrop,List.filter_cons]
    simp only [Ob]
    cases hc : (stampOf (w.getD (at0 + i) 0) == stampOf (w.getD 2 0))
    · rw [cond_false,ih M hM hMw]; rfl
    · rw [cond_true,ih _ (by rw [putP_len]; exact hM) (putP_words _ hMw)]; rfl
theorem spec_CensDone_eq (N : Nat) (hN : Fuel N) {w : List Int} (hw : Words w) (hs : Short w) : spec_CensDone N w = some ((),doneP w) := by
  unfold Short at hs
  unfold spec_CensDone doneP
  rw [spec_PlatCheck_eq N hw]
  simp only [Ob]
  rw [ct (by simp; omega),List.nil_append]
  by_cases h : Whole w
  rotate_left
  · rw [if_neg h,if_neg (fun g => h g.1)]; rfl
  obtain ⟨l1,l2,l3⟩ := whole_len h
  have hc := h.2.2.1
  obtain ⟨a1,a2,a3,a4,a5,a6,a7,a8,a9⟩ := plat_at hc
  have hv := val_in (w.getD 2 0)
  have hv' : ∀ j,w.getD j 0 % 4294967296 = valOf (w.getD j 0) := fun j => rfl
  have hx : ∀ j,w.getD j 0 / 4294967296 = stampOf (w.getD j 0) := fun j => rfl
  rw [if_pos h,Bool.not_true,cond_false,ct (by omega)]
  unfold spec_CellDoorOf
  rw [spec_CellVal_eq N (hw.at 2)]
  simp only [Ob]
  rw [hv',tm hv.1,td hv.1,w64 (n := valOf (w.getD 2 0) / 4) (by omega) (by omega),tm (by omega),cndn]
  by_cases c1 : valOf (w.getD 2 0) % 4 = 2
  rotate_left
  · rw [if_neg c1,if_neg (fun g => c1 g.2.1)]
  rw [if_pos c1]
  by_cases c2 : valOf (w.getD 2 0) / 4 % 8 < (cfg (w.getD 0 0)).1
  rotate_left
  · rw [ct (by omega),if_neg (fun g => c2 g.2.2.1)]
  obtain ⟨s,hse⟩ : ∃ s : Nat,valOf (w.getD 2 0) / 4 % 8 = s := ⟨(valOf (w.getD 2 0) / 4 % 8).toNat,by omega⟩
  rw [cf (by omega),hse,spec_PlatDesk_eq N hc (by omega)]
  simp only [Ob]
  have hdl : deskP (cfg (w.getD 0 0)) s + 20 < w.length := by unfold deskP; omega
  rw [bnd (by omega) (by omega),Int.toNat_natCast,spec_CellVal_eq N (hw.at _),spec_CellStamp_eq N (hw.at _),spec_CellStamp_eq N (hw.at 2)]
  simp only [Ob]
  rw [bnd (by omega) (by omega),hv',hx,hx,cndn]
  have hD : DoneP w ↔ stampOf (w.getD (deskP (cfg (w.getD 0 0)) s) 0) = stampOf (w.getD 2 0) ∧ valOf (w.getD (deskP (cfg (w.getD 0 0)) s) 0) ≤ 20 := by
    unfold DoneP
    rw [hse,Int.toNat_natCast]
    exact ⟨fun g => g.2.2,fun g => ⟨c1,by omega,g⟩⟩
  by_cases c3 : stampOf (w.getD (deskP (cfg (w.getD 0 0)) s) 0) = stampOf (w.getD 2 0)
  rotate_left
  · rw [if_neg c3,if_neg (fun g => c3 (hD.1 g.2).1)]
  rw [if_pos c3]
  by_cases c4 : valOf (w.getD (deskP (cfg (w.getD 0 0)) s) 0) > 20
  · rw [ct c4,if_neg (fun g => by have := (hD.1 g.2).2; omega)]
  have hvn := val_in (w.getD (deskP (cfg (w.getD 0 0)) s) 0)
  obtain ⟨n,hn⟩ : ∃ n : Nat,valOf (w.getD (deskP (cfg (w.getD 0 0)) s) 0) = n := ⟨(valOf (w.getD (deskP (cfg (w.getD 0 0)) s) 0)).toNat,by omega⟩
  rw [cf c4,if_pos ⟨h,hD.2 ⟨c3,by omega⟩⟩,hn]
  have := spec_done_loop N hw (deskP (cfg (w.getD 0 0)) s) n (by omega) (by omega) (by omega) n 1 N w (by omega) (by unfold Fuel at hN; omega) (by omega) rfl hw
  refine this.trans ?_
  unfold comP
  rw [hse,Int.toNat_natCast,hn,Int.toNat_natCast,show n + 1 - 1 = n by omega]
noncomputable def censTrue (w : List Int) : Bk × Bool := if Whole w then censBook (doneP w) else (bk0,false)
theorem spec_CensTrue_eq (N : Nat) (hN : Fuel N) {w : List Int} (hw : Words w) (hs : Short w) : spec_CensTrue N w = outT (censTrue w) := by
  unfold spec_CensTrue censTrue
  rw [spec_PlatCheck_eq N hw]
  simp only [Ob]
  by_cases h : Whole w
  · rw [if_pos h,if_pos h,Bool.not_true,cond_false,spec_CensDone_eq N hN hw hs]
    simp only [Ob]
    rw [spec_CensBook_eq N hN (doneP_words hw)]; rfl
  · rw [if_neg h,if_neg h]; rfl
theorem free_np (b : Bk) (u : Nat) : (freeP b u).1 = b.1 ∧ np (freeP b u) = np b := by
  unfold freeP
  dsimp only
  split
  · cases tf (FreeP (wHd (wOw b u 0) (pg b (u / 8) - 1).toNat ((u : Int) :: hd b (pg b (u / 8) - 1).toNat)) (u / 8) 0)
    · exact ⟨rfl,rfl⟩
    · refine ⟨rfl,?_⟩
      show (b.2.1.set (u / 8) 0).length = _; rw [List.length_set]; rfl
  · refine ⟨rfl,?_⟩
    show (setRow b.2.1 0 _ _).length = _; rw [setRow_len]; rfl
theorem take_np (b : Bk) (s u : Int) : (takeP b s u).1.1 = b.1 ∧ np (takeP b s u).1 = np b := by
  unfold takeP
  split
  · exact ⟨rfl,rfl⟩
  split
  · unfold pagesP
    split
    · exact ⟨rfl,rfl⟩
    · refine ⟨rfl,?_⟩
      show (setRow (b.2.1.set _ _) 7 _ _).length = _; rw [setRow_len,List.length_set]; rfl
  dsimp only
  split
  · split
    · exact ⟨rfl,rfl⟩
    · refine ⟨rfl,?_⟩
      show (b.2.1.set _ _).length = _; rw [List.length_set]; rfl
  · exact ⟨rfl,rfl⟩
theorem do_np (b : Bk) (op : Op) : (doP b op).1.1 = b.1 ∧ np (doP b op).1 = np b := by
  unfold doP
  split
  · exact ⟨rfl,rfl⟩
  split
  · unfold enterP
    split
    · exact ⟨rfl,rfl⟩
    split <;> exact ⟨rfl,rfl⟩
  split
  · exact ⟨rfl,rfl⟩
  unfold ownP
  split
  · exact take_np b _ _
  split
  · split
    · exact ⟨rfl,rfl⟩
    · exact free_np b _
  split
  · split
    · exact ⟨rfl,rfl⟩
    split <;> exact ⟨rfl,rfl⟩
  split
  · split <;> exact ⟨rfl,rfl⟩
  split
  · unfold reapP
    split
    · exact ⟨rfl,rfl⟩
    split
    · exact ⟨rfl,rfl⟩
    split
    · exact ⟨rfl,rfl⟩
    · exact free_np b _
  · exact ⟨rfl,rfl⟩
theorem Fit.do {c : Cfg} {b : Bk} (h : Fit c b) (op : Op) : Fit c (doP b op).1 := by
  have := do_np b op
  exact ⟨h.1,do_ok h.2.1 op,by rw [this.1]; exact h.2.2.1,by rw [this.2]; exact h.2.2.2⟩
def entryP (a v s : Int) : Int := pack (low a 4095 * 1048576 + low v 1048575) s
theorem spec_CellEntry_eq (N : Nat) (a v s : Int) : spec_CellEntry N a v s = some (entryP a v s,()) := by
  have h1 := low_ge a 4095 (by omega)
  have h2 := low_le a 4095 (by omega)
  have h3 := low_ge v 1048575 (by omega)
  have h4 := low_le v 1048575 (by omega)
  unfold spec_CellEntry entryP
  rw [spec_l1Low_eq,spec_l1Low_eq]
  simp only [Ob]
  rw [w64 (n := low a 4095 * 1048576) (by omega) (by omega),w64 (n := low a 4095 * 1048576 + low v 1048575) (by omega) (by omega),spec_CellPack_eq']
  rfl
def planL (f g : List Int) (s : Int) : Nat → Nat → List Int
  | 0,_ => []
  | d + 1,i => if f.getD i 0 = g.getD i 0 then planL f g s d (i + 1) else entryP i (g.getD i 0) s :: planL f g s d (i + 1)
theorem spec_plan_loop (N : Nat) (s code n : Int) (f g : List Int) (hfg : f.length = g.length) (hl : f.length ≤ 1000) : ∀ d i K (M : List Int),i + d = f.length → d < K → M.length ≤ i →
    spec_PlanOf.l0 N K s code n (i : Nat) f g M = some (((),code,n),M ++ planL f g s d i)
  | 0,i,K,M,e,hK,hM => by
    obtain ⟨K,rfl⟩ := fuel hK
    rw [spec_PlanOf.l0,cf (by omega),planL,List.append_nil]
  | d + 1,i,K,M,e,hK,hM => by
    obtain ⟨K,rfl⟩ := fuel hK
    rw [spec_PlanOf.l0,ct (by omega),bnd (by omega) (by omega),bnd (by omega) (by omega),bnd (by omega) (by omega),Int.toNat_natCast,cndn,w64 (n := (i : Int) + 1) (by omega) (by omega),show (i : Int) + 1 = ((i + 1 : Nat) : Int) by omega,spec_CellEntry_eq,planL]
    simp only [Ob]
    by_cases c : f.getD i 0 = g.getD i 0
    · rw [if_pos c,if_pos c]
      exact spec_plan_loop N s code n f g hfg hl d (i + 1) K M (by omega) (by omega) (by omega)
    · rw [if_neg c,if_neg c,ct (by simp; omega),spec_plan_loop N s code n f g hfg hl d (i + 1) K _ (by omega) (by omega) (by rw [List.length_append]; simp; omega),List.append_assoc]; rfl
noncomputable def planP (w : List Int) (op : Op) (s : Int) : List Int × Int × Int :=
  if (censBook w).2 = true ∧ 1 ≤ s ∧ s ≤ 1000000000 then
    (planL (layP (cfg (w.getD 0 0)) (censBook w).1) (layP (cfg (w.getD 0 0)) (doP (censBook w).1 op).1) s (dA (cfg (w.getD 0 0))) 0,(doP (censBook w).1 op).2)
  else ([],13,0)
theorem cens_fit {w : List Int} (h : (censBook w).2 = true) : Laid w ∧ Fit (cfg (w.getD 0 0)) (censBook w).1 ∧ Agree (cfg (w.getD 0 0)) (valW w) (censBook w).1 := by
  unfold censBook at h ⊢
  by_cases c : Laid w
  rotate_left
  · rw [if_neg c] at h; cases h
  rw [if_pos c] at h ⊢
  unfold censP at h ⊢
  by_cases g : BookP (readB (cfg (w.getD 0 0)) (valW w)) ∧ Agree (cfg (w.getD 0 0)) (valW w) (readB (cfg (w.getD 0 0)) (valW w))
  · rw [if_pos g]; exact ⟨c,readB_fit c.1.2.2 g.1,g.2⟩
  · rw [if_neg g] at h; cases h
theorem dA_le {c : Cfg} (h : Plat c) : dA c ≤ 200 := by
  obtain ⟨a1,a2,a3,a4,a5,a6,a7,a8,a9⟩ := plat_at h
  omega
theorem spec_PlanOf_eq (N : Nat) (hN : Fuel N) {w : List Int} (hw : Words w) (op : Op) (s : Int) : spec_PlanOf N w op s = some (((),(planP w op s).2),(planP w op s).1) := by
  unfold spec_PlanOf planP
  obtain ⟨c,e,hcfg⟩ := spec_l4Whole_eq N hw
  rw [spec_CensBook_eq N hN hw,e]
  simp only [Ob]
  cases hok : (censBook w).2
  · rw [Bool.not_false,cond_true,if_neg (fun g => by cases g.1)]
  rw [Bool.not_true,cond_false]
  by_cases c1 : s < 1
  · rw [ct c1,if_neg (by omega)]
  rw [cf c1]
  by_cases c2 : s > 1000000000
  · rw [ct c2,if_neg (by omega)]
  rw [cf c2,if_pos ⟨rfl,by omega,by omega⟩]
  obtain ⟨hL,hF,_⟩ := cens_fit hok
  have hb := hF.2.1
  have hd := dA_le hF.1
  have r1 : spec_BookDo N ((censBook w).1.1,(censBook w).1.2.1,((censBook w).1.2.2.1.1,(censBook w).1.2.2.1.2.1,(censBook w).1.2.2.1.2.2.1,(censBook w).1.2.2.1.2.2.2),(censBook w).1.2.2.2.1,(censBook w).1.2.2.2.2.1,(censBook w).1.2.2.2.2.2) op = out (bookDo (censBook w).1 op) := spec_BookDo_eq N hN _ hb.ints hb.short op
  have r2 : spec_l4Lay N c ((censBook w).1.1,(censBook w).1.2.1,((censBook w).1.2.2.1.1,(censBook w).1.2.2.1.2.1,(censBook w).1.2.2.1.2.2.1,(censBook w).1.2.2.1.2.2.2),(censBook w).1.2.2.2.1,(censBook w).1.2.2.2.2.1,(censBook w).1.2.2.2.2.2) = some ((),layP c (censBook w).1) := by rw [hcfg hL]; exact spec_l4Lay_eq N hN hF
  have r3 : spec_l4Lay N c ((doP (censBook w).1 op).1.1,(doP (censBook w).1 op).1.2.1,((doP (censBook w).1 op).1.2.2.1.1,(doP (censBook w).1 op).1.2.2.1.2.1,(doP (censBook w).1 op).1.2.2.1.2.2.1,(doP (censBook w).1 op).1.2.2.1.2.2.2),(doP (censBook w).1 op).1.2.2.2.1,(doP (censBook w).1 op).1.2.2.2.2.1,(doP (censBook w).1 op).1.2.2.2.2.2) = some ((),layP c (doP (censBook w).1 op).1) := by rw [hcfg hL]; exact spec_l4Lay_eq N hN (hF.do op)
  rw [r1,bookDo_ok hb]
  simp only [Ob]
  rw [r2]
  simp only [Ob]
  rw [r3]
  simp only [Ob]
  rw [hcfg hL]
  have := spec_plan_loop N s (doP (censBook w).1 op).2.1 (doP (censBook w).1 op).2.2 (layP (cfg (w.getD 0 0)) (censBook w).1) (layP (cfg (w.getD 0 0)) (doP (censBook w).1 op).1) (by rw [layP_len,layP_len]) (by rw [layP_len]; omega) (dA (cfg (w.getD 0 0))) 0 N [] (by rw [layP_len]; omega) (by unfold Fuel at hN; omega) (by simp)
  rw [List.nil_append] at this
  exact this
noncomputable def worldBook (w : Wld) : Bk × Bool := cond (worldOk w) (censTrue w.1) (bk0,false)
theorem spec_WorldBook_eq (N : Nat) (hN : Fuel N) (w : Wld) (hw : Words w.1) (hs : Short w.1) : spec_WorldBook N w = outT (worldBook w) := by
  unfold spec_WorldBook worldBook
  rw [spec_WorldOk_eq N hN w hw]
  simp only [Ob]
  cases worldOk w
  · rfl
  · rw [Bool.not_true,cond_false,cond_true,spec_CensTrue_eq N hN hw hs]; rfl
theorem worldBook_ok {w : Wld} (h : (worldBook w).2 = true) : BookP (worldBook w).1 := by
  unfold worldBook censTrue at h ⊢
  cases hk : worldOk w
  · rw [hk] at h; cases h
  rw [hk,cond_true] at h
  rw [cond_true]
  by_cases c : Whole w.1
  · rw [if_pos c] at h ⊢
    exact (cens_fit h).2.1.2.1
  · rw [if_neg c] at h; cases h
theorem worldBook_world {w : Wld} (h : (worldBook w).2 = true) : WorldP w := by
  unfold worldBook at h
  cases hk : worldOk w
  · rw [hk] at h; cases h
  · exact worldOk_len hk
def headW (c : Cfg) : Int := pack (c.1 + 8 * c.2.1 + 64 * c.2.2) 201115
theorem headW_val {c : Cfg} (h : Plat c) : valOf (headW c) = c.1 + 8 * c.2.1 + 64 * c.2.2 := by
  unfold Plat at h
  exact pack_val (by omega) (by omega)
theorem headW_cfg {c : Cfg} (h : Plat c) : cfg (headW c) = c := by
  have e := headW_val h
  have h' := h
  unfold valOf at e
  unfold Plat at h'
  unfold cfg
  rw [e]
  exact Prod.ext (show _ = _ by dsimp only; omega) (Prod.ext (show _ = _ by dsimp only; omega) (show _ = _ by dsimp only; omega))
def HW (c : Cfg) (w : List Int) : Prop := Words w ∧ (w.length : Int) = size c ∧ w.getD 0 0 = headW c
theorem HW.len {c : Cfg} {w : List Int} (hc : Plat c) (h : HW c w) : (w.length : Int) = 7 + 23 * c.1 + 17 * c.2.1 ∧ 40 ≤ w.length ∧ w.length ≤ 1000 ∧ dA c + 21 ≤ w.length ∧ (dA c : Int) = 7 + 2 * c.1 + 17 * c.2.1 := by
  have h1 := h.2.1
  obtain ⟨a1,a2,a3,a4,a5,a6,a7,a8,a9⟩ := plat_at hc
  unfold size at h1
  omega
theorem HW.set {c : Cfg} {w : List Int} (h : HW c w) {i : Nat} (hi : i ≠ 0) {x : Int} (hx : W64 x) : HW c (w.set i x) := by
  refine ⟨words_set h.1 _ hx,by rw [List.length_set]; exact h.2.1,?_⟩
  rw [← h.2.2]
  rw [List.getD_eq_getElem?_getD,List.getD_eq_getElem?_getD,List.getElem?_set_ne hi]
def formP (c : Cfg) : List Int := ((List.replicate (size c).toNat 0).set 0 (headW c)).set 2 (pack 0 1)
theorem formP_hw {c : Cfg} (hc : Plat c) : HW c (formP c) := by
  have hs : (0 : Int) < size c := by unfold Plat at hc; unfold size; omega
  refine HW.set ⟨words_set (fun x hx => ?_) _ (pack_w _ _),by rw [List.length_set,List.length_replicate]; omega,?_⟩ (by omega) (pack_w _ _)
  · rw [List.eq_of_mem_replicate hx]; exact ⟨by decide,by decide⟩
  · rw [getD_set _ _ _ _ (by rw [List.length_replicate]; omega),if_pos rfl]; rfl
theorem spec_PlatFormat_eq (N : Nat) {c : Cfg} (hc : Plat c) : spec_PlatFormat N c = some ((),formP c) := by
  have h' := hc
  unfold Plat at h'
  have hs : size c = 7 + 23 * c.1 + 17 * c.2.1 := rfl
  unfold spec_PlatFormat spec_l2Magic
  rw [spec_PlatOk_eq,dt hc,spec_l2Size_eq N hc]
  simp only [Ob,Bool.not_true,cond_false]
  rw [ct (by omega),ct (by omega),ct (by omega),w64 (n := 8 * c.2.1) (by omega) (by omega),w64 (n := 64 * c.2.2) (by omega) (by omega),w64 (n := c.1 + 8 * c.2.1) (by omega) (by omega),w64 (n := c.1 + 8 * c.2.1 + 64 * c.2.2) (by omega) (by omega),spec_CellPack_eq',spec_CellPack_eq']
  simp only [Ob]
  rw [ct (by rw [List.length_replicate]; omega),ct (by rw [List.length_set,List.length_replicate]; omega)]
  rfl
theorem set_at (l : List Int) (i : Nat) (x : Int) (h : i < l.length) : (l.set i x).getD i 0 = x := by rw [getD_set _ _ _ _ h,if_pos rfl]
theorem set_ne (l : List Int) (i j : Nat) (x : Int) (h : j ≠ i) : (l.set i x).getD j 0 = l.getD j 0 := by
  rw [List.getD_eq_getElem?_getD,List.getD_eq_getElem?_getD,List.getElem?_set_ne (fun e => h e.symm)]
theorem getD_ge {l : List Int} {j : Nat} (h : l.length ≤ j) : l.getD j 0 = 0 := by
  rw [List.getD_eq_getElem?_getD,List.getElem?_eq_none h]; rfl
theorem spec_Door_eq (N : Nat) (k s n st : Int) : spec_CellDoor N k s n st = some (pack (low k 2 + 4 * low s 7 + 32 * low n 4095) st,()) := by
  have h1 := low_ge k 2 (by omega)
  have h2 := low_le k 2 (by omega)
  have h3 := low_ge s 7 (by omega)
  have h4 := low_le s 7 (by omega)
  have h5 := low_ge n 4095 (by omega)
  have h6 := low_le n 4095 (by omega)
  unfold spec_CellDoor
  rw [spec_l1Low_eq,spec_l1Low_eq,spec_l1Low_eq]
  simp only [Ob]
  rw [w64 (n := 4 * low s 7) (by omega) (by omega),w64 (n := 32 * low n 4095) (by omega) (by omega),w64 (n := low k 2 + 4 * low s 7) (by omega) (by omega),w64 (n := low k 2 + 4 * low s 7 + 32 * low n 4095) (by omega) (by omega),spec_CellPack_eq']
  rfl
def goodX (c : Cfg) (x : Int) : Prop := stampOf x = 9 → 3 ≤ (valOf x / 1048576).toNat ∧ ((valOf x / 1048576).toNat < dA c ∨ 1000 < (valOf x / 1048576).toNat)
def HE (c : Cfg) (at0 : Nat) (w : List Int) : Prop := HW c w ∧ ∀ j,at0 < j → goodX c (w.getD j 0)
theorem HE.set {c : Cfg} {at0 : Nat} {w : List Int} (h : HE c at0 w) {i : Nat} (hi : i ≠ 0) {x : Int} (hx : W64 x) (hg : at0 < i → goodX c x) : HE c at0 (w.set i x) := by
  refine ⟨h.1.set hi hx,fun j hj => ?_⟩
  by_cases q : j = i
  · subst q
    by_cases g : j < w.length
    · rw [set_at _ _ _ g]; exact hg hj
    · rw [getD_ge (by rw [List.length_set]; omega)]
      intro g2
      exact absurd g2 (by decide)
  · rw [set_ne _ _ _ _ q]; exact h.2 j hj
theorem planL_words (f g : List Int) (s : Int) : ∀ d i,Words (planL f g s d i)
  | 0,i => fun x hx => by cases hx
  | d + 1,i => by
    rw [planL]
    split
    · exact planL_words f g s d (i + 1)
    · intro x hx
      rcases List.mem_cons.1 hx with e | e
      · rw [e]; exact pack_w _ _
      · exact planL_words f g s d (i + 1) x e
theorem planP_words (w : List Int) (op : Op) (s : Int) : Words (planP w op s).1 := by
  unfold planP
  split
  · exact planL_words _ _ _ _ _
  · exact fun x hx => by cases hx
theorem hd_at (b : Bk) (l : List Int) {k j : Nat} (hk : k < 4) (hj : j < 4) : hd (wHd b k l) j = if j = k then l else hd b j := by
  have h1 : k = 0 ∨ k = 1 ∨ k = 2 ∨ k = 3 := by omega
  have h2 : j = 0 ∨ j = 1 ∨ j = 2 ∨ j = 3 := by omega
  rcases h1 with rfl | rfl | rfl | rfl <;> rcases h2 with rfl | rfl | rfl | rfl <;> rfl
theorem setRow_out (x : Int) : ∀ (n p : Nat) (l : List Int) (v : Nat),(v < p ∨ p + n ≤ v) → (setRow l x n p).getD v 0 = l.getD v 0
  | 0,p,l,v,h => rfl
  | n + 1,p,l,v,h => by rw [setRow,setRow_out x n (p + 1) _ v (by omega),set_ne _ _ _ _ (by omega)]
def nx (l : List Int) (u : Nat) : Int := nextOr l (u : Int) 0
theorem nextV_not {b : Bk} {u : Int} (h : ∀ k,k < 4 → u ∉ hd b k) : nextV b u = 0 := by
  unfold nextV
  rw [nextOr_not _ _ _ (h 3 (by omega)),nextOr_not _ _ _ (h 2 (by omega)),nextOr_not _ _ _ (h 1 (by omega)),nextOr_not _ _ _ (h 0 (by omega))]
theorem nextV_one {b : Bk} (h : BookP b) {k : Nat} (hk : k < 4) {u : Nat} (hn : ∀ j,j < 4 → j ≠ k → (u : Int) ∉ hd b j) : nextV b u = nx (hd b k) u := by
  by_cases c : (u : Int) ∈ hd b k
  · exact nextV_mem h hk c
  · unfold nx
    rw [nextOr_not _ _ _ c]
    exact nextV_not fun j hj => by
      by_cases e : j = k
      · subst e; exact c
      · exact hn j hj e
theorem nextV_change {b b' : Bk} (h : BookP b) (h' : BookP b') {kk : Nat} (hkk : kk < 4) (hsame : ∀ k,k < 4 → k ≠ kk → hd b' k = hd b k) {u : Nat} (hne : nextV b u ≠ nextV b' u) : nx (hd b kk) u ≠ nx (hd b' kk) u := by
  intro e
  refine hne ?_
  by_cases c : ∃ k,k < 4 ∧ k ≠ kk ∧ (u : Int) ∈ hd b k
  · obtain ⟨k,h1,h2,h3⟩ := c
    rw [nextV_mem h h1 h3,nextV_mem h' h1 (by rw [hsame k h1 h2]; exact h3),hsame k h1 h2]
  · have hn : ∀ j,j < 4 → j ≠ kk → (u : Int) ∉ hd b j := fun j h1 h2 h3 => c ⟨j,h1,h2,h3⟩
    rw [nextV_one h hkk hn,nextV_one h' hkk (fun j h1 h2 => by rw [hsame j h1 h2]; exact hn j h1 h2),e]
def Cov (c : Cfg) (b b' : Bk) : Prop := ∃ S : List Nat,S.length ≤ 20 ∧ ∀ j,j < dA c → layV c b j ≠ layV c b' j → j ∈ S
theorem Cov.same (c : Cfg) (b : Bk) : Cov c b b := ⟨[],by simp,fun j _ h => (h rfl).elim⟩
theorem Cov.mk' {c : Cfg} {b b' : Bk} (hF : Fit c b) (hF' : Fit c b') {kk : Nat} (hkk : kk < 4) (Li Lp Lu Ll : List Nat) (hlen : Li.length + Lp.length + Lu.length + Ll.length ≤ 19)
    (hsame : ∀ k,k < 4 → k ≠ kk → hd b' k = hd b k) (hi : ∀ i,i ∉ Li → inn b' i = inn b i ∧ ep b' i = ep b i) (hp : ∀ p,p ∉ Lp → pg b' p = pg b p) (hu : ∀ u,u ∉ Lu → ow b' u = ow b u)
    (hl : ∀ u : Nat,nx (hd b kk) u ≠ nx (hd b' kk) u → u ∈ Ll) : Cov c b b' := by
  obtain ⟨a1,a2,a3,a4,a5,a6,a7,a8,a9⟩ := plat_at hF.1
  refine ⟨(hA c + kk) :: (Li.map (3 + ·) ++ (Lp.map (pA c + ·) ++ (Lu.map (tA c + ·) ++ Ll.map (kA c + ·)))),?_,fun j hj hne => ?_⟩
  · rw [List.length_cons,List.length_append,List.length_append,List.length_append,List.length_map,List.length_map,List.length_map,List.length_map]; omega
  have m1 : ∀ i,i ∈ Li → 3 + i ∈ (hA c + kk) :: (Li.map (3 + ·) ++ (Lp.map (pA c + ·) ++ (Lu.map (tA c + ·) ++ Ll.map (kA c + ·)))) := fun i h => List.mem_cons_of_mem _ (List.mem_append.2 (.inl (List.mem_map.2 ⟨i,h,rfl⟩)))
  have m2 : ∀ i,i ∈ Lp → pA c + i ∈ (hA c + kk) :: (Li.map (3 + ·) ++ (Lp.map (pA c + ·) ++ (Lu.map (tA c + ·) ++ Ll.map (kA c + ·)))) := fun i h => List.mem_cons_of_mem _ (List.mem_append.2 (.inr (List.mem_append.2 (.inl (List.mem_map.2 ⟨i,h,rfl⟩)))))
  have m3 : ∀ i,i ∈ Lu → tA c + i ∈ (hA c + kk) :: (Li.map (3 + ·) ++ (Lp.map (pA c + ·) ++ (Lu.map (tA c + ·) ++ Ll.map (kA c + ·)))) := fun i h => List.mem_cons_of_mem _ (List.mem_append.2 (.inr (List.mem_append.2 (.inr (List.mem_append.2 (.inl (List.mem_map.2 ⟨i,h,rfl⟩)))))))
  have m4 : ∀ i,i ∈ Ll → kA c + i ∈ (hA c + kk) :: (Li.map (3 + ·) ++ (Lp.map (pA c + ·) ++ (Lu.map (tA c + ·) ++ Ll.map (kA c + ·)))) := fun i h => List.mem_cons_of_mem _ (List.mem_append.2 (.inr (List.mem_append.2 (.inr (List.mem_append.2 (.inr (List.mem_map.2 ⟨i,h,rfl⟩)))))))
  unfold layV at hne
  by_cases c1 : hA c ≤ j ∧ j < pA c
  · rw [if_pos c1,if_pos c1] at hne
    by_cases e : j - hA c = kk
    · rw [show j = hA c + kk by omega]; exact List.mem_cons_self
    · rw [hsame _ (by omega) e] at hne
      exact (hne rfl).elim
  rw [if_neg c1,if_neg c1] at hne
  by_cases c2 : kA c ≤ j
  · rw [if_pos c2,if_pos c2] at hne
    have := m4 _ (hl (j - kA c) (nextV_change hF.2.1 hF'.2.1 hkk hsame hne))
    rwa [show kA c + (j - kA c) = j by omega] at this
  rw [if_neg c2,if_neg c2] at hne
  unfold baseV at hne
  by_cases c3 : 3 ≤ j ∧ j < 3 + c.1.toNat
  · rw [if_pos c3,if_pos c3] at hne
    by_cases g : j - 3 ∈ Li
    · have := m1 _ g
      rwa [show 3 + (j - 3) = j by omega] at this
    · obtain ⟨g1,g2⟩ := hi _ g
      rw [g1,g2] at hne
      exact (hne rfl).elim
  rw [if_neg c3,if_neg c3] at hne
  by_cases c4 : pA c ≤ j ∧ j < tA c
  · rw [if_pos c4,if_pos c4] at hne
    by_cases g : j - pA c ∈ Lp
    · have := m2 _ g
      rwa [show pA c + (j - pA c) = j by omega] at this
    · rw [hp _ g] at hne
      exact (hne rfl).elim
  rw [if_neg c4,if_neg c4] at hne
  by_cases c5 : tA c ≤ j ∧ j < kA c
  · rw [if_pos c5,if_pos c5] at hne
    by_cases g : j - tA c ∈ Lu
    · have := m3 _ g
      rwa [show tA c + (j - tA c) = j by omega] at this
    · rw [hu _ g] at hne
      exact (hne rfl).elim
  rw [if_neg c5,if_neg c5] at hne
  exact (hne rfl).elim
theorem nx_push (x : Int) (l : List Int) {u : Nat} (h : nx l u ≠ nx (x :: l) u) : (u : Int) = x := by
  by_cases e : x = (u : Int)
  · exact e.symm
  · unfold nx at h
    rw [nextOr,if_neg e] at h
    exact (h rfl).elim
theorem nx_nil (u : Nat) : nx [] u = 0 := rfl
theorem nx_out {l : List Int} {u : Nat} (h : (u : Int) ∉ l) : nx l u = 0 := nextOr_not _ _ _ h
def predOf : List Int → Int → Int
  | [],_ => 0
  | x :: r,v => if headOr r 0 = v + 1 then x else predOf r v
theorem predOf_eq : ∀ (l : List Int) (u v : Int),l.Nodup → 0 ≤ v → nextOr l u 0 = v + 1 → predOf l v = u
  | [],u,v,h,hv,e => by have e' : (0 : Int) = v + 1 := e; omega
  | x :: r,u,v,h,hv,e => by
    rw [nextOr] at e
    rw [predOf]
    have hn := List.nodup_cons.1 h
    by_cases c : x = u
    · rw [if_pos c] at e
      rw [if_pos e]; exact c
    · rw [if_neg c] at e
      have ih := predOf_eq r u v hn.2 hv e
      by_cases c2 : headOr r 0 = v + 1
      · -- then v is the head of r,and a unit's follower too: not twice
        exfalso
        cases r with
        | nil => have c2' : (0 : Int) = v + 1 := c2; omega
        | cons y r2 =>
          have hy : y = v := by have : y + 1 = v + 1 := c2; omega
          have : v ∈ r2 := by
            have hm : ∀ (m : List Int) (w : Int),nextOr (w :: m) u 0 = v + 1 → v ∈ m := by
              intro m
              induction m with
              | nil => intro w hw
                       rw [nextOr] at hw
                       split at hw
                       · have : (0 : Int) = v + 1 := hw; omega
                       · have : (0 : Int) = v + 1 := hw; omega
              | cons z m ih2 => intro w hw
                                rw [nextOr] at hw
                                split at hw
                                · have : z + 1 = v + 1 := hw
                                  rw [show v = z by omega]; exact List.mem_cons_self
                                · exact List.mem_cons_of_mem _ (ih2 z hw)
            exact hm r2 y e
          rw [← hy] at this
          exact (List.nodup_cons.1 hn.2).1 this
      · rw [if_neg c2]; exact ih
theorem nx_filter (q : Int → Bool) : ∀ (l : List Int) (u : Int),q u = true → nextOr l u 0 ≠ nextOr (l.filter q) u 0 → ∃ v ∈ l,q v = false ∧ nextOr l u 0 = v + 1
  | [],u,hq,h => (h rfl).elim
  | x :: r,u,hq,h => by
    rw [nextOr] at h ⊢
    by_cases c : x = u
    · subst c
      rw [if_pos rfl] at h ⊢
      rw [List.filter_cons_of_pos hq,nextOr,if_pos rfl] at h
      cases r with
      | nil => exact (h rfl).elim
      | cons y r2 =>
        cases hy : q y
        · exact ⟨y,List.mem_cons_of_mem _ List.mem_cons_self,hy,rfl⟩
        · rw [List.filter_cons_of_pos hy] at h
          exact (h rfl).elim
    · rw [if_neg c] at h ⊢
      have h' : nextOr r u 0 ≠ nextOr (r.filter q) u 0 := by
        cases hx : q x
        · rw [List.filter_cons_of_neg (by rw [hx]; decide)] at h; exact h
        · rw [List.filter_cons_of_pos hx,nextOr,if_neg c] at h; exact h
      obtain ⟨v,h1,h2,h3⟩ := nx_filter q r u hq h'
      exact ⟨v,List.mem_cons_of_mem _ h1,h2,h3⟩
theorem hd_ow (b : Bk) (u : Nat) (x : Int) (j : Nat) : hd (wOw b u x) j = hd b j := hd_heads _ _ rfl j
theorem hd_pg (b : Bk) (l : List Int) (j : Nat) : hd (wPg b l) j = hd b j := hd_heads _ _ rfl j
theorem mem_page {p v : Nat} (h : v / 8 = p) : v ∈ (List.range 8).map (8 * p + ·) := List.mem_map.2 ⟨v % 8,List.mem_range.2 (by omega),by show 8 * p + v % 8 = v; omega⟩
theorem cov_free {c : Cfg} {b : Bk} {u : Nat} (hF : Fit c b) (hF' : Fit c (freeP b u)) : Cov c b (freeP b u) := by
  have hb := hF.2.1
  have hdim := hb.dims
  have e1 : np b = b.2.1.length := rfl
  revert hF'
  unfold freeP
  dsimp only
  by_cases c1 : 1 ≤ pg b (u / 8) ∧ pg b (u / 8) ≤ 4
  · rw [if_pos c1]
    have hk : (pg b (u / 8) - 1).toNat < 4 := by omega
    cases tf (FreeP (wHd (wOw b u 0) (pg b (u / 8) - 1).toNat ((u : Int) :: hd b (pg b (u / 8) - 1).toNat)) (u / 8) 0)
    · intro hF'
      refine Cov.mk' hF hF' hk [] [] [u] [u] (by simp) (fun j h1 h2 => ?_) (fun i _ => ⟨rfl,rfl⟩) (fun p _ => rfl) (fun v hv => ?_) (fun v hv => ?_)
      · rw [cond_false,hd_at _ _ hk h1,if_neg h2]; exact hd_heads _ _ rfl j
      · exact set_ne _ _ _ _ (fun e => hv (by rw [e]; exact List.mem_singleton.2 rfl))
      · rw [cond_false,hd_at _ _ hk hk,if_pos rfl] at hv
        have := nx_push _ _ hv
        exact List.mem_singleton.2 (by omega)
    · intro hF'
      have hq : ∀ x : Int,0 ≤ x → (x / 8 != ((u / 8 : Nat) : Int)) = false → x.toNat / 8 = u / 8 := fun x h0 h => by
        have := bne_eq_false_iff_eq.1 h
        omega
      refine Cov.mk' hF hF' hk [] [u / 8] [u] ((List.range 8).map (8 * (u / 8) + ·) ++ (List.range 8).map (fun t => (predOf (hd b (pg b (u / 8) - 1).toNat) ((8 * (u / 8) + t : Nat) : Int)).toNat)) (by simp) (fun j h1 h2 => ?_) (fun i _ => ⟨rfl,rfl⟩) (fun p hp => ?_) (fun v hv => ?_) (fun v hv => ?_)
      · rw [cond_true,hd_at _ _ hk h1,if_neg h2]
        rw [hd_pg,hd_at _ _ hk h1,if_neg h2,hd_ow]
      · exact set_ne _ _ _ _ (fun e => hp (by rw [e]; exact List.mem_singleton.2 rfl))
      · exact set_ne _ _ _ _ (fun e => hv (by rw [e]; exact List.mem_singleton.2 rfl))
      · rw [cond_true,hd_at _ _ hk hk,if_pos rfl,List.filter_cons_of_neg (by
          have : ((u : Int) / 8 != ((u / 8 : Nat) : Int)) = false := bne_eq_false_iff_eq.2 (by omega)
          rw [this]; decide)] at hv
        cases hqv : ((v : Int) / 8 != ((u / 8 : Nat) : Int))
        · exact List.mem_append.2 (.inl (mem_page (by have := hq v (by omega) hqv; omega)))
        · obtain ⟨x,g1,g2,g3⟩ := nx_filter (fun x => x / 8 != ((u / 8 : Nat) : Int)) _ (v : Int) hqv hv
          have hx := hb.mem hk g1
          have hp := hq x hx.1 g2
          have := predOf_eq _ (v : Int) x (hb.nodup hk) hx.1 g3
          refine List.mem_append.2 (.inr (List.mem_map.2 ⟨x.toNat % 8,List.mem_range.2 (by omega),?_⟩))
          show (predOf _ ((8 * (u / 8) + x.toNat % 8 : Nat) : Int)).toNat = v
          rw [show ((8 * (u / 8) + x.toNat % 8 : Nat) : Int) = x by omega,this]; rfl
  · rw [if_neg c1]
    intro hF'
    have hn : (pg b (u / 8) - 8).toNat ≤ 4 := by
      by_cases g : u / 8 < np b
      · have := hb.cases g
        omega
      · have : pg b (u / 8) = 0 := getD_ge (by omega)
        omega
    refine Cov.mk' hF hF' (kk := 0) (by omega) [] ((List.range (pg b (u / 8) - 8).toNat).map (u / 8 + ·)) [u] [] (by simp; omega) (fun j h1 h2 => hd_heads _ _ rfl j) (fun i _ => ⟨rfl,rfl⟩) (fun p hp => ?_) (fun v hv => ?_) (fun v hv => (hv rfl).elim)
    · refine setRow_out _ _ _ _ _ ?_
      by_cases g : u / 8 ≤ p ∧ p < u / 8 + (pg b (u / 8) - 8).toNat
      · exact (hp (List.mem_map.2 ⟨p - u / 8,List.mem_range.2 (by omega),by show u / 8 + (p - u / 8) = p; omega⟩)).elim
      · omega
    · exact set_ne _ _ _ _ (fun e => hv (by rw [e]; exact List.mem_singleton.2 rfl))
theorem cov_in {c : Cfg} {b : Bk} {i : Nat} {x : Int} (hF : Fit c b) (hF' : Fit c (wIn b i x)) : Cov c b (wIn b i x) :=
  Cov.mk' hF hF' (kk := 0) (by omega) [i] [] [] [] (by simp) (fun j _ _ => hd_heads _ _ rfl j) (fun j hj => ⟨set_ne _ _ _ _ (fun e => hj (by rw [e]; exact List.mem_singleton.2 rfl)),rfl⟩) (fun _ _ => rfl) (fun _ _ => rfl) (fun v hv => (hv rfl).elim)
theorem cov_ow {c : Cfg} {b : Bk} {u : Nat} {x : Int} (hF : Fit c b) (hF' : Fit c (wOw b u x)) : Cov c b (wOw b u x) :=
  Cov.mk' hF hF' (kk := 0) (by omega) [] [] [u] [] (by simp) (fun j _ _ => hd_heads _ _ rfl j) (fun j _ => ⟨rfl,rfl⟩) (fun _ _ => rfl) (fun v hv => set_ne _ _ _ _ (fun e => hv (by rw [e]; exact List.mem_singleton.2 rfl))) (fun v hv => (hv rfl).elim)
theorem cov_enter {c : Cfg} {b : Bk} {s : Nat} (hF : Fit c b) (hF' : Fit c (enterP b s).1) : Cov c b (enterP b s).1 := by
  revert hF'
  unfold enterP
  split
  · exact fun _ => Cov.same c b
  split
  · exact fun _ => Cov.same c b
  intro hF'
  refine Cov.mk' hF hF' (kk := 0) (by omega) [s] [] [] [] (by simp) (fun j _ _ => hd_heads _ _ rfl j) (fun j hj => ?_) (fun _ _ => rfl) (fun _ _ => rfl) (fun v hv => (hv rfl).elim)
  have hne : j ≠ s := fun e => hj (by rw [e]; exact List.mem_singleton.2 rfl)
  exact ⟨set_ne _ _ _ _ hne,set_ne _ _ _ _ hne⟩
theorem cov_pages {c : Cfg} {b : Bk} {s : Int} {n : Nat} (hn : n ≤ 4) (hF : Fit c b) (hF' : Fit c (pagesP b s n).1) : Cov c b (pagesP b s n).1 := by
  revert hF'
  unfold pagesP
  split
  · exact fun _ => Cov.same c b
  dsimp only
  intro hF'
  refine Cov.mk' hF hF' (kk := 0) (by omega) [] ((List.range (n + 1)).map ((runOf b.2.1 n).toNat + ·)) [8 * (runOf b.2.1 n).toNat] [] (by simp; omega) (fun j _ _ => hd_heads _ _ rfl j) (fun j _ => ⟨rfl,rfl⟩) (fun p hp => ?_) (fun v hv => ?_) (fun v hv => (hv rfl).elim)
  · have hno : ¬ ((runOf b.2.1 n).toNat ≤ p ∧ p < (runOf b.2.1 n).toNat + (n + 1)) := fun g => hp (List.mem_map.2 ⟨p - (runOf b.2.1 n).toNat,List.mem_range.2 (by omega),by show (runOf b.2.1 n).toNat + (p - (runOf b.2.1 n).toNat) = p; omega⟩)
    refine (setRow_out _ _ _ _ _ (by omega)).trans (set_ne _ _ _ _ (by omega))
  · exact set_ne _ _ _ _ (fun e => hv (by rw [e]; exact List.mem_singleton.2 rfl))
theorem cov_pop {c : Cfg} {b : Bk} {s : Int} {k : Nat} (hk : k < 4) (hF : Fit c b) (hF' : Fit c (popP b s k).1) : Cov c b (popP b s k).1 := by
  revert hF'
  unfold popP
  dsimp only
  intro hF'
  refine Cov.mk' hF hF' hk [] [] [((hd b k).getD 0 0).toNat] [((hd b k).getD 0 0).toNat] (by simp) (fun j h1 h2 => ?_) (fun j _ => ⟨rfl,rfl⟩) (fun _ _ => rfl) (fun v hv => set_ne _ _ _ _ (fun e => hv (by rw [e]; exact List.mem_singleton.2 rfl))) (fun v hv => ?_)
  · rw [hd_ow,hd_at _ _ hk h1,if_neg h2]
  · have e : hd (wOw (wHd b k ((hd b k).drop 1)) ((hd b k).getD 0 0).toNat (s + 1)) k = (hd b k).drop 1 := by
      rw [hd_ow,hd_at _ _ hk hk,if_pos rfl]
    rw [e] at hv
    cases hl : hd b k with
    | nil => rw [hl] at hv; exact (hv rfl).elim
    | cons x r =>
      rw [hl] at hv
      have := nx_push x r (u := v) (fun h => hv h.symm)
      exact List.mem_singleton.2 (by show v = x.toNat; omega)
theorem cov_carve {c : Cfg} {b : Bk} {s : Int} {p k : Nat} (hk : k < 4) (hnil : (hd b k).length = 0) (hF : Fit c b) (hF' : Fit c (popP (carveP b p k) s k).1) : Cov c b (popP (carveP b p k) s k).1 := by
  have hl0 : hd b k = [] := List.length_eq_zero_iff.1 hnil
  revert hF'
  unfold popP
  dsimp only
  intro hF'
  have e0 : hd (carveP b p k) k = roomsOf k (8 / usz k) (8 * p) := by
    unfold carveP
    rw [hd_at _ _ hk hk,if_pos rfl,hl0]; rfl
  have e : hd (wOw (wHd (carveP b p k) k ((hd (carveP b p k) k).drop 1)) ((hd (carveP b p k) k).getD 0 0).toNat (s + 1)) k = (roomsOf k (8 / usz k) (8 * p)).drop 1 := by
    rw [hd_ow,hd_at _ _ hk hk,if_pos rfl,e0]
  refine Cov.mk' hF hF' hk [] [p] [((hd (carveP b p k) k).getD 0 0).toNat] ((List.range 8).map (8 * p + ·)) (by simp) (fun j h1 h2 => ?_) (fun j _ => ⟨rfl,rfl⟩) (fun q hq => ?_) (fun v hv => set_ne _ _ _ _ (fun e => hv (by rw [e]; exact List.mem_singleton.2 rfl))) (fun v hv => ?_)
  · rw [hd_ow,hd_at _ _ hk h1,if_neg h2]
    unfold carveP
    rw [hd_at _ _ hk h1,if_neg h2,hd_pg]
  · exact set_ne _ _ _ _ (fun e => hq (by rw [e]; exact List.mem_singleton.2 rfl))
  · rw [e,hl0,nx_nil] at hv
    have hm : (v : Int) ∈ (roomsOf k (8 / usz k) (8 * p)).drop 1 := by
      by_cases g : (v : Int) ∈ (roomsOf k (8 / usz k) (8 * p)).drop 1
      · exact g
      · exact (hv (nx_out g).symm).elim
    obtain ⟨w,h1,h2,h3,_⟩ := roomsOf_mem hk _ _ _ (List.mem_of_mem_drop hm)
    refine mem_page ?_
    rcases usz_vals hk with ⟨hz,_⟩ | ⟨hz,_⟩ | ⟨hz,_⟩ | ⟨hz,_⟩ <;> rw [hz] at h3 <;> omega
theorem cov_take {c : Cfg} {b : Bk} {s u : Int} (hF : Fit c b) (hF' : Fit c (takeP b s u).1) : Cov c b (takeP b s u).1 := by
  revert hF'
  unfold takeP
  by_cases c1 : kindOf u < 0
  · rw [if_pos c1]; exact fun _ => Cov.same c b
  rw [if_neg c1]
  by_cases c2 : kindOf u = 4
  · rw [if_pos c2]
    exact fun h => cov_pages (by rcases kindOf_cases u with g | g | ⟨k,g1,g2⟩ <;> omega) hF h
  rw [if_neg c2]
  dsimp only
  have hk : (kindOf u).toNat < 4 := by rcases kindOf_cases u with g | g | ⟨k,g1,g2⟩ <;> omega
  by_cases c3 : (hd b (kindOf u).toNat).length = 0
  · rw [if_pos c3]
    by_cases c4 : runOf b.2.1 1 < 0
    · rw [if_pos c4]; exact fun _ => Cov.same c b
    · rw [if_neg c4]; exact fun h => cov_carve hk c3 hF h
  · rw [if_neg c3]; exact fun h => cov_pop hk hF h
theorem cov_do {c : Cfg} {b : Bk} (hF : Fit c b) (op : Op) : Cov c b (doP b op).1 := by
  have hF' := hF.do op
  revert hF'
  unfold doP
  by_cases c1 : op.2.1 < 0 ∨ op.2.1 ≥ b.1
  · rw [if_pos c1]; exact fun _ => Cov.same c b
  rw [if_neg c1]
  by_cases c2 : op.1 = 1
  · rw [if_pos c2]; exact cov_enter hF
  rw [if_neg c2]
  by_cases c3 : inn b op.2.1.toNat = 0
  · rw [if_pos c3]; exact fun _ => Cov.same c b
  rw [if_neg c3]
  unfold ownP
  by_cases d2 : op.1 = 2
  · rw [if_pos d2]; exact cov_take hF
  rw [if_neg d2]
  by_cases d3 : op.1 = 3
  · rw [if_pos d3]
    split
    · exact fun _ => Cov.same c b
    · exact cov_free hF
  rw [if_neg d3]
  by_cases d4 : op.1 = 4
  · rw [if_pos d4]
    split
    · exact fun _ => Cov.same c b
    split
    · exact fun _ => Cov.same c b
    · exact cov_ow hF
  rw [if_neg d4]
  by_cases d5 : op.1 = 5
  · rw [if_pos d5]
    split
    · exact fun _ => Cov.same c b
    · exact cov_in hF
  rw [if_neg d5]
  by_cases d6 : op.1 = 6
  · rw [if_pos d6]
    unfold reapP
    split
    · exact fun _ => Cov.same c b
    split
    · exact fun _ => Cov.same c b
    split
    · exact cov_in hF
    · exact cov_free hF
  rw [if_neg d6]; exact fun _ => Cov.same c b
theorem planL_cover (f g : List Int) (s : Int) : ∀ (d i : Nat) (S : List Nat),(∀ j,i ≤ j → j < i + d → f.getD j 0 ≠ g.getD j 0 → j ∈ S) → (planL f g s d i).length ≤ S.length
  | 0,i,S,h => Nat.zero_le _
  | d + 1,i,S,h => by
    rw [planL]
    by_cases c1 : f.getD i 0 = g.getD i 0
    · rw [if_pos c1]; exact planL_cover f g s d (i + 1) S fun j h1 h2 h3 => h j (by omega) (by omega) h3
    · rw [if_neg c1]
      have hi := h i (Nat.le_refl _) (by omega) c1
      have ih := planL_cover f g s d (i + 1) (S.erase i) fun j h1 h2 h3 => (List.mem_erase_of_ne (by omega)).2 (h j (by omega) (by omega) h3)
      rw [List.length_erase_of_mem hi] at ih
      have := List.length_pos_of_mem hi
      rw [List.length_cons]
      omega
theorem planP_short (w : List Int) (op : Op) (s : Int) : (planP w op s).1.length ≤ 20 := by
  unfold planP
  by_cases h : (censBook w).2 = true ∧ 1 ≤ s ∧ s ≤ 1000000000
  rotate_left
  · rw [if_neg h]; exact Nat.zero_le _
  rw [if_pos h]
  obtain ⟨hL,hF,hA0⟩ := cens_fit h.1
  obtain ⟨S,h1,h2⟩ := cov_do hF op
  refine Nat.le_trans (planL_cover _ _ _ _ _ S fun j _ h3 h4 => h2 j (by omega) fun e => h4 ?_) h1
  rw [layP_getD hF j (by omega),layP_getD (hF.do op) j (by omega),e]
def E8 (w : List Int) : Prop := Laid w → ∀ j,3 ≤ j → j < dA (cfg (w.getD 0 0)) → ¬ (3 + (cfg (w.getD 0 0)).1 ≤ (j : Int) ∧ (j : Int) < 3 + 2 * (cfg (w.getD 0 0)).1) → stampOf (w.getD j 0) ≤ 8
def D8 (c : Cfg) (w : List Int) : Prop := ∀ j,3 ≤ j → j < dA c → ¬ (3 + c.1 ≤ (j : Int) ∧ (j : Int) < 3 + 2 * c.1) → stampOf (w.getD j 0) ≤ 8
theorem E8.of {c : Cfg} (hc : Plat c) {w : List Int} (h : w.getD 0 0 = headW c ∨ w.getD 0 0 = 77) (h8 : D8 c w) : E8 w := fun hL => by
  rcases h with h | h
  · rw [h,headW_cfg hc]; exact h8
  · have := hL.1.2.1
    rw [h] at this
    exact absurd this (by decide)
def CP (c : Cfg) : Prop := Plat c ∨ c = (0,0,0)
theorem CP.of (w : List Int) : CP (if Whole w then (cfg (w.getD 0 0),true) else ((0,0,0),false)).1 := by
  by_cases h : Whole w
  · rw [if_pos h]; exact .inl h.2.2.1
  · rw [if_neg h]; exact .inr rfl
theorem CP.hs {c : Cfg} (h : CP c) : 7 ≤ house c ∧ house c ≤ 1000 := by
  rcases h with h | rfl
  · unfold Plat at h; unfold house; omega
  · decide
theorem house_ok (N : Nat) {c : Cfg} (h : CP c) : spec_l2House N c = some (house c,()) := by
  rcases h with h | rfl
  · exact spec_l2House_eq N h
  · simp (disch := omega) only [spec_l2House,w64]; rfl
theorem not_plat0 : ¬ Plat (0,0,0) := fun h => by have := h.1; exact absurd this (by decide)
theorem at0 (N : Nat) (fr n m st : Int) : spec_l2At N (0,0,0) fr n m st = some (0,()) := by
  simp only [spec_l2At,spec_PlatOk_eq,df not_plat0,Ob,Bool.not_false,cond_true]
theorem reg_ok (N : Nat) {c : Cfg} (h : CP c) (n : Int) : Ok (spec_PlatReg N c n) (fun r => 0 ≤ r.1 ∧ r.1 ≤ 6) := by
  rcases h with h | rfl
  · rw [spec_PlatReg_eq N h]
    refine Ok.val ?_
    unfold Plat at h
    dsimp only
    split <;> omega
  · unfold spec_PlatReg
    rw [at0]
    exact Ok.val (by decide)
theorem beat_ok (N : Nat) {c : Cfg} (h : CP c) (n : Int) : Ok (spec_PlatBeat N c n) (fun r => 0 ≤ r.1 ∧ r.1 < house c) := by
  rcases h with h | rfl
  · rw [spec_PlatBeat_eq N h]
    refine Ok.val ?_
    unfold Plat at h
    unfold house
    dsimp only
    split <;> omega
  · unfold spec_PlatBeat
    rw [at0]
    exact Ok.val (by decide)
theorem load_ok (N : Nat) {w : List Int} (hw : Words w) (a : Int) : Ok (spec_PlatLoad N w a) (fun r => W64 r.1) := by
  unfold spec_PlatLoad
  have z : W64 0 := ⟨by decide,by decide⟩
  refine Ok.ite (fun _ => Ok.val z) fun c1 => Ok.ite (fun _ => Ok.val z) fun c2 => Ok.inb (by omega) (by omega) (Ok.val (hw.at _))
theorem stamp_ok (N : Nat) {x : Int} (h : W64 x) : Ok (spec_CellStamp N x) (fun r => 0 ≤ r.1 ∧ r.1 < 4294967296) := by
  rw [spec_CellStamp_eq N h]; exact Ok.val (stamp_in h)
theorem val_ok (N : Nat) {x : Int} (h : W64 x) : Ok (spec_CellVal N x) (fun r => 0 ≤ r.1 ∧ r.1 < 4294967296) := by
  rw [spec_CellVal_eq N h]; exact Ok.val (val_in x)
theorem cpack_ok (N : Nat) (v s : Int) : Ok (spec_CellPack N v s) (fun r => W64 r.1) := by
  rw [spec_CellPack_eq']; exact Ok.val (pack_w _ _)
theorem cdoor_ok (N : Nat) (k s n st : Int) : Ok (spec_CellDoor N k s n st) (fun r => W64 r.1) := by
  rw [spec_Door_eq]; exact Ok.val (pack_w _ _)
theorem low_ok (N : Nat) (x m : Int) : Ok (spec_l1Low N x m) (fun _ => True) := by
  rw [spec_l1Low_eq]; exact Ok.val trivial
theorem regof_ok (N : Nat) {x : Int} (h : W64 x) : Ok (spec_CellRegOf N x) (fun _ => True) := by
  rw [spec_CellRegOf_eq N h]; exact Ok.val trivial
theorem doorof_ok (N : Nat) {x : Int} (h : W64 x) : Ok (spec_CellDoorOf N x) (fun _ => True) := by
  unfold spec_CellDoorOf
  rw [spec_CellVal_eq N h]; exact Ok.val trivial
theorem creg_ok (N : Nat) (k e s : Int) : Ok (spec_CellReg N k e s) (fun r => W64 r.1) := by
  unfold spec_CellReg
  refine (low_ok N _ _).bind fun u1 _ => (low_ok N _ _).bind fun u2 _ => (cpack_ok N _ _).bind fun u3 h => Ok.val h
theorem cdesk_ok (N : Nat) {c : Cfg} (h : CP c) (n : Int) : Ok (spec_PlatDesk N c n) (fun r => 0 ≤ r.1 ∧ r.1 ≤ 100000) := by
  have hh := h.hs
  unfold spec_PlatDesk
  rw [house_ok N h]
  simp only [Ob]
  rcases h with h | rfl
  · rw [spec_l2At_eq N h _ _ _ _ (by omega) (by omega) (by unfold Plat at h; omega) (by omega) (by omega)]
    simp only [Ob]
    refine Ok.val ?_
    dsimp only
    unfold Plat at h
    split <;> omega
  · rw [at0]; exact Ok.val (by decide)
def SG (m : Nat) (g : Gst) : Prop :=
  match g with
  | (_,_,_,busy,_,pc,k,n,_,_,_,_,own,_,was,door,beat,entry,snap,plan,_,_,_) =>
    (Words snap ∧ Words plan ∧ W64 was ∧ W64 door ∧ W64 beat ∧ W64 entry ∧ snap.length ≤ m ∧ plan.length ≤ 200) ∧
    (pc = 11 → k = snap.length) ∧ (pc = 12 → 7 ≤ snap.length) ∧ (pc = 13 ∨ pc = 14 → 0 ≤ k ∧ k ≤ plan.length) ∧ (own = true → (pc = 23 ∨ pc = 24 ∨ pc = 25) ∧ busy = true) ∧ (own = true → pc ≠ 25 → n = plan.length ∧ 1 ≤ k ∧ k ≤ n)
abbrev RS := Unit × (Unit × Cfg × Gst × Int) × List Int
def PG (m L : Nat) (r : RS) : Prop := SG m r.2.1.2.2.1 ∧ Words r.2.2 ∧ r.2.2.length = L
theorem zW : W64 0 := ⟨by decide,by decide⟩
theorem nW : Words [] := fun x hx => by cases hx
theorem swap_ok {N : Nat} {W : List Int} (hW : Words W) (a old now : Int) (hn : W64 now) (s : Cfg × Gst × Int) : Ok (lh_spec_l6Run_swap N a old now ((),s) W) (fun r => r.2.1 = ((),s) ∧ Words r.2.2 ∧ r.2.2.length = W.length) := by
  unfold lh_spec_l6Run_swap
  refine (load_ok N hW a).bind fun u1 h1 => ?_
  rw [cndn]
  split
  · refine Ok.ite (fun _ => Ok.val ⟨rfl,hW,rfl⟩) fun c1 => Ok.ite (fun _ => Ok.val ⟨rfl,hW,rfl⟩) fun c2 => Ok.inb (by omega) (by omega) (Ok.val ⟨rfl,words_set hW _ hn,List.length_set ..⟩)
  · exact Ok.val ⟨rfl,hW,rfl⟩
abbrev ansG (up : Bool) (slot e : Int) (op : Op) (a v n : Int) : Gst := (up,slot,e,false,op,0,0,0,0,0,0,0,false,0,0,0,0,0,[],[],a,v,n)
theorem SG.ans (m : Nat) (up : Bool) (slot e : Int) (op : Op) (a v n : Int) : SG m (ansG up slot e op a v n) :=
  ⟨⟨nW,nW,zW,zW,zW,zW,by simp,by simp⟩,fun h => by omega,fun h => by omega,fun h => by omega,fun h => (by cases h),fun h => (by cases h)⟩
theorem answer_ex (N : Nat) (g : Gst) (a v : Int) : ∃ e : Int,spec_l6Answer N g a v = some ((g.1,g.2.1,e,false,g.2.2.2.2.1,0,0,0,0,0,0,0,false,0,0,0,0,0,(),(),a,v,IntKind.i64.wrap (g.2.2.2.2.2.2.2.2.2.2.2.2.2.2.2.2.2.2.2.2.2.2 + 1)),()) := by
  unfold spec_l6Answer
  rw [cndb,cndb]
  split
  · split
    · exact ⟨_,rfl⟩
    · exact ⟨_,rfl⟩
  · exact ⟨_,rfl⟩
def AnsP (g : Gst) (a v : Int) (r : (Bool × Int × Int × Bool × (Int × Int × Int × Int) × Int × Int × Int × Int × Int × Int × Int × Bool × Int × Int × Int × Int × Int × Unit × Unit × Int × Int × Int) × Unit) : Prop :=
  ∃ e n : Int,r = ((g.1,g.2.1,e,false,g.2.2.2.2.1,0,0,0,0,0,0,0,false,0,0,0,0,0,(),(),a,v,n),())
theorem answer_ok (N : Nat) (g : Gst) (a v : Int) : Ok (spec_l6Answer N g a v) (AnsP g a v) := by
  obtain ⟨e,he⟩ := answer_ex N g a v
  rw [he]
  exact Ok.val ⟨e,_,rfl⟩
theorem reg2_ok {N m : Nat} {c : Cfg} {g : Gst} {x : Int} {W : List Int} (hc : CP c) (hW : Words W) (hg : SG m g) (ho : g.2.2.2.2.2.2.2.2.2.2.2.2.1 = false) : Ok (lh_spec_l6Run_reg_2 N ((),c,g,x) W) (PG m W.length) := by
  obtain ⟨up,slot,epoch,busy,op,pc,k,n,seq,next,who,whoE,own,time,was,door,beat,entry,snap,plan,code,val,cnt⟩ := g
  obtain ⟨⟨h1,h2,h3,h4,h5,h6,h7,h8⟩,h9⟩ := hg
  have ho' : own = false := ho
  subst ho'
  unfold lh_spec_l6Run_reg_2 lh_spec_l6Run_load lh_spec_l6Run_answer_2 lh_spec_l6Run_to_2
  simp only [Option.bind_assoc,Ob]
  refine (reg_ok N hc _).bind fun u1 g1 => (load_ok N hW _).bind fun u2 g2 => (regof_ok N g2).bind fun u3 _ => ?_
  rw [cndn]
  split
  · refine Ok.ite (fun _ => ?_) fun _ => ?_
    · obtain ⟨e,he⟩ := answer_ex N (up,slot,epoch,busy,op,pc,k,n,seq,next,who,whoE,false,time,was,door,beat,u2.1,snap,plan,code,val,cnt) 12 0
      rw [he]
      exact Ok.val ⟨SG.ans m up slot e op _ _ _,hW,rfl⟩
    · exact Ok.val ⟨⟨⟨h1,h2,h3,h4,h5,g2,h7,h8⟩,fun h => by omega,fun h => by omega,fun h => by omega,fun h => (by cases h),fun h => (by cases h)⟩,hW,rfl⟩
  · obtain ⟨e,he⟩ := answer_ex N (up,slot,epoch,busy,op,pc,k,n,seq,next,who,whoE,false,time,was,door,beat,u2.1,snap,plan,code,val,cnt) 6 0
    rw [he]
    exact Ok.val ⟨SG.ans m up slot e op _ _ _,hW,rfl⟩
theorem SG.plain {m : Nat} {up busy : Bool} {slot epoch pc k n seq next who whoE time was door beat entry code val cnt : Int} {op : Op} {snap plan : List Int}
    (h : Words snap ∧ Words plan ∧ W64 was ∧ W64 door ∧ W64 beat ∧ W64 entry ∧ snap.length ≤ m ∧ plan.length ≤ 200) (h1 : pc < 11 ∨ 14 < pc) :
    SG m (up,slot,epoch,busy,op,pc,k,n,seq,next,who,whoE,false,time,was,door,beat,entry,snap,plan,code,val,cnt) :=
  ⟨h,fun h => by omega,fun h => by omega,fun h => by omega,fun h => (by cases h),fun h => (by cases h)⟩
theorem come2_ok {N m : Nat} {c : Cfg} {g : Gst} {x : Int} {W : List Int} (hc : CP c) (hW : Words W) (hg : SG m g) (ho : g.2.2.2.2.2.2.2.2.2.2.2.2.1 = false) (hpc : g.2.2.2.2.2.1 < 11) : Ok (lh_spec_l6Run_come_2 N ((),c,g,x) W) (PG m W.length) := by
  have hreg := reg2_ok (N := N) (x := x) hc hW hg ho
  obtain ⟨up,slot,epoch,busy,op,pc,k,n,seq,next,who,whoE,own,time,was,door,beat,entry,snap,plan,code,val,cnt⟩ := g
  have hg' := hg
  obtain ⟨⟨h1,h2,h3,h4,h5,h6,h7,h8⟩,h9⟩ := hg
  have ho' : own = false := ho
  subst ho'
  unfold lh_spec_l6Run_come_2 lh_spec_l6Run_load lh_spec_l6Run_answer_2 lh_spec_l6Run_to_2
  simp only [Option.bind_assoc,Ob]
  refine Ok.beq (fun _ => ?_) fun _ => Ok.beq (fun _ => ?_) fun _ => Ok.beq (fun _ => ?_) fun _ => Ok.beq (fun _ => ?_) fun _ => Ok.beq (fun _ => ?_) fun _ => ?_
  · exact hreg.bind fun u1 g1 => Ok.val g1
  · exact (beat_ok N hc _).bind fun u2 _ => (load_ok N hW _).bind fun u3 g3 => Ok.val ⟨SG.plain ⟨h1,h2,g3,h4,h5,h6,h7,h8⟩ (by omega),hW,rfl⟩
  · exact (load_ok N hW _).bind fun u3 g3 => (val_ok N g3).bind fun u4 _ => (low_ok N _ _).bind fun u5 _ => Ok.val ⟨SG.plain ⟨h1,h2,h3,h4,h5,h6,h7,h8⟩ (by omega),hW,rfl⟩
  · refine (cpack_ok N _ _).bind fun u9 g9 => (stamp_ok N h3).bind fun u10 _ => Ok.ite (fun _ => Ok.val ⟨SG.plain ⟨h1,h2,h3,h4,h5,h6,h7,h8⟩ (by omega),hW,rfl⟩) fun _ => (beat_ok N hc _).bind fun u12 _ => (swap_ok hW _ _ _ g9 _).bind fun u13 g13 => ?_
    obtain ⟨e1,e2,e3⟩ := g13
    obtain ⟨b,s',W'⟩ := u13
    dsimp only at e1 e2 e3
    subst e1
    cases b
    · exact Ok.val ⟨SG.plain ⟨h1,h2,h3,h4,h5,h6,h7,h8⟩ (by omega),e2,e3⟩
    · exact Ok.val ⟨SG.plain ⟨h1,h2,h3,h4,h5,h6,h7,h8⟩ (by omega),e2,e3⟩
  · refine (reg_ok N hc _).bind fun u16 _ => (stamp_ok N h6).bind fun u17 _ => (creg_ok N _ _ _).bind fun u18 g18 => (swap_ok hW _ _ _ g18 _).bind fun u13 g13 => ?_
    obtain ⟨e1,e2,e3⟩ := g13
    obtain ⟨b,s',W'⟩ := u13
    dsimp only at e1 e2 e3
    subst e1
    cases b
    · exact Ok.val ⟨SG.plain ⟨h1,h2,h3,h4,h5,h6,h7,h8⟩ (by omega),e2,e3⟩
    · rw [Bool.not_true,cond_false]
      refine (answer_ok N _ _ _).bind fun y hy => ?_
      obtain ⟨e,n',rfl⟩ := hy
      exact Ok.val ⟨SG.ans m up slot e op _ _ _,e2,e3⟩
  · exact Ok.val ⟨hg',hW,rfl⟩
theorem Ok.sb {α β : Type _} {a : α} {f : α → Option β} {Q : β → Prop} (h : Ok (f a) Q) : Ok ((some a).bind f) Q := h
theorem first2_ok {N m : Nat} {c : Cfg} {g : Gst} {x : Int} {W : List Int} (hc : CP c) (hW : Words W) (hg : SG m g) (ho : g.2.2.2.2.2.2.2.2.2.2.2.2.1 = false) (hpc : g.2.2.2.2.2.1 < 11) : Ok (lh_spec_l6Run_first_2 N ((),c,g,x) W) (PG m W.length) := by
  have hcome := come2_ok (N := N) (x := x) hc hW hg ho hpc
  obtain ⟨up,slot,epoch,busy,op,pc,k,n,seq,next,who,whoE,own,time,was,door,beat,entry,snap,plan,code,val,cnt⟩ := g
  obtain ⟨⟨h1,h2,h3,h4,h5,h6,h7,h8⟩,h9⟩ := hg
  have ho' : own = false := ho
  subst ho'
  unfold lh_spec_l6Run_first_2 lh_spec_l6Run_load lh_spec_l6Run_answer_2 lh_spec_l6Run_to_2
  dsimp only
  simp only [Option.bind_assoc]
  refine Ok.beq (fun _ => ?_) fun _ => Ok.beq (fun _ => ?_) fun _ => Ok.beq (fun _ => ?_) fun _ => ?_
  · refine (beat_ok N hc _).bind fun u2 _ => (load_ok N hW _).bind fun u3 g3 => Ok.sb ((stamp_ok N g3).bind fun u4 _ => Ok.ite (fun _ => ?_) fun _ => Ok.sb (Ok.val ⟨SG.plain ⟨h1,h2,g3,h4,h5,h6,h7,h8⟩ (by omega),hW,rfl⟩))
    refine (answer_ok N _ _ _).bind fun y hy => Ok.sb ?_
    obtain ⟨e,n',rfl⟩ := hy
    exact Ok.val ⟨SG.ans m up slot e op _ _ _,hW,rfl⟩
  · exact (load_ok N hW _).bind fun u3 g3 => Ok.sb ((val_ok N g3).bind fun u4 _ => (low_ok N _ _).bind fun u5 _ => Ok.sb (Ok.val ⟨SG.plain ⟨h1,h2,h3,h4,h5,h6,h7,h8⟩ (by omega),hW,rfl⟩))
  · refine (cpack_ok N _ _).bind fun u9 g9 => Ok.beq (fun _ => Ok.sb (Ok.val ⟨SG.plain ⟨h1,h2,h3,h4,h5,h6,h7,h8⟩ (by omega),hW,rfl⟩)) fun _ => (beat_ok N hc _).bind fun u12 _ => (swap_ok hW _ _ _ g9 _).bind fun u13 g13 => ?_
    obtain ⟨e1,e2,e3⟩ := g13
    obtain ⟨b,s',W'⟩ := u13
    dsimp only at e1 e2 e3
    subst e1
    cases b
    · exact Ok.sb (Ok.val ⟨SG.plain ⟨h1,h2,h3,h4,h5,h6,h7,h8⟩ (by omega),e2,e3⟩)
    · exact Ok.sb (Ok.val ⟨SG.plain ⟨h1,h2,h3,h4,h5,h6,h7,h8⟩ (by omega),e2,e3⟩)
  · exact hcome.bind fun u1 g1 => Ok.val g1
theorem door_l6 {N k m : Nat} {c : Cfg} {g : Gst} {x : Int} {W : List Int} (hW : Words W) : Ok (lh_spec_l6Run_door_2.l6 N (k + 1) ((),c,g,x) W) (PG m W.length) := by
  rw [lh_spec_l6Run_door_2.l6]
  unfold lh_spec_l6Run_answer_2
  dsimp only
  simp only [Option.bind_assoc]
  refine (answer_ok N _ _ _).bind fun y hy => Ok.sb ?_
  obtain ⟨e,n',rfl⟩ := hy
  exact Ok.val ⟨SG.ans m _ _ e _ _ _ _,hW,rfl⟩
theorem door_l5 {N k m : Nat} {c : Cfg} {g : Gst} {x v2 v3 : Int} {W : List Int} (hW : Words W) (hg : SG m g) (ho : g.2.2.2.2.2.2.2.2.2.2.2.2.1 = false) : Ok (lh_spec_l6Run_door_2.l5 N (k + 1 + 1) v2 v3 ((),c,g,x) W) (PG m W.length) := by
  obtain ⟨up,slot,epoch,busy,op,pc,k0,n,seq,next,who,whoE,own,time,was,door,beat,entry,snap,plan,code,val,cnt⟩ := g
  obtain ⟨hb,h9⟩ := hg
  have ho' : own = false := ho
  subst ho'
  rw [lh_spec_l6Run_door_2.l5]
  unfold lh_spec_l6Run_answer_2 lh_spec_l6Run_to_2
  dsimp only
  simp only [Option.bind_assoc]
  rw [cndn]
  refine Ok.ite (fun _ => door_l6 hW) fun _ => Ok.ite (fun _ => door_l6 hW) fun _ => ?_
  split
  · refine Ok.beq (fun _ => Ok.beq (fun _ => ?_) fun _ => Ok.beq (fun _ => Ok.sb (Ok.val ⟨SG.plain hb (by omega),hW,rfl⟩)) fun _ => Ok.beq (fun _ => Ok.sb (Ok.val ⟨SG.plain hb (by omega),hW,rfl⟩)) fun _ => Ok.sb (Ok.val ⟨SG.plain hb (by omega),hW,rfl⟩)) fun _ => Ok.beq (fun _ => Ok.sb (Ok.val ⟨SG.plain hb (by omega),hW,rfl⟩)) fun _ => Ok.beq (fun _ => Ok.sb (Ok.val ⟨SG.plain hb (by omega),hW,rfl⟩)) fun _ => Ok.sb (Ok.val ⟨SG.plain hb (by omega),hW,rfl⟩)
    refine (answer_ok N _ _ _).bind fun y hy => Ok.sb ?_
    obtain ⟨e,n',rfl⟩ := hy
    exact Ok.val ⟨SG.ans m up slot e op _ _ _,hW,rfl⟩
  · refine Ok.ite (fun _ => door_l6 hW) fun _ => Ok.beq (fun _ => Ok.beq (fun _ => ?_) fun _ => Ok.beq (fun _ => Ok.sb (Ok.val ⟨SG.plain hb (by omega),hW,rfl⟩)) fun _ => Ok.beq (fun _ => Ok.sb (Ok.val ⟨SG.plain hb (by omega),hW,rfl⟩)) fun _ => Ok.sb (Ok.val ⟨SG.plain hb (by omega),hW,rfl⟩)) fun _ => Ok.beq (fun _ => Ok.sb (Ok.val ⟨SG.plain hb (by omega),hW,rfl⟩)) fun _ => Ok.beq (fun _ => Ok.sb (Ok.val ⟨SG.plain hb (by omega),hW,rfl⟩)) fun _ => Ok.sb (Ok.val ⟨SG.plain hb (by omega),hW,rfl⟩)
    refine (answer_ok N _ _ _).bind fun y hy => Ok.sb ?_
    obtain ⟨e,n',rfl⟩ := hy
    exact Ok.val ⟨SG.ans m up slot e op _ _ _,hW,rfl⟩
theorem door_l1 {N k m : Nat} {c : Cfg} {g : Gst} {x : Int} {W : List Int} (hW : Words W) (hg : SG m g) (ho : g.2.2.2.2.2.2.2.2.2.2.2.2.1 = false) (hpc : g.2.2.2.2.2.1 < 11) : Ok (lh_spec_l6Run_door_2.l1 N (k + 1 + 1 + 1 + 1 + 1) ((),c,g,x) W) (PG m W.length) := by
  obtain ⟨up,slot,epoch,busy,op,pc,k0,n,seq,next,who,whoE,own,time,was,door,beat,entry,snap,plan,code,val,cnt⟩ := g
  obtain ⟨hb,h9⟩ := hg
  have ho' : own = false := ho
  subst ho'
  have hpc' : pc < 11 := hpc
  rw [lh_spec_l6Run_door_2.l1]
  refine (doorof_ok N hb.2.2.2.1).bind fun u5 _ => (stamp_ok N hb.2.2.2.1).bind fun u6 _ => ?_
  rw [lh_spec_l6Run_door_2.l3,lh_spec_l6Run_door_2.l4]
  exact (low_ok N _ _).bind fun u8 _ => door_l5 hW (SG.plain hb (.inl hpc')) rfl
theorem door2_ok {N m : Nat} (hN : Fuel N) {c : Cfg} {g : Gst} {x : Int} {W : List Int} (hc : CP c) (hW : Words W) (hg : SG m g) (ho : g.2.2.2.2.2.2.2.2.2.2.2.2.1 = false) (hpc : g.2.2.2.2.2.1 < 11) : Ok (lh_spec_l6Run_door_2 N ((),c,g,x) W) (PG m W.length) := by
  obtain ⟨up,slot,epoch,busy,op,pc,k,n,seq,next,who,whoE,own,time,was,door,beat,entry,snap,plan,code,val,cnt⟩ := g
  obtain ⟨hb,h9⟩ := hg
  have ho' : own = false := ho
  subst ho'
  have hpc' : pc < 11 := hpc
  obtain ⟨K,hK⟩ : ∃ K,N = K + 1 + 1 + 1 + 1 + 1 := ⟨N - 5,by unfold Fuel at hN; omega⟩
  unfold lh_spec_l6Run_door_2 lh_spec_l6Run_held lh_spec_l6Run_load
  dsimp only
  simp only [Option.bind_assoc]
  refine Ok.beq (fun _ => ?_) fun _ => ?_
  · refine (cdoor_ok N _ _ _ _).bind fun u1 g1 => Ok.sb ((swap_ok hW _ _ _ g1 _).bind fun u13 g13 => ?_)
    obtain ⟨e1,e2,e3⟩ := g13
    obtain ⟨b,s',W'⟩ := u13
    dsimp only at e1 e2 e3
    subst e1
    cases b
    · rw [cond_false]
      unfold lh_spec_l6Run_to_2
      exact Ok.sb (Ok.val ⟨SG.plain hb (by omega),e2,e3⟩)
    · rw [cond_true]
      have : ∀ k : Nat,Ok (lh_spec_l6Run_door_2.l0 N (k + 1 + 1) ((),c,(up,slot,epoch,busy,op,pc,0,n,seq,next,who,whoE,false,time,was,door,beat,entry,snap,plan,code,val,cnt),x) W') (PG m W.length) := fun k => by
        rw [lh_spec_l6Run_door_2.l0,lh_spec_l6Run_door_2.l2]
        unfold lh_spec_l6Run_to_2
        exact Ok.sb (Ok.val ⟨⟨⟨nW,hb.2.1,hb.2.2.1,hb.2.2.2.1,hb.2.2.2.2.1,hb.2.2.2.2.2.1,by simp,hb.2.2.2.2.2.2.2⟩,fun _ => rfl,fun h => by omega,fun h => by omega,fun h => (by cases h),fun h => (by cases h)⟩,e2,e3⟩)
      have h2 := this (K + 1 + 1 + 1)
      rw [← hK] at h2
      exact h2
  · refine (load_ok N hW _).bind fun u4 g4 => Ok.sb ?_
    have h2 := door_l1 (N := N) (k := K) (m := m) (c := c) (x := x) (g := (up,slot,epoch,busy,op,pc,k,n,seq,next,who,whoE,false,time,was,u4.1,beat,entry,snap,plan,code,val,cnt)) hW (SG.plain ⟨hb.1,hb.2.1,hb.2.2.1,g4,hb.2.2.2.2⟩ (.inl hpc')) rfl hpc'
    rw [← hK] at h2
    exact h2
abbrev GUL := Bool × Int × Int × Bool × Op × Int × Int × Int × Int × Int × Int × Int × Bool × Int × Int × Int × Int × Int × Unit × List Int × Int × Int × Int
abbrev RS3 := Unit × (Unit × Cfg × GUL × Int) × List Int × List Int
def asm (g : GUL) (s : List Int) : Gst := (g.1,g.2.1,g.2.2.1,g.2.2.2.1,g.2.2.2.2.1,g.2.2.2.2.2.1,g.2.2.2.2.2.2.1,g.2.2.2.2.2.2.2.1,g.2.2.2.2.2.2.2.2.1,g.2.2.2.2.2.2.2.2.2.1,g.2.2.2.2.2.2.2.2.2.2.1,g.2.2.2.2.2.2.2.2.2.2.2.1,g.2.2.2.2.2.2.2.2.2.2.2.2.1,g.2.2.2.2.2.2.2.2.2.2.2.2.2.1,g.2.2.2.2.2.2.2.2.2.2.2.2.2.2.1,g.2.2.2.2.2.2.2.2.2.2.2.2.2.2.2.1,g.2.2.2.2.2.2.2.2.2.2.2.2.2.2.2.2.1,g.2.2.2.2.2.2.2.2.2.2.2.2.2.2.2.2.2.1,s,g.2.2.2.2.2.2.2.2.2.2.2.2.2.2.2.2.2.2.2)
def PG3 (m L : Nat) (r : RS3) : Prop := SG m (asm r.2.1.2.2.1 r.2.2.2) ∧ Words r.2.2.1 ∧ r.2.2.1.length = L
abbrev Base (m : Nat) (was door beat entry : Int) (snap plan : List Int) : Prop := Words snap ∧ Words plan ∧ W64 was ∧ W64 door ∧ W64 beat ∧ W64 entry ∧ snap.length ≤ m ∧ plan.length ≤ 200
theorem yield2_eq (N : Nat) (a : Int) (c : Cfg) (x : Int) (W S plan : List Int) (up busy : Bool) (slot epoch pc k n seq next who whoE time was door beat entry code val cnt : Int) (own : Bool) (op : Op) :
    lh_spec_l6Run_yield_2 N a ((),c,(up,slot,epoch,busy,op,pc,k,n,seq,next,who,whoE,own,time,was,door,beat,entry,(),plan,code,val,cnt),x) W S = some ((),(((),c,(up,slot,epoch,busy,op,26,k,n,seq,next,who,whoE,own,time,was,door,beat,entry,(),plan,a,val,cnt),x),W,S)) := rfl
theorem plan2_ok {N m : Nat} (hN : Fuel N) {c : Cfg} {x : Int} {W S plan : List Int} {up busy : Bool} {slot epoch pc k n seq next who whoE time was door beat entry code val cnt : Int} {op : Op} (hW : Words W) (hb : Base m was door beat entry S plan) :
    Ok (lh_spec_l6Run_plan_2 N ((),c,(up,slot,epoch,busy,op,pc,k,n,seq,next,who,whoE,false,time,was,door,beat,entry,(),plan,code,val,cnt),x) W S) (PG3 m W.length) := by
  unfold lh_spec_l6Run_plan_2
  rw [spec_PlanOf_eq N hN hb.1]
  refine Ok.sb ?_
  have hP := planP_words S op seq
  have hY : ∀ a,PG3 m W.length ((),(((),c,(up,slot,epoch,busy,op,26,k,n,seq,next,who,whoE,false,time,was,door,beat,entry,(),plan,a,val,cnt),x),W,S)) := fun a => ⟨SG.plain (pc := 26) hb (.inr (by decide)),hW,rfl⟩
  refine Ok.beq (fun _ => ?_) fun _ => Ok.ite (fun _ => ?_) fun c2 => Ok.beq (fun _ => ?_) fun _ => Ok.beq (fun _ => ?_) fun _ => ?_
  · rw [yield2_eq]; exact Ok.sb (Ok.val (hY _))
  · rw [yield2_eq]; exact Ok.sb (Ok.val (hY _))
  · rw [yield2_eq]; exact Ok.sb (Ok.val (hY _))
  · rw [yield2_eq]; exact Ok.sb (Ok.val (hY _))
  · have hl : (planP S op seq).1.length ≤ 20 := planP_short S op seq
    have hD : PG3 m W.length ((),(((),c,(up,slot,epoch,busy,op,13,0,n,seq,next,who,whoE,false,time,was,door,beat,entry,(),(planP S op seq).1,(planP S op seq).2.1,(planP S op seq).2.2,cnt),x),W,S)) :=
      ⟨⟨⟨hb.1,hP,hb.2.2.1,hb.2.2.2.1,hb.2.2.2.2.1,hb.2.2.2.2.2.1,hb.2.2.2.2.2.2.1,Nat.le_trans hl (by omega)⟩,fun h => absurd h (show ¬ (13 : Int) = 11 by decide),fun h => absurd h (show ¬ (13 : Int) = 12 by decide),fun _ => ⟨Int.le_refl 0,Int.natCast_nonneg _⟩,fun h => (by cases h),fun h => (by cases h)⟩,hW,rfl⟩
    exact Ok.sb (Ok.val hD)
theorem late_ok {N : Nat} {c : Cfg} (hc : CP c) {x : Int} {W S plan : List Int} {up busy own : Bool} {slot epoch pc k n seq next who whoE time was door beat entry code val cnt a e : Int} {op : Op} (hS : Words S) (hl : house c ≤ S.length) :
    Ok (lh_spec_l6Run_late N (W,c,(up,slot,epoch,busy,op,pc,k,n,seq,next,who,whoE,own,time,was,door,beat,entry,S,plan,code,val,cnt),x) a e) (fun _ => True) := by
  have hh := hc.hs
  unfold lh_spec_l6Run_late
  refine (beat_ok N hc a).bind fun u1 g1 => Ok.inb g1.1 (by show u1.1 < (S.length : Int); omega) ((stamp_ok N (hS.at _)).bind fun u2 _ => Ok.ite (fun _ => Ok.val trivial) fun _ => (stamp_ok N (hS.at _)).bind fun u3 _ => Ok.beq (fun _ => Ok.ite (fun _ => (val_ok N (hS.at 1)).bind fun u4 _ => (val_ok N (hS.at _)).bind fun u5 _ => Ok.val trivial) fun c1 => ?_) fun _ => Ok.val trivial)
  exact (c1 (by show (1 : Int) < (S.length : Int); omega)).elim
theorem reap2_ok {N m : Nat} (hN : Fuel N) {c : Cfg} (hc : CP c) {x : Int} {W S plan : List Int} {up busy : Bool} {slot epoch pc k n seq next who whoE time was door beat entry code val cnt : Int} {op : Op} (hW : Words W) (hb : Base m was door beat entry S plan) (hl : house c ≤ S.length) :
    Ok (lh_spec_l6Run_reap_2 N ((),c,(up,slot,epoch,busy,op,pc,k,n,seq,next,who,whoE,false,time,was,door,beat,entry,(),plan,code,val,cnt),x) W S) (PG3 m W.length) := by
  have hh := hc.hs
  have hP := plan2_ok (c := c) (x := x) (up := up) (busy := busy) (slot := slot) (epoch := epoch) (pc := pc) (k := k) (n := n) (seq := seq) (next := next) (who := who) (whoE := whoE) (time := time) (code := code) (val := val) (cnt := cnt) (op := op) hN hW hb
  unfold lh_spec_l6Run_reap_2
  have hY : ∀ a,PG3 m W.length ((),(((),c,(up,slot,epoch,busy,op,26,k,n,seq,next,who,whoE,false,time,was,door,beat,entry,(),plan,a,val,cnt),x),W,S)) := fun a => ⟨SG.plain (pc := 26) hb (.inr (by decide)),hW,rfl⟩
  have hC : PG3 m W.length ((),(((),c,(up,slot,epoch,busy,op,12,k,n,seq,next,who,whoE,false,time,was,door,beat,entry,(),plan,code,val,cnt),x),W,S)) := by
    exact ⟨⟨hb,fun h => absurd h (show ¬ (12 : Int) = 11 by decide),fun _ => (by omega : 7 ≤ S.length),fun h => absurd h (show ¬ ((12 : Int) = 13 ∨ (12 : Int) = 14) by decide),fun h => (by cases h),fun h => (by cases h)⟩,hW,rfl⟩
  refine Ok.ite (fun _ => hP.bind fun u g => Ok.val g) fun _ => Ok.ite (fun _ => hP.bind fun u g => Ok.val g) fun _ => (reg_ok N hc _).bind fun u3 g3 => Ok.inb g3.1 (by omega) ((regof_ok N (hb.1.at _)).bind fun u4 _ => Ok.beq (fun _ => ?_) fun _ => Ok.beq (fun _ => (late_ok hc hb.1 hl).bind fun u6 _ => ?_) fun _ => Ok.beq (fun _ => ?_) fun _ => hP.bind fun u g => Ok.val g)
  · rw [yield2_eq]; exact Ok.sb (Ok.val (hY _))
  · cases u6.1
    · rw [Bool.not_false,cond_true,yield2_eq]; exact Ok.sb (Ok.val (hY _))
    · rw [Bool.not_true,cond_false]
      refine Ok.beq (fun _ => ?_) fun _ => hP.bind fun u g => Ok.val g
      exact Ok.sb (Ok.val hC)
  · exact Ok.sb (Ok.val hC)
theorem decide2_ok {N m : Nat} (hN : Fuel N) {c : Cfg} (hc : CP c) {x : Int} {W S plan : List Int} {up busy : Bool} {slot epoch pc k n seq next who whoE time was door beat entry code val cnt : Int} {op : Op} (hW : Words W) (hb : Base m was door beat entry S plan) (hl : house c ≤ S.length) :
    Ok (lh_spec_l6Run_decide_2 N ((),c,(up,slot,epoch,busy,op,pc,k,n,seq,next,who,whoE,false,time,was,door,beat,entry,(),plan,code,val,cnt),x) W S) (PG3 m W.length) := by
  have hh := hc.hs
  have hP := plan2_ok (c := c) (x := x) (up := up) (busy := busy) (slot := slot) (epoch := epoch) (pc := pc) (k := k) (n := n) (seq := seq) (next := next) (who := who) (whoE := whoE) (time := time) (code := code) (val := val) (cnt := cnt) (op := op) hN hW hb
  have hR := reap2_ok (x := x) (up := up) (busy := busy) (slot := slot) (epoch := epoch) (pc := pc) (k := k) (n := n) (seq := seq) (next := next) (who := who) (whoE := whoE) (time := time) (code := code) (val := val) (cnt := cnt) (op := op) hN hc hW hb hl
  have hY : ∀ a,PG3 m W.length ((),(((),c,(up,slot,epoch,busy,op,26,k,n,seq,next,who,whoE,false,time,was,door,beat,entry,(),plan,a,val,cnt),x),W,S)) := fun a => ⟨SG.plain (pc := 26) hb (.inr (by decide)),hW,rfl⟩
  unfold lh_spec_l6Run_decide_2
  refine (reg_ok N hc _).bind fun u1 g1 => Ok.inb g1.1 (by omega) ((regof_ok N (hb.1.at _)).bind fun u2 _ => ?_)
  rw [cndn,cndn]
  split
  · split
    · exact Ok.beq (fun _ => hR.bind fun u g => Ok.val g) fun _ => hP.bind fun u g => Ok.val g
    · rw [yield2_eq]; exact Ok.sb (Ok.val (hY _))
  · rw [yield2_eq]; exact Ok.sb (Ok.val (hY _))
theorem SG.mono {m m' : Nat} {g : Gst} (h : SG m g) (hm : m ≤ m') : SG m' g := by
  obtain ⟨up,slot,epoch,busy,op,pc,k,n,seq,next,who,whoE,own,time,was,door,beat,entry,snap,plan,code,val,cnt⟩ := g
  obtain ⟨⟨h1,h2,h3,h4,h5,h6,h7,h8⟩,h9⟩ := h
  exact ⟨⟨h1,h2,h3,h4,h5,h6,Nat.le_trans h7 hm,h8⟩,h9⟩
theorem inside2_ok {N m : Nat} (hN : Fuel N) (hm : m ≤ 1000000) {c : Cfg} (hc : CP c) {g : Gst} {x : Int} {W : List Int} (hW : Words W) (hg : SG m g) (ho : g.2.2.2.2.2.2.2.2.2.2.2.2.1 = false) : Ok (lh_spec_l6Run_inside_2 N ((),c,g,x) W) (PG (m + 1) W.length) := by
  have hmono := SG.mono hg (Nat.le_succ m)
  have hh := hc.hs
  obtain ⟨up,slot,epoch,busy,op,pc,k,n,seq,next,who,whoE,own,time,was,door,beat,entry,snap,plan,code,val,cnt⟩ := g
  obtain ⟨hb,h9,h10,_⟩ := hg
  have ho' : own = false := ho
  subst ho'
  have hl := hb.2.2.2.2.2.2.1
  unfold lh_spec_l6Run_inside_2 lh_spec_l6Run_load
  dsimp only
  refine Ok.beq (fun h11 => ?_) fun _ => Ok.beq (fun h12 => ?_) fun _ => Ok.val ⟨hmono,hW,rfl⟩
  · have hk := h9 h11
    refine Ok.ite (fun _ => ?_) fun c1 => (c1 (by simp; omega)).elim
    refine Ok.bind (P := fun r => W64 r.1) ((load_ok N hW k).bind fun u g => Ok.val g) fun u1 g1 => ?_
    refine Ok.ite (fun _ => ?_) fun c1 => (c1 (by simp; omega)).elim
    rw [house_ok N hc]
    refine Ok.sb ?_
    have hw1 : IntKind.i64.wrap (k + 1) = ((snap.length + 1 : Nat) : Int) := by rw [hk,w64 (by omega) (by omega)]; omega
    have hS : Words (([] ++ snap) ++ [u1.1]) := fun y hy => by
      rcases List.mem_append.1 hy with q | q
      · exact hb.1 y (by simpa using q)
      · rw [List.mem_singleton.1 q]; exact g1
    have hSl : (([] ++ snap) ++ [u1.1]).length = snap.length + 1 := by simp
    have hb' : Base (m + 1) was door beat entry (([] ++ snap) ++ [u1.1]) plan := ⟨hS,hb.2.1,hb.2.2.1,hb.2.2.2.1,hb.2.2.2.2.1,hb.2.2.2.2.2.1,by rw [hSl]; omega,hb.2.2.2.2.2.2.2⟩
    refine Ok.beq (fun e => ?_) fun _ => ?_
    · exact (decide2_ok hN hc hW hb' (by rw [hSl]; omega)).bind fun u g => Ok.val g
    · refine Ok.val ⟨⟨hb',fun _ => ?_,fun h => ?_,fun h => ?_,fun h => (by cases h),fun h => (by cases h)⟩,hW,rfl⟩
      · show IntKind.i64.wrap (k + 1) = ((([] ++ snap) ++ [u1.1]).length : Nat)
        rw [hw1,hSl]
      · have h' : pc = 12 := h
        omega
      · have h' : pc = 13 ∨ pc = 14 := h
        omega
  · have h7 := h10 h12
    have hp0 := plan2_ok (m := m + 1) (c := c) (x := 2) (W := W) (S := snap) (plan := plan) (up := up) (busy := busy) (slot := slot) (epoch := epoch) (pc := pc) (k := k) (n := n) (seq := seq) (next := next) (who := who) (whoE := whoE) (time := time) (code := code) (val := val) (cnt := cnt) (op := op) (was := was) (door := door) (beat := beat) (entry := entry) hN hW ⟨hb.1,hb.2.1,hb.2.2.1,hb.2.2.2.1,hb.2.2.2.2.1,hb.2.2.2.2.2.1,by omega,hb.2.2.2.2.2.2.2⟩
    refine (reg_ok N hc _).bind fun u4 g4 => Ok.inb g4.1 (by omega) ((regof_ok N (hb.1.at _)).bind fun u5 _ => Ok.inb g4.1 (by omega) ((stamp_ok N (hb.1.at _)).bind fun u6 _ => (creg_ok N _ _ _).bind fun u7 g7 => Ok.inb g4.1 (by omega) ((swap_ok hW _ _ _ g7 _).bind fun u13 g13 => ?_)))
    obtain ⟨e1,e2,e3⟩ := g13
    obtain ⟨b,s',W'⟩ := u13
    dsimp only at e1 e2 e3
    subst e1
    cases b
    · rw [Bool.not_false,cond_true]
      refine Ok.sb (Ok.val ⟨⟨⟨nW,hb.2.1,hb.2.2.1,hb.2.2.2.1,hb.2.2.2.2.1,hb.2.2.2.2.2.1,Nat.zero_le _,hb.2.2.2.2.2.2.2⟩,fun _ => rfl,fun h => absurd h (show ¬ (11 : Int) = 12 by decide),fun h => absurd h (show ¬ ((11 : Int) = 13 ∨ (11 : Int) = 14) by decide),fun h => (by cases h),fun h => (by cases h)⟩,e2,e3⟩)
    · rw [Bool.not_true,cond_false]
      refine Ok.ite (fun _ => ?_) fun c1 => (c1 (by simp; omega)).elim
      refine Ok.inb g4.1 (by simp; omega) ?_
      have hS : Words (([] ++ snap).set u4.1.toNat u7.1) := words_set hb.1 _ g7
      have hp := plan2_ok (m := m + 1) (c := c) (x := 2) (W := W') (S := ([] ++ snap).set u4.1.toNat u7.1) (plan := plan) (up := up) (busy := busy) (slot := slot) (epoch := epoch) (pc := pc) (k := k) (n := n) (seq := seq) (next := next) (who := op.2.2.1) (whoE := whoE) (time := time) (code := code) (val := val) (cnt := cnt) (op := op) (was := was) (door := door) (beat := beat) (entry := entry) hN e2 ⟨hS,hb.2.1,hb.2.2.1,hb.2.2.2.1,hb.2.2.2.2.1,hb.2.2.2.2.2.1,by rw [List.length_set]; simp; omega,hb.2.2.2.2.2.2.2⟩
      rw [e3] at hp
      exact hp.bind fun u g => Ok.val g
theorem held_ok (N : Nat) (s : List Int × Cfg × Gst × Int) (st : Int) : Ok (lh_spec_l6Run_held N s st) (fun r => W64 r.1) := by
  unfold lh_spec_l6Run_held
  exact (cdoor_ok N _ _ _ _).bind fun u g => Ok.val g
theorem free_ok' (N : Nat) (s : List Int × Cfg × Gst × Int) : Ok (lh_spec_l6Run_free N s) (fun r => W64 r.1) := by
  unfold lh_spec_l6Run_free
  exact (cdoor_ok N _ _ _ _).bind fun u g => Ok.val g
theorem runload_ok (N : Nat) {W : List Int} (hW : Words W) (s : Cfg × Gst × Int) (a : Int) : Ok (lh_spec_l6Run_load N (W,s) a) (fun r => W64 r.1) := by
  unfold lh_spec_l6Run_load
  exact (load_ok N hW a).bind fun u g => Ok.val g
theorem entryof_ok (N : Nat) {x : Int} (h : W64 x) : Ok (spec_CellEntryOf N x) (fun _ => True) := by
  unfold spec_CellEntryOf
  rw [spec_CellVal_eq N h]; exact Ok.val trivial
theorem answer2_ok (N : Nat) (a v : Int) (c : Cfg) (g : Gst) (x : Int) (W : List Int) : Ok (lh_spec_l6Run_answer_2 N a v ((),c,g,x) W) (fun r => ∃ e n : Int,r = ((),(((),c,(g.1,g.2.1,e,false,g.2.2.2.2.1,0,0,0,0,0,0,0,false,0,0,0,0,0,(),(),a,v,n),x),W))) := by
  unfold lh_spec_l6Run_answer_2
  refine (answer_ok N _ _ _).bind fun y hy => ?_
  obtain ⟨e,n',rfl⟩ := hy
  exact Ok.val ⟨e,n',rfl⟩
theorem carry_ok {N m : Nat} {c : Cfg} {x : Int} {W snap plan : List Int} {up busy own : Bool} {slot epoch pc k n seq next who whoE time was door beat entry code val cnt : Int} {op : Op} (hW : Words W) (hb : Base m was door beat entry snap plan) (ho : own = true → n = plan.length ∧ 1 ≤ k ∧ busy = true) :
    Ok (lh_spec_l6Run_carryOn_2 N ((),c,(up,slot,epoch,busy,op,pc,k,n,seq,next,who,whoE,own,time,was,door,beat,entry,snap,plan,code,val,cnt),x) W) (PG m W.length) := by
  have hl := hb.2.2.2.2.2.2.2
  unfold lh_spec_l6Run_carryOn_2 lh_spec_l6Run_to_2
  dsimp only
  refine Ok.ite (fun _ => ?_) fun c1 => ?_
  · refine Ok.sb (Ok.val ⟨⟨hb,fun h => absurd h (show ¬ (25 : Int) = 11 by decide),fun h => absurd h (show ¬ (25 : Int) = 12 by decide),fun h => absurd h (show ¬ ((25 : Int) = 13 ∨ (25 : Int) = 14) by decide),fun h => ⟨.inr (.inr rfl),(ho h).2.2⟩,fun _ h => (h rfl).elim⟩,hW,rfl⟩)
  · cases own
    · exact Ok.sb (Ok.val ⟨SG.plain (pc := 22) hb (.inr (by decide)),hW,rfl⟩)
    · obtain ⟨h1,h2,h3⟩ := ho rfl
      rw [cond_true]
      have hw : IntKind.i64.wrap (k - 1) = k - 1 := w64 (by omega) (by omega)
      refine Ok.inb (by rw [hw]; omega) (by rw [hw]; omega) (Ok.sb (Ok.val ⟨⟨⟨hb.1,hb.2.1,hb.2.2.1,hb.2.2.2.1,hb.2.2.2.2.1,hb.2.1.at _,hb.2.2.2.2.2.2⟩,fun h => absurd h (show ¬ (23 : Int) = 11 by decide),fun h => absurd h (show ¬ (23 : Int) = 12 by decide),fun h => absurd h (show ¬ ((23 : Int) = 13 ∨ (23 : Int) = 14) by decide),fun _ => ⟨.inl rfl,h3⟩,fun _ _ => ⟨h1,h2,?_⟩⟩,hW,rfl⟩))
      show k ≤ n
      omega
theorem written_ok {N m : Nat} {c : Cfg} {x : Int} {W snap plan : List Int} {up busy own : Bool} {slot epoch pc k n seq next who whoE time was door beat entry code val cnt : Int} {op : Op} (hb : Base m was door beat entry snap plan) (hk : 0 ≤ k ∧ k ≤ plan.length) :
    Ok (lh_spec_l6Run_written N (W,c,(up,slot,epoch,busy,op,pc,k,n,seq,next,who,whoE,own,time,was,door,beat,entry,snap,plan,code,val,cnt),x)) (fun r => W64 r.1) := by
  have hl := hb.2.2.2.2.2.2.2
  unfold lh_spec_l6Run_written
  dsimp only
  refine Ok.beq (fun _ => (cpack_ok N _ _).bind fun u g => Ok.val g) fun h0 => ?_
  have hw : IntKind.i64.wrap (k - 1) = k - 1 := w64 (by omega) (by omega)
  exact Ok.inb (by rw [hw]; omega) (by rw [hw]; omega) (Ok.val (hb.2.1.at _))
theorem turn_ok {N m : Nat} {c : Cfg} {x : Int} {W snap plan : List Int} {up busy : Bool} {slot epoch pc k n seq next who whoE time was door beat entry code val cnt : Int} {op : Op} (hW : Words W) (hb : Base m was door beat entry snap plan) (hbz : busy = true) :
    Ok (lh_spec_l6Run_turn N ((),c,(up,slot,epoch,busy,op,pc,k,n,seq,next,who,whoE,false,time,was,door,beat,entry,snap,plan,code,val,cnt),x) W) (PG m W.length) := by
  unfold lh_spec_l6Run_turn
  dsimp only
  refine (held_ok N _ _).bind fun u1 g1 => (held_ok N _ _).bind fun u2 g2 => (swap_ok hW _ _ _ g2 _).bind fun u13 g13 => ?_
  obtain ⟨e1,e2,e3⟩ := g13
  obtain ⟨b,s',W'⟩ := u13
  dsimp only at e1 e2 e3
  subst e1
  cases b
  · rw [Bool.not_false,cond_true]
    refine (answer2_ok N _ _ _ _ _ _).bind fun y hy => ?_
    obtain ⟨e,n',rfl⟩ := hy
    exact Ok.val ⟨SG.ans m up slot e op _ _ _,e2,e3⟩
  · rw [Bool.not_true,cond_false]
    refine (held_ok N _ _).bind fun u5 g5 => ?_
    have := carry_ok (N := N) (c := c) (x := 1) (up := up) (busy := busy) (own := true) (slot := slot) (epoch := epoch) (pc := pc) (k := 1) (n := (plan.length : Int)) (seq := seq) (next := next) (who := who) (whoE := whoE) (time := time) (was := was) (door := u5.1) (beat := beat) (entry := entry) (code := code) (val := val) (cnt := cnt) (op := op) (snap := snap) (plan := plan) (m := m) e2 ⟨hb.1,hb.2.1,hb.2.2.1,g5,hb.2.2.2.2⟩ (fun _ => ⟨rfl,Int.le_refl 1,hbz⟩)
    rw [e3] at this
    exact this.bind fun u g => Ok.val g
theorem desk2_ok {N m : Nat} {c : Cfg} (hc : CP c) {g : Gst} {x : Int} {W : List Int} (hW : Words W) (hg : SG m g) (ho : g.2.2.2.2.2.2.2.2.2.2.2.2.1 = false) (hbz : g.2.2.2.1 = true) : Ok (lh_spec_l6Run_desk_2 N ((),c,g,x) W) (PG m W.length) := by
  have hg' := hg
  obtain ⟨up,slot,epoch,busy,op,pc,k,n,seq,next,who,whoE,own,time,was,door,beat,entry,snap,plan,code,val,cnt⟩ := g
  obtain ⟨hb,h9,h10,h11,_⟩ := hg
  have ho' : own = false := ho
  subst ho'
  have hl := hb.2.2.2.2.2.2.2
  unfold lh_spec_l6Run_desk_2
  dsimp only
  refine (cdesk_ok N hc _).bind fun u1 g1 => Ok.beq (fun e13 => ?_) fun _ => Ok.beq (fun e14 => ?_) fun _ => Ok.beq (fun _ => (turn_ok hW hb hbz).bind fun u g => Ok.val g) fun _ => Ok.val ⟨hg',hW,rfl⟩
  · obtain ⟨k1,k2⟩ := h11 (.inl e13)
    refine (runload_ok N hW _ _).bind fun u2 g2 => (stamp_ok N g2).bind fun u3 _ => Ok.ite (fun _ => ?_) fun _ => ?_
    · refine (answer2_ok N _ _ _ _ _ _).bind fun y hy => ?_
      obtain ⟨e,n',rfl⟩ := hy
      exact Ok.val ⟨SG.ans m up slot e op _ _ _,hW,rfl⟩
    · unfold lh_spec_l6Run_to_2
      exact Ok.sb (Ok.val ⟨⟨⟨hb.1,hb.2.1,g2,hb.2.2.2⟩,fun h => absurd h (show ¬ (14 : Int) = 11 by decide),fun h => absurd h (show ¬ (14 : Int) = 12 by decide),fun _ => ⟨k1,k2⟩,fun h => (by cases h),fun h => (by cases h)⟩,hW,rfl⟩)
  · obtain ⟨k1,k2⟩ := h11 (.inr e14)
    have hw : IntKind.i64.wrap (k + 1) = k + 1 := w64 (by omega) (by omega)
    have fin : ∀ W' : List Int,Words W' → W'.length = W.length → Ok ((lh_spec_l6Run_to_2 N 13 ((),c,(up,slot,epoch,busy,op,pc,IntKind.i64.wrap (k + 1),n,seq,next,who,whoE,false,time,was,door,beat,entry,snap,plan,code,val,cnt),x) W').bind fun u10 => (bif decide (u10.2.1.2.2.1.2.2.2.2.2.2.1 > (u10.2.1.2.2.1.2.2.2.2.2.2.2.2.2.2.2.2.2.2.2.2.2.2.2.1.length : Int)) then (lh_spec_l6Run_to_2 N 15 ((),u10.2.1.2.1,(u10.2.1.2.2.1.1,u10.2.1.2.2.1.2.1,u10.2.1.2.2.1.2.2.1,u10.2.1.2.2.1.2.2.2.1,u10.2.1.2.2.1.2.2.2.2.1,u10.2.1.2.2.1.2.2.2.2.2.1,0,u10.2.1.2.2.1.2.2.2.2.2.2.2),u10.2.1.2.2.2) u10.2.2).bind fun u11 => some ((),(((),u11.2.1.2),u11.2.2)) else some ((),(((),u10.2.1.2),u10.2.2)))) (PG m W.length) := fun W' q1 q2 => by
      unfold lh_spec_l6Run_to_2
      refine Ok.sb (Ok.ite (fun _ => Ok.sb (Ok.val ⟨SG.plain (pc := 15) hb (.inr (by decide)),q1,q2⟩)) fun h => Ok.val ⟨⟨hb,fun h => absurd h (show ¬ (13 : Int) = 11 by decide),fun h => absurd h (show ¬ (13 : Int) = 12 by decide),fun _ => ?_,fun h => (by cases h),fun h => (by cases h)⟩,q1,q2⟩)
      have h' : ¬ IntKind.i64.wrap (k + 1) > (plan.length : Int) := h
      show 0 ≤ IntKind.i64.wrap (k + 1) ∧ IntKind.i64.wrap (k + 1) ≤ (plan.length : Int)
      omega
    have hwr : Ok (lh_spec_l6Run_written N (W,c,(up,slot,epoch,busy,op,pc,k,n,seq,next,who,whoE,false,time,was,door,beat,entry,snap,plan,code,val,cnt),x)) (fun r => W64 r.1) := written_ok hb ⟨k1,k2⟩
    refine hwr.bind fun u6 g6 => ?_
    rw [cndn]
    split
    · exact fin W hW rfl
    · refine hwr.bind fun u7 g7 => (swap_ok hW _ _ _ g7 _).bind fun u13 g13 => ?_
      obtain ⟨e1,e2,e3⟩ := g13
      obtain ⟨b,s',W'⟩ := u13
      dsimp only at e1 e2 e3
      subst e1
      cases b
      · rw [Bool.not_false,cond_true]
        unfold lh_spec_l6Run_to_2
        exact Ok.sb (Ok.val ⟨⟨hb,fun h => absurd h (show ¬ (13 : Int) = 11 by decide),fun h => absurd h (show ¬ (13 : Int) = 12 by decide),fun _ => ⟨k1,k2⟩,fun h => (by cases h),fun h => (by cases h)⟩,e2,e3⟩)
      · rw [Bool.not_true,cond_false]
        exact fin W' e2 e3
theorem last_ok {N m : Nat} {c : Cfg} {g : Gst} {x : Int} {W : List Int} (hW : Words W) (hg : SG m g) : Ok (lh_spec_l6Run_last N ((),c,g,x) W) (PG m W.length) := by
  obtain ⟨up,slot,epoch,busy,op,pc,k,n,seq,next,who,whoE,own,time,was,door,beat,entry,snap,plan,code,val,cnt⟩ := g
  obtain ⟨hb,h9,h10,h11,_⟩ := hg
  unfold lh_spec_l6Run_last
  dsimp only
  refine Ok.beq (fun e26 => ?_) fun _ => ?_
  · refine (held_ok N _ _).bind fun u1 g1 => (free_ok' N _).bind fun u2 g2 => (swap_ok hW _ _ _ g2 _).bind fun u13 g13 => ?_
    obtain ⟨e1,e2,e3⟩ := g13
    obtain ⟨b,s',W'⟩ := u13
    dsimp only at e1 e2 e3
    subst e1
    refine (answer2_ok N _ _ _ _ _ _).bind fun y hy => ?_
    obtain ⟨e,n',rfl⟩ := hy
    exact Ok.val ⟨SG.ans m up slot e op _ _ _,e2,e3⟩
  · refine (free_ok' N _).bind fun u2 g2 => (swap_ok hW _ _ _ g2 _).bind fun u13 g13 => ?_
    obtain ⟨e1,e2,e3⟩ := g13
    obtain ⟨b,s',W'⟩ := u13
    dsimp only at e1 e2 e3
    subst e1
    cases own
    · unfold lh_spec_l6Run_to_2
      exact Ok.sb (Ok.val ⟨SG.plain (pc := 9) hb (.inl (by decide)),e2,e3⟩)
    · refine (answer2_ok N _ _ _ _ _ _).bind fun y hy => ?_
      obtain ⟨e,n',rfl⟩ := hy
      exact Ok.val ⟨SG.ans m up slot e op _ _ _,e2,e3⟩
theorem watch2_ok {N m : Nat} {c : Cfg} (hc : CP c) {g : Gst} {x : Int} {W : List Int} (hW : Words W) (hg : SG m g) (ho : g.2.2.2.2.2.2.2.2.2.2.2.2.1 = false) : Ok (lh_spec_l6Run_watch_2 N ((),c,g,x) W) (PG m W.length) := by
  have hg' := hg
  obtain ⟨up,slot,epoch,busy,op,pc,k,n,seq,next,who,whoE,own,time,was,door,beat,entry,snap,plan,code,val,cnt⟩ := g
  obtain ⟨hb,h9⟩ := hg
  have ho' : own = false := ho
  subst ho'
  unfold lh_spec_l6Run_watch_2 lh_spec_l6Run_to_2
  dsimp only
  refine Ok.beq (fun _ => ?_) fun _ => Ok.beq (fun _ => ?_) fun _ => Ok.beq (fun _ => ?_) fun _ => Ok.beq (fun _ => ?_) fun _ => Ok.beq (fun _ => ?_) fun _ => Ok.val ⟨hg',hW,rfl⟩
  · refine (reg_ok N hc _).bind fun u1 _ => (runload_ok N hW _ _).bind fun u2 g2 => (regof_ok N g2).bind fun u3 _ => Ok.sb ?_
    have hb2 : Base m u2.1 door beat entry snap plan := ⟨hb.1,hb.2.1,g2,hb.2.2.2⟩
    rw [cndn,cndn]
    split
    · split
      · exact Ok.val ⟨SG.plain (pc := 17) hb2 (.inr (by decide)),hW,rfl⟩
      · exact Ok.sb (Ok.val ⟨SG.plain (pc := 20) hb2 (.inr (by decide)),hW,rfl⟩)
    · exact Ok.sb (Ok.val ⟨SG.plain (pc := 20) hb2 (.inr (by decide)),hW,rfl⟩)
  · exact (beat_ok N hc _).bind fun u1 _ => (runload_ok N hW _ _).bind fun u2 g2 => Ok.sb (Ok.val ⟨SG.plain (pc := 18) ⟨hb.1,hb.2.1,hb.2.2.1,hb.2.2.2.1,g2,hb.2.2.2.2.2⟩ (.inr (by decide)),hW,rfl⟩)
  · refine (runload_ok N hW _ _).bind fun u2 g2 => (val_ok N g2).bind fun u3 _ => (stamp_ok N hb.2.2.2.2.1).bind fun u4 _ => Ok.sb ?_
    refine Ok.ite (fun _ => Ok.sb (Ok.val ⟨SG.plain (pc := 19) hb (.inr (by decide)),hW,rfl⟩)) fun _ => Ok.beq (fun _ => ?_) fun _ => Ok.val ⟨SG.plain (pc := 9) hb (.inl (by decide)),hW,rfl⟩
    exact (val_ok N hb.2.2.2.2.1).bind fun u5 _ => Ok.ite (fun _ => Ok.sb (Ok.val ⟨SG.plain (pc := 19) hb (.inr (by decide)),hW,rfl⟩)) fun _ => Ok.val ⟨SG.plain (pc := 9) hb (.inl (by decide)),hW,rfl⟩
  · refine (reg_ok N hc _).bind fun u1 _ => (stamp_ok N hb.2.2.1).bind fun u2 _ => (creg_ok N _ _ _).bind fun u3 g3 => (swap_ok hW _ _ _ g3 _).bind fun u13 g13 => ?_
    obtain ⟨e1,e2,e3⟩ := g13
    obtain ⟨b,s',W'⟩ := u13
    dsimp only at e1 e2 e3
    subst e1
    cases b
    · exact Ok.sb (Ok.val ⟨SG.plain (pc := 9) hb (.inl (by decide)),e2,e3⟩)
    · exact Ok.sb (Ok.val ⟨SG.plain (pc := 9) hb (.inl (by decide)),e2,e3⟩)
  · refine (cdoor_ok N _ _ _ _).bind fun u1 _ => (free_ok' N _).bind fun u3 g3 => (swap_ok hW _ _ _ g3 _).bind fun u13 g13 => ?_
    obtain ⟨e1,e2,e3⟩ := g13
    obtain ⟨b,s',W'⟩ := u13
    dsimp only at e1 e2 e3
    subst e1
    cases b
    · exact Ok.sb (Ok.val ⟨SG.plain (pc := 9) hb (.inl (by decide)),e2,e3⟩)
    · exact Ok.sb (Ok.val ⟨SG.plain (pc := 9) hb (.inl (by decide)),e2,e3⟩)
theorem aid2_ok {N m : Nat} {c : Cfg} (hc : CP c) {g : Gst} {x : Int} {W : List Int} (hW : Words W) (hg : SG m g) : Ok (lh_spec_l6Run_aid_2 N ((),c,g,x) W) (PG m W.length) := by
  have hg' := hg
  obtain ⟨up,slot,epoch,busy,op,pc,k,n,seq,next,who,whoE,own,time,was,door,beat,entry,snap,plan,code,val,cnt⟩ := g
  obtain ⟨hb,h9,h10,h11,h12,h13⟩ := hg
  have hl := hb.2.2.2.2.2.2.2
  have hno : pc = 21 ∨ pc = 22 → own = false := fun h => by
    cases own
    · rfl
    · have := (h12 rfl).1
      omega
  unfold lh_spec_l6Run_aid_2
  dsimp only
  refine (entryof_ok N hb.2.2.2.2.2.1).bind fun u1 _ => Ok.beq (fun e => ?_) fun _ => Ok.beq (fun e => ?_) fun _ => Ok.beq (fun e => ?_) fun _ => Ok.beq (fun e => ?_) fun _ => Ok.val ⟨hg',hW,rfl⟩
  · have ho := hno (.inl e)
    subst ho
    refine (cdesk_ok N hc _).bind fun u2 _ => (runload_ok N hW _ _).bind fun u3 g3 => (stamp_ok N g3).bind fun u4 _ => ?_
    unfold lh_spec_l6Run_to_2
    rw [cndn]
    split
    · refine (val_ok N g3).bind fun u6 _ => Ok.ite (fun _ => Ok.sb (Ok.val ⟨SG.plain (pc := 9) hb (.inl (by decide)),hW,rfl⟩)) fun _ => (val_ok N g3).bind fun u8 _ => ?_
      exact (carry_ok hW hb (fun h => (by cases h))).bind fun u g => Ok.val g
    · exact Ok.sb (Ok.val ⟨SG.plain (pc := 9) hb (.inl (by decide)),hW,rfl⟩)
  · have ho := hno (.inr e)
    subst ho
    refine (cdesk_ok N hc _).bind fun u2 _ => (runload_ok N hW _ _).bind fun u3 g3 => ?_
    have hb2 : Base m was door beat u3.1 snap plan := ⟨hb.1,hb.2.1,hb.2.2.1,hb.2.2.2.1,hb.2.2.2.2.1,g3,hb.2.2.2.2.2.2⟩
    unfold lh_spec_l6Run_to_2
    refine Ok.sb ((stamp_ok N g3).bind fun u4 _ => ?_)
    rw [cndn]
    split
    · exact Ok.val ⟨SG.plain (pc := 23) hb2 (.inr (by decide)),hW,rfl⟩
    · exact Ok.sb (Ok.val ⟨SG.plain (pc := 9) hb2 (.inl (by decide)),hW,rfl⟩)
  · refine (runload_ok N hW _ _).bind fun u3 g3 => ?_
    have hb2 : Base m u3.1 door beat entry snap plan := ⟨hb.1,hb.2.1,g3,hb.2.2.2⟩
    have hown : own = true → n = plan.length ∧ 1 ≤ k ∧ k ≤ n := fun h => h13 h (by omega)
    unfold lh_spec_l6Run_to_2
    refine Ok.sb ((stamp_ok N g3).bind fun u4 _ => Ok.ite (fun _ => ?_) fun _ => ?_)
    · exact (carry_ok (k := IntKind.i64.wrap (k + 1)) hW hb2 (fun h => by
        obtain ⟨q1,q2,q3⟩ := hown h
        rw [w64 (n := k + 1) (by omega) (by omega)]
        exact ⟨q1,by omega,(h12 h).2⟩)).bind fun u g => Ok.val g
    · exact Ok.val ⟨⟨hb2,fun h => absurd h (show ¬ (24 : Int) = 11 by decide),fun h => absurd h (show ¬ (24 : Int) = 12 by decide),fun h => absurd h (show ¬ ((24 : Int) = 13 ∨ (24 : Int) = 14) by decide),fun h => ⟨.inr (.inl rfl),(h12 h).2⟩,fun h _ => hown h⟩,hW,rfl⟩
  · have hown : own = true → n = plan.length ∧ 1 ≤ k ∧ k ≤ n := fun h => h13 h (by omega)
    unfold lh_spec_l6Run_to_2
    refine Ok.sb ((cpack_ok N _ _).bind fun u20 g20 => (swap_ok hW _ _ _ g20 _).bind fun u13 g13 => ?_)
    obtain ⟨e1,e2,e3⟩ := g13
    obtain ⟨b,s',W'⟩ := u13
    dsimp only at e1 e2 e3
    subst e1
    cases b
    · exact Ok.val ⟨⟨hb,fun h => absurd h (show ¬ (23 : Int) = 11 by decide),fun h => absurd h (show ¬ (23 : Int) = 12 by decide),fun h => absurd h (show ¬ ((23 : Int) = 13 ∨ (23 : Int) = 14) by decide),fun h => ⟨.inl rfl,(h12 h).2⟩,fun h _ => hown h⟩,e2,e3⟩
    · rw [cond_true]
      have := carry_ok (N := N) (c := c) (x := x) (up := up) (busy := busy) (own := own) (slot := slot) (epoch := epoch) (pc := 23) (k := IntKind.i64.wrap (k + 1)) (n := n) (seq := seq) (next := next) (who := who) (whoE := whoE) (time := time) (code := code) (val := val) (cnt := cnt) (op := op) e2 hb (fun h => by
        obtain ⟨q1,q2,q3⟩ := hown h
        rw [w64 (n := k + 1) (by omega) (by omega)]
        exact ⟨q1,by omega,(h12 h).2⟩)
      rw [e3] at this
      exact this.bind fun u g => Ok.val g
def PS (m L : Nat) (r : (Unit × Gst × Int) × List Int) : Prop := SG m r.1.2.1 ∧ Words r.2 ∧ r.2.length = L
theorem step2_ok {N m : Nat} (hN : Fuel N) (hm : m ≤ 1000000) {c : Cfg} (hc : CP c) {g : Gst} {W : List Int} (hW : Words W) (hg : SG m g) (hbz : g.2.2.2.1 = true) : Ok (spec_l6Step_2 N c g W) (PS (m + 1) W.length) := by
  have hno : g.2.2.2.2.2.1 ≤ 22 → g.2.2.2.2.2.2.2.2.2.2.2.2.1 = false := fun h => by
    obtain ⟨up,slot,epoch,busy,op,pc,k,n,seq,next,who,whoE,own,time,was,door,beat,entry,snap,plan,code,val,cnt⟩ := g
    obtain ⟨hb,h9,h10,h11,h12,h13⟩ := hg
    cases own
    · rfl
    · have h' : pc ≤ 22 := h
      have := (h12 rfl).1
      omega
  have up : ∀ {x : Option RS},Ok x (PG m W.length) → Ok (x.bind fun u1 => some (((),u1.2.1.2.2),u1.2.2)) (PS (m + 1) W.length) := fun h => h.bind fun u gu => Ok.val ⟨SG.mono gu.1 (Nat.le_succ m),gu.2⟩
  unfold spec_l6Step_2
  refine Ok.ite (fun h => up (first2_ok hc hW hg (hno (by omega)) (by omega))) fun _ => Ok.ite (fun h => up (door2_ok hN hc hW hg (hno (by omega)) (by omega))) fun _ => Ok.ite (fun h => ?_) fun _ => Ok.ite (fun h => up (desk2_ok hc hW hg (hno (by omega)) hbz)) fun _ => Ok.ite (fun h => up (watch2_ok hc hW hg (hno (by omega)))) fun _ => Ok.ite (fun h => up (aid2_ok hc hW hg)) fun _ => up (last_ok hW hg)
  exact (inside2_ok hN hm hc hW hg (hno (by omega))).bind fun u gu => Ok.val gu
def WG (m L : Nat) (ws : List Int) (gs : List Gst) : Prop := Words ws ∧ ws.length = L ∧ gs.length ≤ 6 ∧ ∀ i,i < gs.length → SG m (gt gs i)
abbrev RW := (Unit × Unit) × List Int × List Gst
def PW (m L : Nat) (r : RW) : Prop := WG m L r.2.1 r.2.2
theorem WG.mono {m m' L : Nat} {ws : List Int} {gs : List Gst} (h : WG m L ws gs) (hm : m ≤ m') : WG m' L ws gs := ⟨h.1,h.2.1,h.2.2.1,fun i hi => SG.mono (h.2.2.2 i hi) hm⟩
theorem gt_set (gs : List Gst) (i j : Nat) (g : Gst) (hi : i < gs.length) : gt (gs.set i g) j = if j = i then g else gt gs j := by
  unfold gt
  rw [List.getD_eq_getElem?_getD,List.getD_eq_getElem?_getD]
  by_cases e : j = i
  · subst e
    rw [if_pos rfl,List.getElem?_set_self hi]; rfl
  · rw [if_neg e,List.getElem?_set_ne (fun h => e h.symm)]
theorem WG.set {m L : Nat} {ws : List Int} {gs : List Gst} (h : WG m L ws gs) {i : Nat} (hi : i < gs.length) {g : Gst} (hg : SG m g) : WG m L ws (gs.set i g) := by
  refine ⟨h.1,h.2.1,by rw [List.length_set]; exact h.2.2.1,fun j hj => ?_⟩
  rw [List.length_set] at hj
  rw [gt_set gs i j g hi]
  split
  · exact hg
  · exact h.2.2.2 j hj
theorem one2_ok {N m L : Nat} (hN : Fuel N) (hm : m ≤ 1000000) {ws : List Int} {gs : List Gst} (h : WG m L ws gs) {i : Int} (h0 : 0 ≤ i) (hi : i < gs.length) : Ok (spec_l7One_2 N ((),()) i ws gs) (fun r => WG (m + 1) L r.2.1 r.2.2 ∧ r.2.2.length = gs.length) := by
  have hg := h.2.2.2 i.toNat (by omega)
  unfold spec_l7One_2
  rw [spec_PlatCheck_eq N h.1]
  refine Ok.sb (Ok.inb h0 hi ?_)
  simp only [fold_gt]
  cases (gt gs i.toNat).1
  · exact Ok.val ⟨h.mono (Nat.le_succ m),rfl⟩
  rw [Bool.not_true,cond_false]
  cases hbz : (gt gs i.toNat).2.2.2.1
  · exact Ok.val ⟨h.mono (Nat.le_succ m),rfl⟩
  rw [Bool.not_true,cond_false]
  refine (step2_ok hN hm (CP.of ws) h.1 hg hbz).bind fun u2 g2 => Ok.inb h0 hi (Ok.val ⟨?_,List.length_set ..⟩)
  have h' : WG (m + 1) L u2.2 gs := ⟨g2.2.1,by rw [g2.2.2]; exact h.2.1,h.2.2.1,fun j hj => SG.mono (h.2.2.2 j hj) (Nat.le_succ m)⟩
  exact h'.set (by omega) g2.1
theorem tick_ok {N m L : Nat} (hL : 3 ≤ L) {ws : List Int} {gs : List Gst} (h : WG m L ws gs) (n : Int) : Ok (spec_l7Tick N ((),()) n ws gs) (PW m L) := by
  have hl := h.2.1
  unfold spec_l7Tick
  refine Ok.ite (fun _ => Ok.val h) fun _ => Ok.ite (fun _ => Ok.val h) fun _ => Ok.ite (fun _ => (val_ok N (h.1.at 1)).bind fun u1 _ => (low_ok N _ _).bind fun u2 _ => (stamp_ok N (h.1.at 1)).bind fun u3 _ => (cpack_ok N _ _).bind fun u4 g4 => Ok.ite (fun _ => Ok.val ⟨words_set h.1 _ g4,?_,h.2.2⟩) fun c => ?_) fun c => ?_
  · rw [List.length_set]; exact hl
  · exact (c (by omega)).elim
  · exact (c (by omega)).elim
theorem SG.new (m : Nat) (up : Bool) (slot : Int) : SG m (up,slot,0,false,(0,0,0,0),0,0,0,0,0,0,0,false,0,0,0,0,0,[],[],0,0,0) :=
  SG.plain (pc := 0) ⟨nW,nW,zW,zW,zW,zW,Nat.zero_le _,Nat.zero_le _⟩ (.inl (by decide))
theorem WG.add {m L : Nat} {ws : List Int} {gs : List Gst} (h : WG m L ws gs) (h6 : gs.length < 6) {g : Gst} (hg : SG m g) : WG m L ws (gs ++ [g]) := by
  refine ⟨h.1,h.2.1,by rw [List.length_append]; simp; omega,fun j hj => ?_⟩
  rw [List.length_append] at hj
  have hj' : j < gs.length + 1 := by simpa using hj
  unfold gt
  rw [List.getD_eq_getElem?_getD]
  by_cases e : j < gs.length
  · rw [List.getElem?_append_left e]
    have := h.2.2.2 j e
    unfold gt at this
    rwa [List.getD_eq_getElem?_getD] at this
  · rw [List.getElem?_append_right (by omega),show j - gs.length = 0 by omega]
    exact hg
theorem new_ok (N : Nat) (n : Int) : Ok (spec_GuestNew N n) (fun r => ∃ (up : Bool) (slot : Int),r = ((up,slot,0,false,(0,0,0,0),0,0,0,0,0,0,0,false,0,0,0,0,0,(),(),0,0,0),())) := by
  unfold spec_GuestNew
  exact Ok.ite (fun _ => Ok.val ⟨_,_,rfl⟩) fun _ => Ok.ite (fun _ => Ok.val ⟨_,_,rfl⟩) fun _ => Ok.val ⟨_,_,rfl⟩
theorem born_ok {N m L : Nat} {ws : List Int} {gs : List Gst} (h : WG m L ws gs) (n : Int) : Ok (spec_l7Born N ((),()) n ws gs) (PW m L) := by
  unfold spec_l7Born
  rw [spec_PlatCheck_eq N h.1]
  refine Ok.sb (Ok.ite (fun h6 => Ok.ite (fun _ => Ok.ite (fun _ => (new_ok N n).bind fun u2 g2 => ?_) fun _ => Ok.val h) fun _ => Ok.val h) fun _ => Ok.val h)
  obtain ⟨up,slot,rfl⟩ := g2
  exact Ok.ite (fun _ => Ok.val (h.add (by omega) (SG.new m up slot))) fun c => (c (by simp; omega)).elim
abbrev GUU := Bool × Int × Int × Bool × Op × Int × Int × Int × Int × Int × Int × Int × Bool × Int × Int × Int × Int × Int × Unit × Unit × Int × Int × Int
def asA (r : GUU × List Int × List Int) : Gst := (r.1.1,r.1.2.1,r.1.2.2.1,r.1.2.2.2.1,r.1.2.2.2.2.1,r.1.2.2.2.2.2.1,r.1.2.2.2.2.2.2.1,r.1.2.2.2.2.2.2.2.1,r.1.2.2.2.2.2.2.2.2.1,r.1.2.2.2.2.2.2.2.2.2.1,r.1.2.2.2.2.2.2.2.2.2.2.1,r.1.2.2.2.2.2.2.2.2.2.2.2.1,r.1.2.2.2.2.2.2.2.2.2.2.2.2.1,r.1.2.2.2.2.2.2.2.2.2.2.2.2.2.1,r.1.2.2.2.2.2.2.2.2.2.2.2.2.2.2.1,r.1.2.2.2.2.2.2.2.2.2.2.2.2.2.2.2.1,r.1.2.2.2.2.2.2.2.2.2.2.2.2.2.2.2.2.1,r.1.2.2.2.2.2.2.2.2.2.2.2.2.2.2.2.2.2.1,r.2.1,r.2.2,r.1.2.2.2.2.2.2.2.2.2.2.2.2.2.2.2.2.2.2.2.2)
theorem ask_ok {N m : Nat} (hm : m ≤ 1000000) {g : Gst} (hg : SG m g) (op' : Op) : Ok (spec_GuestAsk N g op') (fun r => SG m (asA r)) := by
  obtain ⟨up,slot,epoch,busy,op,pc,k,n,seq,next,who,whoE,own,time,was,door,beat,entry,snap,plan,code,val,cnt⟩ := g
  have hg' := hg
  obtain ⟨hb,h9,h10,h11,h12,h13⟩ := hg
  have hl1 := hb.2.2.2.2.2.2.1
  have hl2 := hb.2.2.2.2.2.2.2
  unfold spec_GuestAsk spec_l6Copy
  dsimp only
  refine Ok.bind (P := fun r => r = ((up,slot,epoch,busy,op,pc,k,n,seq,next,who,whoE,own,time,was,door,beat,entry,(),(),code,val,cnt),(snap,plan))) (Ok.ite (fun _ => Ok.ite (fun _ => Ok.val rfl) fun c => (c (by simp; omega)).elim) fun c => (c (by simp; omega)).elim) fun u1 e1 => ?_
  subst e1
  dsimp only
  cases hup : up
  · exact Ok.val (by rw [hup] at hg'; exact hg')
  rw [Bool.not_true,cond_false]
  cases hbu : busy
  rotate_left
  · exact Ok.val (by rw [hup,hbu] at hg'; exact hg')
  rw [cond_false]
  have ho : own = false := by
    cases own
    · rfl
    · have := (h12 rfl).2
      rw [hbu] at this
      cases this
  subst ho
  refine Ok.ite (fun _ => Ok.val (by rw [hup,hbu] at hg'; exact hg')) fun _ => Ok.ite (fun _ => ?_) fun _ => Ok.ite (fun _ => ?_) fun _ => Ok.beq (fun _ => Ok.ite (fun _ => ?_) fun _ => ?_) fun _ => ?_
  · refine (answer_ok N _ _ _).bind fun y hy => ?_
    obtain ⟨e,n',rfl⟩ := hy
    exact Ok.val (SG.ans m true slot e _ _ _ _)
  · refine (answer_ok N _ _ _).bind fun y hy => ?_
    obtain ⟨e,n',rfl⟩ := hy
    exact Ok.val (SG.ans m true slot e _ _ _ _)
  · refine (answer_ok N _ _ _).bind fun y hy => ?_
    obtain ⟨e,n',rfl⟩ := hy
    exact Ok.val (SG.ans m true slot e _ _ _ _)
  · rw [cndn]
    by_cases q : op'.1 = 1
    · rw [if_pos q]
      exact Ok.beq (fun _ => Ok.val (SG.plain (pc := 4) hb (.inl (by decide)))) fun _ => Ok.val (SG.plain (pc := 1) hb (.inl (by decide)))
    · rw [if_neg q]
      refine Ok.beq (fun _ => ?_) fun _ => Ok.beq (fun _ => Ok.val (SG.plain (pc := 4) hb (.inl (by decide)))) fun _ => Ok.val (SG.plain (pc := 1) hb (.inl (by decide)))
      refine (answer_ok N _ _ _).bind fun y hy => ?_
      obtain ⟨e,n',rfl⟩ := hy
      exact Ok.val (SG.ans m true slot e _ _ _ _)
  · rw [cndn]
    by_cases q : op'.1 = 1
    · rw [if_pos q]
      exact Ok.beq (fun _ => Ok.val (SG.plain (pc := 4) hb (.inl (by decide)))) fun _ => Ok.val (SG.plain (pc := 1) hb (.inl (by decide)))
    · rw [if_neg q]
      refine Ok.beq (fun _ => ?_) fun _ => Ok.beq (fun _ => Ok.val (SG.plain (pc := 4) hb (.inl (by decide)))) fun _ => Ok.val (SG.plain (pc := 1) hb (.inl (by decide)))
      refine (answer_ok N _ _ _).bind fun y hy => ?_
      obtain ⟨e,n',rfl⟩ := hy
      exact Ok.val (SG.ans m true slot e _ _ _ _)
theorem dies_ok {m : Nat} {g : Gst} (h : SG m g) : SG m (false,g.2) := by
  obtain ⟨up,slot,epoch,busy,op,pc,k,n,seq,next,who,whoE,own,time,was,door,beat,entry,snap,plan,code,val,cnt⟩ := g
  exact h
abbrev Evt := Int × Int × Int × Int × Int × Int
theorem steps_ok {N m L : Nat} (hN : Fuel N) (hm : m ≤ 800000) {e : Evt} (h0 : 0 ≤ e.2.1) : ∀ (d v k : Nat) (ws : List Int) (gs : List Gst),v + d = 400 → d < k → WG (m + v) L ws gs → e.2.1 < gs.length → Ok (spec_l7Do.l0 N k (v : Nat) ((),()) e ((),()) ws gs) (PW (m + 400) L)
  | 0,v,k,ws,gs,hv,hk,h,hi => by
    obtain ⟨k,rfl⟩ := fuel hk
    rw [spec_l7Do.l0]
    have hW : PW (m + 400) L (((),()),(ws,gs)) := h.mono (by omega)
    exact Ok.ite (fun _ => Ok.ite (fun c => by omega) fun _ => Ok.val hW) fun _ => Ok.val hW
  | d + 1,v,k,ws,gs,hv,hk,h,hi => by
    obtain ⟨k,rfl⟩ := fuel hk
    rw [spec_l7Do.l0]
    have hW : PW (m + 400) L (((),()),(ws,gs)) := h.mono (by omega)
    refine Ok.ite (fun _ => Ok.ite (fun _ => (one2_ok hN (by omega) h h0 hi).bind fun u4 g4 => ?_) fun _ => Ok.val hW) fun _ => Ok.val hW
    rw [w64 (n := (v : Int) + 1) (by omega) (by omega),show (v : Int) + 1 = ((v + 1 : Nat) : Int) by omega]
    exact steps_ok hN hm h0 d (v + 1) k _ _ (by omega) (by omega) g4.1 (by rw [g4.2]; exact hi)
theorem wdo_ok {N m L : Nat} (hN : Fuel N) (hm : m ≤ 800000) (hL : 3 ≤ L) {ws : List Int} {gs : List Gst} (h : WG m L ws gs) (e : Evt) : Ok (spec_l7Do N ((),()) e ws gs) (PW (m + 400) L) := by
  have hW : PW (m + 400) L (((),()),(ws,gs)) := h.mono (by omega)
  unfold spec_l7Do
  refine Ok.beq (fun _ => (born_ok h _).bind fun u g => Ok.val (WG.mono g (by omega))) fun _ => Ok.beq (fun _ => (tick_ok hL h _).bind fun u g => Ok.val (WG.mono g (by omega))) fun _ => Ok.ite (fun _ => Ok.val hW) fun c1 => Ok.ite (fun _ => Ok.val hW) fun c2 => Ok.beq (fun _ => Ok.inb (by omega) (by omega) (Ok.val ?_)) fun _ => Ok.beq (fun _ => Ok.inb (by omega) (by omega) ?_) fun _ => Ok.beq (fun _ => ?_) fun _ => Ok.val hW
  · have := h.set (i := e.2.1.toNat) (by omega) (dies_ok (h.2.2.2 e.2.1.toNat (by omega)))
    exact WG.mono this (by omega)
  · refine (ask_ok (by omega) (h.2.2.2 e.2.1.toNat (by omega)) _).bind fun u g => Ok.inb (by omega) (by omega) (Ok.val ?_)
    have := h.set (i := e.2.1.toNat) (by omega) g
    exact WG.mono this (by omega)
  · exact steps_ok hN hm (by omega) 400 0 N ws gs (by omega) (by unfold Fuel at hN; omega) h (by omega)
theorem Ok.ctt {α : Type _} {x y : Option α} {P : α → Prop} (h : Ok x P) : Ok (cond true x y) P := h
theorem Ok.cff {α : Type _} {x y : Option α} {P : α → Prop} (h : Ok y P) : Ok (cond false x y) P := h
abbrev RE := Evt × St
theorem sl6_ok {N k j : Nat} {v : Int} {z : St} (hz : Rd (j + 5) z) (e : Evt) (g h : Gst) : Ok (spec_l7Sleepy.l6 N (k + 1 + 1) v z e g h) (fun r => Rd j r.2) := by
  rw [spec_l7Sleepy.l6]
  have f8 : ∀ x (z' : St),Rd j z' → Ok (spec_l7Sleepy.l8 N (k + 1) x z') (fun r => Rd j r.2) := fun x z' hz' => by rw [spec_l7Sleepy.l8]; exact Ok.val hz'
  have f7 : ∀ x (z' : St),Rd j z' → Ok (spec_l7Sleepy.l7 N (k + 1) x z') (fun r => Rd j r.2) := fun x z' hz' => by rw [spec_l7Sleepy.l7]; exact Ok.val hz'
  have f9 : ∀ x (z' : St),Rd j z' → Ok (spec_l7Sleepy.l9 N (k + 1) x z') (fun r => Rd j r.2) := fun x z' hz' => by rw [spec_l7Sleepy.l9]; exact Ok.val hz'
  have f10 : ∀ x (z' : St),Rd j z' → Ok (spec_l7Sleepy.l10 N (k + 1) x z') (fun r => Rd j r.2) := fun x z' hz' => by rw [spec_l7Sleepy.l10]; exact Ok.val hz'
  cases h.2.2.2.1
  · refine Ok.cff (Ok.beq (fun _ => f8 _ _ (hz.mono (by omega))) fun _ => ?_)
    rw [cndn]
    split
    · exact (pick_ok (k := j + 4) hz).bind fun u gu => f10 _ _ (gu.2.2.mono (by omega))
    · exact (pick_ok (k := j + 4) hz).bind fun u gu => Ok.beq (fun _ => f9 _ _ (gu.2.2.mono (by omega))) fun _ => (pick_ok (k := j + 3) gu.2.2).bind fun u2 gu2 => f10 _ _ (gu2.2.2.mono (by omega))
  · exact Ok.ctt ((num_ok (k := j + 4) (by simp) hz).bind fun u gu => f7 _ _ (gu.2.mono (by omega)))
theorem sl1_ok {N k j : Nat} {ws : List Int} {gs : List Gst} {v2 : Int} {z : St} (hz : Rd (j + 10) z) (hgs : 0 < gs.length) (hg6 : gs.length ≤ 6) (e : Evt) (g : Gst) : Ok (spec_l7Sleepy.l1 N (k + 1 + 1 + 1) v2 (gs.length : Int) z (ws,gs) e g) (fun r => Rd j r.2) := by
  rw [spec_l7Sleepy.l1]
  have E2 : ∀ z : St,Rd (j + 9) z → Ok ((lh_spec_l20Rd_pick N 3 z).bind fun u => spec_l7Sleepy.l2 N (k + 1 + 1) (5,0,IntKind.i64.wrap (2 + u.1),0,0,0) u.2) (fun r => Rd j r.2) := fun z h => (pick_ok (k := j + 8) h).bind fun u gu => by rw [spec_l7Sleepy.l2]; exact Ok.val (gu.2.2.mono (by omega))
  have E3 : ∀ z : St,Rd (j + 9) z → Ok (spec_l7Sleepy.l3 N (k + 1 + 1) (1,0,g.2.1,0,0,0) z) (fun r => Rd j r.2) := fun z h => by rw [spec_l7Sleepy.l3]; exact Ok.val (h.mono (by omega))
  have E4 : ∀ z : St,Rd (j + 9) z → Ok ((lh_spec_l20Rd_pick N 2 z).bind fun u => spec_l7Sleepy.l4 N (k + 1 + 1) (4,v2,IntKind.i64.wrap (1 + u.1),0,0,0) u.2) (fun r => Rd j r.2) := fun z h => (pick_ok (k := j + 8) h).bind fun u gu => by rw [spec_l7Sleepy.l4]; exact Ok.val (gu.2.2.mono (by omega))
  have E5 : ∀ z : St,Rd (j + 9) z → Ok ((lh_spec_l20Rd_num N ([1,5,20,33,34,36]) z).bind fun u => spec_l7Sleepy.l5 N (k + 1 + 1) (4,v2,u.1,0,0,0) u.2) (fun r => Rd j r.2) := fun z h => (num_ok (k := j + 8) (by simp) h).bind fun u gu => by rw [spec_l7Sleepy.l5]; exact Ok.val (gu.2.mono (by omega))
  have EB : ∀ z : St,Rd (j + 9) z → Ok ((lh_spec_l20Rd_pick N (gs.length : Int) z).bind fun u => (bif (u.1 == v2) then (bif g.2.2.2.1 then (bif decide ((gs.length : Int) = 0) then none else (bif (bif decide (0 ≤ Int.tmod (IntKind.i64.wrap (u.1 + 1)) (gs.length : Int)) then decide (Int.tmod (IntKind.i64.wrap (u.1 + 1)) (gs.length : Int) < (gs.length : Int)) else false) then spec_l7Sleepy.l6 N (k + 1 + 1) (Int.tmod (IntKind.i64.wrap (u.1 + 1)) (gs.length : Int)) u.2 e g (gs.getD (Int.tmod (IntKind.i64.wrap (u.1 + 1)) (gs.length : Int)).toNat gst0) else none)) else (bif (bif decide (0 ≤ u.1) then decide (u.1 < (gs.length : Int)) else false) then spec_l7Sleepy.l6 N (k + 1 + 1) u.1 u.2 e g (gs.getD u.1.toNat gst0) else none)) else (bif (bif decide (0 ≤ u.1) then decide (u.1 < (gs.length : Int)) else false) then spec_l7Sleepy.l6 N (k + 1 + 1) u.1 u.2 e g (gs.getD u.1.toNat gst0) else none))) (fun r => Rd j r.2) := fun z h => (pick_ok (k := j + 8) h).bind fun u gu => by
    have hu : 0 ≤ u.1 ∧ u.1 < gs.length := ⟨gu.1,by rcases gu.2.1 with q | q <;> omega⟩
    have hd := gu.2.2.mono (j := j + 5) (by omega)
    refine Ok.beq (fun _ => ?_) fun _ => Ok.inb hu.1 hu.2 (sl6_ok hd _ _ _)
    cases g.2.2.2.1
    · exact Ok.cff (Ok.inb hu.1 hu.2 (sl6_ok hd _ _ _))
    · refine Ok.ctt (Ok.ite (fun c => by omega) fun _ => ?_)
      have hw : IntKind.i64.wrap (u.1 + 1) = u.1 + 1 := w64 (by omega) (by omega)
      rw [hw,tm (by omega)]
      exact Ok.inb (Int.emod_nonneg _ (by omega)) (Int.emod_lt_of_pos _ (by omega)) (sl6_ok hd _ _ _)
  have hfirst : ∀ {f : Int × St → Option RE},(∀ u : Int × St,Rd (j + 9) u.2 → Ok (f u) (fun r => Rd j r.2)) → Ok ((lh_spec_l20Rd_pick N 8 z).bind f) (fun r => Rd j r.2) := fun hf => (pick_ok (k := j + 9) hz).bind fun u gu => hf u gu.2.2
  cases hbz : g.2.2.2.1
  all_goals
    (rw [hbz] at EB
     repeat' (first
      | (refine hfirst fun u gu => ?_)
      | exact E2 _ (by assumption) | exact E3 _ (by assumption) | exact E4 _ (by assumption) | exact E5 _ (by assumption) | exact EB _ (by assumption)
      | refine Ok.ctt ?_ | refine Ok.cff ?_
      | refine Ok.beq (fun _ => ?_) fun _ => ?_
      | refine Ok.ite (fun _ => ?_) fun _ => ?_))
theorem sleepy_ok {N j : Nat} (hN : Fuel N) {ws : List Int} {gs : List Gst} (hg6 : gs.length ≤ 6) {v : Int} (hv : 0 ≤ v) {z : St} (hz : Rd (j + 10) z) : Ok (spec_l7Sleepy N (ws,gs) v z) (fun r => Rd j r.2) := by
  obtain ⟨K,hK⟩ : ∃ K,N = K + 1 + 1 + 1 := ⟨N - 3,by unfold Fuel at hN; omega⟩
  unfold spec_l7Sleepy
  refine Ok.ite (fun _ => (pick_ok (k := j + 9) hz).bind fun u gu => ?_) fun c => Ok.inb hv (by show v < (gs.length : Int); have : ¬ (gs.length : Int) ≤ v := c; omega) ?_
  · have : ∀ k,Ok (spec_l7Sleepy.l0 N (k + 1) (1,0,u.1,0,0,0) u.2) (fun r => Rd j r.2) := fun k => by rw [spec_l7Sleepy.l0]; exact Ok.val (gu.2.2.mono (by omega))
    have h2 := this (K + 1 + 1)
    rw [← hK] at h2
    exact h2
  · have c' : ¬ (gs.length : Int) ≤ v := c
    have h2 := sl1_ok (N := N) (k := K) (j := j) (ws := ws) (gs := gs) (v2 := v) hz (by omega) hg6 (0,0,0,0,0,0) (gs.getD v.toNat gst0)
    rw [← hK] at h2
    exact h2
theorem censP_no {c : Cfg} {v : Nat → Int} (h : (censP c v).2 = false) : (censP c v).1 = bk0 := by
  unfold censP at h ⊢
  split
  · rename_i g
    rw [if_pos g] at h; cases h
  · rfl
theorem censBook_no {w : List Int} (h : (censBook w).2 = false) : (censBook w).1 = bk0 := by
  unfold censBook at h ⊢
  by_cases g : Laid w
  · rw [if_pos g] at h ⊢; exact censP_no h
  · rw [if_neg g]
theorem worldBook_no {w : Wld} (h : (worldBook w).2 = false) : (worldBook w).1 = bk0 := by
  unfold worldBook censTrue at h ⊢
  cases hk : worldOk w
  · rfl
  rw [hk,cond_true] at h
  rw [cond_true]
  by_cases g : Whole w.1
  · rw [if_pos g] at h ⊢; exact censBook_no h
  · rw [if_neg g]
theorem worldBook_bd (w : Wld) : Bd (worldBook w).1 ∧ ((worldBook w).1.2.2.2.1.length > 0 → WorldP w) := by
  cases hk : (worldBook w).2
  · rw [worldBook_no hk]
    exact ⟨bk0_bd,fun h => absurd h (by decide)⟩
  · exact ⟨(worldBook_ok hk).bd,fun _ => worldBook_world hk⟩
theorem event_ok {N m L j : Nat} (hN : Fuel N) (hL : L ≤ 1000) {ws : List Int} {gs : List Gst} (h : WG m L ws gs) {z : St} (hz : Rd (j + 40) z) : Ok (spec_l7Event N (ws,gs) z) (fun r => Rd j r.2) := by
  have hsw : Short ws := by have := h.2.1; unfold Short; omega
  unfold spec_l7Event
  refine Ok.beq (fun _ => (pick_ok (k := j + 39) hz).bind fun u1 g1 => Ok.val (g1.2.2.mono (by omega))) fun h0 => (pick_ok (k := j + 39) hz).bind fun u2 g2 => Ok.beq (fun _ => (pick_ok (k := j + 38) g2.2.2).bind fun u3 g3 => Ok.val (g3.2.2.mono (by omega))) fun _ => (pick_ok (k := j + 38) g2.2.2).bind fun u4 g4 => (pick_ok (k := j + 37) g4.2.2).bind fun u5 g5 => ?_
  have h0' : ¬ (gs.length : Int) = 0 := h0
  have hi : 0 ≤ u4.1 ∧ u4.1 < gs.length := ⟨g4.1,by rcases g4.2.1 with q | q <;> omega⟩
  have hr := g5.2.2
  refine Ok.beq (fun _ => Ok.val (hr.mono (by omega))) fun _ => Ok.beq (fun _ => (pick_ok (k := j + 36) hr).bind fun u6 g6 => Ok.val (g6.2.2.mono (by omega))) fun _ => Ok.beq (fun _ => ?_) fun _ => Ok.inb hi.1 hi.2 ?_
  · exact (pick_ok (k := j + 36) hr).bind fun u7 g7 => (pick_ok (k := j + 35) g7.2.2).bind fun u8 g8 => (pick_ok (k := j + 34) g8.2.2).bind fun u9 g9 => (pick_ok (k := j + 33) g9.2.2).bind fun u10 g10 => (pick_ok (k := j + 32) g10.2.2).bind fun u11 g11 => (pick_ok (k := j + 31) g11.2.2).bind fun u12 g12 => Ok.val (g12.2.2.mono (by omega))
  simp only [fold_gt]
  cases (gt gs u4.1.toNat).2.2.2.1
  rotate_left
  · exact Ok.ctt ((num_ok (k := j + 36) (by simp) hr).bind fun u13 g13 => Ok.val (g13.2.mono (by omega)))
  refine Ok.cff (Ok.beq (fun _ => Ok.val (hr.mono (by omega))) fun _ => ?_)
  obtain ⟨hbd,hwp⟩ := worldBook_bd (ws,gs)
  rw [spec_WorldBook_eq N hN (ws,gs) h.1 hsw]
  refine Ok.sb ((l3Op_ok (j := j + 20) hN (b := ((worldBook (ws,gs)).1.1,(worldBook (ws,gs)).1.2.1,((worldBook (ws,gs)).1.2.2.1.1,(worldBook (ws,gs)).1.2.2.1.2.1,(worldBook (ws,gs)).1.2.2.1.2.2.1,(worldBook (ws,gs)).1.2.2.1.2.2.2),(worldBook (ws,gs)).1.2.2.2.1,(worldBook (ws,gs)).1.2.2.2.2.1,(worldBook (ws,gs)).1.2.2.2.2.2)) hbd (hr.mono (by omega))).bind fun u15 g15 => (pick_ok (k := j + 19) g15.2).bind fun u16 g16 => ?_)
  have T : ∀ (x : Int) (z : St),Rd (j + 15) z → Ok (bif (u15.1.1 == 2) then (lh_spec_l20Rd_num N ([1,1,2,2,3,4,5,8,9,16,24]) z).bind fun u19 => (bif (u15.1.1 == 6) then (lh_spec_l20Rd_pick N 3 u19.2).bind fun u20 => some (((3,u4.1,0,u15.1.1,u20.1,u15.1.2.2.2) : Evt),u20.2) else some ((3,u4.1,0,u15.1.1,u19.1,u15.1.2.2.2),u19.2)) else (bif (u15.1.1 == 6) then (lh_spec_l20Rd_pick N 3 z).bind fun u21 => some ((3,u4.1,0,u15.1.1,u21.1,u15.1.2.2.2),u21.2) else some ((3,u4.1,0,u15.1.1,x,u15.1.2.2.2),z))) (fun r => Rd j r.2) := fun x z hz =>
    Ok.beq (fun _ => (num_ok (k := j + 14) (by simp) hz).bind fun u19 g19 => Ok.beq (fun _ => (pick_ok (k := j + 13) g19.2).bind fun u20 g20 => Ok.val (g20.2.2.mono (by omega))) fun _ => Ok.val (g19.2.mono (by omega))) fun _ => Ok.beq (fun _ => (pick_ok (k := j + 14) hz).bind fun u21 g21 => Ok.val (g21.2.2.mono (by omega))) fun _ => Ok.val (hz.mono (by omega))
  have h16 := g16.2.2.mono (j := j + 15) (by omega)
  refine Ok.ite (fun _ => Ok.ite (fun hpos => ?_) fun _ => T _ _ h16) fun _ => T _ _ h16
  have hpos' : (worldBook (ws,gs)).1.2.2.2.1.length > 0 := by
    have hp : ((worldBook (ws,gs)).1.2.2.2.1.length : Int) > 0 := hpos
    omega
  have hW := hwp hpos'
  have hsl := GuestP.slot (hW.2.2 u4.1.toNat (by show u4.1.toNat < gs.length; omega))
  have hp : Plat (wcfg ws) := hW.1.plat
  unfold Plat at hp
  have hsl' : 0 ≤ (gt gs u4.1.toNat).2.1 ∧ (gt gs u4.1.toNat).2.1 < (wcfg ws).1 := hsl
  have hof : spec_BookOf N ((worldBook (ws,gs)).1.1,(worldBook (ws,gs)).1.2.1,((worldBook (ws,gs)).1.2.2.1.1,(worldBook (ws,gs)).1.2.2.1.2.1,(worldBook (ws,gs)).1.2.2.1.2.2.1,(worldBook (ws,gs)).1.2.2.1.2.2.2),(worldBook (ws,gs)).1.2.2.2.1,(worldBook (ws,gs)).1.2.2.2.2.1,(worldBook (ws,gs)).1.2.2.2.2.2) (gt gs u4.1.toNat).2.1 = some ((),bookOf (worldBook (ws,gs)).1 (gt gs u4.1.toNat).2.1) := spec_BookOf_eq N hN _ hbd.ints hbd.short _ (by omega)
  rw [hof]
  refine Ok.sb (Ok.ite (fun hlen => (pick_ok (k := j + 18) g16.2.2).bind fun u18 g18 => ?_) fun _ => T _ _ h16)
  have hlen' : ((bookOf (worldBook (ws,gs)).1 (gt gs u4.1.toNat).2.1).length : Int) > 0 := hlen
  have g18' : 0 ≤ u18.1 ∧ (u18.1 < (bookOf (worldBook (ws,gs)).1 (gt gs u4.1.toNat).2.1).length ∨ u18.1 = 0) := ⟨g18.1,g18.2.1⟩
  exact Ok.inb g18.1 (by show u18.1 < ((bookOf (worldBook (ws,gs)).1 (gt gs u4.1.toNat).2.1).length : Int); omega) (T _ _ (g18.2.2.mono (by omega)))
abbrev RP := ((Unit × Unit) × Unit) × List Int × List Gst × List Evt × St
def PP (m L j : Nat) (r : RP) : Prop := WG m L r.2.1 r.2.2.1 ∧ Rd j r.2.2.2.2
theorem play_l1 {N L j : Nat} (hN : Fuel N) (hL : 3 ≤ L) (hL2 : L ≤ 1000) {c : Cfg} (hc : c.1 ≤ 10) {v : Int} (hv : 0 ≤ v) (n : Nat) (hn : n ≤ 100) : ∀ (d i k m : Nat) (z : St) (es : List Evt) (ws : List Int) (gs : List Gst),i + d = n → d < k → m + 400 * d ≤ 800000 → Rd (j + 60 * d) z → es.length ≤ 200 + i → WG m L ws gs →
    Ok (spec_l7Play.l1 N k (n : Nat) v (i : Nat) z ((),()) c ((),()) es ws gs) (PP (m + 400 * d) L j)
  | 0,i,k,m,z,es,ws,gs,e,hk,hm,hz,he,h => by
    obtain ⟨k,rfl⟩ := fuel hk
    rw [spec_l7Play.l1]
    exact Ok.ite (fun c => by omega) fun _ => Ok.val ⟨h,hz⟩
  | d + 1,i,k,m,z,es,ws,gs,e,hk,hm,hz,he,h => by
    obtain ⟨k,rfl⟩ := fuel hk
    have ih := fun z es ws gs h1 h2 h3 => play_l1 (j := j) hN hL hL2 hc hv n hn d (i + 1) k (m + 400) z es ws gs (by omega) (by omega) (by omega) h1 h2 h3
    have step : ∀ (ev : Evt) (z' : St),Rd (j + 60 * d) z' → Ok (bif decide (es.length + ([ev]).length ≤ 2932031007402) then (spec_l7Do N ((),()) ev ws gs).bind fun u8 => spec_l7Play.l1 N k (n : Nat) v (IntKind.i64.wrap ((i : Int) + 1)) z' ((),()) c ((),()) (es ++ ([ev])) u8.2.1 u8.2.2 else none) (PP (m + 400 * (d + 1)) L j) := fun ev z' hz' => by
      refine Ok.ite (fun _ => (wdo_ok hN (by omega) hL h ev).bind fun u8 g8 => ?_) fun c => (c (by simp; omega)).elim
      rw [w64 (n := (i : Int) + 1) (by omega) (by omega),show (i : Int) + 1 = ((i + 1 : Nat) : Int) by omega]
      have := ih z' (es ++ [ev]) u8.2.1 u8.2.2 hz' (by rw [List.length_append]; simp; omega) g8
      rwa [show m + 400 + 400 * d = m + 400 * (d + 1) by omega] at this
    rw [spec_l7Play.l1]
    refine Ok.ite (fun _ => (event_ok (j := j + 60 * d + 20) hN hL2 h (hz.mono (by omega))).bind fun u5 g5 => ?_) fun c => by omega
    refine Ok.ite (fun _ => Ok.ite (fun _ => (pick_ok (k := j + 60 * d + 19) g5).bind fun u6 g6 => Ok.ite (fun _ => ?_) fun _ => step _ _ (g6.2.2.mono (by omega))) fun _ => step _ _ (g5.mono (by omega))) fun _ => step _ _ (g5.mono (by omega))
    exact (sleepy_ok (j := j + 60 * d) hN h.2.2.1 hv (g6.2.2.mono (by omega))).bind fun u7 g7 => step _ _ g7
theorem play_l0 {N L j : Nat} (hN : Fuel N) (hL : 3 ≤ L) (hL2 : L ≤ 1000) {c : Cfg} (hc : 0 ≤ c.1 ∧ c.1 ≤ 10) (n : Nat) (hn : n ≤ 100) : ∀ (d i k m : Nat) (z : St) (es : List Evt) (ws : List Int) (gs : List Gst),(i : Int) + d = c.1 → d + n + 10 < k → m + 400 * d + 400 * n ≤ 800000 → Rd (j + 60 * n + 1) z → es.length = i → WG m L ws gs →
    Ok (spec_l7Play.l0 N k (n : Nat) (i : Nat) z ((),()) c ((),()) es ws gs) (PP (m + 400 * d + 400 * n) L j)
  | 0,i,k,m,z,es,ws,gs,e,hk,hm,hz,he,h => by
    obtain ⟨k,rfl⟩ := fuel hk
    rw [spec_l7Play.l0]
    refine Ok.ite (fun c => by omega) fun _ => (pick_ok (k := j + 60 * n) hz).bind fun u4 g4 => ?_
    exact play_l1 hN hL hL2 hc.2 g4.1 n hn n 0 k m u4.2 es ws gs (by omega) (by omega) (by omega) g4.2.2 (by omega) h
  | d + 1,i,k,m,z,es,ws,gs,e,hk,hm,hz,he,h => by
    obtain ⟨k,rfl⟩ := fuel hk
    rw [spec_l7Play.l0]
    refine Ok.ite (fun _ => Ok.ite (fun _ => Ok.inb (by omega) (by rw [List.length_append]; simp; omega) ((wdo_ok hN (by omega) hL h _).bind fun u3 g3 => ?_)) fun c => (c (by simp; omega)).elim) fun c => by omega
    rw [w64 (n := (i : Int) + 1) (by omega) (by omega),show (i : Int) + 1 = ((i + 1 : Nat) : Int) by omega]
    have := play_l0 (j := j) hN hL hL2 hc n hn d (i + 1) k (m + 400) z (es ++ [(1,0,(i : Int),0,0,0)]) u3.2.1 u3.2.2 (by omega) (by omega) (by omega) hz (by rw [List.length_append]; simp; omega) g3
    rwa [show m + 400 + 400 * d + 400 * n = m + 400 * (d + 1) + 400 * n by omega] at this
def WP (r : (Unit × Unit) × List Int × List Gst × St) (j : Nat) : Prop := ∃ L,30 ≤ L ∧ L ≤ 1000 ∧ WG 100000 L r.2.1 r.2.2.1 ∧ Rd j r.2.2.2
theorem world_ok {N j : Nat} (hN : Fuel N) {z : St} (hz : Rd (j + 7000) z) : Ok (spec_l7World N z) (fun r => WP r j) := by
  unfold spec_l7World
  refine (numin_ok (a := 0) (c := 60) (k := j + 6999) (by simp) (allin (by decide)) hz).bind fun u1 g1 => ?_
  have hplay : Ok (spec_l7Play N u1.1 u1.2) (fun r => ∃ L,30 ≤ L ∧ L ≤ 1000 ∧ PP 100000 L j r) := by
    unfold spec_l7Play
    refine (l2Cfg_ok (k := j + 6900) (g1.2.mono (by omega))).bind fun u2 g2 => ?_
    have hp := cfg_plat ⟨g2.1,g2.2.1,g2.2.2.1⟩
    have hf := formP_hw hp
    obtain ⟨l1,l2,l3,l4,l5⟩ := hf.len hp
    unfold spec_WorldOpen
    rw [spec_PlatFormat_eq N hp]
    refine Ok.sb (Ok.sb ?_)
    obtain ⟨n,hn⟩ : ∃ n : Nat,u1.1 = n := ⟨u1.1.toNat,by omega⟩
    rw [hn]
    have h0 : WG 0 (formP u2.1).length (formP u2.1) [] := ⟨hf.1,rfl,by simp,fun i hi => by simp at hi⟩
    have := play_l0 (j := j) hN (L := (formP u2.1).length) (by omega) l3 (c := u2.1) (by omega) n (by omega) u2.1.1.toNat 0 N 0 u2.2 [] (formP u2.1) [] (by omega) (by unfold Fuel at hN; omega) (by omega) (g2.2.2.2.mono (by omega)) rfl h0
    exact this.of fun r hr => ⟨(formP u2.1).length,by omega,l3,WG.mono hr.1 (by omega),hr.2⟩
  refine hplay.bind fun u2 g2 => ?_
  obtain ⟨L,h1,h2,h3,h4⟩ := g2
  exact Ok.val ⟨L,h1,h2,h3,h4⟩
theorem bent_ok {N j : Nat} (hN : Fuel N) {z : St} (hz : Rd (j + 8000) z) : Ok (spec_l7Bent N z) (fun r => Words r.2.1 ∧ r.2.1.length ≤ 1001 ∧ Rd j r.2.2.2) := by
  unfold spec_l7Bent
  refine (world_ok (j := j + 1000) hN (hz.mono (by omega))).bind fun u1 g1 => ?_
  obtain ⟨L,q1,q2,q3,q4⟩ := g1
  have hw := q3.1
  have hl := q3.2.1
  have hg := q3.2.2.1
  refine (pick_ok (k := j + 999) q4).bind fun u2 g2 => ?_
  have hv : ∀ (gs : List Gst) (z : St),Rd (j + 900) z → Ok (some ((((),()) : Unit × Unit),(u1.2.1,gs,z))) (fun r => Words r.2.1 ∧ r.2.1.length ≤ 1001 ∧ Rd j r.2.2.2) := fun gs z hz => Ok.val ⟨hw,by show u1.2.1.length ≤ 1001; omega,hz.mono (by omega)⟩
  refine Ok.beq (fun _ => Ok.ite (fun _ => Ok.val ⟨fun x hx => ?_,?_,g2.2.2.mono (by omega)⟩) fun c => (c (by simp; omega)).elim) fun _ => Ok.beq (fun _ => ?_) fun _ => Ok.beq (fun _ => Ok.ite (fun _ => hv _ _ (g2.2.2.mono (by omega))) fun c => (c (by simp; omega)).elim) fun _ => Ok.beq (fun _ => Ok.ite (fun h1 => (pick_ok (k := j + 998) g2.2.2).bind fun u7 g7 => Ok.ite (fun _ => hv _ _ (g7.2.2.mono (by omega))) fun c => (c (by omega)).elim) fun _ => hv _ _ (g2.2.2.mono (by omega))) fun _ => Ok.beq (fun _ => Ok.ite (fun h1 => (pick_ok (k := j + 998) g2.2.2).bind fun u7 g7 => Ok.ite (fun _ => hv _ _ (g7.2.2.mono (by omega))) fun c => (c (by omega)).elim) fun _ => hv _ _ (g2.2.2.mono (by omega))) fun _ => hv _ _ (g2.2.2.mono (by omega))
  · rcases List.mem_append.1 hx with q | q
    · exact hw x q
    · rw [List.mem_singleton.1 q]; exact zW
  · show (u1.2.1 ++ [0]).length ≤ 1001
    rw [List.length_append]; simp; omega
  · refine (pick_ok (k := j + 998) g2.2.2).bind fun u3 g3 => (pick_ok (k := j + 997) g3.2.2).bind fun u4 g4 => (pick_ok (k := j + 996) g4.2.2).bind fun u5 g5 => (cpack_ok N _ _).bind fun u6 g6 => Ok.inb g3.1 (by have := g3.2.1; omega) (Ok.val ⟨words_set hw _ g6,?_,g5.2.2.mono (by omega)⟩)
    show (u1.2.1.set _ _).length ≤ 1001
    rw [List.length_set]; omega
theorem term_l0 {N : Nat} {w : List Int} (hw : Words w) : ∀ (d i k : Nat) (s : Int),i + d = 3 → d < k → ∃ s',spec_DrawTermLeft.l0 N k s (i : Nat) w = some (((),s'),w)
  | 0,i,k,s,e,hk => by
    obtain ⟨k,rfl⟩ := fuel hk
    exact ⟨s,by rw [spec_DrawTermLeft.l0,cf (by omega)]⟩
  | d + 1,i,k,s,e,hk => by
    obtain ⟨k,rfl⟩ := fuel hk
    rw [spec_DrawTermLeft.l0,ct (by omega),w64 (n := (i : Int) + 1) (by omega) (by omega),show (i : Int) + 1 = ((i + 1 : Nat) : Int) by omega]
    obtain ⟨s1,h1⟩ := term_l0 hw d (i + 1) k (i : Nat) (by omega) (by omega)
    obtain ⟨s2,h2⟩ := term_l0 hw d (i + 1) k s (by omega) (by omega)
    rw [h1,h2]
    by_cases h : HasSlot w s
    · rw [spec_l11Slot_yes N hw h]
      simp only [Ob]
      rw [cndn]
      split
      · exact ⟨_,rfl⟩
      · exact ⟨_,rfl⟩
    · obtain ⟨c,e2⟩ := spec_l11Slot_no N hw h
      rw [e2]
      simp only [Ob]
      rw [cndn]
      split
      · exact ⟨_,rfl⟩
      · exact ⟨_,rfl⟩
theorem draw_term {N : Nat} (hN : Fuel N) {code : List Int} (hc : ∀ x ∈ code,0 ≤ x ∧ x ≤ 255) : ∃ (w : List Int) (s : Int),spec_DrawTermLeft N code = some (((),s),w) ∧ Words w ∧ w.length ≤ 1001 := by
  have : Ok (spec_DrawTermLeft N code) (fun r => Words r.2 ∧ r.2.length ≤ 1001) := by
    unfold spec_DrawTermLeft
    refine (open_ok hc).bind fun u1 g1 => (bent_ok (j := 1000) hN (g1.mono (by omega))).bind fun u2 g2 => (pick_ok (k := 999) g2.2.2).bind fun u3 g3 => ?_
    obtain ⟨s',e⟩ := term_l0 (N := N) g2.1 3 0 N (IntKind.i64.wrap (u3.1 - 1)) (by omega) (by unfold Fuel at hN; omega)
    rw [show ((0 : Nat) : Int) = 0 from rfl] at e
    rw [e]
    exact Ok.val ⟨g2.1,g2.2.1⟩
  obtain ⟨r,e,g⟩ := this
  exact ⟨r.2,r.1.2,e,g.1,g.2⟩
theorem impl_Reg_eq (N : Nat) {c : Cfg} (h : Plat c) {s : Int} (hs : 0 ≤ s ∧ s < c.1) : impl_PlatReg N c s = some (3 + s,()) := by
  have h' := h
  unfold Plat at h'
  unfold impl_PlatReg impl_place_2 impl_PlatCfg_slots
  rw [impl_PlatOk_eq,dt h]
  simp only [Ob]
  rw [Bool.not_true,cond_false,impl_within_eq,impl_regAt_eq]
  simp only [Ob]
  rw [w64 (n := c.1 - 1) (by omega) (by omega),dt (by omega),Bool.not_true,cond_false,w64 (n := 3 + s) (by omega) (by omega)]
  rfl
theorem impl_Beat_eq (N : Nat) {c : Cfg} (h : Plat c) {s : Int} (hs : 0 ≤ s ∧ s < c.1) : impl_PlatBeat N c s = some (3 + c.1 + s,()) := by
  have h' := h
  unfold Plat at h'
  unfold impl_PlatBeat impl_place_3 impl_PlatCfg_slots
  rw [impl_PlatOk_eq,dt h]
  simp only [Ob]
  rw [Bool.not_true,cond_false,impl_within_eq,impl_beatAt_eq N h]
  simp only [Ob]
  rw [w64 (n := c.1 - 1) (by omega) (by omega),dt (by omega),Bool.not_true,cond_false,w64 (n := 3 + c.1 + s) (by omega) (by omega)]
  rfl
theorem term_find (N : Nat) {w D : List Int} (hw : Words w) (hl : D.length ≤ 1000) {s : Int} (ho : termOver w s = true) : ∀ d i k,i + d = D.length → d < k → s ∈ D.drop i → laws_FnTerm.l0 N k s (i : Nat) w D = some (true,())
  | 0,i,k,e,hk,hs => by rw [drop_end (by omega)] at hs; cases hs
  | d + 1,i,k,e,hk,hs => by
    obtain ⟨k,rfl⟩ := fuel hk
    rw [laws_FnTerm.l0,ct (by omega),bnd (by omega) (by omega),Int.toNat_natCast,cndb,impl_TermOver_eq N hw,ho,w64 (n := (i : Int) + 1) (by omega) (by omega),show (i : Int) + 1 = ((i + 1 : Nat) : Int) by omega]
    by_cases c : D.getD i 0 = s
    · rw [if_pos c]; rfl
    · rw [if_neg c]
      rw [drop_at 0 (show i < D.length by omega)] at hs
      rcases List.mem_cons.1 hs with q | q
      · exact (c q.symm).elim
      · exact term_find N hw hl ho d (i + 1) k (by omega) (by omega) q
theorem clock_set {w : List Int} (h : Whole w) (x : Int) (s : Int) (hs : 0 ≤ s ∧ s < (wcfg w).1) : wcfg (w.set 1 x) = wcfg w ∧ HasSlot (w.set 1 x) s ∧ regW (w.set 1 x) s = regW w s ∧ beatW (w.set 1 x) s = beatW w s ∧ (w.set 1 x).getD 1 0 = x := by
  have hl := whole_len h
  have hp := h.plat
  have hp' := hp
  unfold Plat at hp'
  have h0 : (w.set 1 x).getD 0 0 = w.getD 0 0 := set_ne _ _ _ _ (by omega)
  have hc : wcfg (w.set 1 x) = wcfg w := by unfold wcfg; rw [h0]
  refine ⟨hc,⟨?_,hs.1,by rw [hc]; exact hs.2⟩,?_,?_,set_at _ _ _ (by omega)⟩
  · unfold Whole at h ⊢
    rw [h0,List.length_set]; exact h
  · unfold regW; rw [set_ne _ _ _ _ (by omega)]
  · unfold beatW; rw [hc,set_ne _ _ _ _ (by omega)]
end Go.Proofs.YtdhdlnojoonhcaaGreat.Pv
