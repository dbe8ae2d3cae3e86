/- The walk of the past's example. No condition. -/
import Derived.Test.YtfojhmobnedekaaPast10
namespace Go.Proofs.Ytfojhmobnedekaa
open Go.RowKit

theorem PB.keep_low {B W mb kp f : Nat} {l : List Fr} {h : Int} {v : Value} {a b : World} (p : PB B W mb l kp h f v a) (k : KeepM W mb v a b) (hB : B ≤ a.heap.size) : Below B a b :=
  ⟨k.os, k.tape, k.output, k.size, fun g hg => k.block g (Nat.lt_of_lt_of_le hg hB) (fun e => by have := p.lowW; omega) (fun e => by have := p.lowM; omega) (fun e => by have := (own_lt3 p.hp.row e).1; omega)⟩
theorem fr_ext {x y : Fr} (h1 : x.d = y.d) (h2 : x.n = y.n) : x = y := by cases x; cases y; simp at h1 h2; rw [h1, h2]
/-- The example's frames. -/
theorem awake_l {l1 l2 l3 : List Fr} {h1 h2 h3 : Int} {f1 f2 f3 : Nat} (a1 : AddTo ⟨9, 1⟩ 2 [] 0 0 l1 h1 f1) (a2 : AddTo ⟨5, 2⟩ 2 l1 h1 f1 l2 h2 f2) (a3 : AddTo ⟨7, 3⟩ 2 l2 h2 f2 l3 h3 f3) :
    l3.Perm [⟨7, 3⟩, ⟨9, 1⟩] ∧ h3 = 5 ∧ f3 = 1 := by
  rcases a1 with ⟨_, p1, rfl, rfl⟩ | ⟨hk, _⟩
  · have e1 : l1.length = 1 := by rw [p1.length_eq]; rfl
    rcases a2 with ⟨_, p2, rfl, rfl⟩ | ⟨hk, _⟩
    · have e2 : l2.length = 2 := by rw [p2.length_eq, List.length_cons, e1]
      have p2' : l2.Perm [⟨5, 2⟩, ⟨9, 1⟩] := p2.trans (p1.cons _)
      rcases a3 with ⟨hk, _⟩ | ⟨_, y, p3, hy, rfl, rfl⟩
      · omega
      · have p3' : (y :: l3).Perm [⟨7, 3⟩, ⟨5, 2⟩, ⟨9, 1⟩] := p3.trans (p2'.cons _)
        have hy5 : y.le ⟨5, 2⟩ := hy _ (List.mem_cons_of_mem _ (p2'.mem_iff.2 (by simp)))
        have hym : y ∈ [(⟨7, 3⟩ : Fr), ⟨5, 2⟩, ⟨9, 1⟩] := p3'.mem_iff.1 (by simp)
        have hye : y = ⟨5, 2⟩ := by
          rw [Fr.le_iff] at hy5
          simp at hym
          rcases hym with rfl | rfl | rfl
          · simp at hy5
          · rfl
          · simp at hy5
        subst hye
        refine ⟨?_, rfl, rfl⟩
        have : (⟨5, 2⟩ :: l3).Perm (⟨5, 2⟩ :: [⟨7, 3⟩, (⟨9, 1⟩ : Fr)]) := p3'.trans (List.Perm.swap _ _ _)
        exact List.Perm.cons_inv this
    · rw [e1] at hk; omega
  · simp at hk
theorem two_rz (w : World) (x y : Int) : RZ (w.alloc (.cells #[.int .i64 x, .int .i64 y] 3)) (some ⟨w.heap.size, 0, none⟩) [x, y] := fun i hi => by
  have hb := heap_alloc_new w (.cells #[.int .i64 x, .int .i64 y] 3)
  refine ⟨w.heap.size, rfl, ?_⟩
  rcases (show i = 0 ∨ i = 1 by simp at hi; omega) with rfl | rfl
  · exact (cell_of_block (j := 0) hb).trans rfl
  · exact (cell_of_block (j := 1) hb).trans rfl
set_option maxHeartbeats 3200000 in
set_option maxRecDepth 100000 in
theorem pawake_any (w : World) : Calls Try.prog 47 #[] w fun e w' => e = .returned (.bool true) ∧ Below w.heap.size w w' := by
  have HN := Lib.hid (pnew_any w 2 (by omega))
  have e0 : ((2 : Nat) : Int) = 2 := rfl
  rw [e0] at HN
  go_enter Try.func47, Try.ntmps47
  go_wp2_with fail
  refine HN.out.mono ?_
  rintro e w0 ⟨W, mb, rfl, p0, hb0⟩
  have H1 := Lib.hid (padd_any p0 hb0.size (by omega) ⟨9, 1⟩ (by decide) (by decide) (by simp))
  have HB0 := Lib.hid hb0
  have P0 := Lib.hid p0
  clear p0 hb0 HN e0
  go_wp2_with fail
  refine H1.out.mono ?_
  rintro e w1 ⟨rfl, l1, h1, f1, v1, a1, p1, k1, n1⟩
  have hb1 := HB0.out.trans (P0.out.keep_low k1 HB0.out.size)
  have hf1 : f1 ≤ 1 := by rcases a1 with ⟨_, _, _, e⟩ | ⟨_, _, _, _, _, e⟩ <;> omega
  have hm1 : (2 : Int) ∉ l1.map Fr.n := by
    rcases a1 with ⟨_, q, _, _⟩ | ⟨hk, _⟩
    · intro hm
      obtain ⟨z, hz, e⟩ := List.mem_map.1 hm
      have := q.mem_iff.1 hz
      simp at this
      subst this; cases e
    · simp at hk
  have H2 := Lib.hid (padd_any p1 hb1.size (by omega) ⟨5, 2⟩ (by decide) (by decide) hm1)
  have HB1 := Lib.hid hb1
  have P1 := Lib.hid p1
  have A1 := Lib.hid a1
  clear p1 hb1 k1 n1 a1 hm1 H1 HB0 P0
  go_wp2_with fail
  refine H2.out.mono ?_
  rintro e w2 ⟨rfl, l2, h2, f2, v2, a2, p2, k2, n2⟩
  have hb2 := HB1.out.trans (P1.out.keep_low k2 HB1.out.size)
  have hf2 : f2 ≤ 2 := by rcases a2 with ⟨_, _, _, e⟩ | ⟨_, _, _, _, _, e⟩ <;> omega
  have hm2 : (3 : Int) ∉ l2.map Fr.n := by
    rcases A1.out with ⟨_, q1, _, _⟩ | ⟨hk, _⟩
    · have e1 : l1.length = 1 := by rw [q1.length_eq]; rfl
      rcases a2 with ⟨_, q, _, _⟩ | ⟨hk, _⟩
      · intro hm
        obtain ⟨z, hz, e⟩ := List.mem_map.1 hm
        have := (q.trans (q1.cons _)).mem_iff.1 hz
        simp at this
        rcases this with rfl | rfl <;> cases e
      · rw [e1] at hk; omega
    · simp at hk
  have H3 := Lib.hid (padd_any p2 hb2.size (by omega) ⟨7, 3⟩ (by decide) (by decide) hm2)
  have HB2 := Lib.hid hb2
  have P2 := Lib.hid p2
  have A2 := Lib.hid a2
  clear p2 hb2 k2 n2 a2 hm2 H2 HB1 P1
  go_wp2_with fail
  refine H3.out.mono ?_
  rintro e w3 ⟨rfl, l3, h3, f3, v3, a3, p3, k3, n3⟩
  have hb3 := HB2.out.trans (P2.out.keep_low k3 HB2.out.size)
  obtain ⟨hp3, rfl, rfl⟩ := awake_l A1.out A2.out a3
  have hl3 : l3.length = 2 := by rw [hp3.length_eq]; rfl
  have ho3 : (ordF l3).map Fr.n = [3, 1] := by
    have : ordF l3 = [⟨7, 3⟩, ⟨9, 1⟩] := sorted_uniq (ordF_sorted l3) (by simp [Fr.le_iff]) ((ordF_perm l3).trans hp3)
    rw [this]; rfl
  have hm3 : decide ((2 : Int) ∈ l3.map Fr.n) = false := decide_eq_false fun hm => by
    obtain ⟨z, hz, e⟩ := List.mem_map.1 hm
    have := hp3.mem_iff.1 hz
    simp at this
    rcases this with rfl | rfl <;> cases e
  have HH := Lib.hid (phorizon_any p3)
  have HF := Lib.hid (pforgot_any p3)
  have HR := Lib.hid (pframes_any p3)
  rw [hl3, ho3] at HR
  have P3 := Lib.hid p3
  have HB3 := Lib.hid hb3
  have HM3 := Lib.hid hm3
  clear p3 hb3 hp3 hl3 ho3 hm3 a3 k3 n3 A1 A2 H3 HB2 P2 hf1 hf2
  go_wp2_with fail
  refine HH.out.mono ?_
  rintro e w4 ⟨rfl, rfl⟩
  go_wp2_with fail
  refine HF.out.mono ?_
  rintro e w4 ⟨rfl, rfl⟩
  go_wp2_with fail
  refine HR.out.mono ?_
  rintro e w4 ⟨a4, c4, rfl, hr4, hb4⟩
  have hb5 : Below w4.heap.size w4 (w4.alloc (.cells #[.int .i64 3, .int .i64 1] 3)) := (Below.refl _ _).alloc (Nat.le_refl _) _
  have HS := Lib.hid (sameints_any (n := 2) (m := 2) (c := c4) (d := 2) ((own_rz (l := [3, 1]) hr4).below hb5) rfl (two_rz w4 3 1) rfl (by omega) (by omega))
  have HB4 := Lib.hid ((HB3.out.trans (hb4.mono HB3.out.size)).trans (hb5.mono (HB3.out.trans (hb4.mono HB3.out.size)).size))
  have P4 := Lib.hid ((P3.out.below hb4).below hb5)
  clear hr4 hb4 hb5 HR HF HH P3 HB3
  rw [decide_eq_true rfl] at HS
  go_wp2_with fail
  refine HS.out.mono ?_
  rintro e w6 ⟨rfl, hb6⟩
  have HB6 := Lib.hid (HB4.out.trans (hb6.mono HB4.out.size))
  have p6 := P4.out.below hb6
  have H6 := Lib.hid (pbars_any p6 2 5 (by decide))
  have H7 := Lib.hid (phas_any p6 2 (by decide))
  rw [HM3.out] at H6 H7
  rw [show (false || decide ((5 : Int) ≤ 5)) = true from rfl] at H6
  clear hb6 p6 P4 HB4 HS
  go_wp2_with fail
  refine H6.out.mono ?_
  rintro e w7 ⟨rfl, rfl⟩
  go_wp2_with fail
  refine H7.out.mono ?_
  rintro e w7 ⟨rfl, rfl⟩
  go_wp2_with fail
  go_ret
  exact ⟨rfl, HB6.out⟩
end Go.Proofs.Ytfojhmobnedekaa

/- Two pasts side by side; what adding in whatever order leads to (plain). No condition beyond each law's own. -/
namespace Go.Proofs.Ytfojhmobnedekaa
open Go.RowKit

theorem PB.apart {B1 W1 mb1 kp1 f1 B2 W2 mb2 kp2 f2 : Nat} {l1 l2 : List Fr} {h1 h2 : Int} {v1 v2 : Value} {a b : World} (p1 : PB B1 W1 mb1 l1 kp1 h1 f1 v1 a) (p2 : PB B2 W2 mb2 l2 kp2 h2 f2 v2 a) (hW : W1 ≠ W2) (hm : mb1 ≠ mb2) (hv : Unl v1 v2) (k : KeepM W2 mb2 v2 a b) : PB B1 W1 mb1 l1 kp1 h1 f1 v1 b := by
  obtain ⟨es1, c1, ho1⟩ := p1.mp.obj
  obtain ⟨es2, c2, ho2⟩ := p2.mp.obj
  have e1 : W1 ≠ mb2 := fun e => by rw [e] at p1; have := p1.hp.box; rw [ho2] at this; cases this
  have e2 : v2.ownBlock ≠ some W1 := own_ne_type p2.hp.row p1.hp.box (by decide)
  have e3 : mb1 ≠ W2 := fun e => by rw [← e] at p2; have := p2.hp.box; rw [ho1] at this; cases this
  have rowmap : ∀ {B n : Nat} {v : Value} {xs : List Value} {m : Nat} {es : Array MapEntry} {c : Nat}, a.ownsRow B 149 2 v n xs → a.heap[m]? = some (.map es c) → v.ownBlock ≠ some m := fun hr ho e => by
    rcases hr.2 with ⟨e1, _⟩ | ⟨g, cap, cur, rfl, _, hh, _⟩
    · subst e1; cases e
    · injection e with e; subst e; rw [hh] at ho; cases ho
  have e4 := rowmap p2.hp.row ho1
  have e5 := rowmap p1.hp.row ho2
  have e6 : v1.ownBlock ≠ some W2 := own_ne_type p1.hp.row p2.hp.box (by decide)
  exact ⟨⟨(k.block W1 (lt_of_block p1.hp.box) hW e1 e2).trans p1.hp.box, own_frame3 p1.hp.row fun g e hg => k.block g hg (fun h => e6 (by rw [e, h])) (fun h => e5 (by rw [e, h])) (hv g e)⟩,
    p1.mp.of_block (k.block mb1 p1.mp.lt e3 hm e4), p1.heap, p1.len, p1.top, p1.rng, p1.hr, p1.lowW, p1.lowM⟩
/-- Another row (of another type) stays. -/
theorem PB.row_stays {B2 W2 mb2 kp2 f2 : Nat} {l2 : List Fr} {h2 : Int} {v2 : Value} {a b : World} (p2 : PB B2 W2 mb2 l2 kp2 h2 f2 v2 a) (k : KeepM W2 mb2 v2 a b) {B n s : Nat} {t : TypeId} {v : Value} {xs : List Value} (h : a.ownsRow B t s v n xs) (h1 : t ≠ 149) (h2 : t ≠ 157) : b.ownsRow B t s v n xs := by
  obtain ⟨es2, c2, ho2⟩ := p2.mp.obj
  refine own_frame3 h fun g e hg => ?_
  rcases h.2 with ⟨e1, _⟩ | ⟨g', cap, cur, rfl, _, hh, _⟩
  · subst e1; cases e
  · have e' : g' = g := by injection e
    subst e'
    refine k.block g' hg (fun h => ?_) (fun h => ?_) (fun h => ?_)
    · rw [h, p2.hp.box] at hh; injection hh with hh; injection hh with _ hh _; exact h2 hh.symm
    · rw [h, ho2] at hh; cases hh
    · rcases p2.hp.row.2 with ⟨e1, _⟩ | ⟨g2, cap2, cur2, e2, _, hh2, _⟩
      · rw [e1] at h; cases h
      · rw [e2] at h
        have e3 : g2 = g' := by injection h
        subst e3
        rw [hh] at hh2; injection hh2 with hh2; injection hh2 with _ hh2 _; exact h1 hh2
theorem unl_next {a : World} {v v2 v2' : Value} (hu : Unl v v2) (hn : Nxt a v2 v2') (hl : ∀ g, v.ownBlock = some g → g < a.heap.size) : Unl v v2' := fun g e1 e2 => by
  rcases hn g e2 with e | e
  · exact hu g e1 e
  · have := hl g e1; omega
theorem unl_next' {a : World} {v v2 v2' : Value} (hu : Unl v2 v) (hn : Nxt a v2 v2') (hl : ∀ g, v.ownBlock = some g → g < a.heap.size) : Unl v2' v := fun g e1 e2 => by
  rcases hn g e1 with e | e
  · exact hu g e e2
  · have := hl g e2; omega
theorem PB.vlt {B W mb kp f : Nat} {l : List Fr} {h : Int} {v : Value} {w : World} (p : PB B W mb l kp h f v w) : ∀ g, v.ownBlock = some g → g < w.heap.size := fun _ e => (own_lt3 p.hp.row e).2

/-- Adding one behind the other. -/
inductive Adds (kp : Nat) : List Fr → List Fr → Int → Nat → Prop
  | nil : Adds kp [] [] 0 0
  | snoc {xs l l' : List Fr} {h h' : Int} {f f' : Nat} {x : Fr} : Adds kp xs l h f → AddTo x kp l h f l' h' f' → Adds kp (xs ++ [x]) l' h' f'
def supD : List Fr → Int
  | [] => 0
  | y :: l => max y.d (supD l)
theorem supD_perm {l m : List Fr} (h : l.Perm m) : supD l = supD m := by
  induction h with
  | nil => rfl
  | cons x _ ih => simp only [supD, ih]
  | swap x y l => simp only [supD]; omega
  | trans _ _ h1 h2 => exact h1.trans h2
theorem Adds.spec {kp : Nat} {xs l : List Fr} {h : Int} {f : Nat} (a : Adds kp xs l h f) : ∃ F : List Fr, (l ++ F).Perm xs ∧ (∀ y ∈ F, ∀ z ∈ l, y.le z) ∧ F.length = f ∧ h = supD F ∧ (f = 0 ∨ l.length = kp) ∧ l.length ≤ kp := by
  induction a with
  | nil => exact ⟨[], List.Perm.refl _, (fun y hy => by cases hy), rfl, rfl, .inl rfl, Nat.zero_le _⟩
  | @snoc xs l l' h h' f f' x _ s ih =>
    obtain ⟨F, h1, h2, h3, h4, h5, h6⟩ := ih
    rcases s with ⟨k, p, rfl, rfl⟩ | ⟨k, y, p, hy, rfl, rfl⟩
    · have hF : F = [] := by
        rcases h5 with h5 | h5
        · exact List.eq_nil_of_length_eq_zero (by omega)
        · omega
      subst hF
      refine ⟨[], ?_, (fun y hy => by cases hy), h3, h4, .inl (by rw [← h3]; rfl), by rw [p.length_eq]; exact k⟩
      rw [List.append_nil] at *
      exact p.trans (((h1.cons x)).trans (List.perm_append_singleton _ _).symm)
    · have hl : l'.length = l.length := by have := p.length_eq; simpa using this
      refine ⟨y :: F, ?_, fun u hu z hz => ?_, by rw [List.length_cons, h3], by simp only [supD, h4]; omega, .inr (by omega), by omega⟩
      · have q1 : (l' ++ y :: F).Perm (y :: l' ++ F) := List.perm_middle
        have q2 : (y :: l' ++ F).Perm ((x :: l) ++ F) := p.append_right F
        have q3 : ((x :: l) ++ F).Perm (x :: xs) := h1.cons x
        exact q1.trans (q2.trans (q3.trans (List.perm_append_singleton _ _).symm))
      · have hzx : z ∈ x :: l := p.mem_iff.1 (List.mem_cons_of_mem _ hz)
        rcases List.mem_cons.1 hu with rfl | hu
        · exact hy z hzx
        · have hyx : y ∈ x :: l := p.mem_iff.1 List.mem_cons_self
          by_cases e : y = x
          · subst e
            exact h2 u hu z ((List.Perm.cons_inv p).mem_iff.1 hz)
          · rcases List.mem_cons.1 hyx with e2 | hyl
            · exact absurd e2 e
            · rcases List.mem_cons.1 hzx with rfl | hzl
              · exact Fr.le_trans (h2 u hu y hyl) (hy _ List.mem_cons_self)
              · exact h2 u hu z hzl
theorem Adds.sub {kp : Nat} {xs l : List Fr} {h : Int} {f : Nat} (a : Adds kp xs l h f) : ∀ z ∈ l, z ∈ xs := fun z hz => by
  obtain ⟨F, h1, _⟩ := a.spec
  exact h1.mem_iff.1 (List.mem_append_left _ hz)
theorem Adds.fle {kp : Nat} {xs l : List Fr} {h : Int} {f : Nat} (a : Adds kp xs l h f) : f ≤ xs.length := by
  obtain ⟨F, h1, _, h3, _⟩ := a.spec
  have := h1.length_eq
  rw [List.length_append] at this; omega
theorem ord_append {l F : List Fr} (h : ∀ y ∈ F, ∀ z ∈ l, y.le z) : (ordF F ++ ordF l).Pairwise Fr.le :=
  List.pairwise_append.2 ⟨ordF_sorted F, ordF_sorted l, fun y hy z hz => h y ((ordF_perm F).mem_iff.1 hy) z ((ordF_perm l).mem_iff.1 hz)⟩
/-- Whatever the order, the same comes of it. -/
theorem Adds.uniq {kp : Nat} {xs ys l m : List Fr} {h k : Int} {f g : Nat} (a : Adds kp xs l h f) (b : Adds kp ys m k g) (hp : xs.Perm ys) : ordF l = ordF m ∧ h = k ∧ f = g := by
  obtain ⟨F, a1, a2, a3, a4, a5, a6⟩ := a.spec
  obtain ⟨G, b1, b2, b3, b4, b5, b6⟩ := b.spec
  have e1 := a1.length_eq
  have e2 := b1.length_eq
  have e3 := hp.length_eq
  rw [List.length_append] at e1 e2
  have hfg : f = g := by omega
  have hq : (ordF F ++ ordF l).Perm (ordF G ++ ordF m) := by
    refine ((ordF_perm F).append (ordF_perm l)).trans (List.perm_append_comm.trans (a1.trans (hp.trans (b1.symm.trans (List.perm_append_comm.trans ?_)))))
    exact ((ordF_perm G).append (ordF_perm m)).symm
  have he := sorted_uniq (ord_append a2) (ord_append b2) hq
  have hlen : (ordF F).length = (ordF G).length := by rw [(ordF_perm F).length_eq, (ordF_perm G).length_eq, a3, b3, hfg]
  obtain ⟨h1, h2⟩ := List.append_inj he hlen
  refine ⟨h2, ?_, hfg⟩
  rw [a4, b4]
  exact (supD_perm (ordF_perm F).symm).trans ((congrArg supD h1).trans (supD_perm (ordF_perm G)))

/-- The place of round i. -/
def turnI (N k i : Nat) : Nat := if i ≤ k then k - i else k + N - i
theorem turnI_lt {N k i : Nat} (hk : k < N) (hi : i < N) : turnI N k i < N := by unfold turnI; split <;> omega
theorem turnI_mod {N k i : Nat} (hk : k < N) (hi : i < N) : ((i : Int) * ((N : Int) - 1) + k) % N = (turnI N k i : Nat) := by
  have e : (i : Int) * ((N : Int) - 1) + k = (k - i : Int) + N * i := by
    rw [Int.mul_sub, Int.mul_one, Int.mul_comm (i : Int) N]; omega
  rw [e, Int.add_mul_emod_self_left]
  unfold turnI
  split
  · rw [Int.emod_eq_of_lt (by omega) (by omega)]; omega
  · rw [← Int.add_emod_right, Int.emod_eq_of_lt (by omega) (by omega)]; omega
theorem turn_list {N k : Nat} (hk : k < N) : (List.range N).map (turnI N k) = (List.range (k + 1)).reverse ++ (List.range' (k + 1) (N - (k + 1))).reverse := by
  refine List.ext_getElem (by simp; omega) fun i h1 h2 => ?_
  have hi : i < N := by simpa using h1
  rw [List.getElem_map, List.getElem_range, List.getElem_append]
  unfold turnI
  by_cases hik : i ≤ k
  · rw [if_pos hik, dif_pos (by simp; omega)]
    simp
  · rw [if_neg hik, dif_neg (by simp; omega)]
    simp; omega
theorem turn_perm {N k : Nat} (hk : k < N) : ((List.range N).map (turnI N k)).Perm (List.range N) := by
  rw [turn_list hk]
  have h1 : List.range N = List.range (k + 1) ++ List.range' (k + 1) (N - (k + 1)) := by
    have h2 := List.range'_append_1 (s := 0) (m := k + 1) (n := N - (k + 1))
    rw [Nat.zero_add] at h2
    rw [List.range_eq_range', List.range_eq_range', h2]
    congr 1
    omega
  rw [h1]
  exact (List.reverse_perm _).append (List.reverse_perm _)
theorem turnI_ne {N k i j : Nat} (_hk : k < N) (hi : i < N) (hj : j < i) : turnI N k j ≠ turnI N k i := by unfold turnI; split <;> split <;> omega
end Go.Proofs.Ytfojhmobnedekaa

/- The walk of the law PastOrder. Conditions: the deeds read as a row. -/
namespace Go.Proofs.Ytfojhmobnedekaa
open Go.RowKit

/-- A deed of the past's. -/
structure Pd where
  wh : Int
  n : Int
  d : Int
instance : Inhabited Pd := ⟨⟨0, 0, 0⟩⟩
/-- A slice of deeds, read. -/
structure RP (w : World) (a : Option Addr) (N : Nat) (L : List Pd) : Prop where
  len : L.length = N
  cell : ∀ k, k < N → ∃ b off, a = some ⟨b, off, none⟩ ∧ w.cell? ⟨b, off + k * 3, none⟩ = some (.int .i64 (L.getD k default).wh) ∧ w.cell? ⟨b, off + k * 3 + 1, none⟩ = some (.int .i64 (L.getD k default).n) ∧ w.cell? ⟨b, off + k * 3 + 2, none⟩ = some (.int .i64 (L.getD k default).d)
theorem RP.below {w w' : World} {a : Option Addr} {N : Nat} {L : List Pd} (h : RP w a N L) (hB : Below w.heap.size w w') : RP w' a N L := ⟨h.len, fun k hk => by
  obtain ⟨b, off, e, c0, c1, c2⟩ := h.cell k hk
  exact ⟨b, off, e, (hB.cell (block_lt_of_cell c0)).trans c0, (hB.cell (block_lt_of_cell c1)).trans c1, (hB.cell (block_lt_of_cell c2)).trans c2⟩⟩
theorem PB.frame {B W mb kp f : Nat} {l : List Fr} {h : Int} {v : Value} {a b : World} (p : PB B W mb l kp h f v a) (k : ∀ g, (g = W ∨ g = mb ∨ v.ownBlock = some g) → g < a.heap.size → b.heap[g]? = a.heap[g]?) : PB B W mb l kp h f v b :=
  ⟨⟨(k W (.inl rfl) (lt_of_block p.hp.box)).trans p.hp.box, own_frame3 p.hp.row fun g e hg => k g (.inr (.inr e)) hg⟩, p.mp.of_block (k mb (.inr (.inl rfl)) p.mp.lt), p.heap, p.len, p.top, p.rng, p.hr, p.lowW, p.lowM⟩
/-- A block of numbers is none of the past's. -/
theorem PB.not_ints {B W mb kp f : Nat} {l : List Fr} {h : Int} {v : Value} {a : World} (p : PB B W mb l kp h f v a) {be : Nat} {cur : Array Value} {fz : Nat × Nat} (hb : a.heap[be]? = some (.cells cur 3 fz)) : ∀ g, (g = W ∨ g = mb ∨ v.ownBlock = some g) → g ≠ be := fun g hg e => by
  subst e
  rcases hg with rfl | rfl | hg
  · rw [p.hp.box] at hb; injection hb with hb; injection hb with _ hb _; cases hb
  · obtain ⟨es, c, ho⟩ := p.mp.obj
    rw [ho] at hb; cases hb
  · rcases p.hp.row.2 with ⟨e1, _⟩ | ⟨g2, cap2, cur2, e2, _, hh2, _⟩
    · rw [e1] at hg; cases hg
    · rw [e2] at hg
      have e3 : g2 = g := by injection hg
      subst e3
      rw [hh2] at hb; injection hb with hb; injection hb with _ hb _; cases hb
theorem own_block {w : World} {B s n c g : Nat} {e : TypeId} {xs : List Value} (h : w.ownsRow B e s (.slice (some ⟨g, 0, none⟩) n c) n xs) : ∃ cur, w.heap[g]? = some (.cells cur e (0, 0)) := by
  rcases h.2 with ⟨e1, _⟩ | ⟨g', cap, cur, e1, _, hh, _⟩
  · cases e1
  · injection e1 with e1 _ _
    injection e1 with e1
    injection e1 with e1
    subst e1; exact ⟨cur, hh⟩
/-- Two pasts, and the ends. -/
structure OrdP (w : World) (W1 m1 W2 m2 kp be N : Nat) (xs ys : List Fr) (es : List Int) (l1 l2 : List Fr) (h1 h2 : Int) (f1 f2 : Nat) (v1 v2 : Value) (A : World) : Prop where
  p1 : PB w.heap.size W1 m1 l1 kp h1 f1 v1 A
  p2 : PB w.heap.size W2 m2 l2 kp h2 f2 v2 A
  a1 : Adds kp xs l1 h1 f1
  a2 : Adds kp ys l2 h2 f2
  hW : W1 ≠ W2
  hm : m1 ≠ m2
  hu : Unl v1 v2
  row : A.ownsRow w.heap.size 3 1 (.slice (some ⟨be, 0, none⟩) N N) N (zis es)
  bel : Below w.heap.size w A
theorem OrdP.below {w : World} {W1 m1 W2 m2 kp be N : Nat} {xs ys : List Fr} {es : List Int} {l1 l2 : List Fr} {h1 h2 : Int} {f1 f2 : Nat} {v1 v2 : Value} {A C : World} (o : OrdP w W1 m1 W2 m2 kp be N xs ys es l1 l2 h1 h2 f1 f2 v1 v2 A) (k : Below A.heap.size A C) : OrdP w W1 m1 W2 m2 kp be N xs ys es l1 l2 h1 h2 f1 f2 v1 v2 C :=
  ⟨o.p1.below k, o.p2.below k, o.a1, o.a2, o.hW, o.hm, o.hu, own_frame3 o.row fun g _ hg => k.block g hg, o.bel.trans (k.mono o.bel.size)⟩
theorem OrdP.add1 {w : World} {W1 m1 W2 m2 kp be N : Nat} {xs ys : List Fr} {es : List Int} {l1 l2 : List Fr} {h1 h2 : Int} {f1 f2 : Nat} {v1 v2 : Value} {A C : World} {x : Fr} (o : OrdP w W1 m1 W2 m2 kp be N xs ys es l1 l2 h1 h2 f1 f2 v1 v2 A) (r : AddRes w.heap.size W1 m1 x kp l1 h1 f1 v1 A C) :
    ∃ l' h' f' v', OrdP w W1 m1 W2 m2 kp be N (xs ++ [x]) ys es l' l2 h' h2 f' f2 v' v2 C := by
  obtain ⟨l', h', f', v', a, p, k, n⟩ := r
  exact ⟨l', h', f', v', p, o.p2.apart o.p1 (Ne.symm o.hW) (Ne.symm o.hm) o.hu.symm k, o.a1.snoc a, o.a2, o.hW, o.hm, unl_next' o.hu n o.p2.vlt, o.p1.row_stays k o.row (by decide) (by decide), o.bel.trans (o.p1.keep_low k o.bel.size)⟩
theorem OrdP.add2 {w : World} {W1 m1 W2 m2 kp be N : Nat} {xs ys : List Fr} {es : List Int} {l1 l2 : List Fr} {h1 h2 : Int} {f1 f2 : Nat} {v1 v2 : Value} {A C : World} {x : Fr} (o : OrdP w W1 m1 W2 m2 kp be N xs ys es l1 l2 h1 h2 f1 f2 v1 v2 A) (r : AddRes w.heap.size W2 m2 x kp l2 h2 f2 v2 A C) :
    ∃ l' h' f' v', OrdP w W1 m1 W2 m2 kp be N xs (ys ++ [x]) es l1 l' h1 h' f1 f' v1 v' C := by
  obtain ⟨l', h', f', v', a, p, k, n⟩ := r
  exact ⟨l', h', f', v', o.p1.apart o.p2 o.hW o.hm o.hu k, p, o.a1, o.a2.snoc a, o.hW, o.hm, unl_next o.hu n o.p1.vlt, o.p2.row_stays k o.row (by decide) (by decide), o.bel.trans (o.p2.keep_low k o.bel.size)⟩
theorem OrdP.set {w : World} {W1 m1 W2 m2 kp be N i : Nat} {e : Int} {xs ys : List Fr} {es : List Int} {l1 l2 : List Fr} {h1 h2 : Int} {f1 f2 : Nat} {v1 v2 : Value} {A : World} (o : OrdP w W1 m1 W2 m2 kp be N xs ys es l1 l2 h1 h2 f1 f2 v1 v2 A) : OrdP w W1 m1 W2 m2 kp be N xs ys (es.set i e) l1 l2 h1 h2 f1 f2 v1 v2 (A.setCell ⟨be, i, none⟩ (.int .i64 e)) := by
  obtain ⟨cur, hb⟩ := own_block o.row
  have hk : ∀ g, g ≠ be → (A.setCell ⟨be, i, none⟩ (.int .i64 e)).heap[g]? = A.heap[g]? := fun g hg => Below.heap_setCell A ⟨be, i, none⟩ _ g hg
  have h := own_setS (i := i) o.row (.int .i64 e)
  have hz : (zis es).set i (.int .i64 e) = zis (es.set i e) := by unfold zis; rw [List.map_set]
  rw [hz] at h
  exact ⟨o.p1.frame fun g hg _ => hk g (o.p1.not_ints hb g hg), o.p2.frame fun g hg _ => hk g (o.p2.not_ints hb g hg), o.a1, o.a2, o.hW, o.hm, o.hu, h, o.bel.trans ((Below.refl _ _).setCell (p := ⟨be, i, none⟩) (own_lt3 o.row rfl).1 _)⟩
/-- The first i ends are laid. -/
def upE (E : Nat → Int) (N i : Nat) : List Int := (List.range N).map fun j => if j < i then E j else 0
theorem upE_len (E : Nat → Int) (N i : Nat) : (upE E N i).length = N := by simp [upE]
theorem upE_set (E : Nat → Int) (N i : Nat) : (upE E N i).set i (E i) = upE E N (i + 1) := by
  unfold upE
  refine List.ext_getElem (by simp) fun j h1 h2 => ?_
  rw [List.getElem_set]
  by_cases e : i = j
  · subst e; simp
  · rw [if_neg e]
    simp only [List.getElem_map, List.getElem_range]
    by_cases h : j < i
    · rw [if_pos h, if_pos (by omega)]
    · rw [if_neg h, if_neg (by omega)]
theorem upE_zero (E : Nat → Int) (N : Nat) : (madeCells #[Value.int .i64 0] N).toList = zis (upE E N 0) := by
  refine List.ext_getElem (by simp [madeCells, zis, upE]) fun i h1 h2 => ?_
  simp [madeCells, zis, upE]
  rw [Nat.mod_one]; rfl
theorem PB.rebase {B B' W mb kp f : Nat} {l : List Fr} {h : Int} {v : Value} {a : World} (p : PB B W mb l kp h f v a) (hB : B' ≤ B) : PB B' W mb l kp h f v a :=
  ⟨⟨p.hp.box, own_mono3 p.hp.row hB⟩, p.mp, p.heap, p.len, p.top, p.rng, p.hr, Nat.le_trans hB p.lowW, Nat.le_trans hB p.lowM⟩
theorem upE_get (E : Nat → Int) {N i j : Nat} (h : j < i) (hN : j < N) : (upE E N i).getD j 0 = E j := by
  unfold upE
  rw [List.getD_eq_getElem?_getD, List.getElem?_map, List.getElem?_range hN]
  simp [h]
/-- The frames of the deeds. -/
def XF (E : Nat → Int) (j : Nat) : Fr := ⟨E j, (j : Int)⟩
theorem range_snoc {α : Type} (f : Nat → α) (i : Nat) : (List.range (i + 1)).map f = (List.range i).map f ++ [f i] := by rw [List.range_succ, List.map_append]; rfl
/-- Two neighbours of what is told. -/
theorem neigh {E : Nat → Int} {N i : Nat} {l : List Fr} (hs : ∀ z ∈ l, z ∈ (List.range N).map (XF E)) (hn : (l.map Fr.n).Nodup) (hi : i + 1 < l.length) :
    ∃ α β : Nat, α < N ∧ β < N ∧ ((ordF l).map Fr.n).getD i 0 = α ∧ ((ordF l).map Fr.n).getD (i + 1) 0 = β ∧ (E α < E β ∨ (E α = E β ∧ α < β)) := by
  have hlen : (ordF l).length = l.length := (ordF_perm l).length_eq
  have g1 : i < (ordF l).length := by omega
  have g2 : i + 1 < (ordF l).length := by omega
  have e1 : ∀ q (hq : q < (ordF l).length), ∃ α : Nat, α < N ∧ (ordF l)[q] = XF E α := fun q hq => by
    obtain ⟨α, hα, he⟩ := List.mem_map.1 (hs _ ((ordF_perm l).mem_iff.1 (List.getElem_mem hq)))
    exact ⟨α, List.mem_range.1 hα, he.symm⟩
  obtain ⟨α, hα, ha⟩ := e1 i g1
  obtain ⟨β, hβ, hb⟩ := e1 (i + 1) g2
  refine ⟨α, β, hα, hβ, ?_, ?_, ?_⟩
  · rw [List.getD_eq_getElem?_getD, List.getElem?_map, List.getElem?_eq_getElem g1, ha]; rfl
  · rw [List.getD_eq_getElem?_getD, List.getElem?_map, List.getElem?_eq_getElem g2, hb]; rfl
  · have hle := List.pairwise_iff_getElem.1 (ordF_sorted l) i (i + 1) g1 g2 (by omega)
    rw [ha, hb, Fr.le_iff] at hle
    have hnd : ((ordF l).map Fr.n).Nodup := ((ordF_perm l).map Fr.n).nodup_iff.2 hn
    have hne := List.pairwise_iff_getElem.1 hnd i (i + 1) (by simpa using g1) (by simpa using g2) (by omega)
    rw [List.getElem_map, List.getElem_map, ha, hb] at hne
    simp only [XF] at hle hne
    rcases hle with h | ⟨h, h2⟩
    · exact .inl h
    · exact .inr ⟨h, by omega⟩
set_option maxHeartbeats 6400000 in
set_option maxRecDepth 100000 in
theorem order_walk {w : World} {a : Option Addr} {N cap : Nat} {L : List Pd} (hL : RP w a N L) (kp turn : Int) (hkp : -9223372036854775808 ≤ kp ∧ kp ≤ 9223372036854775807) :
    Calls Try.prog 12 #[.int .i64 kp, .slice a N cap, .int .i64 turn] w fun e w' => e = .returned (.bool true) ∧ Below w.heap.size w w' := by
  have HA := Lib.hid (pawake_any w)
  have HL := Lib.hid hL
  clear hL
  go_enter Try.func12, Try.ntmps12
  go_wp2_with fail
  refine HA.out.mono ?_
  rintro e w1 ⟨rfl, hb1⟩
  have HB1 := Lib.hid hb1
  clear hb1 HA
  by_cases hbig : 120 < N
  · have d1 : decide ((120 : Int) < (N : Int)) = true := decide_eq_true (by omega)
    go_wp2_with fail
    go_ret
    exact ⟨rfl, HB1.out⟩
  have d1 : decide ((120 : Int) < (N : Int)) = false := decide_eq_false (by omega)
  by_cases hN0 : N = 0
  · subst hN0
    go_wp2_with fail
    go_ret
    exact ⟨rfl, HB1.out⟩
  have d2 : ((N : Int) == 0) = false := by simp; omega
  have d2' : decide ((N : Int) = 0) = false := by simp; omega
  by_cases hk : 0 ≤ kp ∧ kp ≤ 1024
  · obtain ⟨kk, rfl⟩ : ∃ kk : Nat, kp = kk := ⟨kp.toNat, by omega⟩
    have HP := Lib.hid (pnew_any w1 kk (by omega))
    go_wp2_with fail
    refine HP.out.mono ?_
    rintro e w2 ⟨W1, m1, rfl, p1, hb2⟩
    have HQ := Lib.hid (pnew_any w2 kk (by omega))
    have H1 := Lib.hid (And.intro p1 hb2)
    clear p1 hb2 HP
    go_wp2_with fail
    refine HQ.out.mono ?_
    rintro e w3 ⟨W2, m2, rfl, p2, hb3⟩
    have H2 := Lib.hid (And.intro p2 hb3)
    clear p2 hb3 HQ
    have HPK := Lib.hid (pick_any w3 turn N (by omega) (by omega))
    obtain ⟨k, hk⟩ : ∃ k : Nat, turn % (N : Int) = k := ⟨(turn % (N : Int)).toNat, by have := Int.emod_nonneg turn (show (N : Int) ≠ 0 by omega); omega⟩
    have hkN : k < N := by have := Int.emod_lt_of_pos turn (show (0 : Int) < N by omega); omega
    rw [hk] at HPK
    clear hk
    go_wp2_with fail
    refine HPK.out.mono ?_
    rintro e w4 ⟨rfl, rfl⟩
    obtain ⟨i3, hi, hz0, hz1, hz2⟩ := info_parts info3
    clear HPK
    go_wp2_with (refine wpList_make_full _ rfl (.tmp 52) (.tmp 52) 52 rfl w3.heap.size 3 i3 (.int .i64 0) 1 Try.underlying52 hi hz0 hz1 .i64 .i64 _ _ N rfl rfl rfl rfl ?_ ?_ (Nat.le_refl _) ?_)
    · rw [hz2]; omega
    · unfold maxLen; omega
    intro w4 hown hg4
    obtain ⟨E, hE⟩ : ∃ E : Nat → Int, E = fun j => (L.getD j default).d % 1000 := ⟨_, rfl⟩
    have HE : Hid (∀ j, E j = (L.getD j default).d % 1000 ∧ 0 ≤ E j ∧ E j ≤ 999) := fun j => by
      subst hE
      exact ⟨rfl, Int.emod_nonneg _ (by decide), show (L.getD j default).d % 1000 ≤ 999 by omega⟩
    clear hE
    have hb4 : Below w3.heap.size w3 w4 := (Below.refl _ _).grown hg4 (Nat.le_refl _) (fun k e => by cases e)
    have ho4 : OrdP w W1 m1 W2 m2 kk w3.heap.size N [] [] (upE E N 0) [] [] 0 0 0 0 (.slice none 0 0) (.slice none 0 0) w4 := by
      have hs1 := HB1.out.size
      have hs2 := H1.out.2.size
      have hs3 := H2.out.2.size
      have hb12 := HB1.out.trans (H1.out.2.mono hs1)
      have hb23 := hb12.trans (H2.out.2.mono hb12.size)
      have l1 := lt_of_block H1.out.1.hp.box
      have l2 := H1.out.1.mp.lt
      have l3 := H2.out.1.lowW
      have l4 := H2.out.1.lowM
      refine ⟨((H1.out.1.below H2.out.2).below hb4).rebase hs1, (H2.out.1.below hb4).rebase hb12.size, .nil, .nil, by omega, by omega, unl_nil _, ?_, hb23.trans (hb4.mono hb23.size)⟩
      have := own_mono3 hown hb23.size
      rwa [upE_zero E N] at this
    have HO4 := Lib.hid ho4
    obtain ⟨be, hbe⟩ : ∃ be, be = w3.heap.size := ⟨_, rfl⟩
    rw [← hbe] at HO4 ⊢
    have hbew := (own_lt3 HO4.out.row rfl).1
    clear hown hg4 hb4 ho4 H1 H2 HB1 hi hz0 hz1 hz2 hbe
    go_wp2_with fail
    go_loopw [13] (fun i wr => ∃ j : Nat, ∃ l h f v, j ≤ N ∧ i = .int .i64 j ∧ Hid (OrdP w W1 m1 W2 m2 kk be N ((List.range j).map (XF E)) [] (upE E N j) l [] h 0 f 0 v (.slice none 0 0) wr)) (fun i _ => N - (intOf i).toNat)
    case atStart => exact ⟨0, [], 0, 0, .slice none 0 0, Nat.zero_le _, rfl, HO4⟩
    case round =>
      obtain ⟨j, l, h, f, v, hj, rfl, HO⟩ := hrel
      by_cases hjN : j < N
      · have d3 : decide ((j : Int) < (N : Int)) = true := decide_eq_true (by omega)
        obtain ⟨b, off, rfl, _, _, c2⟩ := (HL.out.below HO.out.bel).cell j hjN
        obtain ⟨dd, hdd⟩ : ∃ dd, dd = (L.getD j default).d := ⟨_, rfl⟩
        obtain ⟨ej, hej⟩ : ∃ ej, ej = E j := ⟨_, rfl⟩
        have hdm : dd % 1000 = ej := by rw [hdd, hej]; exact (HE.out j).1.symm
        have her : 0 ≤ ej ∧ ej ≤ 999 := by rw [hej]; exact (HE.out j).2
        rw [← hdd] at c2
        have HK := Lib.hid (pick_any wr dd 1000 (by omega) (by omega))
        rw [hdm] at HK
        obtain ⟨cur, hcur⟩ := own_block HO.out.row
        have r0 := own_rz (l := upE E N j) (c := N) (by rw [upE_len]; exact HO.out.row) j (by rw [upE_len]; exact hjN)
        obtain ⟨g, hg, r1⟩ := r0
        obtain rfl : be = g := by injection hg with hg; injection hg
        have r2 : wr.frozen? ⟨be, j, none⟩ = false := frozen_of_block hcur
        have ho5 : OrdP w W1 m1 W2 m2 kk be N ((List.range j).map (XF E)) [] (upE E N (j + 1)) l [] h 0 f 0 v (.slice none 0 0) (wr.setCell ⟨be, j, none⟩ (.int .i64 ej)) := by
          have := HO.out.set (i := j) (e := ej)
          rwa [hej, upE_set, ← hej] at this
        obtain ⟨g2, hg2, r3⟩ := own_rz (l := upE E N (j + 1)) (c := N) (by rw [upE_len]; exact ho5.row) j (by rw [upE_len]; exact hjN)
        obtain rfl : be = g2 := by injection hg2 with hg2; injection hg2
        rw [upE_get E (Nat.lt_succ_self j) hjN, ← hej] at r3
        have hfl : f ≤ 120 := by have := ho5.a1.fle; rw [List.length_map, List.length_range] at this; omega
        have hnot : (j : Int) ∉ l.map Fr.n := fun hm => by
          obtain ⟨z, hz, e⟩ := List.mem_map.1 hm
          obtain ⟨q, hq, rfl⟩ := List.mem_map.1 (ho5.a1.sub z hz)
          have := List.mem_range.1 hq
          simp [XF] at e; omega
        have HADD := Lib.hid (padd_any ho5.p1 ho5.bel.size (by omega) ⟨ej, (j : Int)⟩ ⟨by show (0 : Int) ≤ (j : Int); omega, by show (j : Int) ≤ 2147483647; omega⟩ ⟨her.1, by show ej ≤ 2147483647; omega⟩ hnot)
        have HO5 := Lib.hid ho5
        have HEJ := Lib.hid hej
        clear ho5 hg hg2 hcur hdd hdm her hej hfl hnot
        go_wp2_with fail
        refine HK.out.mono ?_
        rintro e w5 ⟨rfl, rfl⟩
        go_wp2_with fail
        generalize wr.setCell ⟨be, j, none⟩ (.int .i64 ej) = w5 at *
        refine HADD.out.mono ?_
        rintro e w6 ⟨rfl, hr6⟩
        obtain ⟨l6, h6, f6, v6, ho6⟩ := HO5.out.add1 hr6
        have HO6 : Hid (OrdP w W1 m1 W2 m2 kk be N ((List.range (j + 1)).map (XF E)) [] (upE E N (j + 1)) l6 [] h6 0 f6 0 v6 (.slice none 0 0) w6) := by
          rw [range_snoc]
          have e : (⟨ej, (j : Int)⟩ : Fr) = XF E j := by rw [HEJ.out]; rfl
          rw [e] at ho6
          exact ho6
        clear hr6 ho6 HADD HO5 HK HO HO4 c2 r1 r2 r3
        go_wp2_with fail
        go_roundw
        case rel => exact ⟨j + 1, l6, h6, f6, v6, hjN, by go_num, HO6⟩
        case measure => simp [intOf]; omega
      · have d3 : decide ((j : Int) < (N : Int)) = false := decide_eq_false (by omega)
        obtain rfl : j = N := by omega
        clear hj HO4
        go_wp2_with fail
        go_loopw [14] (fun i wr => ∃ t : Nat, ∃ l2 h2 f2 v2, t ≤ j ∧ i = .int .i64 t ∧ Hid (OrdP w W1 m1 W2 m2 kk be j ((List.range j).map (XF E)) ((List.range t).map fun q => XF E (turnI j k q)) (upE E j j) l l2 h h2 f f2 v v2 wr)) (fun i _ => j - (intOf i).toNat)
        case atStart => exact ⟨0, [], 0, 0, .slice none 0 0, Nat.zero_le _, rfl, HO⟩
        case round =>
          clear HO
          obtain ⟨t, l2, h2, f2, v2, ht, rfl, HO⟩ := hrel
          by_cases htN : t < j
          · have d4 : decide ((t : Int) < (j : Int)) = true := decide_eq_true (by omega)
            obtain ⟨M, hM⟩ : ∃ M, M = j - 1 := ⟨_, rfl⟩
            have hM1 : (j : Int) - 1 = (M : Int) := by omega
            obtain ⟨q, hq⟩ : ∃ q, q = t * M := ⟨_, rfl⟩
            have hq1 : (t : Int) * (M : Int) = (q : Int) := by rw [hq]; push_cast; rfl
            have hqs : q ≤ 14400 := by
              rw [hq]
              exact Nat.le_trans (Nat.mul_le_mul (show t ≤ 120 by omega) (show M ≤ 120 by omega)) (by decide)
            obtain ⟨u, hu⟩ : ∃ u, u = turnI j k t := ⟨_, rfl⟩
            have huj : u < j := by rw [hu]; exact turnI_lt hkN htN
            have hm1 : ((q : Int) + (k : Int)) % (j : Int) = (u : Int) := by
              have := turnI_mod hkN htN
              rw [hM1, hq1, ← hu] at this
              exact this
            have hm2 : ((q : Int) + (k : Int)).tmod (j : Int) = (u : Int) := by
              rw [Int.tmod_eq_emod_of_nonneg (by omega)]; exact hm1
            obtain ⟨b, off, rfl, _, _, c2⟩ := (HL.out.below HO.out.bel).cell u huj
            obtain ⟨dd, hdd⟩ : ∃ dd, dd = (L.getD u default).d := ⟨_, rfl⟩
            obtain ⟨ej, hej⟩ : ∃ ej, ej = E u := ⟨_, rfl⟩
            have hdm : dd % 1000 = ej := by rw [hdd, hej]; exact (HE.out u).1.symm
            have her : 0 ≤ ej ∧ ej ≤ 999 := by rw [hej]; exact (HE.out u).2
            rw [← hdd] at c2
            have HK := Lib.hid (pick_any wr dd 1000 (by omega) (by omega))
            rw [hdm] at HK
            have hfl : f2 ≤ 120 := by have := HO.out.a2.fle; rw [List.length_map, List.length_range] at this; omega
            have hnot : (u : Int) ∉ l2.map Fr.n := fun hm => by
              obtain ⟨z, hz, e⟩ := List.mem_map.1 hm
              obtain ⟨y, hy, rfl⟩ := List.mem_map.1 (HO.out.a2.sub z hz)
              have hy := List.mem_range.1 hy
              have := turnI_ne (N := j) (k := k) hkN htN hy
              simp [XF] at e; omega
            have HADD := Lib.hid (padd_any HO.out.p2 HO.out.bel.size (by omega) ⟨ej, (u : Int)⟩ ⟨by show (0 : Int) ≤ (u : Int); omega, by show (u : Int) ≤ 2147483647; omega⟩ ⟨her.1, by show ej ≤ 2147483647; omega⟩ hnot)
            have HEJ := Lib.hid (And.intro hej hu)
            clear hdd hdm her hej hfl hnot hu hM hq
            go_wp2_with fail
            refine HK.out.mono ?_
            rintro e w5 ⟨rfl, rfl⟩
            go_wp2_with fail
            refine HADD.out.mono ?_
            rintro e w6 ⟨rfl, hr6⟩
            obtain ⟨l6, h6, f6, v6, ho6⟩ := HO.out.add2 hr6
            have HO6 : Hid (OrdP w W1 m1 W2 m2 kk be j ((List.range j).map (XF E)) ((List.range (t + 1)).map fun q => XF E (turnI j k q)) (upE E j j) l l6 h h6 f f6 v v6 w6) := by
              rw [range_snoc]
              have e : (⟨ej, (u : Int)⟩ : Fr) = XF E (turnI j k t) := by rw [HEJ.out.1, HEJ.out.2]; rfl
              rw [e] at ho6
              exact ho6
            clear hr6 ho6 HADD HK HO c2
            go_wp2_with fail
            go_roundw
            case rel => exact ⟨t + 1, l6, h6, f6, v6, htN, by go_num, HO6⟩
            case measure => simp [intOf]; omega
          · have d4 : decide ((t : Int) < (j : Int)) = false := decide_eq_false (by omega)
            obtain rfl : t = j := by omega
            have HFR := Lib.hid (pframes_any HO.out.p1)
            have hMl : l.length ≤ 1024 := by have := HO.out.p1.len; have := HO.out.p1.top; omega
            obtain ⟨M, hM⟩ : ∃ M, M = l.length := ⟨_, rfl⟩
            obtain ⟨ns, hns⟩ : ∃ ns, ns = (ordF l).map Fr.n := ⟨_, rfl⟩
            have HNS : Hid (ns = (ordF l).map Fr.n ∧ ns.length = M ∧ M = l.length) := ⟨hns, by rw [hns, List.length_map, (ordF_perm l).length_eq, hM], hM⟩
            rw [← hns, ← hM] at HFR
            rw [← hM] at hMl
            clear hns hM ht
            go_wp2_with fail
            refine HFR.out.mono ?_
            rintro e w8 ⟨a8, c8, rfl, hr8, hb8⟩
            have HO8 := Lib.hid (HO.out.below hb8)
            have HR8 := Lib.hid (own_rz (l := ns) (a := a8) (c := c8) (B := wr.heap.size) (by rw [HNS.out.2.1]; exact hr8))
            clear hr8 hb8 HO HFR
            go_wp2_with fail
            go_loopw [17] (fun i wr => ∃ q : Nat, q ≤ M ∧ i = .int .i64 ((q + 1 : Nat) : Int) ∧ Hid (Below w8.heap.size w8 wr)) (fun i _ => M + 1 - (intOf i).toNat)
            case atStart => exact ⟨0, Nat.zero_le _, rfl, Below.refl _ _⟩
            case round =>
              obtain ⟨q, hq, rfl, HB⟩ := hrel
              by_cases hqM : q + 1 < M
              · have d5 : decide (((q + 1 : Nat) : Int) < (M : Int)) = true := decide_eq_true (by omega)
                obtain ⟨α, β, hα, hβ, hx1, hx2, hlt⟩ := neigh (i := q) HO8.out.a1.sub HO8.out.p1.mp.1 (by rw [← HNS.out.2.2]; exact hqM)
                rw [← HNS.out.1] at hx1 hx2
                obtain ⟨g, hg, x0⟩ := (HR8.out.below HB.out) q (by rw [HNS.out.2.1]; omega)
                obtain ⟨g2, hg2, y0⟩ := (HR8.out.below HB.out) (q + 1) (by rw [HNS.out.2.1]; exact hqM)
                subst hg
                obtain rfl : g = g2 := by injection hg2 with hg2; injection hg2
                have hro := (HO8.out.below HB.out).row
                obtain ⟨g3, hg3, e0⟩ := own_rz (l := upE E t t) (c := t) (by rw [upE_len]; exact hro) α (by rw [upE_len]; exact hα)
                obtain ⟨g4, hg4, f0⟩ := own_rz (l := upE E t t) (c := t) (by rw [upE_len]; exact hro) β (by rw [upE_len]; exact hβ)
                obtain rfl : be = g3 := by injection hg3 with hg3; injection hg3
                obtain rfl : be = g4 := by injection hg4 with hg4; injection hg4
                rw [upE_get E hα hα] at e0
                rw [upE_get E hβ hβ] at f0
                rw [hx1] at x0
                rw [hx2] at y0
                obtain ⟨ea, hea⟩ : ∃ ea, ea = E α := ⟨_, rfl⟩
                obtain ⟨eb, heb⟩ : ∃ eb, eb = E β := ⟨_, rfl⟩
                rw [← hea] at e0 hlt
                rw [← heb] at f0 hlt
                have hq1 : ((q + 1 : Nat) : Int) - 1 = (q : Int) := by omega
                have d6 : decide (eb < ea) = false := decide_eq_false (by omega)
                have L0 := fun z : Lies wr => lies_cell x0 z
                have L1 := fun z : Lies wr => lies_cell y0 z
                have L2 := fun z : Lies wr => lies_cell e0 z
                have L3 := fun z : Lies wr => lies_cell f0 z
                obtain ⟨q1, hq2⟩ : ∃ q1, q1 = q + 1 := ⟨_, rfl⟩
                rw [← hq2] at hq1 d5 L1 hqM ⊢
                have HQ1 := Lib.hid hq2
                clear hg2 hg3 hg4 hro x0 y0 e0 f0 hx1 hx2 hea heb hq2
                by_cases heq : ea = eb
                · have d7 : (ea == eb) = true := by simp [heq]
                  have d7' : decide (ea = eb) = true := by simp [heq]
                  have d8 : decide ((β : Int) ≤ (α : Int)) = false := decide_eq_false (by omega)
                  have d8' : decide (β ≤ α) = false := decide_eq_false (by omega)
                  clear heq hlt
                  go_upto_region 25 with fail
                  refine region_lies (by rfl) (by decide +kernel) ?_
                  repeat (go_big_quiet_step (fail))
                  refine wpQuiet_nil ?_
                  intro _ hw'
                  obtain ⟨z, rfl⟩ := hw'
                  have HZ := Lib.hid (HB.out.trans ((show Below wr.heap.size wr z.1 from z.2).mono HB.out.size))
                  clear L0 L1 L2 L3
                  generalize z.1 = wz at *
                  clear z
                  go_wp2_with fail
                  exact ⟨⟨q1, by omega, by simp, HZ⟩, by simp [intOf]; omega⟩
                · have d7 : (ea == eb) = false := by simp [heq]
                  have d7' : decide (ea = eb) = false := by simp [heq]
                  clear heq hlt
                  go_upto_region 25 with fail
                  refine region_lies (by rfl) (by decide +kernel) ?_
                  repeat (go_big_quiet_step (fail))
                  refine wpQuiet_nil ?_
                  intro _ hw'
                  obtain ⟨z, rfl⟩ := hw'
                  have HZ := Lib.hid (HB.out.trans ((show Below wr.heap.size wr z.1 from z.2).mono HB.out.size))
                  clear L0 L1 L2 L3
                  generalize z.1 = wz at *
                  clear z
                  go_wp2_with fail
                  exact ⟨⟨q1, by omega, by simp, HZ⟩, by simp [intOf]; omega⟩
              · have d5 : decide (((q + 1 : Nat) : Int) < (M : Int)) = false := decide_eq_false (by omega)
                have hpe : ((List.range t).map (XF E)).Perm ((List.range t).map fun q => XF E (turnI t k q)) := by
                  have := (turn_perm hkN).symm.map (XF E)
                  rwa [List.map_map] at this
                obtain ⟨e1, e2, e3⟩ := HO8.out.a1.uniq HO8.out.a2 hpe
                subst e2; subst e3
                have hO := HO8.out.below HB.out
                have hl2 : l2.length = M := by
                  have h1 := (ordF_perm l2).length_eq
                  rw [← e1, (ordF_perm l).length_eq, ← HNS.out.2.2] at h1
                  exact h1.symm
                have HF2 := Lib.hid (pframes_any hO.p2)
                rw [← e1, ← HNS.out.1, hl2] at HF2
                have HO9 := Lib.hid hO
                have HR9 := Lib.hid (HR8.out.below HB.out)
                clear hpe e1 hO hl2 HB HO8 HR8
                go_wp2_with fail
                refine HF2.out.mono ?_
                rintro e w9 ⟨a9, c9, rfl, hr9, hb9⟩
                have HS := Lib.hid (sameints_any (n := M) (m := M) (c := c8) (d := c9) (HR9.out.below hb9) HNS.out.2.1 (own_rz (l := ns) (a := a9) (c := c9) (B := wr.heap.size) (by rw [HNS.out.2.1]; exact hr9)) HNS.out.2.1 (by omega) (by omega))
                rw [decide_eq_true rfl] at HS
                have HO10 := Lib.hid (HO9.out.below hb9)
                clear hr9 hb9 HR9 HO9 HF2
                go_wp2_with fail
                refine HS.out.mono ?_
                rintro e w10 ⟨rfl, hb10⟩
                have hO := HO10.out.below hb10
                have K1 := Lib.hid (phorizon_any hO.p1)
                have K2 := Lib.hid (phorizon_any hO.p2)
                have K3 := Lib.hid (pforgot_any hO.p1)
                have K4 := Lib.hid (pforgot_any hO.p2)
                have HBF := Lib.hid hO.bel
                have s1 : (h == h) = true := by simp
                have s2 : ((f : Int) == (f : Int)) = true := by simp
                clear hO hb10 HO10 HS
                go_wp2_with fail
                refine K1.out.mono ?_
                rintro e w11 ⟨rfl, rfl⟩
                go_wp2_with fail
                refine K2.out.mono ?_
                rintro e w11 ⟨rfl, rfl⟩
                go_wp2_with fail
                refine K3.out.mono ?_
                rintro e w11 ⟨rfl, rfl⟩
                go_wp2_with fail
                refine K4.out.mono ?_
                rintro e w11 ⟨rfl, rfl⟩
                go_wp2_with fail
                go_ret
                exact ⟨rfl, HBF.out⟩
  · have HP := Lib.hid fun w => pnew_not w kp hk hkp
    clear hk hkp
    go_wp2_with fail
    refine (HP.out _).mono ?_
    rintro e w2 ⟨rfl, rfl⟩
    go_wp2_with fail
    refine (HP.out _).mono ?_
    rintro e w2 ⟨rfl, rfl⟩
    go_wp2_with fail
    go_ret
    exact ⟨rfl, HB1.out⟩
end Go.Proofs.Ytfojhmobnedekaa
