/- The walk of the reference's Div of polynomials. Conditions: rows are shorter than 2 to the 46. -/
import Derived.Test.YtokeoodkioobdaaPoly17
namespace Go.Proofs.Ytokeoodkioobdaa
open Go.RowKit

/-- A term: c at the place p, alone. -/
def term (p c : Nat) : List Nat := (List.replicate (p + 1) 0).set p c
theorem term_len (p c : Nat) : (term p c).length = p + 1 := by simp [term]
theorem term_get (p c j : Nat) : (term p c).getD j 0 = if j = p then c else 0 := by
  unfold term
  rw [getD_set _ _ _ _ (by simp)]
  by_cases e : p = j
  · subst e; rw [if_pos rfl, if_pos rfl]
  · rw [if_neg e, if_neg (fun h => e h.symm), List.getD_eq_getElem?_getD, List.getElem?_replicate]; split <;> rfl
theorem term_small {p c : Nat} (hc : c < 256) : Small (term p c) := fun j => by rw [term_get]; split <;> omega
/-- What holds at the heads of the division's loop. -/
structure RdOk (x b q r : List Nat) : Prop where
  sq : Small q
  sr : Small r
  ql : lean q = q
  rl : lean r = r
  div : DivOf x b q r
  qn : q.length ≤ 600
  rn : r.length ≤ 600
def rdC (b r : List Nat) : Nat := Gf.mul (r.getD (r.length - 1) 0) (Gf.inv (b.getD (b.length - 1) 0))
def rdQ (b q r : List Nat) : List Nat := lean (sumTo q (term (r.length - b.length) (rdC b r)) (max q.length (term (r.length - b.length) (rdC b r)).length) (term (r.length - b.length) (rdC b r)).length)
def rdR (b r : List Nat) : List Nat := lean (sumTo r (conv b (term (r.length - b.length) (rdC b r))) (max r.length (conv b (term (r.length - b.length) (rdC b r))).length) (conv b (term (r.length - b.length) (rdC b r))).length)
theorem rd_start {x y : List Nat} (hx : Small x) (h : (lean x).length ≤ 600) : RdOk x (lean y) [] (lean x) :=
  ⟨Small.nil, lean_small hx, rfl, lean_lean _, fun j => by
    rw [lean_get, show cv (cf []) (cf (lean y)) j = 0 from sm_zero _ fun i _ => by show Gf.mul (([] : List Nat).getD _ 0) _ = 0; rw [getD_far (Nat.zero_le _), Gf.zero_mul], Nat.zero_xor], Nat.zero_le _, h⟩
theorem rd_step {x b q r : List Nat} (h : RdOk x b q r) (hb : Small b) (hb0 : 0 < b.length) (hbl : b.getD (b.length - 1) 0 ≠ 0) (hlt : b.length ≤ r.length) : RdOk x b (rdQ b q r) (rdR b r) ∧ (rdR b r).length < r.length := by
  have hc : rdC b r < 256 := Gf.mul_lt (h.sr _)
  have hcc : r.getD (r.length - 1) 0 ^^^ Gf.mul (rdC b r) (b.getD (b.length - 1) 0) = 0 := cancel (h.sr _) (hb _) hbl
  obtain ⟨p, hp⟩ : ∃ p, p = r.length - b.length := ⟨_, rfl⟩
  have hQ : ∀ j, (rdQ b q r).getD j 0 = q.getD j 0 ^^^ (if j = p then rdC b r else 0) := fun j => by
    unfold rdQ; rw [lean_get, sumTo_all (by omega) (by omega), term_get, ← hp]
  have hT : ∀ j, (conv b (term p (rdC b r))).getD j 0 = if p ≤ j then Gf.mul (rdC b r) (b.getD (j - p) 0) else 0 := fun j => by
    rw [conv_get, cv_comm hb (term_small hc), cv_congr (f := cf (term p (rdC b r))) (f' := fun i => if i = p then rdC b r else 0) (g' := cf b) (fun i => term_get _ _ _) (fun _ => rfl), cv_term]
  have hR : ∀ j, (rdR b r).getD j 0 = r.getD j 0 ^^^ (if p ≤ j then Gf.mul (rdC b r) (b.getD (j - p) 0) else 0) := fun j => by
    unfold rdR; rw [lean_get, sumTo_all (by omega) (by omega), ← hp, hT]
  have hlen : (rdR b r).length ≤ r.length - 1 := by
    have := lean_len (zs := rdR b r) (n := r.length - 1) fun j hj => by
      rw [hR, if_pos (by omega)]
      by_cases e : j = r.length - 1
      · subst e; rw [show r.length - 1 - p = b.length - 1 by omega]; exact hcc
      · rw [getD_far (l := r) (by omega), getD_far (l := b) (by omega), Gf.mul_zero]; rfl
    have e : lean (rdR b r) = rdR b r := lean_lean _
    rwa [e] at this
  have hqn : (rdQ b q r).length ≤ max q.length (p + 1) := by
    have := lean_len (zs := rdQ b q r) (n := max q.length (p + 1)) fun j hj => by
      rw [hQ, getD_far (l := q) (by omega), if_neg (by omega)]; rfl
    have e : lean (rdQ b q r) = rdQ b q r := lean_lean _
    rwa [e] at this
  have h1 := h.qn
  have h2 := h.rn
  refine ⟨⟨lean_small (sumTo_small h.sq (term_small hc) (by omega) _ (by omega)), lean_small (sumTo_small h.sr (conv_small hb) (by omega) _ (by omega)), lean_lean _, lean_lean _, fun j => ?_, by omega, by omega⟩, by omega⟩
  rw [hR, cv_more h.sq hc hQ, h.div j, Gf.xor4, Nat.xor_self, Nat.xor_zero]
/-- Where the loop ends the two are the program's. -/
theorem rd_end {x y q r : List Nat} (hx : Small x) (hy : Small y) (h0 : 0 < ln y y.length) (h : RdOk x (lean y) q r) (hlt : r.length < (lean y).length) : q = lean (dvAll x y y.length).1 ∧ r = lean (dvAll x y y.length).2 := by
  obtain ⟨h1, h2, h3, h4⟩ := dvAll_ok hx hy h0
  have hl := length_lean y
  have hd : DivOf x y q r := fun j => by rw [h.div j]; congr 1; exact cv_congr (fun _ => rfl) (fun i => lean_get y i) j
  have e := div_only (x := x) (b := y) (q := q) (q' := lean (dvAll x y y.length).1) (r := r) (r' := lean (dvAll x y y.length).2) hy h.sq (lean_small h1) (ln_last y _ h0) (far_of_ln y) (fun j hj => getD_far (by omega)) (fun j hj => by rw [lean_get]; exact h4 j hj) hd h3
  exact ⟨by rw [← h.ql, ← lean_lean (dvAll x y y.length).1]; exact lean_ext e.1, by rw [← h.rl, ← lean_lean (dvAll x y y.length).2]; exact lean_ext e.2⟩

def slLen : Value → Nat
  | .slice _ n _ => n
  | _ => 0
theorem rAdd_give {w : World} {a b : Option Addr} {n c m d : Nat} {x y : List Nat} (hx : RB w a n c x) (hy : RB w b m d y) : Calls Try.prog 61 #[.slice a n c, .slice b m d] w fun e w' => RowGive w w' (lean (sumTo x y (max x.length y.length) y.length)) e := by
  have h1 := hx.len
  have h2 := hy.len
  have h3 := hx.most
  have h4 := hy.most
  have h := rAdd_any (N := max n m) hx hy (by omega) (by omega) (by omega) (by omega)
  rw [h1, h2]
  refine h.mono fun e w' ⟨v, he, ho, hB⟩ => row_own he ho (lean_small (sumTo_small hx.small hy.small (by omega) _ (by omega))) ?_ hB
  have := lean_le (sumTo x y (max n m) m)
  rw [length_sumTo (by omega)] at this
  omega
theorem rLean_give {w : World} {a : Option Addr} {n c : Nat} {x : List Nat} (h : RB w a n c x) : Calls Try.prog 62 #[.slice a n c] w fun e w' => RowGive w w' (lean x) e :=
  (rLean_any h).mono fun e w' ⟨v, he, ho, hB⟩ => row_own he ho (lean_small h.small) (by have := lean_le x; have := h.len; have := h.most; omega) hB
theorem product_give {w : World} {a b : Option Addr} {n c m d : Nat} {p q : List Nat} (hp : RB w a n c p) (hq : RB w b m d q) (hs : n + m ≤ 1000000) : Calls Try.prog 91 #[.slice a n c, .slice b m d] w fun e w' => RowGive w w' (conv q p) e :=
  (product_any hp hq hs).mono fun e w' ⟨v, he, ho, hB⟩ => row_own he ho (conv_small hq.small) (by have := length_conv q p; have := hp.len; have := hq.len; omega) hB
end Go.Proofs.Ytokeoodkioobdaa

/- The walk of the reference's Div of polynomials. Conditions: rows are shorter than 2 to the 46. -/
namespace Go.Proofs.Ytokeoodkioobdaa
open Go.RowKit

set_option maxHeartbeats 1600000 in
set_option maxRecDepth 100000 in
theorem rDiv_early {w : World} {a b : Option Addr} {n c m d : Nat} {x y : List Nat} {er : Int} (hx : RB w a n c x) (hy : RB w b m d y) (h : (er = 3 ∧ (600 < ln x n ∨ 600 < ln y m)) ∨ (er = 6 ∧ ln x n ≤ 600 ∧ ln y m = 0)) :
    Calls Try.prog 60 #[.slice a n c, .slice b m d] w fun e w' => e = .returned (.tuple #[.slice none 0 0, .slice none 0 0, .int .i64 er]) ∧ Below w.heap.size w w' := by
  have hl : (er = 3 ∧ (600 < (lean x).length ∨ 600 < (lean y).length)) ∨ (er = 6 ∧ (lean x).length ≤ 600 ∧ (lean y).length = 0) := by rw [length_lean, hx.len, length_lean, hy.len]; exact h
  have hm1 := hx.most
  have hm2 := hy.most
  have hb1 := lean_bound hx
  have hb2 := lean_bound hy
  have HX := Lib.hid hx
  have HY := Lib.hid hy
  clear hx hy h
  go_enter Try.func60, Try.ntmps60
  go_wp2_with fail
  refine (rLean_give HX.out).mono ?_
  rintro e w1 ⟨a1, lx, c1, rfl, HR1, HB1, _⟩
  go_wp2_with fail
  refine (rLean_give (HY.out.below HB1.out)).mono ?_
  rintro e w2 ⟨a2, ly, c2, rfl, HR2, HB2, _⟩
  have HB := Lib.hid (HB1.out.trans (HB2.out.mono HB1.out.size))
  rw [HR1.out.len, HR2.out.len] at hl
  rw [HR1.out.len] at hb1
  rw [HR2.out.len] at hb2
  by_cases h1 : 600 < lx
  · obtain rfl : er = 3 := by omega
    have d3 : decide ((600 : Int) < (lx : Int)) = true := by simp; omega
    clear hl h1
    go_wp2_with fail
    go_ret3
    exact ⟨rfl, HB.out⟩
  · have d3 : decide ((600 : Int) < (lx : Int)) = false := by simp; omega
    by_cases h2 : 600 < ly
    · obtain rfl : er = 3 := by omega
      have d4 : decide ((600 : Int) < (ly : Int)) = true := by simp; omega
      clear hl h1 h2
      go_wp2_with fail
      go_ret3
      exact ⟨rfl, HB.out⟩
    · obtain rfl : er = 6 := by omega
      obtain rfl : ly = 0 := by omega
      clear hl h1 h2
      go_wp2_with fail
      go_ret3
      exact ⟨rfl, HB.out⟩

set_option maxHeartbeats 6000000 in
set_option maxRecDepth 100000 in
theorem rDiv_ok {w : World} {a b : Option Addr} {n c m d : Nat} {x y : List Nat} (hx : RB w a n c x) (hy : RB w b m d y) (h1 : ln x n ≤ 600) (h2 : ln y m ≤ 600) (h3 : 0 < ln y m) :
    Calls Try.prog 60 #[.slice a n c, .slice b m d] w fun e w' => ∃ a n c a' n' c', e = .returned (.tuple #[.slice a n c, .slice a' n' c', .int .i64 0]) ∧ Hid (RB w' a n c (lean (dvAll x y m).1)) ∧ Hid (RB w' a' n' c' (lean (dvAll x y m).2)) ∧ Hid (Below w.heap.size w w') := by
  obtain ⟨i0, hi, hz0, hz1, hz2⟩ := info_parts info5
  have hl1 : (lean x).length ≤ 600 := by rw [length_lean, hx.len]; exact h1
  have hl2 : (lean y).length ≤ 600 := by rw [length_lean, hy.len]; exact h2
  have hl3 : 0 < (lean y).length := by rw [length_lean, hy.len]; exact h3
  have hlast : (lean y).getD ((lean y).length - 1) 0 ≠ 0 := by rw [lean_get]; exact lean_last hl3
  have hend : ∀ q r, RdOk x (lean y) q r → r.length < (lean y).length → q = lean (dvAll x y m).1 ∧ r = lean (dvAll x y m).2 := fun q r h hlt => by
    have := rd_end hx.small hy.small (by rw [hy.len]; exact h3) h hlt
    rwa [hy.len] at this
  have HST := Lib.hid (rd_start hx.small (y := y) hl1)
  have hys := lean_small hy.small
  have HE := Lib.hid hend
  have HX := Lib.hid hx
  have HY := Lib.hid hy
  clear hx hy h1 h2 h3 hend
  go_enter Try.func60, Try.ntmps60
  go_wp2_with fail
  refine (rLean_any HX.out).mono ?_
  rintro e w1 ⟨v1, rfl, hown1, hB1⟩
  have HB1 := Lib.hid hB1
  have HO1 := Lib.hid hown1
  obtain ⟨a1, c1, rfl, hr1⟩ := own_rb hown1 (lean_small HX.out.small) (by omega)
  clear hB1 hown1 hr1
  go_wp2_with fail
  refine (rLean_give (HY.out.below HB1.out)).mono ?_
  rintro e w2 ⟨a2, lb, c2, rfl, HRb, HB2, _⟩
  have HB := Lib.hid (HB1.out.trans (HB2.out.mono HB1.out.size))
  have HO := Lib.hid (own_below HO1.out HB2.out)
  have hlb := HRb.out.len
  have d3 : decide ((600 : Int) < ((lean x).length : Int)) = false := by simp; omega
  have d3' : decide (600 < (lean x).length) = false := by simp; omega
  rw [hlb] at hl2 hl3 hlast
  have d4 : decide ((600 : Int) < (lb : Int)) = false := by simp; omega
  have d5 : ((lb : Int) == 0) = false := by simp; omega
  have HLB := Lib.hid hlb
  have HLAST := Lib.hid hlast
  have HYS := Lib.hid hys
  have hsz2 : w.heap.size ≤ w2.heap.size := HB.out.size
  clear hlb hlast hys HB1 HO1
  obtain ⟨lx, hlx⟩ : ∃ lx, lx = (lean x).length := ⟨_, rfl⟩
  rw [← hlx] at d3 d3' HO ⊢
  have HLX := Lib.hid hlx
  clear hlx hl1
  go_wp2_with fail
  go_loopw [7, 9] (fun rv qv wr => ∃ q r : List Nat, Hid (RdOk x (lean y) q r) ∧ (∃ ar cr, rv = .slice ar r.length cr ∧ Hid (RB wr ar r.length cr r)) ∧ (∃ aq cq, qv = .slice aq q.length cq ∧ Hid (RB wr aq q.length cq q)) ∧ Below w2.heap.size w2 wr) (fun rv _ _ => slLen rv)
  case atStart =>
    rw [HLX.out]
    have ho := HO.out
    rw [HLX.out] at ho
    obtain ⟨a', c', e', hr'⟩ := own_rb ho (lean_small HX.out.small) (by have := HST.out.rn; omega)
    injection e' with e1 e2 e3
    subst e1; subst e3
    exact ⟨[], lean x, HST, ⟨_, _, rfl, hr'⟩, ⟨none, 0, rfl, ⟨rfl, Nat.le_refl _, Nat.zero_le _, Small.nil, fun _ => rfl, fun i hi => absurd hi (Nat.not_lt_zero _)⟩⟩, Below.refl _ _⟩
  case round =>
    obtain ⟨q, r, hok, ⟨ar, cr, rfl, hrr⟩, ⟨aq, cq, rfl, hrq⟩, hBr⟩ := hrel
    have HBr := Lib.hid hBr
    have hrn := hok.out.rn
    have hqn := hok.out.qn
    by_cases hlt : r.length < lb
    · have he := HE.out q r hok.out (by rw [HLB.out]; exact hlt)
      obtain ⟨e1, e2⟩ := he
      have HQ : Hid (RB wr aq q.length cq (lean (dvAll x y m).1)) := by rw [← e1]; exact hrq
      have HR : Hid (RB wr ar r.length cr (lean (dvAll x y m).2)) := by rw [← e2]; exact hrr
      have d6 : decide ((lb : Int) ≤ (r.length : Int)) = false := by simp; omega
      have d7 : ¬ (lb : Int) ≤ (r.length : Int) := by omega
      clear e1 e2 hBr hlt hrr hrq hok
      generalize r.length = lr at *
      generalize q.length = lq at *
      go_wp2_with fail
      go_ret3
      exact ⟨_, _, _, _, _, _, rfl, HQ, HR, HB.out.trans (HBr.out.mono hsz2)⟩
    · have hstep := rd_step hok.out HYS.out (by rw [HLB.out]; exact hl3) (by rw [HLB.out]; exact HLAST.out) (by rw [HLB.out]; omega)
      have HSTEP := Lib.hid hstep
      have d6 : decide ((lb : Int) ≤ (r.length : Int)) = true := by simp; omega
      have d7 : (lb : Int) ≤ (r.length : Int) := by omega
      have hrb := HRb.out.below hBr
      have hc : rdC (lean y) r < 256 := Gf.mul_lt (hok.out.sr _)
      have hcd : Gf.mul (r.getD (r.length - 1) 0) (Gf.inv ((lean y).getD (lb - 1) 0)) = rdC (lean y) r := by unfold rdC; rw [HLB.out]
      obtain ⟨k, hk⟩ : ∃ k, r.length = k + 1 := ⟨r.length - 1, by omega⟩
      obtain ⟨kb, hkb⟩ : ∃ kb, lb = kb + 1 := ⟨lb - 1, by omega⟩
      obtain ⟨b1, o1, rfl, hc1⟩ := hrr.out.at_ k (by omega)
      obtain ⟨b2, o2, rfl, hc2⟩ := hrb.at_ kb (by omega)
      have hrs := hok.out.sr k
      have hbs := HYS.out kb
      have hbn : (lean y).getD kb 0 ≠ 0 := by have := HLAST.out; rwa [show lb - 1 = kb by omega] at this
      rw [show r.length - 1 = k by omega, show lb - 1 = kb by omega] at hcd
      have h35 : ∀ W, Hid (Calls Try.prog 35 #[.int .u8 (r.getD k 0 : Nat), .int .u8 ((lean y).getD kb 0 : Nat)] W fun e w' => e = .returned (.tuple #[.int .u8 (rdC (lean y) r : Nat), .int .i64 0]) ∧ W = w') := fun W => by rw [← hcd]; exact rdiv_pos hrs hbs hbn W
      have H35 := Lib.hid h35
      obtain ⟨P, hP⟩ : ∃ P, P = r.length - lb := ⟨_, rfl⟩
      have hQdef : rdQ (lean y) q r = lean (sumTo q (term P (rdC (lean y) r)) (max q.length (term P (rdC (lean y) r)).length) (term P (rdC (lean y) r)).length) := by unfold rdQ; rw [HLB.out, ← hP]
      have hRdef : rdR (lean y) r = lean (sumTo r (conv (lean y) (term P (rdC (lean y) r))) (max r.length (conv (lean y) (term P (rdC (lean y) r))).length) (conv (lean y) (term P (rdC (lean y) r))).length) := by unfold rdR; rw [HLB.out, ← hP]
      have hts := term_small (p := P) hc
      have hcl := length_conv (lean y) (term P (rdC (lean y) r))
      rw [term_len, HLB.out] at hcl
      have HQD := Lib.hid hQdef
      have HRD := Lib.hid hRdef
      have HTS := Lib.hid hts
      have HRR := hrr
      have HRQ := hrq
      have HRB2 := Lib.hid hrb
      have hszr : w2.heap.size ≤ wr.heap.size := hBr.size
      have hP1 : P ≤ 600 := by omega
      have hPi : (r.length : Int) - (lb : Int) + 1 = ((P + 1 : Nat) : Int) := by omega
      have hw1 : IntKind.i64.wrap ((r.length : Int) - 1) = (k : Int) := by rw [show (r.length : Int) - 1 = (k : Int) by omega]; exact IntWalk.i64_in _ (by omega)
      have hw2 : IntKind.i64.wrap ((lb : Int) - 1) = (kb : Int) := by rw [show (lb : Int) - 1 = (kb : Int) by omega]; exact IntWalk.i64_in _ (by omega)
      have hi1 : (0 : Int) ≤ (k : Int) := by omega
      have hi2 : (k : Int) < (r.length : Int) := by omega
      have hi3 : (0 : Int) ≤ (kb : Int) := by omega
      have hi4 : (kb : Int) < (lb : Int) := by omega
      have hi5 : k < r.length := by omega
      have hi6 : kb < lb := by omega
      have hPp : ((P + 1 : Nat) : Int) - 1 = (P : Int) := by omega
      clear hcd hrs hbs hbn h35 hQdef hRdef hts hrr hrq hrb hstep hBr hlt hP hk hkb
      generalize rdC (lean y) r = cc at *
      generalize r.getD k 0 = rk at *
      generalize (lean y).getD kb 0 = bk at *
      generalize hlr : r.length = lr at *
      generalize hlq : q.length = lq at *
      have HLRQ := Lib.hid (And.intro hlr hlq)
      clear hlr hlq
      go_wp2_with fail
      go_quiet ((go_at_call 35; exact quiet_same (H35.out _).out))
      clear hc1 hc2 H35
      go_wp2_with (refine wpList_make_full _ rfl (.tmp 54) (.tmp 54) 31 rfl wr.heap.size 5 i0 (.int .u8 0) 1 Try.underlying31 hi hz0 hz1 .i64 .i64 _ _ (P + 1) rfl rfl (by omega) (by omega) ?_ ?_ (Nat.le_refl _) ?_)
      · rw [hz2]; omega
      · unfold maxLen; omega
      intro w3 hown hg3
      have hB3 : Below wr.heap.size wr w3 := (below_drewN (Below.refl _ _) _).grown hg3 (Nat.le_refl _) (fun j e => by cases e)
      have hoz := own_zeros hown
      have hoc := own_cell hoz (i := P) (by omega)
      have hc3 := hoc.1
      have hf3 := hoc.2
      have hst := own_set (i := P) (x := cc) hoz
      have HST := Lib.hid (show World.ownsRow _ _ 5 1 _ _ (bs (term P cc)) from hst)
      have hBs := hB3.setCell (p := ⟨wr.heap.size, P, none⟩) (Nat.le_refl _) (.int .u8 (cc : Nat))
      have HBS := Lib.hid hBs
      clear hown hg3 hB3 hoz hoc hst hBs
      go_wp2_with fail
      generalize hW1 : World.setCell w3 ⟨wr.heap.size, P, none⟩ (.int .u8 (cc : Nat)) = W1 at *
      clear hW1 hc3 hf3
      obtain ⟨a', c', e', hr'⟩ := own_rb HST.out HTS.out (by omega)
      have HTR : Hid (RB W1 (some ⟨wr.heap.size, 0, none⟩) (P + 1) (P + 1) (term P cc)) := Lib.hid (by injection e' with e1 e2 e3; subst e1; subst e3; exact hr')
      clear hr' e'
      have h61 : Calls Try.prog 61 #[.slice aq lq cq, .slice (some ⟨wr.heap.size, 0, none⟩) (P + 1) (P + 1)] W1 fun e w' => RowGive W1 w' (rdQ (lean y) q r) e := by
        have h := rAdd_give (HRQ.out.below HBS.out) HTR.out
        rw [HLRQ.out.2] at h
        rw [HQD.out]
        exact h
      refine h61.mono ?_
      rintro e w4 ⟨aq2, nq2, cq2, rfl, HQ2, HB4, _⟩
      have hBr4 := HBS.out.trans (HB4.out.mono HBS.out.size)
      have HBR4 := Lib.hid hBr4
      have h91 := product_give (HTR.out.below HB4.out) (HRB2.out.below hBr4) (by omega)
      have H91 := Lib.hid h91
      clear h61 h91 hBr4
      go_wp2_with fail
      refine H91.out.mono ?_
      rintro e w5 ⟨ac, nc, cc5, rfl, HC5, HB5, _⟩
      have hBr5 := HBR4.out.trans (HB5.out.mono HBR4.out.size)
      have HBR5 := Lib.hid hBr5
      have h61b : Calls Try.prog 61 #[.slice (some ⟨b1, o1, none⟩) lr cr, .slice ac nc cc5] w5 fun e w' => RowGive w5 w' (rdR (lean y) r) e := by
        have h := rAdd_give (HRR.out.below hBr5) HC5.out
        rw [HLRQ.out.1] at h
        rw [HRD.out]
        exact h
      have H61 := Lib.hid h61b
      clear h61b hBr5
      go_wp2_with fail
      refine H61.out.mono ?_
      rintro e w6 ⟨ar2, nr2, cr2, rfl, HR2, HB6, _⟩
      have hBr6 := HBR5.out.trans (HB6.out.mono HBR5.out.size)
      have HBR6 := Lib.hid hBr6
      have hq6 := HQ2.out.below (HB5.out.trans (HB6.out.mono HB5.out.size))
      have hlq := hq6.len
      have hlr := HR2.out.len
      subst hlq
      subst hlr
      have HQ6 := Lib.hid hq6
      clear hBr6 hq6
      go_wp2_with fail
      go_roundw
      case rel => exact ⟨_, _, Lib.hid HSTEP.out.1, ⟨_, _, rfl, HR2⟩, ⟨_, _, rfl, HQ6⟩, HBr.out.trans (HBR6.out.mono (by omega))⟩
      case measure => exact HSTEP.out.2
end Go.Proofs.Ytokeoodkioobdaa
