/- The walk of the law PolyValues. Conditions: rows are shorter than 2 to the 47. -/
import Derived.Test.YtokeoodkioobdaaPoly16
namespace Go.Proofs.Ytokeoodkioobdaa
open Go.RowKit

/-- What hands back a row. -/
def RowGive (w w' : World) (res : List Nat) (e : Ending) : Prop := ∃ a n c, e = .returned (.slice a n c) ∧ Hid (RB w' a n c res) ∧ Hid (Below w.heap.size w w') ∧ Hid (∀ g, (Value.slice a n c).ownBlock = some g → w.heap.size ≤ g ∧ g < w'.heap.size)
theorem row_own {w w' : World} {e : Ending} {v : Value} {res : List Nat} (he : e = .returned v) (ho : w'.ownsRow w.heap.size 5 1 v res.length (bs res)) (hs : Small res) (hl : res.length ≤ 140737488351232) (hB : Below w.heap.size w w') : RowGive w w' res e := by
  obtain ⟨a, c, rfl, hr⟩ := own_rb ho hs hl
  exact ⟨a, _, c, he, hr, hB, ho.lt⟩
def TwoGive (w w' : World) (r1 r2 : List Nat) (e : Ending) : Prop := ∃ a n c a' n' c', e = .returned (.tuple #[.slice a n c, .slice a' n' c', .int .i64 0]) ∧ Hid (RB w' a n c r1) ∧ Hid (RB w' a' n' c' r2) ∧ Hid (Below w.heap.size w w') ∧
  Hid (∀ g, (Value.slice a n c).ownBlock = some g → w.heap.size ≤ g ∧ g < w'.heap.size) ∧ Hid (∀ g, (Value.slice a' n' c').ownBlock = some g → w.heap.size ≤ g ∧ g < w'.heap.size) ∧ Hid (∀ g, (Value.slice a n c).ownBlock = some g → (Value.slice a' n' c').ownBlock ≠ some g)
theorem lean_le (l : List Nat) : (lean l).length ≤ l.length := by rw [length_lean]; exact ln_le _ _
theorem Lean_give {w : World} {a : Option Addr} {n c : Nat} {x : List Nat} (h : RB w a n c x) : Calls Try.prog 47 #[.slice a n c] w fun e w' => RowGive w w' (lean x) e :=
  (Lean_any h).mono fun e w' ⟨v, he, ho, hB⟩ => row_own he ho (lean_small h.small) (by have := lean_le x; have := h.len; have := h.most; omega) hB
theorem Add_give {w : World} {a b : Option Addr} {n c m d : Nat} {x y : List Nat} (hx : RB w a n c x) (hy : RB w b m d y) : Calls Try.prog 56 #[.slice a n c, .slice b m d] w fun e w' => RowGive w w' (lean (sumTo x y (max x.length y.length) y.length)) e := by
  have h1 := hx.len
  have h2 := hy.len
  have h3 := hx.most
  have h4 := hy.most
  have h := Add_any (N := max n m) hx hy (by omega) (by omega) (by omega) (by omega)
  rw [h1, h2]
  refine h.mono fun e w' ⟨v, he, ho, hB⟩ => row_own he ho (lean_small (sumTo_small hx.small hy.small (by omega) _ (by omega))) ?_ hB
  have := lean_le (sumTo x y (max n m) m)
  rw [length_sumTo (by omega)] at this
  omega
theorem Mul_give {w : World} {a b : Option Addr} {n c m d : Nat} {x y : List Nat} (hx : RB w a n c x) (hy : RB w b m d y) (h1 : n ≤ 600) (h2 : m ≤ 600) : Calls Try.prog 57 #[.slice a n c, .slice b m d] w fun e w' => ThrGive w w' w.heap.size (conv x y) 0 e := by
  have e1 : mul2 (lean x) (lean y) 2 = conv x y := by rw [mul2_conv (lean_small hx.small)]; exact conv_ext (lean_get x) (lean_get y)
  have h := Mul_ok hx hy (Nat.le_trans (ln_le _ _) h1) (Nat.le_trans (ln_le _ _) h2)
  rw [e1] at h
  refine h.mono fun e w' ⟨v, he, ho, hB⟩ => give_own he ho (conv_small hx.small) ?_ hB
  have := length_conv x y
  have := hx.len
  have := hy.len
  omega
theorem dvAll_len (x y : List Nat) (m : Nat) : (dvAll x y m).1.length ≤ x.length ∧ (dvAll x y m).2.length ≤ x.length := by
  have h := dvTo_len (lean x) y (ln y m - 1) (Gf.inv (y.getD (ln y m - 1) 0)) ((lean x).length - (ln y m - 1)) (dn ((lean x).length - (ln y m - 1)) ((lean x).length - (ln y m - 1)))
  have := lean_le x
  unfold dvAll
  omega
theorem Div_give {w : World} {a b : Option Addr} {n c m d : Nat} {x y : List Nat} (hx : RB w a n c x) (hy : RB w b m d y) (h1 : n ≤ 600) (h2 : m ≤ 600) (h0 : 0 < ln y m) : Calls Try.prog 58 #[.slice a n c, .slice b m d] w fun e w' => TwoGive w w' (lean (dvAll x y m).1) (lean (dvAll x y m).2) e := by
  refine (Div_ok hx hy (Nat.le_trans (ln_le _ _) h1) (Nat.le_trans (ln_le _ _) h2) h0).mono fun e w' ⟨u, v, he, hu, hv, hne, hB⟩ => ?_
  have hl := dvAll_len x y m
  have ha := dvAll_ok hx.small hy.small (by rw [hy.len]; exact h0)
  rw [hy.len] at ha
  have l1 := lean_le (dvAll x y m).1
  have l2 := lean_le (dvAll x y m).2
  have h5 := hx.len
  obtain ⟨a1, c1, rfl, r1⟩ := own_rb hu (lean_small ha.1) (by omega)
  obtain ⟨a2, c2, rfl, r2⟩ := own_rb hv (lean_small ha.2.1) (by omega)
  exact ⟨a1, _, c1, a2, _, c2, he, r1, r2, hB, hu.lt, hv.lt, hne⟩

/-- The laws of the quotient and the rest. -/
theorem far_of_ln (y : List Nat) : ∀ j, ln y y.length - 1 < j → y.getD j 0 = 0 := fun j hj => by
  by_cases h : j < y.length
  · exact ln_above y _ j (by omega) h
  · exact getD_far (by omega)
theorem rest_short {x y : List Nat} (hx : Small x) (hy : Small y) (h0 : 0 < ln y y.length) : (lean (dvAll x y y.length).2).length < (lean y).length := by
  have h := (dvAll_ok hx hy h0).2.2.2
  have := lean_len h
  rw [length_lean y]
  omega
theorem back_same {x y : List Nat} (hx : Small x) (hy : Small y) (h0 : 0 < ln y y.length) : lean (sumTo (conv (lean (dvAll x y y.length).1) y) (lean (dvAll x y y.length).2) (max (conv (lean (dvAll x y y.length).1) y).length (lean (dvAll x y y.length).2).length) (lean (dvAll x y y.length).2).length) = lean x := by
  have h := (dvAll_ok hx hy h0).2.2.1
  refine lean_ext fun j => ?_
  rw [sumTo_all (by omega) (by omega), conv_get, h j]
theorem times_back {x y : List Nat} (hx : Small x) (hy : Small y) (h0 : 0 < ln y y.length) : lean (dvAll (conv x y) y y.length).1 = lean x ∧ lean (dvAll (conv x y) y y.length).2 = [] := by
  obtain ⟨h1, h2, h3, h4⟩ := dvAll_ok (conv_small (p := y) hx) hy h0
  have h := div_only (x := conv x y) (b := y) (q := lean (dvAll (conv x y) y y.length).1) (q' := x) (r := lean (dvAll (conv x y) y y.length).2) (r' := []) hy (lean_small h1) hx (ln_last y _ h0) (far_of_ln y) (fun j hj => by rw [lean_get]; exact h4 j hj) (fun j _ => getD_far (Nat.zero_le _)) h3 (fun j => by
    rw [conv_get, getD_far (l := []) (Nat.zero_le _), Nat.xor_zero])
  refine ⟨by rw [← lean_lean (dvAll (conv x y) y y.length).1]; exact lean_ext h.1, List.eq_nil_of_length_eq_zero (Nat.le_zero.1 (lean_len fun j _ => ?_))⟩
  rw [← lean_get, h.2 j]; exact getD_far (Nat.zero_le _)
theorem vl_sum {x y : List Nat} {t : Nat} (ht : t < 256) (hx : Small x) (hy : Small y) : vl (lean (sumTo x y (max x.length y.length) y.length)) t = vl x t ^^^ vl y t := by
  have hs := sumTo_small hx hy (N := max x.length y.length) (by omega) y.length (by omega)
  rw [vl_ev ht (lean_small hs), ev_lean ht hs, vl_ev ht hx, vl_ev ht hy]
  exact ev_xor ht hs hx hy fun j => sumTo_all (by omega) (by omega) j
theorem vl_conv {x y : List Nat} {t : Nat} (ht : t < 256) (hx : Small x) (hy : Small y) : vl (conv x y) t = Gf.mul (vl x t) (vl y t) := by
  rw [vl_ev ht (conv_small hx), ev_conv ht hx hy, vl_ev ht hx, vl_ev ht hy]
theorem Value_give {w : World} {a : Option Addr} {n c t : Nat} {x : List Nat} (ht : t < 256) (hx : RB w a n c x) : Calls Try.prog 45 #[.slice a n c, .int .u8 (t : Nat)] w fun e w' => e = .returned (.int .u8 (vl x t : Nat)) ∧ Below w.heap.size w w' := by
  unfold vl; rw [hx.len]; exact Value_any ht hx

set_option maxHeartbeats 1600000 in
set_option maxRecDepth 100000 in
theorem values_great {w : World} {a b : Option Addr} {n m c d t : Nat} {x y : List Nat} (hx : RB w a n c x) (hy : RB w b m d y) (h : 300 < n + m) :
    Calls Try.prog 14 #[.slice a n c, .slice b m d, .int .u8 (t : Nat)] w fun e w' => e = .returned (.bool true) ∧ Below w.heap.size w w' := by
  have hm1 := hx.most
  have hm2 := hy.most
  have hd : decide ((300 : Int) < (n : Int) + (m : Int)) = true := by simp; omega
  clear hx hy
  go_enter Try.func14, Try.ntmps14
  go_wp2_with (go_at_call 41; ((with_reducible refine (awake2 _).mono ?_); rintro e w3 ⟨rfl, hB3⟩; have HB3 := Lib.hid hB3; clear hB3))
  go_ret
  exact ⟨rfl, HB3.out⟩

set_option maxHeartbeats 6000000 in
set_option maxRecDepth 100000 in
theorem values_small {w : World} {a b : Option Addr} {n m c d t : Nat} {x y : List Nat} (ht : t < 256) (hx : RB w a n c x) (hy : RB w b m d y) (h : n + m ≤ 300) :
    Calls Try.prog 14 #[.slice a n c, .slice b m d, .int .u8 (t : Nat)] w fun e w' => e = .returned (.bool true) ∧ Below w.heap.size w w' := by
  have hd : decide ((300 : Int) < (n : Int) + (m : Int)) = false := by simp; omega
  have hxs := hx.small
  have hys := hy.small
  have hxl := hx.len
  have hyl := hy.len
  have hva := vl_lt hxs t
  have hvb := vl_lt hys t
  have HSUM := Lib.hid (vl_sum ht hxs hys)
  have HCNV := Lib.hid (vl_conv ht hxs hys)
  have HX := Lib.hid hx
  have HY := Lib.hid hy
  have HXS := Lib.hid hxs
  have HYS := Lib.hid hys
  have HXL := Lib.hid hxl
  have HYL := Lib.hid hyl
  clear hx hy hxs hys hxl hyl
  go_enter Try.func14, Try.ntmps14
  go_wp2_with fail
  refine (awake2 _).mono ?_
  rintro e w1 ⟨rfl, hB1⟩
  have HB1 := Lib.hid hB1
  clear hB1
  go_wp2_with fail
  refine (new_any _).mono ?_
  rintro e w2 ⟨p, rfl, hp, hf, hB2⟩
  have HB2 := Lib.hid (HB1.out.trans (hB2.mono HB1.out.size))
  have HF2 := Lib.hid hf
  clear hB2 hf hp HB1
  have h3 := Lib.hid (Value_give ht (HX.out.below HB2.out))
  go_wp2_with fail
  refine h3.out.mono ?_
  rintro e w3 ⟨rfl, hB3⟩
  have HB3 := Lib.hid (HB2.out.trans (hB3.mono HB2.out.size))
  have HF3 := Lib.hid (HF2.out.below hB3 HF2.out.lt)
  clear hB3 HB2 HF2 h3
  have h4 := Lib.hid (Value_give ht (HY.out.below HB3.out))
  go_wp2_with fail
  refine h4.out.mono ?_
  rintro e w4 ⟨rfl, hB4⟩
  have HB4 := Lib.hid (HB3.out.trans (hB4.mono HB3.out.size))
  have HF4 := Lib.hid (HF3.out.below hB4 HF3.out.lt)
  clear hB4 HB3 HF3 h4
  have h5 := Lib.hid (Mul_give (HX.out.below HB4.out) (HY.out.below HB4.out) (by omega) (by omega))
  go_wp2_with fail
  refine h5.out.mono ?_
  rintro e w5 ⟨am, lm, cm, rfl, HM5, hB5⟩
  have HB5 := Lib.hid (HB4.out.trans (hB5.out.mono HB4.out.size))
  have HF5 := Lib.hid (HF4.out.below hB5.out HF4.out.lt)
  have hml : lm ≤ 300 := by rw [← HM5.out.len]; have := length_conv x y; rw [HXL.out, HYL.out] at this; omega
  clear hB5 HB4 HF4 h5
  have h6 := Lib.hid (Add_give (HX.out.below HB5.out) (HY.out.below HB5.out))
  go_wp2_with fail
  refine h6.out.mono ?_
  rintro e w6 ⟨asm, ls, cs, rfl, HS6, hB6, _⟩
  have HB6 := Lib.hid (HB5.out.trans (hB6.out.mono HB5.out.size))
  have HF6 := Lib.hid (HF5.out.below hB6.out HF5.out.lt)
  have HM6 := Lib.hid (HM5.out.below hB6.out)
  clear hB6 HB5 HF5 h6 HM5
  have h7 : Hid (Calls Try.prog 45 #[.slice asm ls cs, .int .u8 (t : Nat)] w6 fun e w' => e = .returned (.int .u8 (vl x t ^^^ vl y t : Nat)) ∧ Below w6.heap.size w6 w') := by rw [← HSUM.out]; exact Value_give ht HS6.out
  go_wp2_with fail
  refine h7.out.mono ?_
  rintro e w7 ⟨rfl, hB7⟩
  have HB7 := Lib.hid (HB6.out.trans (hB7.mono HB6.out.size))
  have HF7 := Lib.hid (HF6.out.below hB7 HF6.out.lt)
  have HM7 := Lib.hid (HM6.out.below hB7)
  clear hB7 HB6 HF6 h7 HM6 HS6
  have h24 := Lib.hid (add_any (vl x t) (vl y t) hva hvb)
  go_wp2_with fail
  refine (h24.out _).mono ?_
  rintro e w7' ⟨rfl, rfl⟩
  clear h24
  have h8 : Hid (Calls Try.prog 45 #[.slice am lm cm, .int .u8 (t : Nat)] w7 fun e w' => e = .returned (.int .u8 (Gf.mul (vl x t) (vl y t) : Nat)) ∧ Below w7.heap.size w7 w') := by rw [← HCNV.out]; exact Value_give ht HM7.out
  go_wp2_with fail
  refine h8.out.mono ?_
  rintro e w8 ⟨rfl, hB8⟩
  have HB8 := Lib.hid (HB7.out.trans (hB8.mono HB7.out.size))
  have HF8 := Lib.hid (HF7.out.below hB8 HF7.out.lt)
  have HM8 := Lib.hid (HM7.out.below hB8)
  clear hB8 HB7 HF7 h8 HM7
  have h9 := Lib.hid (mul_any HF8.out hva hvb)
  generalize hma : Gf.mul (vl x t) (vl y t) = ma at *
  clear hma
  generalize vl x t ^^^ vl y t = xa at *
  generalize vl x t = va at *
  generalize vl y t = vb at *
  go_wp2_with fail
  refine h9.out.mono ?_
  rintro e w9 ⟨rfl, q9, rfl⟩
  have HB9 := Lib.hid (below_drewN HB8.out q9)
  have HM9 := Lib.hid (HM8.out.drewN q9)
  clear h9 HB8 HF8 HM8
  have h10 := Lib.hid (lean46_true HM9.out (conv_lean x y))
  go_wp2_with fail
  refine h10.out.mono ?_
  rintro e w10 ⟨rfl, rfl⟩
  clear h10
  by_cases h0 : ln y m = 0
  · have h11 := Lib.hid (Div_zero (HX.out.below HB9.out) (HY.out.below HB9.out) (Nat.le_trans (ln_le _ _) (by omega)) h0)
    have hly0 : (lean y).length = 0 := by rw [length_lean, HYL.out]; exact h0
    have HLY := Lib.hid hly0
    clear h0 hly0
    go_wp2_with fail
    refine h11.out.mono ?_
    rintro e w11 ⟨rfl, hB11⟩
    have HB11 := Lib.hid (HB9.out.trans (hB11.mono HB9.out.size))
    clear hB11 HB9 h11 HM9
    have h12 := Lib.hid (Lean_give (HY.out.below HB11.out))
    go_wp2_with fail
    refine h12.out.mono ?_
    rintro e w12 ⟨al, ll, cl, rfl, HL12, hB12, _⟩
    have HB12 := Lib.hid (HB11.out.trans (hB12.out.mono HB11.out.size))
    obtain rfl : ll = 0 := by rw [← HL12.out.len]; exact HLY.out
    clear hB12 HB11 h12
    go_wp2_with fail
    go_ret
    exact ⟨rfl, HB12.out⟩
  · have h0 : 0 < ln y m := by omega
    have h0' : 0 < ln y y.length := by rw [HYL.out]; exact h0
    have hrs := rest_short HXS.out HYS.out h0'
    have hbk := back_same HXS.out HYS.out h0'
    have htb := times_back HXS.out HYS.out h0'
    rw [HYL.out] at hrs hbk htb
    have HRS := Lib.hid hrs
    have HBK := Lib.hid hbk
    have HTBK := Lib.hid htb
    have H0 := Lib.hid h0
    clear h0 h0' hrs hbk htb
    have h11 := Lib.hid (Div_give (HX.out.below HB9.out) (HY.out.below HB9.out) (by omega) (by omega) H0.out)
    go_wp2_with fail
    refine h11.out.mono ?_
    rintro e w11 ⟨ad, ld, cd, ar, lr, cr, rfl, HD11, HR11, hB11, _⟩
    have HB11 := Lib.hid (HB9.out.trans (hB11.out.mono HB9.out.size))
    have HM11 := Lib.hid (HM9.out.below hB11.out)
    have hld : ld ≤ 300 := by rw [← HD11.out.len]; have := lean_le (dvAll x y m).1; have := (dvAll_len x y m).1; rw [HXL.out] at this; omega
    clear hB11 HB9 h11 HM9
    have h12 := Lib.hid (Lean_give (HY.out.below HB11.out))
    go_wp2_with fail
    refine h12.out.mono ?_
    rintro e w12 ⟨al, ll, cl, rfl, HL12, hB12, _⟩
    have HB12 := Lib.hid (HB11.out.trans (hB12.out.mono HB11.out.size))
    have HM12 := Lib.hid (HM11.out.below hB12.out)
    have HD12 := Lib.hid (HD11.out.below hB12.out)
    have HR12 := Lib.hid (HR11.out.below hB12.out)
    have hll : 0 < ll := by rw [← HL12.out.len, length_lean, HYL.out]; exact H0.out
    have hllb : ((ll : Int) == 0) = false := by simp; omega
    have hlli : ¬ (ll : Int) = 0 := by omega
    clear hB12 HB11 h12 HM11 HD11 HR11 HL12
    have h13 := Lib.hid (Mul_give HD12.out (HY.out.below HB12.out) (by omega) (by omega))
    go_wp2_with fail
    refine h13.out.mono ?_
    rintro e w13 ⟨ab, lb, cb, rfl, HBB13, hB13⟩
    have HB13 := Lib.hid (HB12.out.trans (hB13.out.mono HB12.out.size))
    have HM13 := Lib.hid (HM12.out.below hB13.out)
    have HD13 := Lib.hid (HD12.out.below hB13.out)
    have HR13 := Lib.hid (HR12.out.below hB13.out)
    clear hB13 HB12 h13 HM12 HD12 HR12 hll
    have h14 := Lib.hid (Div_give HM13.out (HY.out.below HB13.out) (by omega) (by omega) H0.out)
    rw [HTBK.out.1, HTBK.out.2] at h14
    go_wp2_with fail
    refine h14.out.mono ?_
    rintro e w14 ⟨ac, lc, cc, az, lz, cz, rfl, HC14, HZ14, hB14, _⟩
    obtain rfl : lz = 0 := HZ14.out.len.symm
    have HB14 := Lib.hid (HB13.out.trans (hB14.out.mono HB13.out.size))
    have HD14 := Lib.hid (HD13.out.below hB14.out)
    have HR14 := Lib.hid (HR13.out.below hB14.out)
    have HBB14 := Lib.hid (HBB13.out.below hB14.out)
    clear hB14 HB13 h14 HM13 HD13 HR13 HBB13 HZ14
    have h15 := Lib.hid (Lean_give (HY.out.below HB14.out))
    go_wp2_with fail
    refine h15.out.mono ?_
    rintro e w15 ⟨aq, lq, cq, rfl, HL15, hB15, _⟩
    have HB15 := Lib.hid (HB14.out.trans (hB15.out.mono HB14.out.size))
    have HD15 := Lib.hid (HD14.out.below hB15.out)
    have HR15 := Lib.hid (HR14.out.below hB15.out)
    have HBB15 := Lib.hid (HBB14.out.below hB15.out)
    have HC15 := Lib.hid (HC14.out.below hB15.out)
    have hlt : lr < lq := by rw [← HR15.out.len, ← HL15.out.len]; exact HRS.out
    have hltd : decide ((lr : Int) < (lq : Int)) = true := by simp; omega
    have hltn : decide (lr < lq) = true := by simp; omega
    clear hB15 HB14 h15 HD14 HR14 HBB14 HC14 HL15
    have h16 := Lib.hid (lean46_true HR15.out (lean_lean _))
    go_wp2_with fail
    refine h16.out.mono ?_
    rintro e w16 ⟨rfl, rfl⟩
    have h17 := Lib.hid (lean46_true HD15.out (lean_lean _))
    clear h16
    go_wp2_with fail
    refine h17.out.mono ?_
    rintro e w17 ⟨rfl, rfl⟩
    have h18 := Lib.hid (Add_give HBB15.out HR15.out)
    rw [HBK.out] at h18
    clear h17
    go_wp2_with fail
    refine h18.out.mono ?_
    rintro e w18 ⟨ae, le_, ce, rfl, HE18, hB18, _⟩
    have HB18 := Lib.hid (HB15.out.trans (hB18.out.mono HB15.out.size))
    have HC18 := Lib.hid (HC15.out.below hB18.out)
    clear hB18 HB15 h18 HD15 HR15 HBB15 HC15
    have h19 := Lib.hid (Lean_give (HX.out.below HB18.out))
    go_wp2_with fail
    refine h19.out.mono ?_
    rintro e w19 ⟨ag, lg, cg, rfl, HG19, hB19, _⟩
    have HB19 := Lib.hid (HB18.out.trans (hB19.out.mono HB18.out.size))
    have HC19 := Lib.hid (HC18.out.below hB19.out)
    have h20 : Hid (Calls Try.prog 44 #[.slice ae le_ ce, .slice ag lg cg] w19 fun e w' => e = .returned (.bool true) ∧ Drawn w19 w') := (same_any (HE18.out.below hB19.out) HG19.out).mono fun e w' ⟨h1, h2⟩ => ⟨by rw [h1]; simp, h2⟩
    clear hB19 HB18 h19 HC18 HE18 HG19
    go_wp2_with fail
    refine h20.out.mono ?_
    rintro e w20 ⟨rfl, q20, rfl⟩
    have HB20 := Lib.hid (below_drewN HB19.out q20)
    have HC20 := Lib.hid (HC19.out.drewN q20)
    clear h20 HB19 HC19
    have h21 := Lib.hid (Lean_give (HX.out.below HB20.out))
    go_wp2_with fail
    refine h21.out.mono ?_
    rintro e w21 ⟨ah, lh, ch, rfl, HH21, hB21, _⟩
    have HB21 := Lib.hid (HB20.out.trans (hB21.out.mono HB20.out.size))
    have h22 : Hid (Calls Try.prog 44 #[.slice ac lc cc, .slice ah lh ch] w21 fun e w' => e = .returned (.bool true) ∧ Drawn w21 w') := (same_any (HC20.out.below hB21.out) HH21.out).mono fun e w' ⟨h1, h2⟩ => ⟨by rw [h1]; simp, h2⟩
    clear hB21 HB20 h21 HC20 HH21
    go_wp2_with fail
    refine h22.out.mono ?_
    rintro e w22 ⟨rfl, q22, rfl⟩
    have HB22 := Lib.hid (below_drewN HB21.out q22)
    clear h22 HB21
    go_wp2_with fail
    go_ret
    exact ⟨rfl, HB22.out⟩
end Go.Proofs.Ytokeoodkioobdaa
