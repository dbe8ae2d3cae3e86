/- The walks of the rows' laws' awake and of RowsBack. Conditions: none. -/
import Derived.Test.YtokeoodkioobdaaRows9
namespace Go.Proofs.Ytokeoodkioobdaa
open Go.RowKit

theorem RR.congr {w : World} {v : Value} {N : Nat} {X Y : Nat → List Nat} (h : RR w v N X) (e : ∀ i, i < N → Y i = X i) : RR w v N Y := by
  obtain ⟨a, c, rfl, hk⟩ := h.shape
  refine ⟨a, c, rfl, fun k hk1 => ?_⟩
  obtain ⟨b, o, a1, n1, c1, e1, hc, hr⟩ := hk k hk1
  exact ⟨b, o, a1, n1, c1, e1, hc, by rw [e k hk1]; exact hr⟩
theorem below3 (w : World) (o1 o2 o3 : Obj) : Below w.heap.size w (((w.alloc o1).alloc o2).alloc o3) := (((Below.refl _ _).alloc (Nat.le_refl _) _).alloc (by simp) _).alloc (by simp; omega) _

set_option maxHeartbeats 3200000 in
set_option maxRecDepth 100000 in
theorem awake3 (w : World) : Calls Try.prog 67 #[] w fun e w' => e = .returned (.bool true) ∧ Below w.heap.size w w' := by
  have h1 := inv_give (rr_two (w := w) (x0 := 1) (x1 := 1) (y0 := 0) (y1 := 2) (by omega) (by omega) (by omega) (by omega)) (two_M 1 1 0 2).1 (two_M 1 1 0 2).2 aw_rank
  have H1 := Lib.hid h1
  have H2 := Lib.hid fun W : World => inv_sing (rr_two (w := W) (x0 := 1) (x1 := 1) (y0 := 1) (y1 := 1) (by omega) (by omega) (by omega) (by omega)) (two_M 1 1 1 1).1 (two_M 1 1 1 1).2 (by rw [aw_sing]; omega)
  have H3 := Lib.hid fun W : World => rr_two (w := W) (x0 := 1) (x1 := 142) (y0 := 0) (y1 := 142) (by omega) (by omega) (by omega) (by omega)
  have H4 := Lib.hid fun W : World => Rank_any (by omega) (rr_two (w := W) (x0 := 1) (x1 := 1) (y0 := 1) (y1 := 1) (by omega) (by omega) (by omega) (by omega))
  have H4r := Lib.hid (show rankX 2 (twoX 1 1 1 1) = 1 by unfold rankX; rw [if_pos (two_M 1 1 1 1).1, (two_M 1 1 1 1).2]; exact aw_sing)
  have HB0 := Lib.hid fun (W : World) o1 o2 o3 => below3 W o1 o2 o3
  clear h1
  go_enter Try.func67, Try.ntmps67
  go_wp2_with fail
  refine H1.out.mono ?_
  rintro e w1 ⟨g1, rfl, hR1, hB1⟩
  have HB1 := Lib.hid ((HB0.out w _ _ _).trans (hB1.out.mono (HB0.out w _ _ _).size))
  clear hB1 H1
  go_wp2_with fail
  refine (H2.out w1).mono ?_
  rintro e w2 ⟨rfl, hB2⟩
  have HB12 := Lib.hid ((HB0.out w1 _ _ _).trans (hB2.mono (HB0.out w1 _ _ _).size))
  have HB2 := Lib.hid (HB1.out.trans (HB12.out.mono HB1.out.size))
  have HR2 := Lib.hid (hR1.out.below HB12.out)
  clear hB2 H2 hR1 HB12
  go_wp2_with fail
  have hs := (rows_same (by omega) (HR2.out.below (HB0.out w2 _ _ _)) (H3.out w2) aw_inv).mono (R' := fun e w' => e = .returned (.bool true) ∧ Below w2.heap.size w2 w') fun e w' ⟨h1, h2⟩ => ⟨h1, by obtain ⟨q, rfl⟩ := h2; exact below_drewN (HB0.out w2 _ _ _) q⟩
  refine hs.mono ?_
  rintro e w4 ⟨rfl, hB4⟩
  have HB4 := Lib.hid (HB2.out.trans (hB4.mono HB2.out.size))
  clear hB4 HB2 HR2 hs
  go_wp2_with fail
  refine (H4.out w4).mono ?_
  rintro e w5 ⟨rfl, hB5⟩
  have HB5 := Lib.hid (HB4.out.trans (((HB0.out w4 _ _ _).trans (hB5.mono (HB0.out w4 _ _ _).size)).mono HB4.out.size))
  rw [H4r.out]
  clear hB5 HB4
  go_wp2_with fail
  go_ret
  exact ⟨rfl, HB5.out⟩

theorem applyTo_at {X : Nat → List Nat} {v : List Nat} {M k r : Nat} (h : r < k) : Gf.at0 (applyTo X v M k) r = dotTo (X r) v M := by
  unfold Gf.at0 applyTo
  rw [List.getElem?_map, List.getElem?_range h]; rfl
theorem dotTo_xs (x y : List Nat) : ∀ k, dotTo x y k = Gf.xs (fun i => Gf.mul (Gf.at0 x i) (Gf.at0 y i)) k
  | 0 => rfl
  | k + 1 => by show dotTo x y k ^^^ _ = Gf.xs _ k ^^^ Gf.mul (Gf.at0 x k) (Gf.at0 y k); rw [dotTo_xs x y k, at0_getD, at0_getD]
/-- What holds between the law's calls: a list of rows and a row that came in. -/
structure BSt (w0 : World) (a : Option Addr) (N c : Nat) (X : Nat → List Nat) (b : Option Addr) (M d : Nat) (v : List Nat) (w : World) : Prop where
  A : RR w (.slice a N c) N X
  V : RB w b M d v
  B : Below w0.heap.size w0 w
theorem BSt.step {w0 w w' : World} {a b : Option Addr} {N c M d : Nat} {X : Nat → List Nat} {v : List Nat} (h : BSt w0 a N c X b M d v w) (hB : Below w.heap.size w w') : BSt w0 a N c X b M d v w' :=
  ⟨h.A.below hB, h.V.below hB, h.B.trans (hB.mono h.B.size)⟩
theorem rr_first {w : World} {a : Option Addr} {N c : Nat} {X : Nat → List Nat} (h : RR w (.slice a N c) N X) (h0 : 0 < N) : ∃ b o a1 c1, a = some ⟨b, o, none⟩ ∧ w.cell? ⟨b, o, none⟩ = some (.slice a1 (X 0).length c1) ∧ (X 0).length ≤ 140737488351232 := by
  obtain ⟨a', c', e, hX⟩ := h.shape
  injection e with e1 e2 e3
  subst e1; subst e3
  obtain ⟨b1, o1, a1, n1, c1, rfl, hc1, hr1⟩ := hX 0 h0
  exact ⟨b1, o1, a1, c1, rfl, by rw [hr1.len]; exact hc1, by rw [hr1.len]; exact hr1.most⟩
theorem same_give {w : World} {a b : Option Addr} {N c d : Nat} {X Y : Nat → List Nat} (hN : N ≤ 100000) (hx : RR w (.slice a N c) N X) (hy : RR w (.slice b N d) N Y) (he : ∀ i, i < N → X i = Y i) :
    Calls Try.prog 66 #[.slice a N c, .slice b N d] w fun e w' => e = .returned (.bool true) ∧ Below w.heap.size w w' :=
  (rows_same hN hx hy he).mono fun _ _ ⟨h1, h2⟩ => ⟨h1, by obtain ⟨q, rfl⟩ := h2; exact below_drewN (Below.refl _ _) q⟩

set_option maxHeartbeats 3200000 in
set_option maxRecDepth 100000 in
theorem back_great {w : World} {a b : Option Addr} {N c M d : Nat} {X : Nat → List Nat} {v : List Nat} (hN : N ≤ 140737488351232) (h : RR w (.slice a N c) N X) (hv : RB w b M d v) (hz : 900 < szTo N X N + M) :
    Calls Try.prog 19 #[.slice a N c, .slice b M d] w fun e w' => e = .returned (.bool true) ∧ Below w.heap.size w w' := by
  have hm := hv.most
  have H := Lib.hid h
  have HZ := Lib.hid hz
  clear h hv hz
  go_enter Try.func19, Try.ntmps19
  go_wp2_with fail
  refine (awake3 w).mono ?_
  rintro e w1 ⟨rfl, hB1⟩
  have HB1 := Lib.hid hB1
  have hs := size_any hN (H.out.below hB1)
  have HS := Lib.hid hs
  clear hB1 hs
  go_wp2_with fail
  refine HS.out.mono ?_
  rintro e w2 ⟨⟨s, rfl, hs⟩, rfl⟩
  obtain ⟨h1, _, h2⟩ := hs.out
  have h3 : 900 < s + M := by
    by_cases h9 : s ≤ 900
    · have := h2 h9; have := HZ.out; omega
    · omega
  have q : decide ((900 : Int) < (s : Int) + (M : Int)) = true := by simp; omega
  clear h2 HS HZ hs
  go_wp2_with fail
  go_ret
  exact ⟨rfl, HB1.out⟩

set_option maxHeartbeats 6000000 in
set_option maxRecDepth 100000 in
theorem back_small {w : World} {a b : Option Addr} {N c M d : Nat} {X : Nat → List Nat} {v : List Nat} (h : RR w (.slice a N c) N X) (hv : RB w b M d v) (hz : szTo N X N + M ≤ 900) :
    Calls Try.prog 19 #[.slice a N c, .slice b M d] w fun e w' => e = .returned (.bool true) ∧ Below w.heap.size w w' := by
  have hN : N ≤ 900 := by have := szTo_ge N X N; omega
  have hM : M ≤ 900 := by omega
  have HR0 := Lib.hid fun (h0 : 0 < N) => szTo_row N X N 0 h0
  have HZ := Lib.hid hz
  have H0 := Lib.hid (BSt.mk (w0 := w) h hv (Below.refl _ _))
  clear h hv hz
  go_enter Try.func19, Try.ntmps19
  go_wp2_with fail
  refine (awake3 w).mono ?_
  rintro e w1 ⟨rfl, hB1⟩
  have H1 := Lib.hid (H0.out.step hB1)
  have hs := size_any (by omega) H1.out.A
  have HS := Lib.hid hs
  clear hB1 hs H0
  go_wp2_with fail
  refine HS.out.mono ?_
  rintro e w2 ⟨⟨s, rfl, hs⟩, rfl⟩
  obtain ⟨h1, h2, _⟩ := hs.out
  have h3 : s + M ≤ 900 := by have := HZ.out; omega
  have q : decide ((900 : Int) < (s : Int) + (M : Int)) = false := by simp; omega
  clear h2 HS HZ hs
  by_cases hsq : isM N X ∧ colsX N X = N
  · obtain ⟨hx, hxy⟩ := hsq
    have hN5 := hx.1
    have hLen : ∀ i, i < N → (X i).length = N := fun i hi => by rw [isM_len hx i hi, hxy]
    have hrk : ∀ W, BSt w a N c X b M d v W → Hid (Calls Try.prog 71 #[.slice a N c] W fun e w' => e = .returned (.int .i64 (Gf.rdN (cut N X N) N N : Nat)) ∧ Below W.heap.size W w') := fun W hW => by
      have := Rank_any (by omega) hW.A
      unfold rankX at this
      rw [if_pos hx, hxy] at this
      exact this
    have HRK := Lib.hid hrk
    have hle := (Gf.rdN_le (cut N X N) N N).1
    by_cases hr : Gf.rdN (cut N X N) N N < N
    · have HI := Lib.hid (inv_sing H1.out.A hx hxy hr)
      clear hrk hx hxy hLen
      generalize Gf.rdN (cut N X N) N N = m at *
      go_wp2_with fail
      refine HI.out.mono ?_
      rintro e w3 ⟨rfl, hB3⟩
      have H3 := Lib.hid (H1.out.step hB3)
      clear hB3 HI
      go_wp2_with fail
      refine (HRK.out w3 H3.out).out.mono ?_
      rintro e w4 ⟨rfl, hB4⟩
      have H4 := Lib.hid (H3.out.step hB4)
      have d1 : decide ((m : Int) < (N : Int)) = true := by simp; omega
      have d2 : decide (m < N) = true := by simp; omega
      clear hB4
      go_wp2_with fail
      go_ret
      exact ⟨rfl, H4.out.B⟩
    · have hre : Gf.rdN (cut N X N) N N = N := by omega
      have hL := cut_long (W := N) hLen
      have hBy := cut_byt (W := N) H1.out.A.small
      have hboth := Gf.inv_both hL hBy hre
      obtain ⟨hbk1, hbk2⟩ := Gf.inv_back hL hBy hre
      have hIL := Gf.invX_long (cut N X N) N
      have hIB := Gf.invX_byt (cut N X N) N
      have HI := Lib.hid (inv_give H1.out.A hx hxy hre)
      rw [hre] at HRK
      obtain ⟨hm1, hm2⟩ := isM_of (X := Gf.invX (cut N X N) N) hN5 hN5 (fun i _ => hIL i) id
      have hcc : ∀ i, i < N → cut N (Gf.invX (cut N X N) N) N i = Gf.invX (cut N X N) N i := fun i hi => cut_at hi
      have hrI : Gf.rdN (cut N (Gf.invX (cut N X N) N) N) N N = N := by rw [(Gf.rd_congr hcc N).1]; exact hbk1
      have hE1 : ∀ i, i < N → mulX X (Gf.invX (cut N X N) N) N N i = Gf.unitX N i := fun i hi => by
        have := (hboth i hi).1
        rw [cut_at hi] at this
        exact this
      have hE2 : ∀ i, i < N → mulX (Gf.invX (cut N X N) N) X N N i = Gf.unitX N i := fun i hi => by
        have := (hboth i hi).2
        rw [Gf.mmr_congr (B' := X) (fun j hj => cut_at hj)] at this
        exact this
      have hE3 : ∀ i, i < N → Gf.invX (cut N (Gf.invX (cut N X N) N) N) N i = X i := fun i hi => by
        rw [Gf.invX_congr hcc i hi, hbk2 i hi, cut_at hi]
      have hmulA : ∀ W i c2, RR W (.slice (some ⟨i, 0, none⟩) N c2) N (Gf.invX (cut N X N) N) → BSt w a N c X b M d v W → Hid (Calls Try.prog 69 #[.slice a N c, .slice (some ⟨i, 0, none⟩) N c2] W (RowsGive W N (mulX X (Gf.invX (cut N X N) N) N N))) := fun W i c2 hi hW => mul_give hW.A hi hx hm1 hxy hm2
      have hmulB : ∀ W i c2, RR W (.slice (some ⟨i, 0, none⟩) N c2) N (Gf.invX (cut N X N) N) → BSt w a N c X b M d v W → Hid (Calls Try.prog 69 #[.slice (some ⟨i, 0, none⟩) N c2, .slice a N c] W (RowsGive W N (mulX (Gf.invX (cut N X N) N) X N N))) := fun W i c2 hi hW => mul_give hi hW.A hm1 hx hm2 hxy
      have hinvI : ∀ W i c2, RR W (.slice (some ⟨i, 0, none⟩) N c2) N (Gf.invX (cut N X N) N) → Hid (Calls Try.prog 74 #[.slice (some ⟨i, 0, none⟩) N c2] W (RowsGive W N (Gf.invX (cut N (Gf.invX (cut N X N) N) N) N))) := fun W i c2 hi => inv_give hi hm1 hm2 hrI
      have HMA := Lib.hid hmulA
      have HMB := Lib.hid hmulB
      have HII := Lib.hid hinvI
      have HE1 := Lib.hid hE1
      have HE2 := Lib.hid hE2
      have HE3 := Lib.hid hE3
      have HX := Lib.hid (And.intro hx hxy)
      have HM12 := Lib.hid (And.intro hm1 hm2)
      have HAB := Lib.hid (fun (vv : List Nat) (hvv : Small vv) r (hr : r < N) => Gf.apply_back (A := cut N X N) (B := Gf.invX (cut N X N) N) (v := vv) hBy hIB (small_at0.1 hvv) hr (hboth r hr).2)
      clear hrk hx hxy hLen hr hre hL hBy hboth hbk1 hbk2 hIL hIB hm1 hm2 hcc hrI hE1 hE2 hE3 hmulA hmulB hinvI hle
      generalize Gf.invX (cut N X N) N = I at *
      go_wp2_with fail
      refine HI.out.mono ?_
      rintro e w3 ⟨gi, rfl, hR3, hB3⟩
      have H3 := Lib.hid (H1.out.step hB3.out)
      clear hB3 HI H1
      go_wp2_with fail
      refine (unit_give hN5).mono ?_
      rintro e w4 ⟨gu, rfl, hU4, hB4⟩
      have H4 := Lib.hid (H3.out.step hB4.out)
      have HI4 := Lib.hid (hR3.out.below hB4.out)
      clear hB4 H3 hR3
      go_wp2_with fail
      refine (HMA.out w4 gi N HI4.out H4.out).out.mono ?_
      rintro e w5 ⟨gx, rfl, hX5, hB5⟩
      have H5 := Lib.hid (H4.out.step hB5.out)
      have HI5 := Lib.hid (HI4.out.below hB5.out)
      have HU5 := Lib.hid (hU4.out.below hB5.out)
      clear hB5 H4 HI4 hU4 HMA
      go_wp2_with fail
      refine (HMB.out w5 gi N HI5.out H5.out).out.mono ?_
      rintro e w6 ⟨gy, rfl, hY6, hB6⟩
      have H6 := Lib.hid (H5.out.step hB6.out)
      have HI6 := Lib.hid (HI5.out.below hB6.out)
      have HU6 := Lib.hid (HU5.out.below hB6.out)
      have HX6 := Lib.hid (hX5.out.below hB6.out)
      clear hB6 H5 HI5 HU5 hX5 HMB
      go_wp2_with fail
      refine (HII.out w6 gi N HI6.out).out.mono ?_
      rintro e w7 ⟨gb, rfl, hK7, hB7⟩
      have H7 := Lib.hid (H6.out.step hB7.out)
      have HI7 := Lib.hid (HI6.out.below hB7.out)
      have HU7 := Lib.hid (HU6.out.below hB7.out)
      have HX7 := Lib.hid (HX6.out.below hB7.out)
      have HY7 := Lib.hid (hY6.out.below hB7.out)
      clear hB7 H6 HI6 HU6 HX6 hY6 HII
      have qq : ((N : Int) != (N : Int)) = false := by simp
      go_wp2_with fail
      refine (HRK.out w7 H7.out).out.mono ?_
      rintro e w8 ⟨rfl, hB8⟩
      have H8 := Lib.hid (H7.out.step hB8)
      have HI8 := Lib.hid (HI7.out.below hB8)
      have HU8 := Lib.hid (HU7.out.below hB8)
      have HX8 := Lib.hid (HX7.out.below hB8)
      have HY8 := Lib.hid (HY7.out.below hB8)
      have HK8 := Lib.hid (hK7.out.below hB8)
      clear hB8 H7 HI7 HU7 HX7 HY7 hK7
      go_wp2_with fail
      refine (same_give (by omega) HX8.out HU8.out HE1.out).mono ?_
      rintro e w9 ⟨rfl, hB9⟩
      have H9 := Lib.hid (H8.out.step hB9)
      have HI9 := Lib.hid (HI8.out.below hB9)
      have HU9 := Lib.hid (HU8.out.below hB9)
      have HY9 := Lib.hid (HY8.out.below hB9)
      have HK9 := Lib.hid (HK8.out.below hB9)
      clear hB9 H8 HI8 HU8 HX8 HY8 HK8
      go_wp2_with fail
      refine (same_give (by omega) HY9.out HU9.out HE2.out).mono ?_
      rintro e w10 ⟨rfl, hB10⟩
      have H10 := Lib.hid (H9.out.step hB10)
      have HI10 := Lib.hid (HI9.out.below hB10)
      have HK10 := Lib.hid (HK9.out.below hB10)
      clear hB10 H9 HI9 HU9 HY9 HK9
      go_wp2_with fail
      refine (same_give (by omega) HK10.out H10.out.A HE3.out).mono ?_
      rintro e w11 ⟨rfl, hB11⟩
      have H11 := Lib.hid (H10.out.step hB11)
      have HI11 := Lib.hid (HI10.out.below hB11)
      clear hB11 H10 HI10 HK10
      by_cases hMN : M = N
      · subst hMN
        have hvs := H11.out.V.small
        have hap := Apply_ok H11.out.A H11.out.V HX.out.1 HX.out.2
        have HAP := Lib.hid hap
        have HAL := Lib.hid (applyTo_len X v M M)
        have HAS := Lib.hid (applyTo_small (v := v) (M := M) H11.out.A.small)
        have HFIN : Hid (applyTo I (applyTo X v M M) M M = v) := by
          have hvl := H11.out.V.len
          refine Gf.ext0 (by rw [applyTo_len, hvl]) fun r hr => ?_
          rw [applyTo_len] at hr
          rw [← HAB.out v hvs r hr, applyTo_at hr, dotTo_xs]
          exact Gf.xs_congr fun i hi => by rw [applyTo_at hi, dotTo_xs, cut_at hi]
        clear hap hvs
        generalize applyTo X v M M = z at *
        go_wp2_with fail
        refine HAP.out.mono ?_
        rintro e w12 ⟨u, rfl, hu, hB12⟩
        obtain ⟨ua, uc, rfl⟩ := own_slice hu
        have HV12 := Lib.hid (own_rb2 hu HAS.out (by omega))
        have H12 := Lib.hid (H11.out.step hB12)
        have HI12 := Lib.hid (HI11.out.below hB12)
        have HAP2 := Lib.hid (Apply_ok HI12.out HV12.out HM12.out.1 HM12.out.2)
        have HZS := Lib.hid (applyTo_small (v := z) (M := M) HI12.out.small)
        clear hu hB12 HAP H11 HI11
        rw [HFIN.out] at HAP2 HZS
        go_wp2_with fail
        refine HAP2.out.mono ?_
        rintro e w13 ⟨u2, rfl, hu2, hB13⟩
        obtain ⟨ua2, uc2, rfl⟩ := own_slice hu2
        have H13 := Lib.hid (H12.out.step hB13)
        have hsm := same_any (own_rb2 hu2 HZS.out (by omega)) H13.out.V
        have HSM := Lib.hid hsm
        clear hu2 hB13 HAP2 hsm
        go_wp2_with fail
        refine HSM.out.mono ?_
        rintro e w14 ⟨rfl, q14, rfl⟩
        have hdt : decide (v = v) = true := by simp
        go_wp2_with fail
        go_ret
        exact ⟨rfl, below_drewN H13.out.B q14⟩
      · have hap := Apply_bad (by omega) H11.out.A H11.out.V (fun e => hMN (e.2.symm.trans HX.out.2))
        have HAP := Lib.hid hap
        have q1 : ((M : Int) != (N : Int)) = true := by simp; omega
        have q2 : decide (M = N) = false := by simp; omega
        clear hap
        go_wp2_with fail
        refine HAP.out.mono ?_
        rintro e w12 ⟨rfl, rfl⟩
        go_wp2_with fail
        go_ret
        exact ⟨rfl, H11.out.B⟩
  · have HI := Lib.hid (Inverse_bad (by omega) H1.out.A hsq)
    by_cases hx : isM N X
    · have hc : colsX N X ≠ N := fun e => hsq ⟨hx, e⟩
      have h0 : 0 < N := by
        apply Nat.pos_of_ne_zero
        intro e
        subst e
        exact hc rfl
      obtain ⟨b1, o1, a1, c1, rfl, hc1, hl1⟩ := rr_first H1.out.A h0
      have hcx : colsX N X = (X 0).length := by unfold colsX; rw [if_neg (by omega)]
      rw [hcx] at hc
      have hR := Lib.hid (right_yes (by omega) H1.out.A hx)
      have q1 : (((X 0).length : Int) != (N : Int)) = true := by simp; omega
      have q2 : decide ((X 0).length = N) = false := by simp; omega
      have q3 : decide ((0 : Int) < (N : Int)) = true := by simp; omega
      have q4 : decide (0 < N) = true := by simp; omega
      clear hsq hx hcx hc
      generalize (X 0).length = z at *
      go_wp2_with fail
      refine HI.out.mono ?_
      rintro e w3 ⟨rfl, rfl⟩
      go_wp2_with fail
      refine hR.out.mono ?_
      rintro e w4 ⟨rfl, rfl⟩
      go_wp2_with fail
      go_ret
      exact ⟨rfl, H1.out.B⟩
    · have hR := Lib.hid (right_not (by omega) H1.out.A hx)
      clear hsq hx
      go_wp2_with fail
      refine HI.out.mono ?_
      rintro e w3 ⟨rfl, rfl⟩
      go_wp2_with fail
      refine hR.out.mono ?_
      rintro e w4 ⟨rfl, rfl⟩
      go_wp2_with fail
      go_ret
      exact ⟨rfl, H1.out.B⟩
end Go.Proofs.Ytokeoodkioobdaa
