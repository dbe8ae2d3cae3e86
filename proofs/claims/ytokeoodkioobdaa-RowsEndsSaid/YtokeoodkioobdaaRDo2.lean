/- The walk of the law RowsDo. No condition but the rows' places. -/
import Derived.Test.YtokeoodkioobdaaRDo1
namespace Go.Proofs.Ytokeoodkioobdaa
open Go.RowKit

set_option maxHeartbeats 3200000 in
set_option maxRecDepth 100000 in
theorem rdo_great {w : World} {a b v : Option Addr} {N c M d m e : Nat} {X Y : Nat → List Nat} {l : List Nat} {n : Int} (hN : N ≤ 140737488351232) (hM : M ≤ 140737488351232) (hx : RR w (.slice a N c) N X) (hy : RR w (.slice b M d) M Y) (hv : RB w v m e l) (hz : 900 < szTo N X N + szTo M Y M + m) :
    Calls Try.prog 17 #[.slice a N c, .slice b M d, .slice v m e, .int .i64 n] w fun e w' => e = .returned (.bool true) ∧ Below w.heap.size w w' := by
  have hm := hv.most
  have HX := Lib.hid (size_any hN hx)
  have HY := Lib.hid (size_any hM hy)
  have HZ := Lib.hid hz
  clear hx hy hv hz
  go_enter Try.func17, Try.ntmps17
  go_wp2_with fail
  refine HX.out.mono ?_
  rintro e w1 ⟨⟨s, rfl, hs⟩, rfl⟩
  obtain ⟨h1, _, h2⟩ := hs.out
  have HS := Lib.hid h2
  clear h2 hs HX
  go_wp2_with fail
  refine HY.out.mono ?_
  rintro e w2 ⟨⟨t, rfl, ht⟩, rfl⟩
  obtain ⟨h3, _, h4⟩ := ht.out
  have h5 : 900 < s + t + m := by
    have h2 := HS.out
    have := HZ.out
    by_cases h9 : s ≤ 900
    · by_cases h8 : t ≤ 900
      · have := h2 h9; have := h4 h8; omega
      · omega
    · omega
  have q : decide ((900 : Int) < (s : Int) + (t : Int) + (m : Int)) = true := by simp; omega
  clear h4 ht HY HS HZ
  go_wp2_with fail
  refine (awake3 w).mono ?_
  rintro e w3 ⟨rfl, hB3⟩
  have HB3 := Lib.hid hB3
  clear hB3
  go_wp2_with fail
  go_ret
  exact ⟨rfl, HB3.out⟩

set_option maxHeartbeats 6000000 in
set_option maxRecDepth 100000 in
theorem rdo_small {w : World} {a b v : Option Addr} {N c M d m e : Nat} {X Y : Nat → List Nat} {l : List Nat} {n : Int} (hx : RR w (.slice a N c) N X) (hy : RR w (.slice b M d) M Y) (hv : RB w v m e l) (hz : szTo N X N + szTo M Y M + m ≤ 900) :
    Calls Try.prog 17 #[.slice a N c, .slice b M d, .slice v m e, .int .i64 n] w fun e w' => e = .returned (.bool true) ∧ Below w.heap.size w w' := by
  have hN : N ≤ 900 := by have := szTo_ge N X N; omega
  have hM : M ≤ 900 := by have := szTo_ge M Y M; omega
  have hm : m ≤ 900 := by omega
  have hFX : Fine N X := ⟨hN, fun i hi => ⟨hx.small i hi, by have := szTo_row N X N i hi; omega⟩⟩
  have hFY : Fine M Y := ⟨hM, fun i hi => ⟨hy.small i hi, by have := szTo_row M Y M i hi; omega⟩⟩
  obtain ⟨K1, Z1, e1, f1, m1, m2⟩ := mulM_both hFX hFY
  obtain ⟨K2, Z2, e2, f2, i1, i2⟩ := invM_both hFX
  obtain ⟨l3, e3, a1, a2⟩ := applyM_both (M := m) (v := l) hFX
  obtain ⟨K4, Z4, e4, f4, u1, u2⟩ := unitM_both n
  obtain ⟨rb, r1, r2⟩ := right_both hFX
  obtain ⟨rk, hrk⟩ : ∃ k, k = rankX N X := ⟨_, rfl⟩
  have k1 : ∀ w a c, RR w (.slice a N c) N X → Calls Try.prog 71 #[.slice a N c] w fun e w' => e = .returned (.int .i64 (rk : Nat)) ∧ Below w.heap.size w w' := fun w a c h => by rw [hrk]; exact Rank_any (by omega) h
  have k2 : ∀ w a c, RR w (.slice a N c) N X → Calls Try.prog 82 #[.slice a N c] w fun e w' => e = .returned (.int .i64 (rk : Nat)) ∧ Below w.heap.size w w' := fun w a c h => by rw [hrk]; exact rRank_any (by omega) h
  have HM1 := Lib.hid m1
  have HM2 := Lib.hid m2
  have HI1 := Lib.hid i1
  have HI2 := Lib.hid i2
  have HA1 := Lib.hid a1
  have HA2 := Lib.hid a2
  have HU1 := Lib.hid u1
  have HU2 := Lib.hid u2
  have HR1 := Lib.hid r1
  have HR2 := Lib.hid r2
  have HK1 := Lib.hid k1
  have HK2 := Lib.hid k2
  have FX := Lib.hid hFX
  have FY := Lib.hid hFY
  have F1 := Lib.hid f1
  have F2 := Lib.hid f2
  have F4 := Lib.hid f4
  have HLV := Lib.hid (And.intro hv.len hv.small)
  have HZ := Lib.hid hz
  have HX := Lib.hid hx
  have HY := Lib.hid hy
  have HV := Lib.hid hv
  have hq1 : K1 ≤ 900 := f1.1
  have hq2 : K2 ≤ 900 := f2.1
  have hq4 : K4 ≤ 900 := f4.1
  have hs1 := size_any (by omega) hx
  have hs2 := size_any (by omega) hy
  have HS1 := Lib.hid hs1
  have HS2 := Lib.hid hs2
  clear hx hy hv hz hFX hFY f1 f2 f4 m1 m2 i1 i2 a1 a2 u1 u2 r1 r2 k1 k2 hrk hs1 hs2
  go_enter Try.func17, Try.ntmps17
  go_wp2_with fail
  refine HS1.out.mono ?_
  rintro e w1 ⟨⟨s, rfl, hs⟩, rfl⟩
  obtain ⟨g1, g2, _⟩ := hs.out
  clear HS1 hs
  go_wp2_with fail
  refine HS2.out.mono ?_
  rintro e w1 ⟨⟨t, rfl, ht⟩, rfl⟩
  obtain ⟨g3, g4, _⟩ := ht.out
  have h3 : s + t + m ≤ 900 := by have := HZ.out; omega
  have q : decide ((900 : Int) < (s : Int) + (t : Int) + (m : Int)) = false := by simp; omega
  clear g2 g4 HS2 ht HZ
  go_wp2_with fail
  refine (lentM_give FX.out HX.out).mono ?_
  rintro e w1 ⟨la, lc, p, ps, rfl, hL1, hG1, hB1⟩
  go_wp2_with fail
  refine (lentM_give FY.out (HY.out.below hB1.out)).mono ?_
  rintro e w2 ⟨lb, ld, q2, qs, rfl, hL2, hG2, hB2⟩
  go_wp2_with fail
  refine (lent_any ((HV.out.below hB1.out).below hB2.out)).mono ?_
  rintro e w3 ⟨g, rfl, hg, hL3, hB3⟩
  have HT := Lib.hid (⟨hB1.out.size, hB2.out.size, hB3.size⟩ : w.heap.size ≤ w1.heap.size ∧ w1.heap.size ≤ w2.heap.size ∧ w2.heap.size ≤ w3.heap.size)
  have HS := Lib.hid (DoSt.mk (w0 := w) (((HX.out.below hB1.out).below hB2.out).below hB3) (((HY.out.below hB1.out).below hB2.out).below hB3) (((HV.out.below hB1.out).below hB2.out).below hB3) ((hL1.out.below hB2.out).below hB3) (hL2.out.below hB3) ((hG1.out.below hB2.out).below hB3) (hG2.out.below hB3) hL3 ((hB1.out.trans (hB2.out.mono hB1.out.size)).trans (hB3.mono (Nat.le_trans hB1.out.size hB2.out.size))))
  clear hL1 hG1 hB1 hL2 hG2 hB2 hL3 hB3 HX HY HV
  have k4 := Lib.hid (HM1.out w3 _ _ _ _ (FX.out.rr HS.out.LX.grid) (FY.out.rr HS.out.LY.grid))
  go_wp2_with fail
  refine k4.out.mono ?_
  rintro e w4 ⟨ma, md, mp, mc, rfl, GM, hB⟩
  replace HS := Lib.hid (HS.out.below hB.out)
  have T4 := Lib.hid hB.out.size
  clear k4 hB
  have k5 := Lib.hid (HM2.out w4 _ _ _ _ HS.out.A HS.out.B)
  go_wp2_with fail
  refine k5.out.mono ?_
  rintro e w5 ⟨na, nd, rfl, RM, hB⟩
  replace HS := Lib.hid (HS.out.below hB.out)
  replace GM := Lib.hid (GM.out.below hB.out)
  have T5 := Lib.hid hB.out.size
  clear k5 hB
  have k6 := Lib.hid (HI1.out w5 _ _ (FX.out.rr HS.out.LX.grid))
  go_wp2_with fail
  refine k6.out.mono ?_
  rintro e w6 ⟨ia, id, ip, ic, rfl, GI, hB⟩
  replace HS := Lib.hid (HS.out.below hB.out)
  replace GM := Lib.hid (GM.out.below hB.out)
  replace RM := Lib.hid (RM.out.below hB.out)
  have T6 := Lib.hid hB.out.size
  clear k6 hB
  have k7 := Lib.hid (HI2.out w6 _ _ HS.out.A)
  go_wp2_with fail
  refine k7.out.mono ?_
  rintro e w7 ⟨ja, jd, rfl, RI, hB⟩
  replace HS := Lib.hid (HS.out.below hB.out)
  replace GM := Lib.hid (GM.out.below hB.out)
  replace RM := Lib.hid (RM.out.below hB.out)
  replace GI := Lib.hid (GI.out.below hB.out)
  have T7 := Lib.hid hB.out.size
  clear k7 hB
  have k8 := Lib.hid (HA1.out w7 _ _ _ _ (FX.out.rr HS.out.LX.grid) (by have h := HS.out.LV.rb HLV.out.2 (by rw [HLV.out.1]; omega); rw [HLV.out.1] at h; exact h))
  go_wp2_with fail
  refine k8.out.mono ?_
  rintro e w8 ⟨ca, cd, rfl, BC, hB⟩
  replace HS := Lib.hid (HS.out.below hB.out)
  replace GM := Lib.hid (GM.out.below hB.out)
  replace RM := Lib.hid (RM.out.below hB.out)
  replace GI := Lib.hid (GI.out.below hB.out)
  replace RI := Lib.hid (RI.out.below hB.out)
  have T8 := Lib.hid hB.out.size
  clear k8 hB
  have k9 := Lib.hid (HA2.out w8 _ _ _ _ HS.out.A HS.out.V)
  go_wp2_with fail
  refine k9.out.mono ?_
  rintro e w9 ⟨da, dd, rfl, BD, hB⟩
  replace HS := Lib.hid (HS.out.below hB.out)
  replace GM := Lib.hid (GM.out.below hB.out)
  replace RM := Lib.hid (RM.out.below hB.out)
  replace GI := Lib.hid (GI.out.below hB.out)
  replace RI := Lib.hid (RI.out.below hB.out)
  replace BC := Lib.hid (BC.out.below hB.out)
  have T9 := Lib.hid hB.out.size
  clear k9 hB
  have k10 := Lib.hid (HU1.out w9)
  go_wp2_with fail
  refine k10.out.mono ?_
  rintro e w10 ⟨ua, ud, up, uc, rfl, GU, hB⟩
  replace HS := Lib.hid (HS.out.below hB.out)
  replace GM := Lib.hid (GM.out.below hB.out)
  replace RM := Lib.hid (RM.out.below hB.out)
  replace GI := Lib.hid (GI.out.below hB.out)
  replace RI := Lib.hid (RI.out.below hB.out)
  replace BC := Lib.hid (BC.out.below hB.out)
  replace BD := Lib.hid (BD.out.below hB.out)
  clear k10 hB
  have k11 := Lib.hid (HU2.out w10)
  go_wp2_with fail
  refine k11.out.mono ?_
  rintro e w11 ⟨va, vd, rfl, RU, hB⟩
  replace HS := Lib.hid (HS.out.below hB.out)
  replace GM := Lib.hid (GM.out.below hB.out)
  replace RM := Lib.hid (RM.out.below hB.out)
  replace GI := Lib.hid (GI.out.below hB.out)
  replace RI := Lib.hid (RI.out.below hB.out)
  replace BC := Lib.hid (BC.out.below hB.out)
  replace BD := Lib.hid (BD.out.below hB.out)
  replace GU := Lib.hid (GU.out.below hB.out)
  clear k11 hB
  have k12 := Lib.hid (same_give (by omega) (F1.out.rr GM.out.grid) RM.out (fun _ _ => rfl))
  go_wp2_with fail
  refine k12.out.mono ?_
  rintro e w12 ⟨rfl, hB0⟩
  have hB := Lib.hid hB0
  replace HS := Lib.hid (HS.out.below hB.out)
  replace GM := Lib.hid (GM.out.below hB.out)
  replace GI := Lib.hid (GI.out.below hB.out)
  replace RI := Lib.hid (RI.out.below hB.out)
  replace BC := Lib.hid (BC.out.below hB.out)
  replace BD := Lib.hid (BD.out.below hB.out)
  replace GU := Lib.hid (GU.out.below hB.out)
  replace RU := Lib.hid (RU.out.below hB.out)
  clear hB0 k12 hB RM
  have k13 := Lib.hid (same_give (by omega) (F2.out.rr GI.out.grid) RI.out (fun _ _ => rfl))
  go_wp2_with fail
  refine k13.out.mono ?_
  rintro e w13 ⟨rfl, hB0⟩
  have hB := Lib.hid hB0
  replace HS := Lib.hid (HS.out.below hB.out)
  replace GM := Lib.hid (GM.out.below hB.out)
  replace GI := Lib.hid (GI.out.below hB.out)
  replace BC := Lib.hid (BC.out.below hB.out)
  replace BD := Lib.hid (BD.out.below hB.out)
  replace GU := Lib.hid (GU.out.below hB.out)
  replace RU := Lib.hid (RU.out.below hB.out)
  clear hB0 k13 hB RI
  have k14 : Hid (Calls Try.prog 44 #[.slice ca l3.length cd, .slice da l3.length dd] w13 fun e w' => e = .returned (.bool true) ∧ Below w13.heap.size w13 w') := Lib.hid ((same_any BC.out BD.out).mono fun e w' ⟨h1, h2⟩ => ⟨by rw [h1]; simp, by obtain ⟨q, rfl⟩ := h2; exact below_drewN (Below.refl _ _) q⟩)
  go_wp2_with fail
  refine k14.out.mono ?_
  rintro e w14 ⟨rfl, hB0⟩
  have hB := Lib.hid hB0
  replace HS := Lib.hid (HS.out.below hB.out)
  replace GM := Lib.hid (GM.out.below hB.out)
  replace GI := Lib.hid (GI.out.below hB.out)
  replace GU := Lib.hid (GU.out.below hB.out)
  replace RU := Lib.hid (RU.out.below hB.out)
  clear hB0 k14 hB BC BD
  have k15 := Lib.hid (same_give (by omega) (F4.out.rr GU.out.grid) RU.out (fun _ _ => rfl))
  go_wp2_with fail
  refine k15.out.mono ?_
  rintro e w15 ⟨rfl, hB0⟩
  have hB := Lib.hid hB0
  replace HS := Lib.hid (HS.out.below hB.out)
  replace GM := Lib.hid (GM.out.below hB.out)
  replace GI := Lib.hid (GI.out.below hB.out)
  replace GU := Lib.hid (GU.out.below hB.out)
  clear hB0 k15 hB RU
  have k16 := Lib.hid (keptRows_any (by omega) HS.out.A HS.out.LX)
  go_wp2_with fail
  refine k16.out.mono ?_
  rintro e w16 ⟨rfl, hB0⟩
  have hB := Lib.hid hB0
  replace HS := Lib.hid (HS.out.below hB.out)
  replace GM := Lib.hid (GM.out.below hB.out)
  replace GI := Lib.hid (GI.out.below hB.out)
  replace GU := Lib.hid (GU.out.below hB.out)
  clear hB0 k16 hB
  have k17 := Lib.hid (keptRows_any (by omega) HS.out.B HS.out.LY)
  go_wp2_with fail
  refine k17.out.mono ?_
  rintro e w17 ⟨rfl, hB0⟩
  have hB := Lib.hid hB0
  replace HS := Lib.hid (HS.out.below hB.out)
  replace GM := Lib.hid (GM.out.below hB.out)
  replace GI := Lib.hid (GI.out.below hB.out)
  replace GU := Lib.hid (GU.out.below hB.out)
  clear hB0 k17 hB
  have k18 : Hid (Calls Try.prog 30 #[.slice (some ⟨g, 0, none⟩) m (m + 12), .slice v m e] w17 fun e w' => e = .returned (.bool true) ∧ Below w17.heap.size w17 w') := Lib.hid ((kept_any HS.out.V HS.out.LV).mono fun e w' ⟨h1, h2⟩ => ⟨h1, by obtain ⟨q, rfl⟩ := h2; exact below_drewN (Below.refl _ _) q⟩)
  go_wp2_with fail
  refine k18.out.mono ?_
  rintro e w18 ⟨rfl, hB0⟩
  have hB := Lib.hid hB0
  replace HS := Lib.hid (HS.out.below hB.out)
  replace GM := Lib.hid (GM.out.below hB.out)
  replace GI := Lib.hid (GI.out.below hB.out)
  replace GU := Lib.hid (GU.out.below hB.out)
  clear hB0 k18 hB
  have k19 := Lib.hid (HR1.out w18 _ _ (FX.out.rr HS.out.LX.grid))
  go_wp2_with fail
  refine k19.out.mono ?_
  rintro e w19 ⟨rfl, hB0⟩
  have hB := Lib.hid hB0
  replace HS := Lib.hid (HS.out.below hB.out)
  replace GM := Lib.hid (GM.out.below hB.out)
  replace GI := Lib.hid (GI.out.below hB.out)
  replace GU := Lib.hid (GU.out.below hB.out)
  clear hB0 k19 hB
  have k20 := Lib.hid (HR2.out w19 _ _ HS.out.A)
  go_wp2_with fail
  refine k20.out.mono ?_
  rintro e w20 ⟨rfl, hB0⟩
  have hB := Lib.hid hB0
  replace HS := Lib.hid (HS.out.below hB.out)
  replace GM := Lib.hid (GM.out.below hB.out)
  replace GI := Lib.hid (GI.out.below hB.out)
  replace GU := Lib.hid (GU.out.below hB.out)
  clear hB0 k20 hB
  have k21 := Lib.hid (HK1.out w20 _ _ (FX.out.rr HS.out.LX.grid))
  go_wp2_with fail
  refine k21.out.mono ?_
  rintro e w21 ⟨rfl, hB0⟩
  have hB := Lib.hid hB0
  replace HS := Lib.hid (HS.out.below hB.out)
  replace GM := Lib.hid (GM.out.below hB.out)
  replace GI := Lib.hid (GI.out.below hB.out)
  replace GU := Lib.hid (GU.out.below hB.out)
  clear hB0 k21 hB
  have k22 := Lib.hid (HK2.out w21 _ _ HS.out.A)
  go_wp2_with fail
  refine k22.out.mono ?_
  rintro e w22 ⟨rfl, hB0⟩
  have hB := Lib.hid hB0
  replace HS := Lib.hid (HS.out.below hB.out)
  replace GM := Lib.hid (GM.out.below hB.out)
  replace GI := Lib.hid (GI.out.below hB.out)
  replace GU := Lib.hid (GU.out.below hB.out)
  clear hB0 k22 hB
  have HAP := Lib.hid fun W (hW : Below w22.heap.size w22 W) Lb (hL : w.heap.size ≤ Lb) hlb => apartRows_any (w := W) (B := w.heap.size) (Lb := Lb) (va := sel5 la lb ma ia ua) (N := sel5 N M K1 K2 K4) (vd := sel5 lc ld md id ud) (p := sel5 p q2 mp ip up) (c := sel5 ps qs mc ic uc) (X := sel5 X Y Z1 Z2 Z4)
    (fam5_of (lo := sel5 w.heap.size w1.heap.size w3.heap.size w5.heap.size w9.heap.size) (hi := sel5 w1.heap.size w2.heap.size w4.heap.size w6.heap.size w10.heap.size) (fun k hk => by
      match k, hk with
      | 0, _ => exact HS.out.GX.below hW
      | 1, _ => exact HS.out.GY.below hW
      | 2, _ => exact GM.out.below hW
      | 3, _ => exact GI.out.below hW
      | 4, _ => exact GU.out.below hW) (fun k hk => by
      have h1 := HT.out; have h5 := T5.out; have h7 := T7.out; have h8 := T8.out; have h9 := T9.out
      match k, hk with
      | 0, _ => exact Nat.le_refl _
      | 1, _ => exact h1.2.2
      | 2, _ => exact h5
      | 3, _ => exact Nat.le_trans h7 (Nat.le_trans h8 h9)) (Nat.le_refl _)) hL hlb (fun k hk => by
      match k, hk with
      | 0, _ => show N ≤ 1000; omega
      | 1, _ => show M ≤ 1000; omega
      | 2, _ => show K1 ≤ 1000; omega
      | 3, _ => show K2 ≤ 1000; omega
      | 4, _ => show K4 ≤ 1000; omega) (fun k i hk hi => by
      match k, hk with
      | 0, _ => have := (FX.out.2 i hi).2; show (X i).length ≤ _; omega
      | 1, _ => have := (FY.out.2 i hi).2; show (Y i).length ≤ _; omega
      | 2, _ => have := (F1.out.2 i hi).2; show (Z1 i).length ≤ _; omega
      | 3, _ => have := (F2.out.2 i hi).2; show (Z2 i).length ≤ _; omega
      | 4, _ => have := (F4.out.2 i hi).2; show (Z4 i).length ≤ _; omega)
  have HB := Lib.hid HS.out.bel
  clear HS GM GI GU
  go_wp2_with fail
  refine (HAP.out _ ((Below.refl _ w22).alloc (Nat.le_refl _) _) w22.heap.size HB.out.size (Array.getElem?_push_size)).mono ?_
  rintro e w30 ⟨rfl, hB0⟩
  have HB2 := Lib.hid (HB.out.trans (((Below.refl w.heap.size w22).alloc HB.out.size _).trans hB0))
  clear hB0 HB HAP
  go_wp2_with fail
  refine (awake3 w30).mono ?_
  rintro e w31 ⟨rfl, hB0⟩
  have HB3 := Lib.hid (HB2.out.trans (hB0.mono HB2.out.size))
  clear hB0 HB2
  go_wp2_with fail
  go_ret
  exact ⟨rfl, HB3.out⟩
end Go.Proofs.Ytokeoodkioobdaa
