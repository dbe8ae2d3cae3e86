/- The walks of the reference's product and Mul of polynomials. Conditions: rows are shorter than 2 to the 46. -/
import Derived.Test.YtokeoodkioobdaaPr2
import Derived.Test.YtokeoodkioobdaaPoly6
namespace Go.Proofs.Ytokeoodkioobdaa
open Go.RowKit

set_option maxHeartbeats 3200000 in
set_option maxRecDepth 100000 in
/-- The product of p (first) and q. -/
theorem product_any {w : World} {a b : Option Addr} {n c m d : Nat} {p q : List Nat} (hp : RB w a n c p) (hq : RB w b m d q) (hs : n + m ≤ 1000000) :
    Calls Try.prog 91 #[.slice a n c, .slice b m d] w fun e w' => ∃ v, e = .returned v ∧ w'.ownsRow w.heap.size 5 1 v (conv q p).length (bs (conv q p)) ∧ Below w.heap.size w w' := by
  obtain ⟨i0, hi, hz0, hz1, hz2⟩ := info_parts info5
  have hm1 := hp.most
  have hm2 := hq.most
  have HP := Lib.hid hp
  have HQ := Lib.hid hq
  clear hp hq
  obtain ⟨N, hN⟩ : ∃ N, N = n + m := ⟨_, rfl⟩
  have hNi : (n : Int) + (m : Int) = (N : Int) := by omega
  have hN1 : n ≤ N := by omega
  have hN2 : N ≤ 1000000 := by omega
  have HN := Lib.hid hN
  clear hN hs
  go_enter Try.func91, Try.ntmps91
  go_wp2_with (refine wpList_make_full _ rfl (.tmp 12) (.tmp 12) 31 rfl w.heap.size 5 i0 (.int .u8 0) 1 Try.underlying31 hi hz0 hz1 .i64 .i64 _ _ N rfl rfl (by omega) (by omega) ?_ ?_ (Nat.le_refl _) ?_)
  · rw [hz2]; omega
  · unfold maxLen; omega
  intro w1 hown hg1
  have hB1 : Below w.heap.size w w1 := (Below.refl _ _).grown hg1 (Nat.le_refl _) (fun j e => by cases e)
  have HO := Lib.hid (own_zeros hown)
  have HB1 := Lib.hid hB1
  clear hB1 hown hg1
  clear hNi
  go_wp2_with fail
  go_loopw [6] (fun i wr => ∃ k : Nat, k ≤ n ∧ i = .int .i64 k ∧ Hid (wr.ownsRow w.heap.size 5 1 (.slice (some ⟨w.heap.size, 0, none⟩) N N) N (bs (convTo q p k))) ∧ Below w.heap.size w wr) (fun i _ => n - (intOf i).toNat)
  case atStart => exact ⟨0, by omega, rfl, (by show _ = _ ∧ _; rw [show convTo q p 0 = List.replicate N 0 from by rw [HN.out, ← HP.out.len, ← HQ.out.len, Nat.add_comm]; rfl]; exact HO.out), HB1.out⟩
  case round =>
    obtain ⟨k, hk, rfl, hown, hB⟩ := hrel
    have HB := Lib.hid hB
    by_cases hk1 : k < n
    · obtain ⟨b1, o1, rfl, hc1⟩ := (HP.out.below hB).at_ k hk1
      have hpk := HP.out.small k
      have hst0 : convTo q p (k + 1) = xadd (convTo q p k) k q (p.getD k 0) m := by show xadd _ _ _ _ _ = _; rw [HQ.out.len]
      have hsm0 := convTo_small (out := q) (p := p) HQ.out.small k (by rw [HP.out.len]; omega)
      have hlen0 : (convTo q p k).length = N := by rw [length_convTo, HP.out.len, HQ.out.len, HN.out, Nat.add_comm]
      have HST0 := Lib.hid hst0
      have HSM0 := Lib.hid hsm0
      have HL0 := Lib.hid hlen0
      have HOW := hown
      have hkm : k + m ≤ N := by have := HN.out; omega
      clear hst0 hsm0 hlen0 hown hc1 hB
      go_wp2_with fail
      obtain ⟨wo, rfl⟩ : ∃ wo : World, wo = wr := ⟨_, rfl⟩
      go_loopw [7] (fun i wr => ∃ j : Nat, j ≤ m ∧ i = .int .i64 j ∧ Hid (wr.ownsRow w.heap.size 5 1 (.slice (some ⟨w.heap.size, 0, none⟩) N N) N (bs (xadd (convTo q p k) k q (p.getD k 0) j))) ∧ Below w.heap.size w wr) (fun i _ => m - (intOf i).toNat)
      case atStart => exact ⟨0, by omega, rfl, HOW, HB.out⟩
      case round =>
        obtain ⟨j, hj, rfl, hown, hB⟩ := hrel
        have HB2 := Lib.hid hB
        by_cases hj1 : j < m
        · obtain ⟨b1', o1', e, hc1⟩ := (HP.out.below hB).at_ k hk1
          injection e with e; injection e with e1 e2; subst e1; subst e2
          obtain ⟨b2, o2, rfl, hc2⟩ := (HQ.out.below hB).at_ j hj1
          have hqj := HQ.out.small j
          have hsm := xadd_small HSM0.out HQ.out.small (at_ := k) (y := p.getD k 0) (k := j) (by rw [HL0.out]; omega) (k + j)
          have hoc := own_cell hown.out (i := k + j) (by omega)
          have hst := own_set (i := k + j) (x := (xadd (convTo q p k) k q (p.getD k 0) j).getD (k + j) 0 ^^^ Gf.mul (q.getD j 0) (p.getD k 0)) hown.out
          have HST := Lib.hid (show World.ownsRow _ _ 5 1 _ _ (bs (xadd (convTo q p k) k q (p.getD k 0) (j + 1))) from hst)
          have hmc : Gf.mul (p.getD k 0) (q.getD j 0) = Gf.mul (q.getD j 0) (p.getD k 0) := Gf.mul_comm hpk hqj
          have hml : Gf.mul (q.getD j 0) (p.getD k 0) < 256 := Gf.mul_lt hqj
          have hxo := u8_xor_nat _ _ hsm hml
          have hcall : ∀ W, Hid (Calls Try.prog 38 #[.int .u8 (p.getD k 0 : Nat), .int .u8 (q.getD j 0 : Nat)] W fun e w' => e = .returned (.int .u8 (Gf.mul (q.getD j 0) (p.getD k 0) : Nat)) ∧ W = w') := fun W => by rw [← hmc]; exact rmul_any _ _ hpk hqj W
          have HC := Lib.hid hcall
          have hc3 := hoc.1
          have hfr := hoc.2
          obtain ⟨kj, hkj⟩ : ∃ kj, kj = k + j := ⟨_, rfl⟩
          rw [← hkj] at hc3 hfr hsm hxo HST
          have hw : IntKind.i64.wrap ((k : Int) + (j : Int)) = (kj : Int) := by rw [show (k : Int) + (j : Int) = (kj : Int) by omega]; exact IntWalk.i64_in _ (by omega)
          have h1 : (0 : Int) ≤ (kj : Int) := by omega
          have h2 : (kj : Int) < (N : Int) := by omega
          have h3 : (0 : Int) ≤ (j : Int) := by omega
          have h4 : (j : Int) < (m : Int) := by omega
          have h5 : (0 : Int) ≤ (k : Int) := by omega
          have h6 : (k : Int) < (n : Int) := by omega
          have h7 : kj < N := by omega
          clear hst hoc hown hB hmc hcall hkj
          generalize (xadd (convTo q p k) k q (p.getD k 0) j).getD kj 0 ^^^ Gf.mul (q.getD j 0) (p.getD k 0) = r at *
          generalize (xadd (convTo q p k) k q (p.getD k 0) j).getD kj 0 = u at *
          generalize Gf.mul (q.getD j 0) (p.getD k 0) = t at *
          generalize p.getD k 0 = z at *
          generalize q.getD j 0 = y at *
          go_wp2_with fail
          refine region_quiet_tail 21 (by kernel_rfl) (by kernel_rfl) ?_
          simp only [List.take_succ_cons, List.take_zero, List.drop_succ_cons, List.drop_zero]
          repeat (go_big_quiet_step ((go_at_call 38; exact quiet_same (HC.out _).out)))
          refine wpQuiet_nil ?_
          intro _ hw'
          obtain ⟨nq, rfl⟩ := hw'
          go_wp2_with fail
          go_roundw
          case rel => exact ⟨j + 1, by omega, by go_num, HST, (below_drewN HB2.out _).setCell (Nat.le_refl _) _⟩
          case measure => simp [intOf]; omega
        · obtain rfl : j = m := by omega
          have HF : Hid (World.ownsRow wr w.heap.size 5 1 (.slice (some ⟨w.heap.size, 0, none⟩) N N) N (bs (convTo q p (k + 1)))) := by rw [HST0.out]; exact hown
          clear hown hB
          go_wp2_with fail
          go_roundw
          case rel => exact ⟨k + 1, by omega, by go_num, HF, HB2.out⟩
          case measure => simp [intOf]; omega
    · obtain rfl : k = n := by omega
      have hcv : conv q p = lean (convTo q p k) := by unfold conv; rw [HP.out.len]
      obtain ⟨na, nc, he, hnr⟩ := own_rb hown.out (convTo_small HQ.out.small k (by rw [HP.out.len]; exact Nat.le_refl _)) (by omega)
      injection he with e1 e2 e3
      subst e1; subst e3
      have hln := rLean_any hnr
      rw [← hcv] at hln
      have HLN := Lib.hid hln
      have hszr := own_block hown.out
      clear hln hcv hnr hown hB
      go_wp2_with (go_at_call 62; ((with_reducible refine HLN.out.mono ?_); rintro e w6 ⟨v6, rfl, hown6, hB6⟩; have HOW6 := Lib.hid hown6; have HB6 := Lib.hid hB6; clear hown6 hB6))
      go_ret
      exact ⟨_, rfl, own_mono HOW6.out (by omega), HB.out.trans (HB6.out.mono (by omega))⟩

theorem lean_bound {w : World} {a : Option Addr} {n c : Nat} {x : List Nat} (h : RB w a n c x) : (lean x).length ≤ n := by rw [length_lean, h.len]; exact ln_le _ _

set_option maxHeartbeats 1600000 in
set_option maxRecDepth 100000 in
theorem rMul_ok {w : World} {a b : Option Addr} {n c m d : Nat} {x y : List Nat} (hx : RB w a n c x) (hy : RB w b m d y) (h1 : ln x n ≤ 600) (h2 : ln y m ≤ 600) :
    Calls Try.prog 59 #[.slice a n c, .slice b m d] w fun e w' => ∃ v, e = .returned (.tuple #[v, .int .i64 0]) ∧ w'.ownsRow w.heap.size 5 1 v (conv (lean y) (lean x)).length (bs (conv (lean y) (lean x))) ∧ Below w.heap.size w w' := by
  have hl1 : (lean x).length ≤ 600 := by rw [length_lean, hx.len]; exact h1
  have hl2 : (lean y).length ≤ 600 := by rw [length_lean, hy.len]; exact h2
  have HX := Lib.hid hx
  have HY := Lib.hid hy
  clear hx hy h1 h2
  go_enter Try.func59, Try.ntmps59
  go_wp2_with fail
  refine (rLean_any HX.out).mono ?_
  rintro e w1 ⟨v1, rfl, hown, hB1⟩
  obtain ⟨a1, c1, rfl, hr1⟩ := own_rb hown (lean_small HX.out.small) (by omega)
  have HR1 := Lib.hid hr1
  have HB1 := Lib.hid hB1
  clear hown hr1 hB1
  go_wp2_with fail
  refine (rLean_any (HY.out.below HB1.out)).mono ?_
  rintro e w2 ⟨v2, rfl, hown, hB2⟩
  obtain ⟨a2, c2, rfl, hr2⟩ := own_rb hown (lean_small HY.out.small) (by omega)
  have H91 := Lib.hid (product_any (HR1.out.below hB2) hr2 (by omega))
  have HB2 := Lib.hid (HB1.out.trans (hB2.mono HB1.out.size))
  have d1 : decide (600 < (lean x).length) = false := by simp; omega
  have d2 : decide (600 < (lean y).length) = false := by simp; omega
  have d3 : decide ((600 : Int) < ((lean x).length : Int)) = false := by simp; omega
  have d4 : decide ((600 : Int) < ((lean y).length : Int)) = false := by simp; omega
  clear hown hr2 hB2
  generalize (lean x).length = lx at *
  generalize (lean y).length = ly at *
  go_wp2_with (go_at_call 91; ((with_reducible refine H91.out.mono ?_); rintro e w3 ⟨v, rfl, ho, hB⟩; have HO := Lib.hid (own_mono ho HB2.out.size); have HB3 := Lib.hid (HB2.out.trans (hB.mono HB2.out.size)); clear ho hB))
  go_ret2
  exact ⟨_, rfl, HO.out, HB3.out⟩

set_option maxHeartbeats 1600000 in
set_option maxRecDepth 100000 in
theorem rMul_long {w : World} {a b : Option Addr} {n c m d : Nat} {x y : List Nat} (hx : RB w a n c x) (hy : RB w b m d y) (h : 600 < ln x n ∨ 600 < ln y m) :
    Calls Try.prog 59 #[.slice a n c, .slice b m d] w fun e w' => e = .returned (.tuple #[.slice none 0 0, .int .i64 3]) ∧ Below w.heap.size w w' := by
  have hl : 600 < (lean x).length ∨ 600 < (lean y).length := by rw [length_lean, hx.len, length_lean, hy.len]; exact h
  have hm1 := hx.most
  have hm2 := hy.most
  have hb1 := lean_bound hx
  have hb2 := lean_bound hy
  have HX := Lib.hid hx
  have HY := Lib.hid hy
  clear hx hy h
  go_enter Try.func59, Try.ntmps59
  go_wp2_with fail
  refine (rLean_any HX.out).mono ?_
  rintro e w1 ⟨v1, rfl, hown, hB1⟩
  obtain ⟨a1, c1, rfl, hr1⟩ := own_rb hown (lean_small HX.out.small) (by omega)
  have HB1 := Lib.hid hB1
  clear hown hr1 hB1
  go_wp2_with fail
  refine (rLean_any (HY.out.below HB1.out)).mono ?_
  rintro e w2 ⟨v2, rfl, hown, hB2⟩
  obtain ⟨a2, c2, rfl, hr2⟩ := own_rb hown (lean_small HY.out.small) (by omega)
  have HB2 := Lib.hid (HB1.out.trans (hB2.mono HB1.out.size))
  clear hown hr2 hB2
  generalize (lean x).length = lx at *
  generalize (lean y).length = ly at *
  by_cases h1 : 600 < lx
  · have d3 : decide ((600 : Int) < (lx : Int)) = true := by simp; omega
    clear hl h1
    go_wp2_with fail
    go_ret2
    exact ⟨rfl, HB2.out⟩
  · have d3 : decide ((600 : Int) < (lx : Int)) = false := by simp; omega
    have d4 : decide ((600 : Int) < (ly : Int)) = true := by simp; omega
    clear hl h1
    go_wp2_with fail
    go_ret2
    exact ⟨rfl, HB2.out⟩
end Go.Proofs.Ytokeoodkioobdaa
