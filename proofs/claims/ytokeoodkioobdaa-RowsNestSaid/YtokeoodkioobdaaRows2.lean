/- The walks of rows' scale, add, IndexFunc at rows and its closure. Conditions: rows have at most 100000 places. -/
import Derived.Test.YtokeoodkioobdaaGrid2
namespace Go.Proofs.Ytokeoodkioobdaa
open Go.RowKit

theorem field_apart {w : World} {B p g n c : Nat} {xs : List Value} (hf : IsF w p) (ho : w.ownsRow B 5 1 (.slice (some ⟨g, 0, none⟩) n c) n xs) : p ≠ g := fun e => by
  obtain ⟨_, _, cur, hcur, _⟩ := own_blk ho
  subst e
  have := hcur.symm.trans hf
  injection this with this
  injection this with _ h3 _
  exact absurd h3 (by decide)

set_option maxHeartbeats 1600000 in
set_option maxRecDepth 100000 in
theorem scale_any {w : World} {B p g n c y : Nat} {X : List Nat} (hy : y < 256) (hf : IsF w p) (ho : w.ownsRow B 5 1 (.slice (some ⟨g, 0, none⟩) n c) n (bs X)) (hX : Small X) (hn : n ≤ 100000) :
    Calls Try.prog 128 #[.agg #[.pointer (some ⟨p, 0, none⟩)], .slice (some ⟨g, 0, none⟩) n c, .int .u8 (y : Nat)] w fun e w' => (∃ v, e = .returned v) ∧ w'.ownsRow B 5 1 (.slice (some ⟨g, 0, none⟩) n c) n (bs (Gf.sc y X)) ∧ Only g w w' := by
  have hXl := own_len ho
  have hg := own_block ho
  have hpg := field_apart hf ho
  have HF := Lib.hid hf
  have HO := Lib.hid ho
  have HX := Lib.hid hX
  have HXL := Lib.hid hXl
  clear hf ho hX hXl
  go_enter Try.func128, Try.ntmps128
  go_wp2_with fail
  go_loopw [9] (fun i wr => ∃ k : Nat, k ≤ n ∧ i = .int .i64 k ∧ Hid (wr.ownsRow B 5 1 (.slice (some ⟨g, 0, none⟩) n c) n (bs (scTo X y k))) ∧ Only g w wr ∧ wr.cell? ⟨w.heap.size, 0, none⟩ = some (.pointer (some ⟨p, 0, none⟩))) (fun i _ => n - (intOf i).toNat)
  case atStart =>
    exact ⟨0, by omega, rfl, HO.out.alloc _, (Only.refl _ _).alloc _, (cell_of_block (heap_alloc_new _ _)).trans rfl⟩
  case round =>
    obtain ⟨k, hk, rfl, hown, hO, hbx⟩ := hrel
    have HO2 := Lib.hid hO
    by_cases hk1 : k < n
    · have hc2 := own_cell hown.out (i := k) hk1
      have hfr := hc2.2
      have hc3 := hc2.1
      have hsm : (scTo X y k).getD k 0 < 256 := scTo_small HX.out (by rw [HXL.out]; omega) _
      have hst : ∀ q, ((wr.drewN q).setCell ⟨g, k, none⟩ (.int .u8 (Gf.mul ((scTo X y k).getD k 0) y : Nat))).ownsRow B 5 1 (.slice (some ⟨g, 0, none⟩) n c) n (bs (scTo X y (k + 1))) := fun q => own_set hown.out
      have HST := Lib.hid hst
      generalize (scTo X y k).getD k 0 = x at *
      have hq2 : ∀ q, Hid (Calls Try.prog 23 #[.pointer (some ⟨p, 0, none⟩), .int .u8 (x : Nat), .int .u8 (y : Nat)] (wr.drewN q) fun e w' => e = .returned (.int .u8 (Gf.mul x y : Nat)) ∧ ∃ n, w' = (wr.drewN q).drewN n) := fun q => mul_any ((HF.out.only hO hpg).drewN q) hsm hy
      have HQ2 := Lib.hid hq2
      have hl3 : Gf.mul x y < 256 := Gf.mul_lt hsm
      generalize Gf.mul x y = t at *
      have hn2 : w.heap.size ≠ g := by omega
      clear hc2 hq2 hown hO hst
      go_wp2_with fail
      refine region_quiet_tail 11 (by kernel_rfl) (by kernel_rfl) ?_
      simp only [List.take_succ_cons, List.take_zero, List.drop_succ_cons, List.drop_zero]
      repeat (go_big_quiet_step ((go_at_call 23; exact Calls.quiet_of (HQ2.out _).out)))
      refine wpQuiet_nil ?_
      intro _ hw'
      obtain ⟨nq, rfl⟩ := hw'
      go_wp2_with fail
      go_roundw
      case rel => exact ⟨k + 1, by omega, by go_num, HST.out nq, (HO2.out.drawn _).set _ _, (World.cell?_of_block (heap_setCell_other (wr.drewN _) ⟨g, _, none⟩ w.heap.size _ hn2)).trans hbx⟩
      case measure => simp [intOf]; omega
    · obtain rfl : k = n := by omega
      have hfin := hown.out
      have e : scTo X y k = Gf.sc y X := by rw [← HXL.out]; exact scTo_all X y
      rw [e] at hfin
      have HFN := Lib.hid hfin
      clear hO hfin e hown
      go_wp2_with fail
      go_end0
      exact ⟨⟨_, rfl⟩, HFN.out, HO2.out⟩

set_option maxHeartbeats 1600000 in
set_option maxRecDepth 100000 in
theorem addr_any {w : World} {B p g n c c2 y : Nat} {a : Option Addr} {X l : List Nat} (hy : y < 256) (hf : IsF w p) (ho : w.ownsRow B 5 1 (.slice (some ⟨g, 0, none⟩) n c) n (bs X)) (hX : Small X) (hl : RB w a n c2 l) (hab : 0 < n → ∀ b off, a = some ⟨b, off, none⟩ → b ≠ g) (hn : n ≤ 100000) :
    Calls Try.prog 102 #[.agg #[.pointer (some ⟨p, 0, none⟩)], .slice (some ⟨g, 0, none⟩) n c, .slice a n c2, .int .u8 (y : Nat)] w fun e w' => (∃ v, e = .returned v) ∧ w'.ownsRow B 5 1 (.slice (some ⟨g, 0, none⟩) n c) n (bs (Gf.ad y X l)) ∧ Only g w w' := by
  have hXl := own_len ho
  have hg := own_block ho
  have hpg := field_apart hf ho
  have hll := hl.len
  have HF := Lib.hid hf
  have HO := Lib.hid ho
  have HX := Lib.hid hX
  have HL := Lib.hid hl
  have HAB := Lib.hid hab
  have HXL := Lib.hid hXl
  have HLL := Lib.hid hll
  clear hf ho hX hXl hl hab hll
  by_cases y0 : y = 0
  · subst y0
    have e : Gf.ad 0 X l = X := Gf.ad_zero (by rw [HXL.out, HLL.out])
    rw [e]
    clear e
    have y1 : (((0 : Nat) : Int) == 0) = true := rfl
    go_enter Try.func102, Try.ntmps102
    go_wp2_with fail
    refine bodyPost_ret (results_none rfl _ _ _) rfl ?_
    exact ⟨⟨_, rfl⟩, HO.out.alloc _, (Only.refl _ _).alloc _⟩
  · have y1 : ((y : Int) == 0) = false := by simp; omega
    have y2 : decide (y = 0) = false := by simp; omega
    go_enter Try.func102, Try.ntmps102
    go_wp2_with fail
    go_loopw [13] (fun i wr => ∃ k : Nat, k ≤ n ∧ i = .int .i64 k ∧ Hid (wr.ownsRow B 5 1 (.slice (some ⟨g, 0, none⟩) n c) n (bs (xadd X 0 l y k))) ∧ Only g w wr ∧ wr.cell? ⟨w.heap.size, 0, none⟩ = some (.pointer (some ⟨p, 0, none⟩))) (fun i _ => n - (intOf i).toNat)
    case atStart =>
      exact ⟨0, by omega, rfl, HO.out.alloc _, (Only.refl _ _).alloc _, (cell_of_block (heap_alloc_new _ _)).trans rfl⟩
    case round =>
      obtain ⟨k, hk, rfl, hown, hO, hbx⟩ := hrel
      have HO2 := Lib.hid hO
      by_cases hk1 : k < n
      · obtain ⟨b1, o1, rfl, hc1⟩ := (HL.out.only hO (HAB.out (by omega))).at_ k hk1
        have hx := HL.out.small k
        have hc2 := own_cell hown.out (i := k) hk1
        have hfr := hc2.2
        have hc3 := hc2.1
        have hsm : (xadd X 0 l y k).getD k 0 < 256 := xadd_small HX.out HL.out.small (by rw [HXL.out]; omega) _
        have hst : ∀ q, ((wr.drewN q).setCell ⟨g, k, none⟩ (.int .u8 ((xadd X 0 l y k).getD k 0 ^^^ Gf.mul (l.getD k 0) y : Nat))).ownsRow B 5 1 (.slice (some ⟨g, 0, none⟩) n c) n (bs (xadd X 0 l y (k + 1))) := fun q => by
          show ((wr.drewN q).setCell ⟨g, k, none⟩ _).ownsRow B 5 1 _ n (bs ((xadd X 0 l y k).set (0 + k) ((xadd X 0 l y k).getD (0 + k) 0 ^^^ Gf.mul (l.getD k 0) y)))
          rw [Nat.zero_add]
          exact own_set hown.out
        have HST := Lib.hid hst
        generalize l.getD k 0 = x at *
        generalize (xadd X 0 l y k).getD k 0 = u at *
        have hl3 : Gf.mul x y < 256 := Gf.mul_lt hx
        have hq2 : ∀ q, Hid (Calls Try.prog 23 #[.pointer (some ⟨p, 0, none⟩), .int .u8 (x : Nat), .int .u8 (y : Nat)] (wr.drewN q) fun e w' => e = .returned (.int .u8 (Gf.mul x y : Nat)) ∧ ∃ n, w' = (wr.drewN q).drewN n) := fun q => mul_any ((HF.out.only hO hpg).drewN q) hx hy
        have HQ2 := Lib.hid hq2
        have hq3 : ∀ q, Hid (Calls Try.prog 24 #[.int .u8 (u : Nat), .int .u8 (Gf.mul x y : Nat)] (wr.drewN q) fun e w' => e = .returned (.int .u8 (u ^^^ Gf.mul x y : Nat)) ∧ wr.drewN q = w') := fun q => add_any _ _ hsm hl3 _
        have HQ3 := Lib.hid hq3
        generalize u ^^^ Gf.mul x y = r at *
        generalize Gf.mul x y = t at *
        have hn2 : w.heap.size ≠ g := by omega
        clear hc2 hq2 hq3 hown hO hst
        go_wp2_with fail
        refine region_quiet_tail 16 (by kernel_rfl) (by kernel_rfl) ?_
        simp only [List.take_succ_cons, List.take_zero, List.drop_succ_cons, List.drop_zero]
        repeat (go_big_quiet_step (first | (go_at_call 23; exact Calls.quiet_of (HQ2.out _).out) | (go_at_call 24; exact quiet_same (HQ3.out _).out)))
        refine wpQuiet_nil ?_
        intro _ hw'
        obtain ⟨nq, rfl⟩ := hw'
        go_wp2_with fail
        go_roundw
        case rel => exact ⟨k + 1, by omega, by go_num, HST.out nq, (HO2.out.drawn _).set _ _, (World.cell?_of_block (heap_setCell_other (wr.drewN _) ⟨g, _, none⟩ w.heap.size _ hn2)).trans hbx⟩
        case measure => simp [intOf]; omega
      · obtain rfl : k = n := by omega
        have hfin := hown.out
        have e : xadd X 0 l y k = Gf.ad y X l := by rw [← HLL.out]; exact xadd_all (by rw [HXL.out, HLL.out])
        rw [e] at hfin
        have HFN := Lib.hid hfin
        clear hO hfin e hown
        go_wp2_with fail
        go_end0
        exact ⟨⟨_, rfl⟩, HFN.out, HO2.out⟩

theorem nz_no {w : World} {a : Option Addr} {n c cc b : Nat} {l : List Nat} (h : RB w a n c l) (hcc : cc < n) (hb : w.cell? ⟨b, 0, none⟩ = some (.int .i64 (cc : Nat))) (h0 : Gf.at0 l cc = 0) :
    Calls Try.prog 127 #[.slice a n c, .pointer (some ⟨b, 0, none⟩)] w fun e w' => e = .returned (.bool false) ∧ w = w' := by
  obtain ⟨b1, o1, rfl, hc1⟩ := h.at_ cc hcc
  rw [at0_getD] at h0
  rw [h0] at hc1
  have hm := h.most
  clear h h0
  go_enter Try.func127, Try.ntmps127
  go_wp2_with fail
  go_ret
  exact ⟨rfl, rfl⟩
theorem nz_yes {w : World} {a : Option Addr} {n c cc b : Nat} {l : List Nat} (h : RB w a n c l) (hcc : cc < n) (hb : w.cell? ⟨b, 0, none⟩ = some (.int .i64 (cc : Nat))) (h0 : Gf.at0 l cc ≠ 0) :
    Calls Try.prog 127 #[.slice a n c, .pointer (some ⟨b, 0, none⟩)] w fun e w' => e = .returned (.bool true) ∧ w = w' := by
  obtain ⟨b1, o1, rfl, hc1⟩ := h.at_ cc hcc
  rw [at0_getD] at h0
  have hm := h.most
  clear h
  generalize l.getD cc 0 = x at *
  have x1 : ((x : Int) != 0) = true := by simp; omega
  have x2 : decide (x = 0) = false := by simp; omega
  go_enter Try.func127, Try.ntmps127
  go_wp2_with fail
  go_ret
  exact ⟨rfl, rfl⟩

theorem indexf_nil {w : World} {a : Option Addr} {c : Nat} {f : Value} : Calls Try.prog 126 #[.slice a (0 : Nat) c, f] w fun e w' => e = .returned (.int .i64 (-1)) ∧ w = w' := by
  go_enter Try.func126, Try.ntmps126
  go_wp2_with fail
  go_loop [8] (fun i => i = .int .i64 0) (fun _ => 0)
  case atStart => rfl
  case round =>
    obtain rfl := hrel
    go_wp2_with fail
    go_ret
    exact ⟨rfl, rfl⟩

set_option maxHeartbeats 1600000 in
set_option maxRecDepth 100000 in
/-- The first row, from one on, that has something in a column. -/
theorem indexf_any {w : World} {g off L cp cc b W R : Nat} {p c : Nat → Nat} {M : Nat → List Nat} (hR : off + L = R) (hRm : R ≤ 100000) (hcc : cc < W)
    (hrow : ∀ i, i < L → w.cell? ⟨g, off + i, none⟩ = some (.slice (some ⟨p (off + i), 0, none⟩) W (c (off + i))) ∧ RB w (some ⟨p (off + i), 0, none⟩) W (c (off + i)) (M (off + i)))
    (hb : w.cell? ⟨b, 0, none⟩ = some (.int .i64 (cc : Nat))) :
    Calls Try.prog 126 #[.slice (some ⟨g, off, none⟩) L cp, .func (.func 127) #[] #[.pointer (some ⟨b, 0, none⟩)]] w fun e w' => e = .returned (.int .i64 (if Gf.fnd M R cc off < R then ((Gf.fnd M R cc off - off : Nat) : Int) else -1)) ∧ w = w' := by
  have HR := Lib.hid hrow
  obtain ⟨r, hr⟩ : ∃ r : Int, r = if Gf.fnd M R cc off < R then ((Gf.fnd M R cc off - off : Nat) : Int) else -1 := ⟨_, rfl⟩
  rw [← hr]
  have HRES := Lib.hid hr
  clear hrow hr
  subst hR
  go_enter Try.func126, Try.ntmps126
  go_wp2_with fail
  go_loop [8] (fun i => ∃ k : Nat, k ≤ L ∧ i = .int .i64 k ∧ Hid (∀ i, off ≤ i → i < off + k → Gf.at0 (M i) cc = 0)) (fun i => L - (intOf i).toNat)
  case atStart => exact ⟨0, by omega, rfl, fun i h1 h2 => absurd h2 (by omega)⟩
  case round =>
    obtain ⟨k, hk, rfl, hz⟩ := hrel
    by_cases hk1 : k < L
    · obtain ⟨hc1, hr1⟩ := HR.out k hk1
      by_cases h0 : Gf.at0 (M (off + k)) cc = 0
      · have hnz := nz_no hr1 hcc hb h0
        have HN := Lib.hid hnz
        have hz2 : ∀ i, off ≤ i → i < off + (k + 1) → Gf.at0 (M i) cc = 0 := fun i h1 h2 => by
          by_cases e : i = off + k
          · rw [e]; exact h0
          · exact hz.out i h1 (by omega)
        have HZ := Lib.hid hz2
        clear hr1 h0 hnz hz2
        go_wp2_with (go_at_call 127; ((with_reducible refine HN.out.mono ?_); rintro e w' ⟨rfl, rfl⟩))
        go_round
        case rel => exact ⟨k + 1, by omega, by go_num, HZ⟩
        case measure => simp [intOf]; omega
      · have hnz := nz_yes hr1 hcc hb h0
        have HN := Lib.hid hnz
        have hf : Gf.fnd M (off + L) cc off = off + k := Gf.fnd_at (by omega) (by omega) (fun i h1 h2 => hz.out i h1 h2) h0
        have he : r = (k : Int) := by rw [HRES.out, hf, if_pos (by omega)]; omega
        have HE := Lib.hid he
        clear hr1 h0 hnz hf he
        go_wp2_with (go_at_call 127; ((with_reducible refine HN.out.mono ?_); rintro e w' ⟨rfl, rfl⟩))
        go_ret
        exact ⟨ret_i64 HE.out.symm, rfl⟩
    · obtain rfl : k = L := by omega
      have hf : Gf.fnd M (off + k) cc off = off + k := Gf.fnd_none (by omega) (fun i h1 h2 => hz.out i h1 (by omega))
      have he : r = -1 := by rw [HRES.out, hf, if_neg (by omega)]
      have HE := Lib.hid he
      clear hf he
      go_wp2_with fail
      go_ret
      exact ⟨ret_i64 HE.out.symm, rfl⟩
end Go.Proofs.Ytokeoodkioobdaa
