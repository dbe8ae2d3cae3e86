/- The walk of LagrOnes. Conditions: rows are shorter than 2 to the 47. -/
import Derived.Test.YtokeoodkioobdaaLagr5
import Derived.Test.YtokeoodkioobdaaLagr6
namespace Go.Proofs.Ytokeoodkioobdaa
open Go.RowKit

theorem here_step {l : List Nat} {k t y : Nat} (hk : k < l.length) (hy : y = l.getD k 0) : decide (t ∈ l.take (k + 1)) = (decide (t ∈ l.take k) || ((y : Int) == (t : Int))) := by
  have e : ((y : Int) == (t : Int)) = decide (t = y) := by
    rw [Bool.eq_iff_iff, beq_iff_eq, decide_eq_true_iff]; omega
  rw [take_step hk, ← hy, e, Bool.eq_iff_iff]; simp
theorem RB.cell0 {w : World} {g n c : Nat} {l : List Nat} (h : RB w (some ⟨g, 0, none⟩) n c l) {i : Nat} (hi : i < n) : w.cell? ⟨g, i, none⟩ = some (.int .u8 (l.getD i 0 : Nat)) := by
  obtain ⟨b, o, e, hc⟩ := h.at_ i hi
  injection e with e
  injection e with e1 e2
  subst e1; subst e2
  rwa [Nat.zero_add] at hc

set_option maxHeartbeats 3200000 in
set_option maxRecDepth 100000 in
theorem ones_ok {w : World} {a b d : Option Addr} {n c c2 c3 t : Nat} {l x y : List Nat} (ht : t < 256) (h : RB w a n c l) (hx : RB w b n c2 x) (hy : RB w d n c3 y) (hn : l.Nodup) (h24 : n ≤ 24) :
    Calls Try.prog 11 #[.slice a n c, .slice b n c2, .slice d n c3, .int .u8 t] w fun e w' => e = .returned (.bool true) ∧ Below w.heap.size w w' := by
  obtain ⟨i0, hi, hz0, hz1, hz2⟩ := info_parts info5
  have H := Lib.hid h
  have HX := Lib.hid hx
  have HY := Lib.hid hy
  have hH : Hid (l.Nodup) := hn
  have h49 : ∀ W, Below w.heap.size w W → Calls Try.prog 49 #[.slice a n c, .int .u8 t] W fun e w' => ∃ g, e = .returned (.tuple #[.slice (some ⟨g, 0, none⟩) n n, .int .i64 0]) ∧ RB w' (some ⟨g, 0, none⟩) n n (wts l n t) ∧ Below w.heap.size w w' := fun W hB => by
    refine (Weights_ok ht (h.below hB) hn).mono ?_
    rintro e w1 ⟨g, rfl, hg, hh, hB2⟩
    exact ⟨g, rfl, weights_rb hh (by omega), hB.trans (hB2.mono hB.size)⟩
  have H49 := Lib.hid h49
  clear h hx hy h49 hn
  have g1 : decide ((n : Int) > 24) = false := by simp; omega
  go_enter Try.func11, Try.ntmps11
  go_wp2_with (first
    | (go_at_call 48; ((with_reducible refine (awake4 _).mono ?_); rintro e w1 ⟨rfl, hB⟩; have HB1 := Lib.hid hB; clear hB))
    | (go_at_call 49; ((with_reducible refine (H49.out _ HB1.out).mono ?_); rintro e w2 ⟨g, rfl, hh, hB⟩; have HB2 := Lib.hid hB; have HW := Lib.hid hh; clear hB hh)))
  go_loop [11, 12, 13] (fun s q i => ∃ k v : Nat, ∃ z : Bool, k ≤ n ∧ i = .int .i64 k ∧ s = .int .u8 v ∧ q = .bool z ∧ v < 256 ∧ Hid (v = xsum (wts l n t) k) ∧ Hid (z = decide (t ∈ l.take k))) (fun _ _ i => n - (intOf i).toNat)
  case atStart => exact ⟨0, 0, false, by omega, rfl, rfl, rfl, by omega, rfl, rfl⟩
  case round =>
    obtain ⟨k, v, z, hk, rfl, rfl, rfl, hv, hvs, hz⟩ := hrel
    by_cases hk1 : k < n
    · obtain ⟨b1, o1, rfl, hc1⟩ := (H.out.below HB2.out).at_ k hk1
      have hc2 := HW.out.cell0 hk1
      have hws := wts_small l n t k
      obtain ⟨u, hu⟩ : ∃ u, u = (wts l n t).getD k 0 := ⟨_, rfl⟩
      obtain ⟨r, hr⟩ : ∃ r, r = l.getD k 0 := ⟨_, rfl⟩
      have hxo := u8_xor_nat v u hv (by rw [hu]; exact hws)
      have hvl := Gf.xor_lt hv (show u < 256 by rw [hu]; exact hws)
      have hst : v ^^^ u = xsum (wts l n t) (k + 1) := by rw [hvs.out, hu]; rfl
      have hzt := here_step (t := t) (k := k) (by rw [H.out.len]; exact hk1) hr
      rw [← hz.out] at hzt
      rw [← hu] at hc2
      rw [← hr] at hc1
      have HST := Lib.hid hst
      have HZ := Lib.hid hzt
      clear hu hr hst hzt hws hz hvs
      generalize v ^^^ u = v2 at *
      cases z
      · go_wp2_with fail
        go_round
        case rel => exact ⟨k + 1, v2, _, by omega, by go_num, rfl, rfl, hvl, HST, by have h := HZ.out.symm; rw [Bool.false_or] at h; exact h⟩
        case measure => simp [intOf]; omega
      · go_wp2_with fail
        go_round
        case rel => exact ⟨k + 1, v2, _, by omega, by go_num, rfl, rfl, hvl, HST, by have h := HZ.out.symm; rw [Bool.true_or] at h; exact h⟩
        case measure => simp [intOf]; omega
    · obtain rfl : k = n := by omega
      have hzz : z = decide (t ∈ l) := by
        have := hz.out
        rwa [List.take_of_length_le (by rw [H.out.len]; exact Nat.le_refl _)] at this
      have HZ := Lib.hid hzz
      clear hk hk1 hzz hz
      go_wp2_with fail
      go_loopw [14] (fun i wr => ∃ m : Nat, m ≤ k ∧ i = .int .i64 m ∧ Drawn w2 wr) (fun i _ => k - (intOf i).toNat)
      case atStart => exact ⟨0, by omega, rfl, Drawn.refl _⟩
      case round =>
        obtain ⟨m, hm, rfl, hD⟩ := hrel
        have HD := Lib.hid hD
        by_cases hk1 : m < k
        · obtain ⟨b1, o1, rfl, hc1⟩ := (H.out.below HB2.out).at_ m hk1
          have hc2 := HW.out.cell0 hk1
          have e1 := (hD.cell _).trans hc1
          have e2 := (hD.cell _).trans hc2
          have hm' : (m : Int) < (k : Int) := by omega
          clear hc1 hc2 hD
          cases z
          · generalize l.getD m 0 = r at *
            generalize (wts l k t).getD m 0 = u at *
            go_wp2_with fail
            go_quiet (fail)
            go_wp2_with fail
            go_roundw
            case rel => exact ⟨m + 1, by omega, by go_num, HD.out.more _⟩
            case measure => simp [intOf]; omega
          · have hmem : t ∈ l := by simpa using HZ.out.symm
            have hw := wts_on (n := k) hmem hk1
            have hfi := at_fi hH.out hmem (i := m) (by rw [H.out.len]; exact hk1)
            by_cases hf : m = fi l t
            · rw [if_pos hf] at hw
              rw [hw] at e2
              rw [hfi.2 hf] at e1
              clear hfi hf hmem hw
              go_wp2_with fail
              go_quiet (fail)
              go_wp2_with fail
              go_roundw
              case rel => exact ⟨m + 1, by omega, by go_num, HD.out.more _⟩
              case measure => simp [intOf]; omega
            · rw [if_neg hf] at hw
              rw [hw] at e2
              have hne : l.getD m 0 ≠ t := fun e => hf (hfi.1 e)
              generalize l.getD m 0 = r at *
              have hb1 : ((r : Int) == (t : Int)) = false := by simp; omega
              have hb2 : ((r : Int) != (t : Int)) = true := by simp; omega
              clear hfi hf hmem hw hne
              go_wp2_with fail
              go_quiet (fail)
              go_wp2_with fail
              go_roundw
              case rel => exact ⟨m + 1, by omega, by go_num, HD.out.more _⟩
              case measure => simp [intOf]; omega
        · obtain rfl : m = k := by omega
          have hB3 : Below w.heap.size w wr := by obtain ⟨q, rfl⟩ := hD; exact below_drewN HB2.out _
          have HB3 := Lib.hid hB3
          have hlen := H.out.len
          have hxs : m ≠ 0 → v = 1 := fun h => by rw [hvs.out, ← hlen]; exact weights_one H.out.small hH.out ht (by omega)
          have HXS := Lib.hid hxs
          have hzz2 := lval_both (a := x) (b := y) H.out.small hH.out ht
          rw [hlen] at hzz2
          have HZZ := Lib.hid hzz2
          clear hD hm hxs hzz2 hlen hvs hv hB3
          go_wp2_with fail
          obtain ⟨wA, rfl⟩ : ∃ wA : World, wA = wr := ⟨_, rfl⟩
          go_loopw [15, 16] (fun s i W => ∃ k : Nat, k ≤ m ∧ i = .int .i64 k ∧ Hid (W.ownsRow wA.heap.size 5 1 s k (bs (both x y k))) ∧ Below wA.heap.size wA W) (fun _ i _ => m - (intOf i).toNat)
          case atStart => exact ⟨0, by omega, rfl, World.ownsRow_nil _ _ _ _, Below.refl _ _⟩
          case round =>
            obtain ⟨k, hk, rfl, hown, hB⟩ := hrel
            have HB := Lib.hid hB
            by_cases hk1 : k < m
            · obtain ⟨b1, o1, rfl, hc1⟩ := ((HX.out.below HB3.out).below hB).at_ k hk1
              obtain ⟨b2, o2, rfl, hc2⟩ := ((HY.out.below HB3.out).below hB).at_ k hk1
              have hk' : (k : Int) < (m : Int) := by omega
              have lx := HX.out.small k
              have ly := HY.out.small k
              have hst := both_succ x y k
              have l1 : b1 < wA.heap.size := by
                obtain ⟨b, o, e, hc⟩ := (HX.out.below HB3.out).at_ k hk1
                injection e with e; injection e with e1 e2; subst e1; exact block_lt_of_cell hc
              have l2 : b2 < wA.heap.size := by
                obtain ⟨b, o, e, hc⟩ := (HY.out.below HB3.out).at_ k hk1
                injection e with e; injection e with e1 e2; subst e1; exact block_lt_of_cell hc
              have lw := hB.size
              have m1 : b1 < wr.heap.size := by omega
              have m2 : b2 < wr.heap.size := by omega
              have f1 : u15.ownBlock ≠ some b1 := fun e => absurd (hown.out.lt b1 e).1 (by omega)
              have f2 : u15.ownBlock ≠ some b2 := fun e => absurd (hown.out.lt b2 e).1 (by omega)
              generalize x.getD k 0 = p at *
              generalize y.getD k 0 = q at *
              have h24 : ∀ W, Hid (Calls Try.prog 24 #[.int .u8 (p : Nat), .int .u8 (q : Nat)] W fun e w' => e = .returned (.int .u8 (p ^^^ q : Nat)) ∧ W = w') := fun W => add_any p q lx ly W
              have H24 := Lib.hid h24
              have HST := Lib.hid hst
              generalize p ^^^ q = r at *
              clear h24 hst hB
              go_wp2_with fail
              go_region_held3 (fun w' => w'.cell? ⟨b1, o1 + k, none⟩ = some (.int .u8 (p : Nat)) ∧ w'.cell? ⟨b2, o2 + k, none⟩ = some (.int .u8 (q : Nat)))
                (first
                  | go_keep
                  | exact ⟨(by rw [hgrow.cell_far _ (by simp; omega) (Ne.symm f1)]; assumption), (by rw [hgrow.cell_far _ (by simp; omega) (Ne.symm f2)]; assumption)⟩
                  | (go_split_ands
                     refine ⟨?_, ?_⟩
                     · (rw [hgrow.cell_far _ (by simp; omega) (Ne.symm f1)]; assumption)
                     · (rw [hgrow.cell_far _ (by simp; omega) (Ne.symm f2)]; assumption)))
                (first
                  | (go_at_call 24; ((with_reducible refine (H24.out _).out.mono ?_); rintro e w' ⟨rfl, rfl⟩))
                  | (refine step_append_lies _ (by rfl) _ _ _ (by rfl) wA.heap.size 5 i0 _ 1 1 Try.underlying31 hi hz0 hz1 hz2 rfl (by omega) u15 k (bs (both x y k)) (by rfl) ((hown.out.alloc _).drew) ⟨wr.heap.size, 0, none⟩ 1 1 [.int .u8 (r : Nat)] (by rfl) (by rfl) (World.news_of_block (cs := #[.int .u8 (r : Nat)]) (t := 5) (fr := (0, 0)) (heap_alloc_new wr _)) (by simp [Value.oneCell']) (by omega) (by unfold maxLen; omega) (by omega) (by simp; omega) (wr.heap.size + 1) (by simp) ?_; intro gg cap w6 hown1 hgrow hat hlt; have HO6 := Lib.hid hown1; have HG6 := Lib.hid hgrow; clear hown1 hat))
              go_wp2_with fail
              go_roundw
              case rel => exact ⟨k + 1, by omega, by go_num, (by rw [HST.out]; exact HO6.out), ((HB.out.drew).alloc (by simp; omega) _).grown HG6.out (by simp; omega) (fun j e => (hown.out.lt j e).1)⟩
              case measure => simp [intOf]; omega
            · obtain rfl : k = m := by omega
              obtain ⟨a4, c4, rfl, hb⟩ := own_rb hown.out (both_small HX.out.small HY.out.small k) (by omega)
              have hBw : Below w.heap.size w wr := HB3.out.trans (hB.mono HB3.out.size)
              have hl1 := H.out.below hBw
              have v1 := fun (W : World) (hW : Below wr.heap.size wr W) => (Value_ok ht (hl1.below hW) ((HX.out.below hBw).below hW) hH.out).mono (R' := fun e w' => e = .returned (.tuple #[.int .u8 (lval l x k t : Nat), .int .i64 0]) ∧ Below wr.heap.size wr w') fun e w' ⟨h1, h2⟩ => ⟨h1, hW.trans (h2.mono hW.size)⟩
              have v2 := fun (W : World) (hW : Below wr.heap.size wr W) => (Value_ok ht (hl1.below hW) ((HY.out.below hBw).below hW) hH.out).mono (R' := fun e w' => e = .returned (.tuple #[.int .u8 (lval l y k t : Nat), .int .i64 0]) ∧ Below wr.heap.size wr w') fun e w' ⟨h1, h2⟩ => ⟨h1, hW.trans (h2.mono hW.size)⟩
              have v3 := fun (W : World) (hW : Below wr.heap.size wr W) => (Value_ok ht (hl1.below hW) (hb.below hW) hH.out).mono (R' := fun e w' => e = .returned (.tuple #[.int .u8 (lval l (both x y k) k t : Nat), .int .i64 0]) ∧ Below wr.heap.size wr w') fun e w' ⟨h1, h2⟩ => ⟨h1, hW.trans (h2.mono hW.size)⟩
              rw [HZZ.out] at v3
              have s1 := lval_lt l x k t
              have s2 := lval_lt l y k t
              generalize lval l x k t = p at *
              generalize lval l y k t = q at *
              have v4 := fun (W : World) => add_any p q s1 s2 W
              generalize p ^^^ q = r at *
              have V1 := Lib.hid v1
              have V2 := Lib.hid v2
              have V3 := Lib.hid v3
              have V4 := Lib.hid v4
              have HBW := Lib.hid hBw
              clear v1 v2 v3 v4 hl1 hb hown hB hBw hk hk1
              by_cases hk0 : k = 0
              · have z0 : ((k : Int) == 0) = true := by simp [hk0]
                clear hk0
                go_wp2_with (first
                  | (go_at_call 53; ((with_reducible refine (V1.out _ (Below.refl _ _)).mono ?_); rintro e w6 ⟨rfl, hB⟩; have HB6 := Lib.hid hB; clear hB))
                  | (go_at_call 53; ((with_reducible refine (V2.out _ HB6.out).mono ?_); rintro e w7 ⟨rfl, hB⟩; have HB7 := Lib.hid hB; clear hB))
                  | (go_at_call 53; ((with_reducible refine (V3.out _ HB7.out).mono ?_); rintro e w8 ⟨rfl, hB⟩; have HB8 := Lib.hid hB; clear hB))
                  | (go_at_call 24; ((with_reducible refine (V4.out _).mono ?_); rintro e w' ⟨rfl, rfl⟩)))
                go_ret
                exact ⟨rfl, HBW.out.trans (HB8.out.mono HBW.out.size)⟩
              · have z0 : ((k : Int) == 0) = false := by simp [hk0]
                obtain rfl := HXS.out hk0
                clear hk0
                go_wp2_with (first
                  | (go_at_call 53; ((with_reducible refine (V1.out _ (Below.refl _ _)).mono ?_); rintro e w6 ⟨rfl, hB⟩; have HB6 := Lib.hid hB; clear hB))
                  | (go_at_call 53; ((with_reducible refine (V2.out _ HB6.out).mono ?_); rintro e w7 ⟨rfl, hB⟩; have HB7 := Lib.hid hB; clear hB))
                  | (go_at_call 53; ((with_reducible refine (V3.out _ HB7.out).mono ?_); rintro e w8 ⟨rfl, hB⟩; have HB8 := Lib.hid hB; clear hB))
                  | (go_at_call 24; ((with_reducible refine (V4.out _).mono ?_); rintro e w' ⟨rfl, rfl⟩)))
                go_ret
                exact ⟨rfl, HBW.out.trans (HB8.out.mono HBW.out.size)⟩

set_option maxHeartbeats 1600000 in
set_option maxRecDepth 100000 in
theorem ones_twice {w : World} {a b d : Option Addr} {n c c2 c3 t : Nat} {l : List Nat} (h : RB w a n c l) (hn : ¬ l.Nodup) (h24 : n ≤ 24) :
    Calls Try.prog 11 #[.slice a n c, .slice b n c2, .slice d n c3, .int .u8 t] w fun e w' => e = .returned (.bool true) ∧ Below w.heap.size w w' := by
  have h49 : ∀ W, Below w.heap.size w W → Calls Try.prog 49 #[.slice a n c, .int .u8 t] W fun e w' => e = .returned (.tuple #[.slice none 0 0, .int .i64 9]) ∧ Below w.heap.size w w' := fun W hB => by
    refine (Weights_twice (h.below hB) hn).mono ?_
    rintro e w1 ⟨rfl, hB2⟩
    exact ⟨rfl, hB.trans (hB2.mono hB.size)⟩
  have H49 := Lib.hid h49
  clear h h49 hn
  have g1 : decide ((n : Int) > 24) = false := by simp; omega
  go_enter Try.func11, Try.ntmps11
  go_wp2_with (first
    | (go_at_call 48; ((with_reducible refine (awake4 _).mono ?_); rintro e w1 ⟨rfl, hB⟩; have HB1 := Lib.hid hB; clear hB))
    | (go_at_call 49; ((with_reducible refine (H49.out _ HB1.out).mono ?_); rintro e w2 ⟨rfl, hB⟩; have HB2 := Lib.hid hB; clear hB)))
  go_ret
  exact ⟨rfl, HB2.out⟩
set_option maxHeartbeats 1600000 in
set_option maxRecDepth 100000 in
theorem ones_guard {w : World} {a b d : Option Addr} {n n2 n3 c c2 c3 t : Nat} (hg : ¬ (n ≤ 24 ∧ n2 = n ∧ n3 = n)) :
    Calls Try.prog 11 #[.slice a n c, .slice b n2 c2, .slice d n3 c3, .int .u8 t] w fun e w' => e = .returned (.bool true) ∧ Below w.heap.size w w' := by
  by_cases h1 : n ≤ 24
  · have g1 : decide ((n : Int) > 24) = false := by simp; omega
    by_cases h2 : n2 = n
    · subst h2
      have g3 : ((n3 : Int) == (n2 : Int)) = false := by simp; omega
      have g4 : ((n3 : Int) != (n2 : Int)) = true := by simp; omega
      clear hg
      go_enter Try.func11, Try.ntmps11
      go_wp2_with (go_at_call 48; ((with_reducible refine (awake4 _).mono ?_); rintro e w1 ⟨rfl, hB⟩; have HB1 := Lib.hid hB; clear hB))
      go_ret
      exact ⟨rfl, HB1.out⟩
    · have g3 : ((n2 : Int) == (n : Int)) = false := by simp; omega
      have g4 : ((n2 : Int) != (n : Int)) = true := by simp; omega
      clear hg
      go_enter Try.func11, Try.ntmps11
      go_wp2_with (go_at_call 48; ((with_reducible refine (awake4 _).mono ?_); rintro e w1 ⟨rfl, hB⟩; have HB1 := Lib.hid hB; clear hB))
      go_ret
      exact ⟨rfl, HB1.out⟩
  · have g1 : decide ((n : Int) > 24) = true := by simp; omega
    clear hg
    go_enter Try.func11, Try.ntmps11
    go_wp2_with (go_at_call 48; ((with_reducible refine (awake4 _).mono ?_); rintro e w1 ⟨rfl, hB⟩; have HB1 := Lib.hid hB; clear hB))
    go_ret
    exact ⟨rfl, HB1.out⟩
/-- LagrOnes, whatever comes in. -/
theorem ones_any {w : World} {a b d : Option Addr} {n n2 n3 c c2 c3 t : Nat} {l x y : List Nat} (ht : t < 256) (h : RB w a n c l) (hx : RB w b n2 c2 x) (hy : RB w d n3 c3 y) :
    Calls Try.prog 11 #[.slice a n c, .slice b n2 c2, .slice d n3 c3, .int .u8 t] w fun e w' => e = .returned (.bool true) ∧ Below w.heap.size w w' := by
  by_cases hg : n ≤ 24 ∧ n2 = n ∧ n3 = n
  · obtain ⟨h24, rfl, rfl⟩ := hg
    by_cases hn : l.Nodup
    · exact ones_ok ht h hx hy hn h24
    · exact ones_twice h hn h24
  · exact ones_guard hg
end Go.Proofs.Ytokeoodkioobdaa
