/- The walk of the law PolyOne. Conditions: rows are shorter than 2 to the 47. -/
import Derived.Test.YtokeoodkioobdaaPoly15
import Derived.Test.YtokeoodkioobdaaOwn3
import Derived.Deep.DeepCutAuto
namespace Go.Proofs.Ytokeoodkioobdaa
open Go.RowKit

/-- How many of the first k bytes a row is 0 at. -/
def zc (p : List Nat) (k : Nat) : Nat := ((List.range k).filter fun x => decide (vl p x = 0)).length
theorem zc_succ (p : List Nat) (k : Nat) : zc p (k + 1) = zc p k + if vl p k = 0 then 1 else 0 := by
  unfold zc
  rw [List.range_succ, List.filter_append, List.length_append]
  congr 1
  by_cases h : vl p k = 0
  · rw [if_pos h]; simp [h]
  · rw [if_neg h]; simp [h]
theorem zc_bound {p : List Nat} (hp : Small p) (h0 : 0 < (lean p).length) : zc p 256 ≤ (lean p).length - 1 := Nat.le_of_not_lt fun hlt => by
  have hall := none_of_roots ((List.range 256).filter fun x => decide (vl p x = 0)) (lean_small hp) (show (lean p).length ≤ zc p 256 by omega) (List.nodup_range.filter _)
    (fun x hx => by have := (List.mem_filter.1 hx).1; exact List.mem_range.1 this)
    (fun x hx => by
      obtain ⟨h1, h2⟩ := List.mem_filter.1 hx
      have hx2 := List.mem_range.1 h1
      rw [ev_lean hx2 hp, ← vl_ev hx2 hp]; simpa using h2)
  exact lean_last h0 (by rw [← lean_get]; exact hall _)
theorem range_get (n i : Nat) (h : i < n) : (List.range n).getD i 0 = i := by simp [List.getD_eq_getElem?_getD, h]
theorem small_range {n : Nat} (h : n ≤ 256) : Small (List.range n) := Small.of_mem fun x hx => by have := List.mem_range.1 hx; omega
theorem small_vals {p : List Nat} (hp : Small p) (l : List Nat) : Small (l.map (vl p)) := Small.of_mem fun x hx => by obtain ⟨y, _, rfl⟩ := List.mem_map.1 hx; exact vl_lt hp y
/-- A polynomial is the one through its values. -/
theorem through_back {p : List Nat} (hp : Small p) (h : p.length ≤ 256) : lean (thr (List.range p.length) ((List.range p.length).map (vl p)) p.length).1 = lean p := by
  have hn : (List.range p.length).Nodup := List.nodup_range
  have a := thr_ok (small_range h) (small_vals hp (List.range p.length)) hn p.length (by simp)
  refine lean_ext (through_only (l := List.range p.length) a.o hp (by simpa using a.of) (fun j hj => getD_far (by simpa using hj)) hn (fun x hx => by have := List.mem_range.1 hx; omega) fun x hx => ?_)
  have hx1 := List.mem_range.1 hx
  have e := a.at_ x hx1
  rw [range_get _ _ hx1] at e
  rw [e, ← vl_ev (by omega) hp]
  simp [List.getD_eq_getElem?_getD, hx1]
theorem through_spec {n m : Nat} {x y : List Nat} (hxl : x.length = n) (hyl : y.length = m) (hn : n ≤ 1000) (hxs : Small x) (hys : Small y) : ∃ (res : List Nat) (er : Int), (∀ (w : World) (a b : Option Addr) (c d : Nat), RB w a n c x → RB w b m d y → Calls Try.prog 42 #[.slice a n c, .slice b m d] w fun e w' => ThrGive w w' w.heap.size res er e) ∧
    (er = 0 → n = m ∧ lean res = res ∧ res.length ≤ n ∧ ∀ i, i < n → vl res (x.getD i 0) = y.getD i 0) := by
  by_cases hnm : n = m
  · subst hnm
    by_cases hd : x.Nodup
    · refine ⟨lean (thr x y n).1, 0, fun w a b c d hx hy => ?_, fun _ => ?_⟩
      · have hl := thr_len x y n
        have hlb : (lean (thr x y n).1).length ≤ 140737488351232 := by rw [length_lean]; have := ln_le (thr x y n).1 (thr x y n).1.length; omega
        exact (Through_ok hx hy hd hn).mono fun e w' ⟨v, he, ho, hB⟩ => give_own he ho (lean_small (thr_small hy.small n).1) hlb hB
      · have a := thr_ok hxs hys hd n (by omega)
        exact ⟨rfl, lean_lean _, lean_len a.of, fun i hi => by rw [vl_ev (hxs i) (lean_small a.o), ev_lean (hxs i) a.o, a.at_ i hi]⟩
    · exact ⟨[], 9, fun w a b c d hx _ => (Through_twice hx hd).mono fun e w' ⟨he, hB⟩ => give_nil he hB, fun h => absurd h (by omega)⟩
  · exact ⟨[], 2, fun w a b c d _ _ => (Through_arg hnm).mono fun e w' ⟨he, hB⟩ => give_nil he hB, fun h => absurd h (by omega)⟩

set_option maxHeartbeats 800000 in
set_option maxRecDepth 100000 in
theorem lean46_true {w : World} {a : Option Addr} {n c : Nat} {l : List Nat} (h : RB w a n c l) (hl : lean l = l) :
    Calls Try.prog 46 #[.slice a n c] w fun e w' => e = .returned (.bool true) ∧ w = w' := by
  have hm := h.most
  cases n with
  | zero =>
    clear h
    go_enter Try.func46, Try.ntmps46
    go_wp2_with fail
    go_ret
    exact ⟨rfl, rfl⟩
  | succ k =>
    obtain ⟨b, off, rfl, hc⟩ := h.at_ k (by omega)
    have hlen := h.len
    have hne : l.getD k 0 ≠ 0 := by
      have := lean_last (zs := l) (by rw [hl, hlen]; omega)
      rwa [hl, hlen, Nat.add_sub_cancel] at this
    have hs : ((k + 1 : Nat) : Int) - 1 = (k : Int) := by omega
    have hd : (((k + 1 : Nat) : Int) == 0) = false := by simp; omega
    clear h hlen hl
    generalize l.getD k 0 = z at *
    have hz : ((z : Nat) : Int) ≠ 0 := by omega
    have hzb : (((z : Nat) : Int) != 0) = true := by simp; omega
    clear hne
    go_enter Try.func46, Try.ntmps46
    go_wp2_with fail
    go_ret
    exact ⟨rfl, rfl⟩

set_option maxHeartbeats 1600000 in
set_option maxRecDepth 100000 in
theorem one_poly_great {w : World} {a b f : Option Addr} {n m k c d g : Nat} {x y p : List Nat} (hx : RB w a n c x) (hy : RB w b m d y) (hp : RB w f k g p) (h : 40 < n ∨ 40 < m ∨ 40 < k) :
    Calls Try.prog 9 #[.slice a n c, .slice b m d, .slice f k g] w fun e w' => e = .returned (.bool true) ∧ Below w.heap.size w w' := by
  have hm1 := hx.most
  have hm2 := hy.most
  have hm3 := hp.most
  clear hx hy hp
  by_cases h1 : 40 < n
  · have d1 : decide ((40 : Int) < (n : Int)) = true := by simp; omega
    clear h h1
    go_enter Try.func9, Try.ntmps9
    go_wp2_with (go_at_call 41; ((with_reducible refine (awake2 _).mono ?_); rintro e w3 ⟨rfl, hB3⟩; have HB3 := Lib.hid hB3; clear hB3))
    go_ret
    exact ⟨rfl, HB3.out⟩
  · have d1 : decide ((40 : Int) < (n : Int)) = false := by simp; omega
    by_cases h2 : 40 < m
    · have d2 : decide ((40 : Int) < (m : Int)) = true := by simp; omega
      clear h h1 h2
      go_enter Try.func9, Try.ntmps9
      go_wp2_with (go_at_call 41; ((with_reducible refine (awake2 _).mono ?_); rintro e w3 ⟨rfl, hB3⟩; have HB3 := Lib.hid hB3; clear hB3))
      go_ret
      exact ⟨rfl, HB3.out⟩
    · have d2 : decide ((40 : Int) < (m : Int)) = false := by simp; omega
      have d3 : decide ((40 : Int) < (k : Int)) = true := by simp; omega
      clear h h1 h2
      go_enter Try.func9, Try.ntmps9
      go_wp2_with (go_at_call 41; ((with_reducible refine (awake2 _).mono ?_); rintro e w3 ⟨rfl, hB3⟩; have HB3 := Lib.hid hB3; clear hB3))
      go_ret
      exact ⟨rfl, HB3.out⟩

/-- At the heads of the loop that collects places and values. -/
structure OneR (w : World) (p : List Nat) (k : Nat) (at_ to_ z i : Value) (j : Nat) (wr : World) : Prop where
  ji : i = .int .i64 j
  zi : z = .int .i64 (zc p j : Nat)
  a : wr.ownsRow w.heap.size 5 1 at_ (min j k) (bs (List.range (min j k)))
  t : wr.ownsRow w.heap.size 5 1 to_ (min j k) (bs ((List.range (min j k)).map (vl p)))
  ne : ∀ g, at_.ownBlock = some g → to_.ownBlock ≠ some g
  below : Below w.heap.size w wr
theorem range_bs (j : Nat) : bs (List.range j) ++ [.int .u8 (j : Nat)] = bs (List.range (j + 1)) := by rw [List.range_succ, bs_append]; rfl
theorem vals_bs (p : List Nat) (j : Nat) : bs ((List.range j).map (vl p)) ++ [.int .u8 (vl p j : Nat)] = bs ((List.range (j + 1)).map (vl p)) := by rw [List.range_succ, List.map_append, bs_append]; rfl
theorem own_apart {A B : World} {base n : Nat} {v u : Value} {xs : List Value} (h : A.ownsRow base 5 1 u n xs) (hg : A.grownBy B v.ownBlock) (hne : ∀ g, v.ownBlock = some g → u.ownBlock ≠ some g) : B.ownsRow base 5 1 u n xs := by
  refine h.kept hg ?_
  cases hu : u.ownBlock with
  | none => exact .inl rfl
  | some g => exact .inr fun e => hne g e.symm hu
theorem one_ne {w1 w2 w1' w2' : World} {base n m : Nat} {at_ to_ at2 to2 : Value} {xs ys : List Value} (ha : w1.ownsRow base 5 1 at_ n xs) (ht : w1.ownsRow base 5 1 to_ m ys) (hne : ∀ g, at_.ownBlock = some g → to_.ownBlock ≠ some g) (h1 : w1.heap.size ≤ w1'.heap.size) (h2 : w1'.heap.size ≤ w2.heap.size) (h3 : w2.heap.size < w2'.heap.size)
    (ka : ∀ g, at2.ownBlock = some g → at_.ownBlock = some g ∨ g = w1'.heap.size) (kt : ∀ g, to2.ownBlock = some g → to_.ownBlock = some g ∨ g = w2'.heap.size) : ∀ g, at2.ownBlock = some g → to2.ownBlock ≠ some g := fun g e1 e2 => by
  rcases ka g e1 with h | h
  · rcases kt g e2 with k | k
    · exact hne g h k
    · have := (ha.lt g h).2; omega
  · rcases kt g e2 with k | k
    · have := (ht.lt g k).2; omega
    · omega

set_option maxHeartbeats 6000000 in
set_option maxRecDepth 100000 in
theorem one_poly {w : World} {a b f : Option Addr} {n m k c d g : Nat} {x y p : List Nat} (hx : RB w a n c x) (hy : RB w b m d y) (hp : RB w f k g p) (h1 : n ≤ 40) (h2 : m ≤ 40) (h3 : k ≤ 40) :
    Calls Try.prog 9 #[.slice a n c, .slice b m d, .slice f k g] w fun e w' => e = .returned (.bool true) ∧ Below w.heap.size w w' := by
  obtain ⟨i0, hi, hz0, hz1, hz2⟩ := info_parts info5
  have d1 : decide ((40 : Int) < (n : Int)) = false := by simp; omega
  have d2 : decide ((40 : Int) < (m : Int)) = false := by simp; omega
  have d3 : decide ((40 : Int) < (k : Int)) = false := by simp; omega
  obtain ⟨res, er, hT, hok⟩ := through_spec hx.len hy.len (by omega : n ≤ 1000) hx.small hy.small
  have HX := Lib.hid hx
  have HY := Lib.hid hy
  have HP := Lib.hid hp
  have HT := Lib.hid hT
  have HOK := Lib.hid hok
  clear hx hy hp hT hok
  go_enter Try.func9, Try.ntmps9
  go_wp2_with fail
  refine (awake2 _).mono ?_
  rintro e w1 ⟨rfl, hB1⟩
  have HB1 := Lib.hid hB1
  have H42 := Lib.hid (HT.out _ _ _ _ _ (HX.out.below hB1) (HY.out.below hB1))
  clear hB1
  go_upto_if 40 with (go_at_call 42; ((with_reducible refine H42.out.mono ?_); rintro e w2 ⟨aq, nq, cq, rfl, HQ, HB2⟩))
  have hB2 : Below w.heap.size w w2 := HB1.out.trans (HB2.out.mono HB1.out.size)
  have HBw := Lib.hid hB2
  clear hB2 d1 d2 d3
  go_cut [9] from 39 to 67 (fun s9 wx => Hid (Below w.heap.size w wx))
  case first =>
    by_cases her : er = 0
    · subst her
      obtain ⟨rfl, hln, hlen, hval⟩ := HOK.out rfl
      have HVAL := Lib.hid hval
      have HLN := Lib.hid hln
      have hnq : nq ≤ n := by rw [← HQ.out.len]; exact hlen
      clear hln hval hlen
      go_wp2_with fail
      obtain ⟨wo, rfl⟩ : ∃ wo : World, wo = w2 := ⟨_, rfl⟩
      go_loopw [9] (fun i wr => ∃ j : Nat, j ≤ n ∧ i = .int .i64 j ∧ Below wo.heap.size wo wr) (fun i _ => n - (intOf i).toNat)
      case atStart => exact ⟨0, by omega, rfl, Below.refl _ _⟩
      case round =>
        obtain ⟨j, hj, rfl, hB⟩ := hrel
        have HB := Lib.hid hB
        have hBw := HBw.out.trans (hB.mono HBw.out.size)
        by_cases hj1 : j < n
        · obtain ⟨b1, o1, rfl, hc1⟩ := (HX.out.below hBw).at_ j hj1
          obtain ⟨b2, o2, rfl, hc2⟩ := (HY.out.below hBw).at_ j hj1
          have hv := HVAL.out j hj1
          have hxs := HX.out.small j
          have hl1 := block_lt_of_cell hc1
          have hl2 := block_lt_of_cell hc2
          have hq := HQ.out.below hB
          have hql := hq.len
          have h45 : ∀ W, Below wr.heap.size wr W → Hid (Calls Try.prog 45 #[.slice aq nq cq, .int .u8 (x.getD j 0 : Nat)] W fun e w' => e = .returned (.int .u8 (y.getD j 0 : Nat)) ∧ Hid (Below wr.heap.size wr w') ∧ w'.cell? ⟨b1, o1 + j, none⟩ = some (.int .u8 (x.getD j 0 : Nat)) ∧ w'.cell? ⟨b2, o2 + j, none⟩ = some (.int .u8 (y.getD j 0 : Nat))) := fun W hW => by
            refine (Value_any hxs (hq.below hW)).mono ?_
            rintro e w' ⟨rfl, hB5⟩
            have hB0 := hW.trans (hB5.mono hW.size)
            refine ⟨by rw [← hv]; unfold vl; rw [hql], hB0, (hB0.cell (p := ⟨b1, o1 + j, none⟩) hl1).trans hc1, (hB0.cell (p := ⟨b2, o2 + j, none⟩) hl2).trans hc2⟩
          have H45 := Lib.hid h45
          have hjn : (j : Int) < (n : Int) := by omega
          have hj0 : (0 : Int) ≤ (j : Int) := by omega
          clear h45 hq hB hBw hv hql
          generalize x.getD j 0 = u at *
          generalize y.getD j 0 = v at *
          go_wp2_with fail
          go_region_held3 (fun w' => w'.cell? ⟨b1, o1 + j, none⟩ = some (.int .u8 (u : Nat)) ∧ w'.cell? ⟨b2, o2 + j, none⟩ = some (.int .u8 (v : Nat))) (go_keep)
            (first
              | (go_at_call 45; ((with_reducible refine (H45.out _ ?_).out.mono ?_); (exact (Below.refl _ _).drew); rintro e w5 ⟨rfl, HB5, c5a, c5b⟩)))
          go_wp2_with fail
          go_roundw
          case rel => exact ⟨j + 1, by omega, by go_num, HB.out.trans (HB5.out.mono HB.out.size)⟩
          case measure => simp [intOf]; omega
        · obtain rfl : j = n := by omega
          have HBx := Lib.hid hBw
          have H46 := Lib.hid (lean46_true (HQ.out.below hB) HLN.out)
          have dn1 : decide ((j : Int) < (nq : Int)) = false := by simp; omega
          clear hB hBw
          go_wp2_with (go_at_call 46; ((with_reducible refine H46.out.mono ?_); rintro e w' ⟨rfl, rfl⟩))
          go_meet
          exact HBx
    · have her2 : (er == 0) = false := by simp [her]
      clear her
      go_wp2_with fail
      go_meet
      exact HBw
  case rest =>
    have HBc := hcut
    go_wp2_with fail
    go_loopw [10, 11, 12, 13] (fun at_ to_ z i wr => ∃ j : Nat, j ≤ 256 ∧ OneR w p k at_ to_ z i j wr) (fun _ _ _ i _ => 256 - (intOf i).toNat)
    case atStart => exact ⟨0, by omega, ⟨rfl, rfl, by rw [Nat.zero_min]; exact World.ownsRow_nil _ _ _ _, by rw [Nat.zero_min]; exact World.ownsRow_nil _ _ _ _, (fun g e => by cases e), HBc.out⟩⟩
    case round =>
      obtain ⟨j, hj, rfl, rfl, ha, ht, hne, hB⟩ := hrel
      have HB := Lib.hid hB
      have hsw : w.heap.size ≤ wr.heap.size := hB.size
      have hps := HP.out.small
      by_cases hj1 : j < 256
      · have h45 : Calls Try.prog 45 #[.slice f k g, .int .u8 (j : Nat)] wr fun e w' => e = .returned (.int .u8 (vl p j : Nat)) ∧ Below wr.heap.size wr w' := by
          have := Value_any (x := j) hj1 (HP.out.below hB)
          unfold vl; rw [HP.out.len]; exact this
        have H45 := Lib.hid h45
        have hzs := zc_succ p j
        have hjm : (j : Int) % 256 = (j : Int) := by omega
        have hvl := vl_lt hps j
        have HPS := Lib.hid hps
        have HNE := Lib.hid hne
        clear h45 hB hps hne
        by_cases hlt : j < k
        · have hmin : min j k = j := by omega
          have hmin2 : min (j + 1) k = j + 1 := by omega
          rw [hmin] at ha ht
          have hvb := vals_bs p j
          have hrb := range_bs j
          obtain ⟨aa, ca, rfl, _⟩ := own_rb ha (small_range (by omega)) (by omega)
          obtain ⟨at2, ct, rfl, _⟩ := own_rb ht (small_vals HPS.out _) (by omega)
          have HA := Lib.hid ha
          have HTo := Lib.hid ht
          have HVB := Lib.hid hvb
          have HRB := Lib.hid hrb
          have HZS := Lib.hid hzs
          have HM2 := Lib.hid hmin2
          have hd : decide ((j : Int) < (k : Int)) = true := by simp; omega
          clear ha ht hmin hmin2 hvb hrb hzs
          obtain ⟨v, hve⟩ : ∃ v, v = vl p j := ⟨_, rfl⟩
          rw [← hve] at H45 HVB HZS hvl
          generalize hzcj : zc p j = q
          have hql : q ≤ 256 := by rw [← hzcj]; unfold zc; exact Nat.le_trans (List.length_filter_le _ _) (by rw [List.length_range]; omega)
          rw [hzcj] at HZS
          clear hzcj hve
          by_cases hz : v = 0
          all_goals
            first
              | (have HZ : Hid (zc p (j + 1) = q + 1) := (by rw [HZS.out, if_pos hz]; exact rfl); have hzb : ((v : Int) == 0) = true := (by simp; omega); have hzi : (v : Int) = 0 ↔ True := (by simp; omega); clear hz)
              | (have HZ : Hid (zc p (j + 1) = q) := (by rw [HZS.out, if_neg hz]; exact rfl); have hzb : ((v : Int) == 0) = false := (by simp; omega); have hzi : ¬ (v : Int) = 0 := (by omega); clear hz)
            go_wp2_with fail
            refine H45.out.mono ?_
            rintro e w5 ⟨rfl, hB5⟩
            have HB5 := Lib.hid hB5
            have ha5 := own_below HA.out hB5
            have ht5 := own_below HTo.out hB5
            have hs5 : wr.heap.size ≤ w5.heap.size := hB5.size
            have HA5 := Lib.hid ha5
            have HT5 := Lib.hid ht5
            have HA6 := Lib.hid (ha5.alloc (.cells #[.int .u8 (j : Nat)] 5))
            have HT6 := Lib.hid (ht5.alloc (.cells #[.int .u8 (j : Nat)] 5))
            clear hB5 ha5 ht5
            go_wp2_with (at_builtin; refine wpList_append_own2 _ rfl (.tmp 85) (.tmp 88) 31 rfl w.heap.size 5 i0 (.int .u8 0) 1 Try.underlying31 hi hz0 hz1 hz2 rfl _ j (bs (List.range j)) rfl HA6.out ⟨w5.heap.size, 0, none⟩ 1 1 [.int .u8 (j : Nat)] rfl rfl (cell_new _ _) (one_u8 _) (by unfold maxLen; omega) (by omega) (by simp; omega) ?_)
            intro va wa hoa hga hwa
            obtain ⟨ga, ca2, rfl⟩ := own_succ hoa
            have hto7 := own_apart HT6.out hga HNE.out
            have hoa8 := hoa.alloc (.cells #[.int .u8 (v : Nat)] 5)
            have hto8 := hto7.alloc (.cells #[.int .u8 (v : Nat)] 5)
            have HOA := Lib.hid hoa
            have HGA := Lib.hid hga
            have HWA : Hid (∀ g, (Value.slice (some ⟨ga, 0, none⟩) (j + 1) ca2).ownBlock = some g → (Value.slice aa j ca).ownBlock = some g ∨ g = (w5.alloc (.cells #[.int .u8 (j : Nat)] 5)).heap.size) := fun g e => by simpa using hwa g e
            have HT8 := Lib.hid hto8
            have hs6 : (w5.alloc (.cells #[.int .u8 (j : Nat)] 5)).heap.size ≤ wa.heap.size := hga.size
            have hne7 : ∀ g, (Value.slice at2 j ct).ownBlock = some g → (Value.slice (some ⟨ga, 0, none⟩) (j + 1) ca2).ownBlock ≠ some g := fun g e1 e2 => by
              rcases hwa g e2 with h | h
              · exact HNE.out g h e1
              · have := (HT5.out.lt g e1).2
                omega
            have HN7 := Lib.hid hne7
            simp only [World.size_alloc] at hs6
            clear hoa hga hwa hto7 hto8 hoa8 hne7
            go_wp2_with (at_builtin; refine wpList_append_own2 _ rfl (.tmp 90) (.tmp 92) 31 rfl w.heap.size 5 i0 (.int .u8 0) 1 Try.underlying31 hi hz0 hz1 hz2 rfl _ j (bs ((List.range j).map (vl p))) rfl HT8.out ⟨wa.heap.size, 0, none⟩ 1 1 [.int .u8 (v : Nat)] rfl rfl (cell_new _ _) (one_u8 _) (by unfold maxLen; omega) (by omega) (by simp; omega) ?_)
            intro vt wt hot hgt hwt
            obtain ⟨gt, ct2, rfl⟩ := own_succ hot
            have hoa9 := own_apart (HOA.out.alloc (.cells #[.int .u8 (v : Nat)] 5)) hgt HN7.out
            have hne9 : ∀ g, (Value.slice (some ⟨ga, 0, none⟩) (j + 1) ca2).ownBlock = some g → (Value.slice (some ⟨gt, 0, none⟩) (j + 1) ct2).ownBlock ≠ some g :=
              one_ne (w1 := w5) (w1' := w5.alloc (.cells #[.int .u8 (j : Nat)] 5)) (w2 := wa) (w2' := wa.alloc (.cells #[.int .u8 (v : Nat)] 5)) HA5.out HT5.out HNE.out (by simp) (by simpa using hs6) (by simp) HWA.out (fun g e => by simpa using hwt g e)
            have hB9 : Below w.heap.size w wt := (((HB.out.trans (HB5.out.mono hsw)).alloc (by omega) _ |>.grown HGA.out (by simp; omega) (fun g e => (HA5.out.lt g e).1)).alloc (by omega) _).grown hgt (by simp; omega) (fun g e => (HT5.out.lt g e).1)
            have HRel : Hid (OneR w p k (.slice (some ⟨ga, 0, none⟩) (j + 1) ca2) (.slice (some ⟨gt, 0, none⟩) (j + 1) ct2) (.int .i64 (zc p (j + 1) : Nat)) (.int .i64 ((j + 1 : Nat) : Int)) (j + 1) wt) :=
              ⟨rfl, rfl, by rw [HM2.out, ← HRB.out]; exact hoa9, by rw [HM2.out, ← HVB.out]; exact hot, hne9, hB9⟩
            rw [HZ.out] at HRel
            clear hot hgt hwt hoa9 hne9 hB9
            go_wp2_with fail
            go_roundw
            case rel => exact ⟨j + 1, by omega, HRel⟩
            case measure => simp [intOf]; omega
        · have hmin : min j k = k := by omega
          have hmin2 : min (j + 1) k = k := by omega
          rw [hmin] at ha ht
          obtain ⟨aa, ca, rfl, _⟩ := own_rb ha (small_range (by omega)) (by omega)
          obtain ⟨at2, ct, rfl, _⟩ := own_rb ht (small_vals HPS.out _) (by omega)
          have HA := Lib.hid ha
          have HTo := Lib.hid ht
          have HZS := Lib.hid hzs
          have HM2 := Lib.hid hmin2
          clear ha ht hmin hmin2 hzs
          obtain ⟨v, hve⟩ : ∃ v, v = vl p j := ⟨_, rfl⟩
          rw [← hve] at H45 HZS hvl
          generalize hzcj : zc p j = q
          have hql : q ≤ 256 := by rw [← hzcj]; unfold zc; exact Nat.le_trans (List.length_filter_le _ _) (by rw [List.length_range]; omega)
          rw [hzcj] at HZS
          clear hzcj hve hlt
          by_cases hz : v = 0
          all_goals
            first
              | (have HZ : Hid (zc p (j + 1) = q + 1) := (by rw [HZS.out, if_pos hz]; exact rfl); have hzb : ((v : Int) == 0) = true := (by simp; omega); have hzi : (v : Int) = 0 ↔ True := (by simp; omega); clear hz)
              | (have HZ : Hid (zc p (j + 1) = q) := (by rw [HZS.out, if_neg hz]; exact rfl); have hzb : ((v : Int) == 0) = false := (by simp; omega); have hzi : ¬ (v : Int) = 0 := (by omega); clear hz)
            go_wp2_with fail
            refine H45.out.mono ?_
            rintro e w5 ⟨rfl, hB5⟩
            have HRel : Hid (OneR w p k (.slice aa k ca) (.slice at2 k ct) (.int .i64 (zc p (j + 1) : Nat)) (.int .i64 ((j + 1 : Nat) : Int)) (j + 1) w5) :=
              ⟨rfl, rfl, by rw [HM2.out]; exact own_below HA.out hB5, by rw [HM2.out]; exact own_below HTo.out hB5, HNE.out, HB.out.trans (hB5.mono hsw)⟩
            rw [HZ.out] at HRel
            clear hB5
            go_wp2_with fail
            go_roundw
            case rel => exact ⟨j + 1, by omega, HRel⟩
            case measure => simp [intOf]; omega
      · obtain rfl : j = 256 := by omega
        have hmin : min 256 k = k := by omega
        rw [hmin] at ha ht
        have hpl : p.length = k := HP.out.len
        obtain ⟨aa, ca, rfl, hra⟩ := own_rb ha (small_range (by omega)) (by omega)
        obtain ⟨at2, ct, rfl, hrt⟩ := own_rb ht (small_vals hps _) (by omega)
        have hll : (lean p).length ≤ 40 := by rw [length_lean, hpl]; exact Nat.le_trans (ln_le _ _) h3
        have hzb : 0 < (lean p).length → zc p 256 ≤ (lean p).length - 1 := zc_bound hps
        have HL := Lib.hid (Lean_any (HP.out.below hB))
        have htb : lean (thr (List.range k) ((List.range k).map (vl p)) k).1 = lean p := by
          have := through_back hps (by omega)
          rwa [hpl] at this
        have hT2 : ∀ W, Below wr.heap.size wr W → Hid (Calls Try.prog 42 #[.slice aa k ca, .slice at2 k ct] W fun e w' => ∃ v, e = .returned (.tuple #[v, .int .i64 0]) ∧ w'.ownsRow W.heap.size 5 1 v (lean p).length (bs (lean p)) ∧ Below W.heap.size W w') := fun W hW => by
          have := Through_ok (hra.below hW) (hrt.below hW) List.nodup_range (by omega)
          rw [htb] at this
          exact this
        have HT2 := Lib.hid hT2
        have HPS := Lib.hid (lean_small hps)
        clear ha ht hmin hpl hra hrt htb hT2 hne hB hps
        go_wp2_with fail
        refine HL.out.mono ?_
        rintro e w5 ⟨vL, rfl, hoL, hB5⟩
        obtain ⟨aL, cL, rfl, hrL⟩ := own_rb hoL HPS.out (by omega)
        have HRL := Lib.hid hrL
        have HB5 := Lib.hid hB5
        clear hoL hrL hB5
        go_wp2_with fail
        refine (HT2.out _ HB5.out).out.mono ?_
        rintro e w6 ⟨vT, rfl, hoT, hB6⟩
        obtain ⟨aT, cT, rfl, hrT⟩ := own_rb hoT HPS.out (by omega)
        have hsame : Calls Try.prog 44 #[.slice aT (lean p).length cT, .slice aL (lean p).length cL] w6 fun e w' => e = .returned (.bool true) ∧ Drawn w6 w' := (same_any hrT (HRL.out.below hB6)).mono fun e w' ⟨h1, h2⟩ => ⟨by rw [h1]; simp, h2⟩
        have HS := Lib.hid hsame
        have HB6 := Lib.hid ((HB.out.trans (HB5.out.mono hsw)).trans (hB6.mono (Nat.le_trans hsw HB5.out.size)))
        clear hoT hrT hB6 hsame
        generalize (lean p).length = ll at *
        generalize zc p 256 = q at *
        cases ll with
        | zero =>
          clear hzb
          go_wp2_with (go_at_call 44; ((with_reducible refine HS.out.mono ?_); rintro e w' ⟨rfl, q2, rfl⟩))
          go_ret
          exact ⟨rfl, below_drewN HB6.out _⟩
        | succ ll =>
          have hq : q ≤ ll := by have := hzb (by omega); omega
          have hsub : ((ll + 1 : Nat) : Int) - 1 = (ll : Int) := by omega
          have hd1 : (((ll + 1 : Nat) : Int) == 0) = false := by simp; omega
          have hd2 : decide ((q : Int) ≤ (ll : Int)) = true := by simp; omega
          have hd3 : decide (q ≤ ll) = true := by simp; omega
          clear hzb
          go_wp2_with (go_at_call 44; ((with_reducible refine HS.out.mono ?_); rintro e w' ⟨rfl, q2, rfl⟩))
          go_ret
          exact ⟨rfl, below_drewN HB6.out _⟩
end Go.Proofs.Ytokeoodkioobdaa
