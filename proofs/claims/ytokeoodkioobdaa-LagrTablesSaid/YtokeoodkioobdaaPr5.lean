/- The walk of the reference's Through. Conditions: rows are shorter than 2 to the 46, at most 1000 points. -/
import Derived.Test.YtokeoodkioobdaaPr4
import Derived.Test.YtokeoodkioobdaaLagr1
namespace Go.Proofs.Ytokeoodkioobdaa
open Go.RowKit

set_option maxHeartbeats 800000 in
set_option maxRecDepth 100000 in
theorem rThrough_arg {w : World} {a b : Option Addr} {n c m d : Nat} (hn : n ≠ m) :
    Calls Try.prog 43 #[.slice a n c, .slice b m d] w fun e w' => e = .returned (.tuple #[.slice none 0 0, .int .i64 2]) ∧ Below w.heap.size w w' := by
  have hd : ((n : Int) == (m : Int)) = false := by simp; omega
  go_enter Try.func43, Try.ntmps43
  go_wp2_with fail
  go_ret2
  exact ⟨rfl, Below.refl _ _⟩
theorem notin_of {l : List Nat} {i : Nat} (hi : i < l.length) (h : ∀ j, j < i → l.getD i 0 ≠ l.getD j 0) : l.getD i 0 ∉ l.take i := fun hm => by
  obtain ⟨j, hj, e⟩ := List.getElem_of_mem hm
  have hj1 : j < i := by rw [List.length_take] at hj; omega
  refine h j hj1 ?_
  rw [← e]
  simp [List.getD_eq_getElem?_getD, show j < l.length by omega]
theorem in_of {l : List Nat} {i j : Nat} (hi : i < l.length) (hj : j < i) (h : l.getD i 0 = l.getD j 0) : l.getD i 0 ∈ l.take i := by
  rw [h]
  have e : l.getD j 0 = (l.take i)[j]'(by rw [List.length_take]; omega) := by simp [List.getD_eq_getElem?_getD, show j < l.length by omega]
  rw [e]; exact List.getElem_mem _

set_option maxHeartbeats 1600000 in
set_option maxRecDepth 100000 in
theorem rThrough_twice {w : World} {a b : Option Addr} {n c d : Nat} {l : List Nat} (h : RB w a n c l) (hn : ¬ l.Nodup) :
    Calls Try.prog 43 #[.slice a n c, .slice b n d] w fun e w' => e = .returned (.tuple #[.slice none 0 0, .int .i64 9]) ∧ Below w.heap.size w w' := by
  have hm1 := h.most
  have hl1 := h.le
  have H := Lib.hid h
  have HNN : Hid (¬ l.Nodup) := hn
  clear h hn
  go_enter Try.func43, Try.ntmps43
  go_wp2_with fail
  go_loopw [6] (fun i wr => ∃ k : Nat, k ≤ n ∧ i = .int .i64 k ∧ Hid ((l.take k).Nodup) ∧ Drawn w wr) (fun i _ => n - (intOf i).toNat)
  case atStart => exact ⟨0, by omega, rfl, (List.nodup_nil : ([] : List Nat).Nodup), Drawn.refl _⟩
  case round =>
    obtain ⟨k, hk, rfl, hnd, hD⟩ := hrel
    have HD := Lib.hid hD
    by_cases hk1 : k < n
    · clear hD
      go_wp2_with fail
      obtain ⟨wo, rfl⟩ : ∃ wo : World, wo = wr := ⟨_, rfl⟩
      go_loopw [7] (fun i wr => ∃ j : Nat, j ≤ k ∧ i = .int .i64 j ∧ Hid (∀ i, i < j → l.getD k 0 ≠ l.getD i 0) ∧ Drawn w wr) (fun i _ => k - (intOf i).toNat)
      case atStart => exact ⟨0, by omega, rfl, (fun i h => absurd h (by omega)), HD.out⟩
      case round =>
        obtain ⟨j, hj, rfl, hne, hD⟩ := hrel
        have HD2 := Lib.hid hD
        by_cases hj1 : j < k
        · obtain ⟨b1, o1, rfl, hc1⟩ := H.out.at_ k hk1
          obtain ⟨b2, o2, e, hc2⟩ := H.out.at_ j (by omega)
          injection e with e; injection e with e1 e2; subst e1; subst e2
          have c1 := (hD.cell _).trans hc1
          have c2 := (hD.cell _).trans hc2
          have h5 : (0 : Int) ≤ (k : Int) := by omega
          have h6 : (k : Int) < (n : Int) := by omega
          have h7 : (0 : Int) ≤ (j : Int) := by omega
          have h8 : (j : Int) < (n : Int) := by omega
          have h9 : j < n := by omega
          clear hD hc1 hc2
          by_cases hx : l.getD k 0 = l.getD j 0
          · rw [hx] at c1
            clear hx
            generalize l.getD j 0 = y at *
            go_wp2_with fail
            go_quiet (fail)
            go_wp2_with fail
            go_ret2
            exact ⟨rfl, by obtain ⟨q, hq⟩ := HD2.out.more nq; rw [hq]; exact below_drewN (Below.refl _ _) _⟩
          · have hne2 : ∀ i, i < j + 1 → l.getD k 0 ≠ l.getD i 0 := fun i hi => by
              by_cases e : i = j
              · subst e; exact hx
              · exact hne.out i (by omega)
            have HNE := Lib.hid hne2
            clear hne2 hne
            generalize l.getD k 0 = x at *
            generalize l.getD j 0 = y at *
            have hxi : ((x : Nat) : Int) ≠ ((y : Nat) : Int) := by omega
            have hxb : (((x : Nat) : Int) == ((y : Nat) : Int)) = false := by simp; omega
            clear hx
            go_wp2_with fail
            go_quiet (fail)
            go_wp2_with fail
            go_roundw
            case rel => exact ⟨j + 1, by omega, by go_num, HNE, HD2.out.more _⟩
            case measure => simp [intOf]; omega
        · obtain rfl : j = k := by omega
          have HN := Lib.hid (nodup_step (by rw [H.out.len]; exact hk1) hnd.out (notin_of (by rw [H.out.len]; exact hk1) hne.out))
          clear hne hD
          go_wp2_with fail
          go_roundw
          case rel => exact ⟨j + 1, by omega, by go_num, HN, HD2.out⟩
          case measure => simp [intOf]; omega
    · obtain rfl : k = n := by omega
      have := hnd.out
      rw [List.take_of_length_le (by rw [H.out.len]; exact Nat.le_refl _)] at this
      exact absurd this HNN.out

set_option maxHeartbeats 6000000 in
set_option maxRecDepth 100000 in
theorem rThrough_ok {w : World} {a b : Option Addr} {n c d : Nat} {l ys : List Nat} (h : RB w a n c l) (hy : RB w b n d ys) (hn : l.Nodup) (hn1 : n ≤ 1000) :
    Calls Try.prog 43 #[.slice a n c, .slice b n d] w fun e w' => ∃ v, e = .returned (.tuple #[v, .int .i64 0]) ∧ w'.ownsRow w.heap.size 5 1 v (lean (rto l ys n)).length (bs (lean (rto l ys n))) ∧ Below w.heap.size w w' := by
  have hm1 := h.most
  have hl1 := h.le
  have H := Lib.hid h
  have HY := Lib.hid hy
  have HNN : Hid (l.Nodup) := hn
  clear h hy hn
  go_enter Try.func43, Try.ntmps43
  go_wp2_with fail
  go_loopw [6] (fun i wr => ∃ k : Nat, k ≤ n ∧ i = .int .i64 k ∧ Drawn w wr) (fun i _ => n - (intOf i).toNat)
  case atStart => exact ⟨0, by omega, rfl, Drawn.refl _⟩
  case round =>
    obtain ⟨k, hk, rfl, hD⟩ := hrel
    have HD := Lib.hid hD
    by_cases hk1 : k < n
    · clear hD
      go_wp2_with fail
      obtain ⟨wo, rfl⟩ : ∃ wo : World, wo = wr := ⟨_, rfl⟩
      go_loopw [7] (fun i wr => ∃ j : Nat, j ≤ k ∧ i = .int .i64 j ∧ Drawn w wr) (fun i _ => k - (intOf i).toNat)
      case atStart => exact ⟨0, by omega, rfl, HD.out⟩
      case round =>
        obtain ⟨j, hj, rfl, hD⟩ := hrel
        have HD2 := Lib.hid hD
        by_cases hj1 : j < k
        · obtain ⟨b1, o1, rfl, hc1⟩ := H.out.at_ k hk1
          obtain ⟨b2, o2, e, hc2⟩ := H.out.at_ j (by omega)
          injection e with e; injection e with e1 e2; subst e1; subst e2
          have c1 := (hD.cell _).trans hc1
          have c2 := (hD.cell _).trans hc2
          have h5 : (0 : Int) ≤ (k : Int) := by omega
          have h6 : (k : Int) < (n : Int) := by omega
          have h7 : (0 : Int) ≤ (j : Int) := by omega
          have h8 : (j : Int) < (n : Int) := by omega
          have h9 : j < n := by omega
          have hx := (nodup_getD HNN.out hj1 (by rw [H.out.len]; exact hk1)).symm
          clear hD hc1 hc2
          generalize l.getD k 0 = x at *
          generalize l.getD j 0 = y at *
          have hxi : ((x : Nat) : Int) ≠ ((y : Nat) : Int) := by omega
          have hxb : (((x : Nat) : Int) == ((y : Nat) : Int)) = false := by simp; omega
          clear hx
          go_wp2_with fail
          go_quiet (fail)
          go_wp2_with fail
          go_roundw
          case rel => exact ⟨j + 1, by omega, by go_num, HD2.out.more _⟩
          case measure => simp [intOf]; omega
        · obtain rfl : j = k := by omega
          clear hD
          go_wp2_with fail
          go_roundw
          case rel => exact ⟨j + 1, by omega, by go_num, HD2.out⟩
          case measure => simp [intOf]; omega
    · obtain rfl : k = n := by omega
      have hBd : Below w.heap.size w wr := by obtain ⟨q, hq⟩ := hD; rw [hq]; exact below_drewN (Below.refl _ _) _
      have HBd := Lib.hid hBd
      clear hD hBd
      go_wp2_with fail
      obtain ⟨wo, rfl⟩ : ∃ wo : World, wo = wr := ⟨_, rfl⟩
      go_loopw [8, 9] (fun o i wr => ∃ j : Nat, j ≤ k ∧ i = .int .i64 j ∧ Hid (wr.ownsRow w.heap.size 5 1 o (rto l ys j).length (bs (rto l ys j))) ∧ Below w.heap.size w wr) (fun _ i _ => k - (intOf i).toNat)
      case atStart => exact ⟨0, by omega, rfl, World.ownsRow_nil _ _ _ _, HBd.out⟩
      case round =>
        obtain ⟨j, hj, rfl, hown, hB⟩ := hrel
        have HB := Lib.hid hB
        have hsw : w.heap.size ≤ wr.heap.size := hB.size
        have hlen := rto_len l ys j (by rw [H.out.len]; exact hj)
        rw [H.out.len] at hlen
        have hsm := rto_small (l := l) HY.out.small j
        obtain ⟨ao, co, rfl, hro⟩ := own_rb hown.out hsm (by omega)
        by_cases hj1 : j < k
        · obtain ⟨b1, o1, rfl, hcx⟩ := (H.out.below hB).at_ j hj1
          obtain ⟨b2, o2, rfl, hcy⟩ := (HY.out.below hB).at_ j hj1
          have HRO := Lib.hid hro
          have HSM := Lib.hid hsm
          have hlx := block_lt_of_cell hcx
          have hly := block_lt_of_cell hcy
          have hxs := H.out.small j
          have hysm := HY.out.small j
          clear hro hsm hB
          have hst : (wr.alloc (.cells #[.int .u8 1] 5)).ownsRow wr.heap.size 5 1 (.slice (some ⟨wr.heap.size, 0, none⟩) 1 1) 1 (bs [1]) :=
            ⟨rfl, .inr ⟨wr.heap.size, 1, #[.int .u8 1], rfl, Nat.le_refl _, heap_alloc_new _ _, Nat.le_refl _, by unfold maxLen; omega, rfl, rfl⟩⟩
          have HST := Lib.hid hst
          obtain ⟨x, hxe⟩ : ∃ x, x = l.getD j 0 := ⟨_, rfl⟩
          obtain ⟨y, hye⟩ : ∃ y, y = ys.getD j 0 := ⟨_, rfl⟩
          rw [← hxe] at hcx hxs
          rw [← hye] at hcy hysm
          have HXE := Lib.hid hxe
          have HYE := Lib.hid hye
          clear hst hxe hye
          go_wp2_with fail
          obtain ⟨wj, rfl⟩ : ∃ wj : World, wj = wr := ⟨_, rfl⟩
          go_loopw [10, 11] (fun v i wx => ∃ m : Nat, m ≤ k ∧ i = .int .i64 m ∧ Hid (wx.ownsRow wj.heap.size 5 1 v (rt l j m).length (bs (rt l j m))) ∧ Below wj.heap.size wj wx) (fun _ i _ => k - (intOf i).toNat)
          case atStart => exact ⟨0, by omega, rfl, HST.out, (Below.refl _ _).alloc (Nat.le_refl _) _⟩
          case round =>
            obtain ⟨m, hm, rfl, hown2, hB2⟩ := hrel
            have HB2 := Lib.hid hB2
            have hsx : wj.heap.size ≤ wr.heap.size := hB2.size
            have hlen2 := rt_len l j m
            have hsm2 := rt_small H.out.small j m
            obtain ⟨av, cv, rfl, hrv⟩ := own_rb hown2.out hsm2 (by omega)
            by_cases hm1' : m < k
            · obtain ⟨b3, o3, e, hcz⟩ := ((H.out.below HB.out).below hB2).at_ m hm1'
              injection e with e; injection e with e1 e2; subst e1; subst e2
              have hz := H.out.small m
              by_cases hmj : m = j
              · have HF : Hid (wr.ownsRow wj.heap.size 5 1 (.slice av (rt l j m).length cv) (rt l j (m + 1)).length (bs (rt l j (m + 1)))) := by
                  have e : rt l j (m + 1) = rt l j m := by show (if _ then _ else _) = _; rw [if_pos hmj]
                  rw [e]; exact hown2
                have hd : ((m : Int) == (j : Int)) = true := by simp; omega
                have hd2 : ((m : Int) != (j : Int)) = false := by simp; omega
                clear hown2 hB2 hrv hsm2 hcz
                go_wp2_with fail
                go_roundw
                case rel => exact ⟨m + 1, by omega, by go_num, HF, HB2.out⟩
                case measure => simp [intOf]; omega
              · have hd : ((m : Int) == (j : Int)) = false := by simp; omega
                have hd2 : ((m : Int) != (j : Int)) = true := by simp; omega
                have e : rt l j (m + 1) = conv [l.getD m 0, 1] (rt l j m) := by show (if _ then _ else _) = _; rw [if_neg hmj]
                have hP : Hid (Calls Try.prog 91 #[.slice av (rt l j m).length cv, .slice (some ⟨wr.heap.size, 0, none⟩) 2 2] (wr.alloc (.cells #[.int .u8 (l.getD m 0 : Nat), .int .u8 1] 5)) fun e w' => ∃ v, e = .returned v ∧ Hid (w'.ownsRow wj.heap.size 5 1 v (rt l j (m + 1)).length (bs (rt l j (m + 1)))) ∧ Hid (Below wj.heap.size wj w')) := by
                  have hr1 : RB (wr.alloc (.cells #[.int .u8 (l.getD m 0 : Nat), .int .u8 1] 5)) (some ⟨wr.heap.size, 0, none⟩) 2 2 [l.getD m 0, 1] := RB.of_block (l := [l.getD m 0, 1]) (m := []) (heap_alloc_new _ _) (small2 hz (by omega)) (Nat.le_refl _) (by omega)
                  have hBa : Below wj.heap.size wj (wr.alloc (.cells #[.int .u8 (l.getD m 0 : Nat), .int .u8 1] 5)) := hB2.alloc hsx _
                  refine (product_any (hrv.alloc _) hr1 (by omega)).mono ?_
                  rintro e' w' ⟨v, rfl, ho, hB⟩
                  rw [e]
                  exact ⟨v, rfl, own_mono ho (by simp; omega), hBa.trans (hB.mono hBa.size)⟩
                clear hown2 hB2 hrv hsm2 e
                generalize (rt l j m).length = lm at *
                generalize l.getD m 0 = z at *
                go_wp2_with (go_at_call 91; ((with_reducible refine hP.out.mono ?_); rintro e w' ⟨v, rfl, HO, HBo⟩))
                go_roundw
                case rel => exact ⟨m + 1, by omega, by go_num, HO, HBo.out⟩
                case measure => simp [intOf]; omega
            · obtain rfl : m = k := by omega
              have hxs2 := hxs
              have hcx2 := (hB2.cell (p := ⟨b1, o1 + j, none⟩) hlx).trans hcx
              have hcy2 := (hB2.cell (p := ⟨b2, o2 + j, none⟩) hly).trans hcy
              have hmlen : l.length = m := H.out.len
              have hsv : sval (rt l j m) x (rt l j m).length = Gf.ev (rt l j m) x := sval_ev hxs hsm2
              have hvl : sval (rt l j m) x (rt l j m).length < 256 := sval_lt hsm2 _ _
              have hvne : sval (rt l j m) x (rt l j m).length ≠ 0 := by
                rw [hsv, HXE.out]; exact rt_ne H.out.small HNN.out (by omega) m (by omega)
              have hcc : Gf.mul y (Gf.inv (sval (rt l j m) x (rt l j m).length)) = rtC l ys j := by unfold rtC; rw [hmlen, ← HXE.out, ← HYE.out]
              have hcl : rtC l ys j < 256 := rtC_lt HY.out.small j
              have h63 : ∀ q, Hid (Calls Try.prog 63 #[.slice av (rt l j m).length cv, .int .u8 (x : Nat)] (wr.drewN q) fun e w' => e = .returned (.int .u8 (sval (rt l j m) x (rt l j m).length : Nat)) ∧ wr.drewN q = w') := fun q => rValue_any hxs (hrv.drewN q)
              have h35 : ∀ W, Hid (Calls Try.prog 35 #[.int .u8 (y : Nat), .int .u8 (sval (rt l j m) x (rt l j m).length : Nat)] W fun e w' => e = .returned (.tuple #[.int .u8 (rtC l ys j : Nat), .int .i64 0]) ∧ W = w') := fun W => by rw [← hcc]; exact rdiv_pos hysm hvl hvne W
              have e3 := length_conv [rtC l ys j] (rt l j m)
              simp only [List.length_cons, List.length_nil] at e3
              have hP : ∀ q, Hid (Calls Try.prog 91 #[.slice av (rt l j m).length cv, .slice (some ⟨wr.heap.size, 0, none⟩) 1 1] ((wr.drewN q).alloc (.cells #[.int .u8 (rtC l ys j : Nat)] 5)) fun e w' => ∃ a c, e = .returned (.slice a (conv [rtC l ys j] (rt l j m)).length c) ∧ Hid (RB w' a (conv [rtC l ys j] (rt l j m)).length c (conv [rtC l ys j] (rt l j m))) ∧ Hid (Below wj.heap.size wj w')) := fun q => by
                have hr1 : RB ((wr.drewN q).alloc (.cells #[.int .u8 (rtC l ys j : Nat)] 5)) (some ⟨wr.heap.size, 0, none⟩) 1 1 [rtC l ys j] := RB.of_block (l := [rtC l ys j]) (m := []) (heap_alloc_new _ _) (small1 hcl) (Nat.le_refl _) (by omega)
                have hBa : Below wj.heap.size wj ((wr.drewN q).alloc (.cells #[.int .u8 (rtC l ys j : Nat)] 5)) := (below_drewN hB2 q).alloc hsx _
                refine (product_any ((hrv.drewN q).alloc _) hr1 (by omega)).mono ?_
                rintro e' w' ⟨v, rfl, ho, hB⟩
                obtain ⟨a, c, rfl, hr⟩ := own_rb ho (conv_small (small1 hcl)) (by omega)
                exact ⟨a, c, rfl, hr, hBa.trans (hB.mono hBa.size)⟩
              have hro2 : rto l ys (j + 1) = lean (sumTo (rto l ys j) (conv [rtC l ys j] (rt l j m)) (max (rto l ys j).length (conv [rtC l ys j] (rt l j m)).length) (conv [rtC l ys j] (rt l j m)).length) := by
                show lean _ = _; rw [hmlen]
              have hA : ∀ W a c, Below wj.heap.size wj W → RB W a (conv [rtC l ys j] (rt l j m)).length c (conv [rtC l ys j] (rt l j m)) → Hid (Calls Try.prog 61 #[.slice ao (rto l ys j).length co, .slice a (conv [rtC l ys j] (rt l j m)).length c] W fun e w' => ∃ v, e = .returned v ∧ Hid (w'.ownsRow w.heap.size 5 1 v (rto l ys (j + 1)).length (bs (rto l ys (j + 1)))) ∧ Hid (Below wj.heap.size wj w')) := fun W a c hW hm => by
                refine (rAdd_any (N := max (rto l ys j).length (conv [rtC l ys j] (rt l j m)).length) (HRO.out.below hW) hm (by omega) (by omega) (by omega) (by omega)).mono ?_
                rintro e' w' ⟨v, rfl, ho, hB⟩
                rw [hro2]
                exact ⟨v, rfl, own_mono ho (Nat.le_trans hsw hW.size), hW.trans (hB.mono hW.size)⟩
              have H63 := Lib.hid h63
              have H35 := Lib.hid h35
              have HP := Lib.hid hP
              have HA := Lib.hid hA
              have h5 : (0 : Int) ≤ (j : Int) := by omega
              have h6 : (j : Int) < (m : Int) := by omega
              clear hown2 hB2 hrv hsm2 h63 h35 hP hA hro2 hcc hvne hsv hvl hcx hcy hmlen
              generalize (conv [rtC l ys j] (rt l j m)).length = lc at *
              generalize sval (rt l j m) x (rt l j m).length = sv at *
              generalize (rt l j m).length = lm at *
              generalize (rto l ys j).length = lo at *
              generalize rtC l ys j = cc at *
              go_wp2_with fail
              go_quiet ((first | (go_at_call 63; exact quiet_same (H63.out _).out) | (go_at_call 35; exact quiet_same (H35.out _).out)))
              go_wp2_with (first
                | (go_at_call 91; ((with_reducible refine (HP.out _).out.mono ?_); rintro e w5 ⟨ac, cc2, rfl, HR5, HB5⟩))
                | (go_at_call 61; ((with_reducible refine (HA.out _ _ _ HB5.out HR5.out).out.mono ?_); rintro e w6 ⟨v6, rfl, HO6, HB6⟩)))
              go_roundw
              case rel => exact ⟨j + 1, by omega, by go_num, HO6, HB.out.trans (HB6.out.mono hsw)⟩
              case measure => simp [intOf]; omega
        · obtain rfl : j = k := by omega
          have HL := Lib.hid (rLean_any hro)
          clear hro hsm hB
          go_wp2_with (go_at_call 62; ((with_reducible refine HL.out.mono ?_); rintro e w5 ⟨v, rfl, hO, hB5⟩; have HO := Lib.hid (own_mono hO hsw); have HB5 := Lib.hid hB5; clear hO hB5))
          go_ret2
          exact ⟨_, rfl, HO.out, HB.out.trans (HB5.out.mono hsw)⟩
end Go.Proofs.Ytokeoodkioobdaa
