/- The walks of the reference's Right, zeros, Unit, Apply, scale, add (rows). Conditions: there are at most 100000 rows, each of at most 100000 places. -/
import Derived.Test.YtokeoodkioobdaaRows9
import Derived.Test.YtokeoodkioobdaaLaw3
namespace Go.Proofs.Ytokeoodkioobdaa
open Go.RowKit

set_option maxHeartbeats 1600000 in
set_option maxRecDepth 100000 in
theorem rRight_any {w : World} {a : Option Addr} {N c : Nat} {X : Nat → List Nat} (hN : N ≤ 100000) (h : RR w (.slice a N c) N X) : Calls Try.prog 81 #[.slice a N c] w fun e w' => e = .returned (.bool (decide (isM N X))) ∧ Drawn w w' := by
  have hcl : ∀ W, Drawn w W → Hid (Calls Try.prog 105 #[.slice a N c] W fun e w' => e = .returned (.int .i64 (colsX N X)) ∧ W = w') := fun W hW => columns_any hN (h.drawn hW)
  have HC := Lib.hid hcl
  have hc0 : (colsX N X : Int) < 9223372036854775808 := by
    unfold colsX
    split
    · decide
    · obtain ⟨a', c', e, hX⟩ := h.shape
      obtain ⟨_, _, _, _, _, _, _, hr⟩ := hX 0 (by omega)
      have := hr.most
      have := hr.len
      omega
  have H := Lib.hid h
  clear hcl h
  by_cases h1 : N ≤ 255
  · have q1 : decide ((255 : Int) < (N : Int)) = false := by simp; omega
    by_cases h2 : colsX N X ≤ 255
    · have q2 : decide ((255 : Int) < (colsX N X : Int)) = false := by simp; omega
      have HM := Lib.hid (show isM N X ↔ Uni N X from ⟨fun hm => hm.2.2, fun hu => ⟨h1, h2, hu⟩⟩)
      have HU := Lib.hid (show Uni N X ↔ ∀ k, k < N → (X k).length = colsX N X from Iff.rfl)
      obtain ⟨b, hb⟩ : ∃ b, b = decide (isM N X) := ⟨_, rfl⟩
      rw [← hb]
      have HBe := Lib.hid hb
      clear hb
      generalize colsX N X = z at *
      go_enter Try.func81, Try.ntmps81
      go_wp2_with fail
      refine (HC.out w (Drawn.refl w)).out.mono ?_
      rintro e w' ⟨rfl, rfl⟩
      go_wp2_with fail
      go_loopw [3] (fun i wr => ∃ k : Nat, k ≤ N ∧ i = .int .i64 k ∧ Hid (∀ j, j < k → (X j).length = z) ∧ Hid (Drawn w wr)) (fun i _ => N - (intOf i).toNat)
      case atStart => exact ⟨0, Nat.zero_le _, rfl, fun j hj => absurd hj (Nat.not_lt_zero _), Drawn.refl _⟩
      case round =>
        obtain ⟨k, hk, rfl, HA, HD⟩ := hrel
        by_cases hk1 : k < N
        · obtain ⟨a', c', e, hX⟩ := (H.out.drawn HD.out).shape
          injection e with e1 e2 e3
          subst e1; subst e3; clear e2
          obtain ⟨b1, o1, a1, n1, c1, rfl, hc1, hr1⟩ := hX k hk1
          have hl := hr1.len
          have hm := hr1.most
          have hcq : ∀ q, Hid (Calls Try.prog 105 #[.slice (some ⟨b1, o1, none⟩) N c] (wr.drewN q) fun e w' => e = .returned (.int .i64 (z : Nat)) ∧ wr.drewN q = w') := fun q => HC.out _ (HD.out.more q)
          have HCQ := Lib.hid hcq
          clear hX hr1 hcq
          by_cases e : n1 = z
          · have HA2 := Lib.hid (show ∀ j, j < k + 1 → (X j).length = z from fun j hj => by
              by_cases e2 : j = k
              · subst e2; omega
              · exact HA.out j (by omega))
            have q3 : ((n1 : Int) != (z : Int)) = false := by simp; omega
            have q4 : decide (n1 = z) = true := by simp; omega
            clear hl e
            go_wp2_with fail
            go_quiet ((go_at_call 105; exact quiet_same (HCQ.out _).out))
            go_wp2_with fail
            go_roundw
            case rel => exact ⟨k + 1, by omega, by go_num, HA2, HD.out.more _⟩
            case measure => simp [intOf]; omega
          · have HNo := Lib.hid (show b = false by
              rw [HBe.out]
              exact decide_eq_false fun hm => e (by rw [← hl]; exact HU.out.1 (HM.out.1 hm) k hk1))
            have q3 : ((n1 : Int) != (z : Int)) = true := by simp; omega
            have q4 : decide (n1 = z) = false := by simp; omega
            clear hl e
            go_wp2_with fail
            go_quiet ((go_at_call 105; exact quiet_same (HCQ.out _).out))
            go_wp2_with fail
            go_ret
            exact ⟨by rw [HNo.out]; rfl, HD.out.more _⟩
        · obtain rfl : k = N := by omega
          have HYes := Lib.hid (show b = true by
            rw [HBe.out]
            exact decide_eq_true (HM.out.2 (HU.out.2 HA.out)))
          go_wp2_with fail
          go_ret
          exact ⟨by rw [HYes.out]; rfl, HD.out⟩
    · have hno : ¬ isM N X := fun hm => h2 hm.2.1
      rw [decide_eq_false hno]
      have q2 : decide ((255 : Int) < (colsX N X : Int)) = true := by simp; omega
      clear hno
      generalize colsX N X = z at *
      go_enter Try.func81, Try.ntmps81
      go_wp2_with fail
      refine (HC.out w (Drawn.refl w)).out.mono ?_
      rintro e w' ⟨rfl, rfl⟩
      go_wp2_with fail
      go_ret
      exact ⟨rfl, Drawn.refl _⟩
  · have hno : ¬ isM N X := fun hm => h1 hm.1
    rw [decide_eq_false hno]
    have q1 : decide ((255 : Int) < (N : Int)) = true := by simp; omega
    clear hno
    go_enter Try.func81, Try.ntmps81
    go_wp2_with fail
    go_ret
    exact ⟨rfl, Drawn.refl _⟩

/-- A row is appended. -/
theorem GridTo.push {w w' : World} {B N q n d : Nat} {v v' : Value} {p c : Nat → Nat} {X : Nat → List Nat} {vs : List Value} {z : List Nat} (h : GridTo w B v N N p c X) (hvs : w.ownsRow B 31 1 v N vs) (hv : ∀ i, i < N → vs[i]? = some (hdr p c X i)) (hz : w.ownsRow B 5 1 (.slice (some ⟨q, 0, none⟩) n d) n (bs z))
    (hq : ∀ i, i < N → p i ≠ q) (ho : w'.ownsRow B 31 1 v' (N + 1) (vs ++ [.slice (some ⟨q, 0, none⟩) n d])) (hk : KeepRows w w' v N) (he : X N = z) :
    ∃ p' c', GridTo w' B v' (N + 1) (N + 1) p' c' X ∧ (∀ i, i < N → c' i = c i) ∧ c' N = d := by
  have hvl : vs.length = N := by have := hvs.1; rwa [Nat.mul_one] at this
  have hzl := own_len hz
  refine ⟨fun j => if j = N then q else p j, fun j => if j = N then d else c j, ⟨⟨_, ho, fun i hi => ?_⟩, fun i hi => ?_, fun i j hi hj e => ?_, Nat.le_refl _⟩, fun i hi => if_neg (by omega), if_pos rfl⟩
  · by_cases e : i = N
    · subst e
      rw [List.getElem?_append_right (by omega), hvl, Nat.sub_self]
      unfold hdr
      simp only [if_pos]
      rw [he, hzl]
      rfl
    · rw [List.getElem?_append_left (by omega), hv i (by omega)]
      unfold hdr
      simp only [if_neg e]
  · by_cases e : i = N
    · subst e
      unfold hdr
      simp only [if_pos]
      rw [he, hzl]
      exact hk _ _ _ _ _ hz (.inr (unl_types (by decide) hz hvs))
    · unfold hdr
      simp only [if_neg e]
      have := h.row i (by omega)
      unfold hdr at this
      exact hk _ _ _ _ _ this (.inr (unl_types (by decide) this hvs))
  · by_cases ei : i = N
    · by_cases ej : j = N
      · omega
      · rw [if_pos ei, if_neg ej] at e
        exact absurd e.symm (hq j (by omega))
    · by_cases ej : j = N
      · rw [if_neg ei, if_pos ej] at e
        exact absurd e (hq i (by omega))
      · rw [if_neg ei, if_neg ej] at e
        exact h.inj i j (by omega) (by omega) e
theorem grid_empty (w : World) (B : Nat) (p c : Nat → Nat) (X : Nat → List Nat) : GridTo w B (.slice none 0 0) 0 0 p c X :=
  ⟨⟨[], ⟨rfl, .inl ⟨rfl, rfl⟩⟩, fun i hi => absurd hi (Nat.not_lt_zero i)⟩, fun i hi => absurd hi (Nat.not_lt_zero i), fun i _ hi => absurd hi (Nat.not_lt_zero i), Nat.le_refl _⟩

set_option maxHeartbeats 1600000 in
set_option maxRecDepth 100000 in
theorem zeros_any {w : World} {N C : Nat} (hN : N ≤ 100000) (hC : C ≤ 100000) :
    Calls Try.prog 106 #[.int .i64 (N : Nat), .int .i64 (C : Nat)] w fun e w' => ∃ v p d, e = .returned v ∧ GridTo w' w.heap.size v N N p d (fun _ => List.replicate C 0) ∧ Below w.heap.size w w' ∧ ∀ i, i < N → d i = C := by
  obtain ⟨i0, hi, hz0, hz1, hz2⟩ := info_parts info5
  obtain ⟨i31, hj, hy0, hy1, hy2⟩ := info_parts info31
  go_enter Try.func106, Try.ntmps106
  go_wp2_with fail
  go_loopw [5, 6] (fun v i wr => ∃ k : Nat, k ≤ N ∧ i = .int .i64 k ∧ (∃ p d, Hid (GridTo wr w.heap.size v k k p d (fun _ => List.replicate C 0)) ∧ Hid (∀ i, i < k → d i = C)) ∧ Hid (Below w.heap.size w wr)) (fun _ i _ => N - (intOf i).toNat)
  case atStart => exact ⟨0, Nat.zero_le _, rfl, ⟨_, _, grid_empty w w.heap.size (fun _ => 0) (fun _ => 0) _, fun i hi => absurd hi (Nat.not_lt_zero i)⟩, Below.refl _ _⟩
  case round =>
    obtain ⟨k, hk, rfl, ⟨p, d, HG, HDC⟩, HB⟩ := hrel
    by_cases hk1 : k < N
    · have hsw : w.heap.size ≤ wr.heap.size := HB.out.size
      go_wp2_with (refine wpList_make_full _ rfl (.tmp 13) (.tmp 13) 31 rfl wr.heap.size 5 i0 (.int .u8 0) 1 Try.underlying31 hi hz0 hz1 .i64 .i64 _ _ C rfl rfl (by omega) (by omega) ?_ ?_ (Nat.le_refl _) ?_)
      · rw [hz2]; omega
      · unfold maxLen; omega
      intro w5 hown5 hg5
      have hB5 : Below wr.heap.size wr w5 := (Below.refl _ _).grown hg5 (Nat.le_refl _) (fun j e => by cases e)
      have hz := own_zeros hown5
      have hB6 : Below wr.heap.size wr (w5.alloc (.cells #[.slice (some ⟨wr.heap.size, 0, none⟩) C C] 31)) := hB5.alloc hB5.size _
      have HG6 := Lib.hid (HG.out.below hB6)
      have HZ6 := Lib.hid ((own_mono hz hsw).alloc (.cells #[.slice (some ⟨wr.heap.size, 0, none⟩) C C] 31))
      have HB6 := Lib.hid (HB.out.trans (hB6.mono hsw))
      have HQ := Lib.hid (show ∀ i, i < k → p i ≠ wr.heap.size from fun i hi e => by
        obtain ⟨_, _, cur, hcur, _⟩ := own_blk (HG.out.row i hi)
        have := lt_of_block hcur
        omega)
      obtain ⟨vs, hvs, hvr⟩ := HG6.out.own
      have HVS := Lib.hid hvs
      have HVR := Lib.hid hvr
      have hs5 : wr.heap.size ≤ w5.heap.size := hB5.size
      clear hown5 hg5 hB5 hz hB6 hvs hvr HG
      go_wp2_with (at_builtin; refine wpList_append_own3 _ rfl (.tmp 12) (.tmp 15) 51 rfl w.heap.size 31 i31 (.slice none 0 0) 24 Try.underlying51 hj hy0 hy1 hy2 rfl _ k vs rfl HVS.out ⟨w5.heap.size, 0, none⟩ 1 1 [.slice (some ⟨wr.heap.size, 0, none⟩) C C] rfl rfl (cell_new31 _ _) (one_sl _ _ _) (by unfold maxLen; omega) (by omega) (by simp; omega) ?_)
      intro v7 w7 ho7 hg7 hb7 hk7
      obtain ⟨p7, d7, hG7, hd7, hd8⟩ := HG6.out.push HVS.out HVR.out HZ6.out HQ.out ho7 hk7 rfl
      have HD7 := Lib.hid (show ∀ i, i < k + 1 → d7 i = C from fun i hi => by
        by_cases e : i = k
        · subst e; exact hd8
        · rw [hd7 i (by omega)]; exact HDC.out i (by omega))
      have HG7 := Lib.hid hG7
      have HB7 := Lib.hid (HB6.out.grown hg7 (by simp; omega) (fun g e => by have := (own_lt HVS.out e).1; omega))
      clear ho7 hg7 hb7 hk7 hG7 hd7 hd8 HG6 HZ6 HB6 HVS HVR HQ HDC
      go_wp2_with fail
      go_roundw
      case rel => exact ⟨k + 1, by omega, by go_num, ⟨p7, d7, HG7, HD7⟩, HB7⟩
      case measure => simp [intOf]; omega
    · obtain rfl : k = N := by omega
      go_wp2_with fail
      go_ret
      exact ⟨_, _, _, rfl, HG.out, HB.out, HDC.out⟩

theorem GridTo.head {w : World} {B N K vd : Nat} {va : Option Addr} {p c : Nat → Nat} {X : Nat → List Nat} (h : GridTo w B (.slice va N vd) N K p c X) (h0 : 0 < N) : ∃ g, va = some ⟨g, 0, none⟩ := by
  obtain ⟨vs, h1, _⟩ := h.own
  obtain ⟨g, c, e⟩ := own_some h1 h0
  injection e with e _ _
  exact ⟨g, e⟩
theorem rUnit_bad {w : World} {n : Int} (h : n < 0 ∨ 255 < n) : Calls Try.prog 78 #[.int .i64 n] w fun e w' => e = .returned (.tuple #[.slice none 0 0, .int .i64 2]) ∧ w = w' := by
  rcases h with h | h
  · go_enter Try.func78, Try.ntmps78
    go_wp2_with fail
    go_ret2
    exact ⟨rfl, rfl⟩
  · have h0 : decide (n < 0) = false := by simp; omega
    go_enter Try.func78, Try.ntmps78
    go_wp2_with fail
    go_ret2
    exact ⟨rfl, rfl⟩

set_option maxHeartbeats 3200000 in
set_option maxRecDepth 100000 in
theorem rUnit_ok {w : World} {n : Nat} (hn : n ≤ 255) : Calls Try.prog 78 #[.int .i64 (n : Nat)] w fun e w' => ∃ va vd p d, e = .returned (.tuple #[.slice va n vd, .int .i64 0]) ∧ GridTo w' w.heap.size (.slice va n vd) n n p d (Gf.unitX n) ∧ Below w.heap.size w w' := by
  have d1 : decide ((n : Int) < 0) = false := by simp
  have d2 : decide (255 < (n : Int)) = false := by simp; omega
  have d3 : decide (255 < n) = false := by simp; omega
  go_enter Try.func78, Try.ntmps78
  go_wp2_with fail
  refine (zeros_any (by omega) (by omega)).mono ?_
  rintro e w1 ⟨v, p, d, rfl, hG, hB, _⟩
  obtain ⟨va, vd, rfl⟩ := hG.slice
  have HG0 := Lib.hid (hG.congr (Y := unitTo n 0) fun i _ => if_neg (Nat.not_lt_zero i))
  have HB0 := Lib.hid hB
  clear hG hB
  go_wp2_with fail
  go_loopw [5] (fun i wr => ∃ k : Nat, k ≤ n ∧ i = .int .i64 k ∧ Hid (GridTo wr w.heap.size (.slice va n vd) n n p d (unitTo n k)) ∧ Hid (Below w.heap.size w wr)) (fun i _ => n - (intOf i).toNat)
  case atStart => exact ⟨0, Nat.zero_le _, rfl, HG0, HB0⟩
  case round =>
    clear HG0 HB0
    obtain ⟨k, hk, rfl, HG, HB⟩ := hrel
    by_cases hk1 : k < n
    · obtain ⟨g, rfl⟩ := HG.out.head (by omega)
      obtain ⟨hc, hfz, ho, hpg, hps, hle⟩ := HG.out.line (unitTo_len n k) hk1
      have hc2 := own_cell ho (i := k) hk1
      have hc3 := hc2.1
      have hf3 := hc2.2
      have hpb := (own_blk ho).1
      have hst : GridTo (wr.setCell ⟨p k, k, none⟩ (.int .u8 1)) w.heap.size (.slice (some ⟨g, 0, none⟩) n vd) n n p d (unitTo n (k + 1)) := by
        have h1 := HG.out.turn (w' := wr.setCell ⟨p k, k, none⟩ (.int .u8 1)) (l := (unitTo n k k).set k 1) hk1 ((Only.refl _ _).set _ _) (by rw [List.length_set]) (by rw [unitTo_len]; exact own_set ho)
        refine h1.congr fun i hi => ?_
        by_cases e : i = k
        · subst e
          rw [if_pos rfl]
          unfold unitTo
          rw [if_pos (by omega), if_neg (by omega)]
          rfl
        · rw [if_neg e]
          unfold unitTo
          by_cases e2 : i < k
          · rw [if_pos e2, if_pos (by omega)]
          · rw [if_neg e2, if_neg (by omega)]
      have HST := Lib.hid hst
      have HB2 := Lib.hid (HB.out.setCell (p := ⟨p k, k, none⟩) hpb (.int .u8 1))
      clear hc2 ho hst
      go_wp2_with fail
      go_roundw
      case rel => exact ⟨k + 1, by omega, by go_num, HST, HB2⟩
      case measure => simp [intOf]; omega
    · obtain rfl : k = n := by omega
      have HF := Lib.hid (HG.out.congr (Y := Gf.unitX k) fun i hi => (if_pos hi).symm)
      clear HG
      go_wp2_with fail
      go_ret2
      exact ⟨_, _, _, _, rfl, HF.out, HB.out⟩

set_option maxHeartbeats 1600000 in
set_option maxRecDepth 100000 in
theorem rscale_any {w : World} {B g n c y : Nat} {X : List Nat} (hy : y < 256) (ho : w.ownsRow B 5 1 (.slice (some ⟨g, 0, none⟩) n c) n (bs X)) (hX : Small X) (hn : n ≤ 100000) :
    Calls Try.prog 129 #[.slice (some ⟨g, 0, none⟩) n c, .int .u8 (y : Nat)] w fun e w' => (∃ v, e = .returned v) ∧ w'.ownsRow B 5 1 (.slice (some ⟨g, 0, none⟩) n c) n (bs (Gf.sc y X)) ∧ Only g w w' := by
  have hXl := own_len ho
  have HO := Lib.hid ho
  have HX := Lib.hid hX
  have HXL := Lib.hid hXl
  clear ho hX hXl
  go_enter Try.func129, Try.ntmps129
  go_wp2_with fail
  go_loopw [4] (fun i wr => ∃ k : Nat, k ≤ n ∧ i = .int .i64 k ∧ Hid (wr.ownsRow B 5 1 (.slice (some ⟨g, 0, none⟩) n c) n (bs (scTo X y k))) ∧ Hid (Only g w wr)) (fun i _ => n - (intOf i).toNat)
  case atStart => exact ⟨0, by omega, rfl, HO, Only.refl _ _⟩
  case round =>
    obtain ⟨k, hk, rfl, hown, HO2⟩ := hrel
    by_cases hk1 : k < n
    · have hc2 := own_cell hown.out (i := k) hk1
      have hfr := hc2.2
      have hc3 := hc2.1
      have hsm : (scTo X y k).getD k 0 < 256 := scTo_small HX.out (by rw [HXL.out]; omega) _
      have hst : (wr.setCell ⟨g, k, none⟩ (.int .u8 (Gf.mul ((scTo X y k).getD k 0) y : Nat))).ownsRow B 5 1 (.slice (some ⟨g, 0, none⟩) n c) n (bs (scTo X y (k + 1))) := own_set hown.out
      have HST := Lib.hid hst
      generalize (scTo X y k).getD k 0 = x at *
      have HQ2 := Lib.hid fun W => rmul_any x y hsm hy W
      have HON := Lib.hid (HO2.out.set k (.int .u8 (Gf.mul x y : Nat)))
      generalize Gf.mul x y = t at *
      clear hc2 hown hst
      go_wp2_with fail
      refine (HQ2.out _).mono ?_
      rintro e w' ⟨rfl, rfl⟩
      go_wp2_with fail
      go_roundw
      case rel => exact ⟨k + 1, by omega, by go_num, HST, HON⟩
      case measure => simp [intOf]; omega
    · obtain rfl : k = n := by omega
      have HFN := Lib.hid (show wr.ownsRow B 5 1 (.slice (some ⟨g, 0, none⟩) k c) k (bs (Gf.sc y X)) by
        have e : scTo X y k = Gf.sc y X := by rw [← HXL.out]; exact scTo_all X y
        rw [← e]; exact hown.out)
      clear hown
      go_wp2_with fail
      go_end0
      exact ⟨⟨_, rfl⟩, HFN.out, HO2.out⟩

set_option maxHeartbeats 1600000 in
set_option maxRecDepth 100000 in
theorem raddr_any {w : World} {B g n c c2 y : Nat} {a : Option Addr} {X l : List Nat} (hy : y < 256) (ho : w.ownsRow B 5 1 (.slice (some ⟨g, 0, none⟩) n c) n (bs X)) (hX : Small X) (hl : RB w a n c2 l) (hab : 0 < n → ∀ b off, a = some ⟨b, off, none⟩ → b ≠ g) (hn : n ≤ 100000) :
    Calls Try.prog 130 #[.slice (some ⟨g, 0, none⟩) n c, .slice a n c2, .int .u8 (y : Nat)] w fun e w' => (∃ v, e = .returned v) ∧ w'.ownsRow B 5 1 (.slice (some ⟨g, 0, none⟩) n c) n (bs (Gf.ad y X l)) ∧ Only g w w' := by
  have hXl := own_len ho
  have hll := hl.len
  have HO := Lib.hid ho
  have HX := Lib.hid hX
  have HL := Lib.hid hl
  have HAB := Lib.hid hab
  have HXL := Lib.hid hXl
  have HLL := Lib.hid hll
  clear ho hX hXl hl hab hll
  go_enter Try.func130, Try.ntmps130
  go_wp2_with fail
  go_loopw [6] (fun i wr => ∃ k : Nat, k ≤ n ∧ i = .int .i64 k ∧ Hid (wr.ownsRow B 5 1 (.slice (some ⟨g, 0, none⟩) n c) n (bs (xadd X 0 l y k))) ∧ Hid (Only g w wr)) (fun i _ => n - (intOf i).toNat)
  case atStart => exact ⟨0, by omega, rfl, HO, Only.refl _ _⟩
  case round =>
    obtain ⟨k, hk, rfl, hown, HO2⟩ := hrel
    by_cases hk1 : k < n
    · obtain ⟨b1, o1, rfl, hc1⟩ := (HL.out.only HO2.out (HAB.out (by omega))).at_ k hk1
      have hx := HL.out.small k
      have hc2 := own_cell hown.out (i := k) hk1
      have hfr := hc2.2
      have hc3 := hc2.1
      have hsm : (xadd X 0 l y k).getD k 0 < 256 := xadd_small HX.out HL.out.small (by rw [HXL.out]; omega) _
      have hst : ∀ q, ((wr.drewN q).setCell ⟨g, k, none⟩ (.int .u8 ((xadd X 0 l y k).getD k 0 ^^^ Gf.mul (l.getD k 0) y : Nat))).ownsRow B 5 1 (.slice (some ⟨g, 0, none⟩) n c) n (bs (xadd X 0 l y (k + 1))) := fun q => by
        show ((wr.drewN q).setCell ⟨g, k, none⟩ _).ownsRow B 5 1 _ n (bs ((xadd X 0 l y k).set (0 + k) ((xadd X 0 l y k).getD (0 + k) 0 ^^^ Gf.mul (l.getD k 0) y)))
        rw [Nat.zero_add]
        exact own_set hown.out
      have HST := Lib.hid hst
      generalize l.getD k 0 = x at *
      generalize (xadd X 0 l y k).getD k 0 = u at *
      have hl3 : Gf.mul x y < 256 := Gf.mul_lt hx
      have HQ2 := Lib.hid fun W => rmul_any x y hx hy W
      have hxo := u8_xor_nat u (Gf.mul x y) hsm hl3
      have HON := Lib.hid fun q => (HO2.out.drawn q).set k (.int .u8 (u ^^^ Gf.mul x y : Nat))
      generalize u ^^^ Gf.mul x y = r at *
      generalize Gf.mul x y = t at *
      clear hc2 hown hst
      go_wp2_with fail
      refine region_quiet_tail 14 (by kernel_rfl) (by kernel_rfl) ?_
      simp only [List.take_succ_cons, List.take_zero, List.drop_succ_cons, List.drop_zero]
      repeat (go_big_quiet_step ((go_at_call 38; exact quiet_same (HQ2.out _))))
      refine wpQuiet_nil ?_
      intro _ hw'
      obtain ⟨nq, rfl⟩ := hw'
      go_wp2_with fail
      go_roundw
      case rel => exact ⟨k + 1, by omega, by go_num, HST.out nq, HON.out nq⟩
      case measure => simp [intOf]; omega
    · obtain rfl : k = n := by omega
      have HFN := Lib.hid (show wr.ownsRow B 5 1 (.slice (some ⟨g, 0, none⟩) k c) k (bs (Gf.ad y X l)) by
        have e : xadd X 0 l y k = Gf.ad y X l := by rw [← HLL.out]; exact xadd_all (by rw [HXL.out, HLL.out])
        rw [← e]; exact hown.out)
      clear hown
      go_wp2_with fail
      go_end0
      exact ⟨⟨_, rfl⟩, HFN.out, HO2.out⟩
end Go.Proofs.Ytokeoodkioobdaa

/- The walks of the reference's Mul and Apply (rows). Conditions: there are at most 100000 rows. -/
namespace Go.Proofs.Ytokeoodkioobdaa
open Go.RowKit

theorem rright_yes {w : World} {a : Option Addr} {N c : Nat} {X : Nat → List Nat} (hN : N ≤ 100000) (h : RR w (.slice a N c) N X) (hm : isM N X) : Calls Try.prog 81 #[.slice a N c] w fun e w' => e = .returned (.bool true) ∧ Below w.heap.size w w' := by
  have := rRight_any hN h
  rw [decide_eq_true hm] at this
  exact this.mono fun e w' ⟨h1, h2⟩ => ⟨h1, by obtain ⟨q, rfl⟩ := h2; exact below_drewN (Below.refl _ _) q⟩
theorem rright_not {w : World} {a : Option Addr} {N c : Nat} {X : Nat → List Nat} (hN : N ≤ 100000) (h : RR w (.slice a N c) N X) (hm : ¬ isM N X) : Calls Try.prog 81 #[.slice a N c] w fun e w' => e = .returned (.bool false) ∧ Below w.heap.size w w' := by
  have := rRight_any hN h
  rw [decide_eq_false hm] at this
  exact this.mono fun e w' ⟨h1, h2⟩ => ⟨h1, by obtain ⟨q, rfl⟩ := h2; exact below_drewN (Below.refl _ _) q⟩

set_option maxHeartbeats 1600000 in
set_option maxRecDepth 100000 in
theorem rMul_bad {w : World} {a b : Option Addr} {N M c d : Nat} {X Y : Nat → List Nat} (hN : N ≤ 100000) (hM : M ≤ 100000) (h : RR w (.slice a N c) N X) (h2 : RR w (.slice b M d) M Y) (hno : ¬ mulOk N M X Y) :
    Calls Try.prog 73 #[.slice a N c, .slice b M d] w fun e w' => e = .returned (.tuple #[.slice none 0 0, .int .i64 2]) ∧ Below w.heap.size w w' := by
  by_cases hx : isM N X
  · have H1 := Lib.hid (rright_yes hN h hx)
    by_cases hy : isM M Y
    · have H2 := Lib.hid fun W (hW : Below w.heap.size w W) => rright_yes hM (h2.below hW) hy
      have H3 := Lib.hid fun W (hW : Below w.heap.size w W) => columns_any hN (h.below hW)
      have hc : colsX N X ≠ M := fun e => hno ⟨hx, hy, e⟩
      have hc5 := hx.2.1
      clear h h2 hno hx hy
      generalize colsX N X = z at *
      have q : ((z : Int) != (M : Int)) = true := by simp; omega
      have q2 : decide (z = M) = false := by simp; omega
      go_enter Try.func73, Try.ntmps73
      go_wp2_with fail
      refine H1.out.mono ?_
      rintro e w1 ⟨rfl, hB1⟩
      have HB1 := Lib.hid hB1
      clear hB1
      go_wp2_with fail
      refine (H2.out w1 HB1.out).mono ?_
      rintro e w2 ⟨rfl, hB2⟩
      have HB2 := Lib.hid (HB1.out.trans (hB2.mono HB1.out.size))
      clear hB2
      go_wp2_with fail
      refine (H3.out w2 HB2.out).mono ?_
      rintro e w3 ⟨rfl, rfl⟩
      go_wp2_with fail
      go_ret2
      exact ⟨rfl, HB2.out⟩
    · have H2 := Lib.hid fun W (hW : Below w.heap.size w W) => rright_not hM (h2.below hW) hy
      clear h h2 hno hx hy
      go_enter Try.func73, Try.ntmps73
      go_wp2_with fail
      refine H1.out.mono ?_
      rintro e w1 ⟨rfl, hB1⟩
      have HB1 := Lib.hid hB1
      clear hB1
      go_wp2_with fail
      refine (H2.out w1 HB1.out).mono ?_
      rintro e w2 ⟨rfl, hB2⟩
      have HB2 := Lib.hid (HB1.out.trans (hB2.mono HB1.out.size))
      clear hB2
      go_wp2_with fail
      go_ret2
      exact ⟨rfl, HB2.out⟩
  · have H1 := Lib.hid (rright_not hN h hx)
    clear h h2 hno hx
    go_enter Try.func73, Try.ntmps73
    go_wp2_with fail
    refine H1.out.mono ?_
    rintro e w1 ⟨rfl, hB1⟩
    have HB1 := Lib.hid hB1
    clear hB1
    go_wp2_with fail
    go_ret2
    exact ⟨rfl, HB1.out⟩

/-- A product's row, c of its places told, the next one by i terms. -/
def prow (x : List Nat) (Y : Nat → List Nat) (C M c i : Nat) : List Nat := (List.range C).map fun j => if j < c then Gf.xs (fun t => Gf.mul (Gf.at0 x t) (Gf.at0 (Y t) j)) M else if j = c then Gf.xs (fun t => Gf.mul (Gf.at0 x t) (Gf.at0 (Y t) j)) i else 0
theorem prow_len (x : List Nat) (Y : Nat → List Nat) (C M c i : Nat) : (prow x Y C M c i).length = C := by simp [prow]
theorem prow_get (x : List Nat) (Y : Nat → List Nat) {C M c i j : Nat} (h : j < C) : (prow x Y C M c i)[j]? = some (if j < c then Gf.xs (fun t => Gf.mul (Gf.at0 x t) (Gf.at0 (Y t) j)) M else if j = c then Gf.xs (fun t => Gf.mul (Gf.at0 x t) (Gf.at0 (Y t) j)) i else 0) := by
  unfold prow
  rw [List.getElem?_map, List.getElem?_range h]; rfl
theorem prow_out (x : List Nat) (Y : Nat → List Nat) {C M c i j : Nat} (h : ¬ j < C) : (prow x Y C M c i)[j]? = none := List.getElem?_eq_none (by rw [prow_len]; omega)
theorem prow_at (x : List Nat) (Y : Nat → List Nat) {C M c i : Nat} (h : c < C) : (prow x Y C M c i).getD c 0 = Gf.xs (fun t => Gf.mul (Gf.at0 x t) (Gf.at0 (Y t) c)) i := by
  rw [List.getD_eq_getElem?_getD, prow_get x Y h, if_neg (Nat.lt_irrefl c), if_pos rfl]; rfl
theorem prow_set (x : List Nat) (Y : Nat → List Nat) {C M c i : Nat} (h : c < C) : (prow x Y C M c i).set c (Gf.xs (fun t => Gf.mul (Gf.at0 x t) (Gf.at0 (Y t) c)) i ^^^ Gf.mul (Gf.at0 x i) (Gf.at0 (Y i) c)) = prow x Y C M c (i + 1) := by
  apply List.ext_getElem?
  intro j
  rw [List.getElem?_set, prow_len]
  by_cases hj : j < C
  · rw [prow_get x Y hj, prow_get x Y hj]
    by_cases e : c = j
    · subst e; rw [if_pos rfl, if_pos h, if_neg (Nat.lt_irrefl c), if_pos rfl]; rfl
    · rw [if_neg e, if_neg (fun e2 : j = c => e e2.symm), if_neg (fun e2 : j = c => e e2.symm)]
  · rw [prow_out x Y hj, prow_out x Y hj, if_neg (by omega)]
theorem prow_next (x : List Nat) (Y : Nat → List Nat) (C M c : Nat) : prow x Y C M c M = prow x Y C M (c + 1) 0 := by
  unfold prow
  apply List.map_congr_left
  intro j _
  by_cases h : j < c
  · rw [if_pos h, if_pos (by omega)]
  · rw [if_neg h]
    by_cases e : j = c
    · subst e; rw [if_pos rfl, if_pos (by omega)]
    · rw [if_neg e, if_neg (by omega)]
      by_cases e2 : j = c + 1
      · rw [if_pos e2]; rfl
      · rw [if_neg e2]
theorem prow_none (x : List Nat) (Y : Nat → List Nat) (C M : Nat) : prow x Y C M 0 0 = List.replicate C 0 := by
  apply List.ext_getElem (by simp [prow])
  intro j h1 h2
  simp [prow, Gf.xs]
theorem prow_all (x : List Nat) (Y : Nat → List Nat) (C M : Nat) : prow x Y C M C 0 = Gf.mmr x Y C M := by
  unfold prow Gf.mmr
  apply List.map_congr_left
  intro j hj
  rw [if_pos (List.mem_range.1 hj)]
theorem prow_small {x : List Nat} (Y : Nat → List Nat) {C M c i : Nat} (hx : Small x) : Small (prow x Y C M c i) := Small.of_mem fun y hy => by
  obtain ⟨j, _, rfl⟩ := List.mem_map.1 hy
  have h : ∀ t, Gf.mul (Gf.at0 x t) (Gf.at0 (Y t) j) < 256 := fun t => Gf.mul_lt (small_at0.1 hx t)
  split
  · exact Gf.xs_lt h _
  · split
    · exact Gf.xs_lt h _
    · omega
/-- The rows of a product while they are told. -/
def pgr (X Y : Nat → List Nat) (C M r c i : Nat) : Nat → List Nat := fun j => if j < r then Gf.mmr (X j) Y C M else if j = r then prow (X r) Y C M c i else List.replicate C 0
theorem pgr_long (X Y : Nat → List Nat) (C M r c i : Nat) : Gf.Long (pgr X Y C M r c i) C := fun j => by
  unfold pgr; split
  · exact Gf.mmr_len _ _ _ _
  · split
    · exact prow_len _ _ _ _ _ _
    · exact List.length_replicate
theorem pgr_at (X Y : Nat → List Nat) (C M r c i : Nat) : pgr X Y C M r c i r = prow (X r) Y C M c i := by unfold pgr; rw [if_neg (Nat.lt_irrefl r), if_pos rfl]
theorem pgr_next (X Y : Nat → List Nat) (C M r : Nat) : pgr X Y C M r C 0 = pgr X Y C M (r + 1) 0 0 := by
  funext j
  unfold pgr
  by_cases h : j < r
  · rw [if_pos h, if_pos (by omega)]
  · rw [if_neg h]
    by_cases e : j = r
    · subst e; rw [if_pos rfl, if_pos (by omega), prow_all]
    · rw [if_neg e, if_neg (by omega)]
      by_cases e2 : j = r + 1
      · rw [if_pos e2, prow_none]
      · rw [if_neg e2]

set_option maxHeartbeats 6000000 in
set_option maxRecDepth 100000 in
theorem rMul_ok {w : World} {a b : Option Addr} {N M c d : Nat} {X Y : Nat → List Nat} (h : RR w (.slice a N c) N X) (h2 : RR w (.slice b M d) M Y) (hok : mulOk N M X Y) :
    Calls Try.prog 73 #[.slice a N c, .slice b M d] w fun e w' => ∃ va vd p q, e = .returned (.tuple #[.slice va N vd, .int .i64 0]) ∧ GridTo w' w.heap.size (.slice va N vd) N N p q (mulX X Y M (colsX M Y)) ∧ Below w.heap.size w w' := by
  obtain ⟨hx, hy, hxy⟩ := hok
  have hN : N ≤ 255 := hx.1
  have hM : M ≤ 255 := hy.1
  have hC : colsX M Y ≤ 255 := hy.2.1
  have hlx := isM_len hx
  have hly := isM_len hy
  rw [hxy] at hlx
  have HSX := Lib.hid h.small
  have HSY := Lib.hid h2.small
  have H1 := Lib.hid (rright_yes (by omega) h hx)
  have H2 := Lib.hid fun W (hW : Below w.heap.size w W) => rright_yes (by omega) (h2.below hW) hy
  have hc3 : ∀ W, Below w.heap.size w W → Hid (Calls Try.prog 105 #[.slice a N c] W fun e w' => e = .returned (.int .i64 (M : Nat)) ∧ W = w') := fun W hW => by
    have := columns_any (by omega) (h.below hW)
    rw [hxy] at this
    exact this
  have hc4 : ∀ W, Below w.heap.size w W → Hid (Calls Try.prog 105 #[.slice b M d] W fun e w' => e = .returned (.int .i64 (colsX M Y : Nat)) ∧ W = w') := fun W hW => columns_any (by omega) (h2.below hW)
  have H3 := Lib.hid hc3
  have H4 := Lib.hid hc4
  have HX := Lib.hid h
  have HY := Lib.hid h2
  have HLX := Lib.hid hlx
  have HLY := Lib.hid hly
  clear hx hy hxy hlx hly h h2 hc3 hc4
  obtain ⟨C, hCe⟩ : ∃ C, C = colsX M Y := ⟨_, rfl⟩
  rw [← hCe] at hC H4 HLY ⊢
  clear hCe
  have qq : ((M : Int) != (M : Int)) = false := by simp
  go_enter Try.func73, Try.ntmps73
  go_wp2_with fail
  refine H1.out.mono ?_
  rintro e w1 ⟨rfl, hB1⟩
  have HB1 := Lib.hid hB1
  clear hB1
  go_wp2_with fail
  refine (H2.out w1 HB1.out).mono ?_
  rintro e w2 ⟨rfl, hB2⟩
  have HB2 := Lib.hid (HB1.out.trans (hB2.mono HB1.out.size))
  clear hB2 HB1 H1 H2
  go_wp2_with fail
  refine (H3.out w2 HB2.out).out.mono ?_
  rintro e w' ⟨rfl, rfl⟩
  clear qq H3
  go_wp2_with fail
  refine (H4.out w2 HB2.out).out.mono ?_
  rintro e w' ⟨rfl, rfl⟩
  go_wp2_with fail
  refine (zeros_any (by omega) (by omega)).mono ?_
  rintro e w3 ⟨v, p, q, rfl, hG, hB3, _⟩
  obtain ⟨va, vd, rfl⟩ := hG.slice
  have HX2 := Lib.hid (HX.out.below HB2.out)
  have HY2 := Lib.hid (HY.out.below HB2.out)
  have HG3 := Lib.hid (hG.congr (Y := pgr X Y C M 0 0 0) fun i _ => by
    unfold pgr
    rw [if_neg (Nat.not_lt_zero _)]
    split
    · exact prow_none _ _ _ _
    · rfl)
  have HB3 := Lib.hid hB3
  clear hG hB3 HX HY
  go_wp2_with fail
  go_loopw [7] (fun i wr => ∃ r : Nat, r ≤ N ∧ i = .int .i64 r ∧ Hid (GridTo wr w2.heap.size (.slice va N vd) N N p q (pgr X Y C M r 0 0)) ∧ Hid (Below w2.heap.size w2 wr)) (fun i _ => N - (intOf i).toNat)
  case atStart => exact ⟨0, Nat.zero_le _, rfl, HG3, HB3⟩
  case round =>
    clear HG3 HB3
    obtain ⟨r, hr, rfl, HG, HB⟩ := hrel
    by_cases hr1 : r < N
    · obtain ⟨g, rfl⟩ := HG.out.head (by omega)
      go_wp2_with fail
      go_loopw [8] (fun i wr => ∃ k : Nat, k ≤ C ∧ i = .int .i64 k ∧ Hid (GridTo wr w2.heap.size (.slice (some ⟨g, 0, none⟩) N vd) N N p q (pgr X Y C M r k 0)) ∧ Hid (Below w2.heap.size w2 wr)) (fun i _ => C - (intOf i).toNat)
      case atStart => exact ⟨0, Nat.zero_le _, rfl, HG, HB⟩
      case round =>
        clear HG HB
        obtain ⟨k, hk, rfl, HG, HB⟩ := hrel
        have HCC := Lib.hid (H4.out _ (HB2.out.trans (HB.out.mono HB2.out.size)))
        by_cases hk1 : k < C
        · have dk : decide ((k : Int) < (C : Int)) = true := by simp; omega
          go_wp2_with fail
          refine HCC.out.out.mono ?_
          rintro e w' ⟨rfl, rfl⟩
          go_wp2_with fail
          go_loopw [9] (fun i wr => ∃ t : Nat, t ≤ M ∧ i = .int .i64 t ∧ Hid (GridTo wr w2.heap.size (.slice (some ⟨g, 0, none⟩) N vd) N N p q (pgr X Y C M r k t)) ∧ Hid (Below w2.heap.size w2 wr)) (fun i _ => M - (intOf i).toNat)
          case atStart => exact ⟨0, Nat.zero_le _, rfl, HG, HB⟩
          case round =>
            clear HG HB HCC dk
            obtain ⟨t, ht, rfl, HG, HB⟩ := hrel
            by_cases ht1 : t < M
            · obtain ⟨a', c', e, hX⟩ := HX2.out.shape
              injection e with e1 e2 e3
              subst e1; subst e3; clear e2
              obtain ⟨b1, o1, a1, n1, c1, rfl, hd0, hr1'⟩ := hX r hr1
              have hd1 := (HB.out.cell (p := ⟨b1, o1 + r, none⟩) (block_lt_of_cell hd0)).trans hd0
              have hn1 : n1 = M := by rw [← hr1'.len]; exact HLX.out r hr1
              subst hn1
              obtain ⟨a', c', e, hY⟩ := HY2.out.shape
              injection e with e1 e2 e3
              subst e1; subst e3; clear e2
              obtain ⟨b2, o2, a2, n2, c2, rfl, he0, hr2⟩ := hY t ht1
              have he1 := (HB.out.cell (p := ⟨b2, o2 + t, none⟩) (block_lt_of_cell he0)).trans he0
              have hn2 : n2 = C := by rw [← hr2.len]; exact HLY.out t ht1
              subst hn2
              obtain ⟨b3, o3, rfl, hx3⟩ := (hr1'.below HB.out).at_ t ht1
              obtain ⟨b4, o4, rfl, hx4⟩ := (hr2.below HB.out).at_ k hk1
              obtain ⟨l1, l2, l3, l4, l5, l6⟩ := HG.out.line (pgr_long X Y n2 n1 r k t) hr1
              have hpl := (own_blk l3).1
              rw [pgr_at] at l3
              obtain ⟨hc7, hf7⟩ := own_cell l3 (i := k) hk1
              have hxs := HSX.out r hr1
              have hys := HSY.out t ht1
              have hst : ∀ q2, Hid (GridTo ((wr.drewN q2).setCell ⟨p r, k, none⟩ (.int .u8 ((prow (X r) Y n2 n1 k t).getD k 0 ^^^ Gf.mul ((X r).getD t 0) ((Y t).getD k 0) : Nat))) w2.heap.size (.slice (some ⟨g, 0, none⟩) N vd) N N p q (pgr X Y n2 n1 r k (t + 1))) ∧ Hid (Below w2.heap.size w2 ((wr.drewN q2).setCell ⟨p r, k, none⟩ (.int .u8 ((prow (X r) Y n2 n1 k t).getD k 0 ^^^ Gf.mul ((X r).getD t 0) ((Y t).getD k 0) : Nat)))) := fun q2 => by
                refine ⟨((HG.out.drewN q2).turn (l := (prow (X r) Y n2 n1 k t).set k ((prow (X r) Y n2 n1 k t).getD k 0 ^^^ Gf.mul ((X r).getD t 0) ((Y t).getD k 0))) hr1 ((Only.refl _ _).set _ _) (by rw [List.length_set, prow_len, pgr_long]) (by rw [pgr_long]; exact own_set l3)).congr fun j _ => ?_, (below_drewN HB.out q2).setCell (p := ⟨p r, k, none⟩) hpl _⟩
                rw [prow_at _ _ hk1, ← at0_getD, ← at0_getD, prow_set _ _ hk1]
                unfold pgr
                by_cases e : j = r
                · subst e; simp
                · simp [e]
              have HST := Lib.hid hst
              have hu : (prow (X r) Y n2 n1 k t).getD k 0 < 256 := prow_small Y hxs k
              have hx5 := hxs t
              have hy5 := hys k
              have HML := Lib.hid fun W => rmul_any ((X r).getD t 0) ((Y t).getD k 0) hx5 hy5 W
              have hml : Gf.mul ((X r).getD t 0) ((Y t).getD k 0) < 256 := Gf.mul_lt hx5
              have hxo := u8_xor_nat ((prow (X r) Y n2 n1 k t).getD k 0) (Gf.mul ((X r).getD t 0) ((Y t).getD k 0)) hu hml
              clear hX hY hr1' hr2 hd0 he0 l3 hst hxs hys HG HB hpl
              generalize (prow (X r) Y n2 n1 k t).getD k 0 ^^^ Gf.mul ((X r).getD t 0) ((Y t).getD k 0) = z at *
              generalize Gf.mul ((X r).getD t 0) ((Y t).getD k 0) = y at *
              generalize (prow (X r) Y n2 n1 k t).getD k 0 = u at *
              generalize (X r).getD t 0 = x1 at *
              generalize (Y t).getD k 0 = y1 at *
              go_wp2_with fail
              refine region_quiet_tail 29 (by kernel_rfl) (by kernel_rfl) ?_
              simp only [List.take_succ_cons, List.take_zero, List.drop_succ_cons, List.drop_zero]
              repeat (go_big_quiet_step ((go_at_call 38; exact quiet_same (HML.out _))))
              refine wpQuiet_nil ?_
              intro _ hw'
              obtain ⟨nq, rfl⟩ := hw'
              go_wp2_with fail
              go_roundw
              case rel => exact ⟨t + 1, by omega, by go_num, (HST.out nq).1, (HST.out nq).2⟩
              case measure => simp [intOf]; omega
            · obtain rfl : t = M := by omega
              have HG' := Lib.hid (show GridTo wr w2.heap.size (.slice (some ⟨g, 0, none⟩) N vd) N N p q (pgr X Y C t r (k + 1) 0) from HG.out.congr fun i _ => by unfold pgr; rw [prow_next])
              clear HG
              go_wp2_with fail
              go_roundw
              case rel => exact ⟨k + 1, by omega, by go_num, HG', HB⟩
              case measure => simp [intOf]; omega
        · obtain rfl : k = C := by omega
          have dk : decide ((k : Int) < (k : Int)) = false := by simp
          have HG' := Lib.hid (show GridTo wr w2.heap.size (.slice (some ⟨g, 0, none⟩) N vd) N N p q (pgr X Y k M (r + 1) 0 0) by rw [← pgr_next]; exact HG.out)
          clear HG
          go_wp2_with fail
          refine HCC.out.out.mono ?_
          rintro e w' ⟨rfl, rfl⟩
          go_wp2_with fail
          go_roundw
          case rel => exact ⟨r + 1, by omega, by go_num, HG', HB⟩
          case measure => simp [intOf]; omega
    · obtain rfl : r = N := by omega
      have HF := Lib.hid (HG.out.congr (Y := mulX X Y M C) fun i hi => by unfold pgr mulX; rw [if_pos hi])
      have HFG := Lib.hid (HF.out.mono HB2.out.size)
      have HFB := Lib.hid (HB2.out.trans (HB.out.mono HB2.out.size))
      clear HG HF
      go_wp2_with fail
      go_ret2
      exact ⟨_, _, _, _, rfl, HFG.out, HFB.out⟩

set_option maxHeartbeats 1600000 in
set_option maxRecDepth 100000 in
theorem rApply_bad {w : World} {a b : Option Addr} {N M c d : Nat} {X : Nat → List Nat} {v : List Nat} (hN : N ≤ 100000) (h : RR w (.slice a N c) N X) (h2 : RB w b M d v) (hno : ¬ (isM N X ∧ colsX N X = M)) :
    Calls Try.prog 77 #[.slice a N c, .slice b M d] w fun e w' => e = .returned (.tuple #[.slice none 0 0, .int .i64 2]) ∧ Below w.heap.size w w' := by
  have hm := h2.most
  by_cases hx : isM N X
  · have H1 := Lib.hid (rright_yes hN h hx)
    have H3 := Lib.hid fun W (hW : Below w.heap.size w W) => columns_any hN (h.below hW)
    have hc : colsX N X ≠ M := fun e => hno ⟨hx, e⟩
    have hc2 := hx.2.1
    clear h h2 hno hx
    generalize colsX N X = z at *
    have q : ((z : Int) != (M : Int)) = true := by simp; omega
    have q2 : decide (z = M) = false := by simp; omega
    go_enter Try.func77, Try.ntmps77
    go_wp2_with fail
    refine H1.out.mono ?_
    rintro e w1 ⟨rfl, hB1⟩
    have HB1 := Lib.hid hB1
    clear hB1
    go_wp2_with fail
    refine (H3.out w1 HB1.out).mono ?_
    rintro e w' ⟨rfl, rfl⟩
    go_wp2_with fail
    go_ret2
    exact ⟨rfl, HB1.out⟩
  · have H1 := Lib.hid (rright_not hN h hx)
    clear h h2 hno hx
    go_enter Try.func77, Try.ntmps77
    go_wp2_with fail
    refine H1.out.mono ?_
    rintro e w1 ⟨rfl, hB1⟩
    have HB1 := Lib.hid hB1
    clear hB1
    go_wp2_with fail
    go_ret2
    exact ⟨rfl, HB1.out⟩

set_option maxHeartbeats 3200000 in
set_option maxRecDepth 100000 in
theorem rApply_ok {w : World} {a b : Option Addr} {N M c d : Nat} {X : Nat → List Nat} {v : List Nat} (h : RR w (.slice a N c) N X) (h2 : RB w b M d v) (hx : isM N X) (hxy : colsX N X = M) :
    Calls Try.prog 77 #[.slice a N c, .slice b M d] w fun e w' => ∃ u, e = .returned (.tuple #[u, .int .i64 0]) ∧ w'.ownsRow w.heap.size 5 1 u N (bs (applyTo X v M N)) ∧ Below w.heap.size w w' := by
  obtain ⟨i0, hi, hz0, hz1, hz2⟩ := info_parts info5
  have hN : N ≤ 255 := hx.1
  have hM : M ≤ 255 := by have := hx.2.1; omega
  have hlx := isM_len hx
  rw [hxy] at hlx
  have hc3 : ∀ W, Below w.heap.size w W → Hid (Calls Try.prog 105 #[.slice a N c] W fun e w' => e = .returned (.int .i64 (M : Nat)) ∧ W = w') := fun W hW => by
    have := columns_any (by omega) (h.below hW)
    rw [hxy] at this
    exact this
  have H1 := Lib.hid (rright_yes (by omega) h hx)
  have H3 := Lib.hid hc3
  have HX := Lib.hid h
  have HV := Lib.hid h2
  have HLX := Lib.hid hlx
  clear hx hxy hlx hc3 h h2
  have qq : ((M : Int) != (M : Int)) = false := by simp
  go_enter Try.func77, Try.ntmps77
  go_wp2_with fail
  refine H1.out.mono ?_
  rintro e W2 ⟨rfl, hB1⟩
  have HB2 := Lib.hid hB1
  clear hB1 H1
  go_wp2_with fail
  refine (H3.out W2 HB2.out).out.mono ?_
  rintro e w' ⟨rfl, rfl⟩
  clear H3 qq
  go_wp2_with fail
  have HX2 := Lib.hid (HX.out.below HB2.out)
  have HV2 := Lib.hid (HV.out.below HB2.out)
  clear HX HV
  go_loopw [6, 7] (fun s i wr => ∃ r : Nat, r ≤ N ∧ i = .int .i64 r ∧ Hid (wr.ownsRow W2.heap.size 5 1 s r (bs (applyTo X v M r))) ∧ Hid (Below W2.heap.size W2 wr)) (fun _ i _ => N - (intOf i).toNat)
  case atStart => exact ⟨0, Nat.zero_le _, rfl, World.ownsRow_nil _ _ _ _, Below.refl _ _⟩
  case round =>
    obtain ⟨r, hr, rfl, HO, HB⟩ := hrel
    by_cases hr1 : r < N
    · obtain ⟨a', c', e, hX⟩ := HX2.out.shape
      injection e with e1 e2 e3
      subst e1; subst e3; clear e2
      obtain ⟨b1, o1, a1, n1, c1, rfl, hc0, hr1'⟩ := hX r hr1
      have hc1 := (HB.out.cell (p := ⟨b1, o1 + r, none⟩) (block_lt_of_cell hc0)).trans hc0
      clear hc0
      have hn1 : n1 = M := by rw [← hr1'.len]; exact HLX.out r hr1
      subst hn1
      have hdot := rdot_same (hr1'.below HB.out) (HV2.out.below HB.out)
      have HDOT := Lib.hid hdot
      have HAS := Lib.hid (applyTo_succ X v n1 r)
      have hsz : W2.heap.size ≤ wr.heap.size := HB.out.size
      clear hdot hX hr1'
      generalize dotTo (X r) v n1 = y at *
      go_wp2_with fail
      refine HDOT.out.mono ?_
      rintro e w5 ⟨rfl, nq, rfl⟩
      have HAL := Lib.hid ((show (wr.drewN nq).ownsRow W2.heap.size 5 1 u6 r (bs (applyTo X v n1 r)) from HO.out).alloc (.cells #[.int .u8 (y : Nat)] 5))
      have HB5 := Lib.hid (below_drewN HB.out nq)
      have HOL := Lib.hid (fun g e => (own_lt HO.out (g := g) e).1)
      have hsz5 : (wr.drewN nq).heap.size = wr.heap.size := rfl
      obtain ⟨w5, hw5⟩ : ∃ w5, w5 = wr.drewN nq := ⟨_, rfl⟩
      rw [← hw5] at HAL HB5 hsz5 ⊢
      have hsz6 : W2.heap.size ≤ w5.heap.size := by omega
      clear hsz5 hw5
      go_wp2_with (at_builtin; refine wpList_append_own _ rfl (.tmp 35) (.tmp 37) 31 rfl W2.heap.size 5 i0 (.int .u8 0) 1 1 Try.underlying31 hi hz0 hz1 hz2 rfl (by decide) u6 r (bs (applyTo X v n1 r)) rfl HAL.out ⟨w5.heap.size, 0, none⟩ 1 1 [.int .u8 (y : Nat)] rfl rfl (cell_new _ _) (one_u8 _) (by unfold maxLen; omega) (by omega) (by simp; omega) ?_)
      intro v' w6 hown2 hg2 _
      have HO6 := Lib.hid (show w6.ownsRow W2.heap.size 5 1 v' (r + 1) (bs (applyTo X v n1 (r + 1))) by rw [HAS.out]; exact hown2)
      have HB6 := Lib.hid ((HB5.out.alloc (by omega) (.cells #[.int .u8 (y : Nat)] 5)).grown hg2 (by simp; omega) (fun g e => HOL.out g e))
      clear hown2 hg2 HAL
      go_wp2_with fail
      go_roundw
      case rel => exact ⟨r + 1, by omega, by go_num, HO6, HB6⟩
      case measure => simp [intOf]; omega
    · obtain rfl : r = N := by omega
      have HFB := Lib.hid (HB2.out.trans (HB.out.mono HB2.out.size))
      have HFO := Lib.hid (own_mono HO.out HB2.out.size)
      clear HO
      go_wp2_with fail
      go_ret2
      exact ⟨_, rfl, HFO.out, HFB.out⟩
end Go.Proofs.Ytokeoodkioobdaa

/- Two grids side by side, a copy into a row among others: what the reference's reduction needs. Conditions: none. -/
namespace Go.Proofs.Ytokeoodkioobdaa
open Go.RowKit

theorem GridTo.frame {w w' : World} {B N K : Nat} {v : Value} {p c : Nat → Nat} {X : Nat → List Nat} (h : GridTo w B v N K p c X) (hg : ∀ g, v.ownBlock = some g → w'.heap[g]? = w.heap[g]?) (hp : ∀ j, j < K → w'.heap[p j]? = w.heap[p j]?) : GridTo w' B v N K p c X := by
  obtain ⟨⟨vs, h1, h2⟩, h3, h4, h5⟩ := h
  exact ⟨⟨vs, own_frame h1 fun b hb _ => hg b hb, h2⟩, fun i hi => own_frame (h3 i hi) fun b hb _ => by cases hb; exact hp i hi, h4, h5⟩
theorem GridTo.rowlt {w : World} {B N K i : Nat} {v : Value} {p c : Nat → Nat} {X : Nat → List Nat} (h : GridTo w B v N K p c X) (hi : i < K) : p i < w.heap.size := by
  obtain ⟨_, _, cur, hcur, _⟩ := own_blk (h.row i hi)
  exact lt_of_block hcur
theorem GridTo.rowne {w : World} {B B' N K N' K' i g : Nat} {v v' : Value} {p c p' c' : Nat → Nat} {X X' : Nat → List Nat} (h : GridTo w B v N K p c X) (h' : GridTo w B' v' N' K' p' c' X') (hi : i < K) (hg : v'.ownBlock = some g) : p i ≠ g := fun e => by
  obtain ⟨vs, h1, _⟩ := h'.own
  have hu := unl_types (by decide) (h.row i hi) h1
  exact hu (p i) rfl (by rw [e]; exact hg)

/-- Two grids that share no block. -/
structure Red (w0 : World) (vx vy : Value) (N R : Nat) (px cx py cy : Nat → Nat) (X Y : Nat → List Nat) (w : World) : Prop where
  gx : GridTo w w0.heap.size vx N N px cx X
  gy : GridTo w w0.heap.size vy R R py cy Y
  dis : ∀ i j, i < N → j < R → px i ≠ py j
  ls : Unl vx vy
  low : Below w0.heap.size w0 w
section
variable {w0 w w' : World} {vx vy : Value} {N R : Nat} {px cx py cy : Nat → Nat} {X Y : Nat → List Nat}
theorem Red.symm (h : Red w0 vx vy N R px cx py cy X Y w) : Red w0 vy vx R N py cy px cx Y X w := ⟨h.gy, h.gx, fun i j hi hj e => h.dis j i hj hi e.symm, h.ls.symm, h.low⟩
theorem Red.below (h : Red w0 vx vy N R px cx py cy X Y w) (hB : Below w.heap.size w w') : Red w0 vx vy N R px cx py cy X Y w' := ⟨h.gx.below hB, h.gy.below hB, h.dis, h.ls, h.low.trans (hB.mono h.low.size)⟩
theorem Red.drewN (h : Red w0 vx vy N R px cx py cy X Y w) (q : Nat) : Red w0 vx vy N R px cx py cy X Y (w.drewN q) := h.below (below_drewN (Below.refl _ _) q)
theorem Red.congr {Z V : Nat → List Nat} (h : Red w0 vx vy N R px cx py cy X Y w) (e : ∀ i, i < N → Z i = X i) (e2 : ∀ i, i < R → V i = Y i) : Red w0 vx vy N R px cx py cy Z V w := ⟨h.gx.congr e, h.gy.congr e2, h.dis, h.ls, h.low⟩
theorem Red.turnX {i : Nat} {l : List Nat} (h : Red w0 vx vy N R px cx py cy X Y w) (hi : i < N) (hO : Only (px i) w w') (hl : l.length = (X i).length) (hr : w'.ownsRow w0.heap.size 5 1 (.slice (some ⟨px i, 0, none⟩) (X i).length (cx i)) (X i).length (bs l)) :
    Red w0 vx vy N R px cx py cy (fun j => if j = i then l else X j) Y w' := by
  have hb := (own_blk (h.gx.row i hi)).1
  refine ⟨h.gx.turn hi hO hl hr, h.gy.frame (fun g hg => hO.block g ?_ ?_) fun j hj => hO.block _ (h.gy.rowlt hj) (fun e => h.dis i j hi hj e.symm), h.dis, h.ls, h.low.trans (hO.below _ hb h.low.size)⟩
  · obtain ⟨vs, h1, _⟩ := h.gy.own
    exact (own_lt h1 hg).2
  · exact fun e => (h.gx.rowne h.gy hi hg) e.symm
theorem Red.turnY {i : Nat} {l : List Nat} (h : Red w0 vx vy N R px cx py cy X Y w) (hi : i < R) (hO : Only (py i) w w') (hl : l.length = (Y i).length) (hr : w'.ownsRow w0.heap.size 5 1 (.slice (some ⟨py i, 0, none⟩) (Y i).length (cy i)) (Y i).length (bs l)) :
    Red w0 vx vy N R px cx py cy X (fun j => if j = i then l else Y j) w' := (h.symm.turnX hi hO hl hr).symm
theorem Red.swapX {a b g d W : Nat} (h : Red w0 (.slice (some ⟨g, 0, none⟩) N d) vy N R px cx py cy X Y w) (hL : Gf.Long X W) (ha : a < N) (hb : b < N)
    (hw : w'.heap = ((w.setCell ⟨g, b, none⟩ (.slice (some ⟨px a, 0, none⟩) W (cx a))).setCell ⟨g, a, none⟩ (.slice (some ⟨px b, 0, none⟩) W (cx b))).heap) (hB : Below w0.heap.size w w') :
    ∃ px' cx', Red w0 (.slice (some ⟨g, 0, none⟩) N d) vy N R px' cx' py cy (Gf.swp X a b) Y w' := by
  have hbl : ∀ k, k ≠ g → w'.heap[k]? = w.heap[k]? := fun k hk => by
    rw [hw, heap_setCell_other _ ⟨g, _, none⟩ k _ hk, heap_setCell_other _ ⟨g, _, none⟩ k _ hk]
  have hs := h.gx.swap (w' := w') (a := b) (b := a) rfl hb ha (by rw [hL a, hL b]; exact hw)
  refine ⟨_, _, ⟨hs.congr fun i _ => ?_, h.gy.frame (fun g' hg => hbl g' fun e => ?_) fun j hj => hbl _ (h.gy.rowne h.gx hj rfl), fun i j hi hj => ?_, h.ls, h.low.trans hB⟩⟩
  · unfold Gf.swp
    by_cases e1 : i = b
    · by_cases e2 : i = a
      · subst e1; subst e2; simp
      · simp [e1]
        intro e3; exact absurd (e1.trans e3) e2
    · by_cases e2 : i = a
      · subst e2; simp [e1]
      · simp [e1, e2]
  · rw [e] at hg
    exact h.ls g rfl hg
  · by_cases e1 : i = a
    · rw [if_pos e1]; exact h.dis b j hb hj
    · rw [if_neg e1]
      by_cases e2 : i = b
      · rw [if_pos e2]; exact h.dis a j ha hj
      · rw [if_neg e2]; exact h.dis i j hi hj
end

/-- A copy of a row into a row that is full: nothing else turns. -/
theorem wpList_copy_only {w : World} {ops : Array Oper} {rest : List Oper} {o : Oper} {a : Act} {Q : Exit → Act → World → Prop} (hgd : o.guard = none) (d s : Operand)
    (ho : o.op = .call { callee := .builtin .copy, args := #[d, s], argTypes := #[31, 31] }) {g n sCap : Nat} {sp : Option Addr} {x z : List Nat} (hd : a.eval d = .slice (some ⟨g, 0, none⟩) n n) (hs : a.eval s = .slice sp n sCap)
    (hg : w.heap[g]? = some (.cells (bs z).toArray 5 (0, 0))) (hz : z.length = n) (hr : RB w sp n sCap x)
    (h : ∀ w', Hid (w'.heap[g]? = some (.cells (bs x).toArray 5 (0, 0))) → Only g w w' → wpList Try.prog ops Q rest (a.put o.dst (goInt n)) w') : wpList Try.prog ops Q (o :: rest) a w := by
  have hxl := hr.len
  by_cases h0 : n = 0
  · subst h0
    have hx0 : x = [] := List.eq_nil_of_length_eq_zero hxl
    have hz0 : z = [] := List.eq_nil_of_length_eq_zero hz
    refine wpList_copy_nothing hgd d s 31 31 ho 5 Try.underlying31 (by kernel_rfl) _ _ _ _ _ _ hd hs rfl ?_
    exact h w (by show _ = _; rw [hg, hx0, hz0]) (Only.refl _ _)
  · obtain ⟨ad, had, hsrc⟩ := src_of hr (by rw [length_bs, hxl]; omega)
    subst had
    have hb : (bs x).length = n := by rw [length_bs, hxl]
    refine wpList_copy_own hgd d s 31 31 ho 5 Try.underlying31 (by kernel_rfl) g 0 n n ad n sCap hd hs _ _ hg (bs x) (by rw [hb]; exact (Nat.min_self n).symm) hsrc (by simp [length_bs, hz, hxl]) (bs_one _) ?_
    have e : ((bs z).toArray.toList.take 0 ++ (bs x ++ (bs z).toArray.toList.drop (0 + (bs x).length))).toArray = (bs x).toArray := by
      congr 1
      simp [hb]
      rw [length_bs, hz]; exact Nat.le_refl _
    rw [e, hb]
    refine h _ (setRow_heap w g _ _ 5 _ hg) ⟨fun B h1 _ => below_setRow (Below.refl _ _) h1 _, fun b _ hne => setRow_other w g b _ hne, by simp [World.setRow]⟩

/-- The rows that were copied so far. -/
def cpTo (A : Nat → List Nat) (C r : Nat) : Nat → List Nat := fun j => if j < r then A j else List.replicate C 0
theorem cpTo_long {A : Nat → List Nat} {C r : Nat} (h : Gf.Long A C) : Gf.Long (cpTo A C r) C := fun j => by
  unfold cpTo; split
  · exact h j
  · exact List.length_replicate
/-- The other rows of an elimination, the first r of them turned. -/
def elToY (M Y : Nat → List Nat) (n k r : Nat) : Nat → List Nat := fun j => if j = n then Gf.sc (Gf.inv (Gf.at0 (M n) k)) (Y n) else if j < r then Gf.ad (Gf.at0 (M j) k) (Y j) (Gf.sc (Gf.inv (Gf.at0 (M n) k)) (Y n)) else Y j
theorem elToY_long {M Y : Nat → List Nat} {W n k r : Nat} (h : Gf.Long Y W) : Gf.Long (elToY M Y n k r) W := fun j => by
  unfold elToY; split
  · rw [Gf.sc_len]; exact h n
  · split
    · rw [Gf.ad_len (by rw [Gf.sc_len, h j, h n])]; exact h j
    · exact h j
theorem elToY_byt {M Y : Nat → List Nat} {W n k r : Nat} (hl : Gf.Long Y W) (h : Gf.Byt Y) : Gf.Byt (elToY M Y n k r) := fun j i => by
  unfold elToY; split
  · rw [Gf.at0_sc]; exact Gf.mul_lt (h n i)
  · split
    · rw [Gf.at0_ad (by rw [Gf.sc_len, hl j, hl n]), Gf.at0_sc]; exact Gf.xor_lt (h j i) (Gf.mul_lt (Gf.mul_lt (h n i)))
    · exact h j i
theorem elToY_self {M Y : Nat → List Nat} {n k : Nat} : elToY M Y n k n = elToY M Y n k (n + 1) := by
  funext j
  unfold elToY
  by_cases e : j = n
  · rw [if_pos e, if_pos e]
  · rw [if_neg e, if_neg e]
    by_cases e2 : j < n
    · rw [if_pos e2, if_pos (by omega)]
    · rw [if_neg e2, if_neg (by omega)]
theorem elToY_none {M Y : Nat → List Nat} {W n k r : Nat} (hl : Gf.Long Y W) (h : Gf.at0 (M r) k = 0) : elToY M Y n k r = elToY M Y n k (r + 1) := by
  funext j
  unfold elToY
  by_cases e : j = n
  · rw [if_pos e, if_pos e]
  · rw [if_neg e, if_neg e]
    by_cases e2 : j < r
    · rw [if_pos e2, if_pos (by omega)]
    · rw [if_neg e2]
      by_cases e3 : j = r
      · subst e3; rw [if_pos (by omega), h, Gf.ad_zero (by rw [Gf.sc_len, hl j, hl n])]
      · rw [if_neg (by omega)]
theorem elToY_put {M Y : Nat → List Nat} {n k r : Nat} (hrn : r ≠ n) : ∀ j, elToY M Y n k (r + 1) j = if j = r then Gf.ad (Gf.at0 (M r) k) (elToY M Y n k r r) (elToY M Y n k r n) else elToY M Y n k r j := fun j => by
  have e1 : elToY M Y n k r r = Y r := by unfold elToY; rw [if_neg hrn, if_neg (Nat.lt_irrefl r)]
  have e2 : elToY M Y n k r n = Gf.sc (Gf.inv (Gf.at0 (M n) k)) (Y n) := by unfold elToY; rw [if_pos rfl]
  rw [e1, e2]
  unfold elToY
  by_cases e : j = r
  · subst e
    rw [if_pos rfl, if_neg hrn, if_pos (Nat.lt_succ_self _)]
  · rw [if_neg e]
    by_cases e3 : j = n
    · rw [if_pos e3, if_pos e3]
    · rw [if_neg e3, if_neg e3]
      by_cases e4 : j < r
      · rw [if_pos e4, if_pos (by omega)]
      · rw [if_neg e4, if_neg (by omega)]
theorem elTo_is (M : Nat → List Nat) (n k r : Nat) : elTo M n k r = elToY M M n k r := rfl
end Go.Proofs.Ytokeoodkioobdaa

/- The walk of the reference's reduction. Conditions: there are at most 255 rows and columns. -/
namespace Go.Proofs.Ytokeoodkioobdaa
open Go.RowKit

set_option maxHeartbeats 16000000 in
set_option maxRecDepth 100000 in
theorem reduced_two {w : World} {a b : Option Addr} {N C D c d : Nat} {X Y : Nat → List Nat} (hN0 : 0 < N) (hN : N ≤ 255) (hC : C ≤ 255) (hD : D ≤ 255) (h : RR w (.slice a N c) N X) (h2 : RR w (.slice b N d) N Y) (hlx : ∀ i, i < N → (X i).length = C) (hly : ∀ i, i < N → (Y i).length = D) (hcx : colsX N X = C) (hcy : colsX N Y = D) :
    Calls Try.prog 108 #[.slice a N c, .slice b N d] w fun e w' => (∃ vx gy dy, e = .returned (.tuple #[vx, .slice (some ⟨gy, 0, none⟩) N dy, .int .i64 (Gf.rdN (cut N X C) N C : Nat)]) ∧ ∃ p q, GridTo w' w.heap.size (.slice (some ⟨gy, 0, none⟩) N dy) N N p q (Gf.rdY (cut N X C) (cut N Y D) N C)) ∧ Below w.heap.size w w' := by
  have hA : ∀ W, Below w.heap.size w W → Hid (Calls Try.prog 105 #[.slice a N c] W fun e w' => e = .returned (.int .i64 (C : Nat)) ∧ W = w') := fun W hW => by
    have := columns_any (by omega) (h.below hW)
    rw [hcx] at this
    exact this
  have HA := Lib.hid hA
  have hBc : ∀ W, Below w.heap.size w W → Hid (Calls Try.prog 105 #[.slice b N d] W fun e w' => e = .returned (.int .i64 (D : Nat)) ∧ W = w') := fun W hW => by
    have := columns_any (by omega) (h2.below hW)
    rw [hcy] at this
    exact this
  have HBc := Lib.hid hBc
  have HX := Lib.hid h
  have HY := Lib.hid h2
  have HL := Lib.hid (cut_long hlx)
  have HBy := Lib.hid (cut_byt (W := C) h.small)
  have HLY := Lib.hid (cut_long hly)
  have HBY := Lib.hid (cut_byt (W := D) h2.small)
  have HLX := Lib.hid hlx
  have HLY0 := Lib.hid hly
  have HCA := Lib.hid fun i (hi : i < N) => (cut_at (W := C) (X := X) hi)
  have HCB := Lib.hid fun i (hi : i < N) => (cut_at (W := D) (X := Y) hi)
  clear hA hBc h h2 hlx hly hcx hcy
  generalize cut N X C = A at *
  generalize cut N Y D = B at *
  have n1 : ((N : Int) == 0) = false := by simp; omega
  have n2 : decide ((0 : Int) < (N : Int)) = true := by simp; omega
  have n3 : decide (0 < N) = true := by simp; omega
  go_enter Try.func108, Try.ntmps108
  go_wp2_with fail
  refine (HA.out w (Below.refl _ _)).out.mono ?_
  rintro e w' ⟨rfl, rfl⟩
  go_wp2_with fail
  refine (zeros_any (by omega) (by omega)).mono ?_
  rintro e w1 ⟨vx, px, cx, rfl, hGx, hB1, hdx⟩
  obtain ⟨xa, xd, rfl⟩ := hGx.slice
  obtain ⟨gx, rfl⟩ := hGx.head hN0
  have HGx := Lib.hid hGx
  have HB1 := Lib.hid hB1
  have HDX := Lib.hid hdx
  clear hGx hB1 hdx
  go_wp2_with fail
  refine (HBc.out w1 HB1.out).out.mono ?_
  rintro e w' ⟨rfl, rfl⟩
  go_wp2_with fail
  refine (zeros_any (N := N) (C := D) (by omega) (by omega)).mono ?_
  rintro e w2 ⟨vy, py, cy, rfl, hGy, hB2, hdy⟩
  obtain ⟨ya, yd, rfl⟩ := hGy.slice
  obtain ⟨gy, rfl⟩ := hGy.head hN0
  have hls : Unl (.slice (some ⟨gx, 0, none⟩) N xd) (.slice (some ⟨gy, 0, none⟩) N yd) := fun g' e1 e2 => by
    have h1 : some gx = some g' := e1
    injection h1 with h1
    obtain ⟨vs, hv, _⟩ := hGy.own
    have h3 := (own_lt hv e2).1
    have h4 := HGx.out.gl.2
    omega
  have HR0 := Lib.hid (Red.mk (w0 := w) (X := cpTo A C 0) (Y := cpTo B D 0) ((HGx.out.below hB2).congr fun i _ => if_neg (Nat.not_lt_zero i)) ((hGy.mono HB1.out.size).congr fun i _ => if_neg (Nat.not_lt_zero i)) (fun i j hi hj e => by
    have h1 := HGx.out.rowlt hi
    have h2 := (own_blk (hGy.row j hj)).1
    omega) hls (HB1.out.trans (hB2.mono HB1.out.size)))
  have HDY := Lib.hid hdy
  clear hGy hB2 hdy hls HGx HB1 HBc
  go_wp2_with fail
  go_loopw [9] (fun i wr => ∃ r : Nat, r ≤ N ∧ i = .int .i64 r ∧ Hid (Red w (.slice (some ⟨gx, 0, none⟩) N xd) (.slice (some ⟨gy, 0, none⟩) N yd) N N px cx py cy (cpTo A C r) (cpTo B D r) wr)) (fun i _ => N - (intOf i).toNat)
  case atStart => exact ⟨0, Nat.zero_le _, rfl, HR0⟩
  case round =>
    clear HR0
    obtain ⟨r, hr, rfl, HR⟩ := hrel
    by_cases hr1 : r < N
    · obtain ⟨a', c', e, hX⟩ := (HX.out.below HR.out.low).shape
      injection e with e1 e2 e3
      subst e1; subst e3; clear e2
      obtain ⟨b1, o1, a1, m1, c1, rfl, hc1, hr1'⟩ := hX r hr1
      have hm1 : m1 = C := by rw [← hr1'.len]; exact HLX.out r hr1
      subst hm1
      obtain ⟨l1, l2, l3, l4, l5, l6⟩ := HR.out.gx.line (cpTo_long HL.out) hr1
      rw [HDX.out r hr1] at l1 l3
      have e0 : cpTo A m1 r r = List.replicate m1 0 := if_neg (Nat.lt_irrefl r)
      rw [e0] at l3
      have HF := Lib.hid (full_row l3)
      have HR1 := Lib.hid hr1'
      have hst : ∀ q w5, w5.heap[px r]? = some (.cells (bs (X r)).toArray 5 (0, 0)) → Only (px r) (wr.drewN q) w5 → Red w (.slice (some ⟨gx, 0, none⟩) N xd) (.slice (some ⟨gy, 0, none⟩) N yd) N N px cx py cy (cpTo A m1 (r + 1)) (cpTo B D r) w5 := fun q w5 h5 h6 => by
        refine ((HR.out.drewN q).turnX (l := X r) hr1 h6 (by rw [HLX.out r hr1, cpTo_long HL.out r]) ?_).congr (fun j _ => ?_) fun _ _ => rfl
        · rw [cpTo_long HL.out r, HDX.out r hr1]
          exact own_full h5 (HLX.out r hr1) (by unfold maxLen; omega) (own_blk l3).1
        · unfold cpTo
          by_cases e : j = r
          · subst e; rw [if_pos (by omega), if_pos rfl, HCA.out j hr1]
          · rw [if_neg e]
            by_cases e2 : j < r
            · rw [if_pos e2, if_pos (by omega)]
            · rw [if_neg e2, if_neg (by omega)]
      have HST := Lib.hid hst
      clear hX hr1' l3 e0 hst HR
      go_wp2_with fail
      refine region_quiet_tail 8 (by kernel_rfl) (by kernel_rfl) ?_
      simp only [List.take_succ_cons, List.take_zero, List.drop_succ_cons, List.drop_zero]
      repeat (go_big_quiet_step (fail))
      refine wpQuiet_nil ?_
      intro _ hw'
      obtain ⟨nq, rfl⟩ := hw'
      go_wp2_with (refine wpList_copy_only rfl (.tmp 36) (.tmp 40) rfl rfl rfl HF.out (by rw [List.length_replicate]) (HR1.out.drewN nq) ?_)
      intro w5 hh5 hO5
      have HR5 := Lib.hid (HST.out nq w5 hh5.out hO5)
      clear hh5 hO5 HST HF HR1 hc1 l1 l2 l4 l5 l6
      obtain ⟨a', c', e, hY⟩ := (HY.out.below HR5.out.low).shape
      injection e with e1 e2 e3
      subst e1; subst e3; clear e2
      obtain ⟨b2, o2, a2, m2, c2, rfl, hc2, hr2'⟩ := hY r hr1
      have hm2 : m2 = D := by rw [← hr2'.len]; exact HLY0.out r hr1
      subst hm2
      obtain ⟨l1, l2, l3, l4, l5, l6⟩ := HR5.out.gy.line (cpTo_long HLY.out) hr1
      rw [HDY.out r hr1] at l1 l3
      have e0 : cpTo B m2 r r = List.replicate m2 0 := if_neg (Nat.lt_irrefl r)
      rw [e0] at l3
      have HF := Lib.hid (full_row l3)
      have HR1 := Lib.hid hr2'
      have hst : ∀ q w6, w6.heap[py r]? = some (.cells (bs (Y r)).toArray 5 (0, 0)) → Only (py r) (w5.drewN q) w6 → Red w (.slice (some ⟨gx, 0, none⟩) N xd) (.slice (some ⟨gy, 0, none⟩) N yd) N N px cx py cy (cpTo A m1 (r + 1)) (cpTo B m2 (r + 1)) w6 := fun q w6 h5 h6 => by
        refine ((HR5.out.drewN q).turnY (l := Y r) hr1 h6 (by rw [HLY0.out r hr1, cpTo_long HLY.out r]) ?_).congr (fun _ _ => rfl) fun j _ => ?_
        · rw [cpTo_long HLY.out r, HDY.out r hr1]
          exact own_full h5 (HLY0.out r hr1) (by unfold maxLen; omega) (own_blk l3).1
        · unfold cpTo
          by_cases e : j = r
          · subst e; rw [if_pos (by omega), if_pos rfl, HCB.out j hr1]
          · rw [if_neg e]
            by_cases e2 : j < r
            · rw [if_pos e2, if_pos (by omega)]
            · rw [if_neg e2, if_neg (by omega)]
      have HST := Lib.hid hst
      clear hY hr2' l3 e0 hst HR5
      go_wp2_with fail
      refine region_quiet_tail 8 (by kernel_rfl) (by kernel_rfl) ?_
      simp only [List.take_succ_cons, List.take_zero, List.drop_succ_cons, List.drop_zero]
      repeat (go_big_quiet_step (fail))
      refine wpQuiet_nil ?_
      intro _ hw'
      obtain ⟨nq2, rfl⟩ := hw'
      go_wp2_with (refine wpList_copy_only rfl (.tmp 49) (.tmp 53) rfl rfl rfl HF.out (by rw [List.length_replicate]) (HR1.out.drewN nq2) ?_)
      intro w6 hh6 hO6
      have HR6 := Lib.hid (HST.out nq2 w6 hh6.out hO6)
      clear hh6 hO6 HST HF HR1 hc2 l1 l2 l4 l5 l6
      go_wp2_with fail
      go_roundw
      case rel => exact ⟨r + 1, by omega, by go_num, HR6⟩
      case measure => simp [intOf]; omega
    · obtain rfl : r = N := by omega
      have HR7 := Lib.hid (HR.out.congr (Z := Gf.rdX A r 0) (V := Gf.rdY A B r 0) (fun i hi => (if_pos hi).symm) fun i hi => (if_pos hi).symm)
      clear HR HDX HDY HCA HCB HLX HLY0 HX HY
      go_wp2_with fail
      go_loopw [10, 11] (fun n i wr => ∃ k : Nat, k ≤ C ∧ i = .int .i64 k ∧ n = .int .i64 (Gf.rdN A r k : Nat) ∧ ∃ px cx py cy, Hid (Red w (.slice (some ⟨gx, 0, none⟩) r xd) (.slice (some ⟨gy, 0, none⟩) r yd) r r px cx py cy (Gf.rdX A r k) (Gf.rdY A B r k) wr)) (fun _ i _ => C - (intOf i).toNat)
      case atStart => exact ⟨0, Nat.zero_le _, rfl, rfl, _, _, _, _, HR7⟩
      case round =>
        clear HR7
        obtain ⟨k, hk, rfl, rfl, px, cx, py, cy, HR⟩ := hrel
        obtain ⟨wo, rfl⟩ : ∃ wo, wo = wr := ⟨_, rfl⟩
        have HCC := Lib.hid (HA.out _ HR.out.low)
        by_cases hk1 : k < C
        · have dk : decide ((k : Int) < (C : Int)) = true := by simp; omega
          have dk' : decide (k < C) = true := by simp; omega
          have hn := (Gf.rdN_le A r k).1
          have HE0 := Lib.hid (fun h : ¬ Gf.fnd (Gf.rdX A r k) r k (Gf.rdN A r k) < r => Gf.rd_none h)
          have HE1 := Lib.hid (fun h : Gf.fnd (Gf.rdX A r k) r k (Gf.rdN A r k) < r => Gf.rd_some h)
          have HV0 := Lib.hid (fun h : ¬ Gf.fnd (Gf.rdX A r k) r k (Gf.rdN A r k) < r => Gf.rdY_none (Y := B) h)
          have HV1 := Lib.hid (fun h : Gf.fnd (Gf.rdX A r k) r k (Gf.rdN A r k) < r => Gf.rdY_some (Y := B) h)
          have HLM := Lib.hid (HL.out.rdX r k)
          have HBM := Lib.hid (HBy.out.rdX HL.out r k)
          have HLV := Lib.hid (HLY.out.rdY (M := A) r k)
          have HBV := Lib.hid (HBY.out.rdY (M := A) HLY.out r k)
          generalize Gf.rdY A B r k = V at *
          generalize Gf.rdX A r k = M at *
          generalize Gf.rdN A r k = n at *
          go_wp2_with fail
          refine HCC.out.out.mono ?_
          rintro e w' ⟨rfl, rfl⟩
          clear HCC
          go_wp2_with fail
          go_loop [12] (fun i => ∃ t : Nat, (n ≤ t ∧ t ≤ r) ∧ i = .int .i64 t ∧ Hid (∀ i, n ≤ i → i < t → Gf.at0 (M i) k = 0)) (fun i => r - (intOf i).toNat)
          case atStart => exact ⟨n, ⟨Nat.le_refl _, hn⟩, rfl, fun i h1 h2 => absurd h2 (by omega)⟩
          case round =>
            obtain ⟨t, ⟨ht1, ht2⟩, rfl, HZ⟩ := hrel
            by_cases ht : t < r
            · obtain ⟨l1, l2, l3, l4, l5, l6⟩ := HR.out.gx.line HLM.out ht
              have hcell := (own_cell l3 (i := k) hk1).1
              rw [← at0_getD] at hcell
              have dt : decide ((t : Int) < (r : Int)) = true := by simp; omega
              have dt' : decide (t < r) = true := by simp; omega
              have HRW := Lib.hid l3
              clear l3
              by_cases h0 : Gf.at0 (M t) k = 0
              · rw [h0] at hcell
                have HZ2 := Lib.hid (show ∀ i, n ≤ i → i < t + 1 → Gf.at0 (M i) k = 0 from fun i h1 h2 => by
                  by_cases e : i = t
                  · rw [e]; exact h0
                  · exact HZ.out i h1 (by omega))
                clear h0
                go_wp2_with fail
                go_round
                case rel => exact ⟨t + 1, ⟨by omega, by omega⟩, by go_num, HZ2⟩
                case measure => simp [intOf]; omega
              · have hf : Gf.fnd M r k n = t := Gf.fnd_at ht1 ht (fun i h1 h2 => HZ.out i h1 h2) h0
                have HE := Lib.hid (HE1.out (by rw [hf]; exact ht))
                have HEV := Lib.hid (HV1.out (by rw [hf]; exact ht))
                rw [hf] at HE
                rw [hf] at HEV
                have hnr : n < r := by omega
                have x1 : (((Gf.at0 (M t) k : Nat) : Int) == 0) = false := by simp; omega
                have x2 : decide (Gf.at0 (M t) k = 0) = false := by simp; omega
                have hne2 : Gf.at0 (Gf.swp M n t n) k ≠ 0 := by
                  unfold Gf.swp
                  by_cases e : n = t
                  · rw [if_pos e]; rw [← e] at h0; exact h0
                  · rw [if_neg e, if_pos rfl]; exact h0
                have HNE := Lib.hid hne2
                have tn1 : ((t : Int) == (r : Int)) = false := by simp; omega
                have tn2 : decide (t = r) = false := by simp; omega
                obtain ⟨m1, m2, m3, m4, m5, m6⟩ := HR.out.gx.line HLM.out hnr
                clear h0 hf hne2 HE0 HE1 m3 HZ
                clear HV0 HV1
                generalize Gf.at0 (M t) k = z at *
                go_wp2_with fail
                obtain ⟨v', hv'⟩ := cell?_setCell_some (w := wo) (p := ⟨gx, t, none⟩) (x := .slice (some ⟨px n, 0, none⟩) C (cx n)) (q := ⟨gx, n, none⟩) (v := .slice (some ⟨px n, 0, none⟩) C (cx n)) m1
                go_region
                obtain ⟨W2, hW2⟩ : ∃ W2, W2 = ((wo.setCell ⟨gx, t, none⟩ (.slice (some ⟨px n, 0, none⟩) C (cx n))).setCell ⟨gx, n, none⟩ (.slice (some ⟨px t, 0, none⟩) C (cx t))).drew := ⟨_, rfl⟩
                have hgb := HR.out.gx.gl.1
                obtain ⟨px2, cx2, hS2⟩ := HR.out.swapX (w' := W2) (a := n) (b := t) HLM.out hnr ht (by rw [hW2]; rfl) (by rw [hW2]; exact (((Below.refl _ _).setCell (p := ⟨gx, t, none⟩) hgb _).setCell (p := ⟨gx, n, none⟩) hgb _).drew)
                rw [← hW2]
                have HS2 := Lib.hid hS2
                clear hW2 l1 l2 l4 l5 l6 m1 m2 m4 m5 m6 hv' HR hS2 hcell hgb HRW x1 x2 dt dt' tn1 tn2
                have HLM2 := Lib.hid (HLM.out.swp n t)
                have HBM2 := Lib.hid (HBM.out.swp n t)
                clear HLM HBM
                have HLV2 := Lib.hid (HLV.out.swp n t)
                have HBV2 := Lib.hid (HBV.out.swp n t)
                have HSV := Lib.hid (Eq.refl (Gf.swp V n t))
                generalize Gf.swp M n t = M2 at *
                have hx := byt_small HBM2.out n k
                have HINV := Lib.hid fun W => rinv_pos hx (by rw [← at0_getD]; exact HNE.out) W
                obtain ⟨l1, l2, l3, l4, l5, l6⟩ := HS2.out.gx.line HLM2.out hnr
                have hcell := (own_cell l3 (i := k) hk1).1
                have hil : Gf.inv ((M2 n).getD k 0) < 256 := Gf.inv_lt
                have HSC := Lib.hid fun q => rscale_any hil (show (W2.drewN q).ownsRow w.heap.size 5 1 (.slice (some ⟨px2 n, 0, none⟩) C (cx2 n)) C (bs (M2 n)) from l3) (byt_small HBM2.out n) (by omega)
                have HSC0 := Lib.hid (rscale_any hil l3 (byt_small HBM2.out n) (by omega))
                have HIV := Lib.hid (show Gf.inv (Gf.at0 (M2 n) k) = Gf.inv ((M2 n).getD k 0) by rw [at0_getD])
                clear l3
                generalize Gf.inv ((M2 n).getD k 0) = iv at *
                generalize (M2 n).getD k 0 = x at *
                go_wp2_with fail
                refine (HINV.out _).mono ?_
                rintro e w' ⟨rfl, rfl⟩
                clear HINV
                go_wp2_with fail
                refine HSC0.out.mono ?_
                rintro e w4 ⟨⟨v4, rfl⟩, ho4, hO4⟩
                have hS4 := HS2.out.turnX (l := Gf.sc iv (M2 n)) hnr hO4 (Gf.sc_len _ _) (by rw [HLM2.out n]; exact ho4)
                have HS4 := Lib.hid hS4
                clear hS4 ho4 hO4 HSC HSC0 HS2 l1 l2 l4 l5 l6 hcell
                obtain ⟨l1, l2, l3, l4, l5, l6⟩ := HS4.out.gy.line HLV.out ht
                obtain ⟨m1, m2, m3, m4, m5, m6⟩ := HS4.out.gy.line HLV.out hnr
                clear l3 m3
                go_wp2_with fail
                obtain ⟨v', hv'⟩ := cell?_setCell_some (w := w4) (p := ⟨gy, t, none⟩) (x := .slice (some ⟨py n, 0, none⟩) D (cy n)) (q := ⟨gy, n, none⟩) (v := .slice (some ⟨py n, 0, none⟩) D (cy n)) m1
                go_region
                obtain ⟨W5, hW5⟩ : ∃ W5, W5 = ((w4.setCell ⟨gy, t, none⟩ (.slice (some ⟨py n, 0, none⟩) D (cy n))).setCell ⟨gy, n, none⟩ (.slice (some ⟨py t, 0, none⟩) D (cy t))).drew := ⟨_, rfl⟩
                have hgb := HS4.out.gy.gl.1
                obtain ⟨py2, cy2, hS5⟩ := HS4.out.symm.swapX (w' := W5) (a := n) (b := t) HLV.out hnr ht (by rw [hW5]; rfl) (by rw [hW5]; exact (((Below.refl _ _).setCell (p := ⟨gy, t, none⟩) hgb _).setCell (p := ⟨gy, n, none⟩) hgb _).drew)
                rw [← hW5]
                have HS5 := Lib.hid hS5.symm
                clear hW5 l1 l2 l4 l5 l6 m1 m2 m4 m5 m6 hv' HS4 hS5 hgb HLV HBV HSV
                generalize Gf.swp V n t = V2 at *
                obtain ⟨l1, l2, l3, l4, l5, l6⟩ := HS5.out.gy.line HLV2.out hnr
                have HSC0 := Lib.hid (rscale_any hil l3 (byt_small HBV2.out n) (by omega))
                clear l3
                go_wp2_with fail
                refine HSC0.out.mono ?_
                rintro e w6 ⟨⟨v6, rfl⟩, ho6, hO6⟩
                have HS6 := Lib.hid ((HS5.out.turnY (l := Gf.sc iv (V2 n)) hnr hO6 (Gf.sc_len _ _) (by rw [HLV2.out n]; exact ho6)).congr (Z := elToY M2 M2 n k 0) (V := elToY M2 V2 n k 0) (fun j _ => by
                  unfold elToY
                  rw [HIV.out]
                  split
                  · rfl
                  · rw [if_neg (Nat.not_lt_zero _)]) fun j _ => by
                  unfold elToY
                  rw [HIV.out]
                  split
                  · rfl
                  · rw [if_neg (Nat.not_lt_zero _)])
                clear ho6 hO6 HSC0 HS5 l1 l2 l4 l5 l6 HIV
                go_wp2_with fail
                go_loopw [15] (fun i wr => ∃ u : Nat, u ≤ r ∧ i = .int .i64 u ∧ Hid (Red w (.slice (some ⟨gx, 0, none⟩) r xd) (.slice (some ⟨gy, 0, none⟩) r yd) r r px2 cx2 py2 cy2 (elToY M2 M2 n k u) (elToY M2 V2 n k u) wr)) (fun i _ => r - (intOf i).toNat)
                case atStart => exact ⟨0, Nat.zero_le _, rfl, HS6⟩
                case round =>
                  clear HS6
                  obtain ⟨u, hu, rfl, HS⟩ := hrel
                  by_cases hu1 : u < r
                  · have HLE := Lib.hid (elToY_long (M := M2) (n := n) (k := k) (r := u) HLM2.out)
                    have HBE := Lib.hid (elToY_byt (M := M2) (n := n) (k := k) (r := u) HLM2.out HBM2.out)
                    obtain ⟨l1, l2, l3, l4, l5, l6⟩ := HS.out.gx.line HLE.out hu1
                    have hcell := (own_cell l3 (i := k) hk1).1
                    by_cases hun : u = n
                    · subst hun
                      have HS5 := Lib.hid (show Red w (.slice (some ⟨gx, 0, none⟩) r xd) (.slice (some ⟨gy, 0, none⟩) r yd) r r px2 cx2 py2 cy2 (elToY M2 M2 u k (u + 1)) (elToY M2 V2 u k (u + 1)) wr by rw [← elToY_self]; rw [← elToY_self (Y := V2)]; exact HS.out)
                      have q1 : ((u : Int) == (u : Int)) = true := by simp
                      clear l3
                      generalize (elToY M2 M2 u k u u).getD k 0 = y at *
                      go_wp2_with fail
                      go_roundw
                      case rel => exact ⟨u + 1, by omega, by go_num, HS5⟩
                      case measure => simp [intOf]; omega
                    · have q1 : ((u : Int) == (n : Int)) = false := by simp; omega
                      have q2 : decide (u = n) = false := by simp; omega
                      have HEQ := Lib.hid (show (elToY M2 M2 n k u u).getD k 0 = Gf.at0 (M2 u) k by
                        unfold elToY
                        rw [if_neg hun, if_neg (Nat.lt_irrefl u), at0_getD])
                      by_cases hy0 : Gf.at0 (M2 u) k = 0
                      · have HS5 := Lib.hid (show Red w (.slice (some ⟨gx, 0, none⟩) r xd) (.slice (some ⟨gy, 0, none⟩) r yd) r r px2 cx2 py2 cy2 (elToY M2 M2 n k (u + 1)) (elToY M2 V2 n k (u + 1)) wr by rw [← elToY_none HLM2.out hy0]; rw [← elToY_none HLV2.out hy0]; exact HS.out)
                        rw [HEQ.out, hy0] at hcell
                        clear l3 hy0
                        go_wp2_with fail
                        go_roundw
                        case rel => exact ⟨u + 1, by omega, by go_num, HS5⟩
                        case measure => simp [intOf]; omega
                      · have z1 : (((Gf.at0 (M2 u) k : Nat) : Int) == 0) = false := by simp; omega
                        have z2 : decide (Gf.at0 (M2 u) k = 0) = false := by simp; omega
                        rw [HEQ.out] at hcell
                        obtain ⟨m1, m2, m3, m4, m5, m6⟩ := HS.out.gx.line HLE.out hnr
                        have hpp : px2 n ≠ px2 u := fun e => hun (HS.out.gx.inj n u hnr hu1 e).symm
                        have hb256 : Gf.at0 (M2 u) k < 256 := HBM2.out u k
                        have hadd : ∀ q, Hid (Calls Try.prog 130 #[.slice (some ⟨px2 u, 0, none⟩) C (cx2 u), .slice (some ⟨px2 n, 0, none⟩) C (cx2 n), .int .u8 (Gf.at0 (M2 u) k : Nat)] (wr.drewN q) fun e w' => (∃ v, e = .returned v) ∧ w'.ownsRow w.heap.size 5 1 (.slice (some ⟨px2 u, 0, none⟩) C (cx2 u)) C (bs (Gf.ad (Gf.at0 (M2 u) k) (elToY M2 M2 n k u u) (elToY M2 M2 n k u n))) ∧ Only (px2 u) (wr.drewN q) w') := fun q =>
                          raddr_any hb256 l3 (byt_small HBE.out u) ((own_rb2 m3 (byt_small HBE.out n) (by omega)).drewN q) (fun _ b off e => by injection e with e; injection e with e; rw [← e]; exact hpp) (by omega)
                        have hst : ∀ q w5, w5.ownsRow w.heap.size 5 1 (.slice (some ⟨px2 u, 0, none⟩) C (cx2 u)) C (bs (Gf.ad (Gf.at0 (M2 u) k) (elToY M2 M2 n k u u) (elToY M2 M2 n k u n))) → Only (px2 u) (wr.drewN q) w5 → Hid (Red w (.slice (some ⟨gx, 0, none⟩) r xd) (.slice (some ⟨gy, 0, none⟩) r yd) r r px2 cx2 py2 cy2 (elToY M2 M2 n k (u + 1)) (elToY M2 V2 n k u) w5) := fun q w5 h5 h6 =>
                          ((HS.out.drewN q).turnX (l := Gf.ad (Gf.at0 (M2 u) k) (elToY M2 M2 n k u u) (elToY M2 M2 n k u n)) hu1 h6 (by rw [Gf.ad_len (by rw [HLE.out u, HLE.out n])]) (by rw [HLE.out u]; exact h5)).congr (fun j _ => elToY_put hun j) fun _ _ => rfl
                        have HADD := Lib.hid hadd
                        have HSTP := Lib.hid hst
                        clear hadd hst l3 m3 hpp HS hy0 HEQ
                        generalize hye : Gf.at0 (M2 u) k = y at *
                        have HYE := Lib.hid hye
                        clear hye
                        go_wp2_with fail
                        refine region_quiet_tail 9 (by kernel_rfl) (by kernel_rfl) ?_
                        simp only [List.take_succ_cons, List.take_zero, List.drop_succ_cons, List.drop_zero]
                        repeat (go_big_quiet_step (fail))
                        refine wpQuiet_nil ?_
                        intro _ hw'
                        obtain ⟨nq, rfl⟩ := hw'
                        go_wp2_with (go_at_call 130; ((with_reducible refine (HADD.out _).out.mono ?_); rintro e w5 ⟨⟨v5, rfl⟩, ho5, hO5⟩; have HS5 := HSTP.out _ _ ho5 hO5; clear ho5 hO5))
                        obtain ⟨b1, b2, b3, b4, b5, b6⟩ := HS5.out.gy.line (elToY_long (M := M2) (n := n) (k := k) (r := u) HLV2.out) hu1
                        obtain ⟨d1, d2, d3, d4, d5, d6⟩ := HS5.out.gy.line (elToY_long (M := M2) (n := n) (k := k) (r := u) HLV2.out) hnr
                        have HLF := Lib.hid (elToY_long (M := M2) (n := n) (k := k) (r := u) HLV2.out)
                        have HBF := Lib.hid (elToY_byt (M := M2) (n := n) (k := k) (r := u) HLV2.out HBV2.out)
                        have hpp : py2 n ≠ py2 u := fun e => hun (HS5.out.gy.inj n u hnr hu1 e).symm
                        have hadd : ∀ q, Hid (Calls Try.prog 130 #[.slice (some ⟨py2 u, 0, none⟩) D (cy2 u), .slice (some ⟨py2 n, 0, none⟩) D (cy2 n), .int .u8 (y : Nat)] (w5.drewN q) fun e w' => (∃ v, e = .returned v) ∧ w'.ownsRow w.heap.size 5 1 (.slice (some ⟨py2 u, 0, none⟩) D (cy2 u)) D (bs (Gf.ad y (elToY M2 V2 n k u u) (elToY M2 V2 n k u n))) ∧ Only (py2 u) (w5.drewN q) w') := fun q =>
                          raddr_any hb256 b3 (byt_small HBF.out u) ((own_rb2 d3 (byt_small HBF.out n) (by omega)).drewN q) (fun _ b off e => by injection e with e; injection e with e; rw [← e]; exact hpp) (by omega)
                        have hst : ∀ q w7, w7.ownsRow w.heap.size 5 1 (.slice (some ⟨py2 u, 0, none⟩) D (cy2 u)) D (bs (Gf.ad y (elToY M2 V2 n k u u) (elToY M2 V2 n k u n))) → Only (py2 u) (w5.drewN q) w7 → Hid (Red w (.slice (some ⟨gx, 0, none⟩) r xd) (.slice (some ⟨gy, 0, none⟩) r yd) r r px2 cx2 py2 cy2 (elToY M2 M2 n k (u + 1)) (elToY M2 V2 n k (u + 1)) w7) := fun q w7 h5 h6 =>
                          ((HS5.out.drewN q).turnY (l := Gf.ad y (elToY M2 V2 n k u u) (elToY M2 V2 n k u n)) hu1 h6 (by rw [Gf.ad_len (by rw [HLF.out u, HLF.out n])]) (by rw [HLF.out u]; exact h5)).congr (fun _ _ => rfl) fun j _ => by rw [← HYE.out]; exact elToY_put hun j
                        have HADD2 := Lib.hid hadd
                        have HSTP2 := Lib.hid hst
                        clear hadd hst b3 d3 hpp HS5 HADD HSTP l1 l2 l4 l5 l6 m1 m2 m4 m5 m6 hcell
                        go_wp2_with fail
                        refine region_quiet_tail 9 (by kernel_rfl) (by kernel_rfl) ?_
                        simp only [List.take_succ_cons, List.take_zero, List.drop_succ_cons, List.drop_zero]
                        repeat (go_big_quiet_step (fail))
                        refine wpQuiet_nil ?_
                        intro _ hw'
                        obtain ⟨nq2, rfl⟩ := hw'
                        go_wp2_with (go_at_call 130; ((with_reducible refine (HADD2.out _).out.mono ?_); rintro e w7 ⟨⟨v7, rfl⟩, ho7, hO7⟩; have HS7 := HSTP2.out _ _ ho7 hO7; clear ho7 hO7))
                        go_roundw
                        case rel => exact ⟨u + 1, by omega, by go_num, HS7⟩
                        case measure => simp [intOf]; omega
                  · obtain rfl : u = r := by omega
                    have hfin : Gf.rdN A u (k + 1) = n + 1 ∧ Hid (Red w (.slice (some ⟨gx, 0, none⟩) u xd) (.slice (some ⟨gy, 0, none⟩) u yd) u u px2 cx2 py2 cy2 (Gf.rdX A u (k + 1)) (Gf.rdY A B u (k + 1)) wr) := ⟨HE.out.1, HS.out.congr (fun j hj => by
                      rw [HE.out.2]
                      unfold elToY Gf.elim Gf.elimB
                      by_cases e : j = n
                      · rw [if_pos e, if_pos e]
                      · rw [if_neg e, if_neg e, if_pos hj]) fun j hj => by
                      rw [HEV.out]
                      unfold elToY Gf.elimB
                      by_cases e : j = n
                      · rw [if_pos e, if_pos e]
                      · rw [if_neg e, if_neg e, if_pos hj]⟩
                    have HFN := Lib.hid hfin
                    clear hfin HS
                    go_wp2_with fail
                    go_roundw
                    case rel => exact ⟨k + 1, by omega, by go_num, by rw [HFN.out.1]; go_num, px2, cx2, _, _, HFN.out.2⟩
                    case measure => simp [intOf]; omega
            · obtain rfl : t = r := by omega
              have dt : decide ((t : Int) < (t : Int)) = false := by simp
              have hnf : ¬ Gf.fnd M t k n < t := by
                have := Gf.fnd_none (M := M) (c := k) hn (fun i h1 h2 => HZ.out i h1 h2)
                omega
              have HFN := Lib.hid (HE0.out hnf)
              have HFV := Lib.hid (HV0.out hnf)
              have tn1 : ((t : Int) == (t : Int)) = true := by simp
              clear HE0 HE1 hnf HZ
              go_wp2_with fail
              go_roundw
              case rel => exact ⟨k + 1, by omega, by go_num, by rw [HFN.out.1], px, cx, py, cy, by rw [HFN.out.2, HFV.out]; exact HR⟩
              case measure => simp [intOf]; omega
        · obtain rfl : k = C := by omega
          have dk : decide ((k : Int) < (k : Int)) = false := by simp
          go_wp2_with fail
          refine HCC.out.out.mono ?_
          rintro e w' ⟨rfl, rfl⟩
          go_wp2_with fail
          go_ret3
          exact ⟨⟨_, _, _, rfl, _, _, HR.out.gy⟩, HR.out.low⟩

set_option maxHeartbeats 16000000 in
set_option maxRecDepth 100000 in
theorem reduced_nil {w : World} {a : Option Addr} {N C c : Nat} {X : Nat → List Nat} (hN0 : 0 < N) (hN : N ≤ 255) (hC : C ≤ 255) (h : RR w (.slice a N c) N X) (hlx : ∀ i, i < N → (X i).length = C) (hcx : colsX N X = C) :
    Calls Try.prog 108 #[.slice a N c, .slice none 0 0] w fun e w' => (∃ vx vy, e = .returned (.tuple #[vx, vy, .int .i64 (Gf.rdN (cut N X C) N C : Nat)])) ∧ Below w.heap.size w w' := by
  have hA : ∀ W, Below w.heap.size w W → Hid (Calls Try.prog 105 #[.slice a N c] W fun e w' => e = .returned (.int .i64 (C : Nat)) ∧ W = w') := fun W hW => by
    have := columns_any (by omega) (h.below hW)
    rw [hcx] at this
    exact this
  have HA := Lib.hid hA
  have hBc : ∀ W, Hid (Calls Try.prog 105 #[.slice none (0 : Nat) 0] W fun e w' => e = .returned (.int .i64 (0 : Nat)) ∧ W = w') := fun W => columns_any (X := fun _ => []) (by omega) ⟨none, 0, rfl, fun k hk => absurd hk (by omega)⟩
  have HBc := Lib.hid hBc
  have HX := Lib.hid h
  have HL := Lib.hid (cut_long hlx)
  have HBy := Lib.hid (cut_byt (W := C) h.small)
  have HLX := Lib.hid hlx
  have HCA := Lib.hid fun i (hi : i < N) => (cut_at (W := C) (X := X) hi)
  clear hA hBc h hlx hcx
  generalize cut N X C = A at *
  have n1 : ((N : Int) == 0) = false := by simp; omega
  have n2 : decide ((0 : Int) < (N : Int)) = true := by simp; omega
  have n3 : decide (0 < N) = true := by simp; omega
  go_enter Try.func108, Try.ntmps108
  go_wp2_with fail
  refine (HA.out w (Below.refl _ _)).out.mono ?_
  rintro e w' ⟨rfl, rfl⟩
  go_wp2_with fail
  refine (zeros_any (by omega) (by omega)).mono ?_
  rintro e w1 ⟨vx, px, cx, rfl, hGx, hB1, hdx⟩
  obtain ⟨xa, xd, rfl⟩ := hGx.slice
  obtain ⟨gx, rfl⟩ := hGx.head hN0
  have HGx := Lib.hid hGx
  have HB1 := Lib.hid hB1
  have HDX := Lib.hid hdx
  clear hGx hB1 hdx
  go_wp2_with fail
  refine (HBc.out w1).out.mono ?_
  rintro e w' ⟨rfl, rfl⟩
  go_wp2_with fail
  refine (zeros_any (N := 0) (C := 0) (by omega) (by omega)).mono ?_
  rintro e w2 ⟨vy, py, cy, rfl, hGy, hB2, hdy⟩
  obtain ⟨ya, yd, rfl⟩ := hGy.slice
  have hls : Unl (.slice (some ⟨gx, 0, none⟩) N xd) (.slice ya 0 yd) := fun g' e1 e2 => by
    have h1 : some gx = some g' := e1
    injection h1 with h1
    obtain ⟨vs, hv, _⟩ := hGy.own
    have h3 := (own_lt hv e2).1
    have h4 := HGx.out.gl.2
    omega
  have HR0 := Lib.hid (Red.mk (w0 := w) (X := cpTo A C 0) (Y := fun _ => List.replicate 0 0) ((HGx.out.below hB2).congr fun i _ => if_neg (Nat.not_lt_zero i)) ((hGy.mono HB1.out.size).congr fun i _ => rfl) (fun i j hi hj e => by
    have h1 := HGx.out.rowlt hi
    have h2 := (own_blk (hGy.row j hj)).1
    omega) hls (HB1.out.trans (hB2.mono HB1.out.size)))
  clear hGy hB2 hdy hls HGx HB1 HBc
  go_wp2_with fail
  go_loopw [9] (fun i wr => ∃ r : Nat, r ≤ N ∧ i = .int .i64 r ∧ Hid (Red w (.slice (some ⟨gx, 0, none⟩) N xd) (.slice ya 0 yd) N 0 px cx py cy (cpTo A C r) (fun _ => List.replicate 0 0) wr)) (fun i _ => N - (intOf i).toNat)
  case atStart => exact ⟨0, Nat.zero_le _, rfl, HR0⟩
  case round =>
    clear HR0
    obtain ⟨r, hr, rfl, HR⟩ := hrel
    by_cases hr1 : r < N
    · obtain ⟨a', c', e, hX⟩ := (HX.out.below HR.out.low).shape
      injection e with e1 e2 e3
      subst e1; subst e3; clear e2
      obtain ⟨b1, o1, a1, m1, c1, rfl, hc1, hr1'⟩ := hX r hr1
      have hm1 : m1 = C := by rw [← hr1'.len]; exact HLX.out r hr1
      subst hm1
      obtain ⟨l1, l2, l3, l4, l5, l6⟩ := HR.out.gx.line (cpTo_long HL.out) hr1
      rw [HDX.out r hr1] at l1 l3
      have e0 : cpTo A m1 r r = List.replicate m1 0 := if_neg (Nat.lt_irrefl r)
      rw [e0] at l3
      have HF := Lib.hid (full_row l3)
      have HR1 := Lib.hid hr1'
      have hst : ∀ q w5, w5.heap[px r]? = some (.cells (bs (X r)).toArray 5 (0, 0)) → Only (px r) (wr.drewN q) w5 → Red w (.slice (some ⟨gx, 0, none⟩) N xd) (.slice ya 0 yd) N 0 px cx py cy (cpTo A m1 (r + 1)) (fun _ => List.replicate 0 0) w5 := fun q w5 h5 h6 => by
        refine ((HR.out.drewN q).turnX (l := X r) hr1 h6 (by rw [HLX.out r hr1, cpTo_long HL.out r]) ?_).congr (fun j _ => ?_) fun _ _ => rfl
        · rw [cpTo_long HL.out r, HDX.out r hr1]
          exact own_full h5 (HLX.out r hr1) (by unfold maxLen; omega) (own_blk l3).1
        · unfold cpTo
          by_cases e : j = r
          · subst e; rw [if_pos (by omega), if_pos rfl, HCA.out j hr1]
          · rw [if_neg e]
            by_cases e2 : j < r
            · rw [if_pos e2, if_pos (by omega)]
            · rw [if_neg e2, if_neg (by omega)]
      have HST := Lib.hid hst
      clear hX hr1' l3 e0 hst HR
      go_wp2_with fail
      refine region_quiet_tail 8 (by kernel_rfl) (by kernel_rfl) ?_
      simp only [List.take_succ_cons, List.take_zero, List.drop_succ_cons, List.drop_zero]
      repeat (go_big_quiet_step (fail))
      refine wpQuiet_nil ?_
      intro _ hw'
      obtain ⟨nq, rfl⟩ := hw'
      go_wp2_with (refine wpList_copy_only rfl (.tmp 36) (.tmp 40) rfl rfl rfl HF.out (by rw [List.length_replicate]) (HR1.out.drewN nq) ?_)
      intro w5 hh5 hO5
      have HR5 := Lib.hid (HST.out nq w5 hh5.out hO5)
      clear hh5 hO5 HST HF HR1 hc1 l1 l2 l4 l5 l6
      have q9 : decide ((r : Int) < 0) = false := by simp
      go_wp2_with fail
      go_roundw
      case rel => exact ⟨r + 1, by omega, by go_num, HR5⟩
      case measure => simp [intOf]; omega
    · obtain rfl : r = N := by omega
      have HR7 := Lib.hid (HR.out.congr (Z := Gf.rdX A r 0) (V := fun _ => []) (fun i hi => (if_pos hi).symm) fun i hi => absurd hi (Nat.not_lt_zero _))
      clear HR HDX HCA HLX HX
      go_wp2_with fail
      go_loopw [10, 11] (fun n i wr => ∃ k : Nat, k ≤ C ∧ i = .int .i64 k ∧ n = .int .i64 (Gf.rdN A r k : Nat) ∧ ∃ px cx py cy, Hid (Red w (.slice (some ⟨gx, 0, none⟩) r xd) (.slice ya 0 yd) r 0 px cx py cy (Gf.rdX A r k) (fun _ => []) wr)) (fun _ i _ => C - (intOf i).toNat)
      case atStart => exact ⟨0, Nat.zero_le _, rfl, rfl, _, _, _, _, HR7⟩
      case round =>
        clear HR7
        obtain ⟨k, hk, rfl, rfl, px, cx, py, cy, HR⟩ := hrel
        obtain ⟨wo, rfl⟩ : ∃ wo, wo = wr := ⟨_, rfl⟩
        have HCC := Lib.hid (HA.out _ HR.out.low)
        by_cases hk1 : k < C
        · have dk : decide ((k : Int) < (C : Int)) = true := by simp; omega
          have dk' : decide (k < C) = true := by simp; omega
          have hn := (Gf.rdN_le A r k).1
          have HE0 := Lib.hid (fun h : ¬ Gf.fnd (Gf.rdX A r k) r k (Gf.rdN A r k) < r => Gf.rd_none h)
          have HE1 := Lib.hid (fun h : Gf.fnd (Gf.rdX A r k) r k (Gf.rdN A r k) < r => Gf.rd_some h)
          have HLM := Lib.hid (HL.out.rdX r k)
          have HBM := Lib.hid (HBy.out.rdX HL.out r k)
          generalize Gf.rdX A r k = M at *
          generalize Gf.rdN A r k = n at *
          go_wp2_with fail
          refine HCC.out.out.mono ?_
          rintro e w' ⟨rfl, rfl⟩
          clear HCC
          go_wp2_with fail
          go_loop [12] (fun i => ∃ t : Nat, (n ≤ t ∧ t ≤ r) ∧ i = .int .i64 t ∧ Hid (∀ i, n ≤ i → i < t → Gf.at0 (M i) k = 0)) (fun i => r - (intOf i).toNat)
          case atStart => exact ⟨n, ⟨Nat.le_refl _, hn⟩, rfl, fun i h1 h2 => absurd h2 (by omega)⟩
          case round =>
            obtain ⟨t, ⟨ht1, ht2⟩, rfl, HZ⟩ := hrel
            by_cases ht : t < r
            · obtain ⟨l1, l2, l3, l4, l5, l6⟩ := HR.out.gx.line HLM.out ht
              have hcell := (own_cell l3 (i := k) hk1).1
              rw [← at0_getD] at hcell
              have dt : decide ((t : Int) < (r : Int)) = true := by simp; omega
              have dt' : decide (t < r) = true := by simp; omega
              have HRW := Lib.hid l3
              clear l3
              by_cases h0 : Gf.at0 (M t) k = 0
              · rw [h0] at hcell
                have HZ2 := Lib.hid (show ∀ i, n ≤ i → i < t + 1 → Gf.at0 (M i) k = 0 from fun i h1 h2 => by
                  by_cases e : i = t
                  · rw [e]; exact h0
                  · exact HZ.out i h1 (by omega))
                clear h0
                go_wp2_with fail
                go_round
                case rel => exact ⟨t + 1, ⟨by omega, by omega⟩, by go_num, HZ2⟩
                case measure => simp [intOf]; omega
              · have hf : Gf.fnd M r k n = t := Gf.fnd_at ht1 ht (fun i h1 h2 => HZ.out i h1 h2) h0
                have HE := Lib.hid (HE1.out (by rw [hf]; exact ht))
                rw [hf] at HE
                have hnr : n < r := by omega
                have x1 : (((Gf.at0 (M t) k : Nat) : Int) == 0) = false := by simp; omega
                have x2 : decide (Gf.at0 (M t) k = 0) = false := by simp; omega
                have hne2 : Gf.at0 (Gf.swp M n t n) k ≠ 0 := by
                  unfold Gf.swp
                  by_cases e : n = t
                  · rw [if_pos e]; rw [← e] at h0; exact h0
                  · rw [if_neg e, if_pos rfl]; exact h0
                have HNE := Lib.hid hne2
                have tn1 : ((t : Int) == (r : Int)) = false := by simp; omega
                have tn2 : decide (t = r) = false := by simp; omega
                obtain ⟨m1, m2, m3, m4, m5, m6⟩ := HR.out.gx.line HLM.out hnr
                clear h0 hf hne2 HE0 HE1 m3 HZ
                generalize Gf.at0 (M t) k = z at *
                go_wp2_with fail
                obtain ⟨v', hv'⟩ := cell?_setCell_some (w := wo) (p := ⟨gx, t, none⟩) (x := .slice (some ⟨px n, 0, none⟩) C (cx n)) (q := ⟨gx, n, none⟩) (v := .slice (some ⟨px n, 0, none⟩) C (cx n)) m1
                go_region
                obtain ⟨W2, hW2⟩ : ∃ W2, W2 = ((wo.setCell ⟨gx, t, none⟩ (.slice (some ⟨px n, 0, none⟩) C (cx n))).setCell ⟨gx, n, none⟩ (.slice (some ⟨px t, 0, none⟩) C (cx t))).drew := ⟨_, rfl⟩
                have hgb := HR.out.gx.gl.1
                obtain ⟨px2, cx2, hS2⟩ := HR.out.swapX (w' := W2) (a := n) (b := t) HLM.out hnr ht (by rw [hW2]; rfl) (by rw [hW2]; exact (((Below.refl _ _).setCell (p := ⟨gx, t, none⟩) hgb _).setCell (p := ⟨gx, n, none⟩) hgb _).drew)
                rw [← hW2]
                have HS2 := Lib.hid hS2
                clear hW2 l1 l2 l4 l5 l6 m1 m2 m4 m5 m6 hv' HR hS2 hcell hgb HRW x1 x2 dt dt' tn1 tn2
                have HLM2 := Lib.hid (HLM.out.swp n t)
                have HBM2 := Lib.hid (HBM.out.swp n t)
                clear HLM HBM
                generalize Gf.swp M n t = M2 at *
                have hx := byt_small HBM2.out n k
                have HINV := Lib.hid fun W => rinv_pos hx (by rw [← at0_getD]; exact HNE.out) W
                obtain ⟨l1, l2, l3, l4, l5, l6⟩ := HS2.out.gx.line HLM2.out hnr
                have hcell := (own_cell l3 (i := k) hk1).1
                have hil : Gf.inv ((M2 n).getD k 0) < 256 := Gf.inv_lt
                have HSC := Lib.hid fun q => rscale_any hil (show (W2.drewN q).ownsRow w.heap.size 5 1 (.slice (some ⟨px2 n, 0, none⟩) C (cx2 n)) C (bs (M2 n)) from l3) (byt_small HBM2.out n) (by omega)
                have HSC0 := Lib.hid (rscale_any hil l3 (byt_small HBM2.out n) (by omega))
                have HIV := Lib.hid (show Gf.inv (Gf.at0 (M2 n) k) = Gf.inv ((M2 n).getD k 0) by rw [at0_getD])
                clear l3
                generalize Gf.inv ((M2 n).getD k 0) = iv at *
                generalize (M2 n).getD k 0 = x at *
                go_wp2_with fail
                refine (HINV.out _).mono ?_
                rintro e w' ⟨rfl, rfl⟩
                clear HINV
                go_wp2_with fail
                refine HSC0.out.mono ?_
                rintro e w4 ⟨⟨v4, rfl⟩, ho4, hO4⟩
                have hS4 := HS2.out.turnX (l := Gf.sc iv (M2 n)) hnr hO4 (Gf.sc_len _ _) (by rw [HLM2.out n]; exact ho4)
                have HS4 := Lib.hid hS4
                clear hS4 ho4 hO4 HSC HSC0 HS2 l1 l2 l4 l5 l6 hcell
                have HS6 := Lib.hid (HS4.out.congr (Z := elToY M2 M2 n k 0) (V := fun _ => []) (fun j _ => by
                  unfold elToY
                  rw [HIV.out]
                  split
                  · rfl
                  · rw [if_neg (Nat.not_lt_zero _)]) fun _ hj => absurd hj (Nat.not_lt_zero _))
                clear HS4 HIV
                have q8 : decide ((0 : Int) < 0) = false := rfl
                go_wp2_with fail
                go_loopw [15] (fun i wr => ∃ u : Nat, u ≤ r ∧ i = .int .i64 u ∧ Hid (Red w (.slice (some ⟨gx, 0, none⟩) r xd) (.slice ya 0 yd) r 0 px2 cx2 py cy (elToY M2 M2 n k u) (fun _ => []) wr)) (fun i _ => r - (intOf i).toNat)
                case atStart => exact ⟨0, Nat.zero_le _, rfl, HS6⟩
                case round =>
                  clear HS6
                  obtain ⟨u, hu, rfl, HS⟩ := hrel
                  by_cases hu1 : u < r
                  · have HLE := Lib.hid (elToY_long (M := M2) (n := n) (k := k) (r := u) HLM2.out)
                    have HBE := Lib.hid (elToY_byt (M := M2) (n := n) (k := k) (r := u) HLM2.out HBM2.out)
                    obtain ⟨l1, l2, l3, l4, l5, l6⟩ := HS.out.gx.line HLE.out hu1
                    have hcell := (own_cell l3 (i := k) hk1).1
                    by_cases hun : u = n
                    · subst hun
                      have HS5 := Lib.hid (show Red w (.slice (some ⟨gx, 0, none⟩) r xd) (.slice ya 0 yd) r 0 px2 cx2 py cy (elToY M2 M2 u k (u + 1)) (fun _ => []) wr by rw [← elToY_self]; exact HS.out)
                      have q1 : ((u : Int) == (u : Int)) = true := by simp
                      clear l3
                      generalize (elToY M2 M2 u k u u).getD k 0 = y at *
                      go_wp2_with fail
                      go_roundw
                      case rel => exact ⟨u + 1, by omega, by go_num, HS5⟩
                      case measure => simp [intOf]; omega
                    · have q1 : ((u : Int) == (n : Int)) = false := by simp; omega
                      have q2 : decide (u = n) = false := by simp; omega
                      have HEQ := Lib.hid (show (elToY M2 M2 n k u u).getD k 0 = Gf.at0 (M2 u) k by
                        unfold elToY
                        rw [if_neg hun, if_neg (Nat.lt_irrefl u), at0_getD])
                      by_cases hy0 : Gf.at0 (M2 u) k = 0
                      · have HS5 := Lib.hid (show Red w (.slice (some ⟨gx, 0, none⟩) r xd) (.slice ya 0 yd) r 0 px2 cx2 py cy (elToY M2 M2 n k (u + 1)) (fun _ => []) wr by rw [← elToY_none HLM2.out hy0]; exact HS.out)
                        rw [HEQ.out, hy0] at hcell
                        clear l3 hy0
                        go_wp2_with fail
                        go_roundw
                        case rel => exact ⟨u + 1, by omega, by go_num, HS5⟩
                        case measure => simp [intOf]; omega
                      · have z1 : (((Gf.at0 (M2 u) k : Nat) : Int) == 0) = false := by simp; omega
                        have z2 : decide (Gf.at0 (M2 u) k = 0) = false := by simp; omega
                        rw [HEQ.out] at hcell
                        obtain ⟨m1, m2, m3, m4, m5, m6⟩ := HS.out.gx.line HLE.out hnr
                        have hpp : px2 n ≠ px2 u := fun e => hun (HS.out.gx.inj n u hnr hu1 e).symm
                        have hb256 : Gf.at0 (M2 u) k < 256 := HBM2.out u k
                        have hadd : ∀ q, Hid (Calls Try.prog 130 #[.slice (some ⟨px2 u, 0, none⟩) C (cx2 u), .slice (some ⟨px2 n, 0, none⟩) C (cx2 n), .int .u8 (Gf.at0 (M2 u) k : Nat)] (wr.drewN q) fun e w' => (∃ v, e = .returned v) ∧ w'.ownsRow w.heap.size 5 1 (.slice (some ⟨px2 u, 0, none⟩) C (cx2 u)) C (bs (Gf.ad (Gf.at0 (M2 u) k) (elToY M2 M2 n k u u) (elToY M2 M2 n k u n))) ∧ Only (px2 u) (wr.drewN q) w') := fun q =>
                          raddr_any hb256 l3 (byt_small HBE.out u) ((own_rb2 m3 (byt_small HBE.out n) (by omega)).drewN q) (fun _ b off e => by injection e with e; injection e with e; rw [← e]; exact hpp) (by omega)
                        have hst : ∀ q w5, w5.ownsRow w.heap.size 5 1 (.slice (some ⟨px2 u, 0, none⟩) C (cx2 u)) C (bs (Gf.ad (Gf.at0 (M2 u) k) (elToY M2 M2 n k u u) (elToY M2 M2 n k u n))) → Only (px2 u) (wr.drewN q) w5 → Hid (Red w (.slice (some ⟨gx, 0, none⟩) r xd) (.slice ya 0 yd) r 0 px2 cx2 py cy (elToY M2 M2 n k (u + 1)) (fun _ => []) w5) := fun q w5 h5 h6 =>
                          ((HS.out.drewN q).turnX (l := Gf.ad (Gf.at0 (M2 u) k) (elToY M2 M2 n k u u) (elToY M2 M2 n k u n)) hu1 h6 (by rw [Gf.ad_len (by rw [HLE.out u, HLE.out n])]) (by rw [HLE.out u]; exact h5)).congr (fun j _ => elToY_put hun j) fun _ _ => rfl
                        have HADD := Lib.hid hadd
                        have HSTP := Lib.hid hst
                        clear hadd hst l3 m3 hpp HS hy0 HEQ
                        generalize Gf.at0 (M2 u) k = y at *
                        go_wp2_with fail
                        refine region_quiet_tail 9 (by kernel_rfl) (by kernel_rfl) ?_
                        simp only [List.take_succ_cons, List.take_zero, List.drop_succ_cons, List.drop_zero]
                        repeat (go_big_quiet_step (fail))
                        refine wpQuiet_nil ?_
                        intro _ hw'
                        obtain ⟨nq, rfl⟩ := hw'
                        go_wp2_with (go_at_call 130; ((with_reducible refine (HADD.out _).out.mono ?_); rintro e w5 ⟨⟨v5, rfl⟩, ho5, hO5⟩; have HS5 := HSTP.out _ _ ho5 hO5; clear ho5 hO5))
                        go_roundw
                        case rel => exact ⟨u + 1, by omega, by go_num, HS5⟩
                        case measure => simp [intOf]; omega
                  · obtain rfl : u = r := by omega
                    have hfin : Gf.rdN A u (k + 1) = n + 1 ∧ Hid (Red w (.slice (some ⟨gx, 0, none⟩) u xd) (.slice ya 0 yd) u 0 px2 cx2 py cy (Gf.rdX A u (k + 1)) (fun _ => []) wr) := ⟨HE.out.1, HS.out.congr (fun j hj => by
                      rw [HE.out.2]
                      unfold elToY Gf.elim Gf.elimB
                      by_cases e : j = n
                      · rw [if_pos e, if_pos e]
                      · rw [if_neg e, if_neg e, if_pos hj]) fun _ hj => absurd hj (Nat.not_lt_zero _)⟩
                    have HFN := Lib.hid hfin
                    clear hfin HS
                    go_wp2_with fail
                    go_roundw
                    case rel => exact ⟨k + 1, by omega, by go_num, by rw [HFN.out.1]; go_num, px2, cx2, _, _, HFN.out.2⟩
                    case measure => simp [intOf]; omega
            · obtain rfl : t = r := by omega
              have dt : decide ((t : Int) < (t : Int)) = false := by simp
              have hnf : ¬ Gf.fnd M t k n < t := by
                have := Gf.fnd_none (M := M) (c := k) hn (fun i h1 h2 => HZ.out i h1 h2)
                omega
              have HFN := Lib.hid (HE0.out hnf)
              have tn1 : ((t : Int) == (t : Int)) = true := by simp
              clear HE0 HE1 hnf HZ
              go_wp2_with fail
              go_roundw
              case rel => exact ⟨k + 1, by omega, by go_num, by rw [HFN.out.1], px, cx, py, cy, by rw [HFN.out.2]; exact HR⟩
              case measure => simp [intOf]; omega
        · obtain rfl : k = C := by omega
          have dk : decide ((k : Int) < (k : Int)) = false := by simp
          go_wp2_with fail
          refine HCC.out.out.mono ?_
          rintro e w' ⟨rfl, rfl⟩
          go_wp2_with fail
          go_ret3
          exact ⟨⟨_, _, rfl⟩, HR.out.low⟩
end Go.Proofs.Ytokeoodkioobdaa

/- The walks of the reference's Inverse and Rank. Conditions: there are at most 100000 rows. -/
namespace Go.Proofs.Ytokeoodkioobdaa
open Go.RowKit

theorem rank_is0 {N : Nat} {X : Nat → List Nat} (h : isM N X) : rankX N X = Gf.rdN (cut N X (colsX N X)) N (colsX N X) := if_pos h

set_option maxHeartbeats 3200000 in
set_option maxRecDepth 100000 in
theorem reduced_zero {w : World} {a b : Option Addr} {c d : Nat} : Calls Try.prog 108 #[.slice a (0 : Nat) c, .slice b (0 : Nat) d] w fun e w' => (∃ vx ya yd, e = .returned (.tuple #[vx, .slice ya 0 yd, .int .i64 0])) ∧ Below w.heap.size w w' := by
  have HA := Lib.hid fun W => columns_any (w := W) (a := a) (N := 0) (c := c) (X := fun _ => []) (by omega) ⟨a, c, rfl, fun k hk => absurd hk (by omega)⟩
  have HBc := Lib.hid fun W => columns_any (w := W) (a := b) (N := 0) (c := d) (X := fun _ => []) (by omega) ⟨b, d, rfl, fun k hk => absurd hk (by omega)⟩
  have HC0 : colsX 0 (fun _ => ([] : List Nat)) = 0 := rfl
  rw [HC0] at HA HBc
  clear HC0
  go_enter Try.func108, Try.ntmps108
  go_wp2_with fail
  refine (HA.out w).mono ?_
  rintro e w' ⟨rfl, rfl⟩
  go_wp2_with fail
  refine (zeros_any (N := 0) (C := 0) (by omega) (by omega)).mono ?_
  rintro e w1 ⟨vx, px, cx, rfl, hGx, hB1, _⟩
  obtain ⟨xa, xd, rfl⟩ := hGx.slice
  have HB1 := Lib.hid hB1
  clear hGx hB1
  go_wp2_with fail
  refine (HBc.out w1).mono ?_
  rintro e w' ⟨rfl, rfl⟩
  go_wp2_with fail
  refine (zeros_any (N := 0) (C := 0) (by omega) (by omega)).mono ?_
  rintro e w2 ⟨vy, py, cy, rfl, hGy, hB2, _⟩
  obtain ⟨ya, yd, rfl⟩ := hGy.slice
  have HB2 := Lib.hid (HB1.out.trans (hB2.mono HB1.out.size))
  clear hGy hB2 HB1
  go_wp2_with fail
  refine wp_loop_rounds 1 ?_
  rw [rounds_succ]
  go_wp2_with fail
  refine wp_loop_rounds 1 ?_
  rw [rounds_succ]
  go_wp2_with fail
  refine (HA.out w2).mono ?_
  rintro e w' ⟨rfl, rfl⟩
  go_wp2_with fail
  go_ret3
  exact ⟨⟨_, _, _, rfl⟩, HB2.out⟩

set_option maxHeartbeats 1600000 in
set_option maxRecDepth 100000 in
theorem rRank_any {w : World} {a : Option Addr} {N c : Nat} {X : Nat → List Nat} (hN : N ≤ 100000) (h : RR w (.slice a N c) N X) : Calls Try.prog 82 #[.slice a N c] w fun e w' => e = .returned (.int .i64 (rankX N X : Nat)) ∧ Below w.heap.size w w' := by
  by_cases hm : isM N X
  · have HR := Lib.hid (rright_yes hN h hm)
    by_cases h0 : N = 0
    · subst h0
      have he : (rankX 0 X : Nat) = 0 := by rw [rank_is0 hm]; rfl
      rw [he]
      clear he h hm
      go_enter Try.func82, Try.ntmps82
      go_wp2_with fail
      refine HR.out.mono ?_
      rintro e w1 ⟨rfl, hB1⟩
      have HB1 := Lib.hid hB1
      clear hB1
      go_wp2_with fail
      refine reduced_zero.mono ?_
      rintro e w2 ⟨⟨vx, ya, yd, rfl⟩, hB2⟩
      have HB2 := Lib.hid (HB1.out.trans (hB2.mono HB1.out.size))
      clear hB2
      go_wp2_with fail
      go_ret
      exact ⟨rfl, HB2.out⟩
    · have hlx := isM_len hm
      have hr := fun W (hW : Below w.heap.size w W) => reduced_nil (by omega) hm.1 hm.2.1 (h.below hW) hlx rfl
      have he : (rankX N X : Nat) = Gf.rdN (cut N X (colsX N X)) N (colsX N X) := if_pos hm
      rw [← he] at hr
      have HRD := Lib.hid hr
      clear hr he hlx h hm
      generalize rankX N X = rk at *
      go_enter Try.func82, Try.ntmps82
      go_wp2_with fail
      refine HR.out.mono ?_
      rintro e w1 ⟨rfl, hB1⟩
      have HB1 := Lib.hid hB1
      clear hB1
      go_wp2_with fail
      refine (HRD.out w1 HB1.out).mono ?_
      rintro e w2 ⟨⟨vx, vy, rfl⟩, hB2⟩
      have HB2 := Lib.hid (HB1.out.trans (hB2.mono HB1.out.size))
      clear hB2
      go_wp2_with fail
      go_ret
      exact ⟨rfl, HB2.out⟩
  · have HR := Lib.hid (rright_not hN h hm)
    have he : (rankX N X : Nat) = 0 := if_neg hm
    rw [he]
    clear he h hm
    go_enter Try.func82, Try.ntmps82
    go_wp2_with fail
    refine HR.out.mono ?_
    rintro e w1 ⟨rfl, hB1⟩
    have HB1 := Lib.hid hB1
    clear hB1
    go_wp2_with fail
    go_ret
    exact ⟨rfl, HB1.out⟩

set_option maxHeartbeats 1600000 in
set_option maxRecDepth 100000 in
theorem rInverse_bad {w : World} {a : Option Addr} {N c : Nat} {X : Nat → List Nat} (hN : N ≤ 100000) (h : RR w (.slice a N c) N X) (hno : ¬ (isM N X ∧ colsX N X = N)) :
    Calls Try.prog 75 #[.slice a N c] w fun e w' => e = .returned (.tuple #[.slice none 0 0, .int .i64 2]) ∧ Below w.heap.size w w' := by
  by_cases hx : isM N X
  · have H1 := Lib.hid (rright_yes hN h hx)
    have H3 := Lib.hid fun W (hW : Below w.heap.size w W) => columns_any hN (h.below hW)
    have hc : colsX N X ≠ N := fun e => hno ⟨hx, e⟩
    have hc2 := hx.2.1
    clear h hno hx
    generalize colsX N X = z at *
    have q : ((z : Int) != (N : Int)) = true := by simp; omega
    have q2 : decide (z = N) = false := by simp; omega
    go_enter Try.func75, Try.ntmps75
    go_wp2_with fail
    refine H1.out.mono ?_
    rintro e w1 ⟨rfl, hB1⟩
    have HB1 := Lib.hid hB1
    clear hB1
    go_wp2_with fail
    refine (H3.out w1 HB1.out).mono ?_
    rintro e w' ⟨rfl, rfl⟩
    go_wp2_with fail
    go_ret2
    exact ⟨rfl, HB1.out⟩
  · have H1 := Lib.hid (rright_not hN h hx)
    clear h hno hx
    go_enter Try.func75, Try.ntmps75
    go_wp2_with fail
    refine H1.out.mono ?_
    rintro e w1 ⟨rfl, hB1⟩
    have HB1 := Lib.hid hB1
    clear hB1
    go_wp2_with fail
    go_ret2
    exact ⟨rfl, HB1.out⟩

/-- What the reference's Inverse hands back. -/
def RInvGive (w : World) (N : Nat) (A : Nat → List Nat) (e : Ending) (w' : World) : Prop := Below w.heap.size w w' ∧
  ((Gf.rdN A N N < N ∧ e = .returned (.tuple #[.slice none 0 0, .int .i64 7])) ∨ (Gf.rdN A N N = N ∧ ∃ va vd, e = .returned (.tuple #[.slice va N vd, .int .i64 0]) ∧ RR w' (.slice va N vd) N (Gf.invX A N)))

set_option maxHeartbeats 3200000 in
set_option maxRecDepth 100000 in
theorem rInverse_any {w : World} {a : Option Addr} {N c : Nat} {X : Nat → List Nat} (h : RR w (.slice a N c) N X) (hx : isM N X) (hxy : colsX N X = N) : Calls Try.prog 75 #[.slice a N c] w (RInvGive w N (cut N X N)) := by
  have hN : N ≤ 255 := hx.1
  have H1 := Lib.hid (rright_yes (by omega) h hx)
  have hc3 : ∀ W, Below w.heap.size w W → Hid (Calls Try.prog 105 #[.slice a N c] W fun e w' => e = .returned (.int .i64 (N : Nat)) ∧ W = w') := fun W hW => by
    have := columns_any (by omega) (h.below hW)
    rw [hxy] at this
    exact this
  have H3 := Lib.hid hc3
  have hlx := isM_len hx
  rw [hxy] at hlx
  have hum := isM_of (N := N) (W := N) (X := Gf.unitX N) hN hN (fun i _ => Gf.unitX_len N i) id
  have HRD := Lib.hid fun (W : World) b d (hN0 : 0 < N) (hW : RR W (.slice a N c) N X) (hU : RR W (.slice b N d) N (Gf.unitX N)) => reduced_two hN0 hN hN hN hW hU hlx (fun i _ => Gf.unitX_len N i) hxy hum.2
  have HX := Lib.hid h
  have HI := Lib.hid (show ∀ i, i < N → Gf.invX (cut N X N) N i = Gf.rdY (cut N X N) (cut N (Gf.unitX N) N) N N i from Gf.rdY_congr (fun _ _ => rfl) (fun i hi => (cut_at hi).symm) N)
  have hle := (Gf.rdN_le (cut N X N) N N).1
  have HIB := Lib.hid (Gf.invX_byt (cut N X N) N)
  have HIL := Lib.hid (Gf.invX_long (cut N X N) N)
  clear hc3 hlx hum h hx hxy
  generalize cut N X N = A at *
  have qq : ((N : Int) != (N : Int)) = false := by simp
  go_enter Try.func75, Try.ntmps75
  go_wp2_with fail
  refine H1.out.mono ?_
  rintro e w1 ⟨rfl, hB1⟩
  have HB1 := Lib.hid hB1
  clear hB1
  go_wp2_with fail
  refine (H3.out w1 HB1.out).out.mono ?_
  rintro e w' ⟨rfl, rfl⟩
  go_wp2_with fail
  refine (rUnit_ok hN).mono ?_
  rintro e w2 ⟨va, vd, p, d, rfl, hG, hB2⟩
  have HB2 := Lib.hid (HB1.out.trans (hB2.mono HB1.out.size))
  have HU := Lib.hid (hG.rr fun i hi => ⟨unitX_small N i, by rw [Gf.unitX_len]; omega⟩)
  clear hG hB2 HB1 H1 H3 qq
  by_cases h0 : N = 0
  · subst h0
    have HZ := Lib.hid (show Gf.rdN A 0 0 = 0 from rfl)
    go_wp2_with fail
    refine reduced_zero.mono ?_
    rintro e w3 ⟨⟨vx, ya, yd, rfl⟩, hB3⟩
    have HB3 := Lib.hid (HB2.out.trans (hB3.mono HB2.out.size))
    clear hB3
    go_wp2_with fail
    go_ret2
    exact ⟨HB3.out, .inr ⟨HZ.out, _, _, rfl, ⟨_, _, rfl, fun k hk => absurd hk (by omega)⟩⟩⟩
  · have hr := HRD.out w2 _ _ (by omega) (HX.out.below HB2.out) HU.out
    obtain ⟨m, hm⟩ : ∃ m, m = Gf.rdN A N N := ⟨_, rfl⟩
    rw [← hm] at hr hle
    have HM := Lib.hid hm
    have HR := Lib.hid hr
    clear hm hr HRD
    go_wp2_with fail
    refine HR.out.mono ?_
    rintro e w3 ⟨⟨vx, gy, dy, rfl, p3, q3, hG3⟩, hB3⟩
    have HB3 := Lib.hid (HB2.out.trans (hB3.mono HB2.out.size))
    have HRR := Lib.hid ((hG3.congr HI.out).rr fun i hi => ⟨byt_small HIB.out i, by rw [HIL.out i]; omega⟩)
    clear hG3 hB3 HR
    by_cases hmk : m < N
    · have HMK := Lib.hid hmk
      go_wp2_with fail
      go_ret2
      exact ⟨HB3.out, .inl ⟨by rw [← HM.out]; exact HMK.out, rfl⟩⟩
    · obtain rfl : m = N := by omega
      have q1 : decide ((m : Int) < (m : Int)) = false := by simp
      go_wp2_with fail
      go_ret2
      exact ⟨HB3.out, .inr ⟨HM.out.symm, _, _, rfl, HRR.out⟩⟩
end Go.Proofs.Ytokeoodkioobdaa
