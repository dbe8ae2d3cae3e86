/- The walks of rows' Unit, Rank, Mul, Apply. Conditions: there are at most 1000 rows, each of at most 1000 places. -/
import Derived.Test.YtokeoodkioobdaaRows4
namespace Go.Proofs.Ytokeoodkioobdaa
open Go.RowKit

theorem Unit_bad {w : World} {n : Int} (h : n < 0 ∨ 255 < n) : Calls Try.prog 70 #[.int .i64 n] w fun e w' => e = .returned (.tuple #[.slice none 0 0, .int .i64 2]) ∧ w = w' := by
  rcases h with h | h
  · go_enter Try.func70, Try.ntmps70
    go_wp2_with fail
    go_ret2
    exact ⟨rfl, rfl⟩
  · have h0 : decide (n < 0) = false := by simp; omega
    go_enter Try.func70, Try.ntmps70
    go_wp2_with fail
    go_ret2
    exact ⟨rfl, rfl⟩

/-- The unit's first k rows. -/
def unitTo (n k : Nat) : Nat → List Nat := fun r => if r < k then Gf.unitX n r else List.replicate n 0
theorem unitTo_len (n k r : Nat) : (unitTo n k r).length = n := by
  unfold unitTo; split
  · exact Gf.unitX_len n r
  · exact List.length_replicate

set_option maxHeartbeats 3200000 in
set_option maxRecDepth 100000 in
theorem Unit_ok {w : World} {n : Nat} (hn : n ≤ 255) : Calls Try.prog 70 #[.int .i64 (n : Nat)] w fun e w' => ∃ g p d, e = .returned (.tuple #[.slice (some ⟨g, 0, none⟩) n n, .int .i64 0]) ∧ GridTo w' w.heap.size (.slice (some ⟨g, 0, none⟩) n n) n n p d (Gf.unitX n) ∧ Below w.heap.size w w' := by
  have d1 : decide ((n : Int) < 0) = false := by simp
  have d2 : decide (255 < (n : Int)) = false := by simp; omega
  have d3 : decide (255 < n) = false := by simp; omega
  go_enter Try.func70, Try.ntmps70
  go_wp2_with fail
  refine (blank_any (by omega) (by omega)).mono ?_
  rintro e w1 ⟨g, p, d, rfl, hG, hB⟩
  have HG0 := Lib.hid (hG.congr (Y := unitTo n 0) fun i _ => if_neg (Nat.not_lt_zero i))
  have HB0 := Lib.hid hB
  clear hG hB
  go_wp2_with fail
  go_loopw [17] (fun i wr => ∃ k : Nat, k ≤ n ∧ i = .int .i64 k ∧ Hid (GridTo wr w.heap.size (.slice (some ⟨g, 0, none⟩) n n) n n p d (unitTo n k)) ∧ Hid (Below w.heap.size w wr)) (fun i _ => n - (intOf i).toNat)
  case atStart => exact ⟨0, Nat.zero_le _, rfl, HG0, HB0⟩
  case round =>
    clear HG0 HB0
    obtain ⟨k, hk, rfl, HG, HB⟩ := hrel
    by_cases hk1 : k < n
    · obtain ⟨hc, hfz, ho, hpg, hps, hle⟩ := HG.out.line (unitTo_len n k) hk1
      have hc2 := own_cell ho (i := k) hk1
      have hc3 := hc2.1
      have hf3 := hc2.2
      have hpb := (own_blk ho).1
      have hst : GridTo (wr.setCell ⟨p k, k, none⟩ (.int .u8 1)) w.heap.size (.slice (some ⟨g, 0, none⟩) n n) n n p d (unitTo n (k + 1)) := by
        have h1 := HG.out.turn (w' := wr.setCell ⟨p k, k, none⟩ (.int .u8 1)) (l := (unitTo n k k).set k 1) hk1 ((Only.refl _ _).set _ _) (by rw [List.length_set]) (by rw [unitTo_len]; exact own_set ho)
        refine h1.congr fun i hi => ?_
        by_cases e : i = k
        · subst e
          rw [if_pos rfl]
          unfold unitTo
          rw [if_pos (by omega), if_neg (by omega)]
          rfl
        · rw [if_neg e]
          unfold unitTo
          by_cases e2 : i < k
          · rw [if_pos e2, if_pos (by omega)]
          · rw [if_neg e2, if_neg (by omega)]
      have HST := Lib.hid hst
      have HB2 := Lib.hid (HB.out.setCell (p := ⟨p k, k, none⟩) hpb (.int .u8 1))
      clear hc2 ho hst
      go_wp2_with fail
      go_roundw
      case rel => exact ⟨k + 1, by omega, by go_num, HST, HB2⟩
      case measure => simp [intOf]; omega
    · obtain rfl : k = n := by omega
      have HF := Lib.hid (HG.out.congr (Y := Gf.unitX k) fun i hi => (if_pos hi).symm)
      clear HG
      go_wp2_with fail
      go_ret2
      exact ⟨_, _, _, rfl, HF.out, HB.out⟩

/-- A matrix' rows, cut to what it has. -/
theorem cut_long {N W : Nat} {X : Nat → List Nat} (h : ∀ i, i < N → (X i).length = W) : Gf.Long (cut N X W) W := fun r => by
  unfold cut; split
  · exact h r (by assumption)
  · exact List.length_replicate
theorem cut_byt {N W : Nat} {X : Nat → List Nat} (h : ∀ i, i < N → Small (X i)) : Gf.Byt (cut N X W) := fun r => by
  unfold cut; split
  · exact small_at0.1 (h r (by assumption))
  · exact small_at0.1 (Small.of_mem fun x hx => by rw [List.eq_of_mem_replicate hx]; omega)
theorem cut_at {N W i : Nat} {X : Nat → List Nat} (h : i < N) : cut N X W i = X i := if_pos h
theorem RR.small {w : World} {v : Value} {N : Nat} {X : Nat → List Nat} (h : RR w v N X) : ∀ i, i < N → Small (X i) := fun i hi => by
  obtain ⟨a, c, rfl, hk⟩ := h.shape
  obtain ⟨b, o, a1, n1, c1, e, hc, hr⟩ := hk i hi
  exact hr.small
theorem isM_len {N : Nat} {X : Nat → List Nat} (h : isM N X) : ∀ i, i < N → (X i).length = colsX N X := fun i hi => h.2.2 i hi
theorem isM_small {N : Nat} {X : Nat → List Nat} (h : isM N X) : ∀ i, i < N → (X i).length ≤ 100000 := fun i hi => by rw [isM_len h i hi]; have := h.2.1; omega

/-- A matrix' rank, as the code reckons it. -/
def rankX (N : Nat) (X : Nat → List Nat) : Nat := if isM N X then Gf.rdN (cut N X (colsX N X)) N (colsX N X) else 0

set_option maxHeartbeats 1600000 in
set_option maxRecDepth 100000 in
theorem Rank_any {w : World} {a : Option Addr} {N c : Nat} {X : Nat → List Nat} (hN : N ≤ 100000) (h : RR w (.slice a N c) N X) : Calls Try.prog 71 #[.slice a N c] w fun e w' => e = .returned (.int .i64 (rankX N X : Nat)) ∧ Below w.heap.size w w' := by
  have hR := Right_any hN h
  by_cases hm : isM N X
  · rw [decide_eq_true hm] at hR
    have HR := Lib.hid hR
    have H := Lib.hid h
    have HM := Lib.hid hm
    have he : (rankX N X : Nat) = Gf.rdN (cut N X (colsX N X)) N (colsX N X) := if_pos hm
    rw [he]
    clear hR h hm he
    have hc1 : colsX N X ≤ 255 := HM.out.2.1
    go_enter Try.func71, Try.ntmps71
    go_wp2_with fail
    refine HR.out.mono ?_
    rintro e w1 ⟨rfl, rfl⟩
    go_wp2_with fail
    refine (new_any _).mono ?_
    rintro e w2 ⟨b, rfl, hb, hf, hB2⟩
    have HF2 := Lib.hid hf
    have HB2 := Lib.hid hB2
    have hcp := copied_any hN (isM_small HM.out) (H.out.below hB2)
    have HCP := Lib.hid hcp
    clear hf hB2 hcp HR
    go_wp2_with fail
    refine HCP.out.mono ?_
    rintro e w3 ⟨g, p, d, rfl, hG, hB3⟩
    have HF3 := Lib.hid (HF2.out.below hB3 HF2.out.lt)
    have hsz := hB3.size
    have hB03 := HB2.out.trans (hB3.mono HB2.out.size)
    have hw := wide_any hN (H.out.below hB03)
    rw [show wideX N X = colsX N X from if_pos HM.out.2.2] at hw
    have HW := Lib.hid hw
    have HG := Lib.hid hG
    have HB3 := Lib.hid hB03
    clear hw hG hB3 hB03 HCP HF2
    go_wp2_with fail
    refine HW.out.mono ?_
    rintro e w4 ⟨rfl, rfl⟩
    have hs := steps_any (C := colsX N X) HF3.out (HG.out.congr (Y := cut N X (colsX N X)) fun i hi => cut_at hi) HG.out.gl.2 (cut_long (isM_len HM.out)) (cut_byt H.out.small) (Nat.le_refl _) hN (by omega)
    have HS := Lib.hid hs
    clear hs HW
    go_wp2_with fail
    refine HS.out.mono ?_
    rintro e w5 ⟨rfl, _, hK⟩
    have HB5 := Lib.hid (HB3.out.trans ((off_below hK HG.out hsz).mono (HB2.out.size)))
    clear hK
    go_wp2_with fail
    go_ret
    exact ⟨rfl, HB5.out⟩
  · rw [decide_eq_false hm] at hR
    have HR := Lib.hid hR
    have he : (rankX N X : Nat) = 0 := if_neg hm
    rw [he]
    clear hR h hm he
    go_enter Try.func71, Try.ntmps71
    go_wp2_with fail
    refine HR.out.mono ?_
    rintro e w1 ⟨rfl, rfl⟩
    go_wp2_with fail
    go_ret
    exact ⟨rfl, Below.refl _ _⟩
end Go.Proofs.Ytokeoodkioobdaa

/- The walks of rows' Mul and Apply. Conditions: there are at most 100000 rows. -/
namespace Go.Proofs.Ytokeoodkioobdaa
open Go.RowKit

def mulOk (N M : Nat) (X Y : Nat → List Nat) : Prop := isM N X ∧ isM M Y ∧ colsX N X = M
/-- A product's rows. -/
def mulX (X Y : Nat → List Nat) (M C : Nat) : Nat → List Nat := fun r => Gf.mmr (X r) Y C M

theorem right_yes {w : World} {a : Option Addr} {N c : Nat} {X : Nat → List Nat} (hN : N ≤ 100000) (h : RR w (.slice a N c) N X) (hm : isM N X) : Calls Try.prog 80 #[.slice a N c] w fun e w' => e = .returned (.bool true) ∧ w = w' := by
  have := Right_any hN h
  rwa [decide_eq_true hm] at this
theorem right_not {w : World} {a : Option Addr} {N c : Nat} {X : Nat → List Nat} (hN : N ≤ 100000) (h : RR w (.slice a N c) N X) (hm : ¬ isM N X) : Calls Try.prog 80 #[.slice a N c] w fun e w' => e = .returned (.bool false) ∧ w = w' := by
  have := Right_any hN h
  rwa [decide_eq_false hm] at this
theorem wide_is {w : World} {a : Option Addr} {N c : Nat} {X : Nat → List Nat} (hN : N ≤ 100000) (h : RR w (.slice a N c) N X) (hm : isM N X) : Calls Try.prog 100 #[.slice a N c] w fun e w' => e = .returned (.int .i64 (colsX N X : Nat)) ∧ w = w' := by
  have := wide_any hN h
  rwa [show wideX N X = colsX N X from if_pos hm.2.2] at this

set_option maxHeartbeats 1600000 in
set_option maxRecDepth 100000 in
theorem Mul_bad {w : World} {a b : Option Addr} {N M c d : Nat} {X Y : Nat → List Nat} (hN : N ≤ 100000) (hM : M ≤ 100000) (h : RR w (.slice a N c) N X) (h2 : RR w (.slice b M d) M Y) (hno : ¬ mulOk N M X Y) :
    Calls Try.prog 69 #[.slice a N c, .slice b M d] w fun e w' => e = .returned (.tuple #[.slice none 0 0, .int .i64 2]) ∧ w = w' := by
  by_cases hx : isM N X
  · have H1 := Lib.hid (right_yes hN h hx)
    by_cases hy : isM M Y
    · have H2 := Lib.hid (right_yes hM h2 hy)
      have H3 := Lib.hid (wide_is hN h hx)
      have hc : colsX N X ≠ M := fun e => hno ⟨hx, hy, e⟩
      clear h h2 hno hx hy
      generalize colsX N X = z at *
      have q : ((z : Int) != (M : Int)) = true := by simp; omega
      have q2 : decide (z = M) = false := by simp; omega
      go_enter Try.func69, Try.ntmps69
      go_wp2_with fail
      refine H1.out.mono ?_
      rintro e w' ⟨rfl, rfl⟩
      go_wp2_with fail
      refine H2.out.mono ?_
      rintro e w' ⟨rfl, rfl⟩
      go_wp2_with fail
      refine H3.out.mono ?_
      rintro e w' ⟨rfl, rfl⟩
      go_wp2_with fail
      go_ret2
      exact ⟨rfl, rfl⟩
    · have H2 := Lib.hid (right_not hM h2 hy)
      clear h h2 hno hx hy
      go_enter Try.func69, Try.ntmps69
      go_wp2_with fail
      refine H1.out.mono ?_
      rintro e w' ⟨rfl, rfl⟩
      go_wp2_with fail
      refine H2.out.mono ?_
      rintro e w' ⟨rfl, rfl⟩
      go_wp2_with fail
      go_ret2
      exact ⟨rfl, rfl⟩
  · have H1 := Lib.hid (right_not hN h hx)
    clear h h2 hno hx
    go_enter Try.func69, Try.ntmps69
    go_wp2_with fail
    refine H1.out.mono ?_
    rintro e w' ⟨rfl, rfl⟩
    go_wp2_with fail
    go_ret2
    exact ⟨rfl, rfl⟩

/-- The rows of a product, the first r of them, and k steps of the next. -/
def mulTo (X Y : Nat → List Nat) (M C r k : Nat) : Nat → List Nat := fun j => if j < r then Gf.mmr (X j) Y C M else if j = r then Gf.mmr (X r) Y C k else Gf.mmr (X j) Y C 0
theorem mulTo_long (X Y : Nat → List Nat) (M C r k : Nat) : Gf.Long (mulTo X Y M C r k) C := fun j => by
  unfold mulTo; split
  · exact Gf.mmr_len _ _ _ _
  · split <;> exact Gf.mmr_len _ _ _ _
theorem mulTo_next (X Y : Nat → List Nat) (M C r : Nat) : mulTo X Y M C r M = mulTo X Y M C (r + 1) 0 := by
  funext j
  unfold mulTo
  by_cases h : j < r
  · rw [if_pos h, if_pos (by omega)]
  · rw [if_neg h]
    by_cases e : j = r
    · subst e; rw [if_pos rfl, if_pos (by omega)]
    · rw [if_neg e, if_neg (by omega)]
      by_cases e2 : j = r + 1
      · subst e2; rw [if_pos rfl]
      · rw [if_neg e2]

set_option maxHeartbeats 3200000 in
set_option maxRecDepth 100000 in
theorem Mul_ok {w : World} {a b : Option Addr} {N M c d : Nat} {X Y : Nat → List Nat} (h : RR w (.slice a N c) N X) (h2 : RR w (.slice b M d) M Y) (hok : mulOk N M X Y) :
    Calls Try.prog 69 #[.slice a N c, .slice b M d] w fun e w' => ∃ g p q, e = .returned (.tuple #[.slice (some ⟨g, 0, none⟩) N N, .int .i64 0]) ∧ GridTo w' w.heap.size (.slice (some ⟨g, 0, none⟩) N N) N N p q (mulX X Y M (colsX M Y)) ∧ Below w.heap.size w w' := by
  obtain ⟨hx, hy, hxy⟩ := hok
  have hN : N ≤ 255 := hx.1
  have hM : M ≤ 255 := hy.1
  have hC : colsX M Y ≤ 255 := hy.2.1
  have hsx := h.small
  have hsy := h2.small
  have hlx := isM_len hx
  have hly := isM_len hy
  rw [hxy] at hlx
  have hw0 := wide_is (by omega) h hx
  rw [hxy] at hw0
  have hw1 : ∀ W, Below w.heap.size w W → Hid (Calls Try.prog 100 #[.slice b M d] W fun e w' => e = .returned (.int .i64 (colsX M Y : Nat)) ∧ W = w') := fun W hW => wide_is (by omega) (h2.below hW) hy
  have H1 := Lib.hid (right_yes (by omega) h hx)
  have H2 := Lib.hid (right_yes (by omega) h2 hy)
  have H3 := Lib.hid hw0
  have H4 := Lib.hid hw1
  have HX := Lib.hid h
  have HY := Lib.hid h2
  have HSX := Lib.hid hsx
  have HSY := Lib.hid hsy
  have HLX := Lib.hid hlx
  have HLY := Lib.hid hly
  clear hx hy hxy hsx hsy hlx hly hw0 hw1 h h2
  obtain ⟨C, hCe⟩ : ∃ C, C = colsX M Y := ⟨_, rfl⟩
  rw [← hCe] at hC H4 HLY ⊢
  clear hCe
  have qq : ((M : Int) != (M : Int)) = false := by simp
  go_enter Try.func69, Try.ntmps69
  go_wp2_with fail
  refine H1.out.mono ?_
  rintro e w' ⟨rfl, rfl⟩
  go_wp2_with fail
  refine H2.out.mono ?_
  rintro e w' ⟨rfl, rfl⟩
  go_wp2_with fail
  refine H3.out.mono ?_
  rintro e w' ⟨rfl, rfl⟩
  clear H1 H2 H3 qq
  go_wp2_with fail
  refine (new_any _).mono ?_
  rintro e w1 ⟨pf, rfl, hpf, hf, hB1⟩
  have HB1 := Lib.hid hB1
  have HF1 := Lib.hid hf
  clear hf hB1
  go_wp2_with fail
  refine (H4.out _ ((HB1.out.alloc HB1.out.size _))).out.mono ?_
  rintro e w' ⟨rfl, rfl⟩
  obtain ⟨W2, hW2⟩ : ∃ W2, W2 = w1.alloc (.cells #[.pointer (some ⟨pf, 0, none⟩)] 113) := ⟨_, rfl⟩
  have HF2 := Lib.hid (show IsF W2 pf by rw [hW2]; exact HF1.out.below ((Below.refl _ _).alloc (Nat.le_refl _) _) HF1.out.lt)
  have HBX := Lib.hid (show W2.heap[w1.heap.size]? = some (.cells #[.pointer (some ⟨pf, 0, none⟩)] 113 (0, 0)) by rw [hW2]; exact heap_alloc_new _ _)
  have HB2 := Lib.hid (show Below w.heap.size w W2 by rw [hW2]; exact HB1.out.alloc HB1.out.size _)
  rw [← hW2]
  clear hW2 HF1 HB1 H4
  generalize w1.heap.size = bx at *
  have HX2 := Lib.hid (HX.out.below HB2.out)
  have HY2 := Lib.hid (HY.out.below HB2.out)
  clear HX HY
  go_wp2_with fail
  refine (blank_any (by omega) (by omega)).mono ?_
  rintro e w3 ⟨g, p, q, rfl, hG, hB3⟩
  have HG3 := Lib.hid (hG.congr (Y := mulTo X Y M C 0 0) fun i _ => by
    unfold mulTo
    rw [if_neg (Nat.not_lt_zero _)]
    split <;> exact (Gf.mmr_zero _ _ _))
  have HB3 := Lib.hid hB3
  clear hG hB3
  go_wp2_with fail
  go_loopw [35] (fun i wr => ∃ r : Nat, r ≤ N ∧ i = .int .i64 r ∧ Hid (GridTo wr W2.heap.size (.slice (some ⟨g, 0, none⟩) N N) N N p q (mulTo X Y M C r 0)) ∧ Hid (Below W2.heap.size W2 wr)) (fun i _ => N - (intOf i).toNat)
  case atStart => exact ⟨0, Nat.zero_le _, rfl, HG3, HB3⟩
  case round =>
    clear HG3 HB3
    obtain ⟨r, hr, rfl, HG, HB⟩ := hrel
    by_cases hr1 : r < N
    · obtain ⟨a', c', e, hX⟩ := HX2.out.shape
      injection e with e1 e2 e3
      subst e1; subst e3; clear e2
      obtain ⟨b1, o1, a1, n1, c1, rfl, hc0, hr1'⟩ := hX r hr1
      have hc1 := (HB.out.cell (p := ⟨b1, o1 + r, none⟩) (block_lt_of_cell hc0)).trans hc0
      clear hc0
      have hn1 : n1 = M := by rw [← hr1'.len]; exact HLX.out r hr1
      subst hn1
      have HR1 := Lib.hid hr1'
      have HB2' := Lib.hid HB.out
      clear hX hr1'
      obtain ⟨wo, rfl⟩ : ∃ wo, wo = wr := ⟨_, rfl⟩
      go_wp2_with fail
      go_loopw [43] (fun i wr => ∃ k : Nat, k ≤ n1 ∧ i = .int .i64 k ∧ Hid (GridTo wr W2.heap.size (.slice (some ⟨g, 0, none⟩) N N) N N p q (mulTo X Y n1 C r k)) ∧ Hid (Below W2.heap.size W2 wr)) (fun i _ => n1 - (intOf i).toNat)
      case atStart => exact ⟨0, Nat.zero_le _, rfl, HG, HB⟩
      case round =>
        clear HG HB
        obtain ⟨k, hk, rfl, HG, HB⟩ := hrel
        by_cases hk1 : k < n1
        · obtain ⟨a', c', e, hY⟩ := HY2.out.shape
          injection e with e1 e2 e3
          subst e1; subst e3; clear e2
          obtain ⟨b2, o2, a2, n2, c2, rfl, hd0, hr2⟩ := hY k hk1
          have hd1 := (HB.out.cell (p := ⟨b2, o2 + k, none⟩) (block_lt_of_cell hd0)).trans hd0
          have hn2 : n2 = C := by rw [← hr2.len]; exact HLY.out k hk1
          subst hn2
          obtain ⟨b3, o3, rfl, hx3⟩ := (HR1.out.below HB.out).at_ k hk1
          obtain ⟨l1, l2, l3, l4, l5, l6⟩ := HG.out.line (mulTo_long X Y n1 n2 r k) hr1
          have hpl := (own_blk l3).1
          have hbx : wr.cell? ⟨bx, 0, none⟩ = some (.pointer (some ⟨pf, 0, none⟩)) := (HB.out.cell (p := ⟨bx, 0, none⟩) (lt_of_block HBX.out)).trans ((cell_of_block HBX.out).trans rfl)
          have hff : IsF wr pf := HF2.out.below HB.out HF2.out.lt
          have hyk : Small (Y k) := HSY.out k hk1
          have hxr : Small (X r) := HSX.out r hr1
          have hms : Small (mulTo X Y n1 n2 r k r) := by
            unfold mulTo
            rw [if_neg (Nat.lt_irrefl r), if_pos rfl]
            exact small_at0.2 fun c => Gf.mmr_byt (small_at0.1 hxr) c
          have hadd : ∀ q2, Hid (Calls Try.prog 102 #[.agg #[.pointer (some ⟨pf, 0, none⟩)], .slice (some ⟨p r, 0, none⟩) n2 (q r), .slice a2 n2 c2, .int .u8 ((X r).getD k 0 : Nat)] (wr.drewN q2) fun e w' => (∃ v, e = .returned v) ∧ w'.ownsRow W2.heap.size 5 1 (.slice (some ⟨p r, 0, none⟩) n2 (q r)) n2 (bs (Gf.ad ((X r).getD k 0) (mulTo X Y n1 n2 r k r) (Y k))) ∧ Only (p r) (wr.drewN q2) w') := fun q2 =>
            addr_any (hxr k) (hff.drewN q2) l3 hms ((hr2.below HB.out).drewN q2) (fun h0 b off e => by
              obtain ⟨b', o', e', hc'⟩ := hr2.at_ 0 h0
              rw [e] at e'
              injection e' with e'
              injection e' with e' _ _
              have := block_lt_of_cell hc'
              have hlt : b' < W2.heap.size := this
              omega) (by omega)
          have hst : ∀ q2 w5, w5.ownsRow W2.heap.size 5 1 (.slice (some ⟨p r, 0, none⟩) n2 (q r)) n2 (bs (Gf.ad ((X r).getD k 0) (mulTo X Y n1 n2 r k r) (Y k))) → Only (p r) (wr.drewN q2) w5 → Hid (GridTo w5 W2.heap.size (.slice (some ⟨g, 0, none⟩) N N) N N p q (mulTo X Y n1 n2 r (k + 1))) ∧ Hid (Below W2.heap.size W2 w5) := fun q2 w5 h5 h6 => by
            refine ⟨((HG.out.drewN q2).turn (l := Gf.ad ((X r).getD k 0) (mulTo X Y n1 n2 r k r) (Y k)) hr1 h6 ?_ ?_).congr fun j _ => ?_, (below_drewN HB.out q2).trans (h6.below _ hpl HB.out.size)⟩
            · rw [Gf.ad_len (by rw [mulTo_long, HLY.out k hk1])]
            · rw [mulTo_long]; exact h5
            · have e1 : mulTo X Y n1 n2 r k r = Gf.mmr (X r) Y n2 k := by unfold mulTo; rw [if_neg (Nat.lt_irrefl r), if_pos rfl]
              rw [e1, ← at0_getD, ← Gf.mmr_step (HLY.out k hk1) (small_at0.1 hxr k) (small_at0.1 hyk)]
              unfold mulTo
              by_cases e : j = r
              · subst e; simp
              · simp [e]
          have HADD := Lib.hid hadd
          have HSTP := Lib.hid hst
          clear hadd hst l3 hpl hd0 hr2 hY hff hyk hxr hms HG HB
          generalize (X r).getD k 0 = y at *
          go_wp2_with fail
          refine region_quiet_tail 10 (by kernel_rfl) (by kernel_rfl) ?_
          simp only [List.take_succ_cons, List.take_zero, List.drop_succ_cons, List.drop_zero]
          repeat (go_big_quiet_step (fail))
          refine wpQuiet_nil ?_
          intro _ hw'
          obtain ⟨nq, rfl⟩ := hw'
          go_wp2_with (go_at_call 102; ((with_reducible refine (HADD.out _).out.mono ?_); rintro e w5 ⟨⟨v5, rfl⟩, ho5, hO5⟩; have HS5 := HSTP.out _ _ ho5 hO5; clear ho5 hO5))
          go_roundw
          case rel => exact ⟨k + 1, by omega, by go_num, HS5.1, HS5.2⟩
          case measure => simp [intOf]; omega
        · obtain rfl : k = n1 := by omega
          have HG' := Lib.hid (show GridTo wr W2.heap.size (.slice (some ⟨g, 0, none⟩) N N) N N p q (mulTo X Y k C (r + 1) 0) by rw [← mulTo_next]; exact HG.out)
          clear HG
          go_wp2_with fail
          go_roundw
          case rel => exact ⟨r + 1, by omega, by go_num, HG', HB⟩
          case measure => simp [intOf]; omega
    · obtain rfl : r = N := by omega
      have HF := Lib.hid (HG.out.congr (Y := mulX X Y M C) fun i hi => by unfold mulTo mulX; rw [if_pos hi])
      have HFG := Lib.hid (HF.out.mono HB2.out.size)
      have HFB := Lib.hid (HB2.out.trans (HB.out.mono HB2.out.size))
      clear HG HF
      go_wp2_with fail
      go_ret2
      exact ⟨_, _, _, rfl, HFG.out, HFB.out⟩
end Go.Proofs.Ytokeoodkioobdaa

/- The walk of rows' Apply. Conditions: there are at most 100000 rows. -/
namespace Go.Proofs.Ytokeoodkioobdaa
open Go.RowKit

def applyTo (X : Nat → List Nat) (v : List Nat) (M k : Nat) : List Nat := (List.range k).map fun r => dotTo (X r) v M
theorem applyTo_len (X : Nat → List Nat) (v : List Nat) (M k : Nat) : (applyTo X v M k).length = k := by simp [applyTo]
theorem applyTo_succ (X : Nat → List Nat) (v : List Nat) (M k : Nat) : bs (applyTo X v M (k + 1)) = bs (applyTo X v M k) ++ [.int .u8 (dotTo (X k) v M : Nat)] := by simp [applyTo, bs, List.range_succ]
theorem applyTo_small {X : Nat → List Nat} {v : List Nat} {M k : Nat} (h : ∀ i, i < k → Small (X i)) : Small (applyTo X v M k) := Small.of_mem fun x hx => by
  obtain ⟨i, hi, rfl⟩ := List.mem_map.1 hx
  exact dotTo_lt (h i (List.mem_range.1 hi)) _ _

set_option maxHeartbeats 1600000 in
set_option maxRecDepth 100000 in
theorem Apply_bad {w : World} {a b : Option Addr} {N M c d : Nat} {X : Nat → List Nat} {v : List Nat} (hN : N ≤ 100000) (h : RR w (.slice a N c) N X) (h2 : RB w b M d v) (hno : ¬ (isM N X ∧ colsX N X = M)) :
    Calls Try.prog 76 #[.slice a N c, .slice b M d] w fun e w' => e = .returned (.tuple #[.slice none 0 0, .int .i64 2]) ∧ w = w' := by
  have hm := h2.most
  by_cases hx : isM N X
  · have H1 := Lib.hid (right_yes hN h hx)
    have H3 := Lib.hid (wide_is hN h hx)
    have hc : colsX N X ≠ M := fun e => hno ⟨hx, e⟩
    have hc2 := hx.2.1
    clear h h2 hno hx
    generalize colsX N X = z at *
    have q : ((z : Int) != (M : Int)) = true := by simp; omega
    have q2 : decide (z = M) = false := by simp; omega
    go_enter Try.func76, Try.ntmps76
    go_wp2_with fail
    refine H1.out.mono ?_
    rintro e w' ⟨rfl, rfl⟩
    go_wp2_with fail
    refine H3.out.mono ?_
    rintro e w' ⟨rfl, rfl⟩
    go_wp2_with fail
    go_ret2
    exact ⟨rfl, rfl⟩
  · have H1 := Lib.hid (right_not hN h hx)
    clear h h2 hno hx
    go_enter Try.func76, Try.ntmps76
    go_wp2_with fail
    refine H1.out.mono ?_
    rintro e w' ⟨rfl, rfl⟩
    go_wp2_with fail
    go_ret2
    exact ⟨rfl, rfl⟩

set_option maxHeartbeats 3200000 in
set_option maxRecDepth 100000 in
theorem Apply_ok {w : World} {a b : Option Addr} {N M c d : Nat} {X : Nat → List Nat} {v : List Nat} (h : RR w (.slice a N c) N X) (h2 : RB w b M d v) (hx : isM N X) (hxy : colsX N X = M) :
    Calls Try.prog 76 #[.slice a N c, .slice b M d] w fun e w' => ∃ u, e = .returned (.tuple #[u, .int .i64 0]) ∧ w'.ownsRow w.heap.size 5 1 u N (bs (applyTo X v M N)) ∧ Below w.heap.size w w' := by
  obtain ⟨i0, hi, hz0, hz1, hz2⟩ := info_parts info5
  have hN : N ≤ 255 := hx.1
  have hM : M ≤ 255 := by have := hx.2.1; omega
  have hlx := isM_len hx
  rw [hxy] at hlx
  have hw0 := wide_is (by omega) h hx
  rw [hxy] at hw0
  have H1 := Lib.hid (right_yes (by omega) h hx)
  have H3 := Lib.hid hw0
  have HX := Lib.hid h
  have HV := Lib.hid h2
  have HLX := Lib.hid hlx
  clear hx hxy hlx hw0 h h2
  have qq : ((M : Int) != (M : Int)) = false := by simp
  go_enter Try.func76, Try.ntmps76
  go_wp2_with fail
  refine H1.out.mono ?_
  rintro e w' ⟨rfl, rfl⟩
  go_wp2_with fail
  refine H3.out.mono ?_
  rintro e w' ⟨rfl, rfl⟩
  clear H1 H3 qq
  go_wp2_with fail
  refine (new_any _).mono ?_
  rintro e w1 ⟨pf, rfl, hpf, hf, hB1⟩
  have HB1 := Lib.hid hB1
  have HF1 := Lib.hid hf
  clear hf hB1
  go_wp2_with fail
  obtain ⟨W2, hW2⟩ : ∃ W2, W2 = w1.alloc (.cells #[.pointer (some ⟨pf, 0, none⟩)] 113) := ⟨_, rfl⟩
  have HF2 := Lib.hid (show IsF W2 pf by rw [hW2]; exact HF1.out.below ((Below.refl _ _).alloc (Nat.le_refl _) _) HF1.out.lt)
  have HBX := Lib.hid (show W2.heap[w1.heap.size]? = some (.cells #[.pointer (some ⟨pf, 0, none⟩)] 113 (0, 0)) by rw [hW2]; exact heap_alloc_new _ _)
  have HB2 := Lib.hid (show Below w.heap.size w W2 by rw [hW2]; exact HB1.out.alloc HB1.out.size _)
  rw [← hW2]
  clear hW2 HF1 HB1
  generalize w1.heap.size = bx at *
  have HX2 := Lib.hid (HX.out.below HB2.out)
  have HV2 := Lib.hid (HV.out.below HB2.out)
  clear HX HV
  go_loopw [4, 25] (fun s i wr => ∃ r : Nat, r ≤ N ∧ i = .int .i64 r ∧ Hid (wr.ownsRow W2.heap.size 5 1 s r (bs (applyTo X v M r))) ∧ Hid (Below W2.heap.size W2 wr)) (fun _ i _ => N - (intOf i).toNat)
  case atStart => exact ⟨0, Nat.zero_le _, rfl, World.ownsRow_nil _ _ _ _, Below.refl _ _⟩
  case round =>
    obtain ⟨r, hr, rfl, HO, HB⟩ := hrel
    by_cases hr1 : r < N
    · obtain ⟨a', c', e, hX⟩ := HX2.out.shape
      injection e with e1 e2 e3
      subst e1; subst e3; clear e2
      obtain ⟨b1, o1, a1, n1, c1, rfl, hc0, hr1'⟩ := hX r hr1
      have hc1 := (HB.out.cell (p := ⟨b1, o1 + r, none⟩) (block_lt_of_cell hc0)).trans hc0
      clear hc0
      have hn1 : n1 = M := by rw [← hr1'.len]; exact HLX.out r hr1
      subst hn1
      have hbx : wr.cell? ⟨bx, 0, none⟩ = some (.pointer (some ⟨pf, 0, none⟩)) := (HB.out.cell (p := ⟨bx, 0, none⟩) (lt_of_block HBX.out)).trans ((cell_of_block HBX.out).trans rfl)
      have hdot := dot_same (HF2.out.below HB.out HF2.out.lt) (hr1'.below HB.out) (HV2.out.below HB.out)
      have HDOT := Lib.hid hdot
      have HAS := Lib.hid (applyTo_succ X v n1 r)
      have hsz : W2.heap.size ≤ wr.heap.size := HB.out.size
      clear hdot hX hr1'
      generalize dotTo (X r) v n1 = y at *
      go_wp2_with fail
      refine HDOT.out.mono ?_
      rintro e w5 ⟨rfl, nq, rfl⟩
      have HAL := Lib.hid ((show (wr.drewN nq).ownsRow W2.heap.size 5 1 u4 r (bs (applyTo X v n1 r)) from HO.out).alloc (.cells #[.int .u8 (y : Nat)] 5))
      have HB5 := Lib.hid (below_drewN HB.out nq)
      have HOL := Lib.hid (fun g e => (own_lt HO.out (g := g) e).1)
      have hsz5 : (wr.drewN nq).heap.size = wr.heap.size := rfl
      obtain ⟨w5, hw5⟩ : ∃ w5, w5 = wr.drewN nq := ⟨_, rfl⟩
      rw [← hw5] at HAL HB5 hsz5 ⊢
      have hsz6 : W2.heap.size ≤ w5.heap.size := by omega
      clear hsz5 hw5
      go_wp2_with (at_builtin; refine wpList_append_own _ rfl (.tmp 37) (.tmp 39) 31 rfl W2.heap.size 5 i0 (.int .u8 0) 1 1 Try.underlying31 hi hz0 hz1 hz2 rfl (by decide) u4 r (bs (applyTo X v n1 r)) rfl HAL.out ⟨w5.heap.size, 0, none⟩ 1 1 [.int .u8 (y : Nat)] rfl rfl (cell_new _ _) (one_u8 _) (by unfold maxLen; omega) (by omega) (by simp; omega) ?_)
      intro v' w6 hown2 hg2 _
      have HO6 := Lib.hid (show w6.ownsRow W2.heap.size 5 1 v' (r + 1) (bs (applyTo X v n1 (r + 1))) by rw [HAS.out]; exact hown2)
      have HB6 := Lib.hid ((HB5.out.alloc (by omega) (.cells #[.int .u8 (y : Nat)] 5)).grown hg2 (by simp; omega) (fun g e => HOL.out g e))
      clear hown2 hg2 HAL
      go_wp2_with fail
      go_roundw
      case rel => exact ⟨r + 1, by omega, by go_num, HO6, HB6⟩
      case measure => simp [intOf]; omega
    · obtain rfl : r = N := by omega
      have HFB := Lib.hid (HB2.out.trans (HB.out.mono HB2.out.size))
      have HFO := Lib.hid (own_mono HO.out HB2.out.size)
      clear HO
      go_wp2_with fail
      go_ret2
      exact ⟨_, rfl, HFO.out, HFB.out⟩
end Go.Proofs.Ytokeoodkioobdaa

/- The walks of slices.Clone at bytes and of rows' Inverse. Conditions: there are at most 100000 rows. -/
namespace Go.Proofs.Ytokeoodkioobdaa
open Go.RowKit

theorem own_emptyB (w : World) : (w.alloc (.cells #[] 5)).ownsRow w.heap.size 5 1 (.slice (some ⟨w.heap.size, 0, none⟩) 0 0) 0 [] :=
  ⟨rfl, .inr ⟨w.heap.size, 0, #[], rfl, Nat.le_refl _, heap_alloc_new _ _, Nat.le_refl _, by unfold maxLen; omega, rfl, rfl⟩⟩
theorem rb_news {w : World} {ad : Addr} {n c : Nat} {l : List Nat} (h : RB w (some ad) n c l) : ∀ j u, (bs l)[j]? = some u → w.cell? (ad.add j) = some u := by
  intro j u hu
  have hj : j < n := by have := (List.getElem?_eq_some_iff.1 hu).1; rw [length_bs, h.len] at this; exact this
  obtain ⟨b, off, hb, hc⟩ := h.at_ j hj
  obtain rfl := Option.some.inj hb
  rw [bs_get l j (by rw [h.len]; exact hj)] at hu
  rw [← hu, Addr.add_lit]
  exact hc
theorem rb_none {w : World} {n c : Nat} {l : List Nat} (h : RB w none n c l) : n = 0 ∧ c = 0 ∧ l = [] := by
  have h1 := h.nil rfl
  have h2 := h.le
  have h3 := h.len
  exact ⟨by omega, h1, List.eq_nil_of_length_eq_zero (by omega)⟩

set_option maxHeartbeats 800000 in
set_option maxRecDepth 100000 in
theorem clone_any {w : World} {a : Option Addr} {n c : Nat} {l : List Nat} (h : RB w a n c l) :
    Calls Try.prog 107 #[.slice a n c] w fun e w' => ∃ v, e = .returned v ∧ w'.ownsRow w.heap.size 5 1 v n (bs l) ∧ Below w.heap.size w w' := by
  obtain ⟨i0, hi, hz0, hz1, hz2⟩ := info_parts info5
  cases a with
  | none =>
    obtain ⟨rfl, rfl, rfl⟩ := rb_none h
    clear h
    have hq := Lib.run_eql_slice_nil (P := Try.prog) w 31 5 none 0 0 0 0 Try.underlying31
    go_enter Try.func107, Try.ntmps107
    go_wp2_with fail
    go_ret
    exact ⟨_, rfl, World.ownsRow_nil _ _ _ _, Below.refl _ _⟩
  | some ad =>
    have hm := h.most
    have hl : (bs l).length = n * 1 := by rw [length_bs, h.len, Nat.mul_one]
    have HN := Lib.hid (rb_news (h.alloc (.cells #[] 5)))
    have HE := Lib.hid (own_emptyB w)
    clear h
    have hq := Lib.run_eql_slice_nil (P := Try.prog) w 31 5 (some ad) n c 0 0 Try.underlying31
    go_enter Try.func107, Try.ntmps107
    go_wp2_with (at_builtin; go_loud (refine wpList_append_own3 _ rfl (.tmp 5) (.tmp 6) 31 rfl w.heap.size 5 i0 (.int .u8 0) 1 Try.underlying31 hi hz0 hz1 hz2 rfl _ 0 [] rfl HE.out ad n c (bs l) rfl hl HN.out (bs_one _) (by unfold maxLen; omega) (by omega) (by simp) ?_))
    intro v7 w7 ho7 hg7 hb7 hk7
    have hB := ((Below.refl w.heap.size w).alloc (Nat.le_refl _) (.cells #[] 5)).grown hg7 (by simp) (fun j e => (own_lt HE.out e).1)
    have ho : w7.ownsRow w.heap.size 5 1 v7 n (bs l) := by simpa using ho7
    have HO := Lib.hid ho
    have HB := Lib.hid hB
    clear ho7 hg7 hb7 hk7 hB ho HE HN
    go_wp2_with fail
    go_ret
    exact ⟨_, rfl, HO.out, HB.out⟩


theorem own_cap {w : World} {B n c g : Nat} {e : TypeId} {xs : List Value} (h : w.ownsRow B e 1 (.slice (some ⟨g, 0, none⟩) n c) n xs) : c ≤ maxLen := by
  rcases h.2 with ⟨h2, _⟩ | ⟨g', cap, cur, e1, hg, hh, hn2, hc, _⟩
  · cases h2
  · injection e1 with _ _ e3
    rw [e3]; exact hc

/-- A grid where one of its rows grows: what it was stays. -/
theorem GridTo.grow {w w' : World} {B N K n : Nat} {v u : Value} {p c : Nat → Nat} {X : Nat → List Nat} {l : List Nat} (h : GridTo w B v N K p c X) (hu : w.ownsRow B 5 1 u n (bs l)) (hk : KeepRows w w' u n)
    (hl : ∀ i, i < K → (X i).length ≤ n ∨ Unl (hdr p c X i) u) : GridTo w' B v N K p c X := by
  obtain ⟨⟨vs, h1, h2⟩, h3, h4, h5⟩ := h
  exact ⟨⟨vs, hk _ _ _ _ _ h1 (.inr (unl_types (by decide) h1 hu)), h2⟩, fun i hi => hk _ _ _ _ _ (h3 i hi) (hl i hi), h4, h5⟩
/-- Rows beside rows, the first k of them. -/
def besTo (A U : Nat → List Nat) (k : Nat) : Nat → List Nat := fun j => if j < k then A j ++ U j else A j
theorem besTo_all {A U : Nat → List Nat} {N : Nat} : ∀ j, j < N → besTo A U N j = Gf.bes A U j := fun _ hj => if_pos hj

theorem cut_half {g N c : Nat} (h : 0 < N) (hN : N ≤ 100000) (hc : N + N ≤ c) (w : World) : (Instr.sliceAt 31 (.slice (some ⟨g, 0, none⟩) (N + N) c) (some (.int .i64 N)) none none).run Try.prog w = .ok (.slice (some ⟨g, N, none⟩) N (c - N)) w := by
  have h1 : (N : Int) ≤ ((N + N : Nat) : Int) := by omega
  have h2 : ((N + N : Nat) : Int) ≤ c := by omega
  go_simp
  rw [if_pos (by omega), if_neg (by omega)]

theorem own_some {w : World} {B n : Nat} {v : Value} {xs : List Value} {e : TypeId} (h : w.ownsRow B e 1 v n xs) (hn : 0 < n) : ∃ g c, v = .slice (some ⟨g, 0, none⟩) n c := by
  rcases h.2 with ⟨_, rfl⟩ | ⟨g, cap, cur, rfl, _⟩
  · omega
  · exact ⟨_, _, rfl⟩
/-- The end of an owned row reads as the end of the list. -/
theorem rb_half {w : World} {B g c N : Nat} {l l2 : List Nat} (h : w.ownsRow B 5 1 (.slice (some ⟨g, 0, none⟩) (N + N) c) (N + N) (bs (l ++ l2))) (h1 : l.length = N) (h2 : l2.length = N) (hs : Small l2) (hN : N ≤ 100000) : RB w (some ⟨g, N, none⟩) N (c - N) l2 := by
  have hle := (own_blk h).2.1
  refine ⟨h2, by omega, by omega, hs, fun e => (by cases e), fun i hi => ⟨g, N, rfl, ?_⟩⟩
  have hc := (own_cell h (i := N + i) (by omega)).1
  rw [List.getD_eq_getElem?_getD, List.getElem?_append_right (by omega), ← List.getD_eq_getElem?_getD, h1, Nat.add_sub_cancel_left] at hc
  exact hc

set_option maxHeartbeats 1600000 in
set_option maxRecDepth 100000 in
theorem Inverse_bad {w : World} {a : Option Addr} {N c : Nat} {X : Nat → List Nat} (hN : N ≤ 100000) (h : RR w (.slice a N c) N X) (hno : ¬ (isM N X ∧ colsX N X = N)) :
    Calls Try.prog 74 #[.slice a N c] w fun e w' => e = .returned (.tuple #[.slice none 0 0, .int .i64 2]) ∧ w = w' := by
  by_cases hx : isM N X
  · have H1 := Lib.hid (right_yes hN h hx)
    have H3 := Lib.hid (wide_is hN h hx)
    have hc : colsX N X ≠ N := fun e => hno ⟨hx, e⟩
    have hc2 := hx.2.1
    clear h hno hx
    generalize colsX N X = z at *
    have q : ((z : Int) != (N : Int)) = true := by simp; omega
    have q2 : decide (z = N) = false := by simp; omega
    go_enter Try.func74, Try.ntmps74
    go_wp2_with fail
    refine H1.out.mono ?_
    rintro e w' ⟨rfl, rfl⟩
    go_wp2_with fail
    refine H3.out.mono ?_
    rintro e w' ⟨rfl, rfl⟩
    go_wp2_with fail
    go_ret2
    exact ⟨rfl, rfl⟩
  · have H1 := Lib.hid (right_not hN h hx)
    clear h hno hx
    go_enter Try.func74, Try.ntmps74
    go_wp2_with fail
    refine H1.out.mono ?_
    rintro e w' ⟨rfl, rfl⟩
    go_wp2_with fail
    go_ret2
    exact ⟨rfl, rfl⟩

theorem GridTo.line1 {w : World} {B N K i g d W : Nat} {p c : Nat → Nat} {X : Nat → List Nat} (h : GridTo w B (.slice (some ⟨g, 0, none⟩) N d) N K p c X) (hl : (X i).length = W) (hi : i < K) :
    w.cell? ⟨g, i, none⟩ = some (.slice (some ⟨p i, 0, none⟩) W (c i)) ∧ w.frozen? ⟨g, i, none⟩ = false ∧ w.ownsRow B 5 1 (.slice (some ⟨p i, 0, none⟩) W (c i)) W (bs (X i)) ∧ p i < w.heap.size := by
  obtain ⟨g', d', e, h1, h2, h3, h4, h5, h6, h7, h8⟩ := h.cell hi
  injection e with e _ _
  injection e with e
  injection e with e _ _
  subst e
  have hr := h.row i hi
  unfold hdr at hr
  rw [hl] at h3 hr h8
  exact ⟨h3, h4, hr, h7⟩
/-- What Inverse hands back of a square matrix. -/
def InvGive (w : World) (N : Nat) (A : Nat → List Nat) (e : Ending) (w' : World) : Prop := Below w.heap.size w w' ∧
  ((Gf.rdN A N N < N ∧ e = .returned (.tuple #[.slice none 0 0, .int .i64 7])) ∨ (Gf.rdN A N N = N ∧ ∃ g p d, e = .returned (.tuple #[.slice (some ⟨g, 0, none⟩) N N, .int .i64 0]) ∧ GridTo w' w.heap.size (.slice (some ⟨g, 0, none⟩) N N) N N p d (Gf.invX A N)))
/-- The rows of the inverse, the first k of them cut off. -/
def invTo (A : Nat → List Nat) (N k : Nat) : Nat → List Nat := fun j => if j < k then Gf.invX A N j else Gf.bes (Gf.rdX A N N) (Gf.invX A N) j

/-- A row has grown and is stored back. -/
theorem grid_grow {W6 w7 : World} {B N k g g7 c7 : Nat} {p d : Nat → Nat} {X U : Nat → List Nat} (hX : ∀ i, i < N → (X i).length = N) (hU : ∀ i, (U i).length = N) (hk : k < N)
    (hG : GridTo W6 B (.slice (some ⟨g, 0, none⟩) N N) N N p d (besTo X U k)) (ho : W6.ownsRow B 5 1 (.slice (some ⟨p k, 0, none⟩) N (d k)) N (bs (X k)))
    (ho7 : w7.ownsRow B 5 1 (.slice (some ⟨g7, 0, none⟩) (N + N) c7) (N + N) (bs (X k) ++ bs (U k))) (hk7 : KeepRows W6 w7 (.slice (some ⟨p k, 0, none⟩) N (d k)) N)
    (hb7 : ∀ b, (Value.slice (some ⟨g7, 0, none⟩) (N + N) c7).ownBlock = some b → (Value.slice (some ⟨p k, 0, none⟩) N (d k)).ownBlock = some b ∨ b = W6.heap.size) :
    GridTo w7 B (.slice (some ⟨g, 0, none⟩) N N) N N p d (besTo X U k) ∧ ∃ p' d', GridTo (w7.setCell ⟨g, k, none⟩ (.slice (some ⟨g7, 0, none⟩) (N + N) c7)) B (.slice (some ⟨g, 0, none⟩) N N) N N p' d' (besTo X U (k + 1)) := by
  have hlen : ∀ i, i < N → i ≠ k → Unl (hdr p d (besTo X U k) i) (.slice (some ⟨p k, 0, none⟩) N (d k)) := fun i hi hne b e1 e2 => by
    have e1 : some (p i) = some b := e1
    have e2 : some (p k) = some b := e2
    exact hne (hG.inj i k hi hk (by injection e1 with e1; injection e2 with e2; rw [e1, e2]))
  have h7 := hG.grow ho hk7 fun i hi => by
    by_cases e : i = k
    · left
      unfold besTo
      rw [if_neg (by omega), hX i hi]
      exact Nat.le_refl N
    · exact .inr (hlen i hi e)
  refine ⟨h7, ?_⟩
  have hl : (X k ++ U k).length = N + N := by rw [List.length_append, hX k hk, hU k]
  have h8 := h7.put (l := X k ++ U k) (q := g7) (d := c7) rfl hk (by omega) (by rw [hl, bs_append]; exact ho7) (fun j hj hne e => ?_) rfl
  · rw [show max N (k + 1) = N by omega, hl] at h8
    refine ⟨_, _, h8.congr fun i hi => ?_⟩
    unfold besTo
    by_cases e : i = k
    · subst e; rw [if_pos (by omega), if_pos rfl]
    · rw [if_neg e]
      by_cases e2 : i < k
      · rw [if_pos e2, if_pos (by omega)]
      · rw [if_neg e2, if_neg (by omega)]
  · rcases hb7 g7 rfl with h | h
    · have h : some (p k) = some g7 := h
      injection h with h
      exact hne (hG.inj j k hj hk (by rw [e, h]))
    · obtain ⟨_, _, cur, hcur, _⟩ := own_blk (hG.row j hj)
      have := lt_of_block hcur
      omega

set_option maxHeartbeats 6000000 in
set_option maxRecDepth 100000 in
theorem Inverse_any {w : World} {a : Option Addr} {N c : Nat} {X : Nat → List Nat} (h : RR w (.slice a N c) N X) (hx : isM N X) (hxy : colsX N X = N) :
    Calls Try.prog 74 #[.slice a N c] w (InvGive w N (cut N X N)) := by
  obtain ⟨i0, hi, hz0, hz1, hz2⟩ := info_parts info5
  have hN : N ≤ 255 := hx.1
  have hlx := isM_len hx
  rw [hxy] at hlx
  have hw0 := wide_is (by omega) h hx
  rw [hxy] at hw0
  have hcp := copied_any (by omega) (isM_small hx) h
  have H1 := Lib.hid (right_yes (by omega) h hx)
  have H3 := Lib.hid hw0
  have HCP := Lib.hid hcp
  have HLX := Lib.hid hlx
  have HLong := Lib.hid (cut_long (W := N) hlx)
  have HByt := Lib.hid (cut_byt (W := N) h.small)
  clear hx hxy hlx hw0 h hcp
  have qq : ((N : Int) != (N : Int)) = false := by simp
  go_enter Try.func74, Try.ntmps74
  go_wp2_with fail
  refine H1.out.mono ?_
  rintro e w' ⟨rfl, rfl⟩
  go_wp2_with fail
  refine H3.out.mono ?_
  rintro e w' ⟨rfl, rfl⟩
  clear H1 H3 qq
  go_wp2_with fail
  refine HCP.out.mono ?_
  rintro e w3 ⟨g, p, d, rfl, hG, hB3⟩
  have HG3 := Lib.hid (hG.congr (Y := besTo X (Gf.unitX N) 0) fun i _ => if_neg (Nat.not_lt_zero _))
  have HB3 := Lib.hid hB3
  clear hG hB3 HCP
  go_wp2_with fail
  go_loopw [22] (fun i wr => ∃ k : Nat, k ≤ N ∧ i = .int .i64 k ∧ (∃ p d, Hid (GridTo wr w.heap.size (.slice (some ⟨g, 0, none⟩) N N) N N p d (besTo X (Gf.unitX N) k))) ∧ Hid (Below w.heap.size w wr)) (fun i _ => N - (intOf i).toNat)
  case atStart => exact ⟨0, Nat.zero_le _, rfl, ⟨_, _, HG3⟩, HB3⟩
  case round =>
    clear HG3 HB3 p d
    obtain ⟨k, hk, rfl, ⟨p, d, HG⟩, HB⟩ := hrel
    by_cases hk1 : k < N
    · have hsw : w.heap.size ≤ wr.heap.size := HB.out.size
      go_wp2_with (refine wpList_make_full _ rfl (.tmp 26) (.tmp 26) 31 rfl wr.heap.size 5 i0 (.int .u8 0) 1 Try.underlying31 hi hz0 hz1 .i64 .i64 _ _ N rfl rfl (by omega) (by omega) ?_ ?_ (Nat.le_refl _) ?_)
      · rw [hz2]; omega
      · unfold maxLen; omega
      intro w5 hown5 hg5
      have hB5 : Below wr.heap.size wr w5 := (Below.refl _ _).grown hg5 (Nat.le_refl _) (fun j e => by cases e)
      have hz := own_zeros hown5
      obtain ⟨hc5, hf5⟩ := own_cell hz (i := k) hk1
      have hgq : g ≠ wr.heap.size := Nat.ne_of_lt HG.out.gl.2
      have hu6 : (w5.setCell ⟨wr.heap.size, k, none⟩ (.int .u8 1)).ownsRow wr.heap.size 5 1 (.slice (some ⟨wr.heap.size, 0, none⟩) N N) N (bs (Gf.unitX N k)) := own_set hz
      have hB6 : Below wr.heap.size wr (w5.setCell ⟨wr.heap.size, k, none⟩ (.int .u8 1)) := hB5.setCell (Nat.le_refl _) _
      have e0 : besTo X (Gf.unitX N) k k = X k := if_neg (Nat.lt_irrefl k)
      obtain ⟨hc, hf, _, _⟩ := (HG.out.below hB5).line1 (W := N) (by rw [e0]; exact HLX.out k hk1) hk1
      obtain ⟨_, _, hrow, hlt⟩ := (HG.out.below hB6).line1 (W := N) (by rw [e0]; exact HLX.out k hk1) hk1
      rw [e0] at hrow
      have HB6 := Lib.hid hB6
      have HG6 := Lib.hid (HG.out.below hB6)
      have HR6 := Lib.hid hrow
      have HNW := Lib.hid (hu6.cells (g := wr.heap.size) rfl)
      have HBL := Lib.hid (show (bs (Gf.unitX N k)).length = N * 1 by rw [length_bs, Gf.unitX_len, Nat.mul_one])
      have hs6 : w.heap.size ≤ (w5.setCell ⟨wr.heap.size, k, none⟩ (.int .u8 1)).heap.size := Nat.le_trans hsw hB6.size
      have HS6 := Lib.hid hs6
      have HPB := Lib.hid (own_blk hrow).1
      clear hown5 hg5 hB5 hz hu6 hB6 hrow e0 hs6 hlt
      go_wp2_with (at_builtin; refine wpList_append_own3 _ rfl (.tmp 36) (.tmp 37) 31 rfl w.heap.size 5 i0 (.int .u8 0) 1 Try.underlying31 hi hz0 hz1 hz2 rfl (.slice (some ⟨p k, 0, none⟩) N (d k)) N (bs (X k)) rfl HR6.out ⟨wr.heap.size, 0, none⟩ N N (bs (Gf.unitX N k)) rfl HBL.out HNW.out (bs_one _) (by unfold maxLen; omega) (by omega) HS6.out ?_)
      intro v7 w7 ho7 hg7 hb7 hk7
      obtain ⟨g7, c7, rfl⟩ := own_some ho7 (by omega)
      obtain ⟨hG7, p7, d7, hG8⟩ := grid_grow HLX.out (Gf.unitX_len N) hk1 HG6.out HR6.out ho7 hk7 (fun b e => (hb7 b e).imp id fun h => by rw [h]; simp)
      obtain ⟨⟨u, hu⟩, hfz, _, _⟩ := hG7.slot hk1
      have HB7 := Lib.hid (((HB.out.trans (HB6.out.mono hsw)).grown hg7 HS6.out (fun j e => by injection e with e; rw [← e]; exact HPB.out)).setCell (p := ⟨g, k, none⟩) HG6.out.gl.1 (.slice (some ⟨g7, 0, none⟩) (N + N) c7))
      have HG8 := Lib.hid hG8
      clear ho7 hg7 hb7 hk7 hG7 hG8 HG6 HR6 HNW HBL HB6 HS6 HPB hgq
      go_wp2_with fail
      go_roundw
      case rel => exact ⟨k + 1, by omega, by go_num, ⟨p7, d7, HG8⟩, HB7⟩
      case measure => simp [intOf]; omega
    · obtain rfl : k = N := by omega
      have HG9 := Lib.hid (HG.out.congr (Y := Gf.bes (cut k X k) (Gf.unitX k)) fun i hi => by unfold besTo Gf.bes; rw [if_pos hi, cut_at hi])
      clear HG
      go_wp2_with fail
      refine (new_any _).mono ?_
      rintro e w8 ⟨pf, rfl, hpf, hf8, hB8⟩
      have hL2 := Gf.bes_long HLong.out (fun r => Gf.unitX_len k r)
      have hB2 := Gf.bes_byt HByt.out (Gf.unitX_byt k)
      have hst := steps_any (C := k) hf8 (HG9.out.below hB8) (HG9.out.below hB8).gl.2 hL2 hB2 (by omega) (by omega) (by omega)
      obtain ⟨r1, r2⟩ := Gf.rd_bes (B := Gf.unitX k) (R := k) HLong.out k (Nat.le_refl k)
      rw [r1, r2] at hst
      have HST := Lib.hid hst
      have HB8 := Lib.hid (HB.out.trans (hB8.mono HB.out.size))
      have HG8 := Lib.hid (HG9.out.below hB8)
      have HRL := Lib.hid (Gf.rdN_le (cut k X k) k k).1
      clear hf8 hB8 hL2 hB2 hst r1 r2 HG9
      have hrl := HRL.out
      obtain ⟨m, hm⟩ : ∃ m, m = Gf.rdN (cut k X k) k k := ⟨_, rfl⟩
      rw [← hm] at HST hrl
      have HM := Lib.hid hm
      clear hm HRL
      go_wp2_with fail
      refine HST.out.mono ?_
      rintro e w9 ⟨rfl, ⟨p9, d9, hG9⟩, hK9⟩
      have HB9 := Lib.hid (HB8.out.trans (off_below hK9 HG8.out HB8.out.size))
      have HG9 := Lib.hid hG9
      clear hG9 hK9 HST HG8 HB8
      by_cases hmk : m < k
      · have HMK := Lib.hid hmk
        go_wp2_with fail
        go_ret2
        exact ⟨HB9.out, .inl ⟨by rw [← HM.out]; exact HMK.out, rfl⟩⟩
      · obtain rfl : m = k := by omega
        have hmm : decide ((m : Int) < (m : Int)) = false := by simp
        have HG0 := Lib.hid (HG9.out.congr (Y := invTo (cut m X m) m 0) fun i _ => if_neg (Nat.not_lt_zero i))
        have HIL := Lib.hid (Gf.invX_long (cut m X m) m)
        have HIB := Lib.hid (Gf.invX_byt (cut m X m) m)
        have HRX := Lib.hid (HLong.out.rdX m m)
        clear HG9
        go_wp2_with fail
        go_loopw [52] (fun i wr => ∃ k : Nat, k ≤ m ∧ i = .int .i64 k ∧ (∃ p d, Hid (GridTo wr w.heap.size (.slice (some ⟨g, 0, none⟩) m m) m m p d (invTo (cut m X m) m k))) ∧ Hid (Below w.heap.size w wr)) (fun i _ => m - (intOf i).toNat)
        case atStart => exact ⟨0, Nat.zero_le _, rfl, ⟨_, _, HG0⟩, HB9⟩
        case round =>
          clear HG0 HB9 HB p d p9 d9
          obtain ⟨k, hk, rfl, ⟨p, d, HG⟩, HB⟩ := hrel
          by_cases hk1 : k < m
          · have e0 : invTo (cut m X m) m k k = Gf.rdX (cut m X m) m m k ++ Gf.invX (cut m X m) m k := if_neg (Nat.lt_irrefl k)
            have hl0 : (invTo (cut m X m) m k k).length = m + m := by rw [e0, List.length_append, HRX.out k, HIL.out k]
            obtain ⟨hc, hf, hrow, hlt⟩ := HG.out.line1 hl0 hk1
            rw [e0] at hrow
            have hle := (own_blk hrow).2.1
            have hcut := fun W => cut_half (g := p k) (by omega) (by omega) hle W
            have hcl := clone_any (rb_half hrow (HRX.out k) (HIL.out k) (byt_small HIB.out k) (by omega))
            have HCL := Lib.hid hcl
            have hsw : w.heap.size ≤ wr.heap.size := HB.out.size
            have hm0 : 0 < m := by omega
            clear hrow hcl e0 hl0
            go_wp2_with fail
            refine HCL.out.mono ?_
            rintro e w10 ⟨v10, rfl, ho10, hB10⟩
            obtain ⟨g10, c10, rfl⟩ := own_some ho10 hm0
            obtain ⟨⟨u, hu⟩, hfz, _, _⟩ := (HG.out.below hB10).slot hk1
            have hpt := (HG.out.below hB10).put (i := k) (l := Gf.invX (cut m X m) m k) (q := g10) (d := c10) rfl hk1 (by omega) (by rw [HIL.out k]; exact own_mono ho10 hsw) (fun j hj _ e => by
              obtain ⟨_, _, cur, hcur, _⟩ := own_blk (HG.out.row j hj)
              have := lt_of_block hcur
              have := (own_blk ho10).1
              omega) rfl
            rw [show max m (k + 1) = m by omega, HIL.out k] at hpt
            have HG' : ∃ p d, Hid (GridTo (w10.setCell ⟨g, k, none⟩ (.slice (some ⟨g10, 0, none⟩) m c10)) w.heap.size (.slice (some ⟨g, 0, none⟩) m m) m m p d (invTo (cut m X m) m (k + 1))) := ⟨_, _, hpt.congr fun i hi => by
              unfold invTo
              by_cases e : i = k
              · subst e; simp
              · by_cases e2 : i < k
                · rw [if_neg e, if_pos e2, if_pos (by omega)]
                · rw [if_neg e, if_neg e2, if_neg (by omega)]⟩
            have HB' := Lib.hid ((HB.out.trans (hB10.mono hsw)).setCell (p := ⟨g, k, none⟩) HG.out.gl.1 (.slice (some ⟨g10, 0, none⟩) m c10))
            have HGG := Lib.hid HG'
            clear hpt HG' ho10 hB10 HCL hcut HG
            go_wp2_with fail
            go_roundw
            case rel => exact ⟨k + 1, by omega, by go_num, HGG.out, HB'⟩
            case measure => simp [intOf]; omega
          · obtain rfl : k = m := by omega
            have HF := Lib.hid (HG.out.congr (Y := Gf.invX (cut k X k) k) fun i hi => (if_pos hi).symm)
            clear HG
            go_wp2_with fail
            go_ret2
            exact ⟨HB.out, .inr ⟨HM.out.symm, _, _, _, rfl, HF.out⟩⟩
end Go.Proofs.Ytokeoodkioobdaa
