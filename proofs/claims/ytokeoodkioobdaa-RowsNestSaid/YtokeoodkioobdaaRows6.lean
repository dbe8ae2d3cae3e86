/- The walks of rows' Mul and Apply. Conditions: there are at most 100000 rows. -/
import Derived.Test.YtokeoodkioobdaaRows5
namespace Go.Proofs.Ytokeoodkioobdaa
open Go.RowKit

def mulOk (N M : Nat) (X Y : Nat → List Nat) : Prop := isM N X ∧ isM M Y ∧ colsX N X = M
/-- A product's rows. -/
def mulX (X Y : Nat → List Nat) (M C : Nat) : Nat → List Nat := fun r => Gf.mmr (X r) Y C M

theorem right_yes {w : World} {a : Option Addr} {N c : Nat} {X : Nat → List Nat} (hN : N ≤ 100000) (h : RR w (.slice a N c) N X) (hm : isM N X) : Calls Try.prog 80 #[.slice a N c] w fun e w' => e = .returned (.bool true) ∧ w = w' := by
  have := Right_any hN h
  rwa [decide_eq_true hm] at this
theorem right_not {w : World} {a : Option Addr} {N c : Nat} {X : Nat → List Nat} (hN : N ≤ 100000) (h : RR w (.slice a N c) N X) (hm : ¬ isM N X) : Calls Try.prog 80 #[.slice a N c] w fun e w' => e = .returned (.bool false) ∧ w = w' := by
  have := Right_any hN h
  rwa [decide_eq_false hm] at this
theorem wide_is {w : World} {a : Option Addr} {N c : Nat} {X : Nat → List Nat} (hN : N ≤ 100000) (h : RR w (.slice a N c) N X) (hm : isM N X) : Calls Try.prog 100 #[.slice a N c] w fun e w' => e = .returned (.int .i64 (colsX N X : Nat)) ∧ w = w' := by
  have := wide_any hN h
  rwa [show wideX N X = colsX N X from if_pos hm.2.2] at this

set_option maxHeartbeats 1600000 in
set_option maxRecDepth 100000 in
theorem Mul_bad {w : World} {a b : Option Addr} {N M c d : Nat} {X Y : Nat → List Nat} (hN : N ≤ 100000) (hM : M ≤ 100000) (h : RR w (.slice a N c) N X) (h2 : RR w (.slice b M d) M Y) (hno : ¬ mulOk N M X Y) :
    Calls Try.prog 69 #[.slice a N c, .slice b M d] w fun e w' => e = .returned (.tuple #[.slice none 0 0, .int .i64 2]) ∧ w = w' := by
  by_cases hx : isM N X
  · have H1 := Lib.hid (right_yes hN h hx)
    by_cases hy : isM M Y
    · have H2 := Lib.hid (right_yes hM h2 hy)
      have H3 := Lib.hid (wide_is hN h hx)
      have hc : colsX N X ≠ M := fun e => hno ⟨hx, hy, e⟩
      clear h h2 hno hx hy
      generalize colsX N X = z at *
      have q : ((z : Int) != (M : Int)) = true := by simp; omega
      have q2 : decide (z = M) = false := by simp; omega
      go_enter Try.func69, Try.ntmps69
      go_wp2_with fail
      refine H1.out.mono ?_
      rintro e w' ⟨rfl, rfl⟩
      go_wp2_with fail
      refine H2.out.mono ?_
      rintro e w' ⟨rfl, rfl⟩
      go_wp2_with fail
      refine H3.out.mono ?_
      rintro e w' ⟨rfl, rfl⟩
      go_wp2_with fail
      go_ret2
      exact ⟨rfl, rfl⟩
    · have H2 := Lib.hid (right_not hM h2 hy)
      clear h h2 hno hx hy
      go_enter Try.func69, Try.ntmps69
      go_wp2_with fail
      refine H1.out.mono ?_
      rintro e w' ⟨rfl, rfl⟩
      go_wp2_with fail
      refine H2.out.mono ?_
      rintro e w' ⟨rfl, rfl⟩
      go_wp2_with fail
      go_ret2
      exact ⟨rfl, rfl⟩
  · have H1 := Lib.hid (right_not hN h hx)
    clear h h2 hno hx
    go_enter Try.func69, Try.ntmps69
    go_wp2_with fail
    refine H1.out.mono ?_
    rintro e w' ⟨rfl, rfl⟩
    go_wp2_with fail
    go_ret2
    exact ⟨rfl, rfl⟩

/-- The rows of a product, the first r of them, and k steps of the next. -/
def mulTo (X Y : Nat → List Nat) (M C r k : Nat) : Nat → List Nat := fun j => if j < r then Gf.mmr (X j) Y C M else if j = r then Gf.mmr (X r) Y C k else Gf.mmr (X j) Y C 0
theorem mulTo_long (X Y : Nat → List Nat) (M C r k : Nat) : Gf.Long (mulTo X Y M C r k) C := fun j => by
  unfold mulTo; split
  · exact Gf.mmr_len _ _ _ _
  · split <;> exact Gf.mmr_len _ _ _ _
theorem mulTo_next (X Y : Nat → List Nat) (M C r : Nat) : mulTo X Y M C r M = mulTo X Y M C (r + 1) 0 := by
  funext j
  unfold mulTo
  by_cases h : j < r
  · rw [if_pos h, if_pos (by omega)]
  · rw [if_neg h]
    by_cases e : j = r
    · subst e; rw [if_pos rfl, if_pos (by omega)]
    · rw [if_neg e, if_neg (by omega)]
      by_cases e2 : j = r + 1
      · subst e2; rw [if_pos rfl]
      · rw [if_neg e2]

set_option maxHeartbeats 3200000 in
set_option maxRecDepth 100000 in
theorem Mul_ok {w : World} {a b : Option Addr} {N M c d : Nat} {X Y : Nat → List Nat} (h : RR w (.slice a N c) N X) (h2 : RR w (.slice b M d) M Y) (hok : mulOk N M X Y) :
    Calls Try.prog 69 #[.slice a N c, .slice b M d] w fun e w' => ∃ g p q, e = .returned (.tuple #[.slice (some ⟨g, 0, none⟩) N N, .int .i64 0]) ∧ GridTo w' w.heap.size (.slice (some ⟨g, 0, none⟩) N N) N N p q (mulX X Y M (colsX M Y)) ∧ Below w.heap.size w w' := by
  obtain ⟨hx, hy, hxy⟩ := hok
  have hN : N ≤ 255 := hx.1
  have hM : M ≤ 255 := hy.1
  have hC : colsX M Y ≤ 255 := hy.2.1
  have hsx := h.small
  have hsy := h2.small
  have hlx := isM_len hx
  have hly := isM_len hy
  rw [hxy] at hlx
  have hw0 := wide_is (by omega) h hx
  rw [hxy] at hw0
  have hw1 : ∀ W, Below w.heap.size w W → Hid (Calls Try.prog 100 #[.slice b M d] W fun e w' => e = .returned (.int .i64 (colsX M Y : Nat)) ∧ W = w') := fun W hW => wide_is (by omega) (h2.below hW) hy
  have H1 := Lib.hid (right_yes (by omega) h hx)
  have H2 := Lib.hid (right_yes (by omega) h2 hy)
  have H3 := Lib.hid hw0
  have H4 := Lib.hid hw1
  have HX := Lib.hid h
  have HY := Lib.hid h2
  have HSX := Lib.hid hsx
  have HSY := Lib.hid hsy
  have HLX := Lib.hid hlx
  have HLY := Lib.hid hly
  clear hx hy hxy hsx hsy hlx hly hw0 hw1 h h2
  obtain ⟨C, hCe⟩ : ∃ C, C = colsX M Y := ⟨_, rfl⟩
  rw [← hCe] at hC H4 HLY ⊢
  clear hCe
  have qq : ((M : Int) != (M : Int)) = false := by simp
  go_enter Try.func69, Try.ntmps69
  go_wp2_with fail
  refine H1.out.mono ?_
  rintro e w' ⟨rfl, rfl⟩
  go_wp2_with fail
  refine H2.out.mono ?_
  rintro e w' ⟨rfl, rfl⟩
  go_wp2_with fail
  refine H3.out.mono ?_
  rintro e w' ⟨rfl, rfl⟩
  clear H1 H2 H3 qq
  go_wp2_with fail
  refine (new_any _).mono ?_
  rintro e w1 ⟨pf, rfl, hpf, hf, hB1⟩
  have HB1 := Lib.hid hB1
  have HF1 := Lib.hid hf
  clear hf hB1
  go_wp2_with fail
  refine (H4.out _ ((HB1.out.alloc HB1.out.size _))).out.mono ?_
  rintro e w' ⟨rfl, rfl⟩
  obtain ⟨W2, hW2⟩ : ∃ W2, W2 = w1.alloc (.cells #[.pointer (some ⟨pf, 0, none⟩)] 113) := ⟨_, rfl⟩
  have HF2 := Lib.hid (show IsF W2 pf by rw [hW2]; exact HF1.out.below ((Below.refl _ _).alloc (Nat.le_refl _) _) HF1.out.lt)
  have HBX := Lib.hid (show W2.heap[w1.heap.size]? = some (.cells #[.pointer (some ⟨pf, 0, none⟩)] 113 (0, 0)) by rw [hW2]; exact heap_alloc_new _ _)
  have HB2 := Lib.hid (show Below w.heap.size w W2 by rw [hW2]; exact HB1.out.alloc HB1.out.size _)
  rw [← hW2]
  clear hW2 HF1 HB1 H4
  generalize w1.heap.size = bx at *
  have HX2 := Lib.hid (HX.out.below HB2.out)
  have HY2 := Lib.hid (HY.out.below HB2.out)
  clear HX HY
  go_wp2_with fail
  refine (blank_any (by omega) (by omega)).mono ?_
  rintro e w3 ⟨g, p, q, rfl, hG, hB3⟩
  have HG3 := Lib.hid (hG.congr (Y := mulTo X Y M C 0 0) fun i _ => by
    unfold mulTo
    rw [if_neg (Nat.not_lt_zero _)]
    split <;> exact (Gf.mmr_zero _ _ _))
  have HB3 := Lib.hid hB3
  clear hG hB3
  go_wp2_with fail
  go_loopw [35] (fun i wr => ∃ r : Nat, r ≤ N ∧ i = .int .i64 r ∧ Hid (GridTo wr W2.heap.size (.slice (some ⟨g, 0, none⟩) N N) N N p q (mulTo X Y M C r 0)) ∧ Hid (Below W2.heap.size W2 wr)) (fun i _ => N - (intOf i).toNat)
  case atStart => exact ⟨0, Nat.zero_le _, rfl, HG3, HB3⟩
  case round =>
    clear HG3 HB3
    obtain ⟨r, hr, rfl, HG, HB⟩ := hrel
    by_cases hr1 : r < N
    · obtain ⟨a', c', e, hX⟩ := HX2.out.shape
      injection e with e1 e2 e3
      subst e1; subst e3; clear e2
      obtain ⟨b1, o1, a1, n1, c1, rfl, hc0, hr1'⟩ := hX r hr1
      have hc1 := (HB.out.cell (p := ⟨b1, o1 + r, none⟩) (block_lt_of_cell hc0)).trans hc0
      clear hc0
      have hn1 : n1 = M := by rw [← hr1'.len]; exact HLX.out r hr1
      subst hn1
      have HR1 := Lib.hid hr1'
      have HB2' := Lib.hid HB.out
      clear hX hr1'
      obtain ⟨wo, rfl⟩ : ∃ wo, wo = wr := ⟨_, rfl⟩
      go_wp2_with fail
      go_loopw [43] (fun i wr => ∃ k : Nat, k ≤ n1 ∧ i = .int .i64 k ∧ Hid (GridTo wr W2.heap.size (.slice (some ⟨g, 0, none⟩) N N) N N p q (mulTo X Y n1 C r k)) ∧ Hid (Below W2.heap.size W2 wr)) (fun i _ => n1 - (intOf i).toNat)
      case atStart => exact ⟨0, Nat.zero_le _, rfl, HG, HB⟩
      case round =>
        clear HG HB
        obtain ⟨k, hk, rfl, HG, HB⟩ := hrel
        by_cases hk1 : k < n1
        · obtain ⟨a', c', e, hY⟩ := HY2.out.shape
          injection e with e1 e2 e3
          subst e1; subst e3; clear e2
          obtain ⟨b2, o2, a2, n2, c2, rfl, hd0, hr2⟩ := hY k hk1
          have hd1 := (HB.out.cell (p := ⟨b2, o2 + k, none⟩) (block_lt_of_cell hd0)).trans hd0
          have hn2 : n2 = C := by rw [← hr2.len]; exact HLY.out k hk1
          subst hn2
          obtain ⟨b3, o3, rfl, hx3⟩ := (HR1.out.below HB.out).at_ k hk1
          obtain ⟨l1, l2, l3, l4, l5, l6⟩ := HG.out.line (mulTo_long X Y n1 n2 r k) hr1
          have hpl := (own_blk l3).1
          have hbx : wr.cell? ⟨bx, 0, none⟩ = some (.pointer (some ⟨pf, 0, none⟩)) := (HB.out.cell (p := ⟨bx, 0, none⟩) (lt_of_block HBX.out)).trans ((cell_of_block HBX.out).trans rfl)
          have hff : IsF wr pf := HF2.out.below HB.out HF2.out.lt
          have hyk : Small (Y k) := HSY.out k hk1
          have hxr : Small (X r) := HSX.out r hr1
          have hms : Small (mulTo X Y n1 n2 r k r) := by
            unfold mulTo
            rw [if_neg (Nat.lt_irrefl r), if_pos rfl]
            exact small_at0.2 fun c => Gf.mmr_byt (small_at0.1 hxr) c
          have hadd : ∀ q2, Hid (Calls Try.prog 102 #[.agg #[.pointer (some ⟨pf, 0, none⟩)], .slice (some ⟨p r, 0, none⟩) n2 (q r), .slice a2 n2 c2, .int .u8 ((X r).getD k 0 : Nat)] (wr.drewN q2) fun e w' => (∃ v, e = .returned v) ∧ w'.ownsRow W2.heap.size 5 1 (.slice (some ⟨p r, 0, none⟩) n2 (q r)) n2 (bs (Gf.ad ((X r).getD k 0) (mulTo X Y n1 n2 r k r) (Y k))) ∧ Only (p r) (wr.drewN q2) w') := fun q2 =>
            addr_any (hxr k) (hff.drewN q2) l3 hms ((hr2.below HB.out).drewN q2) (fun h0 b off e => by
              obtain ⟨b', o', e', hc'⟩ := hr2.at_ 0 h0
              rw [e] at e'
              injection e' with e'
              injection e' with e' _ _
              have := block_lt_of_cell hc'
              have hlt : b' < W2.heap.size := this
              omega) (by omega)
          have hst : ∀ q2 w5, w5.ownsRow W2.heap.size 5 1 (.slice (some ⟨p r, 0, none⟩) n2 (q r)) n2 (bs (Gf.ad ((X r).getD k 0) (mulTo X Y n1 n2 r k r) (Y k))) → Only (p r) (wr.drewN q2) w5 → Hid (GridTo w5 W2.heap.size (.slice (some ⟨g, 0, none⟩) N N) N N p q (mulTo X Y n1 n2 r (k + 1))) ∧ Hid (Below W2.heap.size W2 w5) := fun q2 w5 h5 h6 => by
            refine ⟨((HG.out.drewN q2).turn (l := Gf.ad ((X r).getD k 0) (mulTo X Y n1 n2 r k r) (Y k)) hr1 h6 ?_ ?_).congr fun j _ => ?_, (below_drewN HB.out q2).trans (h6.below _ hpl HB.out.size)⟩
            · rw [Gf.ad_len (by rw [mulTo_long, HLY.out k hk1])]
            · rw [mulTo_long]; exact h5
            · have e1 : mulTo X Y n1 n2 r k r = Gf.mmr (X r) Y n2 k := by unfold mulTo; rw [if_neg (Nat.lt_irrefl r), if_pos rfl]
              rw [e1, ← at0_getD, ← Gf.mmr_step (HLY.out k hk1) (small_at0.1 hxr k) (small_at0.1 hyk)]
              unfold mulTo
              by_cases e : j = r
              · subst e; simp
              · simp [e]
          have HADD := Lib.hid hadd
          have HSTP := Lib.hid hst
          clear hadd hst l3 hpl hd0 hr2 hY hff hyk hxr hms HG HB
          generalize (X r).getD k 0 = y at *
          go_wp2_with fail
          refine region_quiet_tail 10 (by kernel_rfl) (by kernel_rfl) ?_
          simp only [List.take_succ_cons, List.take_zero, List.drop_succ_cons, List.drop_zero]
          repeat (go_big_quiet_step (fail))
          refine wpQuiet_nil ?_
          intro _ hw'
          obtain ⟨nq, rfl⟩ := hw'
          go_wp2_with (go_at_call 102; ((with_reducible refine (HADD.out _).out.mono ?_); rintro e w5 ⟨⟨v5, rfl⟩, ho5, hO5⟩; have HS5 := HSTP.out _ _ ho5 hO5; clear ho5 hO5))
          go_roundw
          case rel => exact ⟨k + 1, by omega, by go_num, HS5.1, HS5.2⟩
          case measure => simp [intOf]; omega
        · obtain rfl : k = n1 := by omega
          have HG' := Lib.hid (show GridTo wr W2.heap.size (.slice (some ⟨g, 0, none⟩) N N) N N p q (mulTo X Y k C (r + 1) 0) by rw [← mulTo_next]; exact HG.out)
          clear HG
          go_wp2_with fail
          go_roundw
          case rel => exact ⟨r + 1, by omega, by go_num, HG', HB⟩
          case measure => simp [intOf]; omega
    · obtain rfl : r = N := by omega
      have HF := Lib.hid (HG.out.congr (Y := mulX X Y M C) fun i hi => by unfold mulTo mulX; rw [if_pos hi])
      have HFG := Lib.hid (HF.out.mono HB2.out.size)
      have HFB := Lib.hid (HB2.out.trans (HB.out.mono HB2.out.size))
      clear HG HF
      go_wp2_with fail
      go_ret2
      exact ⟨_, _, _, rfl, HFG.out, HFB.out⟩
end Go.Proofs.Ytokeoodkioobdaa
