/- The walks of rows' copied and blank. Conditions: there are at most 100000 rows, each of at most 100000 places. -/
import Derived.Test.YtokeoodkioobdaaRows2
namespace Go.Proofs.Ytokeoodkioobdaa
open Go.RowKit

/-- A row is made, stored as the next one, and filled. -/
theorem grid_lay {wr w5 w6 : World} {B N k g d n : Nat} {p c : Nat → Nat} {X : Nat → List Nat} {z : List Nat} (hG : GridTo wr B (.slice (some ⟨g, 0, none⟩) N d) N k p c X) (hk : k < N) (hB : B ≤ wr.heap.size) (h5 : Below wr.heap.size wr w5)
    (hz : w5.ownsRow wr.heap.size 5 1 (.slice (some ⟨wr.heap.size, 0, none⟩) n n) n (bs z)) (hh : w6.heap[wr.heap.size]? = some (.cells (bs (X k)).toArray 5 (0, 0)))
    (h6 : Below wr.heap.size (w5.setCell ⟨g, k, none⟩ (.slice (some ⟨wr.heap.size, 0, none⟩) n n)) w6) (hl : (X k).length = n) (hn : n ≤ 100000) :
    ∃ p' c', GridTo w6 B (.slice (some ⟨g, 0, none⟩) N d) N (k + 1) p' c' X := by
  obtain ⟨_, _, _, hg⟩ := hG.slot hk
  have hp : ∀ j, j < k → p j < wr.heap.size := fun j hj => by
    obtain ⟨_, _, cur, hcur, _⟩ := own_blk (hG.row j hj)
    exact lt_of_block hcur
  have hzl := own_len hz
  subst hzl
  have h1 := (hG.below h5).put rfl hk (Nat.le_refl _) (own_mono hz hB) (fun j hj _ => Nat.ne_of_lt (hp j hj)) rfl
  rw [show max k (k + 1) = k + 1 by omega] at h1
  refine ⟨_, _, (h1.turn2 (i := k) (l := X k) (Nat.lt_succ_self k) (fun g' e => ?_) (fun j hj hne => ?_) ?_ ?_).congr fun i hi => ?_⟩
  · injection e with e
    rw [← e]
    exact h6.block g hg
  · rw [if_neg hne]
    exact h6.block _ (hp j (by omega))
  · rw [if_pos rfl, hl]
  · rw [if_pos rfl, if_pos rfl, if_pos rfl]
    exact own_full hh hl (by unfold maxLen; omega) hB
  · by_cases e : i = k
    · rw [if_pos e, e]
    · rw [if_neg e, if_neg e]

theorem splice_full {l : List Nat} {n : Nat} (h : l.length = n) : splice (bs (List.replicate n 0)) 0 (bs l) = bs l := by
  subst h
  simp [splice, bs]

set_option maxHeartbeats 3200000 in
set_option maxRecDepth 100000 in
/-- A copy, in memory of its own. -/
theorem copied_any {w : World} {a : Option Addr} {N c : Nat} {X : Nat → List Nat} (hN : N ≤ 100000) (hX : ∀ i, i < N → (X i).length ≤ 100000) (h : RR w (.slice a N c) N X) :
    Calls Try.prog 104 #[.slice a N c] w fun e w' => ∃ g p d, e = .returned (.slice (some ⟨g, 0, none⟩) N N) ∧ GridTo w' w.heap.size (.slice (some ⟨g, 0, none⟩) N N) N N p d X ∧ Below w.heap.size w w' := by
  obtain ⟨i0, hi, hz0, hz1, hz2⟩ := info_parts info5
  obtain ⟨i31, hj, hy0, hy1, hy2⟩ := info_parts info31
  have H := Lib.hid h
  have HXL := Lib.hid hX
  clear h hX
  go_enter Try.func104, Try.ntmps104
  go_wp2_with (refine wpList_make_full _ rfl (.tmp 7) (.tmp 7) 112 rfl w.heap.size 31 i31 (.slice none 0 0) 1 Try.underlying112 hj hy0 hy1 .i64 .i64 _ _ N rfl rfl (by omega) (by omega) ?_ ?_ (Nat.le_refl _) ?_)
  · rw [hy2]; omega
  · unfold maxLen; omega
  intro w1 hown1 hg1
  have HG1 := Lib.hid (GridTo.start (N := N) hown1 (fun _ => 0) (fun _ => 0) X)
  have HB1 := Lib.hid ((Below.refl w.heap.size w).grown hg1 (Nat.le_refl _) (fun j e => by cases e))
  clear hown1 hg1
  go_wp2_with fail
  go_loopw [11] (fun i wr => ∃ k : Nat, k ≤ N ∧ i = .int .i64 k ∧ (∃ p d, Hid (GridTo wr w.heap.size (.slice (some ⟨w.heap.size, 0, none⟩) N N) N k p d X)) ∧ Hid (Below w.heap.size w wr)) (fun i _ => N - (intOf i).toNat)
  case atStart => exact ⟨0, Nat.zero_le _, rfl, ⟨_, _, HG1⟩, HB1⟩
  case round =>
    obtain ⟨k, hk, rfl, ⟨p, d, HG⟩, HB⟩ := hrel
    by_cases hk1 : k < N
    · obtain ⟨a', c', e, hX⟩ := H.out.shape
      injection e with e1 e2 e3
      subst e1; subst e3; clear e2
      obtain ⟨b1, o1, a1, n1, c1, rfl, hc0, hr1⟩ := hX k hk1
      have hc1 := (HB.out.cell (p := ⟨b1, o1 + k, none⟩) (block_lt_of_cell hc0)).trans hc0
      have hl1 := hr1.len
      have hm1 : n1 ≤ 100000 := by rw [← hl1]; exact HXL.out k hk1
      have HR := Lib.hid hr1
      have HL1 := Lib.hid hl1
      clear hX hr1 hc0 hl1
      have hsw : w.heap.size ≤ wr.heap.size := HB.out.size
      go_wp2_with (refine wpList_make_full _ rfl (.tmp 19) (.tmp 19) 31 rfl wr.heap.size 5 i0 (.int .u8 0) 1 Try.underlying31 hi hz0 hz1 .i64 .i64 _ _ n1 rfl rfl (by omega) (by omega) ?_ ?_ (Nat.le_refl _) ?_)
      · rw [hz2]; omega
      · unfold maxLen; omega
      intro w5 hown5 hg5
      have hB5 : Below wr.heap.size wr w5 := (Below.refl _ _).grown hg5 (Nat.le_refl _) (fun j e => by cases e)
      have hz := own_zeros hown5
      have hf := full_row hz
      obtain ⟨⟨u, hu⟩, hfz, hg0, hg⟩ := (HG.out.below hB5).slot hk1
      have hgr : w.heap.size < wr.heap.size := (HG.out.slot hk1).2.2.2
      have hne : wr.heap.size ≠ w.heap.size := by omega
      have HF2 := Lib.hid ((heap_setCell_other w5 ⟨w.heap.size, k, none⟩ wr.heap.size (.slice (some ⟨wr.heap.size, 0, none⟩) n1 n1) hne).trans hf)
      have HZ := Lib.hid hz
      have HB5 := Lib.hid hB5
      have hBx : Below w.heap.size w (w5.setCell ⟨w.heap.size, k, none⟩ (.slice (some ⟨wr.heap.size, 0, none⟩) n1 n1)) := (HB.out.trans (hB5.mono hsw)).setCell (Nat.le_refl _) _
      have HBX := Lib.hid hBx
      have HRB := Lib.hid (HR.out.below hBx)
      clear hown5 hg5 hB5 hz hf hBx hg0 HR
      go_wp2_with (refine wpList_copy_splice rfl (.tmp 25) (.tmp 26) 31 31 rfl 5 Try.underlying31 (by kernel_rfl) _ _ _ _ _ _ rfl rfl wr.heap.size 0 (bs (List.replicate n1 0)) 5 HF2.out (bs (X k)) ?_ ?_ ?_ (bs_one _) wr.heap.size _ (Below.refl _ _) (Nat.le_refl _) ?_)
      · rw [length_bs, HL1.out]; exact (Nat.min_self n1).symm
      · exact src_of HRB.out
      · rw [length_bs, length_bs, HL1.out, List.length_replicate]; omega
      · intro w6 hh6 hB6
        have hh := hh6.out
        rw [splice_full HL1.out] at hh
        obtain ⟨p', d', hG'⟩ := grid_lay HG.out hk1 hsw HB5.out HZ.out hh hB6 HL1.out hm1
        have HG' := Lib.hid hG'
        have HB' := Lib.hid (HBX.out.trans (hB6.mono hsw))
        clear hh6 hB6 hh hG'
        go_wp2_with fail
        go_roundw
        case rel => exact ⟨k + 1, by omega, by go_num, ⟨p', d', HG'⟩, HB'⟩
        case measure => simp [intOf]; omega
    · obtain rfl : k = N := by omega
      go_wp2_with fail
      go_ret
      exact ⟨_, _, _, rfl, HG.out, HB.out⟩

set_option maxHeartbeats 3200000 in
set_option maxRecDepth 100000 in
/-- Rows of noughts. -/
theorem blank_any {w : World} {N C : Nat} (hN : N ≤ 100000) (hC : C ≤ 100000) :
    Calls Try.prog 101 #[.int .i64 (N : Nat), .int .i64 (C : Nat)] w fun e w' => ∃ g p d, e = .returned (.slice (some ⟨g, 0, none⟩) N N) ∧ GridTo w' w.heap.size (.slice (some ⟨g, 0, none⟩) N N) N N p d (fun _ => List.replicate C 0) ∧ Below w.heap.size w w' := by
  obtain ⟨i0, hi, hz0, hz1, hz2⟩ := info_parts info5
  obtain ⟨i31, hj, hy0, hy1, hy2⟩ := info_parts info31
  go_enter Try.func101, Try.ntmps101
  go_wp2_with (refine wpList_make_full _ rfl (.tmp 7) (.tmp 7) 112 rfl w.heap.size 31 i31 (.slice none 0 0) 1 Try.underlying112 hj hy0 hy1 .i64 .i64 _ _ N rfl rfl (by omega) (by omega) ?_ ?_ (Nat.le_refl _) ?_)
  · rw [hy2]; omega
  · unfold maxLen; omega
  intro w1 hown1 hg1
  have HG1 := Lib.hid (GridTo.start (N := N) hown1 (fun _ => 0) (fun _ => 0) (fun _ => List.replicate C 0))
  have HB1 := Lib.hid ((Below.refl w.heap.size w).grown hg1 (Nat.le_refl _) (fun j e => by cases e))
  clear hown1 hg1
  go_wp2_with fail
  go_loopw [11] (fun i wr => ∃ k : Nat, k ≤ N ∧ i = .int .i64 k ∧ (∃ p d, Hid (GridTo wr w.heap.size (.slice (some ⟨w.heap.size, 0, none⟩) N N) N k p d (fun _ => List.replicate C 0))) ∧ Hid (Below w.heap.size w wr)) (fun i _ => N - (intOf i).toNat)
  case atStart => exact ⟨0, Nat.zero_le _, rfl, ⟨_, _, HG1⟩, HB1⟩
  case round =>
    obtain ⟨k, hk, rfl, ⟨p, d, HG⟩, HB⟩ := hrel
    by_cases hk1 : k < N
    · have hsw : w.heap.size ≤ wr.heap.size := HB.out.size
      go_wp2_with (refine wpList_make_full _ rfl (.tmp 16) (.tmp 16) 31 rfl wr.heap.size 5 i0 (.int .u8 0) 1 Try.underlying31 hi hz0 hz1 .i64 .i64 _ _ C rfl rfl (by omega) (by omega) ?_ ?_ (Nat.le_refl _) ?_)
      · rw [hz2]; omega
      · unfold maxLen; omega
      intro w5 hown5 hg5
      have hB5 : Below wr.heap.size wr w5 := (Below.refl _ _).grown hg5 (Nat.le_refl _) (fun j e => by cases e)
      have hz := own_zeros hown5
      have hf := full_row hz
      obtain ⟨⟨u, hu⟩, hfz, hg0, hg⟩ := (HG.out.below hB5).slot hk1
      have hgr : w.heap.size < wr.heap.size := (HG.out.slot hk1).2.2.2
      have hne : wr.heap.size ≠ w.heap.size := by omega
      have hf2 := (heap_setCell_other w5 ⟨w.heap.size, k, none⟩ wr.heap.size (.slice (some ⟨wr.heap.size, 0, none⟩) C C) hne).trans hf
      obtain ⟨p', d', hG'⟩ := grid_lay HG.out hk1 hsw hB5 hz hf2 (Below.refl _ _) List.length_replicate hC
      have HG' := Lib.hid hG'
      have hBx : Below w.heap.size w (w5.setCell ⟨w.heap.size, k, none⟩ (.slice (some ⟨wr.heap.size, 0, none⟩) C C)) := (HB.out.trans (hB5.mono hsw)).setCell (Nat.le_refl _) _
      have HBX := Lib.hid hBx
      clear hown5 hg5 hB5 hz hf hf2 hBx hg0 hG'
      go_wp2_with fail
      go_roundw
      case rel => exact ⟨k + 1, by omega, by go_num, ⟨p', d', HG'⟩, HBX⟩
      case measure => simp [intOf]; omega
    · obtain rfl : k = N := by omega
      go_wp2_with fail
      go_ret
      exact ⟨_, _, _, rfl, HG.out, HB.out⟩
end Go.Proofs.Ytokeoodkioobdaa
