/- The walk of slices.Delete of the first landing of a row that the wire owns. Conditions: the row is short and not empty. -/
import Derived.Test.YtfojhmobnedekaaWire5
namespace Go.Proofs.Ytfojhmobnedekaa
open Go.RowKit

theorem zero4 : (Builtin.zeroCells (Value.agg #[.int .i64 0, .int .i64 0, .slice none 0 0, .int .i64 0]).cells 1).toList = [.int .i64 0, .int .i64 0, .slice none 0 0, .int .i64 0] := by
  simp [Builtin.zeroCells, Value.cells]
  rfl
theorem del_size {cur : Array Value} {c m : Nat} {l : List Wl} (hcs : cur.size = c * 4) (hlm : l.length = m) (hmc : m + 1 ≤ c) : (splice cur.toList (0 * 4) (wcs l)).toArray.size = c * 4 := by
  rw [List.size_toArray, length_splice _ _ _ (by rw [length_wcs, hlm, Array.length_toList, hcs]; omega), Array.length_toList, hcs]
theorem del_rest {cur : Array Value} {c m : Nat} {l : List Wl} {zs : List Value} (hcs : cur.size = c * 4) (hlm : l.length = m) (hmc : m + 1 ≤ c) (hz : zs.length = 4) :
    (splice (splice cur.toList (0 * 4) (wcs l)).toArray.toList (m * 4) zs).toArray.size = c * 4 ∧ (splice (splice cur.toList (0 * 4) (wcs l)).toArray.toList (m * 4) zs).toArray.toList.take (m * 4) = wcs l := by
  have h1 := del_size hcs hlm hmc
  rw [List.size_toArray] at h1
  have hn4 : (wcs l).length = m * 4 := by rw [length_wcs, hlm]
  refine ⟨?_, ?_⟩
  · rw [List.size_toArray, List.toList_toArray, length_splice _ _ _ (by rw [h1, hz]; omega), h1]
  · rw [List.toList_toArray, List.toList_toArray]
    have e : (splice cur.toList (0 * 4) (wcs l)).take (m * 4) = wcs l := by
      unfold splice
      rw [Nat.zero_mul, List.take_zero, List.nil_append, List.take_append_of_le_length (by omega), List.take_of_length_le (by omega)]
    have hl1 : ((splice cur.toList (0 * 4) (wcs l)).take (m * 4)).length = m * 4 := by rw [e, hn4]
    rw [show splice (splice cur.toList (0 * 4) (wcs l)) (m * 4) zs = (splice cur.toList (0 * 4) (wcs l)).take (m * 4) ++ (zs ++ (splice cur.toList (0 * 4) (wcs l)).drop (m * 4 + zs.length)) from rfl, List.take_append_of_le_length (by omega), List.take_of_length_le (by omega), e]
set_option maxHeartbeats 1600000 in
set_option maxRecDepth 100000 in
theorem delete_cells {w : World} {n c g : Nat} {cur : Array Value} {y : Wl} {l : List Wl} (hg : w.heap[g]? = some (.cells cur 139 (0, 0))) (hcs : cur.size = c * 4) (ht : cur.toList.take (n * 4) = wcs (y :: l)) (hl : l.length + 1 = n) (hnc : n ≤ c) (hcm : c ≤ maxLen) :
    Calls Try.prog 111 #[.slice (some ⟨g, 0, none⟩) n c, .int .i64 0, .int .i64 1] w fun e w' => e = .returned (.slice (some ⟨g, 0, none⟩) (n - 1) c) ∧ w.grownBy w' (some g) ∧ w'.heap.size = w.heap.size ∧ ∃ cur' : Array Value, w'.heap[g]? = some (.cells cur' 139 (0, 0)) ∧ cur'.size = c * 4 ∧ cur'.toList.take ((n - 1) * 4) = wcs l := by
  have hc63 : c ≤ 9223372036854775807 := by unfold maxLen at hcm; omega
  obtain ⟨i139, hi, hz0, hz1, hz2⟩ := info_parts info139z
  obtain ⟨m, rfl⟩ : ∃ m, n = m + 1 := ⟨n - 1, by omega⟩
  have hlm : l.length = m := by omega
  have hc1 : ¬ (c = 0) := by omega
  have hm1 : (1 : Int) ≤ ((m + 1 : Nat) : Int) := by omega
  have HG := Lib.hid hg
  have HT := Lib.hid ht
  clear hg ht
  by_cases hc : c = 1
  · subst hc
    obtain rfl : m = 0 := by omega
    go_enter Try.func111, Try.ntmps111
    go_wp2_with fail
    refine region_quiet_tail 6 (by rfl) (by decide +kernel) ?_
    simp only [List.take_succ_cons, List.take_zero, List.drop_succ_cons, List.drop_zero]
    repeat (go_big_quiet_step (fail))
    refine wpQuiet_nil ?_
    intro _ hw'
    obtain ⟨nq, rfl⟩ := hw'
    have hgq : (w.drewN nq).heap[g]? = some (.cells cur 139 (0, 0)) := by simpa using HG.out
    have hq : Below w.heap.size w (w.drewN nq) := below_drewN (Below.refl _ _) nq
    refine wpList_append_roomS (w := w.drewN nq) rfl (.tmp 22) (.tmp 25) 86 rfl 139 i139 4 Try.underlying86 hi hz1 g 0 _ cur hgq ⟨g, 0, none⟩ 0 _ (wcs l) rfl rfl (by rw [length_wcs, hlm]) ?_ (wcs_one _) (by omega) (by rw [length_wcs, hlm, hcs]; omega) ?_
    · intro j u hu
      have hjl : j < 0 * 4 := by have := (List.getElem?_eq_some_iff.1 hu).1; rw [length_wcs, hlm] at this; exact this
      omega
    intro w1 h1 h2 h3
    have hs1 : (splice cur.toList (0 * 4) (wcs l)).toArray.size = 1 * 4 := del_size hcs hlm hnc
    have HG1 := Lib.hid h1
    have HX1 := Lib.hid (And.intro h2 (And.intro h3 hq))
    clear h1 h2 h3 hgq hq
    go_wp2_with (guard_target =~ wpList _ _ _ (⟨none, .call _, _, _, _, _⟩ :: _) _ _; refine wpList_clearS (w := w1) rfl (.tmp 31) 86 rfl 139 i139 _ Try.underlying86 hi hz0 g (0 * 4) 1 _ _ HG1.out rfl (by decide) [.int .i64 0, .int .i64 0, .slice none 0 0, .int .i64 0] zero4 (by simp [Value.oneCell']) (by rw [hs1]; simp only [List.length_cons, List.length_nil]; omega) ?_)
    intro w2 h1 h2 h3
    have H := Lib.hid (show w.grownBy w2 (some g) ∧ w2.heap.size = w.heap.size ∧ ∃ cur' : Array Value, w2.heap[g]? = some (.cells cur' 139 (0, 0)) ∧ cur'.size = 1 * 4 ∧ cur'.toList.take (0 * 4) = wcs l by
      obtain ⟨k1, k2, k3⟩ := HX1.out
      have hsz : w2.heap.size = w.heap.size := by rw [h3, k2]; simp
      refine ⟨⟨h2.os.trans (k1.os.trans k3.os), h2.tape.trans (k1.tape.trans k3.tape), h2.output.trans (k1.output.trans k3.output), by rw [hsz]; exact Nat.le_refl _, fun j hj hne => ?_⟩, hsz, _, h1, del_rest hcs hlm hnc rfl⟩
      exact (h2.block j (by rw [k2]; simpa using hj) hne).trans ((k1.block j (by simpa using hj) hne).trans (k3.block j hj)))
    clear h1 h2 h3
    go_wp2_with fail
    go_ret
    exact ⟨rfl, H.out⟩
  · have hc2 : ¬ (c = m) := by omega
    go_enter Try.func111, Try.ntmps111
    go_wp2_with fail
    refine region_quiet_tail 6 (by rfl) (by decide +kernel) ?_
    simp only [List.take_succ_cons, List.take_zero, List.drop_succ_cons, List.drop_zero]
    repeat (go_big_quiet_step (fail))
    refine wpQuiet_nil ?_
    intro _ hw'
    obtain ⟨nq, rfl⟩ := hw'
    have hgq : (w.drewN nq).heap[g]? = some (.cells cur 139 (0, 0)) := by simpa using HG.out
    have hq : Below w.heap.size w (w.drewN nq) := below_drewN (Below.refl _ _) nq
    refine wpList_append_roomS (w := w.drewN nq) rfl (.tmp 22) (.tmp 25) 86 rfl 139 i139 4 Try.underlying86 hi hz1 g 0 _ cur hgq ⟨g, 4, none⟩ m _ (wcs l) rfl rfl (by rw [length_wcs, hlm]) ?_ (wcs_one _) (by omega) (by rw [length_wcs, hlm, hcs]; omega) ?_
    · intro j u hu
      have hjl : j < m * 4 := by have := (List.getElem?_eq_some_iff.1 hu).1; rw [length_wcs, hlm] at this; exact this
      rw [Addr.add_lit, cell_of_block hgq]
      have e : (wcs (y :: l))[4 + j]? = some u := by
        rw [wcs_cons, List.getElem?_append_right (by rw [Wl.cells_len]; omega), Wl.cells_len, Nat.add_sub_cancel_left]; exact hu
      rw [← HT.out, List.getElem?_take, if_pos (by omega)] at e
      simpa using e
    intro w1 h1 h2 h3
    have hs1 : (splice cur.toList (0 * 4) (wcs l)).toArray.size = c * 4 := del_size hcs hlm hnc
    have HG1 := Lib.hid h1
    have HX1 := Lib.hid (And.intro h2 (And.intro h3 hq))
    clear h1 h2 h3 hgq hq
    go_wp2_with (guard_target =~ wpList _ _ _ (⟨none, .call _, _, _, _, _⟩ :: _) _ _; refine wpList_clearS (w := w1) rfl (.tmp 31) 86 rfl 139 i139 _ Try.underlying86 hi hz0 g (m * 4) 1 _ _ HG1.out rfl (by decide) [.int .i64 0, .int .i64 0, .slice none 0 0, .int .i64 0] zero4 (by simp [Value.oneCell']) (by rw [hs1]; simp only [List.length_cons, List.length_nil]; omega) ?_)
    intro w2 h1 h2 h3
    have H := Lib.hid (show w.grownBy w2 (some g) ∧ w2.heap.size = w.heap.size ∧ ∃ cur' : Array Value, w2.heap[g]? = some (.cells cur' 139 (0, 0)) ∧ cur'.size = c * 4 ∧ cur'.toList.take (m * 4) = wcs l by
      obtain ⟨k1, k2, k3⟩ := HX1.out
      have hsz : w2.heap.size = w.heap.size := by rw [h3, k2]; simp
      refine ⟨⟨h2.os.trans (k1.os.trans k3.os), h2.tape.trans (k1.tape.trans k3.tape), h2.output.trans (k1.output.trans k3.output), by rw [hsz]; exact Nat.le_refl _, fun j hj hne => ?_⟩, hsz, _, h1, del_rest hcs hlm hnc rfl⟩
      exact (h2.block j (by rw [k2]; simpa using hj) hne).trans ((k1.block j (by simpa using hj) hne).trans (k3.block j hj)))
    clear h1 h2 h3
    go_wp2_with fail
    go_ret
    exact ⟨rfl, H.out⟩
/-- The first is taken out of a row that is owned. -/
theorem delete_any {w : World} {B n c : Nat} {a : Option Addr} {y : Wl} {l : List Wl} (ho : w.ownsRow B 139 4 (.slice a n c) n (wcs (y :: l))) :
    Calls Try.prog 111 #[.slice a n c, .int .i64 0, .int .i64 1] w fun e w' => e = .returned (.slice a (n - 1) c) ∧ w.grownBy w' (Value.slice a n c).ownBlock ∧ w'.heap.size = w.heap.size ∧ w'.ownsRow B 139 4 (.slice a (n - 1) c) (n - 1) (wcs l) := by
  have hl : l.length + 1 = n := by have := ho.1; rw [length_wcs] at this; simp at this; omega
  rcases ho.2 with ⟨_, rfl⟩ | ⟨g, cap, cur, e2, hBg, hg, hnc, hcm, hcs, ht⟩
  · omega
  · injection e2 with e3 _ e4
    subst e3; subst e4
    refine (delete_cells hg hcs ht hl hnc hcm).mono ?_
    rintro e w' ⟨rfl, h1, h2, cur', h3, h4, h5⟩
    exact ⟨rfl, h1, h2, by rw [length_wcs]; omega, .inr ⟨g, c, cur', rfl, hBg, h3, by omega, hcm, h4, h5⟩⟩
end Go.Proofs.Ytfojhmobnedekaa
