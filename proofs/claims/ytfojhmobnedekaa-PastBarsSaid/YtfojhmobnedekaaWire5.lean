/- The walk of slices.Insert of one landing into a row that the wire owns. Conditions: the row is short; the landing lies in a block of its own. -/
import Derived.Lib.Overlaps
import Derived.Test.YtfojhmobnedekaaRowS
import Derived.Test.YtfojhmobnedekaaWire4
namespace Go.Proofs.Ytfojhmobnedekaa
open Go.RowKit

theorem info139z : (Try.prog.info? 139).map (fun i => (i.zero, i.size, i.bytes)) = some (some (.agg #[.int .i64 0, .int .i64 0, .slice none 0 0, .int .i64 0]), 4, 48) := by kernel_rfl
theorem Wl.cells_len (x : Wl) : x.cells.length = 4 := rfl
theorem Wl.cells_one (x : Wl) : ∀ u ∈ x.cells, u.oneCell' = true := by
  intro u hu
  simp [Wl.cells] at hu
  rcases hu with rfl | rfl | rfl | rfl <;> rfl
theorem cells_at_block {w : World} {g : Nat} {cs : List Value} {t : TypeId} {fr : Nat × Nat} (h : w.heap[g]? = some (.cells cs.toArray t fr)) : ∀ j u, cs[j]? = some u → w.cell? ((⟨g, 0, none⟩ : Addr).add j) = some u := by
  intro j u hu
  rw [Addr.add_lit, Nat.zero_add, cell_of_block h, List.getElem?_toArray, hu]
theorem wcs_cons (x : Wl) (l : List Wl) : wcs (x :: l) = x.cells ++ wcs l := rfl
theorem wcs_take (l : List Wl) (k : Nat) : wcs (l.take k) = (wcs l).take (k * 4) := by
  by_cases h : k ≤ l.length
  · have e : wcs l = wcs (l.take k) ++ wcs (l.drop k) := by rw [← wcs_append, List.take_append_drop]
    rw [e, List.take_left' (by rw [length_wcs, List.length_take, Nat.min_eq_left h])]
  · rw [List.take_of_length_le (by omega), List.take_of_length_le (by rw [length_wcs]; omega)]
/-- What an Insert hands back. -/
def Ins (B n : Nat) (v : Value) (l : List Wl) (w : World) (e : Ending) (w' : World) : Prop :=
  ∃ v', e = .returned v' ∧ w'.ownsRow B 139 4 v' (n + 1) (wcs l) ∧ w.grownBy w' v.ownBlock ∧ ∀ g, v'.ownBlock = some g → v.ownBlock = some g ∨ g = w.heap.size

set_option maxHeartbeats 1600000 in
set_option maxRecDepth 100000 in
theorem insert_end {w : World} {B n c vb : Nat} {a : Option Addr} {l : List Wl} {x : Wl} (ho : w.ownsRow B 139 4 (.slice a n c) n (wcs l)) (hn : n ≤ 1000000) (hv : w.heap[vb]? = some (.cells x.cells.toArray 139 (0, 0))) (hB : B ≤ w.heap.size) :
    Calls Try.prog 109 #[.slice a n c, .int .i64 n, .slice (some ⟨vb, 0, none⟩) 1 1] w (Ins B n (.slice a n c) (l ++ [x]) w) := by
  obtain ⟨i139, hi, hz0, hz1, hz2⟩ := info_parts info139z
  have HV := Lib.hid (cells_at_block hv)
  clear hv
  rcases ho.2 with ⟨e, rfl⟩ | ⟨g, cap, cur, e, _⟩
  · injection e with e1 _ e2
    subst e1; subst e2
    have HO := Lib.hid ho
    clear ho
    go_enter Try.func109, Try.ntmps109
    go_wp2_with (at_builtin; refine wpList_append_ownS _ rfl (.tmp 23) (.tmp 24) 86 rfl B 139 i139 _ 4 48 Try.underlying86 hi hz0 hz1 hz2 rfl (by decide) (.slice none 0 0) 0 (wcs l) rfl HO.out ⟨vb, 0, none⟩ 1 1 x.cells rfl rfl HV.out x.cells_one (by unfold maxLen; omega) (by omega) hB ?_)
    intro v' w' h1 h2 h3
    have H := Lib.hid (show Ins B 0 (.slice none 0 0) (l ++ [x]) w (.returned v') w' from ⟨v', rfl, by rw [wcs_append]; simpa [wcs] using h1, h2, h3⟩)
    clear h1 h2 h3
    go_wp2_with fail
    go_ret
    exact H.out
  · injection e with e1 _ e2
    subst e1; subst e2
    by_cases hc : c = n
    · subst hc
      have HO := Lib.hid ho
      clear ho
      go_enter Try.func109, Try.ntmps109
      go_wp2_with (at_builtin; refine wpList_append_ownS _ rfl (.tmp 23) (.tmp 24) 86 rfl B 139 i139 _ 4 48 Try.underlying86 hi hz0 hz1 hz2 rfl (by decide) (.slice (some ⟨g, 0, none⟩) c c) c (wcs l) rfl HO.out ⟨vb, 0, none⟩ 1 1 x.cells rfl rfl HV.out x.cells_one (by unfold maxLen; omega) (by omega) hB ?_)
      intro v' w' h1 h2 h3
      have H := Lib.hid (show Ins B c (.slice (some ⟨g, 0, none⟩) c c) (l ++ [x]) w (.returned v') w' from ⟨v', rfl, by rw [wcs_append]; simpa [wcs] using h1, h2, h3⟩)
      clear h1 h2 h3
      go_wp2_with fail
      go_ret
      exact H.out
    · have HO := Lib.hid ho
      clear ho
      go_enter Try.func109, Try.ntmps109
      go_wp2_with (at_builtin; refine wpList_append_ownS _ rfl (.tmp 23) (.tmp 24) 86 rfl B 139 i139 _ 4 48 Try.underlying86 hi hz0 hz1 hz2 rfl (by decide) (.slice (some ⟨g, 0, none⟩) n c) n (wcs l) rfl HO.out ⟨vb, 0, none⟩ 1 1 x.cells rfl rfl HV.out x.cells_one (by unfold maxLen; omega) (by omega) hB ?_)
      intro v' w' h1 h2 h3
      have H := Lib.hid (show Ins B n (.slice (some ⟨g, 0, none⟩) n c) (l ++ [x]) w (.returned v') w' from ⟨v', rfl, by rw [wcs_append]; simpa [wcs] using h1, h2, h3⟩)
      clear h1 h2 h3
      go_wp2_with fail
      go_ret
      exact H.out

set_option maxHeartbeats 1600000 in
set_option maxRecDepth 100000 in
theorem insert_room {w : World} {B n c k g vb : Nat} {cur : Array Value} {l : List Wl} {x : Wl} (hg : w.heap[g]? = some (.cells cur 139 (0, 0))) (hcs : cur.size = c * 4) (ht : cur.toList.take (n * 4) = wcs l) (hl : l.length = n) (hk : k < n) (hnc : n + 1 ≤ c) (hcm : c ≤ maxLen) (hBg : B ≤ g) (hv : w.heap[vb]? = some (.cells x.cells.toArray 139 (0, 0))) (hne : vb ≠ g) :
    Calls Try.prog 109 #[.slice (some ⟨g, 0, none⟩) n c, .int .i64 k, .slice (some ⟨vb, 0, none⟩) 1 1] w (Ins B n (.slice (some ⟨g, 0, none⟩) n c) (l.take k ++ x :: l.drop k) w) := by
  have hc63 : c ≤ 9223372036854775807 := by unfold maxLen at hcm; omega
  have hsz : (Try.prog.info? 139).map (·.size) = some 4 := info139
  obtain ⟨i139, hi, hz0, hz1, hz2⟩ := info_parts info139z
  have hov : ∀ q lb cb, (callFunc 127 #[.slice (some ⟨vb, 0, none⟩) 1 1, .slice (some ⟨g, q, none⟩) lb cb]).run Try.prog w = .ok (.value (.bool false)) w := fun q lb cb => by
    rw [run_callFunc_extern Try.func127 (by kernel_rfl) (by kernel_rfl) (by kernel_rfl) (e := Extern.SlicesOverlaps.overlaps #[86, 86] #[4]) (by kernel_rfl),
      Lib.run_overlaps_apart w 86 4 139 Try.underlying86 4 (fun _ => by simp [sizeOf, typeInfo, hi, hz1]) ⟨vb, 0, none⟩ ⟨g, q, none⟩ 1 1 lb cb hne 139 139 4 (c * 4) (by simp [World.shape?, hv, Wl.cells]) (by simp [World.shape?, hg, hcs]) (by omega) (frozen_of_block hv) (frozen_of_block hv)]
    rfl
  have d1 : ((k : Int) == (n : Int)) = false := by simp; omega
  have d2 : decide ((c : Int) < (n : Int) + 1) = false := by simp; omega
  have hw1 : IntKind.i64.wrap ((k : Int) + 1) = (k : Int) + 1 := by rw [IntKind.wrap_i64]; omega
  have hb1 : (0 : Int) ≤ (k : Int) + 1 := by omega
  have htn : ((k : Int) + 1).toNat = k + 1 := by omega
  have hb2 : ¬ (c = k + 1) := by omega
  have hb3 : (k : Int) ≤ (n : Int) + 1 := by omega
  have hb4 : ¬ (c = k) := by omega
  have HV := Lib.hid hv
  have HG := Lib.hid hg
  have HT := Lib.hid ht
  clear hv hg ht
  go_enter Try.func109, Try.ntmps109
  go_wp2_with (simp only [hov])
  refine region_quiet_tail 8 (by rfl) (by decide +kernel) ?_
  simp only [List.take_succ_cons, List.take_zero, List.drop_succ_cons, List.drop_zero]
  repeat (go_big_quiet_step (fail))
  refine wpQuiet_nil ?_
  intro _ hw'
  obtain ⟨nq, rfl⟩ := hw'
  have hgq : (w.drewN nq).heap[g]? = some (.cells cur 139 (0, 0)) := by simpa using HG.out
  have hdl : (wcs (l.drop k)).length = (n - k) * 4 := by rw [length_wcs, List.length_drop, hl]
  have hsrc : ∀ j v, (wcs (l.drop k))[j]? = some v → (w.drewN nq).cell? ((⟨g, k * 4, none⟩ : Addr).add j) = some v := fun j v hj => by
    have hjl : j < (n - k) * 4 := by rw [← hdl]; exact (List.getElem?_eq_some_iff.1 hj).1
    rw [Addr.add_lit, cell_of_block hgq]
    have e : (wcs l)[k * 4 + j]? = some v := by
      have e : wcs l = wcs (l.take k) ++ wcs (l.drop k) := by rw [← wcs_append, List.take_append_drop]
      rw [e, List.getElem?_append_right (by rw [length_wcs, List.length_take]; omega), length_wcs, List.length_take, hl, Nat.min_eq_left (by omega), Nat.add_sub_cancel_left]
      exact hj
    rw [← HT.out, List.getElem?_take, if_pos (by omega)] at e
    simpa using e
  refine wpList_copyS (w := w.drewN nq) rfl (.tmp 73) (.tmp 76) 86 86 rfl 139 4 Try.underlying86 hsz g ((k + 1) * 4) _ _ ⟨g, k * 4, none⟩ _ _ (n - k) rfl rfl cur 139 hgq (wcs (l.drop k)) (Nat.min_eq_right (by omega)) hdl hsrc (by rw [hdl, hcs]; omega) (wcs_one _) ?_
  intro w1 h1 h2 h3
  have HG1 := Lib.hid h1
  have HX1 := Lib.hid h2
  have HS1 := Lib.hid h3
  clear h1 h2 h3 hsrc
  have hxs : ∀ j v, x.cells[j]? = some v → w1.cell? ((⟨vb, 0, none⟩ : Addr).add j) = some v :=
    cells_at_block ((HX1.out.block vb (by simpa using lt_of_block HV.out) (fun e => hne (by injection e))).trans (by simpa using HV.out))
  have HXS := Lib.hid hxs
  have hspl : (splice cur.toList ((k + 1) * 4) (wcs (l.drop k))).toArray.size = c * 4 := by
    rw [List.size_toArray, length_splice _ _ _ (by rw [hdl]; simp [hcs]; omega)]; simp [hcs]
  clear hxs hgq
  go_wp2_with (guard_target =~ wpList _ _ _ (⟨some 82, _, _, _, _, _⟩ :: _) _ _; refine wpList_copyS (w := w1) rfl (.tmp 80) (.tmp 81) 86 86 rfl 139 4 Try.underlying86 hsz g (k * 4) _ _ ⟨vb, 0, none⟩ _ _ 1 rfl rfl _ 139 HG1.out x.cells (Nat.min_eq_left (by omega)) rfl HXS.out (by rw [hspl, Wl.cells_len]; omega) x.cells_one ?_)
  intro w2 h1 h2 h3
  have hT : wcs (l.take k ++ x :: l.drop k) = wcs (l.take k) ++ (x.cells ++ wcs (l.drop k)) := by rw [wcs_append, wcs_cons]
  have hfin : Ins B n (.slice (some ⟨g, 0, none⟩) n c) (l.take k ++ x :: l.drop k) w (.returned (.slice (some ⟨g, 0, none⟩) (n + 1) c)) w2 := by
    have hq : Below w.heap.size w (w.drewN nq) := below_drewN (Below.refl _ _) nq
    refine ⟨_, rfl, ⟨by rw [length_wcs]; simp; omega, .inr ⟨g, c, _, rfl, hBg, h1, hnc, hcm, ?_, ?_⟩⟩, ⟨?_, ?_, ?_, ?_, ?_⟩, fun g' e => .inl e⟩
    · rw [List.size_toArray, length_splice _ _ _ ?_]
      · exact hspl
      · have := hspl; rw [List.size_toArray] at this; rw [Wl.cells_len, List.toList_toArray, this]; omega
    · have hA : cur.toList.take (k * 4) = wcs (l.take k) := by
        rw [wcs_take, ← HT.out, List.take_take, Nat.min_eq_left (by omega)]
      have := (splice_shift (L := cur.toList) (p := k * 4) (q := 4) (r := (n - k) * 4) (X := x.cells) hA (by rw [length_wcs, List.length_take, hl, Nat.min_eq_left (by omega)]) rfl hdl (by simp [hcs]; omega)).1
      rw [hT, ← this, show k * 4 + 4 + (n - k) * 4 = (n + 1) * 4 by omega, show k * 4 + 4 = (k + 1) * 4 by omega, List.toList_toArray]
    · exact h2.os.trans (HX1.out.os.trans hq.os)
    · exact h2.tape.trans (HX1.out.tape.trans hq.tape)
    · exact h2.output.trans (HX1.out.output.trans hq.output)
    · rw [h3, HS1.out]; simp
    · intro j hj hne'
      exact (h2.block j (by rw [HS1.out]; simpa using hj) hne').trans ((HX1.out.block j (by simpa using hj) hne').trans (hq.block j hj))
  have H := Lib.hid hfin
  clear hfin h1 h2 h3
  go_wp2_with fail
  go_ret
  exact H.out

set_option maxHeartbeats 1600000 in
set_option maxRecDepth 100000 in
theorem insert_grow {w : World} {B n k g vb : Nat} {cur : Array Value} {l : List Wl} {x : Wl} (hg : w.heap[g]? = some (.cells cur 139 (0, 0))) (hcs : cur.size = n * 4) (ht : cur.toList.take (n * 4) = wcs l) (hl : l.length = n) (hk : k < n) (hn : n ≤ 1000000) (hB : B ≤ w.heap.size) (hv : w.heap[vb]? = some (.cells x.cells.toArray 139 (0, 0))) :
    Calls Try.prog 109 #[.slice (some ⟨g, 0, none⟩) n n, .int .i64 k, .slice (some ⟨vb, 0, none⟩) 1 1] w (Ins B n (.slice (some ⟨g, 0, none⟩) n n) (l.take k ++ x :: l.drop k) w) := by
  have hsz : (Try.prog.info? 139).map (·.size) = some 4 := info139
  obtain ⟨i139, hi, hz0, hz1, hz2⟩ := info_parts info139z
  have d1 : ((k : Int) == (n : Int)) = false := by simp; omega
  have d2 : decide ((n : Int) < (n : Int) + 1) = true := by simp; omega
  have hw1 : IntKind.i64.wrap ((k : Int) + 1) = (k : Int) + 1 := by rw [IntKind.wrap_i64]; omega
  have hb1 : (0 : Int) ≤ (k : Int) + 1 := by omega
  have htn : ((k : Int) + 1).toNat = k + 1 := by omega
  have hb3 : (k : Int) ≤ (n : Int) := by omega
  have hb4 : ¬ (n = k) := by omega
  have hgl := lt_of_block hg
  have hvl := lt_of_block hv
  have hwl : wcs l = cur.toList := by rw [← ht]; exact List.take_of_length_le (by simp [hcs])
  have hold : ∀ j u, (wcs (l.take k))[j]? = some u → w.cell? (Addr.add ⟨g, 0, none⟩ j) = some u := fun j u hu => by
    rw [wcs_take, List.getElem?_take] at hu
    split at hu
    · rw [Addr.add_lit, Nat.zero_add, cell_of_block hg]; rw [hwl] at hu; simpa using hu
    · cases hu
  have HOLD := Lib.hid hold
  have HV := Lib.hid hv
  have HG := Lib.hid hg
  have HW := Lib.hid hwl
  clear hv hg ht hold hwl
  go_enter Try.func109, Try.ntmps109
  go_wp2_with (at_builtin; refine wpList_append_zerosS (w := w) rfl (.tmp 34) (.tmp 39) 86 3 rfl 139 i139 _ 4 48 Try.underlying86 Try.underlying3 hi hz0 hz1 hz2 rfl (by decide) g k n (n + 1 - k) (n + 1) _ (wcs (l.take k)) rfl rfl (by omega) (by omega) (by rw [length_wcs, List.length_take, hl, Nat.min_eq_left (by omega)]) HOLD.out (by omega) (by omega) (by unfold maxLen; omega) (by omega) ?_)
  intro G cur1 w1 hG hGm hcs1 ht1 hN hB1 hs1
  have HN := Lib.hid hN
  have HB1 := Lib.hid hB1
  have HT1 := Lib.hid ht1
  have HS1 := Lib.hid hs1
  have hc4 : ¬ (G = k) := by omega
  have hc5 : ¬ (G = k + 1) := by omega
  have hG63 : G ≤ 9223372036854775807 := by unfold maxLen at hGm; omega
  have HXS := Lib.hid (cells_at_block ((hB1.block vb hvl).trans HV.out))
  clear hN hB1 ht1 hs1
  go_wp2_with (guard_target =~ wpList _ _ _ (⟨some 45, _, _, _, _, _⟩ :: _) _ _; refine wpList_copyS (w := w1) rfl (.tmp 43) (.tmp 44) 86 86 rfl 139 4 Try.underlying86 hsz w.heap.size (k * 4) _ _ ⟨vb, 0, none⟩ _ _ 1 rfl rfl _ 139 HN.out x.cells (Nat.min_eq_left (by omega)) rfl HXS.out (by rw [hcs1, Wl.cells_len]; omega) x.cells_one ?_)
  intro w2 h1 h2 h3
  have HN2 := Lib.hid h1
  have HX2 := Lib.hid h2
  have HS2 := Lib.hid h3
  clear h1 h2 h3
  go_wp2_with fail
  refine region_quiet_tail 8 (by rfl) (by decide +kernel) ?_
  simp only [List.take_succ_cons, List.take_zero, List.drop_succ_cons, List.drop_zero]
  repeat (go_big_quiet_step (fail))
  refine wpQuiet_nil ?_
  intro _ hw'
  obtain ⟨nq, rfl⟩ := hw'
  have hNq : (w2.drewN nq).heap[w.heap.size]? = some (.cells (splice cur1.toList (k * 4) x.cells).toArray 139 (0, 0)) := by simpa using HN2.out
  have hgq : (w2.drewN nq).heap[g]? = some (.cells cur 139 (0, 0)) := by
    have := (HX2.out.block g (by rw [HS1.out]; omega) (fun e => by injection e; omega)).trans ((HB1.out.block g hgl).trans HG.out)
    simpa using this
  have hdl : (wcs (l.drop k)).length = (n - k) * 4 := by rw [length_wcs, List.length_drop, hl]
  have hsrc : ∀ j v, (wcs (l.drop k))[j]? = some v → (w2.drewN nq).cell? ((⟨g, k * 4, none⟩ : Addr).add j) = some v := fun j v hj => by
    have hjl : j < (n - k) * 4 := by rw [← hdl]; exact (List.getElem?_eq_some_iff.1 hj).1
    rw [Addr.add_lit, cell_of_block hgq]
    have e : (wcs l)[k * 4 + j]? = some v := by
      have e : wcs l = wcs (l.take k) ++ wcs (l.drop k) := by rw [← wcs_append, List.take_append_drop]
      rw [e, List.getElem?_append_right (by rw [length_wcs, List.length_take]; omega), length_wcs, List.length_take, hl, Nat.min_eq_left (by omega), Nat.add_sub_cancel_left]
      exact hj
    rw [HW.out] at e
    simpa using e
  have hspl : (splice cur1.toList (k * 4) x.cells).toArray.size = G * 4 := by
    rw [List.size_toArray, length_splice _ _ _ (by rw [Wl.cells_len]; simp [hcs1]; omega)]; simp [hcs1]
  refine wpList_copyS (w := w2.drewN nq) rfl (.tmp 50) (.tmp 53) 86 86 rfl 139 4 Try.underlying86 hsz w.heap.size ((k + 1) * 4) _ _ ⟨g, k * 4, none⟩ _ _ (n - k) rfl rfl _ 139 hNq (wcs (l.drop k)) (Nat.min_eq_left (by omega)) hdl hsrc (by rw [hspl, hdl]; omega) (wcs_one _) ?_
  intro w3 h1 h2 h3
  have hT : wcs (l.take k ++ x :: l.drop k) = wcs (l.take k) ++ (x.cells ++ wcs (l.drop k)) := by rw [wcs_append, wcs_cons]
  have hfin : Ins B n (.slice (some ⟨g, 0, none⟩) n n) (l.take k ++ x :: l.drop k) w (.returned (.slice (some ⟨w.heap.size, 0, none⟩) (n + 1) G)) w3 := by
    have hq : Below w2.heap.size w2 (w2.drewN nq) := below_drewN (Below.refl _ _) nq
    refine ⟨_, rfl, ⟨by rw [length_wcs]; simp; omega, .inr ⟨w.heap.size, G, _, rfl, hB, h1, hG, hGm, ?_, ?_⟩⟩, ⟨?_, ?_, ?_, ?_, ?_⟩, fun g' e => .inr (by injection e with e; exact e.symm)⟩
    · rw [List.size_toArray, length_splice _ _ _ ?_]
      · exact hspl
      · have := hspl; rw [List.size_toArray] at this; rw [hdl, List.toList_toArray, this]; omega
    · have := (splice_shift (L := cur1.toList) (p := k * 4) (q := 4) (r := (n - k) * 4) (X := x.cells) HT1.out (by rw [length_wcs, List.length_take, hl, Nat.min_eq_left (by omega)]) rfl hdl (by simp [hcs1]; omega)).2
      rw [hT, ← this, show k * 4 + 4 + (n - k) * 4 = (n + 1) * 4 by omega, show k * 4 + 4 = (k + 1) * 4 by omega, List.toList_toArray]
    · exact h2.os.trans (hq.os.trans (HX2.out.os.trans HB1.out.os))
    · exact h2.tape.trans (hq.tape.trans (HX2.out.tape.trans HB1.out.tape))
    · exact h2.output.trans (hq.output.trans (HX2.out.output.trans HB1.out.output))
    · have := HS1.out; have := HS2.out; have := hq.size; omega
    · intro j hj _
      have hjn : some j ≠ some w.heap.size := fun e => by injection e; omega
      have hj1 : j < w1.heap.size := by rw [HS1.out]; omega
      have hj2 : j < w2.heap.size := by rw [HS2.out]; exact hj1
      exact (h2.block j (Nat.lt_of_lt_of_le hj2 hq.size) hjn).trans ((hq.block j hj2).trans ((HX2.out.block j hj1 hjn).trans (HB1.out.block j hj)))
  have H := Lib.hid hfin
  clear hfin h1 h2 h3
  go_wp2_with fail
  go_ret
  exact H.out
theorem insert_any {w : World} {B n c k vb : Nat} {a : Option Addr} {l : List Wl} {x : Wl} (ho : w.ownsRow B 139 4 (.slice a n c) n (wcs l)) (hk : k ≤ n) (hn : n ≤ 1000000) (hB : B ≤ w.heap.size) (hv : w.heap[vb]? = some (.cells x.cells.toArray 139 (0, 0))) (hu : (Value.slice a n c).ownBlock ≠ some vb) :
    Calls Try.prog 109 #[.slice a n c, .int .i64 k, .slice (some ⟨vb, 0, none⟩) 1 1] w (Ins B n (.slice a n c) (l.take k ++ x :: l.drop k) w) := by
  have hl : l.length = n := by have := ho.1; rw [length_wcs] at this; omega
  by_cases e : k = n
  · subst e
    rw [List.take_of_length_le (by omega), List.drop_eq_nil_of_le (by omega)]
    exact insert_end ho hn hv hB
  · rcases ho.2 with ⟨_, rfl⟩ | ⟨g, cap, cur, e2, hBg, hg, hnc, hcm, hcs, ht⟩
    · omega
    · injection e2 with e3 _ e4
      subst e3; subst e4
      by_cases hc : n + 1 ≤ c
      · exact insert_room hg hcs ht hl (by omega) hc hcm hBg hv (fun e => hu (by rw [e]; rfl))
      · obtain rfl : c = n := by omega
        exact insert_grow hg hcs ht hl (by omega) hn hB hv
end Go.Proofs.Ytfojhmobnedekaa
