/- The walk of lagr's weights. Conditions: rows are shorter than 2 to the 47. -/
import Derived.Test.YtokeoodkioobdaaLagr2
import Derived.Deep.RegionHeld3
namespace Go.Proofs.Ytokeoodkioobdaa
open Go.RowKit

/-- A worker: its field, its points, the products of distances. -/
structure Worker (w : World) (l : List Nat) (a : Option Addr) (n c p q : Nat) : Prop where
  own : ∃ v, IsW w q p a n c v ∧ ∀ i, i < n → ∃ b cap, v = .slice (some ⟨b, 0, none⟩) n cap ∧ w.cell? ⟨b, i, none⟩ = some (.int .u8 (Gf.pEx l i (l.getD i 0) n : Nat))
  field : IsF w p
  rb : RB w a n c l
theorem Worker.below {w w' : World} {l : List Nat} {a : Option Addr} {n c p q : Nat} (h : Worker w l a n c p q) (hB : Below w.heap.size w w') : Worker w' l a n c p q := by
  obtain ⟨v, hv, hc⟩ := h.own
  refine ⟨⟨v, (hB.block q (lt_of_block hv)).trans hv, fun i hi => ?_⟩, h.field.below hB h.field.lt, h.rb.below hB⟩
  obtain ⟨b, cap, e, hc⟩ := hc i hi
  exact ⟨b, cap, e, by rw [hB.cell (block_lt_of_cell hc)]; exact hc⟩
theorem Worker.of_over {w wr : World} {l : List Nat} {a : Option Addr} {n c p q : Nat} (h : OverAt w l a n c p q n wr) (hr : RB w a n c l) : Worker wr l a n c p q := by
  obtain ⟨v, hv, hown⟩ := h.own
  refine ⟨⟨v, hv, fun i hi => ?_⟩, h.field, hr.below h.below⟩
  obtain ⟨_, h2⟩ := hown
  rcases h2 with ⟨_, h2⟩ | ⟨g, cap, cur, rfl, hg, hh, hn, hc, hs, ht⟩
  · omega
  · refine ⟨g, cap, rfl, ?_⟩
    have e : (bs (aparts l n n))[i]? = some (.int .u8 (Gf.pEx l i (l.getD i 0) n : Nat)) := by
      rw [bs_get _ _ (by rw [length_aparts]; exact hi), aparts_get _ _ _ _ hi]
    rw [cell_of_block hh, ← e, ← ht]
    simp [hi]

/-- A row that is filled to k. -/
def upto (f : Nat → Nat) (n k : Nat) : List Nat := (List.range n).map fun i => if i < k then f i else 0
theorem length_upto (f : Nat → Nat) (n k : Nat) : (upto f n k).length = n := by simp [upto]
theorem upto_get (f : Nat → Nat) (n k i : Nat) (h : i < n) : (bs (upto f n k))[i]? = some (.int .u8 ((if i < k then f i else 0 : Nat) : Nat)) := by
  rw [bs_get _ _ (by rw [length_upto]; exact h)]
  unfold upto
  rw [List.getD_eq_getElem?_getD, List.getElem?_map, List.getElem?_range h]; rfl
theorem upto_step (f : Nat → Nat) (n k : Nat) (h : k < n) : (bs (upto f n k)).toArray.setIfInBounds k (.int .u8 (f k : Nat)) = (bs (upto f n (k + 1))).toArray := by
  apply Array.ext_getElem?
  intro i
  rw [Array.getElem?_setIfInBounds, List.getElem?_toArray, List.getElem?_toArray, List.size_toArray, length_bs, length_upto]
  by_cases hi : i < n
  · rw [upto_get _ _ _ _ hi, upto_get _ _ _ _ hi]
    by_cases e : k = i
    · subst e; rw [if_pos rfl, if_pos h, if_pos (Nat.lt_succ_self k)]
    · rw [if_neg e]
      by_cases h2 : i < k
      · rw [if_pos h2, if_pos (by omega)]
      · rw [if_neg h2, if_neg (by omega)]
  · have e1 : ∀ k, (bs (upto f n k))[i]? = none := fun k => List.getElem?_eq_none (by rw [length_bs, length_upto]; omega)
    rw [e1, e1, if_neg (by omega)]
theorem upto_zero (f : Nat → Nat) (n : Nat) : (madeCells #[Value.int .u8 0] n).toList = bs (upto f n 0) := by
  apply List.ext_getElem?
  intro i
  by_cases hi : i < n
  · rw [upto_get _ _ _ _ hi, if_neg (by omega)]
    simp [madeCells, hi]
    rw [Nat.mod_one]; rfl
  · rw [List.getElem?_eq_none (l := bs (upto f n 0)) (by rw [length_bs, length_upto]; omega)]
    simp [madeCells]; omega
theorem upto_all (f : Nat → Nat) (n : Nat) : upto f n n = (List.range n).map f := by
  unfold upto
  exact List.map_congr_left fun i hi => by rw [if_pos (List.mem_range.1 hi)]

/-- A weight, as the code reckons it away from the points. -/
def offW (l : List Nat) (n t i : Nat) : Nat := Gf.mul (Gf.pAll l t n) (Gf.inv (Gf.mul (t ^^^ l.getD i 0) (Gf.pEx l i (l.getD i 0) n)))
def wf (l : List Nat) (n t i : Nat) : Nat := if t ∈ l then (if i = fi l t then 1 else 0) else offW l n t i
/-- The weights of t. -/
def wts (l : List Nat) (n t : Nat) : List Nat := (List.range n).map (wf l n t)
theorem length_wts (l : List Nat) (n t : Nat) : (wts l n t).length = n := by simp [wts]
theorem wts_get (l : List Nat) (n t i : Nat) (h : i < n) : (wts l n t).getD i 0 = wf l n t i := by
  unfold wts
  rw [List.getD_eq_getElem?_getD, List.getElem?_map, List.getElem?_range h]; rfl
theorem wf_lt (l : List Nat) (n t i : Nat) : wf l n t i < 256 := by
  unfold wf; split
  · split <;> omega
  · exact Gf.mul_lt (Gf.pAll_lt _ _ _)
theorem wts_small (l : List Nat) (n t : Nat) : Small (wts l n t) := Small.of_mem fun x hx => by
  obtain ⟨i, _, rfl⟩ := List.mem_map.1 hx; exact wf_lt _ _ _ _
theorem unit_row {l : List Nat} {n t : Nat} (ht : t ∈ l) : (bs (upto (fun _ => 0) n 0)).toArray.setIfInBounds (fi l t) (.int .u8 1) = (bs (wts l n t)).toArray := by
  apply Array.ext_getElem?
  intro i
  rw [Array.getElem?_setIfInBounds, List.getElem?_toArray, List.getElem?_toArray, List.size_toArray, length_bs, length_upto]
  by_cases hi : i < n
  · rw [upto_get _ _ _ _ hi, bs_get _ _ (by rw [length_wts]; exact hi), wts_get _ _ _ _ hi]
    unfold wf
    rw [if_pos ht]
    by_cases e : fi l t = i
    · rw [if_pos e, if_pos (by omega), if_pos e.symm]; rfl
    · rw [if_neg e, if_neg (by omega), if_neg (fun h => e h.symm)]
  · rw [List.getElem?_eq_none (l := bs (wts l n t)) (by rw [length_bs, length_wts]; omega), List.getElem?_eq_none (l := bs (upto (fun _ => 0) n 0)) (by rw [length_bs, length_upto]; omega)]
    by_cases e : fi l t = i
    · rw [if_pos e, if_neg (by omega)]
    · rw [if_neg e]
theorem index_in {w : World} {a : Option Addr} {n c x : Nat} {l : List Nat} (h : RB w a n c l) (hx : x ∈ l) :
    Calls Try.prog 112 #[.slice a n c, .int .u8 x] w fun e w' => e = .returned (.int .i64 (fi l x : Nat)) ∧ w = w' :=
  (index_any h).mono fun e w' ⟨h1, h2⟩ => ⟨by rw [h1]; exact ret_i64 (by unfold idx; rw [if_pos hx]), h2⟩
theorem index_out {w : World} {a : Option Addr} {n c x : Nat} {l : List Nat} (h : RB w a n c l) (hx : x ∉ l) :
    Calls Try.prog 112 #[.slice a n c, .int .u8 x] w fun e w' => e = .returned (.int .i64 (-1)) ∧ w = w' :=
  (index_any h).mono fun e w' ⟨h1, h2⟩ => ⟨by rw [h1]; exact ret_i64 (by unfold idx; rw [if_neg hx]), h2⟩

set_option maxHeartbeats 1600000 in
set_option maxRecDepth 100000 in
theorem weights_in {w : World} {a : Option Addr} {n c p q t : Nat} {l : List Nat} (h : Worker w l a n c p q) (hx : t ∈ l) :
    Calls Try.prog 95 #[.pointer (some ⟨q, 0, none⟩), .int .u8 t] w fun e w' => ∃ g, e = .returned (.slice (some ⟨g, 0, none⟩) n n) ∧ w.heap.size ≤ g ∧ w'.heap[g]? = some (.cells (bs (wts l n t)).toArray 5 (0, 0)) ∧ Below w.heap.size w w' := by
  obtain ⟨i0, hi, hz0, hz1, hz2⟩ := info_parts info5
  have hmost := h.rb.most
  obtain ⟨v, hv, _⟩ := h.own
  have c1 : w.cell? ⟨q, 1, none⟩ = some (.slice a n c) := (cell_of_block hv).trans rfl
  have hq := lt_of_block hv
  have hfi := (fi_at hx).1
  rw [h.rb.len] at hfi
  have H := Lib.hid h
  have HX := Lib.hid hx
  clear h hv hx
  go_enter Try.func95, Try.ntmps95
  go_wp2_with (refine wpList_make_full _ rfl (.tmp 16) (.tmp 16) 31 rfl w.heap.size 5 i0 (.int .u8 0) 1 Try.underlying31 hi hz0 hz1 .i64 .i64 _ _ n rfl rfl rfl rfl ?_ ?_ (Nat.le_refl _) ?_)
  · rw [hz2]; omega
  · unfold maxLen; omega
  intro w1 hown hg1
  have hf := full_row hown
  rw [upto_zero (fun _ => 0)] at hf
  have hB1 : Below w.heap.size w w1 := (Below.refl _ _).grown hg1 (Nat.le_refl _) (fun k e => by cases e)
  have c2 : w1.cell? ⟨q, 1, none⟩ = some (.slice a n c) := by rw [hB1.cell hq]; exact c1
  have hfr := frozen_of_block (j := fi l t) hf
  have hset := heap_setCell_same w1 w.heap.size (fi l t) _ 5 (.int .u8 1) hf
  rw [unit_row HX.out] at hset
  have HS := Lib.hid hset
  have HB := Lib.hid hB1
  have hc0 : w1.cell? ⟨w.heap.size, fi l t, none⟩ = some (.int .u8 0) := by rw [cell_of_block hf, List.getElem?_toArray, upto_get _ _ _ _ hfi]; rfl
  clear hset hB1 hown hg1 hf
  generalize hj : fi l t = j at *
  go_wp2_with (go_at_call 112; with_reducible refine (index_in (H.out.rb.below HB.out) HX.out).mono ?_; rintro e w' ⟨rfl, rfl⟩; rw [hj])
  go_ret
  exact ⟨_, rfl, Nat.le_refl _, HS.out, HB.out.setCell (Nat.le_refl _) _⟩

set_option maxHeartbeats 1600000 in
set_option maxRecDepth 100000 in
theorem weights_off {w : World} {a : Option Addr} {n c p q t : Nat} {l : List Nat} (ht : t < 256) (h : Worker w l a n c p q) (hx : t ∉ l) :
    Calls Try.prog 95 #[.pointer (some ⟨q, 0, none⟩), .int .u8 t] w fun e w' => ∃ g, e = .returned (.slice (some ⟨g, 0, none⟩) n n) ∧ w.heap.size ≤ g ∧ w'.heap[g]? = some (.cells (bs (wts l n t)).toArray 5 (0, 0)) ∧ Below w.heap.size w w' := by
  obtain ⟨i0, hi, hz0, hz1, hz2⟩ := info_parts info5
  have hmost := h.rb.most
  obtain ⟨v, hv, hap⟩ := h.own
  have hq := lt_of_block hv
  have H := Lib.hid h
  have HX := Lib.hid hx
  have HAP := Lib.hid hap
  have HV := Lib.hid hv
  have c1 : w.cell? ⟨q, 1, none⟩ = some (.slice a n c) := (cell_of_block hv).trans rfl
  clear h hx hap hv
  go_enter Try.func95, Try.ntmps95
  go_wp2_with (refine wpList_make_full _ rfl (.tmp 16) (.tmp 16) 31 rfl w.heap.size 5 i0 (.int .u8 0) 1 Try.underlying31 hi hz0 hz1 .i64 .i64 _ _ n rfl rfl rfl rfl ?_ ?_ (Nat.le_refl _) ?_)
  · rw [hz2]; omega
  · unfold maxLen; omega
  intro w1 hown hg1
  have hf := full_row hown
  rw [upto_zero (offW l n t)] at hf
  have hB1 : Below w.heap.size w w1 := (Below.refl _ _).grown hg1 (Nat.le_refl _) (fun k e => by cases e)
  have HF := Lib.hid hf
  have HB := Lib.hid hB1
  have HW := Lib.hid (H.out.below hB1)
  have hqv : IsW w1 q p a n c v := (hB1.block q hq).trans HV.out
  have HQV := Lib.hid hqv
  have c2 : w1.cell? ⟨q, 1, none⟩ = some (.slice a n c) := (cell_of_block hqv).trans rfl
  have c3 : w1.cell? ⟨q, 0, none⟩ = some (.pointer (some ⟨p, 0, none⟩)) := (cell_of_block hqv).trans rfl
  have c4 : w1.cell? ⟨q, 2, none⟩ = some v := (cell_of_block hqv).trans rfl
  have hsz := hB1.size
  clear hf hB1 hown hg1 hqv
  clear c1
  go_wp2_with (go_at_call 112; with_reducible refine (index_out HW.out.rb HX.out).mono ?_; rintro e w' ⟨rfl, rfl⟩)
  go_loopw [7, 35] (fun s i wr => ∃ m t' : Nat, m ≤ n ∧ i = .int .i64 m ∧ s = .int .u8 t' ∧ t' < 256 ∧ Hid (t' = Gf.pAll l t m) ∧ Drawn w1 wr) (fun _ i _ => n - (intOf i).toNat)
  case atStart => exact ⟨0, 1, by omega, rfl, rfl, by omega, rfl, Drawn.refl _⟩
  case round =>
    obtain ⟨m, t', hm, rfl, rfl, ht', hpk, hD⟩ := hrel
    have HD := Lib.hid hD
    by_cases hm2 : m < n
    · obtain ⟨b2, o2, rfl, hc2⟩ := HW.out.rb.at_ m hm2
      have d2 := (hD.cell _).trans hc2
      have d3 := (hD.cell _).trans c3
      have hy := HW.out.rb.small m
      have hxy := Gf.xor_lt ht hy
      have hs : Gf.mul t' (t ^^^ l.getD m 0) = Gf.pAll l t (m + 1) := by rw [hpk.out, Gf.pAll_more]
      have hl3 : Gf.mul t' (t ^^^ l.getD m 0) < 256 := Gf.mul_lt ht'
      have HS := Lib.hid hs
      generalize l.getD m 0 = y at *
      have hq1 : ∀ W, Hid (Calls Try.prog 24 #[.int .u8 (t : Nat), .int .u8 (y : Nat)] W fun e w' => e = .returned (.int .u8 (t ^^^ y : Nat)) ∧ W = w') := fun W => add_any t y ht hy W
      have hq2 : ∀ q, Hid (Calls Try.prog 23 #[.pointer (some ⟨p, 0, none⟩), .int .u8 (t' : Nat), .int .u8 (t ^^^ y : Nat)] (wr.drewN q) fun e w' => e = .returned (.int .u8 (Gf.mul t' (t ^^^ y) : Nat)) ∧ ∃ n, w' = (wr.drewN q).drewN n) := fun q => mul_any (by obtain ⟨q0, rfl⟩ := hD; exact HW.out.field) ht' hxy
      have HQ1 := Lib.hid hq1
      have HQ2 := Lib.hid hq2
      clear hq1 hq2 hs hc2 hD c2 c3 c4
      generalize Gf.mul t' (t ^^^ y) = r at *
      generalize t ^^^ y = z at *
      go_wp2_with fail
      go_quiet (first | (go_at_call 24; exact quiet_same (HQ1.out _).out) | (go_at_call 23; exact Calls.quiet_of (HQ2.out _).out))
      go_wp2_with fail
      go_roundw
      case rel => exact ⟨m + 1, r, by omega, by go_num, rfl, hl3, HS, HD.out.more _⟩
      case measure => simp [intOf]; omega
    · obtain rfl : m = n := by omega
      obtain ⟨q0, rfl⟩ := hD
      clear HD
      have HP := Lib.hid hpk.out
      clear hpk
      go_wp2_with fail
      go_loopw [54] (fun i wr => ∃ k : Nat, k ≤ m ∧ i = .int .i64 k ∧ Hid (wr.heap[w.heap.size]? = some (.cells (bs (upto (offW l m t) m k)).toArray 5 (0, 0))) ∧ Below w.heap.size w wr) (fun i _ => m - (intOf i).toNat)
      case atStart => exact ⟨0, by omega, rfl, HF.out, below_drewN HB.out _⟩
      case round =>
        obtain ⟨k, hk, rfl, hg, hB⟩ := hrel
        have HB2 := Lib.hid hB
        by_cases hk2 : k < m
        · have hW := H.out.below hB
          obtain ⟨b2, o2, rfl, hc2⟩ := hW.rb.at_ k hk2
          have hy := hW.rb.small k
          obtain ⟨b3, cap3, rfl, hc3⟩ := HAP.out k hk2
          have hb3 : b3 < w.heap.size := block_lt_of_cell hc3
          have e3 : wr.cell? ⟨b3, k, none⟩ = some (.int .u8 (Gf.pEx l k (l.getD k 0) m : Nat)) := by rw [hB.cell hb3]; exact hc3
          have e1 : wr.cell? ⟨q, 0, none⟩ = some (.pointer (some ⟨p, 0, none⟩)) := by rw [hB.cell hq]; exact (cell_of_block HV.out).trans rfl
          have e2 : wr.cell? ⟨q, 2, none⟩ = some (.slice (some ⟨b3, 0, none⟩) m cap3) := by rw [hB.cell hq]; exact (cell_of_block HV.out).trans rfl
          have hpl : Gf.pEx l k (l.getD k 0) m < 256 := Gf.pEx_lt _ _ _ _
          have hxy := Gf.xor_lt ht hy
          have hres : Gf.mul t' (Gf.inv (Gf.mul (t ^^^ l.getD k 0) (Gf.pEx l k (l.getD k 0) m))) = offW l m t k := by rw [HP.out]; rfl
          have hfr : wr.frozen? ⟨w.heap.size, k, none⟩ = false := frozen_of_block hg.out
          have hst : ∀ W : World, W.heap = wr.heap → Hid ((W.setCell ⟨w.heap.size, k, none⟩ (.int .u8 (offW l m t k : Nat))).heap[w.heap.size]? = some (.cells (bs (upto (offW l m t) m (k + 1))).toArray 5 (0, 0))) := fun W hW => by
            have := heap_setCell_same W w.heap.size k _ 5 (.int .u8 (offW l m t k : Nat)) (by rw [hW]; exact hg.out)
            rw [upto_step _ _ _ hk2] at this
            exact this
          have hc0 : wr.cell? ⟨w.heap.size, k, none⟩ = some (.int .u8 0) := by rw [cell_of_block hg.out, List.getElem?_toArray, upto_get _ _ _ _ hk2, if_neg (by omega)]; rfl
          have HST := Lib.hid hst
          have hf2 : IsF wr p := hW.field
          generalize Gf.pEx l k (l.getD k 0) m = pe at *
          generalize l.getD k 0 = y at *
          generalize offW l m t k = r at *
          have hq1 : ∀ W, Hid (Calls Try.prog 24 #[.int .u8 (t : Nat), .int .u8 (y : Nat)] W fun e w' => e = .returned (.int .u8 (t ^^^ y : Nat)) ∧ W = w') := fun W => add_any t y ht hy W
          have hml : Gf.mul (t ^^^ y) pe < 256 := Gf.mul_lt hxy
          have hq2 : ∀ W, W.heap = wr.heap → Hid (Calls Try.prog 23 #[.pointer (some ⟨p, 0, none⟩), .int .u8 (t ^^^ y : Nat), .int .u8 (pe : Nat)] W fun e w' => e = .returned (.int .u8 (Gf.mul (t ^^^ y) pe : Nat)) ∧ ∃ n, w' = W.drewN n) := fun W hW => mul_any (by unfold IsF; rw [hW]; exact hf2) hxy hpl
          generalize Gf.mul (t ^^^ y) pe = pr at *
          generalize t ^^^ y = z at *
          have hq3 : ∀ W, W.heap = wr.heap → Hid (Calls Try.prog 25 #[.pointer (some ⟨p, 0, none⟩), .int .u8 (t' : Nat), .int .u8 (pr : Nat)] W fun e w' => e = .returned (.tuple #[.int .u8 (r : Nat), .int .i64 (zerr pr)]) ∧ ∃ n, w' = W.drewN n) := fun W hW => hres ▸ div_any (by unfold IsF; rw [hW]; exact hf2) ht' hml
          generalize zerr pr = ze at *
          have HQ1 := Lib.hid hq1
          have HQ2 := Lib.hid hq2
          have HQ3 := Lib.hid hq3
          have n1 : w.heap.size ≠ q := by omega
          have n2 : w.heap.size ≠ b3 := by omega
          have n3 : q ≠ w.heap.size := by omega
          have n4 : b3 ≠ w.heap.size := by omega
          clear hq1 hq2 hq3 hst hf2 hres hg hW hc3 hB c2 c3 c4
          go_wp2_with fail
          go_region_held3 (fun w' => w'.cell? ⟨q, 0, none⟩ = some (.pointer (some ⟨p, 0, none⟩)) ∧ w'.cell? ⟨q, 2, none⟩ = some (.slice (some ⟨b3, 0, none⟩) m cap3) ∧ w'.cell? ⟨b3, k, none⟩ = some (.int .u8 (pe : Nat)))
            (first | go_keep)
            (first
              | (go_at_call 24; ((with_reducible refine (HQ1.out _).out.mono ?_); rintro e w' ⟨rfl, rfl⟩))
              | (go_at_call 23; ((with_reducible refine (HQ2.out _ ?_).out.mono ?_); rfl; rintro e w' ⟨rfl, nq, rfl⟩))
              | (go_at_call 25; ((with_reducible refine (HQ3.out _ ?_).out.mono ?_); rfl; rintro e w' ⟨rfl, nq, rfl⟩)))
          go_wp2_with fail
          go_roundw
          case rel => exact ⟨k + 1, by omega, by go_num, HST.out _ rfl, (below_drewN HB2.out _).setCell (Nat.le_refl _) _⟩
          case measure => simp [intOf]; omega
        · obtain rfl : k = m := by omega
          have hf2 := hg.out
          rw [upto_all, show (List.range k).map (offW l k t) = wts l k t from List.map_congr_left fun i _ => by unfold wf; rw [if_neg HX.out]] at hf2
          have HF2 := Lib.hid hf2
          clear hf2 hg hB
          go_wp2_with fail
          go_ret
          exact ⟨_, rfl, Nat.le_refl _, HF2.out, HB2.out⟩

theorem weights_any {w : World} {a : Option Addr} {n c p q t : Nat} {l : List Nat} (ht : t < 256) (h : Worker w l a n c p q) :
    Calls Try.prog 95 #[.pointer (some ⟨q, 0, none⟩), .int .u8 t] w fun e w' => ∃ g, e = .returned (.slice (some ⟨g, 0, none⟩) n n) ∧ w.heap.size ≤ g ∧ w'.heap[g]? = some (.cells (bs (wts l n t)).toArray 5 (0, 0)) ∧ Below w.heap.size w w' := by
  by_cases hx : t ∈ l
  · exact weights_in h hx
  · exact weights_off ht h hx
end Go.Proofs.Ytokeoodkioobdaa
