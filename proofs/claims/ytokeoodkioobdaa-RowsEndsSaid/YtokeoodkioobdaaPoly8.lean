/- The walk of poly's Add. Conditions: rows are shorter than 2 to the 47. -/
import Derived.Test.YtokeoodkioobdaaPoly7
import Derived.Laws.CopyOwn
namespace Go.Proofs.Ytokeoodkioobdaa
open Go.RowKit

/-- x, with noughts up to N. -/
def padd (x : List Nat) (N : Nat) : List Nat := x ++ List.replicate (N - x.length) 0
/-- .. and the first k of y added. -/
def sumTo (x y : List Nat) (N : Nat) : Nat → List Nat
  | 0 => padd x N
  | k + 1 => (sumTo x y N k).set k ((sumTo x y N k).getD k 0 ^^^ y.getD k 0)

theorem length_sumTo {x y : List Nat} {N : Nat} (h : x.length ≤ N) : ∀ k, (sumTo x y N k).length = N
  | 0 => by simp [sumTo, padd]; omega
  | k + 1 => by show (List.set _ _ _).length = _; rw [List.length_set, length_sumTo h k]
theorem own_full {w : World} {B g N : Nat} {L : List Nat} (h : w.heap[g]? = some (.cells (bs L).toArray 5 (0, 0))) (hl : L.length = N) (hm : N ≤ maxLen) (hB : B ≤ g) : w.ownsRow B 5 1 (.slice (some ⟨g, 0, none⟩) N N) N (bs L) :=
  ⟨by rw [length_bs, hl, Nat.mul_one], .inr ⟨g, N, (bs L).toArray, rfl, hB, h, Nat.le_refl _, hm, by simp [length_bs, hl], by simp [← hl, ← length_bs L]⟩⟩
theorem splice_padd {x : List Nat} {N : Nat} : splice (bs (List.replicate N 0)) 0 (bs x) = bs (padd x N) := by
  simp [splice, padd, bs]
theorem src_of {w : World} {a : Option Addr} {n c : Nat} {x : List Nat} (h : RB w a n c x) : 0 < (bs x).length → ∃ ad, a = some ad ∧ ∀ (j : Nat) (v : Value), (bs x)[j]? = some v → w.cell? (ad.add j) = some v := fun h0 => by
  rw [length_bs, h.len] at h0
  obtain ⟨b, off, e, _⟩ := h.at_ 0 h0
  refine ⟨_, e, fun j v hv => ?_⟩
  have hj : j < n := by have := (List.getElem?_eq_some_iff.1 hv).1; rwa [length_bs, h.len] at this
  obtain ⟨b', off', e', hc⟩ := h.at_ j hj
  rw [e] at e'; injection e' with e'; injection e' with e1 e2; subst e1; subst e2
  rw [bs_get _ _ (by rw [h.len]; exact hj)] at hv
  rw [Addr.add_lit, hc, hv]

theorem sumTo_small {x y : List Nat} {N : Nat} (hx : Small x) (hy : Small y) (h : x.length ≤ N) : ∀ k, k ≤ N → Small (sumTo x y N k)
  | 0, _ => Small.of_mem fun z hz => by
    rcases List.mem_append.1 hz with hz | hz
    · exact hx.mem hz
    · rw [List.eq_of_mem_replicate hz]; omega
  | k + 1, hk => fun j => by
    show (List.set _ _ _).getD j 0 < 256
    rw [getD_set _ _ _ _ (by rw [length_sumTo h]; omega)]
    split
    · exact Gf.xor_lt (sumTo_small hx hy h k (by omega) k) (hy k)
    · exact sumTo_small hx hy h k (by omega) j
set_option maxHeartbeats 1600000 in
set_option maxRecDepth 100000 in
theorem Add_any {w : World} {a b : Option Addr} {n c m d N : Nat} {x y : List Nat} (hx : RB w a n c x) (hy : RB w b m d y) (hN : max (n : Int) (m : Int) = (N : Int)) (hnN : n ≤ N) (hmN : m ≤ N) (hN2 : N ≤ 140737488351232) :
    Calls Try.prog 56 #[.slice a n c, .slice b m d] w fun e w' => ∃ v, e = .returned v ∧ w'.ownsRow w.heap.size 5 1 v (lean (sumTo x y N m)).length (bs (lean (sumTo x y N m))) ∧ Below w.heap.size w w' := by
  obtain ⟨i0, hi, hz0, hz1, hz2⟩ := info_parts info5
  have hm1 := hx.most
  have hm2 := hy.most
  have HX := Lib.hid hx
  have HY := Lib.hid hy
  clear hx hy
  go_enter Try.func56, Try.ntmps56
  go_wp2_with (refine wpList_make_full _ rfl (.tmp 12) (.tmp 12) 31 rfl w.heap.size 5 i0 (.int .u8 0) 1 Try.underlying31 hi hz0 hz1 .i64 .i64 _ _ N rfl rfl (by omega) (by omega) ?_ ?_ (Nat.le_refl _) ?_)
  · rw [hz2]; omega
  · unfold maxLen; omega
  all_goals
    intro w1 hown hg1
    have hz := own_zeros hown
    have hB1 : Below w.heap.size w w1 := (Below.refl _ _).grown hg1 (Nat.le_refl _) (fun j e => by cases e)
    have hf := full_row hz
    have HF := Lib.hid hf
    have HB1 := Lib.hid hB1
    have hxw := HX.out.below hB1
    have HXW := Lib.hid hxw
    clear hz hB1 hf hown hg1 hxw
    go_wp2_with (refine wpList_copy_splice rfl (.tmp 14) (.tmp 15) 31 31 rfl 5 Try.underlying31 (by kernel_rfl) _ _ _ _ _ _ rfl rfl w.heap.size 0 (bs (List.replicate N 0)) 5 HF.out (bs x) ?_ ?_ ?_ (bs_one _) w.heap.size w HB1.out (Nat.le_refl _) ?_)
  all_goals first
    | (rw [length_bs, HX.out.len]; exact (Nat.min_eq_left hnN).symm)
    | (exact src_of HXW.out)
    | (rw [length_bs, length_bs, HX.out.len, List.length_replicate]; omega)
    | skip
  all_goals
    intro w2 hh2 hB2
    have hrow := hh2.out
    rw [splice_padd] at hrow
    have hown := own_full (B := w.heap.size) hrow (by have := length_sumTo (x := x) (y := y) (by rw [HX.out.len]; exact hnN) 0; exact this) (by unfold maxLen; omega) (Nat.le_refl _)
    have HO := Lib.hid hown
    have HB2 := Lib.hid hB2
    clear hh2 hB2 hrow hown
    go_wp2_with fail
    go_loopw [19] (fun i wr => ∃ k : Nat, k ≤ m ∧ i = .int .i64 k ∧ Hid (wr.ownsRow w.heap.size 5 1 (.slice (some ⟨w.heap.size, 0, none⟩) N N) N (bs (sumTo x y N k))) ∧ Below w.heap.size w wr) (fun i _ => m - (intOf i).toNat)
    case atStart => exact ⟨0, by omega, rfl, HO.out, HB2.out⟩
    case round =>
      obtain ⟨k, hk, rfl, hown, hB⟩ := hrel
      have HB := Lib.hid hB
      by_cases hk1 : k < m
      · obtain ⟨b1, o1, rfl, hc1⟩ := (HY.out.below hB).at_ k hk1
        have hy1 := HY.out.small k
        have hc2 := own_cell hown.out (i := k) (by omega)
        have hfr := hc2.2
        have hc3 := hc2.1
        have hst := own_set (i := k) (x := (sumTo x y N k).getD k 0 ^^^ y.getD k 0) hown.out
        have hs := sumTo_small HX.out.small HY.out.small (by rw [HX.out.len]; exact hnN) k (by omega) k
        have HST := Lib.hid (show World.ownsRow _ _ 5 1 _ _ (bs (sumTo x y N (k + 1))) from hst)
        have h24 := fun W => add_any ((sumTo x y N k).getD k 0) (y.getD k 0) hs hy1 W
        have H24 := Lib.hid h24
        have hkN : k < N := by omega
        clear hst hc2 h24 hown hB
        generalize (sumTo x y N k).getD k 0 ^^^ y.getD k 0 = r at *
        generalize (sumTo x y N k).getD k 0 = u at *
        generalize y.getD k 0 = v at *
        go_wp2_with (go_at_call 24; ((with_reducible refine (H24.out _).mono ?_); rintro e w' ⟨rfl, rfl⟩))
        go_roundw
        case rel => exact ⟨k + 1, by omega, by go_num, HST, HB.out.setCell (Nat.le_refl _) _⟩
        case measure => simp [intOf]; omega
      · obtain rfl : k = m := by omega
        obtain ⟨na, nc, he, hnr⟩ := own_rb hown.out (sumTo_small HX.out.small HY.out.small (by rw [HX.out.len]; exact hnN) k (by omega)) hN2
        injection he with e1 e2 e3
        subst e1; subst e3
        have hsz := own_block hown.out
        have hln := Lean_any hnr
        have HLN := Lib.hid hln
        clear hln hnr hown hB
        go_wp2_with (go_at_call 47; ((with_reducible refine HLN.out.mono ?_); rintro e w6 ⟨v6, rfl, hown6, hB6⟩; have HOW6 := Lib.hid hown6; have HB6 := Lib.hid hB6; clear hown6 hB6))
        go_ret
        exact ⟨_, rfl, own_mono HOW6.out (by omega), HB.out.trans (HB6.out.mono (by omega))⟩
end Go.Proofs.Ytokeoodkioobdaa
