/- The walks of the reference's Add and product of polynomials. Conditions: rows are shorter than 2 to the 46. -/
import Derived.Test.YtokeoodkioobdaaPr1
namespace Go.Proofs.Ytokeoodkioobdaa
open Go.RowKit

/-- x's first k, noughts up to N. -/
def cpTo (x : List Nat) (N : Nat) : Nat → List Nat
  | 0 => List.replicate N 0
  | k + 1 => (cpTo x N k).set k (x.getD k 0)
theorem length_cpTo (x : List Nat) (N : Nat) : ∀ k, (cpTo x N k).length = N
  | 0 => by simp [cpTo]
  | k + 1 => by show (List.set _ _ _).length = _; rw [List.length_set, length_cpTo x N k]
theorem cpTo_get (x : List Nat) (N : Nat) : ∀ k, k ≤ N → ∀ j, (cpTo x N k).getD j 0 = if j < k then x.getD j 0 else 0
  | 0, _, j => by rw [if_neg (by omega)]; simp [cpTo, List.getD_eq_getElem?_getD, List.getElem?_replicate]; split <;> rfl
  | k + 1, h, j => by
    show (List.set _ _ _).getD j 0 = _
    rw [getD_set _ _ _ _ (by rw [length_cpTo]; omega), cpTo_get x N k (by omega)]
    by_cases e : k = j
    · subst e; rw [if_pos rfl, if_pos (by omega)]
    · rw [if_neg e]
      by_cases h2 : j < k
      · rw [if_pos h2, if_pos (by omega)]
      · rw [if_neg h2, if_neg (by omega)]
theorem ext_getD {a b : List Nat} (hl : a.length = b.length) (h : ∀ j, a.getD j 0 = b.getD j 0) : a = b := by
  apply List.ext_getElem hl
  intro i h1 h2
  have := h i
  simpa [List.getD_eq_getElem?_getD, h1, h2] using this
theorem padd_get (x : List Nat) (N j : Nat) : (padd x N).getD j 0 = x.getD j 0 := by
  unfold padd
  rw [List.getD_eq_getElem?_getD, List.getElem?_append, List.getD_eq_getElem?_getD]
  split
  · rfl
  · rw [List.getElem?_eq_none (by omega : x.length ≤ j), List.getElem?_replicate]; split <;> rfl
theorem cpTo_all {x : List Nat} {N : Nat} (h : x.length ≤ N) : cpTo x N x.length = padd x N :=
  ext_getD (by rw [length_cpTo]; simp [padd]; omega) fun j => by
    rw [cpTo_get x N _ h, padd_get]
    split
    · rfl
    · rw [List.getD_eq_getElem?_getD, List.getElem?_eq_none (by omega)]; rfl
theorem cpTo_small {x : List Nat} {N : Nat} (hx : Small x) (k : Nat) (hk : k ≤ N) : Small (cpTo x N k) := fun j => by
  rw [cpTo_get x N k hk]
  split
  · exact hx j
  · omega

set_option maxHeartbeats 3200000 in
set_option maxRecDepth 100000 in
theorem rAdd_any {w : World} {a b : Option Addr} {n c m d N : Nat} {x y : List Nat} (hx : RB w a n c x) (hy : RB w b m d y) (hN : max (n : Int) (m : Int) = (N : Int)) (hnN : n ≤ N) (hmN : m ≤ N) (hN2 : N ≤ 140737488351232) :
    Calls Try.prog 61 #[.slice a n c, .slice b m d] w fun e w' => ∃ v, e = .returned v ∧ w'.ownsRow w.heap.size 5 1 v (lean (sumTo x y N m)).length (bs (lean (sumTo x y N m))) ∧ Below w.heap.size w w' := by
  obtain ⟨i0, hi, hz0, hz1, hz2⟩ := info_parts info5
  have hm1 := hx.most
  have hm2 := hy.most
  have HX := Lib.hid hx
  have HY := Lib.hid hy
  clear hx hy
  go_enter Try.func61, Try.ntmps61
  go_wp2_with (refine wpList_make_full _ rfl (.tmp 12) (.tmp 12) 31 rfl w.heap.size 5 i0 (.int .u8 0) 1 Try.underlying31 hi hz0 hz1 .i64 .i64 _ _ N rfl rfl (by omega) (by omega) ?_ ?_ (Nat.le_refl _) ?_)
  · rw [hz2]; omega
  · unfold maxLen; omega
  all_goals
    intro w1 hown hg1
    have hB1 : Below w.heap.size w w1 := (Below.refl _ _).grown hg1 (Nat.le_refl _) (fun j e => by cases e)
    have HO := Lib.hid (own_zeros hown)
    have HB1 := Lib.hid hB1
    clear hB1 hown hg1
    go_wp2_with fail
    go_loopw [6] (fun i wr => ∃ k : Nat, k ≤ n ∧ i = .int .i64 k ∧ Hid (wr.ownsRow w.heap.size 5 1 (.slice (some ⟨w.heap.size, 0, none⟩) N N) N (bs (cpTo x N k))) ∧ Below w.heap.size w wr) (fun i _ => n - (intOf i).toNat)
    case atStart => exact ⟨0, by omega, rfl, HO.out, HB1.out⟩
    case round =>
      obtain ⟨k, hk, rfl, hown, hB⟩ := hrel
      have HB := Lib.hid hB
      by_cases hk1 : k < n
      · obtain ⟨b1, o1, rfl, hc1⟩ := (HX.out.below hB).at_ k hk1
        have hc2 := own_cell hown.out (i := k) (by omega)
        have hfr := hc2.2
        have hc3 := hc2.1
        have hst := own_set (i := k) (x := x.getD k 0) hown.out
        have HST := Lib.hid (show World.ownsRow _ _ 5 1 _ _ (bs (cpTo x N (k + 1))) from hst)
        have hkN : k < N := by omega
        clear hst hc2 hown hB
        generalize x.getD k 0 = u at *
        generalize (cpTo x N k).getD k 0 = v at *
        go_wp2_with fail
        go_roundw
        case rel => exact ⟨k + 1, by omega, by go_num, HST, HB.out.setCell (Nat.le_refl _) _⟩
        case measure => simp [intOf]; omega
      · obtain rfl : k = n := by omega
        have hs0 := hown.out
        have hxl := HX.out.len
        rw [show cpTo x N k = sumTo x y N 0 from by rw [← hxl]; exact cpTo_all (by omega)] at hs0
        have HS0 := Lib.hid hs0
        clear hs0 hown hB hxl
        go_wp2_with fail
        go_loopw [7] (fun i wr => ∃ j : Nat, j ≤ m ∧ i = .int .i64 j ∧ Hid (wr.ownsRow w.heap.size 5 1 (.slice (some ⟨w.heap.size, 0, none⟩) N N) N (bs (sumTo x y N j))) ∧ Below w.heap.size w wr) (fun i _ => m - (intOf i).toNat)
        case atStart => exact ⟨0, by omega, rfl, HS0.out, HB.out⟩
        case round =>
          obtain ⟨j, hj, rfl, hown, hB⟩ := hrel
          have HB := Lib.hid hB
          by_cases hj1 : j < m
          · obtain ⟨b1, o1, rfl, hc1⟩ := (HY.out.below hB).at_ j hj1
            have hy1 := HY.out.small j
            have hc2 := own_cell hown.out (i := j) (by omega)
            have hfr := hc2.2
            have hc3 := hc2.1
            have hst := own_set (i := j) (x := (sumTo x y N j).getD j 0 ^^^ y.getD j 0) hown.out
            have hs := sumTo_small HX.out.small HY.out.small (by rw [HX.out.len]; exact hnN) j (by omega) j
            have HST := Lib.hid (show World.ownsRow _ _ 5 1 _ _ (bs (sumTo x y N (j + 1))) from hst)
            have hxo := u8_xor_nat ((sumTo x y N j).getD j 0) (y.getD j 0) hs hy1
            have hjN : j < N := by omega
            have h1j : (0 : Int) ≤ (j : Int) := by omega
            have h2j : (j : Int) < (N : Int) := by omega
            have h3j : (j : Int) < (m : Int) := by omega
            clear hst hc2 hown hB
            generalize (sumTo x y N j).getD j 0 ^^^ y.getD j 0 = r at *
            generalize (sumTo x y N j).getD j 0 = u at *
            generalize y.getD j 0 = v at *
            go_wp2_with fail
            refine region_quiet_tail 12 (by kernel_rfl) (by kernel_rfl) ?_
            simp only [List.take_succ_cons, List.take_zero, List.drop_succ_cons, List.drop_zero]
            repeat (go_big_quiet_step (fail))
            refine wpQuiet_nil ?_
            intro _ hw'
            obtain ⟨nq, rfl⟩ := hw'
            go_wp2_with fail
            go_roundw
            case rel => exact ⟨j + 1, by omega, by go_num, HST, (below_drewN HB.out _).setCell (Nat.le_refl _) _⟩
            case measure => simp [intOf]; omega
          · obtain rfl : j = m := by omega
            obtain ⟨na, nc, he, hnr⟩ := own_rb hown.out (sumTo_small HX.out.small HY.out.small (by rw [HX.out.len]; exact hnN) j (by omega)) hN2
            injection he with e1 e2 e3
            subst e1; subst e3
            have hsz := own_block hown.out
            have HLN := Lib.hid (rLean_any hnr)
            clear hnr hown hB
            go_wp2_with (go_at_call 62; ((with_reducible refine HLN.out.mono ?_); rintro e w6 ⟨v6, rfl, hown6, hB6⟩; have HOW6 := Lib.hid hown6; have HB6 := Lib.hid hB6; clear hown6 hB6))
            go_ret
            exact ⟨_, rfl, own_mono HOW6.out (by omega), HB.out.trans (HB6.out.mono (by omega))⟩
end Go.Proofs.Ytokeoodkioobdaa
