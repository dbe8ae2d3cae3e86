/- The walks of the reference's Value, Values, Weights by points. Conditions: at most 1000 points. -/
import Derived.Test.YtokeoodkioobdaaPoly19
import Derived.Test.YtokeoodkioobdaaLagr6
import Derived.LoopN
namespace Go.Proofs.Ytokeoodkioobdaa
open Go.RowKit

/-- The value by the polynomial is the value by the weights. -/
def rpol (l v : List Nat) (n : Nat) : List Nat := lean (rto l v n)
theorem rpol_small {l v : List Nat} (hv : Small v) (n : Nat) : Small (rpol l v n) := lean_small (rto_small hv n)
theorem sm_of_small {l : List Nat} (h : Small l) : Gf.Sm l := fun x hx => by
  obtain ⟨j, _, e⟩ := Gf.mem_getD hx
  rw [← e]; exact h j
theorem rpol_val {l v : List Nat} (hl : Small l) (hv : Small v) (hn : l.Nodup) {t : Nat} (ht : t < 256) : sval (rpol l v l.length) t (rpol l v l.length).length = lval l v l.length t := by
  have hs := rto_small (l := l) hv l.length
  obtain ⟨h1, h2, _⟩ := rto_ok hl hv hn l.length (Nat.le_refl _)
  rw [sval_ev ht (rpol_small hv _), lval_F hl hn ht]
  have hP : Gf.IsP l.length fun x => Gf.ev (rpol l v l.length) x := ⟨rpol l v l.length, lean_len h1, sm_of_small (rpol_small hv _), fun _ _ => rfl⟩
  refine (Gf.F_eq hl hv hn hP (fun j hj => ?_) ht).symm
  show Gf.ev (lean (rto l v l.length)) (l.getD j 0) = _
  rw [ev_lean (hl j) hs, h2 j hj]

set_option maxHeartbeats 1600000 in
set_option maxRecDepth 100000 in
theorem rval_ok {w : World} {a b : Option Addr} {n c d t : Nat} {l v : List Nat} (ht : t < 256) (h : RB w a n c l) (hv : RB w b n d v) (hn : l.Nodup) (hm : n ≤ 1000) :
    Calls Try.prog 54 #[.slice a n c, .slice b n d, .int .u8 (t : Nat)] w fun e w' => e = .returned (.tuple #[.int .u8 (lval l v n t : Nat), .int .i64 0]) ∧ Below w.heap.size w w' := by
  have h43 := Lib.hid (rThrough_ok h hv hn hm)
  have hval := rpol_val h.small hv.small hn ht
  rw [h.len] at hval
  have HVal := Lib.hid hval
  have HS := Lib.hid (rpol_small (l := l) hv.small n)
  have hlen : (lean (rto l v n)).length ≤ 10000 := by
    have := lean_le (rto l v n)
    have := rto_len l v n (by rw [h.len]; omega)
    rw [h.len] at this
    omega
  have HLen := Lib.hid hlen
  clear h hv hval hlen
  go_enter Try.func54, Try.ntmps54
  go_wp2_with fail
  refine h43.out.mono ?_
  rintro e w1 ⟨x, rfl, ho, hB⟩
  obtain ⟨a1, c1, rfl, hr⟩ := own_rb ho HS.out (by have := HLen.out; omega)
  have HB := Lib.hid hB
  have h63 : Calls Try.prog 63 #[.slice a1 (lean (rto l v n)).length c1, .int .u8 (t : Nat)] w1 fun e w' => e = .returned (.int .u8 (lval l v n t : Nat)) ∧ w1 = w' := by
    rw [← HVal.out]; exact rValue_any ht hr
  have H63 := Lib.hid h63
  clear h63 ho hB hr
  generalize (lean (rto l v n)).length = k at *
  go_wp2_with fail
  refine H63.out.mono ?_
  rintro e w2 ⟨rfl, rfl⟩
  go_wp2_with fail
  go_ret2
  exact ⟨rfl, HB.out⟩

set_option maxHeartbeats 800000 in
set_option maxRecDepth 100000 in
theorem rval_twice {w : World} {a b : Option Addr} {n c d t : Nat} {l : List Nat} (h : RB w a n c l) (hn : ¬ l.Nodup) :
    Calls Try.prog 54 #[.slice a n c, .slice b n d, .int .u8 (t : Nat)] w fun e w' => e = .returned (.tuple #[.int .u8 0, .int .i64 9]) ∧ Below w.heap.size w w' := by
  have h43 := Lib.hid (rThrough_twice (b := b) (d := d) h hn)
  clear h
  go_enter Try.func54, Try.ntmps54
  go_wp2_with fail
  refine h43.out.mono ?_
  rintro e w1 ⟨rfl, hB⟩
  have HB := Lib.hid hB
  clear hB
  go_wp2_with fail
  go_ret2
  exact ⟨rfl, HB.out⟩
set_option maxHeartbeats 800000 in
set_option maxRecDepth 100000 in
theorem rval_arg {w : World} {a b : Option Addr} {n c m d t : Nat} (hn : n ≠ m) :
    Calls Try.prog 54 #[.slice a n c, .slice b m d, .int .u8 (t : Nat)] w fun e w' => e = .returned (.tuple #[.int .u8 0, .int .i64 2]) ∧ Below w.heap.size w w' := by
  have h43 := Lib.hid (rThrough_arg (w := w) (a := a) (b := b) (c := c) (d := d) hn)
  go_enter Try.func54, Try.ntmps54
  go_wp2_with fail
  refine h43.out.mono ?_
  rintro e w1 ⟨rfl, hB⟩
  have HB := Lib.hid hB
  clear hB
  go_wp2_with fail
  go_ret2
  exact ⟨rfl, HB.out⟩

set_option maxHeartbeats 800000 in
set_option maxRecDepth 100000 in
theorem rvals_twice {w : World} {a b x : Option Addr} {n c d m e : Nat} {l : List Nat} (h : RB w a n c l) (hn : ¬ l.Nodup) :
    Calls Try.prog 52 #[.slice a n c, .slice b n d, .slice x m e] w fun e w' => e = .returned (.tuple #[.slice none 0 0, .int .i64 9]) ∧ Below w.heap.size w w' := by
  have h43 := Lib.hid (rThrough_twice (b := b) (d := d) h hn)
  clear h
  go_enter Try.func52, Try.ntmps52
  go_wp2_with fail
  refine h43.out.mono ?_
  rintro e w1 ⟨rfl, hB⟩
  have HB := Lib.hid hB
  clear hB
  go_wp2_with fail
  go_ret2
  exact ⟨rfl, HB.out⟩
set_option maxHeartbeats 800000 in
set_option maxRecDepth 100000 in
theorem rvals_arg {w : World} {a b x : Option Addr} {n c m d k e : Nat} (hn : n ≠ m) :
    Calls Try.prog 52 #[.slice a n c, .slice b m d, .slice x k e] w fun e w' => e = .returned (.tuple #[.slice none 0 0, .int .i64 2]) ∧ Below w.heap.size w w' := by
  have h43 := Lib.hid (rThrough_arg (w := w) (a := a) (b := b) (c := c) (d := d) hn)
  go_enter Try.func52, Try.ntmps52
  go_wp2_with fail
  refine h43.out.mono ?_
  rintro e w1 ⟨rfl, hB⟩
  have HB := Lib.hid hB
  clear hB
  go_wp2_with fail
  go_ret2
  exact ⟨rfl, HB.out⟩


set_option maxHeartbeats 1600000 in
set_option maxRecDepth 100000 in
theorem rvals_ok {w : World} {a b d : Option Addr} {n c c2 m c3 : Nat} {l v xs : List Nat} (h : RB w a n c l) (hv : RB w b n c2 v) (hx : RB w d m c3 xs) (hn : l.Nodup) (hm : n ≤ 1000) :
    Calls Try.prog 52 #[.slice a n c, .slice b n c2, .slice d m c3] w fun e w' => ∃ out, e = .returned (.tuple #[out, .int .i64 0]) ∧ w'.ownsRow w.heap.size 5 1 out m (bs (lvals l v n xs)) ∧ Below w.heap.size w w' := by
  obtain ⟨i0, hi, hz0, hz1, hz2⟩ := info_parts info5
  have hm2 := hx.most
  have h43 := Lib.hid (rThrough_ok h hv hn hm)
  have hval : ∀ t, t < 256 → sval (rpol l v n) t (rpol l v n).length = lval l v n t := fun t ht => by
    have := rpol_val h.small hv.small hn ht
    rwa [h.len] at this
  have HVal := Lib.hid hval
  have HS := Lib.hid (rpol_small (l := l) hv.small n)
  have hlen : (rpol l v n).length ≤ 10000 := by
    have := lean_le (rto l v n)
    have := rto_len l v n (by rw [h.len]; omega)
    rw [h.len] at this
    unfold rpol
    omega
  have HLen := Lib.hid hlen
  have HX := Lib.hid hx
  clear h hv hval hlen hx
  go_enter Try.func52, Try.ntmps52
  go_wp2_with fail
  refine h43.out.mono ?_
  rintro e w1 ⟨x, rfl, ho, hB⟩
  obtain ⟨a1, c1, rfl, hr⟩ := own_rb (l := rpol l v n) ho HS.out (by have := HLen.out; unfold rpol at this; omega)
  have HB := Lib.hid hB
  have HR := Lib.hid (show RB w1 a1 (rpol l v n).length c1 (rpol l v n) from hr)
  have HV2 : Hid (∀ t, t < 256 → sval (rpol l v n) t (rpol l v n).length = lval l v n t) := HVal
  have hX1 := HX.out.below hB
  have HX1 := Lib.hid hX1
  clear ho hB hr hX1 h43
  have hpl : (lean (rto l v n)).length = (rpol l v n).length := rfl
  rw [hpl]
  clear hpl
  generalize hkk : (rpol l v n).length = kk at *
  clear hkk
  go_wp2_with fail
  go_loopw [10, 11] (fun s i wr => ∃ k : Nat, k ≤ m ∧ i = .int .i64 k ∧ Hid (wr.ownsRow w1.heap.size 5 1 s k (bs (lvals l v n (xs.take k)))) ∧ Hid (Below w1.heap.size w1 wr)) (fun _ i _ => m - (intOf i).toNat)
  case atStart => exact ⟨0, by omega, rfl, World.ownsRow_nil _ _ _ _, Below.refl _ _⟩
  case round =>
    obtain ⟨k, hk, rfl, HO, HB2⟩ := hrel
    by_cases hk1 : k < m
    · obtain ⟨b1, o1, rfl, hc1⟩ := (HX1.out.below HB2.out).at_ k hk1
      have hxs := HX.out.small k
      have hsk := lvals_take (l := l) (v := v) (n := n) (xs := xs) (k := k) (by rw [HX.out.len]; exact hk1)
      have h63 : Calls Try.prog 63 #[.slice a1 kk c1, .int .u8 (xs.getD k 0 : Nat)] wr fun e w' => e = .returned (.int .u8 (lval l v n (xs.getD k 0) : Nat)) ∧ wr = w' := by
        rw [← HV2.out _ hxs]; exact rValue_any hxs (HR.out.below HB2.out)
      have H63 := Lib.hid h63
      have HSK := Lib.hid hsk
      have hsz : w1.heap.size ≤ wr.heap.size := HB2.out.size
      clear hsk h63
      generalize lval l v n (xs.getD k 0) = r at *
      generalize xs.getD k 0 = t at *
      have HAL := Lib.hid (HO.out.alloc (.cells #[.int .u8 (r : Nat)] 5))
      go_wp2_with fail
      refine H63.out.mono ?_
      rintro e w5 ⟨rfl, rfl⟩
      go_wp2_with (at_builtin; refine wpList_append_own _ rfl (.tmp 27) (.tmp 34) 31 rfl w1.heap.size 5 i0 (.int .u8 0) 1 1 Try.underlying31 hi hz0 hz1 hz2 rfl (by decide) u10 k (bs (lvals l v n (xs.take k))) rfl HAL.out ⟨wr.heap.size, 0, none⟩ 1 1 [.int .u8 (r : Nat)] rfl rfl (cell_new _ _) (one_u8 _) (by unfold maxLen; omega) (by omega) (by simp; omega) ?_)
      intro v' w6 hown2 hg2 _
      have HO6 := Lib.hid hown2
      have HG6 := Lib.hid hg2
      clear hown2 hg2
      go_wp2_with fail
      go_roundw
      case rel => exact ⟨k + 1, by omega, by go_num, (by rw [HSK.out]; exact HO6.out), (HB2.out.alloc hsz _).grown HG6.out (by simp; omega) (fun j e => (HO.out.lt j e).1)⟩
      case measure => simp [intOf]; omega
    · obtain rfl : k = m := by omega
      have hf : wr.ownsRow w.heap.size 5 1 u10 k (bs (lvals l v n xs)) := by
        have := own_mono HO.out HB.out.size
        rwa [List.take_of_length_le (by rw [HX.out.len]; exact Nat.le_refl _)] at this
      have HF := Lib.hid hf
      clear hf HO
      go_wp2_with fail
      go_ret2
      exact ⟨_, rfl, HF.out, HB.out.trans (HB2.out.mono HB.out.size)⟩

def unitL (n i : Nat) : List Nat := (List.replicate n 0).set i 1
theorem unitL_get {n i : Nat} (hi : i < n) (j : Nat) : (unitL n i).getD j 0 = if i = j then 1 else 0 := by
  unfold unitL
  rw [getD_set _ _ _ _ (by simp; exact hi)]
  split
  · rfl
  · rw [List.getD_eq_getElem?_getD, List.getElem?_replicate]; split <;> rfl
theorem unitL_small {n i : Nat} (hi : i < n) : Small (unitL n i) := fun j => by rw [unitL_get hi]; split <;> omega
theorem dot_unit {x : List Nat} (hx : Small x) {n i : Nat} (hi : i < n) : ∀ k, dotTo x (unitL n i) k = if i < k then x.getD i 0 else 0
  | 0 => by rw [if_neg (by omega)]; rfl
  | k + 1 => by
    show dotTo x (unitL n i) k ^^^ Gf.mul (x.getD k 0) ((unitL n i).getD k 0) = _
    rw [dot_unit hx hi k, unitL_get hi]
    by_cases e : i = k
    · subst e; rw [if_neg (by omega), if_pos rfl, if_pos (by omega), Gf.mul_one (hx i), Nat.zero_xor]
    · rw [if_neg e, Gf.mul_zero, Nat.xor_zero]
      by_cases h : i < k
      · rw [if_pos h, if_pos (by omega)]
      · rw [if_neg h, if_neg (by omega)]
theorem lval_unit {l : List Nat} {n i t : Nat} (hi : i < n) : lval l (unitL n i) n t = wf l n t i := by
  unfold lval; rw [dot_unit (wts_small _ _ _) hi, if_pos hi, wts_get _ _ _ _ hi]
def wtsTo (l : List Nat) (n t k : Nat) : List Nat := (List.range k).map (wf l n t)
theorem wtsTo_succ (l : List Nat) (n t k : Nat) : bs (wtsTo l n t (k + 1)) = bs (wtsTo l n t k) ++ [.int .u8 (wf l n t k : Nat)] := by simp [wtsTo, bs, List.range_succ]

set_option maxHeartbeats 1600000 in
set_option maxRecDepth 100000 in
theorem rwts_ok {w : World} {a : Option Addr} {n c t : Nat} {l : List Nat} (ht : t < 256) (h : RB w a n c l) (hn : l.Nodup) (hm : n ≤ 1000) :
    Calls Try.prog 50 #[.slice a n c, .int .u8 (t : Nat)] w fun e w' => ∃ out, e = .returned (.tuple #[out, .int .i64 0]) ∧ w'.ownsRow w.heap.size 5 1 out n (bs (wts l n t)) ∧ Below w.heap.size w w' := by
  obtain ⟨i0, hi, hz0, hz1, hz2⟩ := info_parts info5
  have HN := Lib.hid hn
  have H := Lib.hid h
  clear h hn
  go_enter Try.func50, Try.ntmps50
  go_wp2_with fail
  go_loopw [6, 7] (fun s i wr => ∃ k : Nat, k ≤ n ∧ i = .int .i64 k ∧ Hid (wr.ownsRow w.heap.size 5 1 s k (bs (wtsTo l n t k))) ∧ Hid (Below w.heap.size w wr)) (fun _ i _ => n - (intOf i).toNat)
  case atStart => exact ⟨0, by omega, rfl, World.ownsRow_nil _ _ _ _, Below.refl _ _⟩
  case round =>
    obtain ⟨k, hk, rfl, HO, HB⟩ := hrel
    by_cases hk1 : k < n
    · have hsz : w.heap.size ≤ wr.heap.size := HB.out.size
      go_wp2_with (refine wpList_make_full _ rfl (.tmp 18) (.tmp 18) 31 rfl wr.heap.size 5 i0 (.int .u8 0) 1 Try.underlying31 hi hz0 hz1 .i64 .i64 _ _ n rfl rfl rfl rfl ?_ ?_ (Nat.le_refl _) ?_)
      · rw [hz2]; omega
      · unfold maxLen; omega
      intro w3 hown hg3
      have hB3 : Below wr.heap.size wr w3 := (Below.refl _ _).grown hg3 (Nat.le_refl _) (fun j e => by cases e)
      have hoz := own_zeros hown
      obtain ⟨hc3, hf3⟩ := own_cell hoz (i := k) hk1
      have hst := own_set (i := k) (x := 1) hoz
      have HST := Lib.hid (show World.ownsRow _ _ 5 1 _ _ (bs (unitL n k)) from hst)
      have HBS := Lib.hid (hB3.setCell (p := ⟨wr.heap.size, k, none⟩) (Nat.le_refl _) (.int .u8 1))
      clear hown hg3 hB3 hoz hst
      have h54 := rval_ok (w := w3.setCell ⟨wr.heap.size, k, none⟩ (.int .u8 1)) ht ((H.out.below HB.out).below HBS.out) (own_rb2 HST.out (unitL_small hk1) (by omega)) HN.out hm
      rw [lval_unit hk1] at h54
      have H54 := Lib.hid h54
      have HWS := Lib.hid (wtsTo_succ l n t k)
      clear h54
      generalize wf l n t k = r at *
      go_wp2_with fail
      refine H54.out.mono ?_
      rintro e w4 ⟨rfl, hB4⟩
      have hB5 := HBS.out.trans (hB4.mono HBS.out.size)
      have HB5 := Lib.hid hB5
      have HAL := Lib.hid ((own_below HO.out hB5).alloc (.cells #[.int .u8 (r : Nat)] 5))
      have hsz4 : wr.heap.size ≤ w4.heap.size := hB5.size
      clear hB4 hB5 H54
      go_wp2_with (at_builtin; refine wpList_append_own _ rfl (.tmp 33) (.tmp 35) 31 rfl w.heap.size 5 i0 (.int .u8 0) 1 1 Try.underlying31 hi hz0 hz1 hz2 rfl (by decide) u6 k (bs (wtsTo l n t k)) rfl HAL.out ⟨w4.heap.size, 0, none⟩ 1 1 [.int .u8 (r : Nat)] rfl rfl (cell_new _ _) (one_u8 _) (by unfold maxLen; omega) (by omega) (by simp; omega) ?_)
      intro v' w6 hown2 hg2 _
      have HO6 := Lib.hid hown2
      have HG6 := Lib.hid hg2
      clear hown2 hg2
      go_wp2_with fail
      go_roundw
      case rel => exact ⟨k + 1, by omega, by go_num, (by rw [HWS.out]; exact HO6.out), ((HB.out.trans (HB5.out.mono hsz)).alloc (by omega) _).grown HG6.out (by simp; omega) (fun j e => (HO.out.lt j e).1)⟩
      case measure => simp [intOf]; omega
    · obtain rfl : k = n := by omega
      go_wp2_with fail
      go_ret2
      exact ⟨_, rfl, HO.out, HB.out⟩

set_option maxHeartbeats 1600000 in
set_option maxRecDepth 100000 in
theorem rwts_twice {w : World} {a : Option Addr} {n c t : Nat} {l : List Nat} (h : RB w a n c l) (hn : ¬ l.Nodup) (hm : n ≤ 1000) :
    Calls Try.prog 50 #[.slice a n c, .int .u8 (t : Nat)] w fun e w' => e = .returned (.tuple #[.slice none 0 0, .int .i64 9]) ∧ Below w.heap.size w w' := by
  obtain ⟨i0, hi, hz0, hz1, hz2⟩ := info_parts info5
  have h0 : 0 < n := by
    rcases Nat.eq_zero_or_pos n with e | e
    · exact absurd (by rw [List.eq_nil_of_length_eq_zero (h.len.trans e)]; exact List.nodup_nil) hn
    · exact e
  have HN := Lib.hid hn
  have H := Lib.hid h
  clear h hn
  go_enter Try.func50, Try.ntmps50
  go_wp2_with fail
  refine wp_loop_rounds 1 ?_
  rw [rounds_succ]
  go_wp2_with (refine wpList_make_full _ rfl (.tmp 18) (.tmp 18) 31 rfl w.heap.size 5 i0 (.int .u8 0) 1 Try.underlying31 hi hz0 hz1 .i64 .i64 _ _ n rfl rfl rfl rfl ?_ ?_ (Nat.le_refl _) ?_)
  · rw [hz2]; omega
  · unfold maxLen; omega
  intro w3 hown hg3
  have hB3 : Below w.heap.size w w3 := (Below.refl _ _).grown hg3 (Nat.le_refl _) (fun j e => by cases e)
  have hoz := own_zeros hown
  obtain ⟨hc3, hf3⟩ := own_cell hoz (i := 0) h0
  have hB4 := hB3.setCell (p := ⟨w.heap.size, 0, none⟩) (Nat.le_refl _) (.int .u8 1)
  have HBS := Lib.hid hB4
  have h54 := rval_twice (b := some ⟨w.heap.size, 0, none⟩) (d := n) (t := t) (H.out.below hB4) HN.out
  have H54 := Lib.hid h54
  clear hown hg3 hB3 hoz h54 hB4
  go_wp2_with fail
  refine H54.out.mono ?_
  rintro e w4 ⟨rfl, hB4⟩
  have HB5 := Lib.hid (HBS.out.trans (hB4.mono HBS.out.size))
  clear hB4 H54
  go_wp2_with fail
  go_ret2
  exact ⟨rfl, HB5.out⟩
end Go.Proofs.Ytokeoodkioobdaa
