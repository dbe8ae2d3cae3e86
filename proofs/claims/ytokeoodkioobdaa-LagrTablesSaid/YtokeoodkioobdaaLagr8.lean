/- The walks of the reference's Value, Values, Weights by points. Conditions: at most 1000 points. -/
import Derived.Test.YtokeoodkioobdaaPoly19
import Derived.Test.YtokeoodkioobdaaLagr6
import Derived.LoopN
namespace Go.Proofs.Ytokeoodkioobdaa
open Go.RowKit

/-- The value by the polynomial is the value by the weights. -/
def rpol (l v : List Nat) (n : Nat) : List Nat := lean (rto l v n)
theorem rpol_small {l v : List Nat} (hv : Small v) (n : Nat) : Small (rpol l v n) := lean_small (rto_small hv n)
theorem sm_of_small {l : List Nat} (h : Small l) : Gf.Sm l := fun x hx => by
  obtain ⟨j, _, e⟩ := Gf.mem_getD hx
  rw [← e]; exact h j
theorem rpol_val {l v : List Nat} (hl : Small l) (hv : Small v) (hn : l.Nodup) {t : Nat} (ht : t < 256) : sval (rpol l v l.length) t (rpol l v l.length).length = lval l v l.length t := by
  have hs := rto_small (l := l) hv l.length
  obtain ⟨h1, h2, _⟩ := rto_ok hl hv hn l.length (Nat.le_refl _)
  rw [sval_ev ht (rpol_small hv _), lval_F hl hn ht]
  have hP : Gf.IsP l.length fun x => Gf.ev (rpol l v l.length) x := ⟨rpol l v l.length, lean_len h1, sm_of_small (rpol_small hv _), fun _ _ => rfl⟩
  refine (Gf.F_eq hl hv hn hP (fun j hj => ?_) ht).symm
  show Gf.ev (lean (rto l v l.length)) (l.getD j 0) = _
  rw [ev_lean (hl j) hs, h2 j hj]

set_option maxHeartbeats 1600000 in
set_option maxRecDepth 100000 in
theorem rval_ok {w : World} {a b : Option Addr} {n c d t : Nat} {l v : List Nat} (ht : t < 256) (h : RB w a n c l) (hv : RB w b n d v) (hn : l.Nodup) (hm : n ≤ 1000) :
    Calls Try.prog 54 #[.slice a n c, .slice b n d, .int .u8 (t : Nat)] w fun e w' => e = .returned (.tuple #[.int .u8 (lval l v n t : Nat), .int .i64 0]) ∧ Below w.heap.size w w' := by
  have h43 := Lib.hid (rThrough_ok h hv hn hm)
  have hval := rpol_val h.small hv.small hn ht
  rw [h.len] at hval
  have HVal := Lib.hid hval
  have HS := Lib.hid (rpol_small (l := l) hv.small n)
  have hlen : (lean (rto l v n)).length ≤ 10000 := by
    have := lean_le (rto l v n)
    have := rto_len l v n (by rw [h.len]; omega)
    rw [h.len] at this
    omega
  have HLen := Lib.hid hlen
  clear h hv hval hlen
  go_enter Try.func54, Try.ntmps54
  go_wp2_with fail
  refine h43.out.mono ?_
  rintro e w1 ⟨x, rfl, ho, hB⟩
  obtain ⟨a1, c1, rfl, hr⟩ := own_rb ho HS.out (by have := HLen.out; omega)
  have HB := Lib.hid hB
  have h63 : Calls Try.prog 63 #[.slice a1 (lean (rto l v n)).length c1, .int .u8 (t : Nat)] w1 fun e w' => e = .returned (.int .u8 (lval l v n t : Nat)) ∧ w1 = w' := by
    rw [← HVal.out]; exact rValue_any ht hr
  have H63 := Lib.hid h63
  clear h63 ho hB hr
  generalize (lean (rto l v n)).length = k at *
  go_wp2_with fail
  refine H63.out.mono ?_
  rintro e w2 ⟨rfl, rfl⟩
  go_wp2_with fail
  go_ret2
  exact ⟨rfl, HB.out⟩

set_option maxHeartbeats 800000 in
set_option maxRecDepth 100000 in
theorem rval_twice {w : World} {a b : Option Addr} {n c d t : Nat} {l : List Nat} (h : RB w a n c l) (hn : ¬ l.Nodup) :
    Calls Try.prog 54 #[.slice a n c, .slice b n d, .int .u8 (t : Nat)] w fun e w' => e = .returned (.tuple #[.int .u8 0, .int .i64 9]) ∧ Below w.heap.size w w' := by
  have h43 := Lib.hid (rThrough_twice (b := b) (d := d) h hn)
  clear h
  go_enter Try.func54, Try.ntmps54
  go_wp2_with fail
  refine h43.out.mono ?_
  rintro e w1 ⟨rfl, hB⟩
  have HB := Lib.hid hB
  clear hB
  go_wp2_with fail
  go_ret2
  exact ⟨rfl, HB.out⟩
set_option maxHeartbeats 800000 in
set_option maxRecDepth 100000 in
theorem rval_arg {w : World} {a b : Option Addr} {n c m d t : Nat} (hn : n ≠ m) :
    Calls Try.prog 54 #[.slice a n c, .slice b m d, .int .u8 (t : Nat)] w fun e w' => e = .returned (.tuple #[.int .u8 0, .int .i64 2]) ∧ Below w.heap.size w w' := by
  have h43 := Lib.hid (rThrough_arg (w := w) (a := a) (b := b) (c := c) (d := d) hn)
  go_enter Try.func54, Try.ntmps54
  go_wp2_with fail
  refine h43.out.mono ?_
  rintro e w1 ⟨rfl, hB⟩
  have HB := Lib.hid hB
  clear hB
  go_wp2_with fail
  go_ret2
  exact ⟨rfl, HB.out⟩

set_option maxHeartbeats 800000 in
set_option maxRecDepth 100000 in
theorem rvals_twice {w : World} {a b x : Option Addr} {n c d m e : Nat} {l : List Nat} (h : RB w a n c l) (hn : ¬ l.Nodup) :
    Calls Try.prog 52 #[.slice a n c, .slice b n d, .slice x m e] w fun e w' => e = .returned (.tuple #[.slice none 0 0, .int .i64 9]) ∧ Below w.heap.size w w' := by
  have h43 := Lib.hid (rThrough_twice (b := b) (d := d) h hn)
  clear h
  go_enter Try.func52, Try.ntmps52
  go_wp2_with fail
  refine h43.out.mono ?_
  rintro e w1 ⟨rfl, hB⟩
  have HB := Lib.hid hB
  clear hB
  go_wp2_with fail
  go_ret2
  exact ⟨rfl, HB.out⟩
set_option maxHeartbeats 800000 in
set_option maxRecDepth 100000 in
theorem rvals_arg {w : World} {a b x : Option Addr} {n c m d k e : Nat} (hn : n ≠ m) :
    Calls Try.prog 52 #[.slice a n c, .slice b m d, .slice x k e] w fun e w' => e = .returned (.tuple #[.slice none 0 0, .int .i64 2]) ∧ Below w.heap.size w w' := by
  have h43 := Lib.hid (rThrough_arg (w := w) (a := a) (b := b) (c := c) (d := d) hn)
  go_enter Try.func52, Try.ntmps52
  go_wp2_with fail
  refine h43.out.mono ?_
  rintro e w1 ⟨rfl, hB⟩
  have HB := Lib.hid hB
  clear hB
  go_wp2_with fail
  go_ret2
  exact ⟨rfl, HB.out⟩


set_option maxHeartbeats 1600000 in
set_option maxRecDepth 100000 in
theorem rvals_ok {w : World} {a b d : Option Addr} {n c c2 m c3 : Nat} {l v xs : List Nat} (h : RB w a n c l) (hv : RB w b n c2 v) (hx : RB w d m c3 xs) (hn : l.Nodup) (hm : n ≤ 1000) :
    Calls Try.prog 52 #[.slice a n c, .slice b n c2, .slice d m c3] w fun e w' => ∃ out, e = .returned (.tuple #[out, .int .i64 0]) ∧ w'.ownsRow w.heap.size 5 1 out m (bs (lvals l v n xs)) ∧ Below w.heap.size w w' := by
  obtain ⟨i0, hi, hz0, hz1, hz2⟩ := info_parts info5
  have hm2 := hx.most
  have h43 := Lib.hid (rThrough_ok h hv hn hm)
  have hval : ∀ t, t < 256 → sval (rpol l v n) t (rpol l v n).length = lval l v n t := fun t ht => by
    have := rpol_val h.small hv.small hn ht
    rwa [h.len] at this
  have HVal := Lib.hid hval
  have HS := Lib.hid (rpol_small (l := l) hv.small n)
  have hlen : (rpol l v n).length ≤ 10000 := by
    have := lean_le (rto l v n)
    have := rto_len l v n (by rw [h.len]; omega)
    rw [h.len] at this
    unfold rpol
    omega
  have HLen := Lib.hid hlen
  have HX := Lib.hid hx
  clear h hv hval hlen hx
  go_enter Try.func52, Try.ntmps52
  go_wp2_with fail
  refine h43.out.mono ?_
  rintro e w1 ⟨x, rfl, ho, hB⟩
  obtain ⟨a1, c1, rfl, hr⟩ := own_rb (l := rpol l v n) ho HS.out (by have := HLen.out; unfold rpol at this; omega)
  have HB := Lib.hid hB
  have HR := Lib.hid (show RB w1 a1 (rpol l v n).length c1 (rpol l v n) from hr)
  have HV2 : Hid (∀ t, t < 256 → sval (rpol l v n) t (rpol l v n).length = lval l v n t) := HVal
  have hX1 := HX.out.below hB
  have HX1 := Lib.hid hX1
  clear ho hB hr hX1 h43
  have hpl : (lean (rto l v n)).length = (rpol l v n).length := rfl
  rw [hpl]
  clear hpl
  generalize hkk : (rpol l v n).length = kk at *
  clear hkk
  go_wp2_with fail
  go_loopw [10, 11] (fun s i wr => ∃ k : Nat, k ≤ m ∧ i = .int .i64 k ∧ Hid (wr.ownsRow w1.heap.size 5 1 s k (bs (lvals l v n (xs.take k)))) ∧ Hid (Below w1.heap.size w1 wr)) (fun _ i _ => m - (intOf i).toNat)
  case atStart => exact ⟨0, by omega, rfl, World.ownsRow_nil _ _ _ _, Below.refl _ _⟩
  case round =>
    obtain ⟨k, hk, rfl, HO, HB2⟩ := hrel
    by_cases hk1 : k < m
    · obtain ⟨b1, o1, rfl, hc1⟩ := (HX1.out.below HB2.out).at_ k hk1
      have hxs := HX.out.small k
      have hsk := lvals_take (l := l) (v := v) (n := n) (xs := xs) (k := k) (by rw [HX.out.len]; exact hk1)
      have h63 : Calls Try.prog 63 #[.slice a1 kk c1, .int .u8 (xs.getD k 0 : Nat)] wr fun e w' => e = .returned (.int .u8 (lval l v n (xs.getD k 0) : Nat)) ∧ wr = w' := by
        rw [← HV2.out _ hxs]; exact rValue_any hxs (HR.out.below HB2.out)
      have H63 := Lib.hid h63
      have HSK := Lib.hid hsk
      have hsz : w1.heap.size ≤ wr.heap.size := HB2.out.size
      clear hsk h63
      generalize lval l v n (xs.getD k 0) = r at *
      generalize xs.getD k 0 = t at *
      have HAL := Lib.hid (HO.out.alloc (.cells #[.int .u8 (r : Nat)] 5))
      go_wp2_with fail
      refine H63.out.mono ?_
      rintro e w5 ⟨rfl, rfl⟩
      go_wp2_with (at_builtin; refine wpList_append_own _ rfl (.tmp 27) (.tmp 34) 31 rfl w1.heap.size 5 i0 (.int .u8 0) 1 1 Try.underlying31 hi hz0 hz1 hz2 rfl (by decide) u10 k (bs (lvals l v n (xs.take k))) rfl HAL.out ⟨wr.heap.size, 0, none⟩ 1 1 [.int .u8 (r : Nat)] rfl rfl (cell_new _ _) (one_u8 _) (by unfold maxLen; omega) (by omega) (by simp; omega) ?_)
      intro v' w6 hown2 hg2 _
      have HO6 := Lib.hid hown2
      have HG6 := Lib.hid hg2
      clear hown2 hg2
      go_wp2_with fail
      go_roundw
      case rel => exact ⟨k + 1, by omega, by go_num, (by rw [HSK.out]; exact HO6.out), (HB2.out.alloc hsz _).grown HG6.out (by simp; omega) (fun j e => (HO.out.lt j e).1)⟩
      case measure => simp [intOf]; omega
    · obtain rfl : k = m := by omega
      have hf : wr.ownsRow w.heap.size 5 1 u10 k (bs (lvals l v n xs)) := by
        have := own_mono HO.out HB.out.size
        rwa [List.take_of_length_le (by rw [HX.out.len]; exact Nat.le_refl _)] at this
      have HF := Lib.hid hf
      clear hf HO
      go_wp2_with fail
      go_ret2
      exact ⟨_, rfl, HF.out, HB.out.trans (HB2.out.mono HB.out.size)⟩

def unitL (n i : Nat) : List Nat := (List.replicate n 0).set i 1
theorem unitL_get {n i : Nat} (hi : i < n) (j : Nat) : (unitL n i).getD j 0 = if i = j then 1 else 0 := by
  unfold unitL
  rw [getD_set _ _ _ _ (by simp; exact hi)]
  split
  · rfl
  · rw [List.getD_eq_getElem?_getD, List.getElem?_replicate]; split <;> rfl
theorem unitL_small {n i : Nat} (hi : i < n) : Small (unitL n i) := fun j => by rw [unitL_get hi]; split <;> omega
theorem dot_unit {x : List Nat} (hx : Small x) {n i : Nat} (hi : i < n) : ∀ k, dotTo x (unitL n i) k = if i < k then x.getD i 0 else 0
  | 0 => by rw [if_neg (by omega)]; rfl
  | k + 1 => by
    show dotTo x (unitL n i) k ^^^ Gf.mul (x.getD k 0) ((unitL n i).getD k 0) = _
    rw [dot_unit hx hi k, unitL_get hi]
    by_cases e : i = k
    · subst e; rw [if_neg (by omega), if_pos rfl, if_pos (by omega), Gf.mul_one (hx i), Nat.zero_xor]
    · rw [if_neg e, Gf.mul_zero, Nat.xor_zero]
      by_cases h : i < k
      · rw [if_pos h, if_pos (by omega)]
      · rw [if_neg h, if_neg (by omega)]
theorem lval_unit {l : List Nat} {n i t : Nat} (hi : i < n) : lval l (unitL n i) n t = wf l n t i := by
  unfold lval; rw [dot_unit (wts_small _ _ _) hi, if_pos hi, wts_get _ _ _ _ hi]
def wtsTo (l : List Nat) (n t k : Nat) : List Nat := (List.range k).map (wf l n t)
theorem wtsTo_succ (l : List Nat) (n t k : Nat) : bs (wtsTo l n t (k + 1)) = bs (wtsTo l n t k) ++ [.int .u8 (wf l n t k : Nat)] := by simp [wtsTo, bs, List.range_succ]

set_option maxHeartbeats 1600000 in
set_option maxRecDepth 100000 in
theorem rwts_ok {w : World} {a : Option Addr} {n c t : Nat} {l : List Nat} (ht : t < 256) (h : RB w a n c l) (hn : l.Nodup) (hm : n ≤ 1000) :
    Calls Try.prog 50 #[.slice a n c, .int .u8 (t : Nat)] w fun e w' => ∃ out, e = .returned (.tuple #[out, .int .i64 0]) ∧ w'.ownsRow w.heap.size 5 1 out n (bs (wts l n t)) ∧ Below w.heap.size w w' := by
  obtain ⟨i0, hi, hz0, hz1, hz2⟩ := info_parts info5
  have HN := Lib.hid hn
  have H := Lib.hid h
  clear h hn
  go_enter Try.func50, Try.ntmps50
  go_wp2_with fail
  go_loopw [6, 7] (fun s i wr => ∃ k : Nat, k ≤ n ∧ i = .int .i64 k ∧ Hid (wr.ownsRow w.heap.size 5 1 s k (bs (wtsTo l n t k))) ∧ Hid (Below w.heap.size w wr)) (fun _ i _ => n - (intOf i).toNat)
  case atStart => exact ⟨0, by omega, rfl, World.ownsRow_nil _ _ _ _, Below.refl _ _⟩
  case round =>
    obtain ⟨k, hk, rfl, HO, HB⟩ := hrel
    by_cases hk1 : k < n
    · have hsz : w.heap.size ≤ wr.heap.size := HB.out.size
      go_wp2_with (refine wpList_make_full _ rfl (.tmp 18) (.tmp 18) 31 rfl wr.heap.size 5 i0 (.int .u8 0) 1 Try.underlying31 hi hz0 hz1 .i64 .i64 _ _ n rfl rfl rfl rfl ?_ ?_ (Nat.le_refl _) ?_)
      · rw [hz2]; omega
      · unfold maxLen; omega
      intro w3 hown hg3
      have hB3 : Below wr.heap.size wr w3 := (Below.refl _ _).grown hg3 (Nat.le_refl _) (fun j e => by cases e)
      have hoz := own_zeros hown
      obtain ⟨hc3, hf3⟩ := own_cell hoz (i := k) hk1
      have hst := own_set (i := k) (x := 1) hoz
      have HST := Lib.hid (show World.ownsRow _ _ 5 1 _ _ (bs (unitL n k)) from hst)
      have HBS := Lib.hid (hB3.setCell (p := ⟨wr.heap.size, k, none⟩) (Nat.le_refl _) (.int .u8 1))
      clear hown hg3 hB3 hoz hst
      have h54 := rval_ok (w := w3.setCell ⟨wr.heap.size, k, none⟩ (.int .u8 1)) ht ((H.out.below HB.out).below HBS.out) (own_rb2 HST.out (unitL_small hk1) (by omega)) HN.out hm
      rw [lval_unit hk1] at h54
      have H54 := Lib.hid h54
      have HWS := Lib.hid (wtsTo_succ l n t k)
      clear h54
      generalize wf l n t k = r at *
      go_wp2_with fail
      refine H54.out.mono ?_
      rintro e w4 ⟨rfl, hB4⟩
      have hB5 := HBS.out.trans (hB4.mono HBS.out.size)
      have HB5 := Lib.hid hB5
      have HAL := Lib.hid ((own_below HO.out hB5).alloc (.cells #[.int .u8 (r : Nat)] 5))
      have hsz4 : wr.heap.size ≤ w4.heap.size := hB5.size
      clear hB4 hB5 H54
      go_wp2_with (at_builtin; refine wpList_append_own _ rfl (.tmp 33) (.tmp 35) 31 rfl w.heap.size 5 i0 (.int .u8 0) 1 1 Try.underlying31 hi hz0 hz1 hz2 rfl (by decide) u6 k (bs (wtsTo l n t k)) rfl HAL.out ⟨w4.heap.size, 0, none⟩ 1 1 [.int .u8 (r : Nat)] rfl rfl (cell_new _ _) (one_u8 _) (by unfold maxLen; omega) (by omega) (by simp; omega) ?_)
      intro v' w6 hown2 hg2 _
      have HO6 := Lib.hid hown2
      have HG6 := Lib.hid hg2
      clear hown2 hg2
      go_wp2_with fail
      go_roundw
      case rel => exact ⟨k + 1, by omega, by go_num, (by rw [HWS.out]; exact HO6.out), ((HB.out.trans (HB5.out.mono hsz)).alloc (by omega) _).grown HG6.out (by simp; omega) (fun j e => (HO.out.lt j e).1)⟩
      case measure => simp [intOf]; omega
    · obtain rfl : k = n := by omega
      go_wp2_with fail
      go_ret2
      exact ⟨_, rfl, HO.out, HB.out⟩

set_option maxHeartbeats 1600000 in
set_option maxRecDepth 100000 in
theorem rwts_twice {w : World} {a : Option Addr} {n c t : Nat} {l : List Nat} (h : RB w a n c l) (hn : ¬ l.Nodup) (hm : n ≤ 1000) :
    Calls Try.prog 50 #[.slice a n c, .int .u8 (t : Nat)] w fun e w' => e = .returned (.tuple #[.slice none 0 0, .int .i64 9]) ∧ Below w.heap.size w w' := by
  obtain ⟨i0, hi, hz0, hz1, hz2⟩ := info_parts info5
  have h0 : 0 < n := by
    rcases Nat.eq_zero_or_pos n with e | e
    · exact absurd (by rw [List.eq_nil_of_length_eq_zero (h.len.trans e)]; exact List.nodup_nil) hn
    · exact e
  have HN := Lib.hid hn
  have H := Lib.hid h
  clear h hn
  go_enter Try.func50, Try.ntmps50
  go_wp2_with fail
  refine wp_loop_rounds 1 ?_
  rw [rounds_succ]
  go_wp2_with (refine wpList_make_full _ rfl (.tmp 18) (.tmp 18) 31 rfl w.heap.size 5 i0 (.int .u8 0) 1 Try.underlying31 hi hz0 hz1 .i64 .i64 _ _ n rfl rfl rfl rfl ?_ ?_ (Nat.le_refl _) ?_)
  · rw [hz2]; omega
  · unfold maxLen; omega
  intro w3 hown hg3
  have hB3 : Below w.heap.size w w3 := (Below.refl _ _).grown hg3 (Nat.le_refl _) (fun j e => by cases e)
  have hoz := own_zeros hown
  obtain ⟨hc3, hf3⟩ := own_cell hoz (i := 0) h0
  have hB4 := hB3.setCell (p := ⟨w.heap.size, 0, none⟩) (Nat.le_refl _) (.int .u8 1)
  have HBS := Lib.hid hB4
  have h54 := rval_twice (b := some ⟨w.heap.size, 0, none⟩) (d := n) (t := t) (H.out.below hB4) HN.out
  have H54 := Lib.hid h54
  clear hown hg3 hB3 hoz h54 hB4
  go_wp2_with fail
  refine H54.out.mono ?_
  rintro e w4 ⟨rfl, hB4⟩
  have HB5 := Lib.hid (HBS.out.trans (hB4.mono HBS.out.size))
  clear hB4 H54
  go_wp2_with fail
  go_ret2
  exact ⟨rfl, HB5.out⟩
end Go.Proofs.Ytokeoodkioobdaa

/- The walk of the law LagrDoes. Conditions: the rows' places; rows of at most 24 bytes are gone through. -/
namespace Go.Proofs.Ytokeoodkioobdaa
open Go.RowKit

theorem own_cells {w : World} {g n : Nat} {l : List Nat} (h : w.heap[g]? = some (.cells (bs l).toArray 5 (0, 0))) (hn : l.length = n) (hm : n ≤ 1000000) {B : Nat} (hB : B ≤ g) : w.ownsRow B 5 1 (.slice (some ⟨g, 0, none⟩) n n) n (bs l) := by
  subst hn
  refine ⟨by rw [length_bs, Nat.mul_one], .inr ⟨g, l.length, _, rfl, hB, h, Nat.le_refl _, by unfold maxLen; omega, by simp [bs], ?_⟩⟩
  rw [Nat.mul_one]
  exact List.take_of_length_le (by rw [length_bs]; exact Nat.le_refl _)
theorem weights_both {n t : Nat} {l : List Nat} (ht : t < 256) (hl : l.length = n) (hn : n ≤ 24) : ∃ res : List Nat, ∃ er : Int, Small res ∧
    (∀ w a c, RB w a n c l → Calls Try.prog 49 #[.slice a n c, .int .u8 (t : Nat)] w fun e w' => OwnGive1 w w' res er e) ∧
    (∀ w a c, RB w a n c l → Calls Try.prog 50 #[.slice a n c, .int .u8 (t : Nat)] w fun e w' => OwnGive1 w w' res er e) := by
  by_cases h : l.Nodup
  · refine ⟨wts l n t, 0, wts_small _ _ _, fun w a c h1 => (Weights_ok ht h1 h).mono fun e w' ⟨g, he, hg, hh, hB⟩ => ⟨_, _, _, he, own_cells hh (length_wts _ _ _) (by omega) hg, hB, (by show n ≤ 100000; omega)⟩, fun w a c h1 => (rwts_ok ht h1 h (by omega)).mono fun e w' ⟨v, he, ho, hB⟩ => ?_⟩
    obtain ⟨a1, c1, rfl⟩ := own_slice ho
    exact ⟨_, _, _, he, ho, hB, (by show n ≤ 100000; omega)⟩
  · exact ⟨[], 9, Small.nil, fun w a c h1 => (Weights_twice h1 h).mono fun e w' ⟨he, hB⟩ => give_none1 he hB, fun w a c h1 => (rwts_twice h1 h (by omega)).mono fun e w' ⟨he, hB⟩ => give_none1 he hB⟩
theorem values_both {n m k : Nat} {l v xs : List Nat} (hl : l.length = n) (hx : xs.length = k) (hn : n ≤ 24) (hk : k ≤ 24) : ∃ res : List Nat, ∃ er : Int, Small res ∧
    (∀ w a b d c c2 c3, RB w a n c l → RB w b m c2 v → RB w d k c3 xs → Calls Try.prog 51 #[.slice a n c, .slice b m c2, .slice d k c3] w fun e w' => OwnGive1 w w' res er e) ∧
    (∀ w a b d c c2 c3, RB w a n c l → RB w b m c2 v → RB w d k c3 xs → Calls Try.prog 52 #[.slice a n c, .slice b m c2, .slice d k c3] w fun e w' => OwnGive1 w w' res er e) := by
  by_cases e : n = m
  · subst e
    by_cases h : l.Nodup
    · refine ⟨lvals l v n xs, 0, lvals_small _ _ _ _, fun w a b d c c2 c3 h1 h2 h3 => (Values_ok h1 h2 h3 h).mono fun e w' ⟨u, he, ho, hB⟩ => ?_, fun w a b d c c2 c3 h1 h2 h3 => (rvals_ok h1 h2 h3 h (by omega)).mono fun e w' ⟨u, he, ho, hB⟩ => ?_⟩
      · obtain ⟨a1, c1, rfl⟩ := own_slice ho
        exact ⟨_, _, _, he, ho, hB, (by show k ≤ 100000; omega)⟩
      · obtain ⟨a1, c1, rfl⟩ := own_slice ho
        exact ⟨_, _, _, he, ho, hB, (by show k ≤ 100000; omega)⟩
    · exact ⟨[], 9, Small.nil, fun w a b d c c2 c3 h1 _ _ => (Values_twice h1 h).mono fun e w' ⟨he, hB⟩ => give_none1 he hB, fun w a b d c c2 c3 h1 _ _ => (rvals_twice h1 h).mono fun e w' ⟨he, hB⟩ => give_none1 he hB⟩
  · exact ⟨[], 2, Small.nil, fun w a b d c c2 c3 _ _ _ => (Values_arg e).mono fun e w' ⟨he, hB⟩ => give_none1 he hB, fun w a b d c c2 c3 _ _ _ => (rvals_arg e).mono fun e w' ⟨he, hB⟩ => give_none1 he hB⟩
theorem value_both {n m t : Nat} {l v : List Nat} (ht : t < 256) (hn : n ≤ 24) : ∃ res : Nat, ∃ er : Int,
    (∀ w a b c c2, RB w a n c l → RB w b m c2 v → Calls Try.prog 53 #[.slice a n c, .slice b m c2, .int .u8 (t : Nat)] w fun e w' => e = .returned (.tuple #[.int .u8 (res : Nat), .int .i64 er]) ∧ Below w.heap.size w w') ∧
    (∀ w a b c c2, RB w a n c l → RB w b m c2 v → Calls Try.prog 54 #[.slice a n c, .slice b m c2, .int .u8 (t : Nat)] w fun e w' => e = .returned (.tuple #[.int .u8 (res : Nat), .int .i64 er]) ∧ Below w.heap.size w w') := by
  by_cases e : n = m
  · subst e
    by_cases h : l.Nodup
    · exact ⟨lval l v n t, 0, fun w a b c c2 h1 h2 => Value_ok ht h1 h2 h, fun w a b c c2 h1 h2 => rval_ok ht h1 h2 h (by omega)⟩
    · exact ⟨0, 9, fun w a b c c2 h1 _ => Value_twice h1 h, fun w a b c c2 h1 _ => rval_twice h1 h⟩
  · exact ⟨0, 2, fun w a b c c2 _ _ => Value_arg e, fun w a b c c2 _ _ => rval_arg e⟩

/-- What holds between the law's calls. -/
structure LDoes (w0 : World) (a b d : Option Addr) (n m k ca cb cd : Nat) (x y z : List Nat) (g1 g2 g3 : Nat) (rs : List R1) (w : World) : Prop where
  made : Made w0.heap.size rs w
  l1 : LentAt w g1 x
  l2 : LentAt w g2 y
  l3 : LentAt w g3 z
  p : RB w a n ca x
  q : RB w b m cb y
  r : RB w d k cd z
  bel : Below w0.heap.size w0 w
section
variable {w0 w w' : World} {a b d : Option Addr} {n m k ca cb cd : Nat} {x y z : List Nat} {g1 g2 g3 : Nat} {rs : List R1}
theorem LDoes.below (h : LDoes w0 a b d n m k ca cb cd x y z g1 g2 g3 rs w) (hB : Below w.heap.size w w') : LDoes w0 a b d n m k ca cb cd x y z g1 g2 g3 rs w' :=
  ⟨h.made.below hB, h.l1.below hB h.l1.lt, h.l2.below hB h.l2.lt, h.l3.below hB h.l3.lt, h.p.below hB, h.q.below hB, h.r.below hB, h.bel.trans (hB.mono h.bel.size)⟩
theorem LDoes.drewN (h : LDoes w0 a b d n m k ca cb cd x y z g1 g2 g3 rs w) (q : Nat) : LDoes w0 a b d n m k ca cb cd x y z g1 g2 g3 rs (w.drewN q) := h.below (below_drewN (Below.refl _ _) q)
theorem LDoes.add {j e : Nat} {f : Option Addr} {l : List Nat} (h : LDoes w0 a b d n m k ca cb cd x y z g1 g2 g3 rs w) (hB : Below w.heap.size w w') (ho : w'.ownsRow w.heap.size 5 1 (.slice f j e) j (bs l)) : LDoes w0 a b d n m k ca cb cd x y z g1 g2 g3 (rs ++ [⟨f, j, e, l⟩]) w' :=
  { h.below hB with made := h.made.add hB h.bel.size ho }
theorem LDoes.row {j e : Nat} {f : Option Addr} {l : List Nat} (h : LDoes w0 a b d n m k ca cb cd x y z g1 g2 g3 rs w) (hr : (⟨f, j, e, l⟩ : R1) ∈ rs) (hs : Small l) (hk : j ≤ 100000) : RB w f j e l := own_rb2 (h.made.own _ hr) hs (by omega)
end

set_option maxHeartbeats 1600000 in
set_option maxRecDepth 100000 in
theorem ldoes_great {w : World} {a b d : Option Addr} {n m k ca cb cd t : Nat} (h1 : n ≤ 140737488351232) (h2 : m ≤ 140737488351232) (h3 : k ≤ 140737488351232) (h : 24 < n ∨ 24 < m ∨ 24 < k) :
    Calls Try.prog 10 #[.slice a n ca, .slice b m cb, .slice d k cd, .int .u8 (t : Nat)] w fun e w' => e = .returned (.bool true) ∧ Below w.heap.size w w' := by
  by_cases e1 : 24 < n
  · have d1 : decide ((24 : Int) < (n : Int)) = true := by simp; omega
    clear h e1
    go_enter Try.func10, Try.ntmps10
    go_wp2_with (go_at_call 48; ((with_reducible refine (awake4 _).mono ?_); rintro e w3 ⟨rfl, hB3⟩; have HB3 := Lib.hid hB3; clear hB3))
    go_ret
    exact ⟨rfl, HB3.out⟩
  · have d1 : decide ((24 : Int) < (n : Int)) = false := by simp; omega
    by_cases e2 : 24 < m
    · have d2 : decide ((24 : Int) < (m : Int)) = true := by simp; omega
      clear h e1 e2
      go_enter Try.func10, Try.ntmps10
      go_wp2_with (go_at_call 48; ((with_reducible refine (awake4 _).mono ?_); rintro e w3 ⟨rfl, hB3⟩; have HB3 := Lib.hid hB3; clear hB3))
      go_ret
      exact ⟨rfl, HB3.out⟩
    · have d2 : decide ((24 : Int) < (m : Int)) = false := by simp; omega
      have d3 : decide ((24 : Int) < (k : Int)) = true := by simp; omega
      clear h e1 e2
      go_enter Try.func10, Try.ntmps10
      go_wp2_with (go_at_call 48; ((with_reducible refine (awake4 _).mono ?_); rintro e w3 ⟨rfl, hB3⟩; have HB3 := Lib.hid hB3; clear hB3))
      go_ret
      exact ⟨rfl, HB3.out⟩

set_option maxHeartbeats 6000000 in
set_option maxRecDepth 100000 in
theorem ldoes_small {w : World} {a b d : Option Addr} {n m k ca cb cd t : Nat} {x y z : List Nat} (ht : t < 256) (hx : RB w a n ca x) (hy : RB w b m cb y) (hz : RB w d k cd z) (h1 : n ≤ 24) (h2 : m ≤ 24) (h3 : k ≤ 24) :
    Calls Try.prog 10 #[.slice a n ca, .slice b m cb, .slice d k cd, .int .u8 (t : Nat)] w fun e w' => e = .returned (.bool true) ∧ Below w.heap.size w w' := by
  have d1 : decide ((24 : Int) < (n : Int)) = false := by simp; omega
  have d2 : decide ((24 : Int) < (m : Int)) = false := by simp; omega
  have d3 : decide ((24 : Int) < (k : Int)) = false := by simp; omega
  have d1' : decide (24 < n) = false := by simp; omega
  have d2' : decide (24 < m) = false := by simp; omega
  have d3' : decide (24 < k) = false := by simp; omega
  obtain ⟨rw_, ew, hws, hw1, hw2⟩ := weights_both ht hx.len h1
  obtain ⟨rv, ev_, hvs, hv1, hv2⟩ := values_both (m := m) (v := y) hx.len hz.len h1 h3
  obtain ⟨ru, eu, hu1, hu2⟩ := value_both (l := x) (v := y) (m := m) ht h1
  have HW1 := Lib.hid hw1
  have HW2 := Lib.hid hw2
  have HV1 := Lib.hid hv1
  have HV2 := Lib.hid hv2
  have HU1 := Lib.hid hu1
  have HU2 := Lib.hid hu2
  have HSm := Lib.hid (And.intro hws hvs)
  have hxl := hx.len
  have hyl := hy.len
  have hzl := hz.len
  have HLen := Lib.hid (And.intro hxl (And.intro hyl hzl))
  have HXY := Lib.hid (And.intro hx.small (And.intro hy.small hz.small))
  have HX := Lib.hid hx
  have HY := Lib.hid hy
  have HZ := Lib.hid hz
  clear hx hy hz hw1 hw2 hv1 hv2 hu1 hu2 hws hvs hxl hyl hzl
  go_enter Try.func10, Try.ntmps10
  go_wp2_with fail
  refine (lent_any HX.out).mono ?_
  rintro e w1 ⟨g1, rfl, hg1, hL1, hB1⟩
  have HB1 := Lib.hid hB1
  have HK1 := Lib.hid hL1
  clear hB1 hL1
  go_wp2_with fail
  refine (lent_any (HY.out.below HB1.out)).mono ?_
  rintro e w2 ⟨g2, rfl, hg2, hL2, hB2⟩
  have HB2 := Lib.hid hB2
  have HK2 := Lib.hid hL2
  clear hB2 hL2
  go_wp2_with fail
  refine (lent_any ((HZ.out.below HB1.out).below HB2.out)).mono ?_
  rintro e w3 ⟨g3, rfl, hg3, hL3, hB3⟩
  have HB12 := Lib.hid (HB1.out.trans (HB2.out.mono HB1.out.size))
  have HS := Lib.hid (LDoes.mk (w0 := w) (rs := [⟨some ⟨g1, 0, none⟩, n, n + 12, x⟩, ⟨some ⟨g2, 0, none⟩, m, m + 12, y⟩, ⟨some ⟨g3, 0, none⟩, k, k + 12, z⟩])
    ((((Made.nil w.heap.size w).add HB1.out (Nat.le_refl _) (lent_own (HK1.out : LentAt w1 g1 x) HLen.out.1 (by omega) hg1)).add HB2.out HB1.out.size (lent_own (HK2.out : LentAt w2 g2 y) HLen.out.2.1 (by omega) hg2)).add hB3 HB12.out.size (lent_own (hL3 : LentAt w3 g3 z) HLen.out.2.2 (by omega) hg3))
    (LentAt.below (LentAt.below HK1.out HB2.out (LentAt.lt HK1.out)) hB3 (Nat.lt_of_lt_of_le (LentAt.lt HK1.out) HB2.out.size)) (LentAt.below HK2.out hB3 (LentAt.lt HK2.out)) hL3
    ((HX.out.below HB12.out).below hB3) ((HY.out.below HB12.out).below hB3) ((HZ.out.below HB12.out).below hB3) (HB12.out.trans (hB3.mono HB12.out.size)))
  clear hB3 hL3 HB1 HB2 HB12 HK1 HK2 hg1 hg2 hg3 HX HY HZ
  have k4 := Lib.hid (HW1.out w3 _ _ (HS.out.row (f := some ⟨g1, 0, none⟩) (j := n) (e := n + 12) (by simp) HXY.out.1 (by omega)))
  go_wp2_with fail
  refine k4.out.mono ?_
  rintro e w4 ⟨aw, nw, cw, rfl, ho4, hB4, hn4⟩
  have HS4 := Lib.hid (HS.out.add hB4.out ho4.out)
  clear k4 ho4 hB4 HS
  have k5 := Lib.hid (HW2.out w4 _ _ HS4.out.p)
  go_wp2_with fail
  refine k5.out.mono ?_
  rintro e w5 ⟨aw2, nw2, cw2, rfl, ho5, hB5, hn5⟩
  have HS5 := Lib.hid (HS4.out.below hB5.out)
  have HM5 := Lib.hid (own_rb2 ho5.out HSm.out.1 (by have := hn5.out; omega))
  clear k5 ho5 hB5 HS4 hn5
  have k6 := Lib.hid (HV1.out w5 _ _ _ _ _ _ (HS5.out.row (f := some ⟨g1, 0, none⟩) (j := n) (e := n + 12) (by simp) HXY.out.1 (by omega)) (HS5.out.row (f := some ⟨g2, 0, none⟩) (j := m) (e := m + 12) (by simp) HXY.out.2.1 (by omega)) (HS5.out.row (f := some ⟨g3, 0, none⟩) (j := k) (e := k + 12) (by simp) HXY.out.2.2 (by omega)))
  go_wp2_with fail
  refine k6.out.mono ?_
  rintro e w6 ⟨av, nv, cv_, rfl, ho6, hB6, hn6⟩
  have HS6 := Lib.hid (HS5.out.add hB6.out ho6.out)
  have HM6 := Lib.hid (HM5.out.below hB6.out)
  clear k6 ho6 hB6 HS5 HM5
  have k7 := Lib.hid (HV2.out w6 _ _ _ _ _ _ HS6.out.p HS6.out.q HS6.out.r)
  go_wp2_with fail
  refine k7.out.mono ?_
  rintro e w7 ⟨av2, nv2, cv2, rfl, ho7, hB7, hn7⟩
  have HS7 := Lib.hid (HS6.out.below hB7.out)
  have HM7 := Lib.hid (HM6.out.below hB7.out)
  have HN7 := Lib.hid (own_rb2 ho7.out HSm.out.2 (by have := hn7.out; omega))
  clear k7 ho7 hB7 HS6 HM6 hn7
  have k8 := Lib.hid (HU1.out w7 _ _ _ _ (HS7.out.row (f := some ⟨g1, 0, none⟩) (j := n) (e := n + 12) (by simp) HXY.out.1 (by omega)) (HS7.out.row (f := some ⟨g2, 0, none⟩) (j := m) (e := m + 12) (by simp) HXY.out.2.1 (by omega)))
  go_wp2_with fail
  refine k8.out.mono ?_
  rintro e w8 ⟨rfl, hB8⟩
  have HS8 := Lib.hid (HS7.out.below hB8)
  have HM8 := Lib.hid (HM7.out.below hB8)
  have HN8 := Lib.hid (HN7.out.below hB8)
  clear k8 hB8 HS7 HM7 HN7
  have k9 := Lib.hid (HU2.out w8 _ _ _ _ HS8.out.p HS8.out.q)
  go_wp2_with fail
  refine k9.out.mono ?_
  rintro e w9 ⟨rfl, hB9⟩
  have HS9 := Lib.hid (HS8.out.below hB9)
  have HM9 := Lib.hid (HM8.out.below hB9)
  have HN9 := Lib.hid (HN8.out.below hB9)
  clear k9 hB9 HS8 HM8 HN8
  have k10 : Hid (Calls Try.prog 44 #[.slice aw nw cw, .slice aw2 nw2 cw2] w9 fun e w' => e = .returned (.bool true) ∧ Drawn w9 w') := (same_any (HS9.out.row (f := aw) (j := nw) (e := cw) (l := rw_) (by simp) HSm.out.1 hn4.out) HM9.out).mono fun e w' ⟨h1, h2⟩ => ⟨by rw [h1]; simp, h2⟩
  go_wp2_with fail
  refine k10.out.mono ?_
  rintro e w10 ⟨rfl, q10, rfl⟩
  have HS10 := Lib.hid (HS9.out.drewN q10)
  have HN10 := Lib.hid (HN9.out.drewN q10)
  clear k10 HS9 HM9 HN9
  generalize w9.drewN q10 = v10 at *
  have k11 : Hid (Calls Try.prog 44 #[.slice av nv cv_, .slice av2 nv2 cv2] v10 fun e w' => e = .returned (.bool true) ∧ Drawn v10 w') := (same_any (HS10.out.row (f := av) (j := nv) (e := cv_) (l := rv) (by simp) HSm.out.2 hn6.out) HN10.out).mono fun e w' ⟨h1, h2⟩ => ⟨by rw [h1]; simp, h2⟩
  go_wp2_with fail
  refine k11.out.mono ?_
  rintro e w11 ⟨rfl, q11, rfl⟩
  have HS11 := Lib.hid (HS10.out.drewN q11)
  clear k11 HS10 HN10
  generalize v10.drewN q11 = v11 at *
  have k18 := Lib.hid (kept_any HS11.out.p HS11.out.l1)
  go_wp2_with fail
  refine k18.out.mono ?_
  rintro e w18 ⟨rfl, q18, rfl⟩
  have HS18 := Lib.hid (HS11.out.drewN q18)
  clear k18 HS11
  generalize v11.drewN q18 = v18 at *
  have k19 := Lib.hid (kept_any HS18.out.q HS18.out.l2)
  go_wp2_with fail
  refine k19.out.mono ?_
  rintro e w19 ⟨rfl, q19, rfl⟩
  have HS19 := Lib.hid (HS18.out.drewN q19)
  clear k19 HS18
  generalize v18.drewN q19 = v19 at *
  have k20 := Lib.hid (kept_any HS19.out.r HS19.out.l3)
  go_wp2_with fail
  refine k20.out.mono ?_
  rintro e w20 ⟨rfl, q20, rfl⟩
  have HS20 := Lib.hid (HS19.out.drewN q20)
  clear k20 HS19
  generalize v19.drewN q20 = v20 at *
  have k21 := Lib.hid (rows_apart_new (C := 5) HS20.out.made HS20.out.bel.size (by
    intro r hr
    simp only [List.cons_append, List.nil_append, List.mem_cons, List.not_mem_nil, or_false] at hr
    have h4 := hn4.out
    have h6 := hn6.out
    rcases hr with rfl | rfl | rfl | rfl | rfl <;> simp only <;> omega) (by simp))
  go_wp2_with fail
  refine k21.out.mono ?_
  rintro e w21 ⟨rfl, hB21⟩
  have HB21 := Lib.hid (HS20.out.bel.trans hB21)
  clear k21 hB21 HS20
  go_wp2_with fail
  refine (awake4 _).mono ?_
  rintro e w22 ⟨rfl, hB22⟩
  have HB22 := Lib.hid (HB21.out.trans (hB22.mono HB21.out.size))
  clear hB22 HB21
  go_wp2_with fail
  go_ret
  exact ⟨rfl, HB22.out⟩
end Go.Proofs.Ytokeoodkioobdaa
