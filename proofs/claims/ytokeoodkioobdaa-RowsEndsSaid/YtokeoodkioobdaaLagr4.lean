/- The walks of lagr's Weights, Values, Value. Conditions: rows are shorter than 2 to the 47. -/
import Derived.Test.YtokeoodkioobdaaLagr3
namespace Go.Proofs.Ytokeoodkioobdaa
open Go.RowKit

theorem own_below {w w' : World} {B n : Nat} {v : Value} {xs : List Value} (h : w.ownsRow B 5 1 v n xs) (hB : Below w.heap.size w w') : w'.ownsRow B 5 1 v n xs := by
  obtain ⟨h1, h2⟩ := h
  refine ⟨h1, ?_⟩
  rcases h2 with h2 | ⟨g, cap, cur, rfl, hg, hh, hn⟩
  · exact .inl h2
  · exact .inr ⟨g, cap, cur, rfl, hg, (hB.block g (lt_of_block hh)).trans hh, hn⟩
theorem own_mono {w : World} {B B' n : Nat} {v : Value} {xs : List Value} (h : w.ownsRow B 5 1 v n xs) (hb : B' ≤ B) : w.ownsRow B' 5 1 v n xs := by
  obtain ⟨h1, h2⟩ := h
  refine ⟨h1, ?_⟩
  rcases h2 with h2 | ⟨g, cap, cur, rfl, hg, hh, hn⟩
  · exact .inl h2
  · exact .inr ⟨g, cap, cur, rfl, Nat.le_trans hb hg, hh, hn⟩
theorem own_rb {w : World} {B n : Nat} {v : Value} {l : List Nat} (h : w.ownsRow B 5 1 v n (bs l)) (hs : Small l) (hn : n ≤ 140737488351232) : ∃ a cap, v = .slice a n cap ∧ RB w a n cap l := by
  obtain ⟨h1, h2⟩ := h
  rw [length_bs, Nat.mul_one] at h1
  rcases h2 with ⟨rfl, h2⟩ | ⟨g, cap, cur, rfl, hg, hh, hn2, hc, hsz, ht⟩
  · exact ⟨none, 0, by rw [h2], h1, by omega, hn, hs, fun _ => rfl, fun i hi => absurd hi (by omega)⟩
  · refine ⟨_, cap, rfl, h1, hn2, hn, hs, (fun e => by cases e), fun i hi => ⟨g, 0, rfl, ?_⟩⟩
    have e := bs_get l i (by omega)
    rw [cell_of_block hh, ← e, ← ht]
    simp [hi]
theorem weights_rb {w : World} {l : List Nat} {n t g : Nat} (h : w.heap[g]? = some (.cells (bs (wts l n t)).toArray 5 (0, 0))) (hn : n ≤ 140737488351232) : RB w (some ⟨g, 0, none⟩) n n (wts l n t) := by
  have := RB.of_block (l := wts l n t) (m := []) (cap := n) (by rw [List.append_nil]; exact h) (wts_small _ _ _) (by rw [length_wts]; exact Nat.le_refl _) hn
  rwa [length_wts] at this

set_option maxHeartbeats 800000 in
set_option maxRecDepth 100000 in
theorem Weights_ok {w : World} {a : Option Addr} {n c t : Nat} {l : List Nat} (ht : t < 256) (h : RB w a n c l) (hn : l.Nodup) :
    Calls Try.prog 49 #[.slice a n c, .int .u8 t] w fun e w' => ∃ g, e = .returned (.tuple #[.slice (some ⟨g, 0, none⟩) n n, .int .i64 0]) ∧ w.heap.size ≤ g ∧ w'.heap[g]? = some (.cells (bs (wts l n t)).toArray 5 (0, 0)) ∧ Below w.heap.size w w' := by
  have H := Lib.hid h
  have hun : ∀ W, RB W a n c l → Calls Try.prog 93 #[.slice a n c] W fun e w' => e = .returned (.bool true) ∧ Below W.heap.size W w' := fun W hW => (unlike_any hW).mono fun e w' ⟨h1, h2⟩ => ⟨by rw [h1, decide_eq_true hn], h2⟩
  have HU := Lib.hid hun
  have hH : Hid (l.Nodup) := hn
  clear h hun hn
  go_enter Try.func49, Try.ntmps49
  go_wp2_with fail
  refine (HU.out _ H.out).mono ?_
  rintro e w1 ⟨rfl, hB1⟩
  have HB1 := Lib.hid hB1
  clear hB1
  go_wp2_with fail
  refine (over_any (H.out.below HB1.out)).mono ?_
  rintro e w2 ⟨p, q, rfl, hO⟩
  have HO := Lib.hid hO
  clear hO
  go_wp2_with fail
  refine (weights_any ht (Worker.of_over HO.out (H.out.below HB1.out))).mono ?_
  rintro e w3 ⟨g, rfl, hg, hh, hB3⟩
  have HH := Lib.hid hh
  have hB4 : Below w.heap.size w w3 := HB1.out.trans ((HO.out.below.trans (hB3.mono HO.out.below.size)).mono HB1.out.size)
  have hg2 : w.heap.size ≤ g := Nat.le_trans HB1.out.size (Nat.le_trans HO.out.below.size hg)
  have HB4 := Lib.hid hB4
  clear hh hB3 hB4
  go_wp2_with fail
  go_ret2
  exact ⟨g, rfl, hg2, HH.out, HB4.out⟩

set_option maxHeartbeats 800000 in
set_option maxRecDepth 100000 in
theorem Weights_twice {w : World} {a : Option Addr} {n c t : Nat} {l : List Nat} (h : RB w a n c l) (hn : ¬ l.Nodup) :
    Calls Try.prog 49 #[.slice a n c, .int .u8 t] w fun e w' => e = .returned (.tuple #[.slice none 0 0, .int .i64 9]) ∧ Below w.heap.size w w' := by
  have hun : Calls Try.prog 93 #[.slice a n c] w fun e w' => e = .returned (.bool false) ∧ Below w.heap.size w w' := (unlike_any h).mono fun e w' ⟨h1, h2⟩ => ⟨by rw [h1, decide_eq_false hn], h2⟩
  have HU := Lib.hid hun
  clear h hun hn
  go_enter Try.func49, Try.ntmps49
  go_wp2_with fail
  refine HU.out.mono ?_
  rintro e w1 ⟨rfl, hB1⟩
  have HB1 := Lib.hid hB1
  clear hB1
  go_wp2_with fail
  go_ret2
  exact ⟨rfl, HB1.out⟩

/-- The values elsewhere. -/
def lval (l v : List Nat) (n t : Nat) : Nat := dotTo (wts l n t) v n
def lvals (l v : List Nat) (n : Nat) (xs : List Nat) : List Nat := xs.map (lval l v n)
theorem lval_lt (l v : List Nat) (n t : Nat) : lval l v n t < 256 := dotTo_lt (wts_small _ _ _) _ _
theorem lvals_small (l v : List Nat) (n : Nat) (xs : List Nat) : Small (lvals l v n xs) := Small.of_mem fun x hx => by
  obtain ⟨i, _, rfl⟩ := List.mem_map.1 hx; exact lval_lt _ _ _ _
theorem lvals_take {l v : List Nat} {n : Nat} {xs : List Nat} {k : Nat} (h : k < xs.length) : bs (lvals l v n (xs.take (k + 1))) = bs (lvals l v n (xs.take k)) ++ [.int .u8 (lval l v n (xs.getD k 0) : Nat)] := by
  rw [take_step h]; simp [lvals, bs]

set_option maxHeartbeats 1600000 in
set_option maxRecDepth 100000 in
theorem Values_ok {w : World} {a b d : Option Addr} {n c c2 m c3 : Nat} {l v xs : List Nat} (h : RB w a n c l) (hv : RB w b n c2 v) (hx : RB w d m c3 xs) (hn : l.Nodup) :
    Calls Try.prog 51 #[.slice a n c, .slice b n c2, .slice d m c3] w fun e w' => ∃ out, e = .returned (.tuple #[out, .int .i64 0]) ∧ w'.ownsRow w.heap.size 5 1 out m (bs (lvals l v n xs)) ∧ Below w.heap.size w w' := by
  obtain ⟨i0, hi, hz0, hz1, hz2⟩ := info_parts info5
  have hm1 := h.most
  have hm2 := hx.most
  have H := Lib.hid h
  have HV := Lib.hid hv
  have HX := Lib.hid hx
  have hun : Calls Try.prog 93 #[.slice a n c] w fun e w' => e = .returned (.bool true) ∧ Below w.heap.size w w' := (unlike_any h).mono fun e w' ⟨h1, h2⟩ => ⟨by rw [h1, decide_eq_true hn], h2⟩
  have HU := Lib.hid hun
  clear h hv hx hun hn
  go_enter Try.func51, Try.ntmps51
  go_wp2_with fail
  refine HU.out.mono ?_
  rintro e w1 ⟨rfl, hB1⟩
  have HB1 := Lib.hid hB1
  clear hB1
  go_wp2_with fail
  refine (over_any (H.out.below HB1.out)).mono ?_
  rintro e w2 ⟨p, q, rfl, hO⟩
  have hW := Worker.of_over hO (H.out.below HB1.out)
  have hB2 : Below w.heap.size w w2 := HB1.out.trans (hO.below.mono HB1.out.size)
  have HW := Lib.hid hW
  have HB2 := Lib.hid hB2
  clear hO hW hB2
  go_wp2_with fail
  go_loopw [6, 27] (fun s i wr => ∃ k : Nat, k ≤ m ∧ i = .int .i64 k ∧ Hid (wr.ownsRow w2.heap.size 5 1 s k (bs (lvals l v n (xs.take k)))) ∧ Below w2.heap.size w2 wr) (fun _ i _ => m - (intOf i).toNat)
  case atStart => exact ⟨0, by omega, rfl, World.ownsRow_nil _ _ _ _, Below.refl _ _⟩
  case round =>
    obtain ⟨k, hk, rfl, hown, hB⟩ := hrel
    have HB := Lib.hid hB
    have HOW := hown
    by_cases hk1 : k < m
    · have hW := HW.out.below hB
      obtain ⟨b1, o1, rfl, hc1⟩ := ((HX.out.below HB2.out).below ((hB.mono HB2.out.size).trans (Below.refl _ _) |> fun _ => hB)).at_ k hk1
      have hxs := HX.out.small k
      have hsk := lvals_take (l := l) (v := v) (n := n) (xs := xs) (k := k) (by rw [HX.out.len]; exact hk1)
      obtain ⟨t, hte⟩ : ∃ t, t = xs.getD k 0 := ⟨_, rfl⟩
      rw [← hte] at hc1 hxs hsk
      obtain ⟨vv, hvv, _⟩ := hW.own
      have hq := lt_of_block hvv
      have e1 : wr.cell? ⟨q, 0, none⟩ = some (.pointer (some ⟨p, 0, none⟩)) := (cell_of_block hvv).trans rfl
      have h95 : ∀ W, Below wr.heap.size wr W → Hid (Calls Try.prog 95 #[.pointer (some ⟨q, 0, none⟩), .int .u8 (t : Nat)] W fun e w' => ∃ g, e = .returned (.slice (some ⟨g, 0, none⟩) n n) ∧ Hid (w'.heap[g]? = some (.cells (bs (wts l n t)).toArray 5 (0, 0))) ∧ Hid (Below W.heap.size W w') ∧ Hid (Below wr.heap.size wr w')) := fun W hW2 => by
        refine (weights_any (by exact hxs) (hW.below hW2)).mono ?_
        rintro e w' ⟨g, rfl, hg, hh, hB⟩
        exact ⟨g, rfl, hh, hB, hW2.trans (hB.mono hW2.size)⟩
      have hfw := hW.field
      have hvw : RB wr b n c2 v := (HV.out.below HB2.out).below (hB.mono (Nat.le_refl _))
      have h28 : ∀ W g, Below wr.heap.size wr W → W.heap[g]? = some (.cells (bs (wts l n t)).toArray 5 (0, 0)) → Hid (Calls Try.prog 28 #[.pointer (some ⟨p, 0, none⟩), .slice (some ⟨g, 0, none⟩) n n, .slice b n c2] W fun e w' => e = .returned (.tuple #[.int .u8 (lval l v n t : Nat), .int .i64 0]) ∧ ∃ q, w' = W.drewN q) := fun W g hW2 hg => dot_same (hfw.below hW2 hfw.lt) (weights_rb hg hm1) (hvw.below hW2)
      have H95 := Lib.hid h95
      have H28 := Lib.hid h28
      have HSK := Lib.hid hsk
      have hsz : w2.heap.size ≤ wr.heap.size := hB.size
      clear hte hW hvv h95 h28 hfw hvw hB hsk
      generalize lval l v n t = r at *
      clear hown
      go_wp2_with fail
      go_region_held3 (fun w' => w'.cell? ⟨q, 0, none⟩ = some (.pointer (some ⟨p, 0, none⟩)))
        (first | go_keep | ((rw [HB5.out.cell (by simpa using hq)]); assumption) | ((simp only [World.cell?_drewN]); (rw [HB5.out.cell (by simpa using hq)]); assumption))
        (first
          | (go_at_call 95; ((with_reducible refine (H95.out _ ?_).out.mono ?_); (exact (Below.refl _ _).drew); rintro e w5 ⟨g5, rfl, HG5, HBd, HB5⟩))
          | (go_at_call 28; ((with_reducible refine (H28.out _ _ HB5.out HG5.out).out.mono ?_); rintro e w' ⟨rfl, nq, rfl⟩)))
      have hal : ((w5.drewN nq).alloc (.cells #[.int .u8 (r : Nat)] 5)).ownsRow w2.heap.size 5 1 u6 k (bs (lvals l v n (xs.take k))) := (show (w5.drewN nq).ownsRow w2.heap.size 5 1 u6 k _ from own_below HOW.out (below_drewN HB5.out _)).alloc _
      have HAL := Lib.hid hal
      have hsz5 : wr.heap.size ≤ w5.heap.size := HB5.out.size
      clear hal
      go_wp2_with (at_builtin; refine wpList_append_own _ rfl (.tmp 43) (.tmp 45) 31 rfl w2.heap.size 5 i0 (.int .u8 0) 1 1 Try.underlying31 hi hz0 hz1 hz2 rfl (by decide) u6 k (bs (lvals l v n (xs.take k))) rfl HAL.out ⟨w5.heap.size, 0, none⟩ 1 1 [.int .u8 (r : Nat)] rfl rfl (cell_new _ _) (one_u8 _) (by unfold maxLen; omega) (by omega) (by simp; omega) ?_; intro v' w6 hown2 hg2 _; have HO6 := Lib.hid hown2; have HG6 := Lib.hid hg2; clear hown2 hg2)
      go_roundw
      case rel => exact ⟨k + 1, by omega, by go_num, (by rw [HSK.out]; exact HO6.out), ((below_drewN (HB.out.trans (HB5.out.mono hsz)) _).alloc (by simp; omega) _).grown HG6.out (by simp; omega) (fun j e => (HOW.out.lt j e).1)⟩
      case measure => simp [intOf]; omega
    · obtain rfl : k = m := by omega
      have hf : wr.ownsRow w.heap.size 5 1 u6 k (bs (lvals l v n xs)) := by
        have := own_mono hown.out HB2.out.size
        rwa [List.take_of_length_le (by rw [HX.out.len]; exact Nat.le_refl _)] at this
      have HF := Lib.hid hf
      clear hf hown hB
      go_wp2_with fail
      go_ret2
      exact ⟨_, rfl, HF.out, HB2.out.trans (HB.out.mono HB2.out.size)⟩

set_option maxHeartbeats 800000 in
set_option maxRecDepth 100000 in
theorem Values_twice {w : World} {a b d : Option Addr} {n c c2 m c3 : Nat} {l : List Nat} (h : RB w a n c l) (hn : ¬ l.Nodup) :
    Calls Try.prog 51 #[.slice a n c, .slice b n c2, .slice d m c3] w fun e w' => e = .returned (.tuple #[.slice none 0 0, .int .i64 9]) ∧ Below w.heap.size w w' := by
  have hun : Calls Try.prog 93 #[.slice a n c] w fun e w' => e = .returned (.bool false) ∧ Below w.heap.size w w' := (unlike_any h).mono fun e w' ⟨h1, h2⟩ => ⟨by rw [h1, decide_eq_false hn], h2⟩
  have HU := Lib.hid hun
  clear h hun hn
  go_enter Try.func51, Try.ntmps51
  go_wp2_with fail
  refine HU.out.mono ?_
  rintro e w1 ⟨rfl, hB1⟩
  have HB1 := Lib.hid hB1
  clear hB1
  go_wp2_with fail
  go_ret2
  exact ⟨rfl, HB1.out⟩
set_option maxHeartbeats 800000 in
set_option maxRecDepth 100000 in
theorem Values_arg {w : World} {a b d : Option Addr} {n c n2 c2 m c3 : Nat} (hn : n ≠ n2) :
    Calls Try.prog 51 #[.slice a n c, .slice b n2 c2, .slice d m c3] w fun e w' => e = .returned (.tuple #[.slice none 0 0, .int .i64 2]) ∧ Below w.heap.size w w' := by
  have hd : ((n : Int) == (n2 : Int)) = false := by simp; omega
  go_enter Try.func51, Try.ntmps51
  go_wp2_with fail
  go_ret2
  exact ⟨rfl, Below.refl _ _⟩

theorem Values_one {w : World} {a b d : Option Addr} {n c c2 c3 t : Nat} {l v : List Nat} (h : RB w a n c l) (hv : RB w b n c2 v) (hx : RB w d 1 c3 [t]) (hn : l.Nodup) :
    Calls Try.prog 51 #[.slice a n c, .slice b n c2, .slice d (1 : Nat) c3] w fun e w' => ∃ g cap, e = .returned (.tuple #[.slice (some ⟨g, 0, none⟩) (1 : Nat) cap, .int .i64 0]) ∧ w'.cell? ⟨g, 0, none⟩ = some (.int .u8 (lval l v n t : Nat)) ∧ Below w.heap.size w w' := by
  refine (Values_ok h hv hx hn).mono ?_
  rintro e w1 ⟨out, rfl, hown, hB⟩
  obtain ⟨a, cap, rfl, hr⟩ := own_rb hown (lvals_small _ _ _ _) (by omega)
  obtain ⟨g, cap2, e⟩ := own_succ hown
  injection e with e1 e2 e3
  subst e1
  obtain ⟨b, off, e, hc⟩ := hr.at_ 0 (by omega)
  injection e with e
  injection e with e1 e2
  subst e1; subst e2
  exact ⟨g, cap, rfl, hc, hB⟩
set_option maxHeartbeats 800000 in
set_option maxRecDepth 100000 in
theorem Value_ok {w : World} {a b : Option Addr} {n c c2 t : Nat} {l v : List Nat} (ht : t < 256) (h : RB w a n c l) (hv : RB w b n c2 v) (hn : l.Nodup) :
    Calls Try.prog 53 #[.slice a n c, .slice b n c2, .int .u8 t] w fun e w' => e = .returned (.tuple #[.int .u8 (lval l v n t : Nat), .int .i64 0]) ∧ Below w.heap.size w w' := by
  have hx : RB (w.alloc (.cells #[.int .u8 (t : Nat)] 5)) (some ⟨w.heap.size, 0, none⟩) 1 1 [t] := RB.of_block (l := [t]) (m := []) (heap_alloc_new _ _) (Small.of_mem (by simp; exact ht)) (Nat.le_refl _) (by omega)
  have hc := Values_one (h.alloc _) (hv.alloc _) hx hn
  have HC := Lib.hid hc
  clear h hv hx hc hn
  go_enter Try.func53, Try.ntmps53
  go_wp2_with (go_at_call 51; ((with_reducible refine HC.out.mono ?_); rintro e w1 ⟨g, cap, rfl, hcell, hB⟩; have HB := Lib.hid hB; clear hB))
  go_ret2
  exact ⟨rfl, ((Below.refl _ _).alloc (Nat.le_refl _) _).trans (HB.out.mono (by simp))⟩
set_option maxHeartbeats 800000 in
set_option maxRecDepth 100000 in
theorem Value_twice {w : World} {a b : Option Addr} {n c c2 t : Nat} {l : List Nat} (h : RB w a n c l) (hn : ¬ l.Nodup) :
    Calls Try.prog 53 #[.slice a n c, .slice b n c2, .int .u8 t] w fun e w' => e = .returned (.tuple #[.int .u8 0, .int .i64 9]) ∧ Below w.heap.size w w' := by
  have hc := fun d m c3 => Values_twice (b := b) (c2 := c2) (d := d) (m := m) (c3 := c3) (h.alloc (.cells #[.int .u8 (t : Nat)] 5)) hn
  have HC := Lib.hid hc
  clear h hc hn
  go_enter Try.func53, Try.ntmps53
  go_wp2_with (go_at_call 51; ((with_reducible refine (HC.out _ _ _).mono ?_); rintro e w1 ⟨rfl, hB⟩; have HB := Lib.hid hB; clear hB))
  go_ret2
  exact ⟨rfl, ((Below.refl _ _).alloc (Nat.le_refl _) _).trans (HB.out.mono (by simp))⟩
set_option maxHeartbeats 800000 in
set_option maxRecDepth 100000 in
theorem Value_arg {w : World} {a b : Option Addr} {n c n2 c2 t : Nat} (hn : n ≠ n2) :
    Calls Try.prog 53 #[.slice a n c, .slice b n2 c2, .int .u8 t] w fun e w' => e = .returned (.tuple #[.int .u8 0, .int .i64 2]) ∧ Below w.heap.size w w' := by
  have hc := fun d m c3 => Values_arg (w := w.alloc (.cells #[.int .u8 (t : Nat)] 5)) (a := a) (c := c) (b := b) (c2 := c2) (d := d) (m := m) (c3 := c3) hn
  have HC := Lib.hid hc
  clear hc hn
  go_enter Try.func53, Try.ntmps53
  go_wp2_with (go_at_call 51; ((with_reducible refine (HC.out _ _ _).mono ?_); rintro e w1 ⟨rfl, hB⟩; have HB := Lib.hid hB; clear hB))
  go_ret2
  exact ⟨rfl, ((Below.refl _ _).alloc (Nat.le_refl _) _).trans (HB.out.mono (by simp))⟩
end Go.Proofs.Ytokeoodkioobdaa
