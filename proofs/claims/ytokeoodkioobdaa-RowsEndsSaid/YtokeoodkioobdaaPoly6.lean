/- The walk of poly's mul, at two factors. Conditions: rows are shorter than 2 to the 40. -/
import Derived.Test.YtokeoodkioobdaaPoly5
namespace Go.Proofs.Ytokeoodkioobdaa
open Go.RowKit

/-- A product's coefficients, by the first k of p's. -/
def convTo (out p : List Nat) : Nat → List Nat
  | 0 => List.replicate (out.length + p.length) 0
  | k + 1 => xadd (convTo out p k) k out (p.getD k 0) out.length
theorem length_convTo (out p : List Nat) : ∀ k, (convTo out p k).length = out.length + p.length
  | 0 => by simp [convTo]
  | k + 1 => by show (xadd _ _ _ _ _).length = _; rw [length_xadd, length_convTo out p k]
theorem convTo_small {out p : List Nat} (ho : Small out) : ∀ k, k ≤ p.length → Small (convTo out p k)
  | 0, _ => Small.of_mem fun x hx => by rw [List.eq_of_mem_replicate hx]; omega
  | k + 1, h => xadd_small (convTo_small ho k (by omega)) ho (by rw [length_convTo]; omega)
def conv (out p : List Nat) : List Nat := lean (convTo out p p.length)
theorem length_conv (out p : List Nat) : (conv out p).length ≤ out.length + p.length := by
  unfold conv; rw [length_lean, length_convTo]; have := ln_le (convTo out p p.length) (out.length + p.length); omega
theorem conv_small {out p : List Nat} (ho : Small out) : Small (conv out p) := lean_small (convTo_small ho _ (Nat.le_refl _))
def mul2 (x y : List Nat) : Nat → List Nat
  | 0 => [1]
  | 1 => conv [1] x
  | _ => conv (conv [1] x) y
theorem one_small : Small [1] := Small.of_mem fun x hx => by simp at hx; omega
theorem mul2_small (x y : List Nat) : ∀ i, Small (mul2 x y i)
  | 0 => one_small
  | 1 => conv_small one_small
  | _ + 2 => conv_small (conv_small one_small)
theorem mul2_len (x y : List Nat) : ∀ i, (mul2 x y i).length ≤ 1 + x.length + y.length
  | 0 => by show 1 ≤ _; omega
  | 1 => by have := length_conv [1] x; simp at this; show (conv [1] x).length ≤ _; omega
  | _ + 2 => by
    have h1 := length_conv [1] x
    have h2 := length_conv (conv [1] x) y
    simp at h1; show (conv (conv [1] x) y).length ≤ _; omega
theorem own_zeros {w : World} {B g n : Nat} (h : w.ownsRow B 5 1 (.slice (some ⟨g, 0, none⟩) n n) n (madeCells #[Value.int .u8 0] n).toList) : w.ownsRow B 5 1 (.slice (some ⟨g, 0, none⟩) n n) n (bs (List.replicate n 0)) := by
  have e : (madeCells #[Value.int .u8 0] n).toList = bs (List.replicate n 0) := by
    rw [upto_zero (fun _ => 0)]
    congr 1
    unfold upto
    apply List.ext_getElem
    · simp
    · intro i h1 h2; simp
  rw [← e]; exact h

theorem Only.trans {g : Nat} {a b c : World} (h : Only g a b) (k : Only g b c) : Only g a c :=
  ⟨fun B h1 h2 => (h.below B h1 h2).trans (k.below B h1 (Nat.le_trans h2 h.size)), fun x hx hg => (k.block x (Nat.lt_of_lt_of_le hx h.size) hg).trans (h.block x hx hg), Nat.le_trans h.size k.size⟩
theorem own_block {w : World} {B n cap b off : Nat} {xs : List Value} (h : w.ownsRow B 5 1 (.slice (some ⟨b, off, none⟩) n cap) n xs) : b < w.heap.size := by
  obtain ⟨_, h2⟩ := h
  rcases h2 with ⟨h2, _⟩ | ⟨g', cap', cur, e, hg, hh, _⟩
  · cases h2
  · injection e with e1; injection e1 with e1; injection e1 with e1; subst e1; exact lt_of_block hh

set_option maxHeartbeats 3200000 in
set_option maxRecDepth 100000 in
theorem mul90 {w : World} {p h n c m d : Nat} {a b : Option Addr} {x y : List Nat} (hf : IsF w p) (hh : w.heap[h]? = some (.cells #[.slice a n c, .slice b m d] 31 (0, 0))) (hx : RB w a n c x) (hy : RB w b m d y) (hs : n + m ≤ 1000000) :
    Calls Try.prog 90 #[.agg #[.pointer (some ⟨p, 0, none⟩)], .slice (some ⟨h, 0, none⟩) (2 : Nat) (2 : Nat)] w fun e w' => ∃ v, e = .returned v ∧ w'.ownsRow w.heap.size 5 1 v (mul2 x y 2).length (bs (mul2 x y 2)) ∧ Below w.heap.size w w' := by
  obtain ⟨i0, hi, hz0, hz1, hz2⟩ := info_parts info5
  have hxl := hx.len
  have hyl := hy.len
  have hh0 := lt_of_block hh
  have HX := Lib.hid hx
  have HY := Lib.hid hy
  have HF := Lib.hid hf
  have HH := Lib.hid hh
  have HXL := Lib.hid hxl
  have HYL := Lib.hid hyl
  clear hx hy hf hh hxl hyl
  go_enter Try.func90, Try.ntmps90
  go_wp2_with fail
  go_loopw [5, 14] (fun v i wr => ∃ k : Nat, k ≤ 2 ∧ i = .int .i64 k ∧ Hid (wr.ownsRow w.heap.size 5 1 v (mul2 x y k).length (bs (mul2 x y k))) ∧ Below w.heap.size w wr ∧ wr.cell? ⟨w.heap.size, 0, none⟩ = some (.pointer (some ⟨p, 0, none⟩)) ∧ w.heap.size < wr.heap.size) (fun _ i _ => 2 - (intOf i).toNat)
  case atStart =>
    refine ⟨0, by omega, rfl, ?_, ((Below.refl _ _).alloc (Nat.le_refl _) _).alloc (by simp) _, ((Boxed.new w 84 _).alloc _).cell, by simp; omega⟩
    have hn := heap_alloc_new (w.alloc (.cells #[.pointer (some ⟨p, 0, none⟩)] 84)) (.cells #[.int .u8 1] 5)
    rw [World.size_alloc] at hn
    exact ⟨rfl, .inr ⟨w.heap.size + 1, 1, #[.int .u8 1], rfl, Nat.le_succ _, hn, Nat.le_refl _, by unfold maxLen; omega, rfl, rfl⟩⟩
  case round =>
    obtain ⟨k, hk, rfl, hown, hB, hbx, hsz⟩ := hrel
    obtain ⟨wo, rfl⟩ : ∃ wo : World, wo = wr := ⟨_, rfl⟩
    by_cases hk2 : k < 2
    · obtain ⟨fa, fn, fc, fl, hcell, hrb, hstep, hfn⟩ : ∃ fa fn fc fl, wo.cell? ⟨h, k, none⟩ = some (.slice fa fn fc) ∧ RB wo fa fn fc fl ∧ mul2 x y (k + 1) = conv (mul2 x y k) fl ∧ fn ≤ 1000000 := by
        have hcell : ∀ j, wo.cell? ⟨h, j, none⟩ = #[Value.slice a n c, .slice b m d][j]? := fun j => by rw [hB.cell (p := ⟨h, j, none⟩) hh0]; exact cell_of_block HH.out
        match k, hk2 with
        | 0, _ => exact ⟨a, n, c, x, (hcell 0).trans rfl, HX.out.below hB, rfl, by omega⟩
        | 1, _ => exact ⟨b, m, d, y, (hcell 1).trans rfl, HY.out.below hB, rfl, by omega⟩
      have hsm := mul2_small x y k
      have hml := mul2_len x y k
      rw [HXL.out, HYL.out] at hml
      have hfll := hrb.len
      generalize mul2 x y k = out at *
      obtain ⟨oa, oc, rfl, hob⟩ := own_rb hown.out hsm (by omega)
      obtain ⟨lo, hlo⟩ : ∃ lo, lo = out.length := ⟨_, rfl⟩
      rw [← hlo] at hob hml
      have HOB := Lib.hid hob
      have HRB := Lib.hid hrb
      have HST := Lib.hid hstep
      have HB := Lib.hid hB
      have HSM := Lib.hid hsm
      have HLO := Lib.hid hlo
      have HFL := Lib.hid hfll
      rw [← hlo]
      have hob2 : ∀ b off, oa = some ⟨b, off, none⟩ → b ≠ wo.heap.size := fun b off e => by
        have := hown.out
        rw [e] at this
        exact Nat.ne_of_lt (own_block this)
      have HOB2 := Lib.hid hob2
      clear hown hrb hob hstep hB hsm hfll hob2
      clear hlo
      go_wp2_with (refine wpList_make_full _ rfl (.tmp 22) (.tmp 22) 31 rfl wo.heap.size 5 i0 (.int .u8 0) 1 Try.underlying31 hi hz0 hz1 .i64 .i64 _ _ (lo + fn) rfl rfl (by omega) (by omega) ?_ ?_ (Nat.le_refl _) ?_)
      · rw [hz2]; omega
      · unfold maxLen; omega
      intro w1 hown1 hg1
      have hB1 : Below wo.heap.size wo w1 := (Below.refl _ _).grown hg1 (Nat.le_refl _) (fun j e => by cases e)
      have hz := own_zeros hown1
      have hfp : IsF wo p := HF.out.below HB.out HF.out.lt
      have HB1 := Lib.hid hB1
      have HZ := Lib.hid hz
      have HFP := Lib.hid hfp
      have hsz1 := hB1.size
      have hg0 : wo.heap.size < w1.heap.size := own_block hz
      clear hown1 hg1 hB1 hz hfp
      go_wp2_with fail
      go_loopw [26] (fun i wr => ∃ j : Nat, j ≤ fn ∧ i = .int .i64 j ∧ Hid (wr.ownsRow wo.heap.size 5 1 (.slice (some ⟨wo.heap.size, 0, none⟩) (lo + fn) (lo + fn)) (lo + fn) (bs (convTo out fl j))) ∧ Only wo.heap.size w1 wr) (fun i _ => fn - (intOf i).toNat)
      case atStart => exact ⟨0, by omega, rfl, (by show _ = _ ∧ _; rw [show convTo out fl 0 = List.replicate (lo + fn) 0 from by rw [HLO.out, ← HFL.out]; rfl]; exact HZ.out), Only.refl _ _⟩
      case round =>
        obtain ⟨j, hj, rfl, hown, hO⟩ := hrel
        have hBw : Below wo.heap.size wo wr := HB1.out.trans (hO.below _ (Nat.le_refl _) hsz1)
        have hbx2 : wr.cell? ⟨w.heap.size, 0, none⟩ = some (.pointer (some ⟨p, 0, none⟩)) := by rw [hBw.cell (p := ⟨w.heap.size, 0, none⟩) hsz]; exact hbx
        have HBW := Lib.hid hBw
        have HO := Lib.hid hO
        by_cases hj2 : j < fn
        · obtain ⟨b1, o1, rfl, hc1⟩ := (HRB.out.below hBw).at_ j hj2
          have hcs := HRB.out.small j
          have hcl : (convTo out fl j).length = lo + fn := by rw [length_convTo, HLO.out, HFL.out]
          have h111 := add111 (w := wr) (at_ := j) (y := fl.getD j 0) hcs (HFP.out.below hBw HFP.out.lt) hown.out (convTo_small HSM.out j (by rw [HFL.out]; omega)) (HOB.out.below hBw) HOB2.out (by omega) (by omega)
          have hst : xadd (convTo out fl j) j out (fl.getD j 0) lo = convTo out fl (j + 1) := by rw [HLO.out]; rfl
          rw [hst] at h111
          have H111 := Lib.hid h111
          clear h111 hst hcl hBw hO hown
          generalize fl.getD j 0 = z at *
          go_wp2_with (go_at_call 111; ((with_reducible refine H111.out.mono ?_); rintro e w5 ⟨⟨v5, rfl⟩, hown5, hO5⟩; have HO5 := Lib.hid hO5; have HOW5 := Lib.hid hown5; clear hown5 hO5))
          go_roundw
          case rel => exact ⟨j + 1, by omega, by go_num, HOW5, HO.out.trans HO5.out⟩
          case measure => simp [intOf]; omega
        · obtain rfl : j = fn := by omega
          obtain ⟨na, nc, he, hnr⟩ := own_rb hown.out (convTo_small HSM.out j (by rw [HFL.out]; exact Nat.le_refl _)) (by omega)
          injection he with e1 e2 e3
          subst e1; subst e3
          have hln := Lean_any hnr
          have hcv : lean (convTo out fl j) = mul2 x y (k + 1) := by rw [HST.out]; unfold conv; rw [HFL.out]
          rw [hcv] at hln
          have HLN := Lib.hid hln
          have hszr : wo.heap.size < wr.heap.size := Nat.lt_of_lt_of_le hg0 hO.size
          clear hln hcv hnr hown hO hBw
          go_wp2_with (go_at_call 47; ((with_reducible refine HLN.out.mono ?_); rintro e w6 ⟨v6, rfl, hown6, hB6⟩; have HOW6 := Lib.hid hown6; have HB6 := Lib.hid hB6; clear hown6 hB6))
          go_roundw
          case rel => exact ⟨k + 1, by omega, by go_num, own_mono HOW6.out (by omega), HB.out.trans ((HBW.out.trans (HB6.out.mono (by omega))).mono HB.out.size), (HB6.out.cell (p := ⟨w.heap.size, 0, none⟩) (by show w.heap.size < _; omega)).trans hbx2, Nat.lt_of_lt_of_le (by omega) HB6.out.size⟩
          case measure => simp [intOf]; omega
    · obtain rfl : k = 2 := by omega
      have HB := Lib.hid hB
      clear hB
      go_wp2_with fail
      go_ret
      exact ⟨_, rfl, hown.out, HB.out⟩
end Go.Proofs.Ytokeoodkioobdaa
