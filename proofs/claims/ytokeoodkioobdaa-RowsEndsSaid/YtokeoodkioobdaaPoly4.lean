/- The walk of poly's Lean. Conditions: rows are shorter than 2 to the 47. -/
import Derived.Test.YtokeoodkioobdaaPoly3
import Derived.Test.YtokeoodkioobdaaLagr4
namespace Go.Proofs.Ytokeoodkioobdaa
open Go.RowKit

/-- Without noughts at the end. -/
def lean (zs : List Nat) : List Nat := zs.take (ln zs zs.length)
theorem length_lean (zs : List Nat) : (lean zs).length = ln zs zs.length := by
  unfold lean; rw [List.length_take]; have := ln_le zs zs.length; omega
theorem Small.take {l : List Nat} (h : Small l) (k : Nat) : Small (l.take k) := Small.of_mem fun _ hx => h.mem (List.mem_of_mem_take hx)
theorem lean_small {zs : List Nat} (h : Small zs) : Small (lean zs) := h.take _

theorem own_new (w : World) : (w.alloc (.cells #[] 5)).ownsRow w.heap.size 5 1 (.slice (some ⟨w.heap.size, 0, none⟩) 0 0) 0 [] :=
  ⟨rfl, .inr ⟨w.heap.size, 0, #[], rfl, Nat.le_refl _, heap_alloc_new _ _, Nat.le_refl _, by omega, rfl, rfl⟩⟩

set_option maxHeartbeats 800000 in
set_option maxRecDepth 100000 in
theorem Lean_none {w : World} {a : Option Addr} {len cap : Nat} {zs : List Nat} (hI : RB w a len cap zs) (hz : ln zs len = 0) :
    Calls Try.prog 47 #[.slice a len cap] w fun e W' => ∃ v, e = .returned v ∧ W'.ownsRow w.heap.size 5 1 v 0 [] ∧ Below w.heap.size w W' := by
  obtain ⟨i0, hi, hz0, hz1, hz2⟩ := info_parts info5
  have hm := hI.most
  have hle := hI.le
  have hnil := hI.nil
  have hdeg : ∀ W (hW : Below w.heap.size w W), Calls Try.prog 92 #[.slice a len cap] W fun e W' => e = .returned (.int .i64 (-1)) ∧ Below W.heap.size W W' := fun W hW => (degree_any (hI.below hW)).mono fun e w' ⟨h1, h2⟩ => ⟨by rw [h1, hz]; rfl, h2⟩
  have HD := Lib.hid hdeg
  clear hI hdeg hz
  cases a with
  | none =>
    obtain rfl := hnil rfl
    clear hnil
    go_enter Try.func47, Try.ntmps47
    go_wp2_with (first
      | (go_at_call 92; ((with_reducible refine (HD.out _ ?_).mono ?_); (exact (Below.refl _ _).alloc (Nat.le_refl _) _); rintro e w1 ⟨rfl, hB⟩; have HB := Lib.hid hB; have HO := Lib.hid (own_below (own_new w) hB); clear hB))
      | (at_builtin; refine wpList_append_fits_any _ rfl (.tmp 3) (.tmp 8) 31 rfl w.heap.size 5 i0 1 Try.underlying31 hi hz1 w.heap.size 0 0 [] rfl HO.out none 0 0 [] rfl rfl (fun _ => ⟨rfl, rfl⟩) (fun _ h => by cases h) (fun _ h => by cases h) (by omega) ?_; intro w2 hown2 hg2; have HO2 := Lib.hid hown2; have HG2 := Lib.hid hg2; clear hown2 hg2))
    go_ret
    exact ⟨_, rfl, HO2.out, (((Below.refl _ _).alloc (Nat.le_refl _) _).trans (HB.out.mono (by simp))).grown HG2.out (Nat.le_trans (by simp) HB.out.size) (fun j e => by cases e; exact Nat.le_refl _)⟩
  | some ad =>
    clear hnil
    go_enter Try.func47, Try.ntmps47
    go_wp2_with (first
      | (go_at_call 92; ((with_reducible refine (HD.out _ ?_).mono ?_); (exact (Below.refl _ _).alloc (Nat.le_refl _) _); rintro e w1 ⟨rfl, hB⟩; have HB := Lib.hid hB; have HO := Lib.hid (own_below (own_new w) hB); clear hB))
      | (at_builtin; refine wpList_append_fits_any _ rfl (.tmp 3) (.tmp 8) 31 rfl w.heap.size 5 i0 1 Try.underlying31 hi hz1 w.heap.size 0 0 [] rfl HO.out _ 0 _ [] rfl rfl (fun h => by cases h) (fun _ _ j u h => by cases h) (fun _ h => by cases h) (by omega) ?_; intro w2 hown2 hg2; have HO2 := Lib.hid hown2; have HG2 := Lib.hid hg2; clear hown2 hg2))
    go_ret
    exact ⟨_, rfl, HO2.out, (((Below.refl _ _).alloc (Nat.le_refl _) _).trans (HB.out.mono (by simp))).grown HG2.out (Nat.le_trans (by simp) HB.out.size) (fun j e => by cases e; exact Nat.le_refl _)⟩

set_option maxHeartbeats 800000 in
set_option maxRecDepth 100000 in
theorem Lean_some {w : World} {b off len cap k : Nat} {zs : List Nat} (hI : RB w (some ⟨b, off, none⟩) len cap zs) (hz : ln zs len = k) (hk : 0 < k) (hkl : k ≤ len) :
    Calls Try.prog 47 #[.slice (some ⟨b, off, none⟩) len cap] w fun e W' => ∃ v, e = .returned v ∧ W'.ownsRow w.heap.size 5 1 v k (bs (zs.take k)) ∧ Below w.heap.size w W' := by
  obtain ⟨i0, hi, hz0, hz1, hz2⟩ := info_parts info5
  have hm := hI.most
  have hle := hI.le
  have hlen := hI.len
  have hdeg : ∀ W (hW : Below w.heap.size w W), Calls Try.prog 92 #[.slice (some ⟨b, off, none⟩) len cap] W fun e W' => e = .returned (.int .i64 ((k : Nat) - 1)) ∧ Below W.heap.size W W' := fun W hW => (degree_any (hI.below hW)).mono fun e w' ⟨h1, h2⟩ => ⟨by rw [h1, hz], h2⟩
  have HD := Lib.hid hdeg
  have HI := Lib.hid hI
  have HL := Lib.hid hlen
  clear hI hdeg hz hlen
  have hs : ((k : Nat) : Int) - 1 + 1 = k := by omega
  have hk2 : k ≤ cap := by omega
  go_enter Try.func47, Try.ntmps47
  go_wp2_with (first
    | (go_at_call 92; ((with_reducible refine (HD.out _ ?_).mono ?_); (exact (Below.refl _ _).alloc (Nat.le_refl _) _); rintro e w1 ⟨rfl, hB⟩; have HB := Lib.hid hB; have HO := Lib.hid (own_below (own_new w) hB); clear hB))
    | (at_builtin; refine wpList_append_own _ rfl (.tmp 3) (.tmp 8) 31 rfl w.heap.size 5 i0 (.int .u8 0) 1 1 Try.underlying31 hi hz0 hz1 hz2 rfl (by decide) _ 0 [] rfl HO.out ⟨b, off, none⟩ k cap (bs (zs.take k)) rfl (by rw [length_bs, List.length_take, HL.out]; omega) ?_ (bs_one _) (by unfold maxLen; omega) (by omega) (Nat.le_trans (by simp) HB.out.size) ?_))
  · intro j u hu
    have hj : j < k := by have := (List.getElem?_eq_some_iff.1 hu).1; rw [length_bs, List.length_take] at this; omega
    have hIw := HI.out.below (((Below.refl _ _).alloc (Nat.le_refl _) _).trans (HB.out.mono (by simp)))
    obtain ⟨b', off', e, hc⟩ := hIw.at_ j (by omega)
    injection e with e; injection e with e1 e2; subst e1; subst e2
    rw [bs_get _ _ (by rw [List.length_take, HL.out]; omega), List.getD_eq_getElem?_getD, List.getElem?_take_of_lt hj, ← List.getD_eq_getElem?_getD] at hu
    rw [Addr.add_lit, hc, hu]
  · intro v' w2 hown2 hg2 _
    have HO2 := Lib.hid hown2
    have HG2 := Lib.hid hg2
    clear hown2 hg2
    go_wp2_with fail
    go_ret
    exact ⟨_, rfl, HO2.out, (((Below.refl _ _).alloc (Nat.le_refl _) _).trans (HB.out.mono (by simp))).grown HG2.out (Nat.le_trans (by simp) HB.out.size) (fun j e => by cases e; exact Nat.le_refl _)⟩

theorem Lean_any {w : World} {a : Option Addr} {len cap : Nat} {zs : List Nat} (hI : RB w a len cap zs) :
    Calls Try.prog 47 #[.slice a len cap] w fun e W' => ∃ v, e = .returned v ∧ W'.ownsRow w.heap.size 5 1 v (lean zs).length (bs (lean zs)) ∧ Below w.heap.size w W' := by
  have hlen : (lean zs).length = ln zs len := by rw [length_lean, hI.len]
  have hle2 : lean zs = zs.take (ln zs len) := by unfold lean; rw [hI.len]
  have hln : ln zs len ≤ len := ln_le _ _
  rw [hlen, hle2]
  by_cases hz : ln zs len = 0
  · rw [hz]; exact Lean_none hI hz
  · obtain ⟨b, off, rfl, _⟩ := hI.at_ 0 (by omega)
    exact Lean_some hI rfl (by omega) hln
end Go.Proofs.Ytokeoodkioobdaa
