/- The walks of lagr's unlike and of slices.Index at bytes. Conditions: rows are shorter than 2 to the 47. -/
import Derived.Test.YtokeoodkioobdaaSame
namespace Go.Proofs.Ytokeoodkioobdaa
open Go.RowKit

/-- Whether each byte was seen. -/
def seenC (L : List Nat) : Array Value := Array.ofFn (n := 256) fun i => .int .i64 (if (i : Nat) ∈ L then 1 else 0)
theorem size_seenC (L : List Nat) : (seenC L).size = 256 := by simp [seenC]
theorem seenC_get (L : List Nat) (i : Nat) (h : i < 256) : (seenC L)[i]? = some (.int .i64 (if i ∈ L then 1 else 0)) := by simp [seenC, h]
theorem seenC_step (L : List Nat) (x : Nat) (hx : x < 256) : (seenC L).setIfInBounds x (.int .i64 1) = seenC (L ++ [x]) := by
  apply Array.ext_getElem?
  intro i
  rw [Array.getElem?_setIfInBounds, size_seenC]
  by_cases hi : i < 256
  · rw [seenC_get _ i hi, seenC_get _ i hi]
    by_cases h : x = i
    · subst h; rw [if_pos rfl, if_pos hx]; simp
    · rw [if_neg h]; simp [show ¬ i = x from fun e => h e.symm]
  · have e1 : (seenC L)[i]? = none := by simp [size_seenC]; omega
    have e2 : (seenC (L ++ [x]))[i]? = none := by simp [size_seenC]; omega
    rw [e1, e2, if_neg (by omega)]
theorem seenC_zero : Try.zeroCells82 = seenC [] := by
  have h : Try.zeroCells82 = Array.replicate 256 (.int .i64 0) := by kernel_rfl
  rw [h]
  apply Array.ext_getElem?
  intro i
  by_cases hi : i < 256
  · rw [seenC_get _ i hi]; simp [hi]
  · have e2 : (seenC [])[i]? = none := by simp [size_seenC]; omega
    rw [e2]; simp [hi]

theorem nodup_step {l : List Nat} {k : Nat} (hk : k < l.length) (h : (l.take k).Nodup) (hx : l.getD k 0 ∉ l.take k) : (l.take (k + 1)).Nodup := by
  rw [take_step hk, List.nodup_append]
  exact ⟨h, by simp, fun a ha b hb => by simp at hb; subst hb; intro e; subst e; exact hx ha⟩
theorem twice_not {l : List Nat} {k : Nat} (hk : k < l.length) (hx : l.getD k 0 ∈ l.take k) : false = decide l.Nodup := by
  symm; rw [decide_eq_false_iff_not]
  intro h
  have h2 : (l.take (k + 1)).Nodup := h.sublist (List.take_sublist _ _)
  rw [take_step hk, List.nodup_append] at h2
  exact h2.2.2 _ hx _ (by simp) rfl

set_option maxHeartbeats 800000 in
set_option maxRecDepth 100000 in
/-- unlike: are all bytes unlike? -/
theorem unlike_any {w : World} {a : Option Addr} {n c : Nat} {l : List Nat} (h : RB w a n c l) :
    Calls Try.prog 93 #[.slice a n c] w fun e w' => e = .returned (.bool (decide l.Nodup)) ∧ Below w.heap.size w w' := by
  have hm1 := h.most
  have hl1 := h.le
  have H := Lib.hid h
  clear h
  go_enter Try.func93, Try.ntmps93
  go_wp2_with fail
  go_loopw [8] (fun i wr => ∃ k : Nat, k ≤ n ∧ i = .int .i64 k ∧ Hid ((l.take k).Nodup) ∧ Hid (wr.heap[w.heap.size]? = some (.cells (seenC (l.take k)) 82 (0, 0))) ∧ Below w.heap.size w wr) (fun i _ => n - (intOf i).toNat)
  case atStart => exact ⟨0, by omega, rfl, (List.nodup_nil : ([] : List Nat).Nodup), by rw [seenC_zero]; exact heap_alloc_new _ _, (Below.refl _ _).alloc (Nat.le_refl _) _⟩
  case round =>
    obtain ⟨k, hk, rfl, hnd, hh, hB⟩ := hrel
    have HB := Lib.hid hB
    by_cases hk1 : k < n
    · obtain ⟨b1, o1, rfl, hc1⟩ := (H.out.below hB).at_ k hk1
      have hu := H.out.small k
      have hf : ∀ i, wr.frozen? ⟨w.heap.size, i, none⟩ = false := fun i => frozen_of_block hh.out
      have hcs := (cell_of_block hh.out).trans (seenC_get (l.take k) (l.getD k 0) hu)
      clear hB
      by_cases hx : l.getD k 0 ∈ l.take k
      · rw [if_pos hx] at hcs
        have he := twice_not (by rw [H.out.len]; exact hk1) hx
        have HE := Lib.hid he
        have hset : wr.setCell ⟨w.heap.size, l.getD k 0, none⟩ (.int .i64 2) = wr.setCell ⟨w.heap.size, l.getD k 0, none⟩ (.int .i64 2) := rfl
        clear he hset
        generalize l.getD k 0 = x at *
        go_wp2_with fail
        go_ret
        exact ⟨ret_bool HE.out, HB.out.setCell (Nat.le_refl _) _⟩
      · rw [if_neg hx] at hcs
        have hstep := heap_setCell_same wr w.heap.size (l.getD k 0) (seenC (l.take k)) 82 (.int .i64 1) hh.out
        rw [seenC_step _ _ hu, ← take_step (by rw [H.out.len]; exact hk1)] at hstep
        have hn2 := nodup_step (by rw [H.out.len]; exact hk1) hnd.out hx
        have HS := Lib.hid hstep
        have HN := Lib.hid hn2
        clear hstep hn2 hx
        generalize l.getD k 0 = x at *
        go_wp2_with fail
        go_roundw
        case rel => exact ⟨k + 1, by omega, by go_num, HN, HS, HB.out.setCell (Nat.le_refl _) _⟩
        case measure => simp [intOf]; omega
    · obtain rfl : k = n := by omega
      have he : true = decide l.Nodup := by
        symm; rw [decide_eq_true_iff]
        have := hnd.out
        rw [List.take_of_length_le (by rw [H.out.len]; exact Nat.le_refl _)] at this
        exact this
      have HE := Lib.hid he
      clear he hB
      go_wp2_with fail
      go_ret
      exact ⟨ret_bool HE.out, HB.out⟩

/-- The first place of a byte. -/
def fi : List Nat → Nat → Nat
  | [], _ => 0
  | y :: l, x => if y = x then 0 else fi l x + 1
def idx (l : List Nat) (x : Nat) : Int := if x ∈ l then (fi l x : Nat) else -1
theorem fi_take {x : Nat} : ∀ {l : List Nat} {k : Nat}, k < l.length → x ∉ l.take k → l.getD k 0 = x → x ∈ l ∧ fi l x = k
  | [], k, h, _, _ => absurd h (by simp)
  | y :: l, 0, _, _, e => by
    have e : y = x := by simpa using e
    subst e; exact ⟨by simp, by simp [fi]⟩
  | y :: l, k + 1, h, hn, e => by
    simp at hn
    have ih := fi_take (l := l) (k := k) (by simpa using h) hn.2 (by simpa using e)
    exact ⟨List.mem_cons_of_mem _ ih.1, by simp [fi, ih.2]; intro h; exact hn.1 h.symm⟩
theorem fi_at {x : Nat} : ∀ {l : List Nat}, x ∈ l → fi l x < l.length ∧ l.getD (fi l x) 0 = x
  | [], h => by cases h
  | y :: l, h => by
    by_cases e : y = x
    · subst e; simp [fi]
    · have h2 : x ∈ l := by
        rcases List.mem_cons.1 h with h | h
        · exact absurd h.symm e
        · exact h
      have ih := fi_at h2
      simp [fi, e]; exact ⟨ih.1, by simpa using ih.2⟩
theorem ret_i64 {a b : Int} (h : a = b) : Ending.returned (.int .i64 a) = .returned (.int .i64 b) := by rw [h]

set_option maxHeartbeats 800000 in
set_option maxRecDepth 100000 in
/-- slices.Index at bytes. -/
theorem index_any {w : World} {a : Option Addr} {n c x : Nat} {l : List Nat} (h : RB w a n c l) :
    Calls Try.prog 112 #[.slice a n c, .int .u8 x] w fun e w' => e = .returned (.int .i64 (idx l x)) ∧ w = w' := by
  have hm1 := h.most
  have hl1 := h.le
  have H := Lib.hid h
  clear h
  go_enter Try.func112, Try.ntmps112
  go_wp2_with fail
  go_loop [8] (fun i => ∃ k : Nat, k ≤ n ∧ i = .int .i64 k ∧ Hid (x ∉ l.take k)) (fun i => n - (intOf i).toNat)
  case atStart => exact ⟨0, by omega, rfl, (by simp : x ∉ l.take 0)⟩
  case round =>
    obtain ⟨k, hk, rfl, hn⟩ := hrel
    by_cases hk1 : k < n
    · obtain ⟨b1, o1, rfl, hc1⟩ := H.out.at_ k hk1
      have hkl : k < l.length := by rw [H.out.len]; exact hk1
      by_cases he : l.getD k 0 = x
      · rw [he] at hc1
        have hr := fi_take hkl hn.out he
        have hq : ((k : Nat) : Int) = idx l x := by unfold idx; rw [if_pos hr.1, hr.2]
        have HQ := Lib.hid hq
        clear hq hr he
        go_wp2_with fail
        go_ret
        exact ⟨ret_i64 HQ.out, rfl⟩
      · have hn2 : x ∉ l.take (k + 1) := by
          rw [take_step hkl]; simp only [List.mem_append, List.mem_singleton, not_or]
          exact ⟨hn.out, fun e => he e.symm⟩
        have HN := Lib.hid hn2
        have hne : ((x : Nat) : Int) ≠ ((l.getD k 0 : Nat) : Int) := fun e => he (by omega)
        clear hn2 he
        generalize l.getD k 0 = y at *
        go_wp2_with fail
        go_round
        case rel => exact ⟨k + 1, by omega, by go_num, HN⟩
        case measure => simp [intOf]; omega
    · obtain rfl : k = n := by omega
      have hq : (-1 : Int) = idx l x := by
        have := hn.out
        rw [List.take_of_length_le (by rw [H.out.len]; exact Nat.le_refl _)] at this
        unfold idx; rw [if_neg this]
      have HQ := Lib.hid hq
      clear hq
      go_wp2_with fail
      go_ret
      exact ⟨ret_i64 HQ.out, rfl⟩
end Go.Proofs.Ytokeoodkioobdaa
