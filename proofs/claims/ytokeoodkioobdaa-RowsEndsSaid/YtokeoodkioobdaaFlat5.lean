/- The other flats of the bag, at empty lists. -/
import Derived.Test.YtokeoodkioobdaaFlat2
import Derived.LoopN
import Derived.Handy
namespace Go.Proofs.Ytokeoodkioobdaa
open Go.RowKit

theorem info143_ : (Try.prog.info? 143).map (fun i => (i.zero, i.size, i.bytes)) = some (some (.slice none 0 0), 1, 24) := by kernel_rfl
set_option maxHeartbeats 1600000 in
set_option maxRecDepth 100000 in
theorem flat_none113 (w : World) : Calls Try.prog 113 #[.slice none 0 0] w fun e w' => e = .returned (.bool true) ∧ Below w.heap.size w w' := by
  obtain ⟨i31, hj, hy0, hy1, hy2⟩ := info_parts info143_
  go_enter Try.func113, Try.ntmps113
  go_wp2_with fail
  refine wp_loop_rounds 1 ?_
  rw [rounds_succ]
  go_wp2_with (refine wpList_make_full _ rfl (.tmp 42) (.tmp 42) 94 rfl w.heap.size 143 i31 (.slice none 0 0) 1 Try.underlying94 hj hy0 hy1 .i64 .i64 _ _ 0 rfl rfl rfl rfl ?_ ?_ (Nat.le_refl _) ?_)
  · omega
  · unfold maxLen; omega
  intro w1 hown hg1
  have HB := Lib.hid ((Below.refl w.heap.size w).grown hg1 (Nat.le_refl _) (fun j e => by cases e))
  clear hown hg1
  go_wp2_with fail
  refine wp_loop_rounds 1 ?_
  rw [rounds_succ]
  go_wp2_with fail
  refine wp_loop_rounds 1 ?_
  rw [rounds_succ]
  go_wp2_with fail
  refine wp_loop_rounds 1 ?_
  rw [rounds_succ]
  go_wp2_with fail
  refine wp_loop_rounds 1 ?_
  rw [rounds_succ]
  go_wp2_with fail
  go_ret
  exact ⟨rfl, HB.out⟩

theorem info145_ : (Try.prog.info? 145).map (fun i => (i.zero, i.size, i.bytes)) = some (some (.slice none 0 0), 1, 24) := by kernel_rfl
set_option maxHeartbeats 1600000 in
set_option maxRecDepth 100000 in
theorem flat_none114 (w : World) : Calls Try.prog 114 #[.slice none 0 0] w fun e w' => e = .returned (.bool true) ∧ Below w.heap.size w w' := by
  obtain ⟨i31, hj, hy0, hy1, hy2⟩ := info_parts info145_
  go_enter Try.func114, Try.ntmps114
  go_wp2_with fail
  refine wp_loop_rounds 1 ?_
  rw [rounds_succ]
  go_wp2_with (refine wpList_make_full _ rfl (.tmp 42) (.tmp 42) 95 rfl w.heap.size 145 i31 (.slice none 0 0) 1 Try.underlying95 hj hy0 hy1 .i64 .i64 _ _ 0 rfl rfl rfl rfl ?_ ?_ (Nat.le_refl _) ?_)
  · omega
  · unfold maxLen; omega
  intro w1 hown hg1
  have HB := Lib.hid ((Below.refl w.heap.size w).grown hg1 (Nat.le_refl _) (fun j e => by cases e))
  clear hown hg1
  go_wp2_with fail
  refine wp_loop_rounds 1 ?_
  rw [rounds_succ]
  go_wp2_with fail
  refine wp_loop_rounds 1 ?_
  rw [rounds_succ]
  go_wp2_with fail
  refine wp_loop_rounds 1 ?_
  rw [rounds_succ]
  go_wp2_with fail
  refine wp_loop_rounds 1 ?_
  rw [rounds_succ]
  go_wp2_with fail
  go_ret
  exact ⟨rfl, HB.out⟩

theorem info41_ : (Try.prog.info? 41).map (fun i => (i.zero, i.size, i.bytes)) = some (some (.slice none 0 0), 1, 24) := by kernel_rfl
set_option maxHeartbeats 1600000 in
set_option maxRecDepth 100000 in
theorem flat_none115 (w : World) : Calls Try.prog 115 #[.slice none 0 0] w fun e w' => e = .returned (.bool true) ∧ Below w.heap.size w w' := by
  obtain ⟨i31, hj, hy0, hy1, hy2⟩ := info_parts info41_
  go_enter Try.func115, Try.ntmps115
  go_wp2_with fail
  refine wp_loop_rounds 1 ?_
  rw [rounds_succ]
  go_wp2_with (refine wpList_make_full _ rfl (.tmp 41) (.tmp 41) 96 rfl w.heap.size 41 i31 (.slice none 0 0) 1 Try.underlying96 hj hy0 hy1 .i64 .i64 _ _ 0 rfl rfl rfl rfl ?_ ?_ (Nat.le_refl _) ?_)
  · omega
  · unfold maxLen; omega
  intro w1 hown hg1
  have HB := Lib.hid ((Below.refl w.heap.size w).grown hg1 (Nat.le_refl _) (fun j e => by cases e))
  clear hown hg1
  go_wp2_with fail
  refine wp_loop_rounds 1 ?_
  rw [rounds_succ]
  go_wp2_with fail
  refine wp_loop_rounds 1 ?_
  rw [rounds_succ]
  go_wp2_with fail
  refine wp_loop_rounds 1 ?_
  rw [rounds_succ]
  go_wp2_with fail
  refine wp_loop_rounds 1 ?_
  rw [rounds_succ]
  go_wp2_with fail
  go_ret
  exact ⟨rfl, HB.out⟩

theorem info146_ : (Try.prog.info? 146).map (fun i => (i.zero, i.size, i.bytes)) = some (some (.slice none 0 0), 1, 24) := by kernel_rfl
set_option maxHeartbeats 1600000 in
set_option maxRecDepth 100000 in
theorem flat_none116 (w : World) : Calls Try.prog 116 #[.slice none 0 0] w fun e w' => e = .returned (.bool true) ∧ Below w.heap.size w w' := by
  obtain ⟨i31, hj, hy0, hy1, hy2⟩ := info_parts info146_
  go_enter Try.func116, Try.ntmps116
  go_wp2_with fail
  refine wp_loop_rounds 1 ?_
  rw [rounds_succ]
  go_wp2_with (refine wpList_make_full _ rfl (.tmp 41) (.tmp 41) 97 rfl w.heap.size 146 i31 (.slice none 0 0) 1 Try.underlying97 hj hy0 hy1 .i64 .i64 _ _ 0 rfl rfl rfl rfl ?_ ?_ (Nat.le_refl _) ?_)
  · omega
  · unfold maxLen; omega
  intro w1 hown hg1
  have HB := Lib.hid ((Below.refl w.heap.size w).grown hg1 (Nat.le_refl _) (fun j e => by cases e))
  clear hown hg1
  go_wp2_with fail
  refine wp_loop_rounds 1 ?_
  rw [rounds_succ]
  go_wp2_with fail
  refine wp_loop_rounds 1 ?_
  rw [rounds_succ]
  go_wp2_with fail
  refine wp_loop_rounds 1 ?_
  rw [rounds_succ]
  go_wp2_with fail
  refine wp_loop_rounds 1 ?_
  rw [rounds_succ]
  go_wp2_with fail
  go_ret
  exact ⟨rfl, HB.out⟩

theorem info147_ : (Try.prog.info? 147).map (fun i => (i.zero, i.size, i.bytes)) = some (some (.slice none 0 0), 1, 24) := by kernel_rfl
set_option maxHeartbeats 1600000 in
set_option maxRecDepth 100000 in
theorem flat_none117 (w : World) : Calls Try.prog 117 #[.slice none 0 0] w fun e w' => e = .returned (.bool true) ∧ Below w.heap.size w w' := by
  obtain ⟨i31, hj, hy0, hy1, hy2⟩ := info_parts info147_
  go_enter Try.func117, Try.ntmps117
  go_wp2_with fail
  refine wp_loop_rounds 1 ?_
  rw [rounds_succ]
  go_wp2_with (refine wpList_make_full _ rfl (.tmp 41) (.tmp 41) 98 rfl w.heap.size 147 i31 (.slice none 0 0) 1 Try.underlying98 hj hy0 hy1 .i64 .i64 _ _ 0 rfl rfl rfl rfl ?_ ?_ (Nat.le_refl _) ?_)
  · omega
  · unfold maxLen; omega
  intro w1 hown hg1
  have HB := Lib.hid ((Below.refl w.heap.size w).grown hg1 (Nat.le_refl _) (fun j e => by cases e))
  clear hown hg1
  go_wp2_with fail
  refine wp_loop_rounds 1 ?_
  rw [rounds_succ]
  go_wp2_with fail
  refine wp_loop_rounds 1 ?_
  rw [rounds_succ]
  go_wp2_with fail
  refine wp_loop_rounds 1 ?_
  rw [rounds_succ]
  go_wp2_with fail
  refine wp_loop_rounds 1 ?_
  rw [rounds_succ]
  go_wp2_with fail
  go_ret
  exact ⟨rfl, HB.out⟩

theorem info149_ : (Try.prog.info? 149).map (fun i => (i.zero, i.size, i.bytes)) = some (some (.slice none 0 0), 1, 24) := by kernel_rfl
set_option maxHeartbeats 1600000 in
set_option maxRecDepth 100000 in
theorem flat_none119 (w : World) : Calls Try.prog 119 #[.slice none 0 0] w fun e w' => e = .returned (.bool true) ∧ Below w.heap.size w w' := by
  obtain ⟨i31, hj, hy0, hy1, hy2⟩ := info_parts info149_
  go_enter Try.func119, Try.ntmps119
  go_wp2_with fail
  refine wp_loop_rounds 1 ?_
  rw [rounds_succ]
  go_wp2_with (refine wpList_make_full _ rfl (.tmp 43) (.tmp 43) 99 rfl w.heap.size 149 i31 (.slice none 0 0) 1 Try.underlying99 hj hy0 hy1 .i64 .i64 _ _ 0 rfl rfl rfl rfl ?_ ?_ (Nat.le_refl _) ?_)
  · omega
  · unfold maxLen; omega
  intro w1 hown hg1
  have HB := Lib.hid ((Below.refl w.heap.size w).grown hg1 (Nat.le_refl _) (fun j e => by cases e))
  clear hown hg1
  go_wp2_with fail
  refine wp_loop_rounds 1 ?_
  rw [rounds_succ]
  go_wp2_with fail
  refine wp_loop_rounds 1 ?_
  rw [rounds_succ]
  go_wp2_with fail
  refine wp_loop_rounds 1 ?_
  rw [rounds_succ]
  go_wp2_with fail
  refine wp_loop_rounds 1 ?_
  rw [rounds_succ]
  go_wp2_with fail
  go_ret
  exact ⟨rfl, HB.out⟩

theorem info150_ : (Try.prog.info? 150).map (fun i => (i.zero, i.size, i.bytes)) = some (some (.slice none 0 0), 1, 24) := by kernel_rfl
set_option maxHeartbeats 1600000 in
set_option maxRecDepth 100000 in
theorem flat_none120 (w : World) : Calls Try.prog 120 #[.slice none 0 0] w fun e w' => e = .returned (.bool true) ∧ Below w.heap.size w w' := by
  obtain ⟨i31, hj, hy0, hy1, hy2⟩ := info_parts info150_
  go_enter Try.func120, Try.ntmps120
  go_wp2_with fail
  refine wp_loop_rounds 1 ?_
  rw [rounds_succ]
  go_wp2_with (refine wpList_make_full _ rfl (.tmp 41) (.tmp 41) 100 rfl w.heap.size 150 i31 (.slice none 0 0) 1 Try.underlying100 hj hy0 hy1 .i64 .i64 _ _ 0 rfl rfl rfl rfl ?_ ?_ (Nat.le_refl _) ?_)
  · omega
  · unfold maxLen; omega
  intro w1 hown hg1
  have HB := Lib.hid ((Below.refl w.heap.size w).grown hg1 (Nat.le_refl _) (fun j e => by cases e))
  clear hown hg1
  go_wp2_with fail
  refine wp_loop_rounds 1 ?_
  rw [rounds_succ]
  go_wp2_with fail
  refine wp_loop_rounds 1 ?_
  rw [rounds_succ]
  go_wp2_with fail
  refine wp_loop_rounds 1 ?_
  rw [rounds_succ]
  go_wp2_with fail
  refine wp_loop_rounds 1 ?_
  rw [rounds_succ]
  go_wp2_with fail
  go_ret
  exact ⟨rfl, HB.out⟩

theorem info155_ : (Try.prog.info? 155).map (fun i => (i.zero, i.size, i.bytes)) = some (some (.slice none 0 0), 1, 24) := by kernel_rfl
set_option maxHeartbeats 1600000 in
set_option maxRecDepth 100000 in
theorem flat_none121 (w : World) : Calls Try.prog 121 #[.slice none 0 0] w fun e w' => e = .returned (.bool true) ∧ Below w.heap.size w w' := by
  obtain ⟨i31, hj, hy0, hy1, hy2⟩ := info_parts info155_
  go_enter Try.func121, Try.ntmps121
  go_wp2_with fail
  refine wp_loop_rounds 1 ?_
  rw [rounds_succ]
  go_wp2_with (refine wpList_make_full _ rfl (.tmp 41) (.tmp 41) 101 rfl w.heap.size 155 i31 (.slice none 0 0) 1 Try.underlying101 hj hy0 hy1 .i64 .i64 _ _ 0 rfl rfl rfl rfl ?_ ?_ (Nat.le_refl _) ?_)
  · omega
  · unfold maxLen; omega
  intro w1 hown hg1
  have HB := Lib.hid ((Below.refl w.heap.size w).grown hg1 (Nat.le_refl _) (fun j e => by cases e))
  clear hown hg1
  go_wp2_with fail
  refine wp_loop_rounds 1 ?_
  rw [rounds_succ]
  go_wp2_with fail
  refine wp_loop_rounds 1 ?_
  rw [rounds_succ]
  go_wp2_with fail
  refine wp_loop_rounds 1 ?_
  rw [rounds_succ]
  go_wp2_with fail
  refine wp_loop_rounds 1 ?_
  rw [rounds_succ]
  go_wp2_with fail
  go_ret
  exact ⟨rfl, HB.out⟩

theorem info159_ : (Try.prog.info? 159).map (fun i => (i.zero, i.size, i.bytes)) = some (some (.slice none 0 0), 1, 24) := by kernel_rfl
set_option maxHeartbeats 1600000 in
set_option maxRecDepth 100000 in
theorem flat_none122 (w : World) : Calls Try.prog 122 #[.slice none 0 0] w fun e w' => e = .returned (.bool true) ∧ Below w.heap.size w w' := by
  obtain ⟨i31, hj, hy0, hy1, hy2⟩ := info_parts info159_
  go_enter Try.func122, Try.ntmps122
  go_wp2_with fail
  refine wp_loop_rounds 1 ?_
  rw [rounds_succ]
  go_wp2_with (refine wpList_make_full _ rfl (.tmp 41) (.tmp 41) 102 rfl w.heap.size 159 i31 (.slice none 0 0) 1 Try.underlying102 hj hy0 hy1 .i64 .i64 _ _ 0 rfl rfl rfl rfl ?_ ?_ (Nat.le_refl _) ?_)
  · omega
  · unfold maxLen; omega
  intro w1 hown hg1
  have HB := Lib.hid ((Below.refl w.heap.size w).grown hg1 (Nat.le_refl _) (fun j e => by cases e))
  clear hown hg1
  go_wp2_with fail
  refine wp_loop_rounds 1 ?_
  rw [rounds_succ]
  go_wp2_with fail
  refine wp_loop_rounds 1 ?_
  rw [rounds_succ]
  go_wp2_with fail
  refine wp_loop_rounds 1 ?_
  rw [rounds_succ]
  go_wp2_with fail
  refine wp_loop_rounds 1 ?_
  rw [rounds_succ]
  go_wp2_with fail
  go_ret
  exact ⟨rfl, HB.out⟩

theorem info164_ : (Try.prog.info? 164).map (fun i => (i.zero, i.size, i.bytes)) = some (some (.slice none 0 0), 1, 24) := by kernel_rfl
set_option maxHeartbeats 1600000 in
set_option maxRecDepth 100000 in
theorem flat_none123 (w : World) : Calls Try.prog 123 #[.slice none 0 0] w fun e w' => e = .returned (.bool true) ∧ Below w.heap.size w w' := by
  obtain ⟨i31, hj, hy0, hy1, hy2⟩ := info_parts info164_
  go_enter Try.func123, Try.ntmps123
  go_wp2_with fail
  refine wp_loop_rounds 1 ?_
  rw [rounds_succ]
  go_wp2_with (refine wpList_make_full _ rfl (.tmp 41) (.tmp 41) 103 rfl w.heap.size 164 i31 (.slice none 0 0) 1 Try.underlying103 hj hy0 hy1 .i64 .i64 _ _ 0 rfl rfl rfl rfl ?_ ?_ (Nat.le_refl _) ?_)
  · omega
  · unfold maxLen; omega
  intro w1 hown hg1
  have HB := Lib.hid ((Below.refl w.heap.size w).grown hg1 (Nat.le_refl _) (fun j e => by cases e))
  clear hown hg1
  go_wp2_with fail
  refine wp_loop_rounds 1 ?_
  rw [rounds_succ]
  go_wp2_with fail
  refine wp_loop_rounds 1 ?_
  rw [rounds_succ]
  go_wp2_with fail
  refine wp_loop_rounds 1 ?_
  rw [rounds_succ]
  go_wp2_with fail
  refine wp_loop_rounds 1 ?_
  rw [rounds_succ]
  go_wp2_with fail
  go_ret
  exact ⟨rfl, HB.out⟩

theorem info168_ : (Try.prog.info? 168).map (fun i => (i.zero, i.size, i.bytes)) = some (some (.slice none 0 0), 1, 24) := by kernel_rfl
set_option maxHeartbeats 1600000 in
set_option maxRecDepth 100000 in
theorem flat_none124 (w : World) : Calls Try.prog 124 #[.slice none 0 0] w fun e w' => e = .returned (.bool true) ∧ Below w.heap.size w w' := by
  obtain ⟨i31, hj, hy0, hy1, hy2⟩ := info_parts info168_
  go_enter Try.func124, Try.ntmps124
  go_wp2_with fail
  refine wp_loop_rounds 1 ?_
  rw [rounds_succ]
  go_wp2_with (refine wpList_make_full _ rfl (.tmp 41) (.tmp 41) 104 rfl w.heap.size 168 i31 (.slice none 0 0) 1 Try.underlying104 hj hy0 hy1 .i64 .i64 _ _ 0 rfl rfl rfl rfl ?_ ?_ (Nat.le_refl _) ?_)
  · omega
  · unfold maxLen; omega
  intro w1 hown hg1
  have HB := Lib.hid ((Below.refl w.heap.size w).grown hg1 (Nat.le_refl _) (fun j e => by cases e))
  clear hown hg1
  go_wp2_with fail
  refine wp_loop_rounds 1 ?_
  rw [rounds_succ]
  go_wp2_with fail
  refine wp_loop_rounds 1 ?_
  rw [rounds_succ]
  go_wp2_with fail
  refine wp_loop_rounds 1 ?_
  rw [rounds_succ]
  go_wp2_with fail
  refine wp_loop_rounds 1 ?_
  rw [rounds_succ]
  go_wp2_with fail
  go_ret
  exact ⟨rfl, HB.out⟩

theorem info173_ : (Try.prog.info? 173).map (fun i => (i.zero, i.size, i.bytes)) = some (some (.slice none 0 0), 1, 24) := by kernel_rfl
set_option maxHeartbeats 1600000 in
set_option maxRecDepth 100000 in
theorem flat_none125 (w : World) : Calls Try.prog 125 #[.slice none 0 0] w fun e w' => e = .returned (.bool true) ∧ Below w.heap.size w w' := by
  obtain ⟨i31, hj, hy0, hy1, hy2⟩ := info_parts info173_
  go_enter Try.func125, Try.ntmps125
  go_wp2_with fail
  refine wp_loop_rounds 1 ?_
  rw [rounds_succ]
  go_wp2_with (refine wpList_make_full _ rfl (.tmp 41) (.tmp 41) 105 rfl w.heap.size 173 i31 (.slice none 0 0) 1 Try.underlying105 hj hy0 hy1 .i64 .i64 _ _ 0 rfl rfl rfl rfl ?_ ?_ (Nat.le_refl _) ?_)
  · omega
  · unfold maxLen; omega
  intro w1 hown hg1
  have HB := Lib.hid ((Below.refl w.heap.size w).grown hg1 (Nat.le_refl _) (fun j e => by cases e))
  clear hown hg1
  go_wp2_with fail
  refine wp_loop_rounds 1 ?_
  rw [rounds_succ]
  go_wp2_with fail
  refine wp_loop_rounds 1 ?_
  rw [rounds_succ]
  go_wp2_with fail
  refine wp_loop_rounds 1 ?_
  rw [rounds_succ]
  go_wp2_with fail
  refine wp_loop_rounds 1 ?_
  rw [rounds_succ]
  go_wp2_with fail
  go_ret
  exact ⟨rfl, HB.out⟩
end Go.Proofs.Ytokeoodkioobdaa

/- The walk of the bag's question: are all its lists apart. -/
namespace Go.Proofs.Ytokeoodkioobdaa
open Go.RowKit

theorem Kpt.below {S : Nat → Prop} {w w' w2 : World} (h : Kpt S w w') (hl : ∀ k, S k → k < w.heap.size) (hb : Below w'.heap.size w' w2) : Kpt S w w2 :=
  h.then (hb.mono (Nat.zero_le _)) fun k hk => hb.block k (Nat.lt_of_lt_of_le (hl k hk) h.size)
theorem Kpt.trans {S : Nat → Prop} {w w' w2 : World} (h : Kpt S w w') (h2 : Kpt S w' w2) : Kpt S w w2 :=
  ⟨h2.os.trans h.os, h2.tape.trans h.tape, h2.output.trans h.output, Nat.le_trans h.size h2.size, fun k hk => (h2.block k hk).trans (h.block k hk)⟩
/-- A bag that holds lists of bytes alone. -/
structure Bag (Bg : Nat) (la : Option Addr) (N C : Nat) (w : World) : Prop where
  nil : ∀ k, k < 13 → k ≠ 5 → w.cell? ⟨Bg, k, none⟩ = some (.slice none 0 0)
  five : w.cell? ⟨Bg, 5, none⟩ = some (.slice la N C)
theorem Bag.keep {Bg : Nat} {la : Option Addr} {N C : Nat} {w w' : World} (h : Bag Bg la N C w) (hk : w'.heap[Bg]? = w.heap[Bg]?) : Bag Bg la N C w' :=
  ⟨fun k h1 h2 => (World.cell?_of_block (a := ⟨Bg, k, none⟩) hk).trans (h.nil k h1 h2), (World.cell?_of_block (a := ⟨Bg, 5, none⟩) hk).trans h.five⟩
theorem Bag.below {Bg : Nat} {la : Option Addr} {N C : Nat} {w w' : World} (h : Bag Bg la N C w) (hB : Below w.heap.size w w') : Bag Bg la N C w' :=
  h.keep (hB.block Bg (block_lt_of_cell h.five))

set_option maxHeartbeats 3200000 in
set_option maxRecDepth 100000 in
theorem apart_97 {S : Nat → Prop} {w : World} {B Bg C : Nat} {la : Option Addr} {N : Nat} {a : Nat → Option Addr} {n c : Nat → Nat} {F : Nat → Nat → Nat} (hB : B ≤ w.heap.size) (hS : Sep la N a n c) (hF : Fam B la N a n c F w) (hSl : ∀ x, S x → x < w.heap.size) (hSr : ∀ k, k < N → ∀ x, (Value.slice (a k) (n k) (c k)).ownBlock = some x → ¬ S x) (hbag : Bag Bg la N C w) (hSb : S Bg) :
    Calls Try.prog 97 #[.pointer (some ⟨Bg, 0, none⟩)] w fun e w' => e = .returned (.bool true) ∧ Kpt S w w' := by
  have HS := Lib.hid hS
  have HF0 := Lib.hid hF
  have HSl := Lib.hid hSl
  have HSr := Lib.hid hSr
  have HSb := Lib.hid hSb
  have HB0 := Lib.hid hbag
  have HK0 := Lib.hid (Kpt.refl S w)
  clear hS hF hSl hSr hSb hbag
  go_enter Try.func97, Try.ntmps97
  have k0 := HB0.out.nil 0 (by decide) (by decide)
  go_wp2_with fail
  refine (flat_none113 _).mono ?_
  rintro e w1 ⟨rfl, hb⟩
  have HB1 := Lib.hid (HB0.out.below hb)
  have HK1 := Lib.hid (HK0.out.below HSl.out hb)
  have HF1 := Lib.hid (HF0.out.frame fun g hg => ⟨fun _ _ _ _ => hb.block g hg, fun _ _ _ => hb.block g hg⟩)
  clear hb k0 HB0 HK0 HF0
  have HB0 := HB1
  have HK0 := HK1
  have HF0 := HF1
  clear HB1 HK1 HF1
  have k1 := HB0.out.nil 1 (by decide) (by decide)
  go_wp2_with fail
  refine (flat_none114 _).mono ?_
  rintro e w2 ⟨rfl, hb⟩
  have HB1 := Lib.hid (HB0.out.below hb)
  have HK1 := Lib.hid (HK0.out.below HSl.out hb)
  have HF1 := Lib.hid (HF0.out.frame fun g hg => ⟨fun _ _ _ _ => hb.block g hg, fun _ _ _ => hb.block g hg⟩)
  clear hb k1 HB0 HK0 HF0
  have HB0 := HB1
  have HK0 := HK1
  have HF0 := HF1
  clear HB1 HK1 HF1
  have k2 := HB0.out.nil 2 (by decide) (by decide)
  go_wp2_with fail
  refine (flat_none115 _).mono ?_
  rintro e w3 ⟨rfl, hb⟩
  have HB1 := Lib.hid (HB0.out.below hb)
  have HK1 := Lib.hid (HK0.out.below HSl.out hb)
  have HF1 := Lib.hid (HF0.out.frame fun g hg => ⟨fun _ _ _ _ => hb.block g hg, fun _ _ _ => hb.block g hg⟩)
  clear hb k2 HB0 HK0 HF0
  have HB0 := HB1
  have HK0 := HK1
  have HF0 := HF1
  clear HB1 HK1 HF1
  have k3 := HB0.out.nil 3 (by decide) (by decide)
  go_wp2_with fail
  refine (flat_none116 _).mono ?_
  rintro e w4 ⟨rfl, hb⟩
  have HB1 := Lib.hid (HB0.out.below hb)
  have HK1 := Lib.hid (HK0.out.below HSl.out hb)
  have HF1 := Lib.hid (HF0.out.frame fun g hg => ⟨fun _ _ _ _ => hb.block g hg, fun _ _ _ => hb.block g hg⟩)
  clear hb k3 HB0 HK0 HF0
  have HB0 := HB1
  have HK0 := HK1
  have HF0 := HF1
  clear HB1 HK1 HF1
  have k4 := HB0.out.nil 4 (by decide) (by decide)
  go_wp2_with fail
  refine (flat_none117 _).mono ?_
  rintro e w5 ⟨rfl, hb⟩
  have HB1 := Lib.hid (HB0.out.below hb)
  have HK1 := Lib.hid (HK0.out.below HSl.out hb)
  have HF1 := Lib.hid (HF0.out.frame fun g hg => ⟨fun _ _ _ _ => hb.block g hg, fun _ _ _ => hb.block g hg⟩)
  clear hb k4 HB0 HK0 HF0
  have HB0 := HB1
  have HK0 := HK1
  have HF0 := HF1
  clear HB1 HK1 HF1
  have k5 := HB0.out.five
  have hs5 : w.heap.size ≤ w5.heap.size := HK0.out.size
  go_wp2_with fail
  refine (flat_bytes (S := S) (w := w5) (by omega) HS.out HF0.out (fun x hx => Nat.lt_of_lt_of_le (HSl.out x hx) hs5) HSr.out).mono ?_
  rintro e w6 ⟨rfl, hb⟩
  have HB1 := Lib.hid (HB0.out.keep (hb.block Bg HSb.out))
  have HK1 := Lib.hid (HK0.out.trans hb)
  clear hb k5 HB0 HK0 HF0 hs5
  have HB0 := HB1
  have HK0 := HK1
  clear HB1 HK1
  have k6 := HB0.out.nil 6 (by decide) (by decide)
  go_wp2_with fail
  refine (flat_none119 _).mono ?_
  rintro e w7 ⟨rfl, hb⟩
  have HB1 := Lib.hid (HB0.out.below hb)
  have HK1 := Lib.hid (HK0.out.below HSl.out hb)
  clear hb k6 HB0 HK0
  have HB0 := HB1
  have HK0 := HK1
  clear HB1 HK1
  have k7 := HB0.out.nil 7 (by decide) (by decide)
  go_wp2_with fail
  refine (flat_none120 _).mono ?_
  rintro e w8 ⟨rfl, hb⟩
  have HB1 := Lib.hid (HB0.out.below hb)
  have HK1 := Lib.hid (HK0.out.below HSl.out hb)
  clear hb k7 HB0 HK0
  have HB0 := HB1
  have HK0 := HK1
  clear HB1 HK1
  have k8 := HB0.out.nil 8 (by decide) (by decide)
  go_wp2_with fail
  refine (flat_none121 _).mono ?_
  rintro e w9 ⟨rfl, hb⟩
  have HB1 := Lib.hid (HB0.out.below hb)
  have HK1 := Lib.hid (HK0.out.below HSl.out hb)
  clear hb k8 HB0 HK0
  have HB0 := HB1
  have HK0 := HK1
  clear HB1 HK1
  have k9 := HB0.out.nil 9 (by decide) (by decide)
  go_wp2_with fail
  refine (flat_none122 _).mono ?_
  rintro e w10 ⟨rfl, hb⟩
  have HB1 := Lib.hid (HB0.out.below hb)
  have HK1 := Lib.hid (HK0.out.below HSl.out hb)
  clear hb k9 HB0 HK0
  have HB0 := HB1
  have HK0 := HK1
  clear HB1 HK1
  have k10 := HB0.out.nil 10 (by decide) (by decide)
  go_wp2_with fail
  refine (flat_none123 _).mono ?_
  rintro e w11 ⟨rfl, hb⟩
  have HB1 := Lib.hid (HB0.out.below hb)
  have HK1 := Lib.hid (HK0.out.below HSl.out hb)
  clear hb k10 HB0 HK0
  have HB0 := HB1
  have HK0 := HK1
  clear HB1 HK1
  have k11 := HB0.out.nil 11 (by decide) (by decide)
  go_wp2_with fail
  refine (flat_none124 _).mono ?_
  rintro e w12 ⟨rfl, hb⟩
  have HB1 := Lib.hid (HB0.out.below hb)
  have HK1 := Lib.hid (HK0.out.below HSl.out hb)
  clear hb k11 HB0 HK0
  have HB0 := HB1
  have HK0 := HK1
  clear HB1 HK1
  have k12 := HB0.out.nil 12 (by decide) (by decide)
  go_wp2_with fail
  refine (flat_none125 _).mono ?_
  rintro e w13 ⟨rfl, hb⟩
  have HB1 := Lib.hid (HB0.out.below hb)
  have HK1 := Lib.hid (HK0.out.below HSl.out hb)
  clear hb k12 HB0 HK0
  have HB0 := HB1
  have HK0 := HK1
  clear HB1 HK1
  go_wp2_with fail
  go_ret
  exact ⟨rfl, HK0.out⟩
end Go.Proofs.Ytokeoodkioobdaa

/- The walk of ApartBytes: rows that are apart answer true. -/
namespace Go.Proofs.Ytokeoodkioobdaa
open Go.RowKit

def bagc (x : Value) : Array Value := #[.slice none 0 0, .slice none 0 0, .slice none 0 0, .slice none 0 0, .slice none 0 0, x, .slice none 0 0, .slice none 0 0, .slice none 0 0, .slice none 0 0, .slice none 0 0, .slice none 0 0, .slice none 0 0]
theorem cell_new31 (w : World) (v : Value) : ∀ j u, [v][j]? = some u → (w.alloc (.cells #[v] 31)).cell? ((⟨w.heap.size, 0, none⟩ : Addr).add j) = some u := by
  intro j u hu
  match j, hu with
  | 0, hu => simp at hu; subst hu; exact (cell_of_block (heap_alloc_new _ _)).trans rfl
theorem one_sl (a : Option Addr) (n c : Nat) : ∀ u ∈ [Value.slice a n c], u.oneCell' = true := by intro u hu; simp at hu; subst hu; rfl

set_option maxHeartbeats 3200000 in
set_option maxRecDepth 100000 in
theorem put_bytes {w : World} {Bg k bc n c : Nat} {ba a : Option Addr} {vs : List Value} (hb : w.heap[Bg]? = some (.cells (bagc (.slice ba k bc)) 107 (0, 0))) (ho : w.ownsRow (Bg + 1) 31 1 (.slice ba k bc) k vs) (hk : k ≤ 1000000) :
    Calls Try.prog 96 #[.pointer (some ⟨Bg, 0, none⟩), .slice a n c] w fun e w' => (∃ v, e = .returned v) ∧ ∃ ba' bc', Hid (w'.heap[Bg]? = some (.cells (bagc (.slice ba' (k + 1) bc')) 107 (0, 0))) ∧ Hid (w'.ownsRow (Bg + 1) 31 1 (.slice ba' (k + 1) bc') (k + 1) (vs ++ [.slice a n c])) ∧ Hid (Below Bg w w') := by
  obtain ⟨i31, hj, hy0, hy1, hy2⟩ := info_parts info31
  have hlt := lt_of_block hb
  have c5 : w.cell? ⟨Bg, 5, none⟩ = some (.slice ba k bc) := (cell_of_block hb).trans rfl
  have HO := Lib.hid (own_frame (w' := w.alloc (.cells #[.slice a n c] 31)) ho fun g _ hg => Below.heap_alloc w _ g hg)
  have HB := Lib.hid ((Below.heap_alloc w (.cells #[.slice a n c] 31) Bg hlt).trans hb)
  clear ho hb
  go_enter Try.func96, Try.ntmps96
  go_wp2_with (at_builtin; refine wpList_append_own3 _ rfl (.tmp 8) (.tmp 10) 51 rfl (Bg + 1) 31 i31 (.slice none 0 0) 24 Try.underlying51 hj hy0 hy1 hy2 rfl _ k vs rfl HO.out ⟨w.heap.size, 0, none⟩ 1 1 [.slice a n c] rfl rfl (cell_new31 _ _) (one_sl _ _ _) (by unfold maxLen; omega) (by omega) (by simp; omega) ?_)
  intro v7 w7 ho7 hg7 hb7 hk7
  obtain ⟨g7, c7, rfl⟩ := own_succ ho7
  have hbl := (hg7.block Bg (by simp; omega) (fun e => by have := (own_lt HO.out e.symm).1; omega)).trans HB.out
  have hfz : w7.frozen? ⟨Bg, 5, none⟩ = false := frozen_of_block hbl
  have c57 : w7.cell? ⟨Bg, 5, none⟩ = some (.slice ba k bc) := (cell_of_block hbl).trans rfl
  have HN := Lib.hid (heap_setCell_same w7 Bg 5 _ 107 (.slice (some ⟨g7, 0, none⟩) (k + 1) c7) hbl)
  have HO7 := Lib.hid (ownsRow_setCell_below (a := ⟨Bg, 5, none⟩) ho7 (Nat.lt_succ_self Bg) (.slice (some ⟨g7, 0, none⟩) (k + 1) c7))
  have HB7 := Lib.hid ((((Below.refl Bg w).alloc (by omega) (.cells #[.slice a n c] 31)).grown hg7 (by simp; omega) (fun g e => by have := (own_lt HO.out e).1; omega)).setCell (p := ⟨Bg, 5, none⟩) (Nat.le_refl _) (.slice (some ⟨g7, 0, none⟩) (k + 1) c7))
  clear ho7 hg7 hb7 hk7 hbl
  go_wp2_with fail
  go_end0
  exact ⟨⟨_, rfl⟩, _, _, HN, HO7, HB7⟩

/-- What a list of rows may keep. -/
def Old (w : World) (N : Nat) (a : Nat → Option Addr) (n c : Nat → Nat) (x : Nat) : Prop := x < w.heap.size ∧ ∀ k, k < N → (Value.slice (a k) (n k) (c k)).ownBlock ≠ some x
def rowsOf (a : Nat → Option Addr) (n c : Nat → Nat) (k : Nat) : List Value := (List.range k).map fun i => .slice (a i) (n i) (c i)
theorem rowsOf_succ (a : Nat → Option Addr) (n c : Nat → Nat) (k : Nat) : rowsOf a n c (k + 1) = rowsOf a n c k ++ [.slice (a k) (n k) (c k)] := by unfold rowsOf; rw [List.range_succ, List.map_append]; rfl
theorem bag_of {w : World} {Bg N C : Nat} {la : Option Addr} (h : w.heap[Bg]? = some (.cells (bagc (.slice la N C)) 107 (0, 0))) : Bag Bg la N C w where
  nil k h1 h2 := by
    rw [cell_of_block h]
    rcases k with _ | _ | _ | _ | _ | _ | _ | _ | _ | _ | _ | _ | _ | k
    all_goals first | rfl | exact absurd rfl h2 | omega
  five := (cell_of_block h).trans rfl
theorem fam_list {w w' : World} {B Bg N C : Nat} {la lb : Option Addr} {a : Nat → Option Addr} {n c : Nat → Nat} {F : Nat → Nat → Nat} (hF : Fam B la N a n c F w) (hk : ∀ g, g < w.heap.size → w'.heap[g]? = w.heap[g]?) (ho : w'.ownsRow (Bg + 1) 31 1 (.slice lb N C) N (rowsOf a n c N)) : Fam B lb N a n c F w' where
  cell k hlt := by
    rcases ho.2 with ⟨_, h2⟩ | ⟨g, cap, cur, e, _⟩
    · omega
    · injection e with e1 e2 e3
      subst e1
      have := ho.cells (g := g) rfl k (.slice (a k) (n k) (c k)) (by simp [rowsOf, hlt])
      exact ⟨g, 0, rfl, by rwa [Addr.add_lit] at this⟩
  own k hlt := own_frame (hF.own k hlt) fun g _ hl => hk g hl

set_option maxHeartbeats 3200000 in
set_option maxRecDepth 100000 in
theorem apart_bytes {w : World} {B C : Nat} {la : Option Addr} {N : Nat} {a : Nat → Option Addr} {n c : Nat → Nat} {F : Nat → Nat → Nat} (hB : B ≤ w.heap.size) (hS : Sep la N a n c) (hF : Fam B la N a n c F w) :
    Calls Try.prog 55 #[.slice la N C] w fun e w' => e = .returned (.bool true) ∧ Kpt (Old w N a n c) w w' := by
  have HS := Lib.hid hS
  have HF := Lib.hid hF
  have hNm := hS.count
  clear hS hF
  go_enter Try.func55, Try.ntmps55
  go_wp2_with fail
  go_loopw [4] (fun i wr => ∃ K : Nat, K ≤ N ∧ i = .int .i64 K ∧ (∃ ba bc, Hid (wr.heap[w.heap.size]? = some (.cells (bagc (.slice ba K bc)) 107 (0, 0))) ∧ Hid (wr.ownsRow (w.heap.size + 1) 31 1 (.slice ba K bc) K (rowsOf a n c K))) ∧ Hid (Below w.heap.size w wr)) (fun i _ => N - (intOf i).toNat)
  case atStart => exact ⟨0, Nat.zero_le _, rfl, ⟨none, 0, heap_alloc_new _ _, ⟨rfl, .inl ⟨rfl, rfl⟩⟩⟩, (Below.refl _ _).alloc (Nat.le_refl _) _⟩
  case round =>
    obtain ⟨K, hK, rfl, ⟨ba, bc, HB, HO⟩, HB1⟩ := hrel
    by_cases hK1 : K < N
    · obtain ⟨b1, o1, e1, hc1⟩ := (HF.out.frame (w' := wr) fun g hg => ⟨fun _ _ _ _ => HB1.out.block g hg, fun _ _ _ => HB1.out.block g hg⟩).cell K hK1
      subst e1
      have h96 := put_bytes (a := a K) (n := n K) (c := c K) HB.out HO.out (by omega)
      have H96 := Lib.hid h96
      clear h96
      go_wp2_with fail
      refine H96.out.mono ?_
      rintro e w2 ⟨⟨v2, rfl⟩, ba2, bc2, HB2, HO2, HBl2⟩
      rw [← rowsOf_succ] at HO2
      go_wp2_with fail
      go_roundw
      case rel => exact ⟨K + 1, by omega, by go_num, ⟨_, _, HB2, HO2⟩, HB1.out.trans HBl2.out⟩
      case measure => simp [intOf]; omega
    · have e : N = K := by omega
      subst e
      have hszr : w.heap.size ≤ wr.heap.size := HB1.out.size
      have hbg := lt_of_block HB.out
      have hf := fam_list HF.out (fun g hg => HB1.out.block g hg) HO.out
      have hs : Sep ba N a n c := ⟨HS.out.unl, fun b o k e hk he => by
        subst e
        have h1 : w.heap.size + 1 ≤ b := (own_lt HO.out rfl).1
        have h2 := (own_lt (HF.out.own k hk) he).2
        omega, HS.out.most, HS.out.count⟩
      have h97 := apart_97 (S := fun x => Old w N a n c x ∨ x = w.heap.size) (Bg := w.heap.size) (by omega) hs hf
        (fun x hx => hx.elim (fun hx => Nat.lt_of_lt_of_le hx.1 hszr) (fun hx => by omega))
        (fun k hk x hx hS => hS.elim (fun hS => hS.2 k hk hx) (fun hS => by have := (own_lt (HF.out.own k hk) hx).2; omega)) (bag_of HB.out) (.inr rfl)
      have H97 := Lib.hid h97
      clear h97 hs hf
      go_wp2_with fail
      refine H97.out.mono ?_
      rintro e w2 ⟨rfl, hk⟩
      have HK := Lib.hid hk
      clear hk
      go_wp2_with fail
      go_ret
      exact ⟨rfl, ⟨HK.out.os.trans HB1.out.os, HK.out.tape.trans HB1.out.tape, HK.out.output.trans HB1.out.output, Nat.le_trans hszr HK.out.size, fun x hx => (HK.out.block x (.inl hx)).trans (HB1.out.block x hx.1)⟩⟩
end Go.Proofs.Ytokeoodkioobdaa
