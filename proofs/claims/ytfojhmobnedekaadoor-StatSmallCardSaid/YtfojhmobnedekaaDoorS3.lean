/- The walks of stat's table: a stat's counts and their words. No condition. -/
import Derived.Test.YtfojhmobnedekaaDoorS2
import Derived.Deep.AppendLies
import Derived.Deep.RegionLaw
namespace Go.Proofs.YtfojhmobnedekaaDoor
open Go.RowKit

/-- The words of the counts, and where they stand. -/
def wl : List (List UInt8) := [[102, 114, 97, 109, 101, 115], [115, 101, 110, 116], [99, 97, 109, 101], [115, 116, 111, 114, 101, 100], [115, 104, 97, 112, 101], [97, 108, 105, 101, 110], [108, 97, 116, 101], [111, 100, 100], [116, 119, 105, 99, 101], [102, 117, 108, 108], [119, 104, 111, 108, 101], [101, 120, 112, 105, 114, 101, 100], [99, 114, 111, 119, 100, 101, 100], [116, 111, 108, 100], [104, 101, 97, 114, 100], [117, 110, 104, 101, 97, 114, 100], [102, 111, 114, 103, 111, 116]]
def ol : List Nat := [0, 1, 2, 4, 5, 6, 7, 8, 9, 10, 12, 13, 14, 15, 16, 17, 18]
def wd (k : Nat) : ByteArray := ⟨(wl[k]?.getD []).toArray⟩
def of_ (k : Nat) : Nat := ol[k]?.getD 0
/-- The cells of the first k entries. -/
def tcs (b k : Nat) : List Value := (List.range k).flatMap fun i => [.string (wd i), .pointer (some ⟨b, of_ i, none⟩)]
theorem tcs_succ (b k : Nat) : tcs b (k + 1) = tcs b k ++ [.string (wd k), .pointer (some ⟨b, of_ k, none⟩)] := by unfold tcs; rw [List.range_succ, List.flatMap_append]; rfl
theorem length_tcs (b : Nat) : ∀ k, (tcs b k).length = k * 2
  | 0 => rfl
  | k + 1 => by rw [tcs_succ, List.length_append, length_tcs b k]; simp; omega

theorem tcs_get0 (b : Nat) : ∀ n k, k < n → (tcs b n)[k * 2]? = some (.string (wd k))
  | n + 1, k, h => by
    rw [tcs_succ]
    by_cases e : k < n
    · rw [List.getElem?_append_left (by rw [length_tcs]; omega)]; exact tcs_get0 b n k e
    · obtain rfl : k = n := by omega
      rw [List.getElem?_append_right (by rw [length_tcs]; exact Nat.le_refl _), length_tcs, Nat.sub_self]; rfl
theorem tcs_get1 (b : Nat) : ∀ n k, k < n → (tcs b n)[k * 2 + 1]? = some (.pointer (some ⟨b, of_ k, none⟩))
  | n + 1, k, h => by
    rw [tcs_succ]
    by_cases e : k < n
    · rw [List.getElem?_append_left (by rw [length_tcs]; omega)]; exact tcs_get1 b n k e
    · obtain rfl : k = n := by omega
      rw [List.getElem?_append_right (by rw [length_tcs]; omega), length_tcs, show k * 2 + 1 - k * 2 = 1 by omega]; rfl
/-- The first k entries, in a row of their own; the slice of them in a box. -/
def TabAt (w0 W : World) (b k bx : Nat) : Prop := ∃ g cap, W.heap[bx]? = some (.cells #[.slice (some ⟨g, 0, none⟩) k cap] 81 (0, 0)) ∧ W.ownsRow w0.heap.size 63 2 (.slice (some ⟨g, 0, none⟩) k cap) k (tcs b k) ∧ w0.heap.size ≤ bx ∧ bx ≠ g ∧ w0.heap.size ≤ g ∧ Below w0.heap.size w0 W
theorem ownsRow_new {W : World} {base g n cap : Nat} {e : TypeId} {size : Nat} {xs : List Value} (hg : W.heap[g]? = some (.cells xs.toArray e (0, 0))) (hb : base ≤ g) (hx : xs.length = n * size) (hc : cap = n) (hm : n ≤ maxLen) : W.ownsRow base e size (.slice (some ⟨g, 0, none⟩) n cap) n xs := by
  subst hc
  exact ⟨hx, .inr ⟨g, cap, xs.toArray, rfl, hb, hg, Nat.le_refl _, hm, by simp [hx], by rw [← hx]; simp⟩⟩
theorem tab_start1 (w : World) (b : Nat) : TabAt w ((w.alloc (.cells (tcs b 3).toArray 63)).alloc (.cells #[.slice (some ⟨w.heap.size, 0, none⟩) 3 3] 81)).drew b 3 (w.heap.size + 1) := by
  have h1 := heap_alloc_new (w.alloc (.cells (tcs b 3).toArray 63)) (.cells #[.slice (some ⟨w.heap.size, 0, none⟩) 3 3] 81)
  rw [World.size_alloc] at h1
  have h2 := heap_alloc_new w (.cells (tcs b 3).toArray 63)
  have h3 : ((w.alloc (.cells (tcs b 3).toArray 63)).alloc (.cells #[.slice (some ⟨w.heap.size, 0, none⟩) 3 3] 81)).heap[w.heap.size]? = some (.cells (tcs b 3).toArray 63 (0, 0)) :=
    (((Below.refl (w.alloc (.cells (tcs b 3).toArray 63)).heap.size _).alloc (Nat.le_refl _) _).block w.heap.size (by simp)).trans h2
  exact ⟨w.heap.size, 3, h1, ownsRow_new h3 (Nat.le_refl _) (length_tcs b 3) rfl (by decide), by omega, by omega, Nat.le_refl _, (((Below.refl _ _).alloc (Nat.le_refl _) _).alloc (by simp) _).drew⟩
theorem tab_start2 (w : World) (b : Nat) : TabAt w ((w.alloc (.cells #[.slice (some ⟨w.heap.size + 1, 0, none⟩) 3 3] 81)).alloc (.cells (tcs b 3).toArray 63)).drew b 3 w.heap.size := by
  have h1 := heap_alloc_new (w.alloc (.cells #[.slice (some ⟨w.heap.size + 1, 0, none⟩) 3 3] 81)) (.cells (tcs b 3).toArray 63)
  rw [World.size_alloc] at h1
  have h2 := heap_alloc_new w (.cells #[.slice (some ⟨w.heap.size + 1, 0, none⟩) 3 3] 81)
  have h3 : ((w.alloc (.cells #[.slice (some ⟨w.heap.size + 1, 0, none⟩) 3 3] 81)).alloc (.cells (tcs b 3).toArray 63)).heap[w.heap.size]? = some (.cells #[.slice (some ⟨w.heap.size + 1, 0, none⟩) 3 3] 81 (0, 0)) :=
    (((Below.refl (w.alloc (.cells #[.slice (some ⟨w.heap.size + 1, 0, none⟩) 3 3] 81)).heap.size _).alloc (Nat.le_refl _) _).block w.heap.size (by simp)).trans h2
  exact ⟨w.heap.size + 1, 3, h3, ownsRow_new h1 (by omega) (length_tcs b 3) rfl (by decide), Nat.le_refl _, by omega, by omega, (((Below.refl _ _).alloc (Nat.le_refl _) _).alloc (by simp) _).drew⟩
theorem info63 : (Tryd.prog.info? 63).map (fun i => (i.zero, i.size, i.bytes)) = some (some (.agg #[.string ⟨#[]⟩, .pointer none]), 2, 24) := by kernel_rfl
/-- One entry, or some, behind the others. -/
theorem tab_grow {w0 W w1 : World} {b k m bx g cap g' cap' : Nat} (hbox : W.heap[bx]? = some (.cells #[.slice (some ⟨g, 0, none⟩) k cap] 81 (0, 0))) (hB : Below w0.heap.size w0 W) (h1 : w0.heap.size ≤ bx) (h2 : bx ≠ g) (h3 : w0.heap.size ≤ g)
    (hown : w1.ownsRow w0.heap.size 63 2 (.slice (some ⟨g', 0, none⟩) m cap') m (tcs b m)) (hgrow : W.grownBy w1 (some g)) (hat : g = g' ∨ g' = W.heap.size) : TabAt w0 (w1.setCell ⟨bx, 0, none⟩ (.slice (some ⟨g', 0, none⟩) m cap')) b m bx := by
  have hlt : bx < W.heap.size := (Array.getElem?_eq_some_iff.1 hbox).1
  have hb1 : w1.heap[bx]? = some (.cells #[.slice (some ⟨g, 0, none⟩) k cap] 81 (0, 0)) := (hgrow.block bx hlt (by simp; omega)).trans hbox
  have hne : bx ≠ g' := by rcases hat with e | e <;> omega
  have h5 : w0.heap.size ≤ g' := by have := hB.size; rcases hat with e | e <;> omega
  refine ⟨g', cap', heap_setCell_same w1 bx 0 _ 81 _ hb1, ownsRow_setCell_other hown (a := ⟨bx, 0, none⟩) (by simp [Value.ownBlock]; omega) _, h1, hne, h5, ?_⟩
  exact (hB.grown hgrow hB.size (fun j e => by cases e; exact h3)).setCell (p := ⟨bx, 0, none⟩) h1 _
theorem of7 (k : Nat) (hk : k < 7) : of_ (3 + k) = 3 + (k + 1) := by
  have : k = 0 ∨ k = 1 ∨ k = 2 ∨ k = 3 ∨ k = 4 ∨ k = 5 ∨ k = 6 := by omega
  rcases this with rfl | rfl | rfl | rfl | rfl | rfl | rfl <;> rfl
theorem of3 (k : Nat) (hk : k < 3) : of_ (10 + k) = 11 + (k + 1) := by
  have : k = 0 ∨ k = 1 ∨ k = 2 := by omega
  rcases this with rfl | rfl | rfl <;> rfl
def last4 (b : Nat) : List Value := [.string (wd 13), .pointer (some ⟨b, 15, none⟩), .string (wd 14), .pointer (some ⟨b, 16, none⟩), .string (wd 15), .pointer (some ⟨b, 17, none⟩), .string (wd 16), .pointer (some ⟨b, 18, none⟩)]
theorem last_tcs (b : Nat) : tcs b 17 = tcs b 13 ++ last4 b := rfl
theorem tcs_add {b n o : Nat} {x : List Value} (h : x = tcs b n ++ [.string (wd n), .pointer (some ⟨b, of_ n, none⟩)]) (ho : of_ n = o) : x = tcs b n ++ [.string (wd n), .pointer (some ⟨b, o, none⟩)] := by rw [h, ho]
theorem index7 (k : Nat) (hk : k < 7) (w : World) : (Instr.index 82 (.agg #[.string ⟨#[115, 116, 111, 114, 101, 100]⟩, .string ⟨#[115, 104, 97, 112, 101]⟩, .string ⟨#[97, 108, 105, 101, 110]⟩, .string ⟨#[108, 97, 116, 101]⟩, .string ⟨#[111, 100, 100]⟩, .string ⟨#[116, 119, 105, 99, 101]⟩, .string ⟨#[102, 117, 108, 108]⟩]) (.int .i64 k)).run Tryd.prog w = .ok (.string (wd (3 + k))) w := by
  have : k = 0 ∨ k = 1 ∨ k = 2 ∨ k = 3 ∨ k = 4 ∨ k = 5 ∨ k = 6 := by omega
  rcases this with rfl | rfl | rfl | rfl | rfl | rfl | rfl <;> (show _ = _; kernel_rfl)
theorem index3 (k : Nat) (hk : k < 3) (w : World) : (Instr.index 83 (.agg #[.string ⟨#[119, 104, 111, 108, 101]⟩, .string ⟨#[101, 120, 112, 105, 114, 101, 100]⟩, .string ⟨#[99, 114, 111, 119, 100, 101, 100]⟩]) (.int .i64 k)).run Tryd.prog w = .ok (.string (wd (10 + k))) w := by
  have : k = 0 ∨ k = 1 ∨ k = 2 := by omega
  rcases this with rfl | rfl | rfl <;> (show _ = _; kernel_rfl)
set_option maxRecDepth 100000 in
set_option maxHeartbeats 4000000 in
theorem table_any {w : World} {b : Nat} {v : Nat → Int} (h : StAt 25 w b v) :
    Calls Tryd.prog 28 #[.pointer (some ⟨b, 0, none⟩)] w fun e w' => ∃ bx, e = .returned (.func (.func 39) #[] #[.pointer (some ⟨bx, 0, none⟩)]) ∧ TabAt w w' b 17 bx := by
  obtain ⟨i0, hi, hz0, hz1, hz2⟩ := info_parts info63
  have c0 := h.cell (k := 0) (by omega)
  have hlt := h.lt
  have H := Lib.hid h
  clear h
  go_enter Tryd.func28, Tryd.ntmps28
  go_upto_region 1 with fail
  go_cut [3] from 8 to 21 (fun s3 wx => ∃ bx, s3 = .pointer (some ⟨bx, 0, none⟩) ∧ Hid (TabAt w wx b 3 bx))
  case first =>
    go_region
    · go_wp2_with fail
      go_meet
      exact ⟨_, rfl, tab_start1 w b⟩
    · go_wp2_with fail
      go_meet
      exact ⟨_, rfl, tab_start2 w b⟩
  obtain ⟨bx, rfl, HT⟩ := hcut
  clear c0
  go_wp2_with fail
  go_loopw [4, 5, 22] (fun _ _ i wr => ∃ k : Nat, k ≤ 7 ∧ i = .int .i64 k ∧ Hid (TabAt w wr b (3 + k) bx)) (fun _ _ i _ => 7 - (intOf i).toNat)
  case atStart => exact ⟨0, Nat.zero_le _, rfl, HT⟩
  case round =>
    clear HT
    obtain ⟨k, hk, rfl, HT⟩ := hrel
    by_cases hk1 : k < 7
    · have hix := index7 k hk1
      obtain ⟨g, cap, hbox, hown, h1, h2, h3, hB⟩ := HT.out
      have cb : wr.cell? ⟨bx, 0, none⟩ = some (.slice (some ⟨g, 0, none⟩) (3 + k) cap) := (cell_of_block hbox).trans rfl
      have HBOX := Lib.hid hbox
      have HO := Lib.hid hown
      have HB := Lib.hid hB
      clear hbox hown hB
      have HTS := Lib.hid (tcs_add (b := b) (tcs_succ b (3 + k)) (of7 k hk1))
      generalize wd (3 + k) = s5 at *
      have HO1 := Lib.hid ((HO.out.alloc (.cells #[.string s5, .pointer (some ⟨b, 3 + (k + 1), none⟩)] 63)).drew)
      have hsz : bx < wr.heap.size := (Array.getElem?_eq_some_iff.1 HBOX.out).1
      have hsw := HB.out.size
      have HBA := Lib.hid (((Below.refl wr.heap.size wr).alloc (Nat.le_refl _) (.cells #[.string s5, .pointer (some ⟨b, 3 + (k + 1), none⟩)] 63)).drew)
      have HCB := Lib.hid ((HBA.out.block bx hsz).trans HBOX.out)
      have h1n : some bx ≠ (Value.slice (some ⟨g, 0, none⟩) (3 + k) cap).ownBlock := by simp [Value.ownBlock]; omega
      have HNE := Lib.hid h1n
      clear h1n
      have q0 : decide ((k : Int) < 7) = true := by simp; omega
      go_wp2_with fail
      have q2 : (0 : Int) ≤ (k : Int) + 1 := by omega
      have q3 : (k : Int) + 1 < 8 := by omega
      have q4 : ((k : Int) + 1).toNat = k + 1 := by omega
      have q1 : IntKind.i64.wrap ((k : Int) + 1) = (k : Int) + 1 := IntWalk.i64_in _ (by omega)
      go_region_law (refine step_append_lies _ (by rfl) _ _ _ (by rfl) w.heap.size 63 i0 _ 2 24 Tryd.underlying81 hi hz0 hz1 hz2 rfl (by omega) (.slice (some ⟨g, 0, none⟩) (3 + k) cap) (3 + k) (tcs b (3 + k)) (by rfl) HO1.out ⟨wr.heap.size, 0, none⟩ 1 1 [.string s5, .pointer (some ⟨b, 3 + (k + 1), none⟩)] (by rfl) (by rfl) (World.news_of_block (cs := #[.string s5, .pointer (some ⟨b, 3 + (k + 1), none⟩)]) (t := 63) (fr := (0, 0)) (heap_alloc_new wr _)) (by simp [Value.oneCell']) (by omega) (by unfold maxLen; omega) (by omega) (by simp; omega) (wr.heap.size + 1) (by simp) ?_; intro gg cap2 w6 hown1 hgrow hat hlt6; have hb6 : w6.heap[bx]? = some (.cells #[.slice (some ⟨g, 0, none⟩) (3 + k) cap] 81 (0, 0)) := (hgrow.block bx (by simp; omega) HNE.out).trans HCB.out; have hc6 : w6.cell? ⟨bx, 0, none⟩ = some (.slice (some ⟨g, 0, none⟩) (3 + k) cap) := (cell_of_block hb6).trans rfl; have hf6 : w6.frozen? ⟨bx, 0, none⟩ = false := frozen_of_block hb6; have HO6 := Lib.hid hown1; have HG6 := Lib.hid hgrow; have HA6 := Lib.hid hat; clear hown1 hat hb6)
      all_goals go_wp2_with fail
      all_goals go_roundw
      case rel => exact ⟨k + 1, by omega, by go_num, tab_grow HCB.out ((HB.out.alloc hsw _).drew) h1 h2 h3 (by rw [HTS.out]; exact HO6.out) HG6.out (HA6.out.imp (fun e => by injection e) (fun e => by simpa using e))⟩
      case measure => simp [intOf]; omega
      case rel => exact ⟨k + 1, by omega, by go_num, tab_grow HCB.out ((HB.out.alloc hsw _).drew) h1 h2 h3 (by rw [HTS.out]; exact HO6.out) HG6.out (HA6.out.imp (fun e => by injection e) (fun e => by simpa using e))⟩
      case measure => simp [intOf]; omega
    · obtain rfl : k = 7 := by omega
      simp only [show ((7 : Nat) : Int) = 7 from rfl]
      go_wp2_with fail
      go_loopw [6, 7, 39] (fun _ _ i wr => ∃ k : Nat, k ≤ 3 ∧ i = .int .i64 k ∧ Hid (TabAt w wr b (10 + k) bx)) (fun _ _ i _ => 3 - (intOf i).toNat)
      case atStart => exact ⟨0, Nat.zero_le _, rfl, HT⟩
      case round =>
        clear HT
        obtain ⟨k, hk, rfl, HT⟩ := hrel
        by_cases hk1 : k < 3
        · have hix := index3 k hk1
          obtain ⟨g, cap, hbox, hown, h1, h2, h3, hB⟩ := HT.out
          have cb : wr.cell? ⟨bx, 0, none⟩ = some (.slice (some ⟨g, 0, none⟩) (10 + k) cap) := (cell_of_block hbox).trans rfl
          have HBOX := Lib.hid hbox
          have HO := Lib.hid hown
          have HB := Lib.hid hB
          clear hbox hown hB
          have HTS := Lib.hid (tcs_add (b := b) (tcs_succ b (10 + k)) (of3 k hk1))
          generalize wd (10 + k) = s5 at *
          have HO1 := Lib.hid ((HO.out.alloc (.cells #[.string s5, .pointer (some ⟨b, 11 + (k + 1), none⟩)] 63)).drew)
          have hsz : bx < wr.heap.size := (Array.getElem?_eq_some_iff.1 HBOX.out).1
          have hsw := HB.out.size
          have HBA := Lib.hid (((Below.refl wr.heap.size wr).alloc (Nat.le_refl _) (.cells #[.string s5, .pointer (some ⟨b, 11 + (k + 1), none⟩)] 63)).drew)
          have HCB := Lib.hid ((HBA.out.block bx hsz).trans HBOX.out)
          have h1n : some bx ≠ (Value.slice (some ⟨g, 0, none⟩) (10 + k) cap).ownBlock := by simp [Value.ownBlock]; omega
          have HNE := Lib.hid h1n
          clear h1n
          have q0 : decide ((k : Int) < 3) = true := by simp; omega
          go_wp2_with fail
          have q2 : (0 : Int) ≤ (k : Int) + 1 := by omega
          have q3 : (k : Int) + 1 < 4 := by omega
          have q4 : ((k : Int) + 1).toNat = k + 1 := by omega
          have q1 : IntKind.i64.wrap ((k : Int) + 1) = (k : Int) + 1 := IntWalk.i64_in _ (by omega)
          go_region_law (refine step_append_lies _ (by rfl) _ _ _ (by rfl) w.heap.size 63 i0 _ 2 24 Tryd.underlying81 hi hz0 hz1 hz2 rfl (by omega) (.slice (some ⟨g, 0, none⟩) (10 + k) cap) (10 + k) (tcs b (10 + k)) (by rfl) HO1.out ⟨wr.heap.size, 0, none⟩ 1 1 [.string s5, .pointer (some ⟨b, 11 + (k + 1), none⟩)] (by rfl) (by rfl) (World.news_of_block (cs := #[.string s5, .pointer (some ⟨b, 11 + (k + 1), none⟩)]) (t := 63) (fr := (0, 0)) (heap_alloc_new wr _)) (by simp [Value.oneCell']) (by omega) (by unfold maxLen; omega) (by omega) (by simp; omega) (wr.heap.size + 1) (by simp) ?_; intro gg cap2 w6 hown1 hgrow hat hlt6; have hb6 : w6.heap[bx]? = some (.cells #[.slice (some ⟨g, 0, none⟩) (10 + k) cap] 81 (0, 0)) := (hgrow.block bx (by simp; omega) HNE.out).trans HCB.out; have hc6 : w6.cell? ⟨bx, 0, none⟩ = some (.slice (some ⟨g, 0, none⟩) (10 + k) cap) := (cell_of_block hb6).trans rfl; have hf6 : w6.frozen? ⟨bx, 0, none⟩ = false := frozen_of_block hb6; have HO6 := Lib.hid hown1; have HG6 := Lib.hid hgrow; have HA6 := Lib.hid hat; clear hown1 hat hb6)
          all_goals go_wp2_with fail
          all_goals go_roundw
          case rel => exact ⟨k + 1, by omega, by go_num, tab_grow HCB.out ((HB.out.alloc hsw _).drew) h1 h2 h3 (by rw [HTS.out]; exact HO6.out) HG6.out (HA6.out.imp (fun e => by injection e) (fun e => by simpa using e))⟩
          case measure => simp [intOf]; omega
          case rel => exact ⟨k + 1, by omega, by go_num, tab_grow HCB.out ((HB.out.alloc hsw _).drew) h1 h2 h3 (by rw [HTS.out]; exact HO6.out) HG6.out (HA6.out.imp (fun e => by injection e) (fun e => by simpa using e))⟩
          case measure => simp [intOf]; omega
        · obtain rfl : k = 3 := by omega
          simp only [show ((3 : Nat) : Int) = 3 from rfl]
          obtain ⟨g, cap, hbox, hown, h1, h2, h3, hB⟩ := HT.out
          have cb : wr.cell? ⟨bx, 0, none⟩ = some (.slice (some ⟨g, 0, none⟩) 13 cap) := (cell_of_block hbox).trans rfl
          have HBOX := Lib.hid hbox
          have HO := Lib.hid hown
          have HB := Lib.hid hB
          clear hbox hown hB
          have HO1 := Lib.hid ((HO.out.alloc (.cells (last4 b).toArray 63)).drew)
          have hsz : bx < wr.heap.size := (Array.getElem?_eq_some_iff.1 HBOX.out).1
          have hsw := HB.out.size
          have HBA := Lib.hid (((Below.refl wr.heap.size wr).alloc (Nat.le_refl _) (.cells (last4 b).toArray 63)).drew)
          have HCB := Lib.hid ((HBA.out.block bx hsz).trans HBOX.out)
          have h1n : some bx ≠ (Value.slice (some ⟨g, 0, none⟩) 13 cap).ownBlock := by simp [Value.ownBlock]; omega
          have HNE := Lib.hid h1n
          clear h1n
          go_upto_region 12 with fail
          go_region_law (refine step_append_lies _ (by rfl) _ _ _ (by rfl) w.heap.size 63 i0 _ 2 24 Tryd.underlying81 hi hz0 hz1 hz2 rfl (by omega) (.slice (some ⟨g, 0, none⟩) 13 cap) 13 (tcs b 13) (by rfl) HO1.out ⟨wr.heap.size, 0, none⟩ 4 4 (last4 b) (by rfl) (by rfl) (World.news_of_block (cs := (last4 b).toArray) (t := 63) (fr := (0, 0)) (heap_alloc_new wr _)) (by simp [last4, Value.oneCell']) (by omega) (by decide) (by omega) (by simp; omega) (wr.heap.size + 1) (by simp) ?_; intro gg cap2 w6 hown1 hgrow hat hlt6; have hb6 : w6.heap[bx]? = some (.cells #[.slice (some ⟨g, 0, none⟩) 13 cap] 81 (0, 0)) := (hgrow.block bx (by simp; omega) HNE.out).trans HCB.out; have hc6 : w6.cell? ⟨bx, 0, none⟩ = some (.slice (some ⟨g, 0, none⟩) 13 cap) := (cell_of_block hb6).trans rfl; have hf6 : w6.frozen? ⟨bx, 0, none⟩ = false := frozen_of_block hb6; have HO6 := Lib.hid hown1; have HG6 := Lib.hid hgrow; have HA6 := Lib.hid hat; clear hown1 hat hb6)
          all_goals
            go_wp2_with fail
            go_ret
            exact ⟨bx, rfl, tab_grow HCB.out ((HB.out.alloc hsw _).drew) h1 h2 h3 (by rw [last_tcs]; exact HO6.out) HG6.out (HA6.out.imp (fun e => by injection e) (fun e => by simpa using e))⟩
end Go.Proofs.YtfojhmobnedekaaDoor
