/- Lists of rows: read, and owned; an append of a row onto an owned list; the walk of SameRows at lists that are alike. Conditions: rows are shorter than 2 to the 47. -/
import Derived.Test.YtokeoodkioobdaaLagr8
import Derived.Deep.RegionHeld3
namespace Go.Proofs.Ytokeoodkioobdaa
open Go.RowKit

/-- A list of rows that can be read. -/
structure RR (w : World) (v : Value) (N : Nat) (X : Nat → List Nat) : Prop where
  shape : ∃ a c, v = .slice a N c ∧ ∀ k, k < N → ∃ b o a1 n1 c1, a = some ⟨b, o, none⟩ ∧ w.cell? ⟨b, o + k, none⟩ = some (.slice a1 n1 c1) ∧ RB w a1 n1 c1 (X k)
theorem RR.below {w w' : World} {v : Value} {N : Nat} {X : Nat → List Nat} (h : RR w v N X) (hB : Below w.heap.size w w') : RR w' v N X := by
  obtain ⟨a, c, rfl, hk⟩ := h.shape
  refine ⟨a, c, rfl, fun k hk1 => ?_⟩
  obtain ⟨b, o, a1, n1, c1, e, hc, hr⟩ := hk k hk1
  exact ⟨b, o, a1, n1, c1, e, (hB.cell (block_lt_of_cell hc)).trans hc, hr.below hB⟩
theorem RR.drewN {w : World} {v : Value} {N : Nat} {X : Nat → List Nat} (h : RR w v N X) (q : Nat) : RR (w.drewN q) v N X := h.below (below_drewN (Below.refl _ _) q)
theorem RR.drawn {w w' : World} {v : Value} {N : Nat} {X : Nat → List Nat} (h : RR w v N X) (hD : Drawn w w') : RR w' v N X := by obtain ⟨q, rfl⟩ := hD; exact h.drewN q

/-- Rows, each in a block of its own element type. -/
def RowsAt (w : World) (B N : Nat) (vs : List Value) (X : Nat → List Nat) : Prop := ∀ i, i < N → ∃ a n c, vs[i]? = some (.slice a n c) ∧ w.ownsRow B 5 1 (.slice a n c) n (bs (X i))
/-- A list of rows that the call owns. -/
def TabAt (w : World) (B : Nat) (v : Value) (N : Nat) (X : Nat → List Nat) : Prop := ∃ vs, w.ownsRow B 31 1 v N vs ∧ RowsAt w B N vs X

theorem unl_types {w : World} {B B' n n' : Nat} {e e' : TypeId} {v v' : Value} {xs xs' : List Value} (hne : e ≠ e') (h : w.ownsRow B e 1 v n xs) (h' : w.ownsRow B' e' 1 v' n' xs') : Unl v v' := by
  intro g e1 e2
  rcases h.2 with ⟨rfl, _⟩ | ⟨g1, cap, cur, rfl, hb, hh, _⟩
  · cases e1
  · rcases h'.2 with ⟨rfl, _⟩ | ⟨g2, cap2, cur2, rfl, hb2, hh2, _⟩
    · cases e2
    · injection e1 with e1
      injection e2 with e2
      subst e1; subst e2
      rw [hh] at hh2
      injection hh2 with hh2
      injection hh2 with _ h3 _
      exact hne h3
theorem own_below' {w w' : World} {B n : Nat} {e : TypeId} {v : Value} {xs : List Value} (h : w.ownsRow B e 1 v n xs) (hB : Below w.heap.size w w') : w'.ownsRow B e 1 v n xs :=
  own_frame h fun g _ hg => hB.block g hg
theorem RowsAt.below {w w' : World} {B N : Nat} {vs : List Value} {X : Nat → List Nat} (h : RowsAt w B N vs X) (hB : Below w.heap.size w w') : RowsAt w' B N vs X := fun i hi => by
  obtain ⟨a, n, c, e, ho⟩ := h i hi
  exact ⟨a, n, c, e, own_below ho hB⟩
theorem TabAt.below {w w' : World} {B N : Nat} {v : Value} {X : Nat → List Nat} (h : TabAt w B v N X) (hB : Below w.heap.size w w') : TabAt w' B v N X := by
  obtain ⟨vs, h1, h2⟩ := h
  exact ⟨vs, own_below' h1 hB, h2.below hB⟩
theorem TabAt.nil (w : World) (B : Nat) (X : Nat → List Nat) : TabAt w B (.slice none 0 0) 0 X := ⟨[], ⟨rfl, .inl ⟨rfl, rfl⟩⟩, fun i hi => absurd hi (by omega)⟩
theorem TabAt.slice {w : World} {B N : Nat} {v : Value} {X : Nat → List Nat} (h : TabAt w B v N X) : ∃ a c, v = .slice a N c := by
  obtain ⟨vs, h1, h2⟩ := h
  rcases h1.2 with ⟨rfl, rfl⟩ | ⟨g, cap, cur, rfl, _⟩
  · exact ⟨_, _, rfl⟩
  · exact ⟨_, _, rfl⟩
theorem TabAt.mono {w : World} {B B' N : Nat} {v : Value} {X : Nat → List Nat} (h : TabAt w B v N X) (hb : B' ≤ B) : TabAt w B' v N X := by
  obtain ⟨vs, ⟨h1, h2⟩, h3⟩ := h
  refine ⟨vs, ⟨h1, ?_⟩, fun i hi => ?_⟩
  · rcases h2 with h2 | ⟨g, cap, cur, rfl, hg, hh, hn⟩
    · exact .inl h2
    · exact .inr ⟨g, cap, cur, rfl, Nat.le_trans hb hg, hh, hn⟩
  · obtain ⟨a, n, c, e, ho⟩ := h3 i hi
    exact ⟨a, n, c, e, own_mono ho hb⟩
/-- Behind an append of a row. -/
theorem TabAt.put {w w' : World} {B N n c : Nat} {a : Option Addr} {v v' : Value} {X : Nat → List Nat} {vs : List Value} (hv : w.ownsRow B 31 1 v N vs) (hr : RowsAt w B N vs X) (ho : w.ownsRow B 5 1 (.slice a n c) n (bs (X N)))
    (hv' : w'.ownsRow B 31 1 v' (N + 1) (vs ++ [.slice a n c])) (hk : KeepRows w w' v N) : TabAt w' B v' (N + 1) X := by
  refine ⟨_, hv', fun i hi => ?_⟩
  have hl : vs.length = N := by have := hv.1; rwa [Nat.mul_one] at this
  by_cases h : i < N
  · obtain ⟨a1, n1, c1, e, ho1⟩ := hr i h
    exact ⟨a1, n1, c1, by rw [List.getElem?_append_left (by omega)]; exact e, hk _ _ _ _ _ ho1 (.inr (unl_types (by decide) ho1 hv))⟩
  · obtain rfl : i = N := by omega
    exact ⟨a, n, c, by rw [List.getElem?_append_right (by omega), hl, Nat.sub_self]; rfl, hk _ _ _ _ _ ho (.inr (unl_types (by decide) ho hv))⟩
theorem TabAt.rr {w : World} {B N : Nat} {v : Value} {X : Nat → List Nat} (h : TabAt w B v N X) (hs : ∀ i, i < N → Small (X i) ∧ (X i).length ≤ 100000) : RR w v N X := by
  obtain ⟨vs, h1, h2⟩ := h
  rcases h1.2 with ⟨rfl, rfl⟩ | ⟨g, cap, cur, rfl, hb, hh, hn⟩
  · exact ⟨none, 0, rfl, fun k hk => absurd hk (by omega)⟩
  · refine ⟨_, cap, rfl, fun k hk => ?_⟩
    obtain ⟨a1, n1, c1, e, ho⟩ := h2 k hk
    have hc := h1.cells (g := g) rfl k _ e
    rw [Addr.add_lit] at hc
    have hl := own_len ho
    exact ⟨g, 0, a1, n1, c1, rfl, hc, own_rb2 ho (hs k hk).1 (by have := (hs k hk).2; omega)⟩

set_option maxHeartbeats 1600000 in
set_option maxRecDepth 100000 in
theorem rows_same {w : World} {a b : Option Addr} {N c d : Nat} {X Y : Nat → List Nat} (hN : N ≤ 100000) (hx : RR w (.slice a N c) N X) (hy : RR w (.slice b N d) N Y) (he : ∀ i, i < N → X i = Y i) :
    Calls Try.prog 66 #[.slice a N c, .slice b N d] w fun e w' => e = .returned (.bool true) ∧ Drawn w w' := by
  have HX := Lib.hid hx
  have HY := Lib.hid hy
  have HE := Lib.hid he
  clear hx hy he
  go_enter Try.func66, Try.ntmps66
  go_wp2_with fail
  go_loopw [5] (fun i wr => ∃ k : Nat, k ≤ N ∧ i = .int .i64 k ∧ Hid (Drawn w wr)) (fun i _ => N - (intOf i).toNat)
  case atStart => exact ⟨0, by omega, rfl, Drawn.refl _⟩
  case round =>
    obtain ⟨k, hk, rfl, HD⟩ := hrel
    by_cases hk1 : k < N
    · have d3 : ((k : Int) < (N : Int)) := by omega
      obtain ⟨a', c', e, hX⟩ := (HX.out.drawn HD.out).shape
      injection e with e1 e2 e3
      subst e1; subst e3
      obtain ⟨a', c', e, hY⟩ := (HY.out.drawn HD.out).shape
      injection e with e1 e2 e3
      subst e1; subst e3
      obtain ⟨b1, o1, a1, n1, c1, rfl, hc1, hr1⟩ := hX k hk1
      obtain ⟨b2, o2, a2, n2, c2, rfl, hc2, hr2⟩ := hY k hk1
      have hs : ∀ q, Hid (Calls Try.prog 44 #[.slice a1 n1 c1, .slice a2 n2 c2] (wr.drewN q) fun e w' => e = .returned (.bool true) ∧ ∃ n, w' = (wr.drewN q).drewN n) := fun q =>
        (same_any (hr1.drewN q) (hr2.drewN q)).mono fun e w' ⟨h1, h2⟩ => ⟨by rw [h1, decide_eq_true (HE.out k hk1)], h2⟩
      have HS := Lib.hid hs
      clear hs hX hY hr1 hr2
      go_wp2_with fail
      go_quiet (first | (go_at_call 44; exact Calls.quiet_of (HS.out _).out))
      go_wp2_with fail
      go_roundw
      case rel => exact ⟨k + 1, by omega, by go_num, HD.out.more _⟩
      case measure => simp [intOf]; omega
    · obtain rfl : k = N := by omega
      go_wp2_with fail
      go_ret
      exact ⟨rfl, HD.out⟩
end Go.Proofs.Ytokeoodkioobdaa

/- The walks of lagr's Table and of the reference's Table. Conditions: none. -/
namespace Go.Proofs.Ytokeoodkioobdaa
open Go.RowKit

/-- The rows of a table. -/
def tabX (k : Nat) (t : Nat) : List Nat := wts (List.range k) k t
theorem tabX_small (k t : Nat) : Small (tabX k t) := wts_small _ _ _
theorem tabX_len (k t : Nat) : (tabX k t).length = k := length_wts _ _ _
theorem range_small {k : Nat} (h : k ≤ 256) : Small (List.range k) := Small.of_mem fun x hx => by have := List.mem_range.1 hx; omega
theorem range_succ_bs (k : Nat) : bs (List.range (k + 1)) = bs (List.range k) ++ [.int .u8 (k : Nat)] := by simp [bs, List.range_succ]

set_option maxHeartbeats 1600000 in
set_option maxRecDepth 100000 in
theorem Table_bad {w : World} {k n : Int} (h : k < 1 ∨ (1 ≤ k ∧ n < k) ∨ (1 ≤ k ∧ k ≤ n ∧ 255 < n)) :
    Calls Try.prog 64 #[.int .i64 k, .int .i64 n] w fun e w' => e = .returned (.tuple #[.slice none 0 0, .int .i64 2]) ∧ Below w.heap.size w w' := by
  rcases h with h | ⟨h1, h⟩ | ⟨h1, h2, h⟩
  · go_enter Try.func64, Try.ntmps64
    go_wp2_with fail
    go_ret2
    exact ⟨rfl, Below.refl _ _⟩
  · go_enter Try.func64, Try.ntmps64
    go_wp2_with fail
    go_ret2
    exact ⟨rfl, Below.refl _ _⟩
  · go_enter Try.func64, Try.ntmps64
    go_wp2_with fail
    go_ret2
    exact ⟨rfl, Below.refl _ _⟩

set_option maxHeartbeats 1600000 in
set_option maxRecDepth 100000 in
theorem rTable_bad {w : World} {k n : Int} (h : k < 1 ∨ (1 ≤ k ∧ n < k) ∨ (1 ≤ k ∧ k ≤ n ∧ 255 < n)) :
    Calls Try.prog 65 #[.int .i64 k, .int .i64 n] w fun e w' => e = .returned (.tuple #[.slice none 0 0, .int .i64 2]) ∧ Below w.heap.size w w' := by
  rcases h with h | ⟨h1, h⟩ | ⟨h1, h2, h⟩
  · go_enter Try.func65, Try.ntmps65
    go_wp2_with fail
    go_ret2
    exact ⟨rfl, Below.refl _ _⟩
  · go_enter Try.func65, Try.ntmps65
    go_wp2_with fail
    go_ret2
    exact ⟨rfl, Below.refl _ _⟩
  · go_enter Try.func65, Try.ntmps65
    go_wp2_with fail
    go_ret2
    exact ⟨rfl, Below.refl _ _⟩

set_option maxHeartbeats 3200000 in
set_option maxRecDepth 100000 in
theorem Table_ok {w : World} {k n : Nat} (hk1 : 1 ≤ k) (hkn : k ≤ n) (hn : n ≤ 255) :
    Calls Try.prog 64 #[.int .i64 k, .int .i64 n] w fun e w' => ∃ v, e = .returned (.tuple #[v, .int .i64 0]) ∧ TabAt w' w.heap.size v n (tabX k) ∧ Below w.heap.size w w' := by
  obtain ⟨i0, hi, hz0, hz1, hz2⟩ := info_parts info5
  obtain ⟨i31, hj, hy0, hy1, hy2⟩ := info_parts info31
  have d1 : decide ((k : Int) < 1) = false := by simp; omega
  have d2 : decide ((n : Int) < (k : Int)) = false := by simp; omega
  have d2' : decide (n < k) = false := by simp; omega
  have d3 : decide (255 < (n : Int)) = false := by simp; omega
  go_enter Try.func64, Try.ntmps64
  go_wp2_with fail
  go_loopw [6, 22] (fun s i wr => ∃ j : Nat, j ≤ k ∧ i = .int .i64 j ∧ Hid (wr.ownsRow w.heap.size 5 1 s j (bs (List.range j))) ∧ Hid (Below w.heap.size w wr)) (fun _ i _ => k - (intOf i).toNat)
  case atStart => exact ⟨0, by omega, rfl, World.ownsRow_nil _ _ _ _, Below.refl _ _⟩
  case round =>
    obtain ⟨j, hj1, rfl, HO, HB⟩ := hrel
    by_cases hj2 : j < k
    · have hw1 : IntKind.u8.wrap (j : Int) = (j : Int) := IntWalk.u8_in _ (by omega)
      have HAL := Lib.hid (HO.out.alloc (.cells #[.int .u8 (j : Nat)] 5))
      have hsz : w.heap.size ≤ wr.heap.size := HB.out.size
      go_wp2_with (at_builtin; refine wpList_append_own _ rfl (.tmp 25) (.tmp 28) 31 rfl w.heap.size 5 i0 (.int .u8 0) 1 1 Try.underlying31 hi hz0 hz1 hz2 rfl (by decide) u6 j (bs (List.range j)) rfl HAL.out ⟨wr.heap.size, 0, none⟩ 1 1 [.int .u8 (j : Nat)] rfl rfl (cell_new _ _) (one_u8 _) (by unfold maxLen; omega) (by omega) (by simp; omega) ?_)
      intro v' w6 hown2 hg2 _
      have HO6 := Lib.hid hown2
      have HB6 := Lib.hid ((HB.out.alloc (by omega) (.cells #[.int .u8 (j : Nat)] 5)).grown hg2 (by simp; omega) (fun g e => by have := (own_lt HO.out e).1; omega))
      clear hown2 hg2 HAL
      go_wp2_with fail
      go_roundw
      case rel => exact ⟨j + 1, by omega, by go_num, (by rw [range_succ_bs]; exact HO6.out), HB6⟩
      case measure => simp [intOf]; omega
    · obtain rfl : j = k := by omega
      obtain ⟨a, c, rfl⟩ := own_slice HO.out
      have hr := own_rb2 HO.out (range_small (by omega)) (by omega)
      have HR := Lib.hid hr
      clear hr HO
      go_wp2_with fail
      refine (over_any HR.out).mono ?_
      rintro e w2 ⟨p, q, rfl, hO⟩
      have HW := Lib.hid (Worker.of_over hO HR.out)
      have HB2 := Lib.hid (HB.out.trans (hO.below.mono HB.out.size))
      clear hO HR HB
      go_wp2_with fail
      go_loopw [4, 34] (fun s i wr => ∃ t : Nat, t ≤ n ∧ i = .int .i64 t ∧ Hid (TabAt wr w2.heap.size s t (tabX j)) ∧ Hid (Below w2.heap.size w2 wr)) (fun _ i _ => n - (intOf i).toNat)
      case atStart => exact ⟨0, by omega, rfl, TabAt.nil _ _ _, Below.refl _ _⟩
      case round =>
        obtain ⟨t, ht1, rfl, HT, HBz⟩ := hrel
        by_cases ht2 : t < n
        · have hw1 : IntKind.u8.wrap (t : Int) = (t : Int) := IntWalk.u8_in _ (by omega)
          have h95 := weights_any (t := t) (by omega) (HW.out.below HBz.out)
          have H95 := Lib.hid h95
          clear h95
          go_wp2_with fail
          refine H95.out.mono ?_
          rintro e w5 ⟨g5, rfl, hg5, hh5, hB5⟩
          have hsz5 : wr.heap.size ≤ w5.heap.size := hB5.size
          have hszz : w2.heap.size ≤ wr.heap.size := HBz.out.size
          have HT5 := Lib.hid ((HT.out.below hB5).below ((Below.refl _ _).alloc (Nat.le_refl _) (.cells #[.slice (some ⟨g5, 0, none⟩) j j] 31)))
          have HO5 := Lib.hid ((own_cells (n := j) hh5 (length_wts _ _ _) (by omega) (Nat.le_trans hszz hg5)).alloc (.cells #[.slice (some ⟨g5, 0, none⟩) j j] 31))
          have HB5 := Lib.hid (HBz.out.trans (hB5.mono hszz))
          clear H95 hh5 hB5 HT
          obtain ⟨vs, hv5, hr5⟩ := HT5.out
          have HV5 := Lib.hid hv5
          have HR5 := Lib.hid hr5
          clear hv5 hr5 HT5
          go_wp2_with (at_builtin; refine wpList_append_own3 _ rfl (.tmp 37) (.tmp 42) 51 rfl w2.heap.size 31 i31 (.slice none 0 0) 24 Try.underlying51 hj hy0 hy1 hy2 rfl _ t vs rfl HV5.out ⟨w5.heap.size, 0, none⟩ 1 1 [.slice (some ⟨g5, 0, none⟩) j j] rfl rfl (cell_new31 _ _) (one_sl _ _ _) (by unfold maxLen; omega) (by omega) (by simp; omega) ?_)
          intro v7 w7 ho7 hg7 hb7 hk7
          have HT7 := Lib.hid (TabAt.put HV5.out HR5.out HO5.out ho7 hk7)
          have HB7 := Lib.hid ((HB5.out.alloc (by omega) (.cells #[.slice (some ⟨g5, 0, none⟩) j j] 31)).grown hg7 (by simp; omega) (fun g e => by have := (own_lt HV5.out e).1; omega))
          clear ho7 hg7 hb7 hk7 HV5 HR5 HO5 HB5
          go_wp2_with fail
          go_roundw
          case rel => exact ⟨t + 1, by omega, by go_num, HT7, HB7⟩
          case measure => simp [intOf]; omega
        · obtain rfl : t = n := by omega
          have HT2 := Lib.hid (HT.out.mono HB2.out.size)
          clear HT
          go_wp2_with fail
          go_ret2
          exact ⟨_, rfl, HT2.out, HB2.out.trans (HBz.out.mono HB2.out.size)⟩

set_option maxHeartbeats 3200000 in
set_option maxRecDepth 100000 in
theorem rTable_ok {w : World} {k n : Nat} (hk1 : 1 ≤ k) (hkn : k ≤ n) (hn : n ≤ 255) :
    Calls Try.prog 65 #[.int .i64 k, .int .i64 n] w fun e w' => ∃ v, e = .returned (.tuple #[v, .int .i64 0]) ∧ TabAt w' w.heap.size v n (tabX k) ∧ Below w.heap.size w w' := by
  obtain ⟨i0, hi, hz0, hz1, hz2⟩ := info_parts info5
  obtain ⟨i31, hj, hy0, hy1, hy2⟩ := info_parts info31
  have d1 : decide ((k : Int) < 1) = false := by simp; omega
  have d2 : decide ((n : Int) < (k : Int)) = false := by simp; omega
  have d2' : decide (n < k) = false := by simp; omega
  have d3 : decide (255 < (n : Int)) = false := by simp; omega
  go_enter Try.func65, Try.ntmps65
  go_wp2_with fail
  go_loopw [6, 7] (fun s i wr => ∃ j : Nat, j ≤ k ∧ i = .int .i64 j ∧ Hid (wr.ownsRow w.heap.size 5 1 s j (bs (List.range j))) ∧ Hid (Below w.heap.size w wr)) (fun _ i _ => k - (intOf i).toNat)
  case atStart => exact ⟨0, by omega, rfl, World.ownsRow_nil _ _ _ _, Below.refl _ _⟩
  case round =>
    obtain ⟨j, hj1, rfl, HO, HB⟩ := hrel
    by_cases hj2 : j < k
    · have hw1 : IntKind.u8.wrap (j : Int) = (j : Int) := IntWalk.u8_in _ (by omega)
      have HAL := Lib.hid (HO.out.alloc (.cells #[.int .u8 (j : Nat)] 5))
      have hsz : w.heap.size ≤ wr.heap.size := HB.out.size
      go_wp2_with (at_builtin; refine wpList_append_own _ rfl (.tmp 28) (.tmp 31) 31 rfl w.heap.size 5 i0 (.int .u8 0) 1 1 Try.underlying31 hi hz0 hz1 hz2 rfl (by decide) u6 j (bs (List.range j)) rfl HAL.out ⟨wr.heap.size, 0, none⟩ 1 1 [.int .u8 (j : Nat)] rfl rfl (cell_new _ _) (one_u8 _) (by unfold maxLen; omega) (by omega) (by simp; omega) ?_)
      intro v' w6 hown2 hg2 _
      have HO6 := Lib.hid hown2
      have HB6 := Lib.hid ((HB.out.alloc (by omega) (.cells #[.int .u8 (j : Nat)] 5)).grown hg2 (by simp; omega) (fun g e => by have := (own_lt HO.out e).1; omega))
      clear hown2 hg2 HAL
      go_wp2_with fail
      go_roundw
      case rel => exact ⟨j + 1, by omega, by go_num, (by rw [range_succ_bs]; exact HO6.out), HB6⟩
      case measure => simp [intOf]; omega
    · obtain rfl : j = k := by omega
      obtain ⟨wo, rfl⟩ : ∃ wo, wo = wr := ⟨_, rfl⟩
      obtain ⟨a, c, rfl⟩ := own_slice HO.out
      have hr := own_rb2 HO.out (range_small (by omega)) (by omega)
      have HR := Lib.hid hr
      clear hr HO
      go_wp2_with fail
      go_loopw [8, 9] (fun s i wr => ∃ t : Nat, t ≤ n ∧ i = .int .i64 t ∧ Hid (TabAt wr wo.heap.size s t (tabX j)) ∧ Hid (Below wo.heap.size wo wr)) (fun _ i _ => n - (intOf i).toNat)
      case atStart => exact ⟨0, by omega, rfl, TabAt.nil _ _ _, Below.refl _ _⟩
      case round =>
        obtain ⟨t, ht1, rfl, HT, HBz⟩ := hrel
        by_cases ht2 : t < n
        · have hw1 : IntKind.u8.wrap (t : Int) = (t : Int) := IntWalk.u8_in _ (by omega)
          have h95 := rwts_ok (t := t) (by omega) (HR.out.below HBz.out) List.nodup_range (by omega)
          have H95 := Lib.hid h95
          clear h95
          go_wp2_with fail
          refine H95.out.mono ?_
          rintro e w5 ⟨v5, rfl, ho5, hB5⟩
          obtain ⟨a5, c5, rfl⟩ := own_slice ho5
          have hsz5 : wr.heap.size ≤ w5.heap.size := hB5.size
          have hszz : wo.heap.size ≤ wr.heap.size := HBz.out.size
          have HT5 := Lib.hid ((HT.out.below hB5).below ((Below.refl _ _).alloc (Nat.le_refl _) (.cells #[.slice a5 j c5] 31)))
          have HO5 := Lib.hid ((own_mono ho5 hszz).alloc (.cells #[.slice a5 j c5] 31))
          have HB5 := Lib.hid (HBz.out.trans (hB5.mono hszz))
          clear H95 ho5 hB5 HT
          obtain ⟨vs, hv5, hr5⟩ := HT5.out
          have HV5 := Lib.hid hv5
          have HR5 := Lib.hid hr5
          clear hv5 hr5 HT5
          go_wp2_with (at_builtin; refine wpList_append_own3 _ rfl (.tmp 45) (.tmp 47) 51 rfl wo.heap.size 31 i31 (.slice none 0 0) 24 Try.underlying51 hj hy0 hy1 hy2 rfl _ t vs rfl HV5.out ⟨w5.heap.size, 0, none⟩ 1 1 [.slice a5 j c5] rfl rfl (cell_new31 _ _) (one_sl _ _ _) (by unfold maxLen; omega) (by omega) (by simp; omega) ?_)
          intro v7 w7 ho7 hg7 hb7 hk7
          have HT7 := Lib.hid (TabAt.put HV5.out HR5.out HO5.out ho7 hk7)
          have HB7 := Lib.hid ((HB5.out.alloc (by omega) (.cells #[.slice a5 j c5] 31)).grown hg7 (by simp; omega) (fun g e => by have := (own_lt HV5.out e).1; omega))
          clear ho7 hg7 hb7 hk7 HV5 HR5 HO5 HB5
          go_wp2_with fail
          go_roundw
          case rel => exact ⟨t + 1, by omega, by go_num, HT7, HB7⟩
          case measure => simp [intOf]; omega
        · obtain rfl : t = n := by omega
          have HT2 := Lib.hid (HT.out.mono HB.out.size)
          clear HT
          go_wp2_with fail
          go_ret2
          exact ⟨_, rfl, HT2.out, HB.out.trans (HBz.out.mono HB.out.size)⟩
end Go.Proofs.Ytokeoodkioobdaa

/- The walk of the closed law LagrTables. Conditions: none. -/
namespace Go.Proofs.Ytokeoodkioobdaa
open Go.RowKit

theorem rr_nil (w : World) (X : Nat → List Nat) : RR w (.slice none 0 0) 0 X := ⟨none, 0, rfl, fun k hk => absurd hk (by omega)⟩
theorem tab_both (k n : Int) : ∃ N : Nat, ∃ er : Int, ∃ X : Nat → List Nat, N ≤ 255 ∧
    (∀ w, Calls Try.prog 64 #[.int .i64 k, .int .i64 n] w fun e w' => ∃ a c, e = .returned (.tuple #[.slice a N c, .int .i64 er]) ∧ RR w' (.slice a N c) N X ∧ Below w.heap.size w w') ∧
    (∀ w, Calls Try.prog 65 #[.int .i64 k, .int .i64 n] w fun e w' => ∃ a c, e = .returned (.tuple #[.slice a N c, .int .i64 er]) ∧ RR w' (.slice a N c) N X ∧ Below w.heap.size w w') := by
  by_cases h : 1 ≤ k ∧ k ≤ n ∧ n ≤ 255
  · obtain ⟨kn, rfl⟩ : ∃ m : Nat, k = m := ⟨k.toNat, by omega⟩
    obtain ⟨nn, rfl⟩ : ∃ m : Nat, n = m := ⟨n.toNat, by omega⟩
    refine ⟨nn, 0, tabX kn, by omega, fun w => (Table_ok (by omega) (by omega) (by omega)).mono ?_, fun w => (rTable_ok (by omega) (by omega) (by omega)).mono ?_⟩
    · rintro e w' ⟨v, rfl, hT, hB⟩
      obtain ⟨a, c, rfl⟩ := hT.slice
      exact ⟨a, c, rfl, hT.rr (fun i hi => ⟨tabX_small _ _, by rw [tabX_len]; omega⟩), hB⟩
    · rintro e w' ⟨v, rfl, hT, hB⟩
      obtain ⟨a, c, rfl⟩ := hT.slice
      exact ⟨a, c, rfl, hT.rr (fun i hi => ⟨tabX_small _ _, by rw [tabX_len]; omega⟩), hB⟩
  · refine ⟨0, 2, fun _ => [], by omega, fun w => (Table_bad (by omega)).mono ?_, fun w => (rTable_bad (by omega)).mono ?_⟩
    · rintro e w' ⟨rfl, hB⟩
      exact ⟨none, 0, rfl, rr_nil _ _, hB⟩
    · rintro e w' ⟨rfl, hB⟩
      exact ⟨none, 0, rfl, rr_nil _ _, hB⟩
theorem table_rr {k n : Nat} (hk1 : 1 ≤ k) (hkn : k ≤ n) (hn : n ≤ 255) (w : World) : Calls Try.prog 64 #[.int .i64 k, .int .i64 n] w fun e w' => ∃ a c, e = .returned (.tuple #[.slice a n c, .int .i64 0]) ∧ RR w' (.slice a n c) n (tabX k) ∧ Below w.heap.size w w' := by
  refine (Table_ok hk1 hkn hn).mono ?_
  rintro e w' ⟨v, rfl, hT, hB⟩
  obtain ⟨a, c, rfl⟩ := hT.slice
  exact ⟨a, c, rfl, hT.rr (fun i hi => ⟨tabX_small _ _, by rw [tabX_len]; omega⟩), hB⟩
theorem nine_rb (w : World) : RB (w.alloc (.cells #[.int .u8 0, .int .u8 1, .int .u8 2, .int .u8 3, .int .u8 4, .int .u8 5, .int .u8 6, .int .u8 7, .int .u8 8] 5)) (some ⟨w.heap.size, 0, none⟩) 9 9 (List.range 9) :=
  RB.of_block (l := [0, 1, 2, 3, 4, 5, 6, 7, 8]) (m := []) (heap_alloc_new _ _) (Small.of_mem (by decide)) (Nat.le_refl _) (by decide)
theorem nine_wts {w : World} {r : Nat} (hr : r < 256) : Calls Try.prog 50 #[.slice (some ⟨w.heap.size, 0, none⟩) 9 9, .int .u8 (r : Nat)] (w.alloc (.cells #[.int .u8 0, .int .u8 1, .int .u8 2, .int .u8 3, .int .u8 4, .int .u8 5, .int .u8 6, .int .u8 7, .int .u8 8] 5))
    fun e w' => ∃ a c, e = .returned (.tuple #[.slice a 9 c, .int .i64 0]) ∧ RB w' a 9 c (tabX 9 r) ∧ Below w.heap.size w w' := by
  refine (rwts_ok hr (nine_rb w) List.nodup_range (by omega)).mono ?_
  rintro e w' ⟨v, rfl, ho, hB⟩
  obtain ⟨a, c, rfl⟩ := own_slice ho
  exact ⟨a, c, rfl, own_rb2 ho (tabX_small _ _) (by omega), ((Below.refl _ _).alloc (Nat.le_refl _) _).trans (hB.mono (by simp))⟩
theorem range_getD {n i : Nat} (h : i < n) : (List.range n).getD i 0 = i := by simp [List.getD, h]
theorem tab_cell {n r c : Nat} (hr : r < n) (hc : c < n) : (tabX n r).getD c 0 = if c = r then 1 else 0 := by
  unfold tabX
  have hm : r ∈ List.range n := List.mem_range.2 hr
  rw [wts_on hm hc]
  have := at_fi (l := List.range n) List.nodup_range hm (i := c) (by simpa using hc)
  rw [range_getD hc] at this
  by_cases e : c = r
  · rw [if_pos e, if_pos (this.1 e)]
  · rw [if_neg e, if_neg fun h => e (this.2 h)]
theorem lcall1 (w : World) : Calls Try.prog 10 #[.slice none 0 0, .slice none 0 0, .slice (some ⟨w.heap.size, 0, none⟩) 2 2, .int .u8 3] (w.alloc (.cells #[.int .u8 0, .int .u8 7] 5)) fun e w' => e = .returned (.bool true) ∧ Below w.heap.size w w' := by
  refine (ldoes_small (t := 3) (by omega) (rb_nil _) (rb_nil _) (two_rb w 0 7 (by omega) (by omega)) (by omega) (by omega) (by omega)).mono ?_
  rintro e w' ⟨rfl, hB⟩
  exact ⟨rfl, ((Below.refl _ _).alloc (Nat.le_refl _) _).trans (hB.mono (by simp))⟩
theorem lcall2 (w : World) : Calls Try.prog 10 #[.slice (some ⟨w.heap.size, 0, none⟩) 1 1, .slice (some ⟨w.heap.size + 1, 0, none⟩) 1 1, .slice (some ⟨w.heap.size + 1 + 1, 0, none⟩) 2 2, .int .u8 200] (((w.alloc (.cells #[.int .u8 4] 5)).alloc (.cells #[.int .u8 9] 5)).alloc (.cells #[.int .u8 4, .int .u8 5] 5)) fun e w' => e = .returned (.bool true) ∧ Below w.heap.size w w' := by
  have h2 := one_rb (w.alloc (.cells #[.int .u8 4] 5)) 9 (by omega)
  have h3 := two_rb ((w.alloc (.cells #[.int .u8 4] 5)).alloc (.cells #[.int .u8 9] 5)) 4 5 (by omega) (by omega)
  simp only [World.size_alloc] at h2 h3
  refine (ldoes_small (t := 200) (by omega) (((one_rb w 4 (by omega)).alloc _).alloc _) (h2.alloc _) h3 (by omega) (by omega) (by omega)).mono ?_
  rintro e w' ⟨rfl, hB⟩
  exact ⟨rfl, ((((Below.refl _ _).alloc (Nat.le_refl _) _).alloc (by simp) _).alloc (by simp; omega) _).trans (hB.mono (by simp; omega))⟩
theorem lcall3 (w : World) : Calls Try.prog 10 #[.slice (some ⟨w.heap.size, 0, none⟩) 2 2, .slice (some ⟨w.heap.size + 1, 0, none⟩) 1 1, .slice none 0 0, .int .u8 4] ((w.alloc (.cells #[.int .u8 4, .int .u8 4] 5)).alloc (.cells #[.int .u8 9] 5)) fun e w' => e = .returned (.bool true) ∧ Below w.heap.size w w' := by
  have h2 := one_rb (w.alloc (.cells #[.int .u8 4, .int .u8 4] 5)) 9 (by omega)
  simp only [World.size_alloc] at h2
  refine (ldoes_small (t := 4) (by omega) ((two_rb w 4 4 (by omega) (by omega)).alloc _) h2 (rb_nil _) (by omega) (by omega) (by omega)).mono ?_
  rintro e w' ⟨rfl, hB⟩
  exact ⟨rfl, (((Below.refl _ _).alloc (Nat.le_refl _) _).alloc (by simp) _).trans (hB.mono (by simp; omega))⟩
theorem lcall4 (w : World) : Calls Try.prog 10 #[.slice (some ⟨w.heap.size, 0, none⟩) 3 3, .slice (some ⟨w.heap.size + 1, 0, none⟩) 3 3, .slice (some ⟨w.heap.size + 1 + 1, 0, none⟩) 1 1, .int .u8 5] (((w.alloc (.cells #[.int .u8 4, .int .u8 5, .int .u8 4] 5)).alloc (.cells #[.int .u8 9, .int .u8 1, .int .u8 9] 5)).alloc (.cells #[.int .u8 4] 5)) fun e w' => e = .returned (.bool true) ∧ Below w.heap.size w w' := by
  have h2 := three_rb (w.alloc (.cells #[.int .u8 4, .int .u8 5, .int .u8 4] 5)) 9 1 9 (by omega) (by omega) (by omega)
  have h3 := one_rb ((w.alloc (.cells #[.int .u8 4, .int .u8 5, .int .u8 4] 5)).alloc (.cells #[.int .u8 9, .int .u8 1, .int .u8 9] 5)) 4 (by omega)
  simp only [World.size_alloc] at h2 h3
  refine (ldoes_small (t := 5) (by omega) (((three_rb w 4 5 4 (by omega) (by omega) (by omega)).alloc _).alloc _) (h2.alloc _) h3 (by omega) (by omega) (by omega)).mono ?_
  rintro e w' ⟨rfl, hB⟩
  exact ⟨rfl, ((((Below.refl _ _).alloc (Nat.le_refl _) _).alloc (by simp) _).alloc (by simp; omega) _).trans (hB.mono (by simp; omega))⟩

set_option maxHeartbeats 6000000 in
set_option maxRecDepth 100000 in
theorem tables_any (w : World) : Calls Try.prog 15 #[] w fun e w' => e = .returned (.bool true) ∧ Below w.heap.size w w' := by
  go_enter Try.func15, Try.ntmps15
  go_wp2_with fail
  go_loopw [1] (fun i wr => ∃ n : Int, (-1 ≤ n ∧ n ≤ 13) ∧ i = .int .i64 n ∧ Hid (Below w.heap.size w wr)) (fun i _ => (13 - intOf i).toNat)
  case atStart => exact ⟨-1, ⟨by omega, by omega⟩, rfl, Below.refl _ _⟩
  case round =>
    obtain ⟨n, ⟨hn1, hn2⟩, rfl, HB⟩ := hrel
    by_cases hn3 : n < 13
    · go_wp2_with fail
      go_loopw [2] (fun i wr => ∃ k : Int, (-1 ≤ k ∧ k ≤ 14) ∧ i = .int .i64 k ∧ Hid (Below w.heap.size w wr)) (fun i _ => (14 - intOf i).toNat)
      case atStart => exact ⟨-1, ⟨by omega, by omega⟩, rfl, HB⟩
      case round =>
        clear HB
        obtain ⟨k, ⟨hk1, hk2⟩, rfl, HB⟩ := hrel
        by_cases hk3 : k < 14
        · obtain ⟨N, er, X, hN, h64, h65⟩ := tab_both k n
          have H64 := Lib.hid h64
          have H65 := Lib.hid h65
          clear h64 h65
          go_wp2_with fail
          refine (H64.out wr).mono ?_
          rintro e w3 ⟨a3, c3, rfl, hR3, hB3⟩
          have HR3 := Lib.hid hR3
          have HB3 := Lib.hid hB3
          clear hR3 hB3
          go_wp2_with fail
          refine (H65.out w3).mono ?_
          rintro e w4 ⟨a4, c4, rfl, hR4, hB4⟩
          have HS := Lib.hid (rows_same (by omega) (hR4.below (Below.refl _ _) |> fun _ => HR3.out.below hB4) hR4 (fun _ _ => rfl))
          have HB4 := Lib.hid (HB.out.trans ((HB3.out.trans (hB4.mono HB3.out.size)).mono HB.out.size))
          clear hR4 hB4 HR3 HB3 H64 H65
          go_wp2_with fail
          refine HS.out.mono ?_
          rintro e w5 ⟨rfl, nq, rfl⟩
          go_wp2_with fail
          go_roundw
          case rel => exact ⟨k + 1, ⟨by omega, by omega⟩, by go_num, Lib.hid (below_drewN HB4.out nq)⟩
          case measure => simp [intOf]; omega
        · obtain rfl : k = 14 := by omega
          go_wp2_with fail
          go_roundw
          case rel => exact ⟨n + 1, ⟨by omega, by omega⟩, by go_num, HB⟩
          case measure => simp [intOf]; omega
    · obtain rfl : n = 13 := by omega
      clear hn1 hn2 hn3
      go_wp2_with fail
      go_loopw [7] (fun i wr => ∃ k : Nat, (253 ≤ k ∧ k ≤ 258) ∧ i = .int .i64 k ∧ Hid (Below w.heap.size w wr)) (fun i _ => 258 - (intOf i).toNat)
      case atStart => exact ⟨253, ⟨by omega, by omega⟩, rfl, HB⟩
      case round =>
        clear HB
        obtain ⟨k, ⟨hk0, hk⟩, rfl, HB⟩ := hrel
        by_cases hk1 : k < 258
        · have HBad := Lib.hid fun W => Table_bad (w := W) (k := (k : Int) + 1) (n := (k : Int)) (.inr (.inl ⟨by omega, by omega⟩))
          by_cases hk2 : k ≤ 255
          · have hok := table_rr (k := 9) (n := k) (by omega) (by omega) hk2 wr
            have HOk := Lib.hid hok
            clear hok
            go_wp2_with fail
            refine HOk.out.mono ?_
            rintro e w3 ⟨a3, c3, rfl, hR3, hB3⟩
            have HR3 := Lib.hid hR3
            have HB3 := Lib.hid (HB.out.trans (hB3.mono HB.out.size))
            clear hR3 hB3 HOk
            go_wp2_with fail
            refine (HBad.out w3).mono ?_
            rintro e w4 ⟨rfl, hB4⟩
            have HR4 := Lib.hid (HR3.out.below hB4)
            have HB4 := Lib.hid (HB3.out.trans (hB4.mono HB3.out.size))
            clear hB4 HR3 HB3 HBad HB
            go_wp2_with fail
            go_loopw [12] (fun i wr => ∃ r : Nat, r ≤ k + 22 ∧ i = .int .i64 r ∧ Hid (RR wr (.slice a3 k c3) k (tabX 9)) ∧ Hid (Below w.heap.size w wr)) (fun i _ => k + 23 - (intOf i).toNat)
            case atStart => exact ⟨0, Nat.zero_le _, rfl, HR4, HB4⟩
            case round =>
              clear HR4 HB4
              obtain ⟨r, hr, rfl, HR, HB⟩ := hrel
              by_cases hr1 : r < k
              · have hw1 : IntKind.u8.wrap (r : Int) = (r : Int) := IntWalk.u8_in _ (by omega)
                obtain ⟨a', c', e, hX⟩ := HR.out.shape
                injection e with e1 e2 e3
                subst e1; subst e3; clear e2
                obtain ⟨b1, o1, a1, n1, c1, rfl, hc1, hr1'⟩ := hX r hr1
                have h50 := nine_wts (w := wr) (r := r) (by omega)
                have H50 := Lib.hid h50
                have HR1 := Lib.hid hr1'
                have hsz := block_lt_of_cell hc1
                clear h50 hX hr1'
                go_wp2_with fail
                refine H50.out.mono ?_
                rintro e w5 ⟨a5, c5, rfl, hR5, hB5⟩
                have hc5 := (hB5.cell hsz).trans hc1
                have hs : Calls Try.prog 44 #[.slice a1 n1 c1, .slice a5 9 c5] w5 fun e w' => e = .returned (.bool true) ∧ Drawn w5 w' := (same_any (HR1.out.below hB5) hR5).mono fun e w' ⟨he, hD⟩ => ⟨by rw [he, decide_eq_true (rfl : tabX 9 r = tabX 9 r)], hD⟩
                have HS := Lib.hid hs
                have HR5 := Lib.hid (HR.out.below hB5)
                have HB5 := Lib.hid (HB.out.trans (hB5.mono HB.out.size))
                clear hR5 hB5 hc1 hs H50 HR1
                go_wp2_with fail
                refine HS.out.mono ?_
                rintro e w6 ⟨rfl, nq, rfl⟩
                go_wp2_with fail
                go_roundw
                case rel => exact ⟨r + 23, by omega, by go_num, Lib.hid (HR5.out.drewN nq), Lib.hid (below_drewN HB5.out nq)⟩
                case measure => simp [intOf]; omega
              · have hdr : decide ((r : Int) < (k : Int)) = false := by simp; omega
                go_wp2_with fail
                go_roundw
                case rel => exact ⟨k + 1, ⟨by omega, by omega⟩, by go_num, HB⟩
                case measure => simp [intOf]; omega
          · have hbad9 := Table_bad (w := wr) (k := 9) (n := (k : Int)) (.inr (.inr ⟨by omega, by omega, by omega⟩))
            have HBad9 := Lib.hid hbad9
            clear hbad9
            go_wp2_with fail
            refine HBad9.out.mono ?_
            rintro e w3 ⟨rfl, hB3⟩
            have HB3 := Lib.hid (HB.out.trans (hB3.mono HB.out.size))
            clear hB3 HBad9
            go_wp2_with fail
            refine (HBad.out w3).mono ?_
            rintro e w4 ⟨rfl, hB4⟩
            have HB4 := Lib.hid (HB3.out.trans (hB4.mono HB3.out.size))
            clear hB4 HB3 HBad HB
            go_wp2_with fail
            refine wp_loop_rounds 1 ?_
            rw [rounds_succ]
            go_wp2_with fail
            go_roundw
            case rel => exact ⟨k + 1, ⟨by omega, by omega⟩, by go_num, HB4⟩
            case measure => simp [intOf]; omega
        · obtain rfl : k = 258 := by omega
          simp only [show ((258 : Nat) : Int) = 258 from rfl]
          clear hk0 hk hk1
          have hok := table_rr (k := 255) (n := 255) (by omega) (by omega) (by omega) wr
          have HOk := Lib.hid hok
          clear hok
          go_wp2_with fail
          refine HOk.out.mono ?_
          rintro e w3 ⟨a3, c3, rfl, hR3, hB3⟩
          have HR3 := Lib.hid hR3
          have HB3 := Lib.hid (HB.out.trans (hB3.mono HB.out.size))
          clear hR3 hB3 HOk HB
          go_wp2_with fail
          go_loopw [17] (fun i wr => ∃ r : Nat, r ≤ 255 ∧ i = .int .i64 r ∧ Hid (Drawn w3 wr)) (fun i _ => 255 - (intOf i).toNat)
          case atStart => exact ⟨0, Nat.zero_le _, rfl, Drawn.refl _⟩
          case round =>
            obtain ⟨r, hr, rfl, HD⟩ := hrel
            by_cases hr1 : r < 255
            · have hdr : decide ((r : Int) < 255) = true := by simp; omega
              go_wp2_with fail
              go_loopw [18] (fun i wr => ∃ c : Nat, c ≤ 255 ∧ i = .int .i64 c ∧ Hid (Drawn w3 wr)) (fun i _ => 255 - (intOf i).toNat)
              case atStart => exact ⟨0, Nat.zero_le _, rfl, HD⟩
              case round =>
                clear HD
                obtain ⟨c, hc, rfl, HD⟩ := hrel
                by_cases hc1 : c < 255
                · obtain ⟨a', c', e, hX⟩ := (HR3.out.drawn HD.out).shape
                  injection e with e1 e2 e3
                  subst e1; subst e3; clear e2
                  obtain ⟨b1, o1, a1, n1, c1, rfl, hcl1, hrb⟩ := hX r hr1
                  have hn1 : n1 = 255 := by rw [← hrb.len, tabX_len]
                  subst hn1
                  obtain ⟨b2, o2, rfl, hcl2⟩ := hrb.at_ c hc1
                  rw [tab_cell hr1 hc1] at hcl2
                  clear hX hrb
                  have hci : (c : Int) < 255 := by omega
                  by_cases hcr : c = r
                  · subst hcr
                    rw [if_pos rfl] at hcl2
                    go_wp2_with fail
                    go_roundw
                    case rel => exact ⟨c + 1, by omega, by go_num, HD⟩
                    case measure => simp [intOf]; omega
                  · rw [if_neg hcr] at hcl2
                    have hne : decide ((r : Int) = (c : Int)) = false := by simp; omega
                    have hne2 : ((r : Int) == (c : Int)) = false := by simp; omega
                    have hne3 : decide (r = c) = false := by simp; omega
                    go_wp2_with fail
                    go_roundw
                    case rel => exact ⟨c + 1, by omega, by go_num, HD⟩
                    case measure => simp [intOf]; omega
                · obtain rfl : c = 255 := by omega
                  go_wp2_with fail
                  go_roundw
                  case rel => exact ⟨r + 1, by omega, by go_num, HD⟩
                  case measure => simp [intOf]; omega
            · obtain rfl : r = 255 := by omega
              clear hr hr1 HR3
              have hbz : Below w.heap.size w wr := by obtain ⟨q, rfl⟩ := HD.out; exact below_drewN HB3.out q
              have HB4 := Lib.hid hbz
              clear HD HB3 hbz
              go_wp2_with fail
              refine (lcall1 wr).mono ?_
              rintro e w5 ⟨rfl, hB5⟩
              have HB5 := Lib.hid (HB4.out.trans (hB5.mono HB4.out.size))
              clear hB5 HB4
              go_wp2_with fail
              refine (lcall2 w5).mono ?_
              rintro e w6 ⟨rfl, hB6⟩
              have HB6 := Lib.hid (HB5.out.trans (hB6.mono HB5.out.size))
              clear hB6 HB5
              go_wp2_with fail
              refine (lcall3 w6).mono ?_
              rintro e w7 ⟨rfl, hB7⟩
              have HB7 := Lib.hid (HB6.out.trans (hB7.mono HB6.out.size))
              clear hB7 HB6
              go_wp2_with fail
              refine (lcall4 w7).mono ?_
              rintro e w8 ⟨rfl, hB8⟩
              have HB8 := Lib.hid (HB7.out.trans (hB8.mono HB7.out.size))
              clear hB8 HB7
              go_wp2_with fail
              refine (awake4 w8).mono ?_
              rintro e w9 ⟨rfl, hB9⟩
              have HB9 := Lib.hid (HB8.out.trans (hB9.mono HB8.out.size))
              clear hB9 HB8
              go_wp2_with fail
              go_ret
              exact ⟨rfl, HB9.out⟩
end Go.Proofs.Ytokeoodkioobdaa
