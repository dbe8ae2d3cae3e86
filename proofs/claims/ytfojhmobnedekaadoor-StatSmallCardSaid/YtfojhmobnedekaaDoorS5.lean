/- The walks of stat's fold over ints, Right. No condition. -/
import Derived.Test.YtfojhmobnedekaaDoorS4
namespace Go.Proofs.YtfojhmobnedekaaDoor
open Go.RowKit Go.Shelf

attribute [local go_sem] Oper.semAt_some

/-- Sums, as an int has them. -/
def wad (a b : Int) : Int := wrap64 (a + b)
theorem wad_in {a b : Int} (h : -9223372036854775808 ≤ a + b ∧ a + b ≤ 9223372036854775807) : wad a b = a + b := IntWalk.wrap64_in _ (by omega)
theorem add30 (a b : Int) (w : World) : Calls Tryd.prog 30 #[.int .i64 a, .int .i64 b] w fun e w' => e = .returned (.int .i64 (wad a b)) ∧ w = w' := by
  go_enter Tryd.func30, Tryd.ntmps30
  go_wp2_with fail
  go_ret
  exact ⟨rfl, rfl⟩
def sumTo (u : Nat → Int) : Nat → Int
  | 0 => 0
  | k + 1 => wad (sumTo u k) (u k)
set_option maxRecDepth 100000 in
set_option maxHeartbeats 1600000 in
theorem fold_int {w : World} {b off n cap : Nat} {u : Nat → Int} (hn : n ≤ 8) (h : ∀ j, j < n → w.cell? ⟨b, off + j, none⟩ = some (.int .i64 (u j))) :
    Calls Tryd.prog 29 #[.slice (some ⟨b, off, none⟩) n cap, .int .i64 0, .func (.func 30) #[] #[]] w fun e w' => e = .returned (.int .i64 (sumTo u n)) ∧ w = w' := by
  have H := Lib.hid h
  clear h
  go_enter Tryd.func29, Tryd.ntmps29
  go_wp2_with fail
  go_loop [1, 8, 11] (fun a _ i => ∃ k : Nat, k ≤ n ∧ i = .int .i64 k ∧ a = .int .i64 (sumTo u k)) (fun _ _ i => n - (intOf i).toNat)
  case atStart => exact ⟨0, Nat.zero_le _, rfl, rfl⟩
  case round =>
    obtain ⟨k, hk, rfl, rfl⟩ := hrel
    by_cases hk1 : k < n
    · have hc := H.out k hk1
      have q0 : decide (k < n) = true := by simp [hk1]
      have HS := Lib.hid (show sumTo u (k + 1) = wad (sumTo u k) (u k) from rfl)
      generalize sumTo u k = s at *
      generalize u k = x at *
      go_wp2_with fail
      refine (add30 _ _ _).mono ?_
      rintro e w1 ⟨rfl, rfl⟩
      go_wp2_with fail
      go_round
      case rel => exact ⟨k + 1, by omega, by go_num, by rw [HS.out]⟩
      case measure => simp [intOf]; omega
    · obtain rfl : k = n := by omega
      have q0 : decide (k < k) = false := by simp
      go_wp2_with fail
      go_ret
      exact ⟨rfl, rfl⟩

/-- From a count, up to a number of them, all in range. -/
def inR (x : Int) : Prop := 0 ≤ x ∧ x ≤ 2147483647
instance (x : Int) : Decidable (inR x) := by unfold inR; infer_instance
/-- What Right asks. -/
def RightV (v : Nat → Int) : Prop := (∀ k, k < 17 → inR (v (of_ k))) ∧ v 3 = 0 ∧ v 11 = 0 ∧ v 2 = min (v 4 + (v 5 + (v 6 + (v 7 + (v 8 + (v 9 + v 10)))))) 2147483647
/-- A table that is read: what a box and a row hold. -/
theorem TabAt.rd {w0 W : World} {b bx : Nat} (h : TabAt w0 W b 17 bx) : ∃ g cap, Rd W bx g cap b ∧ w0.heap.size ≤ bx ∧ w0.heap.size ≤ g ∧ Below w0.heap.size w0 W := by
  obtain ⟨g, cap, hbox, hown, h1, h2, h3, hB⟩ := h
  refine ⟨g, cap, ⟨(cell_of_block hbox).trans rfl, fun k hk => ?_, fun k hk => ?_⟩, h1, h3, hB⟩
  · have := hown.cellAt (k * 2) (by omega)
    rw [this]; exact tcs_get0 b 17 k hk
  · have := hown.cellAt (k * 2 + 1) (by omega)
    rw [this]; exact tcs_get1 b 17 k hk
theorem sum8 (v : Nat → Int) (h3 : v 3 = 0) (h : ∀ k, k < 17 → inR (v (of_ k))) : sumTo (fun j => v (3 + j)) 8 = v 4 + (v 5 + (v 6 + (v 7 + (v 8 + (v 9 + v 10))))) ∧ 0 ≤ v 4 + (v 5 + (v 6 + (v 7 + (v 8 + (v 9 + v 10))))) := by
  have a4 : inR (v 4) := h 3 (by omega)
  have a5 : inR (v 5) := h 4 (by omega)
  have a6 : inR (v 6) := h 5 (by omega)
  have a7 : inR (v 7) := h 6 (by omega)
  have a8 : inR (v 8) := h 7 (by omega)
  have a9 : inR (v 9) := h 8 (by omega)
  have a10 : inR (v 10) := h 9 (by omega)
  unfold inR at *
  refine ⟨?_, by omega⟩
  show wad (wad (wad (wad (wad (wad (wad (wad 0 (v 3)) (v 4)) (v 5)) (v 6)) (v 7)) (v 8)) (v 9)) (v 10) = _
  rw [h3]
  rw [wad_in (a := 0) (by omega), wad_in (b := v 4) (by omega), wad_in (b := v 5) (by omega), wad_in (b := v 6) (by omega), wad_in (b := v 7) (by omega), wad_in (b := v 8) (by omega), wad_in (b := v 9) (by omega), wad_in (b := v 10) (by omega)]
  omega
/-- The entry's own box, in a round. -/
def Ent (b lo x : Nat) (B3 : Nat) (W : World) : Prop := lo ≤ B3 ∧ W.heap[B3]? = some (.cells #[.string (wd x), .pointer (some ⟨b, of_ x, none⟩)] 63 (0, 0))
theorem of_lt (x : Nat) : of_ x < 19 := by
  unfold of_
  by_cases h : x < 17
  · have : x = 0 ∨ x = 1 ∨ x = 2 ∨ x = 3 ∨ x = 4 ∨ x = 5 ∨ x = 6 ∨ x = 7 ∨ x = 8 ∨ x = 9 ∨ x = 10 ∨ x = 11 ∨ x = 12 ∨ x = 13 ∨ x = 14 ∨ x = 15 ∨ x = 16 := by omega
    rcases this with rfl | rfl | rfl | rfl | rfl | rfl | rfl | rfl | rfl | rfl | rfl | rfl | rfl | rfl | rfl | rfl | rfl <;> decide
  · rw [List.getElem?_eq_none (by simp [ol]; omega)]; decide
/-- What lies in cells stays through an iterator's step. -/
theorem cells_kept {A B : World} {row : Option Nat} {g : Nat} {cs : Array Value} {t : TypeId} {fr : Nat × Nat} (h : A.heap[g]? = some (.cells cs t fr)) (hg : A.grownBy B row) (hr : ∀ r, row = some r → ∃ o : Obj, A.heap[r]? = some o ∧ o.isCells = false) : B.heap[g]? = some (.cells cs t fr) := by
  rw [hg.block g (Array.getElem?_eq_some_iff.1 h).1 ?_]
  · exact h
  · intro e
    obtain ⟨o, ho, hc⟩ := hr g e.symm
    rw [h] at ho
    obtain rfl := Option.some.inj ho
    cases hc

theorem below_own {m : Nat} {w A B : World} {row : Option Nat} (h : Below w.heap.size w A) (hg : A.grownBy B row) (hm : w.heap.size ≤ m) (hr : ∀ r, row = some r → m ≤ r) : Below w.heap.size w B := h.grown hg h.size (fun k e => Nat.le_trans hm (hr k e))
def RPost (v : Nat → Int) (w : World) (e : Ending) (W' : World) : Prop := (∃ t, e = .returned (.bool t) ∧ (t = true ↔ RightV v)) ∧ Below w.heap.size w W'
set_option maxRecDepth 100000 in
set_option maxHeartbeats 4000000 in
theorem right_in (n : Nat) (hn : 3 ≤ n) (v : Nat → Int) (w : World) :
    CallsIn Fence.wide n Tryd.prog 18 #[.agg (stC v)] w (RPost v w) := by
  have h1 : 1 ≤ n := by omega
  have hro : Fence.wide.round = none := rfl
  refine callsIn_of_wp_marks Tryd.func18 rfl trivial ?_ hro
  simp only [Tryd.ntmps18, List.size_toArray, List.length_cons, List.length_nil, Nat.reduceAdd, Nat.reduceSub, Array.replicate_succ, Array.replicate_zero, List.push_toArray, List.append_toArray, List.nil_append, List.cons_append]
  have HS0 := Lib.hid ((StAt.new w v).below ((Below.refl _ _).alloc (Nat.le_refl _) (.cells #[.bool false] 4)) (by simp))
  have HR0 := Lib.hid (heap_alloc_new (w.alloc (.cells (stC v) 25)) (.cells #[.bool false] 4))
  have HB0 := Lib.hid (((Below.refl w.heap.size w).alloc (Nat.le_refl _) (.cells (stC v) 25)).alloc (by simp) (.cells #[.bool false] 4))
  have HT := Lib.hid (table_any HS0.out)
  rw [World.size_alloc] at HR0
  gi_wp2_with fail
  refine ⟨trivial, ?_⟩
  refine (callsIn_wide.2 (show Calls _ _ _ _ _ from HT.out)).mono ?_
  rintro e w1 ⟨bx, rfl, hT⟩
  obtain ⟨g, cap, hRd, hbx, hg, hBt⟩ := hT.rd
  rw [World.size_alloc, World.size_alloc] at hbx hg
  have hz1 := hBt.size
  rw [World.size_alloc, World.size_alloc] at hz1
  have HS1 := Lib.hid (HS0.out.below hBt (by simp; omega))
  have HR1 := Lib.hid ((hBt.block (w.heap.size + 1) (by simp)).trans HR0.out)
  have HB1 := Lib.hid (HB0.out.trans (hBt.mono (by simp; omega)))
  have HRd := Lib.hid hRd
  have hlt := block_lt_of_cell hRd.box
  have hlt2 := block_lt_of_cell (hRd.at0 0 (by omega))
  clear hT hRd hBt HT HS0 HR0 HB0
  gi_wp2_with fail
  refine wpIn_rangeFunc_ownH hro h1 (gf := 39) (lb := #[.pointer (some ⟨bx, 0, none⟩)]) rfl trivial (enters_of Tryd.func39 (by kernel_rfl) rfl)
    (table_stops Fence.wide (n - 1) trivial hro (by omega) bx g cap w.heap.size w1 HRd.out) Kt.trans (Kt.putObj hlt hlt2) (Below.refl _ _) (fun _ => rfl)
    (fun pre W => (∀ i ∈ pre, inR (v (of_ i))) ∧ Hid (StAt 25 W w.heap.size v) ∧ Hid (W.heap[w.heap.size + 1]? = some (.cells #[.bool false] 4 (0, 0))) ∧ Hid (Below w.heap.size w W) ∧ w1.heap.size ≤ W.heap.size)
    (fun c pre W => c = .ret ∧ (∃ i ∈ pre, ¬ inR (v (of_ i))) ∧ Hid (W.heap[w.heap.size + 1]? = some (.cells #[.bool false] 4 (0, 0))) ∧ Hid (Below w.heap.size w W))
    (fun s A B row hs hgr hr => ⟨hs.1, cells_kept hs.2.1.out hgr (fun r e => (hr r e).2), cells_kept hs.2.2.1.out hgr (fun r e => (hr r e).2), below_own hs.2.2.2.1.out hgr (by omega) (fun r e => (hr r e).1), Nat.le_trans hs.2.2.2.2 hgr.size⟩)
    (fun c s A B row hs hgr hr => ⟨hs.1, hs.2.1, cells_kept hs.2.2.1.out hgr (fun r e => (hr r e).2), below_own hs.2.2.2.out hgr (by omega) (fun r e => (hr r e).1)⟩)
    ⟨(fun i hi => by cases hi), HS1, HR1, HB1, Nat.le_refl _⟩
    (fun x a' W => ∃ B3, Hid (Ent w.heap.size w1.heap.size x B3 W) ∧ a' = { tmps := #[.agg (stC v), .pointer (some ⟨w.heap.size, 0, none⟩), .pointer (some ⟨w.heap.size + 1, 0, none⟩), .pointer (some ⟨B3, 0, none⟩), undef, .func (.func 39) #[] #[.pointer (some ⟨bx, 0, none⟩)], .agg #[.string (wd x), .pointer (some ⟨w.heap.size, of_ x, none⟩)], undef, undef, undef, undef, undef, undef, undef, undef, undef, undef, undef, undef, undef, undef, undef, undef, undef, undef, undef, undef, undef, undef, undef, undef, undef, undef], defers := [] })
    (fun x a' s A B row hs hgr hr => by obtain ⟨B3, hE, ha⟩ := hs; exact ⟨B3, ⟨hE.out.1, cells_kept hE.out.2 hgr (fun r e => (hr r e).2)⟩, ha⟩)
    ?assign ?body ?done ?stop
  case assign =>
    rintro l pre x W K ⟨hp, hS, hR, hB, hz⟩ hK
    have HE := Lib.hid (heap_alloc_new W (.cells #[.string (wd x), .pointer (some ⟨w.heap.size, of_ x, none⟩)] 63))
    gi_wp2
    exact hK _ _ ((KeepsOthers.alloc _ _).from _) (Kt.grown (grow_alloc _ _) (by omega) (by omega)) ⟨hp, hS.out.below ((Below.refl W.heap.size W).alloc (Nat.le_refl _) _) hS.out.lt, (((Below.refl W.heap.size W).alloc (Nat.le_refl _) _).block _ (by omega)).trans hR.out, hB.out.alloc (by omega) _, by simp; omega⟩ ⟨_, ⟨hz, HE.out⟩, rfl⟩
  case body =>
    rintro l pre x a' W hl ⟨r, hr⟩ ⟨hp, hS, hR, hB, hz⟩ ⟨B3, hE, rfl⟩ hlen
    have e1 : W.cell? ⟨B3, 1, none⟩ = some (.pointer (some ⟨w.heap.size, of_ x, none⟩)) := (cell_of_block hE.out.2).trans rfl
    have e2 := hS.out.cell (of_lt x)
    have HP := Lib.hid hp
    have HR := Lib.hid hr
    have hw := fun W => within_any (v (of_ x)) 0 2147483647 W
    have hfr := frozen_of_block (j := 0) hR.out
    have hcr : W.cell? ⟨w.heap.size + 1, 0, none⟩ = some (.bool false) := (cell_of_block hR.out).trans rfl
    clear hp hr
    by_cases hin : inR (v (of_ x))
    · rw [decide_eq_true (show 0 ≤ v (of_ x) ∧ v (of_ x) ≤ 2147483647 from hin)] at hw
      have HIN := Lib.hid hin
      have HW := Lib.hid hw
      clear hw hin
      gi_wp2_with (refine ⟨trivial, fun _ => (by omega), ?_⟩; gi_at_call 23; refine (CallsIn.inRound l (callsIn_wide.2 (HW.out _))).mono ?_; rintro e w' ⟨rfl, rfl⟩)
      exact ⟨KeepsFrom.refl _ _, Kt.refl _ _ _, fun i hi => (List.mem_append.1 hi).elim (HP.out i) (fun e => by simp at e; subst e; exact HIN.out), hS, hR, hB, hz⟩
    · rw [decide_eq_false (show ¬ (0 ≤ v (of_ x) ∧ v (of_ x) ≤ 2147483647) from hin)] at hw
      have HIN := Lib.hid hin
      have HW := Lib.hid hw
      clear hw hin
      gi_wp2_with (refine ⟨trivial, fun _ => (by omega), ?_⟩; gi_at_call 23; refine (CallsIn.inRound l (callsIn_wide.2 (HW.out _))).mono ?_; rintro e w' ⟨rfl, rfl⟩)
      exact ⟨(KeepsOthers.setCell _ _ _).from _, rfl, ⟨x, by simp, HIN.out⟩, heap_setCell_same W _ 0 _ _ _ hR.out, hB.out.setCell (p := ⟨w.heap.size + 1, 0, none⟩) (by show _ ≤ _ + 1; omega) _⟩
  case done =>
    rintro D ys W hD rfl ⟨hp, hS, hR, hB, hz⟩ hK
    have HF := Lib.hid (fold_int (b := w.heap.size) (off := 3) (n := 8) (cap := 8) (u := fun j => v (3 + j)) (w := W) (by omega) (fun j hj => hS.out.cell (by omega)))
    have HP := Lib.hid hp
    have hfr := frozen_of_block (j := 0) hR.out
    have hcr : W.cell? ⟨w.heap.size + 1, 0, none⟩ = some (.bool false) := (cell_of_block hR.out).trans rfl
    have c2 := hS.out.cell (k := 2) (by omega)
    have c3 := hS.out.cell (k := 3) (by omega)
    have c11 := hS.out.cell (k := 11) (by omega)
    have HSUM := Lib.hid (sum8 v)
    clear hp
    generalize sumTo (fun j => v (3 + j)) 8 = s at *
    have HK := Lib.hid fun u => (KeepsOthers.setCell W ⟨w.heap.size + 1, 0, none⟩ u).same D _ hK rfl
    have HC5 := Lib.hid fun u => cell_kept (World.cell?_setCell_same' W ⟨w.heap.size + 1, 0, none⟩ u (by rw [hcr]; rfl)) (grownBy_putObj' _ D (.deferred none)) (fun r e => by cases e; exact ⟨_, HK.out u, rfl⟩)
    have HBF := Lib.hid fun u => (hB.out.setCell (p := ⟨w.heap.size + 1, 0, none⟩) (by show _ ≤ _ + 1; omega) u).trans (belowK_b (w := w) (Nat.le_refl _) _ D _ (.deferred none) (by omega) (HK.out u) rfl rfl)
    by_cases h3 : v 3 = 0
    · by_cases h11 : v 11 = 0
      · have HS := Lib.hid (HSUM.out h3 (fun k hk => HP.out k (List.mem_range.2 hk)))
        have H3 := Lib.hid h3
        have H11 := Lib.hid h11
        rw [h3] at c3
        rw [h11] at c11
        clear h3 h11
        by_cases hs : s ≤ 2147483647
        · gi_wp2_with (refine ⟨trivial, ?_⟩; gi_at_call 29; refine (callsIn_wide.2 HF.out).mono ?_; rintro e w' ⟨rfl, rfl⟩)
          refine ⟨by simp, .inl ⟨_, _, rfl, run_takeDeferred (HK.out _), ?_⟩⟩
          have hc5 := HC5.out (.bool (v 2 == s))
          refine ⟨.bool (v 2 == s), ?_, ⟨_, rfl, ?_⟩, HBF.out _⟩
          · simp [results, Tryd.f18, go_sem, hc5]

          · have h := HS.out.1
            rw [beq_iff_eq]
            refine ⟨fun e => ⟨fun k hk => HP.out k (List.mem_range.2 hk), H3.out, H11.out, by omega⟩, fun e => ?_⟩
            have := e.2.2.2
            omega
        · have hs2 : 2147483647 < s := by omega
          clear hs
          gi_wp2_with (refine ⟨trivial, ?_⟩; gi_at_call 29; refine (callsIn_wide.2 HF.out).mono ?_; rintro e w' ⟨rfl, rfl⟩)
          refine ⟨by simp, .inl ⟨_, _, rfl, run_takeDeferred (HK.out _), ?_⟩⟩
          have hc5 := HC5.out (.bool (v 2 == 2147483647))
          refine ⟨.bool (v 2 == 2147483647), ?_, ⟨_, rfl, ?_⟩, HBF.out _⟩
          · simp [results, Tryd.f18, go_sem, hc5]

          · have h := HS.out.1
            rw [beq_iff_eq]
            refine ⟨fun e => ⟨fun k hk => HP.out k (List.mem_range.2 hk), H3.out, H11.out, by omega⟩, fun e => ?_⟩
            have := e.2.2.2
            omega
      · rw [h3] at c3
        have b11 : (v 11 == 0) = false := by simpa using h11
        have H11 := Lib.hid h11
        clear h11 h3
        gi_wp2_with (refine ⟨trivial, ?_⟩; gi_at_call 29; refine (callsIn_wide.2 HF.out).mono ?_; rintro e w' ⟨rfl, rfl⟩)
        refine ⟨by simp, .inl ⟨_, _, rfl, run_takeDeferred (HK.out _), ?_⟩⟩
        have hc5 := HC5.out (.bool (false))
        refine ⟨.bool (false), ?_, ⟨_, rfl, ?_⟩, HBF.out _⟩
        · simp [results, Tryd.f18, go_sem, hc5]

        · exact ⟨fun h => (by cases h), fun h => absurd h.2.2.1 H11.out⟩
    · have b3 : (v 3 == 0) = false := by simpa using h3
      have H3 := Lib.hid h3
      clear h3
      gi_wp2_with (refine ⟨trivial, ?_⟩; gi_at_call 29; refine (callsIn_wide.2 HF.out).mono ?_; rintro e w' ⟨rfl, rfl⟩)
      refine ⟨by simp, .inl ⟨_, _, rfl, run_takeDeferred (HK.out _), ?_⟩⟩
      have hc5 := HC5.out (.bool (false))
      refine ⟨.bool (false), ?_, ⟨_, rfl, ?_⟩, HBF.out _⟩
      · simp [results, Tryd.f18, go_sem, hc5]

      · exact ⟨fun h => (by cases h), fun h => absurd h.2.1 H3.out⟩
  case stop =>
    rintro D c pre W hD ⟨k, hk, rfl⟩ ⟨rfl, ⟨i, hi, hni⟩, hR, hB⟩ hK
    have HN := Lib.hid hni
    have HI := Lib.hid (List.mem_range.1 hi)
    have hcr : W.cell? ⟨w.heap.size + 1, 0, none⟩ = some (.bool false) := (cell_of_block hR.out).trans rfl
    have HC5 := Lib.hid (cell_kept hcr (grownBy_putObj' _ D (.deferred none)) (fun r e => by cases e; exact ⟨_, hK, rfl⟩))
    have HBF := Lib.hid (hB.out.trans (belowK_b (w := w) (Nat.le_refl _) W D _ (.deferred none) (by omega) hK rfl rfl))
    clear hi hni
    gi_wp2
    refine ⟨by simp, .inl ⟨_, _, rfl, run_takeDeferred hK, ?_⟩⟩
    have hc5 := HC5.out
    refine ⟨.bool false, ?_, ⟨_, rfl, ?_⟩, HBF.out⟩
    · simp [results, Tryd.f18, go_sem, hc5]
    · exact ⟨fun h => (by cases h), fun h => absurd (h.1 i (Nat.lt_of_lt_of_le HI.out hk)) HN.out⟩
theorem Right_any (v : Nat → Int) (w : World) : Calls Tryd.prog 18 #[.agg (stC v)] w fun e W' => (∃ t, e = .returned (.bool t) ∧ (t = true ↔ RightV v)) ∧ Below w.heap.size w W' :=
  (callsIn_wide (n := 3)).1 (right_in 3 (Nat.le_refl _) v w)
end Go.Proofs.YtfojhmobnedekaaDoor
