/- The walks of fate.Lands where it refuses, and of the law's awake. Conditions: rows are shorter than 2 to the 40. -/
import Derived.Test.YtfojhmobnedekaaFate8
namespace Go.Proofs.Ytfojhmobnedekaa
open Go.RowKit Go.Conc

set_option maxHeartbeats 1600000 in
set_option maxRecDepth 100000 in
theorem lands_bad {w : World} {k b al pl now : Int} (a : Option Addr) (n c : Nat) (h : ¬ (RightF k b al pl ∧ (0 ≤ now ∧ now ≤ 2147483647))) :
    Calls Try.prog 16 #[.agg #[.int .i64 k, .int .i64 b, .int .i64 al, .int .i64 pl], .slice a n c, .int .i64 now] w fun e w' => e = .returned (.tuple #[.slice none 0 0, .int .i64 2]) ∧ Below w.heap.size w w' := by
  have hB0 : Below w.heap.size w (w.alloc (.cells #[.int .i64 k, .int .i64 b, .int .i64 al, .int .i64 pl] 24)) := (Below.refl _ _).alloc (Nat.le_refl _) _
  have hbl := heap_alloc_new w (.cells #[.int .i64 k, .int .i64 b, .int .i64 al, .int .i64 pl] 24)
  have c0 : (w.alloc (.cells #[.int .i64 k, .int .i64 b, .int .i64 al, .int .i64 pl] 24)).cell? ⟨w.heap.size, 0, none⟩ = some (.int .i64 k) := (cell_of_block (j := 0) hbl).trans rfl
  have c1 : (w.alloc (.cells #[.int .i64 k, .int .i64 b, .int .i64 al, .int .i64 pl] 24)).cell? ⟨w.heap.size, 1, none⟩ = some (.int .i64 b) := (cell_of_block (j := 1) hbl).trans rfl
  have c2 : (w.alloc (.cells #[.int .i64 k, .int .i64 b, .int .i64 al, .int .i64 pl] 24)).cell? ⟨w.heap.size, 2, none⟩ = some (.int .i64 al) := (cell_of_block (j := 2) hbl).trans rfl
  have c3 : (w.alloc (.cells #[.int .i64 k, .int .i64 b, .int .i64 al, .int .i64 pl] 24)).cell? ⟨w.heap.size, 3, none⟩ = some (.int .i64 pl) := (cell_of_block (j := 3) hbl).trans rfl
  by_cases hr : RightF k b al pl
  · have H23 := Lib.hid fun W => (show Calls Try.prog 23 #[.agg #[.int .i64 k, .int .i64 b, .int .i64 al, .int .i64 pl]] W fun e w' => e = .returned (.bool true) ∧ Below W.heap.size W w' from decide_eq_true hr ▸ right_any k b al pl W)
    have H59 := Lib.hid fun W => within_is (n := now) (l := 0) (m := 2147483647) (t := false) (decide_eq_false fun h2 => h ⟨hr, h2⟩) W
    have HB0 := Lib.hid hB0
    clear hbl h hr hB0
    go_enter Try.func16, Try.ntmps16
    go_wp2_with fail
    refine (H23.out _).mono ?_
    rintro e w1 ⟨rfl, hB1⟩
    have HB1 := Lib.hid (HB0.out.trans (hB1.mono HB0.out.size))
    clear hB1
    go_wp2_with fail
    refine (H59.out _).mono ?_
    rintro e w2 ⟨rfl, rfl⟩
    go_wp2_with fail
    go_ret2
    exact ⟨rfl, HB1.out⟩
  · have H23 := Lib.hid fun W => (show Calls Try.prog 23 #[.agg #[.int .i64 k, .int .i64 b, .int .i64 al, .int .i64 pl]] W fun e w' => e = .returned (.bool false) ∧ Below W.heap.size W w' from decide_eq_false hr ▸ right_any k b al pl W)
    have HB0 := Lib.hid hB0
    clear hbl h hr hB0
    go_enter Try.func16, Try.ntmps16
    go_wp2_with fail
    refine (H23.out _).mono ?_
    rintro e w1 ⟨rfl, hB1⟩
    have HB1 := Lib.hid (HB0.out.trans (hB1.mono HB0.out.size))
    clear hB1
    go_wp2_with fail
    go_ret2
    exact ⟨rfl, HB1.out⟩

/-- A list of landings that can be read. -/
structure LdR (w : World) (v : Value) (L : List (Int × Int × List Nat)) : Prop where
  shape : ∃ a c, v = .slice a L.length c ∧ ∀ k (h : k < L.length), ∃ b o a1 n1 c1, a = some ⟨b, o, none⟩ ∧ w.cell? ⟨b, o + k * 3, none⟩ = some (.int .i64 L[k].1) ∧ w.cell? ⟨b, o + k * 3 + 1, none⟩ = some (.int .i64 L[k].2.1) ∧ w.cell? ⟨b, o + k * 3 + 2, none⟩ = some (.slice a1 n1 c1) ∧ RB w a1 n1 c1 L[k].2.2
theorem LdR.below {w w' : World} {v : Value} {L : List (Int × Int × List Nat)} (h : LdR w v L) (hB : Below w.heap.size w w') : LdR w' v L := by
  obtain ⟨a, c, rfl, hk⟩ := h.shape
  refine ⟨a, c, rfl, fun k h1 => ?_⟩
  obtain ⟨b, o, a1, n1, c1, e, e1, e2, e3, hr⟩ := hk k h1
  exact ⟨b, o, a1, n1, c1, e, (hB.cell (block_lt_of_cell e1)).trans e1, (hB.cell (block_lt_of_cell e2)).trans e2, (hB.cell (block_lt_of_cell e3)).trans e3, hr.below hB⟩
theorem LdR.drewN {w : World} {v : Value} {L : List (Int × Int × List Nat)} (h : LdR w v L) (q : Nat) : LdR (w.drewN q) v L := h.below (below_drewN (Below.refl _ _) q)
theorem cells_at : ∀ (ls : List Ld) (k j : Nat) (h : k < ls.length), j < 3 → (ls.flatMap Ld.cells)[k * 3 + j]? = (ls[k]).cells[j]?
  | x :: ls, 0, j, _, hj => by
    rw [List.flatMap_cons, List.getElem?_append_left (by simp [Ld.cells]; omega)]; simp
  | x :: ls, k + 1, j, h, hj => by
    have h1 : (k + 1) * 3 + j = 3 + (k * 3 + j) := by omega
    rw [List.flatMap_cons, h1, List.getElem?_append_right (by simp [Ld.cells])]
    have := cells_at ls k j (by simpa using h) hj
    simpa [Ld.cells] using this
theorem LandAt.rd {B n : Nat} {v : Value} {L : List (Int × Int × List Nat)} {w : World} (h : LandAt B v n L w) (hs : ∀ x ∈ L, Small x.2.2) (hn : n ≤ 140737488351232) : LdR w v L := by
  obtain ⟨ls, rfl, hln, ho, hm⟩ := h
  rcases ho.2 with ⟨rfl, h0⟩ | ⟨g, cap, cur, rfl, hb, hh, hnc⟩
  · exact ⟨none, 0, by rw [List.length_map, h0], fun k hk => by rw [List.length_map, h0] at hk; omega⟩
  · refine ⟨_, cap, by rw [List.length_map], fun k hk => ?_⟩
    have hk2 : k < ls.length := by simpa using hk
    have hc := fun j (hj : j < 3) u (hu : (ls[k]).cells[j]? = some u) => ho.cells (g := g) rfl (k * 3 + j) u ((cells_at ls k j hk2 hj).trans hu)
    have e0 := hc 0 (by omega) _ rfl
    have e1 := hc 1 (by omega) _ rfl
    have e2 := hc 2 (by omega) _ rfl
    rw [Addr.add_lit] at e0 e1 e2
    have hx : ls[k] ∈ ls := List.getElem_mem hk2
    have hr := own_rb2 (hm.own _ (List.mem_map_of_mem hx)) (by have := hs _ (List.mem_map_of_mem (f := Ld.tell) hx); exact this) (by rw [hln _ hx]; exact hn)
    refine ⟨g, 0, (ls[k]).r.a, (ls[k]).r.n, (ls[k]).r.c, rfl, ?_, ?_, ?_, ?_⟩
    · simpa [Ld.tell] using e0
    · simpa [Ld.tell, Nat.add_assoc] using e1
    · exact by simpa [Nat.add_assoc, R1.v] using e2
    · simpa [Ld.tell] using hr
theorem landsOf_small {k b al pl now : Int} {l : List Nat} (hs : Small l) : ∀ x ∈ landsOf k b al pl now l, Small x.2.2 := by
  intro x hx
  unfold landsOf at hx
  split at hx
  · rw [List.mem_singleton.1 hx]; exact hs
  · split at hx
    · simp at hx; rcases hx with rfl | rfl <;> exact hs
    · split at hx
      · rw [List.mem_singleton.1 hx]; exact fun i => Fm.turnI_small hs al i
      · simp at hx
theorem lands_rd {w : World} {k b al pl now : Int} {a : Option Addr} {n c : Nat} {l : List Nat} (h : RB w a n c l) (hr : RightF k b al pl) (hn : 0 ≤ now ∧ now ≤ 2147483647) :
    Calls Try.prog 16 #[.agg #[.int .i64 k, .int .i64 b, .int .i64 al, .int .i64 pl], .slice a n c, .int .i64 now] w fun e w' => ∃ v, e = .returned (.tuple #[v, .int .i64 0]) ∧ LdR w' v (landsOf k b al pl now l) ∧ Below w.heap.size w w' := by
  refine (lands_ok h hr hn).mono ?_
  rintro e w' ⟨v, rfl, hL, hB⟩
  exact ⟨v, rfl, hL.rd (landsOf_small h.small) h.most, hB⟩

theorem awake_lands : landsOf 3 3 9 0 5 [1, 2] = [(8, 0, [1, 0])] := by decide

set_option maxHeartbeats 1600000 in
set_option maxRecDepth 100000 in
theorem awake_any (w : World) : Calls Try.prog 14 #[] w fun e w' => e = .returned (.bool true) ∧ Below w.heap.size w w' := by
  have h16 : Calls Try.prog 16 #[.agg #[.int .i64 3, .int .i64 3, .int .i64 9, .int .i64 0], .slice (some ⟨w.heap.size, 0, none⟩) 2 2, .int .i64 5] (w.alloc (.cells #[.int .u8 1, .int .u8 2] 5)) fun e w' => ∃ b o c a1 n1 c1, e = .returned (.tuple #[.slice (some ⟨b, o, none⟩) (1 : Nat) c, .int .i64 0]) ∧ w'.cell? ⟨b, o, none⟩ = some (.int .i64 8) ∧ w'.cell? ⟨b, o + 2, none⟩ = some (.slice a1 n1 c1) ∧ Hid (RB w' a1 n1 c1 [1, 0]) ∧ Hid (Below w.heap.size w w') := by
    refine (lands_rd (two_rb w 1 2 (by omega) (by omega)) (by decide) (by decide)).mono ?_
    rintro e w' ⟨v, rfl, hL, hB⟩
    rw [awake_lands] at hL
    obtain ⟨a, c, rfl, hk⟩ := hL.shape
    obtain ⟨b, o, a1, n1, c1, rfl, e1, e2, e3, hr⟩ := hk 0 (by decide)
    exact ⟨b, o, c, a1, n1, c1, rfl, e1, e3, hr, ((Below.refl _ _).alloc (Nat.le_refl _) _).trans (hB.mono (by simp))⟩
  have H16 := Lib.hid h16
  clear h16
  go_enter Try.func14, Try.ntmps14
  go_wp2_with fail
  refine H16.out.mono ?_
  rintro e w1 ⟨b, o, c, a1, n1, c1, rfl, e1, e3, HR, HB⟩
  have h19 : Calls Try.prog 19 #[.slice a1 n1 c1, .slice (some ⟨w1.heap.size, 0, none⟩) 2 2] (w1.alloc (.cells #[.int .u8 1, .int .u8 0] 5)) fun e w' => e = .returned (.bool true) ∧ Below w1.heap.size w1 w' := by
    refine (same_any (HR.out.alloc _) (two_rb w1 1 0 (by omega) (by omega))).mono ?_
    rintro e w' ⟨rfl, q, rfl⟩
    exact ⟨rfl, below_drewN ((Below.refl _ _).alloc (Nat.le_refl _) _) _⟩
  have H19 := Lib.hid h19
  clear h19 H16
  go_wp2_with fail
  refine H19.out.mono ?_
  rintro e w2 ⟨rfl, hB2⟩
  have HB2 := Lib.hid (HB.out.trans (hB2.mono HB.out.size))
  clear hB2 H19
  go_wp2_with fail
  go_ret
  exact ⟨rfl, HB2.out⟩
end Go.Proofs.Ytfojhmobnedekaa
