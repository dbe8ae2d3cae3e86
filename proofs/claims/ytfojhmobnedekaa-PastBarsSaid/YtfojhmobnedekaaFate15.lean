/- Rows of fates: what is lent, and kept. Conditions: rows are shorter than 2 to the 40. -/
import Derived.Test.YtfojhmobnedekaaFate14
namespace Go.Proofs.Ytfojhmobnedekaa
open Go.RowKit

structure Ft where
  k : Int
  b : Int
  a : Int
  p : Int
deriving DecidableEq
instance : Inhabited Ft := ⟨⟨0, 0, 0, 0⟩⟩
def Ft.cells (x : Ft) : List Value := [.int .i64 x.k, .int .i64 x.b, .int .i64 x.a, .int .i64 x.p]
def Ft.v (x : Ft) : Value := .agg #[.int .i64 x.k, .int .i64 x.b, .int .i64 x.a, .int .i64 x.p]
def fcs (l : List Ft) : List Value := l.flatMap Ft.cells
theorem fcs_append (a b : List Ft) : fcs (a ++ b) = fcs a ++ fcs b := by simp [fcs]
theorem length_fcs : ∀ l : List Ft, (fcs l).length = l.length * 4
  | [] => rfl
  | x :: l => by
    show (x.cells ++ fcs l).length = _
    rw [List.length_append, length_fcs l]; simp [Ft.cells]; omega
theorem fcs_get : ∀ (l : List Ft) (k j : Nat) (h : k < l.length), j < 4 → (fcs l)[k * 4 + j]? = (l[k]).cells[j]?
  | x :: l, 0, j, _, hj => by
    show (x.cells ++ fcs l)[0 * 4 + j]? = _
    rw [List.getElem?_append_left (by simp [Ft.cells]; omega)]; simp
  | x :: l, k + 1, j, h, hj => by
    have h1 : (k + 1) * 4 + j = 4 + (k * 4 + j) := by omega
    show (x.cells ++ fcs l)[(k + 1) * 4 + j]? = _
    rw [h1, List.getElem?_append_right (by simp [Ft.cells])]
    have := fcs_get l k j (by simpa using h) hj
    simpa [Ft.cells] using this
theorem fcs_one (l : List Ft) : ∀ u ∈ fcs l, u.oneCell' = true := by
  intro u hu
  obtain ⟨x, _, hx⟩ := List.mem_flatMap.1 hu
  simp [Ft.cells] at hx
  rcases hx with rfl | rfl | rfl | rfl <;> rfl

structure RF (w : World) (a : Option Addr) (n cap : Nat) (l : List Ft) : Prop where
  len : l.length = n
  le : n ≤ cap
  most : cap ≤ 140737488351232
  nil : a = none → cap = 0
  at_ : ∀ j u, (fcs l)[j]? = some u → ∃ b off, a = some ⟨b, off, none⟩ ∧ w.cell? ⟨b, off + j, none⟩ = some u
theorem RF.below {w w' : World} {a : Option Addr} {n cap : Nat} {l : List Ft} (h : RF w a n cap l) (hB : Below w.heap.size w w') : RF w' a n cap l :=
  ⟨h.len, h.le, h.most, h.nil, fun j u hu => by
    obtain ⟨b, off, e, hc⟩ := h.at_ j u hu
    exact ⟨b, off, e, (hB.cell (block_lt_of_cell hc)).trans hc⟩⟩
theorem RF.drawn {w w' : World} {a : Option Addr} {n cap : Nat} {l : List Ft} (h : RF w a n cap l) (hB : Drawn w w') : RF w' a n cap l := by
  obtain ⟨q, rfl⟩ := hB; exact h.below (below_drewN (Below.refl _ _) _)
/-- The four numbers of one. -/
theorem RF.four {w : World} {a : Option Addr} {n cap : Nat} {l : List Ft} (h : RF w a n cap l) {k : Nat} (hk : k < n) :
    ∃ b off, ∃ x : Ft, a = some ⟨b, off, none⟩ ∧ l[k]? = some x ∧ w.cell? ⟨b, off + k * 4, none⟩ = some (.int .i64 x.k) ∧ w.cell? ⟨b, off + k * 4 + 1, none⟩ = some (.int .i64 x.b) ∧ w.cell? ⟨b, off + k * 4 + 2, none⟩ = some (.int .i64 x.a) ∧ w.cell? ⟨b, off + k * 4 + 3, none⟩ = some (.int .i64 x.p) := by
  have hk2 : k < l.length := by rw [h.len]; exact hk
  obtain ⟨b, off, e, h0⟩ := h.at_ (k * 4 + 0) _ ((fcs_get l k 0 hk2 (by omega)).trans rfl)
  have hc : ∀ j (_ : j < 4) u (_ : (l[k]).cells[j]? = some u), w.cell? ⟨b, off + (k * 4 + j), none⟩ = some u := fun j hj u hu => by
    obtain ⟨b2, off2, e2, h1⟩ := h.at_ (k * 4 + j) _ ((fcs_get l k j hk2 hj).trans hu)
    rw [e] at e2
    obtain ⟨rfl, rfl⟩ : b = b2 ∧ off = off2 := by injection e2 with e2; injection e2 with e3 e4; exact ⟨e3, e4⟩
    exact h1
  exact ⟨b, off, l[k], e, List.getElem?_eq_getElem hk2, hc 0 (by omega) _ rfl, by simpa [Nat.add_assoc] using hc 1 (by omega) _ rfl, by simpa [Nat.add_assoc] using hc 2 (by omega) _ rfl, by simpa [Nat.add_assoc] using hc 3 (by omega) _ rfl⟩
theorem RF.of_block {w : World} {g cap : Nat} {l m : List Ft} {t : TypeId} {fr : Nat × Nat} (hg : w.heap[g]? = some (.cells (fcs (l ++ m)).toArray t fr)) (hc : l.length ≤ cap) (hm : cap ≤ 140737488351232) : RF w (some ⟨g, 0, none⟩) l.length cap l where
  len := rfl
  le := hc
  most := hm
  nil h := by cases h
  at_ j u hu := ⟨g, 0, rfl, by
    have hlt := (List.getElem?_eq_some_iff.1 hu).1
    rw [Nat.zero_add, cell_of_block hg, List.getElem?_toArray, fcs_append, List.getElem?_append_left hlt, hu]⟩

theorem info24 : (Try.prog.info? 24).map (·.size) = some 4 := by kernel_rfl
theorem info24_ : (Try.prog.info? 24).map (fun i => (i.zero, i.size, i.bytes)) = some (some (.agg #[.int .i64 0, .int .i64 0, .int .i64 0, .int .i64 0]), 4, 32) := by kernel_rfl
theorem markF_exists : ∃ f : Int → Int → Int, ∀ k i w, Calls Try.prog 66 #[.int .i64 k, .int .i64 i] w fun e w' => e = .returned (.agg #[.int .i64 0, .int .i64 (f k i), .int .i64 0, .int .i64 0]) ∧ w' = w.alloc (.cells #[.int .i64 0, .int .i64 (f k i), .int .i64 0, .int .i64 0] 24) := by
  refine ⟨fun k i => wrap64 (wrap64 (1000003 * wrap64 (k + 7)) + i), fun k i w => ?_⟩
  have H := Lib.hid fun w => mark_any k i w
  show Calls Try.prog 66 #[.int .i64 k, .int .i64 i] w fun e w' => e = .returned (.agg #[.int .i64 0, .int .i64 (wrap64 (wrap64 (1000003 * wrap64 (k + 7)) + i)), .int .i64 0, .int .i64 0]) ∧ w' = w.alloc (.cells #[.int .i64 0, .int .i64 (wrap64 (wrap64 (1000003 * wrap64 (k + 7)) + i)), .int .i64 0, .int .i64 0] 24)
  generalize wrap64 (wrap64 (1000003 * wrap64 (k + 7)) + i) = x at *
  go_enter Try.func66, Try.ntmps66
  go_wp2_with (go_at_call 86; refine (H.out _).mono ?_; rintro e w' ⟨rfl, rfl⟩)
  have h2 := heap_alloc_new w (.cells #[.int .i64 0, .int .i64 x, .int .i64 0, .int .i64 0] 24)
  exact bodyPost_ret (v := .agg #[.int .i64 0, .int .i64 x, .int .i64 0, .int .i64 0]) (results_cell_row rfl _ _ _ _ _ _ _ rfl h2 Try.underlying24 rfl info24) rfl ⟨rfl, rfl⟩
/-- The marks behind what is lent. -/
noncomputable def mkF : Int → Int → Int := Classical.choose markF_exists
theorem markFate_any (k i : Int) (w : World) : Calls Try.prog 66 #[.int .i64 k, .int .i64 i] w fun e w' => e = .returned (.agg #[.int .i64 0, .int .i64 (mkF k i), .int .i64 0, .int .i64 0]) ∧ w' = w.alloc (.cells #[.int .i64 0, .int .i64 (mkF k i), .int .i64 0, .int .i64 0] 24) := Classical.choose_spec markF_exists k i w
noncomputable def fmk (i : Nat) : Ft := ⟨0, mkF 1 (i : Int), 0, 0⟩
noncomputable def fmarks (k : Nat) : List Ft := (List.range k).map fmk
theorem length_fmarks (k : Nat) : (fmarks k).length = k := by simp [fmarks]
theorem fmarks_succ (k : Nat) : fmarks (k + 1) = fmarks k ++ [fmk k] := by unfold fmarks; rw [List.range_succ, List.map_append]; rfl
theorem cell_new4 (w : World) (v0 v1 v2 v3 : Value) : ∀ j u, [v0, v1, v2, v3][j]? = some u → (w.alloc (.cells #[v0, v1, v2, v3] 24)).cell? ((⟨w.heap.size, 0, none⟩ : Addr).add j) = some u := by
  intro j u hu
  rw [Addr.add_lit, Nat.zero_add, cell_of_block (heap_alloc_new _ _)]
  simpa using hu
theorem full_row4 {w : World} {B g n : Nat} {xs : List Value} (h : w.ownsRow B 24 4 (.slice (some ⟨g, 0, none⟩) n n) n xs) : w.heap[g]? = some (.cells xs.toArray 24 (0, 0)) := by
  obtain ⟨h1, h2⟩ := h
  rcases h2 with ⟨h2, _⟩ | ⟨g', cap, cur, hv, hg, hh, hn, hc, hs, ht⟩
  · cases h2
  · obtain ⟨rfl, rfl⟩ : g = g' ∧ n = cap := by injection hv with e1 e2 e3; injection e1 with e1; injection e1 with e1; exact ⟨e1, e3⟩
    rw [hh, ← ht, List.take_of_length_le (by simp [hs])]
def FLRel (w : World) (n : Nat) (l : List Ft) (v i : Value) (wr : World) : Prop := ∃ k : Nat, k ≤ 12 ∧ i = .int .i64 k ∧ v = .slice (some ⟨w.heap.size, 0, none⟩) (n + k) (n + 12) ∧ wr.ownsRow w.heap.size 24 4 (.slice (some ⟨w.heap.size, 0, none⟩) (n + k) (n + 12)) (n + k) (fcs (l ++ fmarks k)) ∧ Below w.heap.size w wr
set_option maxHeartbeats 1600000 in
set_option maxRecDepth 100000 in
/-- LentFates: a copy in a block of its own, with marks behind. -/
theorem lentF_any {w : World} {a : Option Addr} {n cap : Nat} {l : List Ft} (h : RF w a n cap l) (hn : n ≤ 1000000) :
    Calls Try.prog 25 #[.slice a n cap] w fun e w' => ∃ g, e = .returned (.slice (some ⟨g, 0, none⟩) n (n + 12)) ∧ w.heap.size ≤ g ∧ w'.heap[g]? = some (.cells (fcs (l ++ fmarks 12)).toArray 24 (0, 0)) ∧ Below w.heap.size w w' := by
  obtain ⟨i0, hi, hz0, hz1, hz2⟩ := info_parts info24_
  have hle := h.le
  have hnone := h.nil
  have H := Lib.hid h
  clear h
  go_enter Try.func25, Try.ntmps25
  go_wp2_with (refine wpList_make_own _ rfl (.const (.int .i64 0)) (.tmp 7) 46 rfl w.heap.size 24 i0 (.agg #[.int .i64 0, .int .i64 0, .int .i64 0, .int .i64 0]) 4 Try.underlying46 hi hz0 hz1 .i64 .i64 _ (n + 12) rfl rfl ?_ ?_ ?_ ?_ ?_)
  · omega
  · rw [hz2]; omega
  · unfold maxLen; omega
  · exact Nat.le_refl _
  intro w1 hown hg1
  have HG1 := Lib.hid hg1
  have HO := Lib.hid hown
  clear hown hg1
  go_wp2_with (refine wpList_append_fits_any _ rfl (.tmp 9) (.tmp 10) 46 rfl w.heap.size 24 i0 4 Try.underlying46 hi hz1 w.heap.size 0 (n + 12) [] rfl HO.out a n cap (fcs l) rfl ?_ ?_ ?_ (fcs_one l) ?_ ?_)
  · rw [length_fcs, H.out.len]
  · intro ha; have := hnone ha; omega
  · intro ad had j u hu
    obtain ⟨b, off, hb, hc⟩ := H.out.at_ j u hu
    rw [had] at hb
    obtain rfl := Option.some.inj hb
    rw [Addr.add_lit]
    exact (HG1.out.cell hc (by simp))
  · omega
  intro w2 hown2 hg2
  have HG2 := Lib.hid hg2
  have HO2 := Lib.hid hown2
  clear hown2 hg2
  go_wp2_with fail
  go_loopw [3, 4] (fun v i wr => FLRel w n l v i wr) (fun _ i _ => 12 - (intOf i).toNat)
  case atStart => exact ⟨0, by omega, rfl, rfl, by rw [show fmarks 0 = [] from rfl, List.append_nil]; exact HO2.out, ((Below.refl _ _).grown HG1.out (Nat.le_refl _) (fun k e => by cases e)).grown HG2.out HG1.out.size (fun k e => by cases e; exact Nat.le_refl _)⟩
  case round =>
    obtain ⟨k, hk, rfl, rfl, hown, hB⟩ := hrel
    have HO3 := Lib.hid hown
    have HB := Lib.hid hB
    have hsz := hB.size
    clear hown hB
    by_cases hk2 : k < 12
    · have hal := (HO3.out.alloc (.cells #[.int .i64 0, .int .i64 (mkF 1 k), .int .i64 0, .int .i64 0] 24)).alloc (.cells #[.int .i64 0, .int .i64 (mkF 1 k), .int .i64 0, .int .i64 0] 24)
      have HA := Lib.hid hal
      have HCN := Lib.hid (cell_new4 (wr.alloc (.cells #[.int .i64 0, .int .i64 (mkF 1 k), .int .i64 0, .int .i64 0] 24)) (.int .i64 0) (.int .i64 (mkF 1 k)) (.int .i64 0) (.int .i64 0))
      clear hal
      rw [World.size_alloc] at HCN
      go_wp2_with (first
        | (go_at_call 66; refine (markFate_any _ _ _).mono ?_; rintro e w' ⟨rfl, rfl⟩)
        | (at_builtin; refine wpList_append_fits _ rfl (.tmp 16) (.tmp 19) 46 rfl w.heap.size 24 i0 4 Try.underlying46 hi hz1 w.heap.size (n + k) (n + 12) (fcs (l ++ fmarks k)) rfl HA.out ⟨wr.heap.size + 1, 0, none⟩ 1 1 [.int .i64 0, .int .i64 (mkF 1 k), .int .i64 0, .int .i64 0] rfl rfl HCN.out (by simp [Value.oneCell']) (by omega) ?_; intro w4 hown4 hg4; have HO4 := Lib.hid hown4; have HG4 := Lib.hid hg4; clear hown4 hg4))
      go_roundw
      case rel => exact ⟨k + 1, by omega, by go_num, rfl, by rw [fmarks_succ, ← List.append_assoc, fcs_append]; exact HO4.out, ((HB.out.alloc hsz _).alloc (by simp; omega) _).grown HG4.out (by simp; omega) (fun j e => by cases e; exact Nat.le_refl _)⟩
      case measure => simp [intOf]; omega
    · obtain rfl : k = 12 := by omega
      have hf := full_row4 HO3.out
      have HF := Lib.hid hf
      clear hf
      go_wp2_with fail
      go_ret
      exact ⟨_, rfl, Nat.le_refl _, HF.out, HB.out⟩
end Go.Proofs.Ytfojhmobnedekaa
