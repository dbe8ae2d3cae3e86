/- The walk of poly's degree. After the kit's worked text on slices.All. Conditions: rows are shorter than 2 to the 47. -/
import Derived.Test.YtokeoodkioobdaaPoly1
namespace Go.Proofs.Ytokeoodkioobdaa
open Go.RowKit Go.Shelf

attribute [local go_sem] Oper.semAt_some

/-- How many bytes are left without noughts at the end, of the first k. -/
def ln (zs : List Nat) : Nat → Nat
  | 0 => 0
  | k + 1 => if zs[k]?.getD 0 = 0 then ln zs k else k + 1
theorem ln_zero {zs : List Nat} : ∀ {k : Nat}, (∀ j, j < k → zs[j]?.getD 0 = 0) → ln zs k = 0
  | 0, _ => rfl
  | k + 1, h => by
    show (if _ then _ else _) = 0
    rw [if_pos (h k (by omega))]; exact ln_zero fun j hj => h j (by omega)
theorem ln_hit {zs : List Nat} {j : Nat} (h0 : zs[j]?.getD 0 ≠ 0) : ∀ {k : Nat}, j < k → (∀ i, j < i → i < k → zs[i]?.getD 0 = 0) → ln zs k = j + 1
  | 0, h, _ => absurd h (by omega)
  | k + 1, h, hz => by
    show (if _ then _ else _) = _
    by_cases e : j = k
    · subst e; rw [if_neg h0]
    · rw [if_pos (hz k (by omega) (by omega))]; exact ln_hit h0 (by omega) fun i h1 h2 => hz i h1 (by omega)
theorem ln_le (zs : List Nat) : ∀ k, ln zs k ≤ k
  | 0 => Nat.le_refl _
  | k + 1 => by
    show (if _ then _ else _) ≤ _
    split
    · exact Nat.le_succ_of_le (ln_le zs k)
    · exact Nat.le_refl _
theorem mem_dn {n k j : Nat} (hk : k ≤ n) : j ∈ dn n k ↔ n - k ≤ j ∧ j < n := by
  simp only [dn, List.mem_map, List.mem_range]
  exact ⟨fun ⟨i, h1, h2⟩ => by omega, fun h => ⟨n - 1 - j, by omega, by omega⟩⟩

set_option maxRecDepth 100000 in
set_option maxHeartbeats 2000000 in
theorem degree_in (F : Fence) (n : Nat) (h4 : F.fn 92) (h6 : F.fn 110) (h8 : F.fn 131) (hro : F.round = none) (hn : 3 ≤ n) (a : Option Addr) (len cap : Nat) (zs : List Nat) (w : World) (hI : RB w a len cap zs) :
    CallsIn F n Try.prog 92 #[.slice a len cap] w fun e W' => e = .returned (.int .i64 ((ln zs len : Nat) - 1)) ∧ Below w.heap.size w W' := by
  have h1 : 1 ≤ n := by omega
  have hm := hI.most
  have hab : ∀ b off, a = some ⟨b, off, none⟩ → 0 < len → b < w.heap.size := fun b off e hl => by
    obtain ⟨b', off', e', hc⟩ := hI.at_ 0 hl
    rw [e] at e'; injection e' with e'; injection e' with e1 e2; subst e1; exact block_lt_of_cell hc
  have HI := Lib.hid hI
  have HAB := Lib.hid hab
  clear hI hab
  refine callsIn_of_wp_marks Try.func92 rfl h4 ?_ hro
  simp only [Try.ntmps92, List.size_toArray, List.length_cons, List.length_nil, Nat.reduceAdd, Nat.reduceSub, Array.replicate_succ, Array.replicate_zero, List.push_toArray, List.append_toArray, List.nil_append, List.cons_append]
  gi_wp2_with (gi_at_call 110; refine (back_in F (n - 1) h6 hro _ _ _ _).mono ?_; rintro e w' ⟨rfl, rfl⟩)
  have bR := Boxed.new w 3 (.int .i64 0)
  have bN := Boxed.new (w.alloc (.cells #[.int .i64 0] 3)) 31 (.slice a len cap)
  rw [World.size_alloc] at bN
  have hB0 : Below w.heap.size w ((w.alloc (.cells #[.int .i64 0] 3)).alloc (.cells #[.slice a len cap] 31)) := ((Below.refl _ w).alloc (Nat.le_refl _) _).alloc (by simp) _
  refine wpIn_rangeFunc_ownG hro h1 (gf := 131) (lb := #[.pointer (some ⟨w.heap.size + 1, 0, none⟩)]) rfl h8 (enters_of Try.func131 (by kernel_rfl) rfl)
    (back_stops F (n - 1) h8 hro (by omega) (w.heap.size + 1) w.heap.size a len cap zs hm _ (by simp) (by simp; omega) HAB.out (rd_of bN.cell (HI.out.below hB0))) kb_t (kb_b (by simp; omega) (by simp)) (Below.refl _ _) (fun _ => rfl)
    (fun pre W => ((∀ p ∈ pre, zs[p]?.getD 0 = 0) ∧ W.cell? ⟨w.heap.size, 0, none⟩ = some (.int .i64 0) ∧ W.frozen? ⟨w.heap.size, 0, none⟩ = false) ∧ Below w.heap.size w W)
    (fun c pre W => (c = .ret ∧ ∃ ini last, pre = ini ++ [last] ∧ (∀ p ∈ ini, zs[p]?.getD 0 = 0) ∧ zs[last]?.getD 0 ≠ 0 ∧ W.cell? ⟨w.heap.size, 0, none⟩ = some (.int .i64 (last : Nat))) ∧ Below w.heap.size w W)
    (OwnFrom.and (Own.from (fun s A B row hs hg hr => ⟨hs.1, cell_kept hs.2.1 hg hr, (frozen_kept hs.2.1 hg hr).trans hs.2.2⟩) _) (ownFrom_below (Nat.le_refl _) (by simp; omega)))
    (fun c => OwnFrom.and (Own.from (fun s A B row hs hg hr => by obtain ⟨hc, ini, last, e1, e2, e3, e4⟩ := hs; exact ⟨hc, ini, last, e1, e2, e3, cell_kept e4 hg hr⟩) _) (ownFrom_below (Nat.le_refl _) (by simp; omega)))
    ⟨⟨by simp, (bR.alloc _).cell, (bR.alloc _).frozen⟩, hB0⟩
    (fun x => { tmps := #[.slice a len cap, undef, .pointer (some ⟨w.heap.size, 0, none⟩), .int .i64 (x : Nat), .int .u8 (zs[x]?.getD 0 : Nat), .slice a len cap, .func (.func 131) #[] #[.pointer (some ⟨w.heap.size + 1, 0, none⟩)], .int .i64 (x : Nat), .int .u8 (zs[x]?.getD 0 : Nat), undef, undef, undef], defers := [] }) ?assign ?body ?done ?stop
  case assign =>
    intro l x W K hK
    gi_wp2
    exact hK
  case body =>
    rintro l pre x W ⟨⟨hp, hcr, hfr⟩, hB⟩ _
    have HP := Lib.hid hp
    have HB := Lib.hid hB
    clear hp hB
    by_cases hv : zs[x]?.getD 0 = 0
    · have HV := Lib.hid hv
      rw [hv]
      clear hv
      gi_wp2
      exact ⟨KeepsFrom.refl _ _, Kb.refl _ _ _, ⟨fun p hp' => (List.mem_append.1 hp').elim (HP.out p) (fun e => by simp at e; subst e; exact HV.out), hcr, hfr⟩, HB.out⟩
    · have HV := Lib.hid hv
      have hne : ((zs[x]?.getD 0 : Nat) : Int) ≠ 0 := by omega
      generalize zs[x]?.getD 0 = v at hne ⊢
      clear hv
      gi_wp2
      exact ⟨(KeepsOthers.setCell _ _ _).from _, ⟨rfl, pre, x, rfl, HP.out, HV.out, World.cell?_setCell_same' _ _ _ (by rw [hcr]; rfl)⟩, HB.out.setCell (p := ⟨w.heap.size, 0, none⟩) (Nat.le_refl _) _⟩
  case done =>
    rintro D ys W hD rfl ⟨⟨hne, hcr, hfr⟩, hB⟩ hK
    have hl : ln zs len = 0 := ln_zero fun j hj => hne j ((mem_dn (Nat.le_refl _)).2 ⟨by omega, hj⟩)
    have HL := Lib.hid hl
    have HB := Lib.hid hB
    clear hne hB hl
    gi_wp2
    have hK' := (KeepsOthers.setCell W ⟨w.heap.size, 0, none⟩ (.int .i64 (-1))).same D _ hK rfl
    refine ⟨by simp, .inl ⟨_, _, rfl, run_takeDeferred hK', ?_⟩⟩
    have hc5 := cell_kept (World.cell?_setCell_same' W ⟨w.heap.size, 0, none⟩ (.int .i64 (-1)) (by rw [hcr]; rfl)) (grownBy_putObj' _ D (.deferred none)) (fun r e => by cases e; exact ⟨_, hK', rfl⟩)
    refine ⟨.int .i64 (-1), ?_, (by rw [HL.out]; rfl), (HB.out.setCell (p := ⟨w.heap.size, 0, none⟩) (Nat.le_refl _) _).trans (belowK_b (w := w) (Nat.le_refl _) _ D _ _ (by simp at hD; omega) hK' rfl rfl)⟩
    simp [results, Try.f92, go_sem, hc5]
  case stop =>
    rintro D c pre W hD ⟨k, hk, rfl⟩ ⟨⟨rfl, ini, last, e1, e2, e3, hcr⟩, hB⟩ hK
    obtain ⟨k', rfl⟩ : ∃ k', k = k' + 1 := by
      cases k with
      | zero => simp [dn] at e1
      | succ k' => exact ⟨k', rfl⟩
    rw [dn_succ] at e1
    obtain ⟨rfl, e5⟩ := List.append_inj' e1 rfl
    obtain rfl : len - 1 - k' = last := by simpa using e5
    have hl : ln zs len = len - 1 - k' + 1 := ln_hit e3 (by omega) fun i h1 h2 => e2 i ((mem_dn (by omega)).2 ⟨by omega, h2⟩)
    have hl2 : ((ln zs len : Nat) : Int) - 1 = (len - 1 - k' : Nat) := by omega
    have HL := Lib.hid hl2
    have HB := Lib.hid hB
    clear e1 e2 e3 e5 hl hl2 hB
    generalize len - 1 - k' = q at *
    gi_wp2
    refine ⟨by simp, .inl ⟨_, _, rfl, run_takeDeferred hK, ?_⟩⟩
    have hc5 := cell_kept hcr (grownBy_putObj' _ D (.deferred none)) (fun r e => by cases e; exact ⟨_, hK, rfl⟩)
    refine ⟨.int .i64 (q : Nat), ?_, (by rw [HL.out]), HB.out.trans (belowK_b (w := w) (Nat.le_refl _) W D _ _ (by simp at hD; omega) hK rfl rfl)⟩
    simp [results, Try.f92, go_sem, hc5]
end Go.Proofs.Ytokeoodkioobdaa
