/- The walk of poly's add (a polynomial by a byte, onto a row). Conditions: rows are shorter than 2 to the 47. -/
import Derived.Test.YtokeoodkioobdaaPoly4
namespace Go.Proofs.Ytokeoodkioobdaa
open Go.RowKit

/-- Nothing that lay has turned, but block g. -/
structure Only (g : Nat) (w w' : World) : Prop where
  below : ∀ B, B ≤ g → B ≤ w.heap.size → Below B w w'
  block : ∀ b, b < w.heap.size → b ≠ g → w'.heap[b]? = w.heap[b]?
  size : w.heap.size ≤ w'.heap.size
theorem Only.refl (g : Nat) (w : World) : Only g w w := ⟨fun _ _ _ => Below.refl _ _, fun _ _ _ => rfl, Nat.le_refl _⟩
theorem Only.drawn {g : Nat} {w w' : World} (h : Only g w w') (q : Nat) : Only g w (w'.drewN q) := ⟨fun B h1 h2 => below_drewN (h.below B h1 h2) q, h.block, h.size⟩
theorem Only.alloc {g : Nat} {w w' : World} (h : Only g w w') (o : Obj) : Only g w (w'.alloc o) :=
  ⟨fun B h1 h2 => (h.below B h1 h2).alloc (Nat.le_trans h2 h.size) o, fun b hb hg => (Below.heap_alloc w' o b (Nat.lt_of_lt_of_le hb h.size)).trans (h.block b hb hg), Nat.le_trans h.size (by simp)⟩
theorem Only.set {g : Nat} {w w' : World} (h : Only g w w') (i : Nat) (v : Value) : Only g w (w'.setCell ⟨g, i, none⟩ v) :=
  ⟨fun B h1 h2 => (h.below B h1 h2).setCell (p := ⟨g, i, none⟩) h1 v, fun b hb hg => (Below.heap_setCell w' ⟨g, i, none⟩ v b hg).trans (h.block b hb hg), ((h.below 0 (Nat.zero_le _) (Nat.zero_le _)).setCell (p := ⟨g, i, none⟩) (Nat.zero_le _) v).size⟩
theorem RB.only {w w' : World} {a : Option Addr} {n cap g : Nat} {l : List Nat} (h : RB w a n cap l) (hB : Only g w w') (hg : ∀ b off, a = some ⟨b, off, none⟩ → b ≠ g) : RB w' a n cap l :=
  ⟨h.len, h.le, h.most, h.small, h.nil, fun i hi => by
    obtain ⟨b, off, e, hc⟩ := h.at_ i hi
    exact ⟨b, off, e, (World.cell?_of_block (hB.block b (block_lt_of_cell hc) (hg _ _ e))).trans hc⟩⟩
theorem IsF.only {w w' : World} {p g : Nat} (h : IsF w p) (hB : Only g w w') (hg : p ≠ g) : IsF w' p := (hB.block p h.lt hg).trans h

theorem own_set {w : World} {B g n c i x : Nat} {l : List Nat} (h : w.ownsRow B 5 1 (.slice (some ⟨g, 0, none⟩) n c) n (bs l)) : (w.setCell ⟨g, i, none⟩ (.int .u8 (x : Nat))).ownsRow B 5 1 (.slice (some ⟨g, 0, none⟩) n c) n (bs (l.set i x)) := by
  obtain ⟨h1, h2⟩ := h
  rw [length_bs, Nat.mul_one] at h1
  rcases h2 with ⟨h2, _⟩ | ⟨g', cap, cur, e, hg, hh, hn2, hc, hsz, ht⟩
  · cases h2
  · injection e with e1 e2 e3
    injection e1 with e1
    injection e1 with e1 _ _
    subst e1; subst e3
    refine ⟨by rw [length_bs, List.length_set]; omega, .inr ⟨g, c, cur.setIfInBounds i (.int .u8 (x : Nat)), rfl, hg, heap_setCell_same w g i cur 5 _ hh, hn2, hc, by simpa using hsz, ?_⟩⟩
    rw [Nat.mul_one] at ht ⊢
    have e : bs (l.set i x) = (bs l).set i (.int .u8 (x : Nat)) := by simp [bs, List.map_set]
    rw [e, ← ht, Array.toList_setIfInBounds, List.take_set]
theorem own_cell {w : World} {B g n c i : Nat} {l : List Nat} (h : w.ownsRow B 5 1 (.slice (some ⟨g, 0, none⟩) n c) n (bs l)) (hi : i < n) : w.cell? ⟨g, i, none⟩ = some (.int .u8 (l.getD i 0 : Nat)) ∧ w.frozen? ⟨g, i, none⟩ = false := by
  obtain ⟨h1, h2⟩ := h
  rw [length_bs, Nat.mul_one] at h1
  rcases h2 with ⟨h2, _⟩ | ⟨g', cap, cur, e, hg, hh, hn2, hc, hsz, ht⟩
  · cases h2
  · injection e with e1 e2 e3
    injection e1 with e1
    injection e1 with e1 _ _
    subst e1
    refine ⟨?_, frozen_of_block hh⟩
    have e := bs_get l i (by omega)
    rw [cell_of_block hh, ← e, ← ht]
    simp [hi]

/-- A polynomial by a byte, added from a place on: the first k. -/
def xadd (X : List Nat) (at_ : Nat) (l : List Nat) (y : Nat) : Nat → List Nat
  | 0 => X
  | k + 1 => (xadd X at_ l y k).set (at_ + k) ((xadd X at_ l y k).getD (at_ + k) 0 ^^^ Gf.mul (l.getD k 0) y)
theorem length_xadd (X : List Nat) (at_ : Nat) (l : List Nat) (y : Nat) : ∀ k, (xadd X at_ l y k).length = X.length
  | 0 => rfl
  | k + 1 => by show (List.set _ _ _).length = _; rw [List.length_set, length_xadd X at_ l y k]
theorem getD_set (l : List Nat) (i j x : Nat) (hi : i < l.length) : (l.set i x).getD j 0 = if i = j then x else l.getD j 0 := by
  rw [List.getD_eq_getElem?_getD, List.getElem?_set, List.getD_eq_getElem?_getD]
  split
  · rename_i h; subst h; rfl
  · rfl
theorem xadd_get {X l : List Nat} {at_ y : Nat} : ∀ {k : Nat}, at_ + k ≤ X.length → ∀ j, (xadd X at_ l y k).getD j 0 = if at_ ≤ j ∧ j < at_ + k then X.getD j 0 ^^^ Gf.mul (l.getD (j - at_) 0) y else X.getD j 0
  | 0, _, j => by rw [if_neg (by omega)]; rfl
  | k + 1, h, j => by
    show (List.set _ _ _).getD j 0 = _
    rw [getD_set _ _ _ _ (by rw [length_xadd]; omega), xadd_get (by omega), xadd_get (by omega)]
    by_cases e : at_ + k = j
    · subst e; rw [if_pos rfl, if_neg (by omega), if_pos (by omega), show at_ + k - at_ = k by omega]
    · rw [if_neg e]
      by_cases h2 : at_ ≤ j ∧ j < at_ + k
      · rw [if_pos h2, if_pos (by omega)]
      · rw [if_neg h2, if_neg (by omega)]
theorem xadd_small {X l : List Nat} {at_ y : Nat} (hX : Small X) (hl : Small l) {k : Nat} (h : at_ + k ≤ X.length) : Small (xadd X at_ l y k) := fun j => by
  rw [xadd_get h]
  split
  · exact Gf.xor_lt (hX j) (Gf.mul_lt (hl _))
  · exact hX j

set_option maxHeartbeats 1600000 in
set_option maxRecDepth 100000 in
theorem add111 {w : World} {B p g nt ct at_ y n c : Nat} {a : Option Addr} {X l : List Nat} (hy : y < 256) (hf : IsF w p) (hto : w.ownsRow B 5 1 (.slice (some ⟨g, 0, none⟩) nt ct) nt (bs X)) (hX : Small X) (hl : RB w a n c l)
    (hab : ∀ b off, a = some ⟨b, off, none⟩ → b ≠ g) (hn : at_ + n ≤ nt) (hnt : nt ≤ 140737488351232) :
    Calls Try.prog 111 #[.agg #[.pointer (some ⟨p, 0, none⟩)], .slice (some ⟨g, 0, none⟩) nt ct, .int .i64 (at_ : Nat), .slice a n c, .int .u8 (y : Nat)] w fun e w' => (∃ v, e = .returned v) ∧ w'.ownsRow B 5 1 (.slice (some ⟨g, 0, none⟩) nt ct) nt (bs (xadd X at_ l y n)) ∧ Only g w w' := by
  have hXl : X.length = nt := by have := hto.1; rwa [length_bs, Nat.mul_one] at this
  have hg : g < w.heap.size := by
    obtain ⟨_, h2⟩ := hto
    rcases h2 with ⟨h2, _⟩ | ⟨g', cap, cur, e, hg, hh, _⟩
    · cases h2
    · injection e with e1; injection e1 with e1; injection e1 with e1; subst e1; exact lt_of_block hh
  have hpg : p ≠ g := fun e => by
    subst e
    obtain ⟨_, h2⟩ := hto
    rcases h2 with ⟨h2, _⟩ | ⟨g', cap, cur, e, hg, hh, _⟩
    · cases h2
    · injection e with e1; injection e1 with e1; injection e1 with e1; subst e1
      have := hh.symm.trans hf
      injection this with e2
      injection e2 with _ e3
      exact absurd e3 (by decide)
  have hm := hl.most
  have HF := Lib.hid hf
  have HTO := Lib.hid hto
  have HL := Lib.hid hl
  have HX := Lib.hid hX
  have HAB := Lib.hid hab
  have HXL := Lib.hid hXl
  clear hf hto hl hX hab hXl
  go_enter Try.func111, Try.ntmps111
  go_wp2_with fail
  go_loopw [14] (fun i wr => ∃ k : Nat, k ≤ n ∧ i = .int .i64 k ∧ Hid (wr.ownsRow B 5 1 (.slice (some ⟨g, 0, none⟩) nt ct) nt (bs (xadd X at_ l y k))) ∧ Only g w wr ∧ wr.cell? ⟨w.heap.size, 0, none⟩ = some (.pointer (some ⟨p, 0, none⟩))) (fun i _ => n - (intOf i).toNat)
  case atStart =>
    exact ⟨0, by omega, rfl, HTO.out.alloc _, (Only.refl _ _).alloc _, (cell_of_block (heap_alloc_new _ _)).trans rfl⟩
  case round =>
    obtain ⟨k, hk, rfl, hown, hO, hbx⟩ := hrel
    have HO := Lib.hid hO
    by_cases hk1 : k < n
    · obtain ⟨b1, o1, rfl, hc1⟩ := (HL.out.only hO HAB.out).at_ k hk1
      have hx := HL.out.small k
      have hc2 := own_cell hown.out (i := at_ + k) (by omega)
      have hfr := hc2.2
      have hc3 := hc2.1
      have hsm : (xadd X at_ l y k).getD (at_ + k) 0 < 256 := xadd_small HX.out HL.out.small (by rw [HXL.out]; omega) _
      have hfw := HF.out.only hO hpg
      have hstep : ∀ W : World, W.heap = wr.heap → Hid ((W.setCell ⟨g, at_ + k, none⟩ (.int .u8 ((xadd X at_ l y k).getD (at_ + k) 0 ^^^ Gf.mul (l.getD k 0) y : Nat))).ownsRow B 5 1 (.slice (some ⟨g, 0, none⟩) nt ct) nt (bs (xadd X at_ l y (k + 1)))) := fun W hW => by
        have h : W.ownsRow B 5 1 (.slice (some ⟨g, 0, none⟩) nt ct) nt (bs (xadd X at_ l y k)) := by
          have := hown.out
          unfold World.ownsRow at this ⊢
          rw [hW]; exact this
        exact own_set h
      have HST := Lib.hid hstep
      generalize l.getD k 0 = x at *
      generalize (xadd X at_ l y k).getD (at_ + k) 0 = u at *
      have hl3 : Gf.mul x y < 256 := Gf.mul_lt hx
      have hxo := u8_xor_nat u (Gf.mul x y) hsm hl3
      have hq2 : ∀ W : World, W.heap = wr.heap → Hid (Calls Try.prog 23 #[.pointer (some ⟨p, 0, none⟩), .int .u8 (x : Nat), .int .u8 (y : Nat)] W fun e w' => e = .returned (.int .u8 (Gf.mul x y : Nat)) ∧ ∃ n, w' = W.drewN n) := fun W hW => mul_any (by unfold IsF; rw [hW]; exact hfw) hx hy
      have HQ2 := Lib.hid hq2
      generalize u ^^^ Gf.mul x y = r at *
      generalize Gf.mul x y = t at *
      have hn1 : g ≠ w.heap.size := by omega
      have hn2 : w.heap.size ≠ g := by omega
      have h1 : at_ + k < nt := by omega
      have ha : (at_ : Int) + (k : Int) = ((at_ + k : Nat) : Int) := by omega
      clear hc2 hstep hq2 hown hO hfw
      go_wp2_with fail
      obtain ⟨ak, hak⟩ : ∃ ak, ak = at_ + k := ⟨_, rfl⟩
      rw [← hak] at ha h1 hc3 hfr HST
      have hw : IntKind.i64.wrap ((at_ : Int) + (k : Int)) = (ak : Int) := by rw [ha]; exact IntWalk.i64_in _ (by omega)
      clear hak ha
      go_region_with (first
          | (go_at_call 23; ((with_reducible refine (HQ2.out _ ?_).out.mono ?_); rfl; rintro e w' ⟨rfl, nq, rfl⟩)))
      all_goals go_wp2_with fail
      all_goals go_roundw
      all_goals first
        | exact ⟨k + 1, by omega, by go_num, HST.out _ rfl, (HO.out.drawn _).set _ _, (World.cell?_of_block (heap_setCell_other (wr.drewN _) ⟨g, _, none⟩ w.heap.size _ hn2)).trans hbx⟩
        | (simp [intOf]; omega)
    · obtain rfl : k = n := by omega
      clear hO
      go_wp2_with fail
      go_end0
      exact ⟨⟨_, rfl⟩, hown.out, HO.out⟩
end Go.Proofs.Ytokeoodkioobdaa
