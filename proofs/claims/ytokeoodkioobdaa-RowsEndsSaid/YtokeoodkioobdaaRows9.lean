/- The walks of the rows' laws' size and awake; matrices that a call made, to be read. Conditions: rows are shorter than 2 to the 47. -/
import Derived.Test.YtokeoodkioobdaaRows8
import Derived.Test.YtokeoodkioobdaaRowsC
namespace Go.Proofs.Ytokeoodkioobdaa
open Go.RowKit

/-- How many rows and bytes there are, by the first k rows. -/
def szTo (N : Nat) (X : Nat → List Nat) : Nat → Nat
  | 0 => N
  | k + 1 => szTo N X k + (X k).length
theorem szTo_ge (N : Nat) (X : Nat → List Nat) : ∀ k, N ≤ szTo N X k
  | 0 => Nat.le_refl _
  | k + 1 => Nat.le_trans (szTo_ge N X k) (Nat.le_add_right _ _)
theorem szTo_row (N : Nat) (X : Nat → List Nat) : ∀ k i, i < k → (X i).length ≤ szTo N X k
  | 0, _, h => absurd h (by omega)
  | k + 1, i, h => by
    show _ ≤ szTo N X k + (X k).length
    by_cases e : i = k
    · subst e; omega
    · have := szTo_row N X k i (by omega); omega

theorem szTo_mono (N : Nat) (X : Nat → List Nat) {k j : Nat} (h : k ≤ j) : szTo N X k ≤ szTo N X j := by
  induction j with
  | zero => obtain rfl : k = 0 := by omega
            exact Nat.le_refl _
  | succ j ih =>
    by_cases e : k = j + 1
    · subst e; exact Nat.le_refl _
    · exact Nat.le_trans (ih (by omega)) (Nat.le_add_right _ _)
set_option maxHeartbeats 1600000 in
set_option maxRecDepth 100000 in
theorem size_any {w : World} {a : Option Addr} {N c : Nat} {X : Nat → List Nat} (hN : N ≤ 140737488351232) (h : RR w (.slice a N c) N X) :
    Calls Try.prog 68 #[.slice a N c] w fun e w' => (∃ v : Nat, e = .returned (.int .i64 (v : Nat)) ∧ Hid (v ≤ 562949953421312 ∧ v ≤ szTo N X N ∧ (v ≤ 900 → szTo N X N = v))) ∧ w = w' := by
  have H := Lib.hid h
  clear h
  go_enter Try.func68, Try.ntmps68
  go_wp2_with fail
  go_loop [3, 4] (fun n i => ∃ k v : Nat, k ≤ N ∧ i = .int .i64 k ∧ n = .int .i64 (v : Nat) ∧ v ≤ 281474976710656 ∧ Hid (szTo N X k = v)) (fun _ i => N - (intOf i).toNat)
  case atStart => exact ⟨0, N, Nat.zero_le _, rfl, rfl, by omega, rfl⟩
  case round =>
    obtain ⟨k, v, hk, rfl, rfl, hv, HV⟩ := hrel
    by_cases hk1 : k < N
    · have d1 : decide ((k : Int) < (N : Int)) = true := by simp; omega
      have d2 : decide (k < N) = true := by simp; omega
      by_cases hv9 : v ≤ 900
      · have d3 : decide ((v : Int) ≤ 900) = true := by simp; omega
        obtain ⟨a', c', e, hX⟩ := H.out.shape
        injection e with e1 e2 e3
        subst e1; subst e3; clear e2
        obtain ⟨b1, o1, a1, n1, c1, rfl, hc1, hr1⟩ := hX k hk1
        have hm := hr1.most
        have HN := Lib.hid (show szTo N X (k + 1) = v + n1 by show szTo N X k + (X k).length = _; rw [HV.out, hr1.len])
        clear hX hr1
        go_wp2_with fail
        go_round
        case rel => exact ⟨k + 1, v + n1, by omega, by go_num, by go_num, by omega, HN⟩
        case measure => simp [intOf]; omega
      · have d3 : decide ((v : Int) ≤ 900) = false := by simp; omega
        go_wp2_with fail
        go_ret
        exact ⟨⟨v, rfl, ⟨by omega, by rw [← HV.out]; exact szTo_mono N X hk, fun h => absurd h hv9⟩⟩, rfl⟩
    · obtain rfl : k = N := by omega
      have d1 : decide ((k : Int) < (k : Int)) = false := by simp
      go_wp2_with fail
      go_ret
      exact ⟨⟨v, rfl, ⟨by omega, by rw [HV.out]; exact Nat.le_refl _, fun _ => HV.out⟩⟩, rfl⟩

/-- A grid reads as a list of rows. -/
theorem GridTo.rr2 {w : World} {B N g W : Nat} {p c : Nat → Nat} {X : Nat → List Nat} (h : GridTo w B (.slice (some ⟨g, 0, none⟩) N N) N N p c X) (hs : ∀ i, i < N → Small (X i)) (hl : ∀ i, i < N → (X i).length = W) (hW : W ≤ 100000) : RR w (.slice (some ⟨g, 0, none⟩) N N) N X :=
  h.rr fun i hi => ⟨hs i hi, by rw [hl i hi]; exact hW⟩
theorem isM_of {N W : Nat} {X : Nat → List Nat} (hN : N ≤ 255) (hW : W ≤ 255) (hl : ∀ i, i < N → (X i).length = W) (h0 : N = 0 → W = 0) : isM N X ∧ colsX N X = W := by
  have hc : colsX N X = W := by
    unfold colsX
    by_cases e : N = 0
    · rw [if_pos e, h0 e]
    · rw [if_neg e]; exact hl 0 (by omega)
  exact ⟨⟨hN, by rw [hc]; exact hW, fun k hk => by rw [hc]; exact hl k hk⟩, hc⟩
theorem mulX_len (X Y : Nat → List Nat) (M C i : Nat) : (mulX X Y M C i).length = C := Gf.mmr_len _ _ _ _
theorem mulX_small {X Y : Nat → List Nat} {M C i : Nat} (h : Small (X i)) : Small (mulX X Y M C i) := small_at0.2 fun c => Gf.mmr_byt (small_at0.1 h) c
theorem unitX_small (n i : Nat) : Small (Gf.unitX n i) := byt_small (Gf.unitX_byt n) i

def RowsGive (w : World) (N : Nat) (X : Nat → List Nat) (e : Ending) (w' : World) : Prop := ∃ g, e = .returned (.tuple #[.slice (some ⟨g, 0, none⟩) N N, .int .i64 0]) ∧ Hid (RR w' (.slice (some ⟨g, 0, none⟩) N N) N X) ∧ Hid (Below w.heap.size w w')
theorem mul_give {w : World} {a b : Option Addr} {N M C c d : Nat} {X Y : Nat → List Nat} (h : RR w (.slice a N c) N X) (h2 : RR w (.slice b M d) M Y) (hx : isM N X) (hy : isM M Y) (hxy : colsX N X = M) (hC : colsX M Y = C) :
    Calls Try.prog 69 #[.slice a N c, .slice b M d] w (RowsGive w N (mulX X Y M C)) := by
  subst hC
  refine (Mul_ok h h2 ⟨hx, hy, hxy⟩).mono ?_
  rintro e w' ⟨g, p, q, rfl, hG, hB⟩
  exact ⟨g, rfl, hG.rr2 (fun i hi => mulX_small (h.small i hi)) (fun i _ => mulX_len _ _ _ _ i) (by have := hy.2.1; omega), hB⟩
theorem unit_give {w : World} {n : Nat} (hn : n ≤ 255) : Calls Try.prog 70 #[.int .i64 (n : Nat)] w (RowsGive w n (Gf.unitX n)) := by
  refine (Unit_ok hn).mono ?_
  rintro e w' ⟨g, p, d, rfl, hG, hB⟩
  exact ⟨g, rfl, hG.rr2 (fun i _ => unitX_small n i) (fun i _ => Gf.unitX_len n i) (by omega), hB⟩
theorem inv_give {w : World} {a : Option Addr} {N c : Nat} {X : Nat → List Nat} (h : RR w (.slice a N c) N X) (hx : isM N X) (hxy : colsX N X = N) (hr : Gf.rdN (cut N X N) N N = N) : Calls Try.prog 74 #[.slice a N c] w (RowsGive w N (Gf.invX (cut N X N) N)) := by
  have hN := hx.1
  refine (Inverse_any h hx hxy).mono ?_
  rintro e w' ⟨hB, ⟨h1, _⟩ | ⟨_, g, p, d, rfl, hG⟩⟩
  · omega
  · exact ⟨g, rfl, hG.rr2 (fun i _ => byt_small (Gf.invX_byt _ _) i) (fun i _ => Gf.invX_long _ _ i) (by omega), hB⟩
theorem inv_sing {w : World} {a : Option Addr} {N c : Nat} {X : Nat → List Nat} (h : RR w (.slice a N c) N X) (hx : isM N X) (hxy : colsX N X = N) (hr : Gf.rdN (cut N X N) N N < N) : Calls Try.prog 74 #[.slice a N c] w fun e w' => e = .returned (.tuple #[.slice none 0 0, .int .i64 7]) ∧ Below w.heap.size w w' := by
  refine (Inverse_any h hx hxy).mono ?_
  rintro e w' ⟨hB, ⟨_, rfl⟩ | ⟨h1, _⟩⟩
  · exact ⟨rfl, hB⟩
  · omega

/-- Two rows of two bytes. -/
def twoX (x0 x1 y0 y1 : Nat) : Nat → List Nat := fun i => if i = 0 then [x0, x1] else [y0, y1]
theorem rr_two {w : World} {x0 x1 y0 y1 : Nat} (h0 : x0 < 256) (h1 : x1 < 256) (h2 : y0 < 256) (h3 : y1 < 256) :
    RR (((w.alloc (.cells #[.int .u8 (x0 : Nat), .int .u8 (x1 : Nat)] 5)).alloc (.cells #[.int .u8 (y0 : Nat), .int .u8 (y1 : Nat)] 5)).alloc (.cells #[.slice (some ⟨w.heap.size, 0, none⟩) 2 2, .slice (some ⟨w.heap.size + 1, 0, none⟩) 2 2] 31)) (.slice (some ⟨w.heap.size + 1 + 1, 0, none⟩) (2 : Nat) (2 : Nat)) 2 (twoX x0 x1 y0 y1) := by
  have r0 : RB (w.alloc (.cells #[.int .u8 (x0 : Nat), .int .u8 (x1 : Nat)] 5)) (some ⟨w.heap.size, 0, none⟩) 2 2 [x0, x1] := RB.of_block (l := [x0, x1]) (m := []) (heap_alloc_new _ _) (Small.of_mem (by simp; omega)) (Nat.le_refl _) (by omega)
  have r1 := RB.of_block (w := (w.alloc (.cells #[.int .u8 (x0 : Nat), .int .u8 (x1 : Nat)] 5)).alloc (.cells #[.int .u8 (y0 : Nat), .int .u8 (y1 : Nat)] 5)) (l := [y0, y1]) (m := []) (cap := 2) (t := 5) (fr := (0, 0)) (g := w.heap.size + 1) (by have := heap_alloc_new (w.alloc (.cells #[.int .u8 (x0 : Nat), .int .u8 (x1 : Nat)] 5)) (.cells #[.int .u8 (y0 : Nat), .int .u8 (y1 : Nat)] 5); rw [World.size_alloc] at this; exact this) (Small.of_mem (by simp; omega)) (Nat.le_refl _) (by omega)
  have hb := heap_alloc_new ((w.alloc (.cells #[.int .u8 (x0 : Nat), .int .u8 (x1 : Nat)] 5)).alloc (.cells #[.int .u8 (y0 : Nat), .int .u8 (y1 : Nat)] 5)) (.cells #[.slice (some ⟨w.heap.size, 0, none⟩) 2 2, .slice (some ⟨w.heap.size + 1, 0, none⟩) 2 2] 31)
  rw [World.size_alloc, World.size_alloc] at hb
  refine ⟨_, _, rfl, fun k hk => ?_⟩
  match k, hk with
  | 0, _ => exact ⟨_, 0, _, _, _, rfl, (cell_of_block hb).trans rfl, (r0.alloc _).alloc _⟩
  | 1, _ => exact ⟨_, 0, _, _, _, rfl, (cell_of_block hb).trans rfl, r1.alloc _⟩
theorem two_M (x0 x1 y0 y1 : Nat) : isM 2 (twoX x0 x1 y0 y1) ∧ colsX 2 (twoX x0 x1 y0 y1) = 2 :=
  isM_of (by omega) (by omega) (fun i hi => by unfold twoX; split <;> rfl) (by omega)
theorem aw_rank : Gf.rdN (cut 2 (twoX 1 1 0 2) 2) 2 2 = 2 := by decide +kernel
theorem aw_inv : ∀ i, i < 2 → Gf.invX (cut 2 (twoX 1 1 0 2) 2) 2 i = twoX 1 142 0 142 i := by decide +kernel
theorem aw_sing : Gf.rdN (cut 2 (twoX 1 1 1 1) 2) 2 2 = 1 := by decide +kernel
end Go.Proofs.Ytokeoodkioobdaa
