/- The walk of lagr's over. Conditions: rows are shorter than 2 to the 47. -/
import Derived.Test.YtokeoodkioobdaaLagr1
import Derived.Test.YtokeoodkioobdaaLagrM
namespace Go.Proofs.Ytokeoodkioobdaa
open Go.RowKit

/-- At block q stands a worker: its field, its points, its products. -/
def IsW (w : World) (q p : Nat) (a : Option Addr) (n c : Nat) (v : Value) : Prop := w.heap[q]? = some (.cells #[.pointer (some ⟨p, 0, none⟩), .slice a n c, v] 92 (0, 0))
/-- The products of the first k. -/
def aparts (l : List Nat) (n k : Nat) : List Nat := (List.range k).map fun i => Gf.pEx l i (l.getD i 0) n
theorem aparts_succ (l : List Nat) (n k : Nat) : aparts l n (k + 1) = aparts l n k ++ [Gf.pEx l k (l.getD k 0) n] := by simp [aparts, List.range_succ]
theorem length_aparts (l : List Nat) (n k : Nat) : (aparts l n k).length = k := by simp [aparts]
theorem aparts_get (l : List Nat) (n k i : Nat) (h : i < k) : (aparts l n k).getD i 0 = Gf.pEx l i (l.getD i 0) n := by
  unfold aparts; rw [List.getD_eq_getElem?_getD, List.getElem?_map, List.getElem?_range h]; rfl
theorem aparts_small (l : List Nat) (n k : Nat) : Small (aparts l n k) := Small.of_mem fun x hx => by
  obtain ⟨i, _, rfl⟩ := List.mem_map.1 hx; exact Gf.pEx_lt _ _ _ _

structure OverAt (w : World) (l : List Nat) (a : Option Addr) (n c p q k : Nat) (wr : World) : Prop where
  own : ∃ v, IsW wr q p a n c v ∧ wr.ownsRow w.heap.size 5 1 v k (bs (aparts l n k))
  field : IsF wr p
  below : Below w.heap.size w wr
  q : w.heap.size ≤ q
  p : w.heap.size ≤ p

theorem own_succ {w : World} {B e k : Nat} {v : Value} {xs : List Value} (h : w.ownsRow B e 1 v (k + 1) xs) : ∃ g cap, v = .slice (some ⟨g, 0, none⟩) (k + 1) cap := by
  obtain ⟨_, h2⟩ := h
  rcases h2 with ⟨_, h2⟩ | ⟨g, cap, cur, rfl, _⟩
  · omega
  · exact ⟨g, cap, rfl⟩
theorem own_other {w : World} {B q k : Nat} {v : Value} {xs : List Value} {cs : Array Value} {t : TypeId} (h : w.ownsRow B 5 1 v k xs) (hq : w.heap[q]? = some (.cells cs t (0, 0))) (ht : t ≠ 5) : v.ownBlock ≠ some q := by
  obtain ⟨_, h2⟩ := h
  rcases h2 with ⟨rfl, _⟩ | ⟨g, cap, cur, rfl, _, hh, _⟩
  · intro e; cases e
  · intro e
    have e : g = q := by injection e
    subst e
    rw [hh] at hq
    injection hq with e2
    injection e2 with _ e3
    exact ht e3.symm
theorem over_grow {w wo w2 : World} {l : List Nat} {a : Option Addr} {n c p q k : Nat} {v v' : Value} (hA : OverAt w l a n c p q k wo) (q0 t : Nat) (hv : IsW wo q p a n c v) (hown : wo.ownsRow w.heap.size 5 1 v k (bs (aparts l n k)))
    (hown' : w2.ownsRow w.heap.size 5 1 v' (k + 1) (bs (aparts l n k) ++ [.int .u8 (t : Nat)])) (hg : ((wo.drewN q0).alloc (.cells #[.int .u8 (t : Nat)] 5)).grownBy w2 v.ownBlock) :
    w2.heap[q]? = some (.cells #[.pointer (some ⟨p, 0, none⟩), .slice a n c, v] 92 (0, 0)) ∧ (t = Gf.pEx l k (l.getD k 0) n → OverAt w l a n c p q (k + 1) (w2.setCell ⟨q, 2, none⟩ v')) := by
  have hq := lt_of_block hv
  have hp := hA.field.lt
  have e1 : ∀ b, b < wo.heap.size → some b ≠ v.ownBlock → w2.heap[b]? = wo.heap[b]? := fun b hb hne => by
    rw [hg.block b (by simp; omega) hne, Below.heap_alloc _ _ _ (by simpa using hb)]; rfl
  have hq2 : w2.heap[q]? = some (.cells #[.pointer (some ⟨p, 0, none⟩), .slice a n c, v] 92 (0, 0)) := (e1 q hq (own_other hown hv (by decide)).symm).trans hv
  have hp2 : IsF w2 p := (e1 p hp (own_other hown hA.field (by decide)).symm).trans hA.field
  have hpq : p ≠ q := fun e => by
    subst e
    have := hp2.symm.trans hq2
    injection this with e2
    injection e2 with _ e3
    exact absurd e3 (by decide)
  refine ⟨hq2, fun ht => ⟨⟨v', heap_setCell_same w2 q 2 _ 92 v' hq2, ?_⟩, ?_, ?_, hA.q, hA.p⟩⟩
  · rw [aparts_succ, bs_append, ← ht]
    exact ownsRow_setCell_other hown' (own_other hown' hq2 (by decide)) v'
  · exact (heap_setCell_other w2 ⟨q, 2, none⟩ p v' hpq).trans hp2
  · exact (((below_drewN hA.below q0).alloc hA.below.size _).grown hg (by simp; exact Nat.le_succ_of_le hA.below.size) (fun j e => (hown.lt j e).1)).setCell hA.q _

set_option maxHeartbeats 1600000 in
set_option maxRecDepth 100000 in
theorem over_any {w : World} {a : Option Addr} {n c : Nat} {l : List Nat} (h : RB w a n c l) :
    Calls Try.prog 94 #[.slice a n c] w fun e w' => ∃ p q, e = .returned (.pointer (some ⟨q, 0, none⟩)) ∧ OverAt w l a n c p q n w' := by
  have hm1 := h.most
  have hl1 := h.le
  have H := Lib.hid h
  clear h
  obtain ⟨i0, hi, hz0, hz1, hz2⟩ := info_parts info5
  go_enter Try.func94, Try.ntmps94
  go_wp2_with fail
  refine (new_any _).mono ?_
  rintro e w1 ⟨p, rfl, hp, hf, hB⟩
  have hof : OverAt w l a n c p w1.heap.size 0 (w1.alloc (.cells #[.pointer (some ⟨p, 0, none⟩), .slice a n c, .slice none 0 0] 92)) :=
    ⟨⟨_, heap_alloc_new _ _, World.ownsRow_nil _ _ _ _⟩, hf.below ((Below.refl _ _).alloc (Nat.le_refl _) _) hf.lt, hB.alloc hB.size _, hB.size, hp⟩
  have HO := Lib.hid hof
  clear hof hB hf
  go_wp2_with fail
  go_loopw [15] (fun i wr => ∃ k : Nat, k ≤ n ∧ i = .int .i64 k ∧ OverAt w l a n c p w1.heap.size k wr) (fun i _ => n - (intOf i).toNat)
  case atStart => exact ⟨0, by omega, rfl, HO.out⟩
  case round =>
    obtain ⟨k, hk, rfl, hA⟩ := hrel
    have HA := Lib.hid hA
    clear hA
    by_cases hk1 : k < n
    · have hd : decide (k < n) = true := by simp; omega
      have hd2 : decide ((k : Int) < (n : Int)) = true := by simp; omega
      obtain ⟨b1, o1, rfl, hc1⟩ := (H.out.below HA.out.below).at_ k hk1
      have hx := H.out.small k
      obtain ⟨x, hxe⟩ : ∃ x, x = l.getD k 0 := ⟨_, rfl⟩
      rw [← hxe] at hc1 hx
      have HX := Lib.hid hxe
      clear hxe
      go_wp2_with fail
      clear hc1
      obtain ⟨wo, rfl⟩ : ∃ wo : World, wo = wr := ⟨_, rfl⟩
      go_loopw [6, 22] (fun s i wr => ∃ m t : Nat, m ≤ n ∧ i = .int .i64 m ∧ s = .int .u8 t ∧ t < 256 ∧ Hid (t = Gf.pEx l k x m) ∧ Drawn wo wr) (fun _ i _ => n - (intOf i).toNat)
      case atStart => exact ⟨0, 1, by omega, rfl, rfl, by omega, rfl, Drawn.refl _⟩
      case round =>
        obtain ⟨m, t, hm, rfl, rfl, ht, hpk, hD⟩ := hrel
        have HD := Lib.hid hD
        by_cases hm2 : m < n
        · obtain ⟨b2, o2, hb2, hc2⟩ := (H.out.below HA.out.below).at_ m hm2
          obtain ⟨rfl, rfl⟩ : b1 = b2 ∧ o1 = o2 := by injection hb2 with e; injection e with e1 e2; exact ⟨e1, e2⟩
          have c2 := (hD.cell _).trans hc2
          have hy := H.out.small m
          obtain ⟨v, hv, _⟩ := HA.out.own
          have c0 : wr.cell? ⟨w1.heap.size, 0, none⟩ = some (.pointer (some ⟨p, 0, none⟩)) := (hD.cell _).trans ((cell_of_block hv).trans rfl)
          obtain ⟨y, hye⟩ : ∃ y, y = l.getD m 0 := ⟨_, rfl⟩
          rw [← hye] at c2 hy
          have HY := Lib.hid hye
          have hxy := Gf.xor_lt hx hy
          have hq1 : ∀ W, Hid (Calls Try.prog 24 #[.int .u8 (x : Nat), .int .u8 (y : Nat)] W fun e w' => e = .returned (.int .u8 (x ^^^ y : Nat)) ∧ W = w') := fun W => add_any x y hx hy W
          have hq2 : ∀ q, Hid (Calls Try.prog 23 #[.pointer (some ⟨p, 0, none⟩), .int .u8 (t : Nat), .int .u8 (x ^^^ y : Nat)] (wr.drewN q) fun e w' => e = .returned (.int .u8 (Gf.mul t (x ^^^ y) : Nat)) ∧ ∃ n, w' = (wr.drewN q).drewN n) := fun q => mul_any (by obtain ⟨q0, rfl⟩ := hD; exact HA.out.field) ht hxy
          have HQ1 := Lib.hid hq1
          have HQ2 := Lib.hid hq2
          clear hq1 hq2 hye hv hc2 hb2 hD
          by_cases hmk : m = k
          · have hs : t = Gf.pEx l k x (m + 1) := by rw [hpk.out, hmk, Gf.pEx_skip]
            have HS := Lib.hid hs
            have e1 : ((m : Int) == (k : Int)) = true := by simp [hmk]
            have l1 : m ≤ k := by omega
            have l2 : k ≤ m := by omega
            clear hs hmk e1
            go_wp2_with fail
            go_roundw
            case rel => exact ⟨m + 1, t, by omega, by go_num, rfl, ht, HS, HD.out⟩
            case measure => simp [intOf]; omega
          · have hs : Gf.mul t (x ^^^ y) = Gf.pEx l k x (m + 1) := by rw [hpk.out, Gf.pEx_more _ _ hmk, HY.out]
            have hl3 : Gf.mul t (x ^^^ y) < 256 := Gf.mul_lt ht
            have HS := Lib.hid hs
            have e1 : ((m : Int) == (k : Int)) = false := by simp; omega
            clear hs
            generalize Gf.mul t (x ^^^ y) = r at *
            generalize x ^^^ y = z at *
            go_wp2_with fail
            go_quiet (first | (go_at_call 24; exact quiet_same (HQ1.out _).out) | (go_at_call 23; exact Calls.quiet_of (HQ2.out _).out))
            go_wp2_with fail
            go_roundw
            case rel => exact ⟨m + 1, r, by omega, by go_num, rfl, hl3, HS, HD.out.more _⟩
            case measure => simp [intOf]; omega
        · obtain rfl : m = n := by omega
          obtain ⟨q0, rfl⟩ := hD
          obtain ⟨v, hv, hown⟩ := HA.out.own
          have c2 : wo.cell? ⟨w1.heap.size, 2, none⟩ = some v := (cell_of_block hv).trans rfl
          have hal : ((wo.drewN q0).alloc (.cells #[.int .u8 (t : Nat)] 5)).ownsRow w.heap.size 5 1 v k (bs (aparts l m k)) := (show (wo.drewN q0).ownsRow w.heap.size 5 1 v k (bs (aparts l m k)) from hown).alloc _
          have HV := Lib.hid hv
          have HOW := Lib.hid hown
          have HAL := Lib.hid hal
          have hsz : w.heap.size ≤ wo.heap.size := HA.out.below.size
          clear hv hown hal
          go_wp2_with (at_builtin; refine wpList_append_own _ rfl (.tmp 44) (.tmp 46) 31 rfl w.heap.size 5 i0 (.int .u8 0) 1 1 Try.underlying31 hi hz0 hz1 hz2 rfl (by decide) v k (bs (aparts l m k)) rfl HAL.out ⟨wo.heap.size, 0, none⟩ 1 1 [.int .u8 (t : Nat)] rfl rfl (cell_new _ _) (one_u8 _) (by unfold maxLen; omega) (by omega) (by simp; omega) ?_; intro v' w2 hown2 hg2 _; obtain ⟨g2, cap2, rfl⟩ := own_succ hown2; have hq2 := over_grow HA.out q0 t HV.out HOW.out hown2 hg2; have HQ2 := Lib.hid hq2.2; have hq3 := hq2.1; have cq : w2.cell? ⟨w1.heap.size, 2, none⟩ = some v := (cell_of_block hq3).trans rfl; have fq : w2.frozen? ⟨w1.heap.size, 2, none⟩ = false := frozen_of_block hq3; clear hq2 hq3 hown2 hg2)
          go_roundw
          case rel => exact ⟨k + 1, by omega, by go_num, HQ2.out (by rw [hpk.out, HX.out])⟩
          case measure => simp [intOf]; omega
    · obtain rfl : k = n := by omega
      go_wp2_with fail
      go_ret
      exact ⟨_, _, rfl, HA.out⟩
end Go.Proofs.Ytokeoodkioobdaa
