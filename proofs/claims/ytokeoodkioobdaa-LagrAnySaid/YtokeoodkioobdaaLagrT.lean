/- The walk of lagr's Table, as LagrAny asks it; a polynomial's value, told plainly. Conditions: none. -/
import Derived.Test.YtokeoodkioobdaaLagr6
import Derived.Test.YtokeoodkioobdaaLagr5
import Derived.Test.YtokeoodkioobdaaRows9
import Derived.Test.YtokeoodkioobdaaLagrI
namespace Go.Proofs.Ytokeoodkioobdaa
open Go.RowKit

theorem Small.sm {l : List Nat} (h : Small l) : Gf.Sm l := fun _ hx => h.mem hx
theorem own_cells {w : World} {g n : Nat} {l : List Nat} (h : w.heap[g]? = some (.cells (bs l).toArray 5 (0, 0))) (hn : l.length = n) (hm : n ≤ 1000000) {B : Nat} (hB : B ≤ g) : w.ownsRow B 5 1 (.slice (some ⟨g, 0, none⟩) n n) n (bs l) := by
  subst hn
  refine ⟨by rw [length_bs, Nat.mul_one], .inr ⟨g, l.length, _, rfl, hB, h, Nat.le_refl _, by unfold maxLen; omega, by simp [bs], ?_⟩⟩
  rw [Nat.mul_one]
  exact List.take_of_length_le (by rw [length_bs]; exact Nat.le_refl _)
/-- The rows of a table. -/
def tabX (k : Nat) (t : Nat) : List Nat := wts (List.range k) k t
theorem tabX_small (k t : Nat) : Small (tabX k t) := wts_small _ _ _
theorem tabX_len (k t : Nat) : (tabX k t).length = k := length_wts _ _ _
theorem range_small {k : Nat} (h : k ≤ 256) : Small (List.range k) := Small.of_mem fun x hx => by have := List.mem_range.1 hx; omega
theorem range_succ_bs (k : Nat) : bs (List.range (k + 1)) = bs (List.range k) ++ [.int .u8 (k : Nat)] := by simp [bs, List.range_succ]

set_option maxHeartbeats 3200000 in
set_option maxRecDepth 100000 in
theorem Table_ok {w : World} {k n : Nat} (hk1 : 1 ≤ k) (hkn : k ≤ n) (hn : n ≤ 255) :
    Calls Try.prog 64 #[.int .i64 k, .int .i64 n] w fun e w' => ∃ v, e = .returned (.tuple #[v, .int .i64 0]) ∧ TabAt w' w.heap.size v n (tabX k) ∧ Below w.heap.size w w' := by
  obtain ⟨i0, hi, hz0, hz1, hz2⟩ := info_parts info5
  obtain ⟨i31, hj, hy0, hy1, hy2⟩ := info_parts info31
  have d1 : decide ((k : Int) < 1) = false := by simp; omega
  have d2 : decide ((n : Int) < (k : Int)) = false := by simp; omega
  have d2' : decide (n < k) = false := by simp; omega
  have d3 : decide (255 < (n : Int)) = false := by simp; omega
  go_enter Try.func64, Try.ntmps64
  go_wp2_with fail
  go_loopw [6, 22] (fun s i wr => ∃ j : Nat, j ≤ k ∧ i = .int .i64 j ∧ Hid (wr.ownsRow w.heap.size 5 1 s j (bs (List.range j))) ∧ Hid (Below w.heap.size w wr)) (fun _ i _ => k - (intOf i).toNat)
  case atStart => exact ⟨0, by omega, rfl, World.ownsRow_nil _ _ _ _, Below.refl _ _⟩
  case round =>
    obtain ⟨j, hj1, rfl, HO, HB⟩ := hrel
    by_cases hj2 : j < k
    · have hw1 : IntKind.u8.wrap (j : Int) = (j : Int) := IntWalk.u8_in _ (by omega)
      have HAL := Lib.hid (HO.out.alloc (.cells #[.int .u8 (j : Nat)] 5))
      have hsz : w.heap.size ≤ wr.heap.size := HB.out.size
      go_wp2_with (at_builtin; refine wpList_append_own _ rfl (.tmp 25) (.tmp 28) 31 rfl w.heap.size 5 i0 (.int .u8 0) 1 1 Try.underlying31 hi hz0 hz1 hz2 rfl (by decide) u6 j (bs (List.range j)) rfl HAL.out ⟨wr.heap.size, 0, none⟩ 1 1 [.int .u8 (j : Nat)] rfl rfl (cell_new _ _) (one_u8 _) (by unfold maxLen; omega) (by omega) (by simp; omega) ?_)
      intro v' w6 hown2 hg2 _
      have HO6 := Lib.hid hown2
      have HB6 := Lib.hid ((HB.out.alloc (by omega) (.cells #[.int .u8 (j : Nat)] 5)).grown hg2 (by simp; omega) (fun g e => by have := (own_lt HO.out e).1; omega))
      clear hown2 hg2 HAL
      go_wp2_with fail
      go_roundw
      case rel => exact ⟨j + 1, by omega, by go_num, (by rw [range_succ_bs]; exact HO6.out), HB6⟩
      case measure => simp [intOf]; omega
    · obtain rfl : j = k := by omega
      obtain ⟨a, c, rfl⟩ := own_slice HO.out
      have hr := own_rb2 HO.out (range_small (by omega)) (by omega)
      have HR := Lib.hid hr
      clear hr HO
      go_wp2_with fail
      refine (over_any HR.out).mono ?_
      rintro e w2 ⟨p, q, rfl, hO⟩
      have HW := Lib.hid (Worker.of_over hO HR.out)
      have HB2 := Lib.hid (HB.out.trans (hO.below.mono HB.out.size))
      clear hO HR HB
      go_wp2_with fail
      go_loopw [4, 34] (fun s i wr => ∃ t : Nat, t ≤ n ∧ i = .int .i64 t ∧ Hid (TabAt wr w2.heap.size s t (tabX j)) ∧ Hid (Below w2.heap.size w2 wr)) (fun _ i _ => n - (intOf i).toNat)
      case atStart => exact ⟨0, by omega, rfl, TabAt.nil _ _ _, Below.refl _ _⟩
      case round =>
        obtain ⟨t, ht1, rfl, HT, HBz⟩ := hrel
        by_cases ht2 : t < n
        · have hw1 : IntKind.u8.wrap (t : Int) = (t : Int) := IntWalk.u8_in _ (by omega)
          have h95 := weights_any (t := t) (by omega) (HW.out.below HBz.out)
          have H95 := Lib.hid h95
          clear h95
          go_wp2_with fail
          refine H95.out.mono ?_
          rintro e w5 ⟨g5, rfl, hg5, hh5, hB5⟩
          have hsz5 : wr.heap.size ≤ w5.heap.size := hB5.size
          have hszz : w2.heap.size ≤ wr.heap.size := HBz.out.size
          have HT5 := Lib.hid ((HT.out.below hB5).below ((Below.refl _ _).alloc (Nat.le_refl _) (.cells #[.slice (some ⟨g5, 0, none⟩) j j] 31)))
          have HO5 := Lib.hid ((own_cells (n := j) hh5 (length_wts _ _ _) (by omega) (Nat.le_trans hszz hg5)).alloc (.cells #[.slice (some ⟨g5, 0, none⟩) j j] 31))
          have HB5 := Lib.hid (HBz.out.trans (hB5.mono hszz))
          clear H95 hh5 hB5 HT
          obtain ⟨vs, hv5, hr5⟩ := HT5.out
          have HV5 := Lib.hid hv5
          have HR5 := Lib.hid hr5
          clear hv5 hr5 HT5
          go_wp2_with (at_builtin; refine wpList_append_own3 _ rfl (.tmp 37) (.tmp 42) 51 rfl w2.heap.size 31 i31 (.slice none 0 0) 24 Try.underlying51 hj hy0 hy1 hy2 rfl _ t vs rfl HV5.out ⟨w5.heap.size, 0, none⟩ 1 1 [.slice (some ⟨g5, 0, none⟩) j j] rfl rfl (cell_new31 _ _) (one_sl _ _ _) (by unfold maxLen; omega) (by omega) (by simp; omega) ?_)
          intro v7 w7 ho7 hg7 hb7 hk7
          have HT7 := Lib.hid (TabAt.put HV5.out HR5.out HO5.out ho7 hk7)
          have HB7 := Lib.hid ((HB5.out.alloc (by omega) (.cells #[.slice (some ⟨g5, 0, none⟩) j j] 31)).grown hg7 (by simp; omega) (fun g e => by have := (own_lt HV5.out e).1; omega))
          clear ho7 hg7 hb7 hk7 HV5 HR5 HO5 HB5
          go_wp2_with fail
          go_roundw
          case rel => exact ⟨t + 1, by omega, by go_num, HT7, HB7⟩
          case measure => simp [intOf]; omega
        · obtain rfl : t = n := by omega
          have HT2 := Lib.hid (HT.out.mono HB2.out.size)
          clear HT
          go_wp2_with fail
          go_ret2
          exact ⟨_, rfl, HT2.out, HB2.out.trans (HBz.out.mono HB2.out.size)⟩

theorem hval_ev {x : Nat} (hx : x < 256) {zs : List Nat} (h : Small zs) : ∀ k, k ≤ zs.length → hval zs x (dn zs.length k) = Gf.ev (zs.drop (zs.length - k)) x
  | 0, _ => by rw [Nat.sub_zero, List.drop_length]; rfl
  | k + 1, hk => by
    have hd : zs.drop (zs.length - (k + 1)) = zs.getD (zs.length - 1 - k) 0 :: zs.drop (zs.length - k) := by
      rw [List.drop_eq_getElem_cons (by omega), show zs.length - (k + 1) + 1 = zs.length - k by omega]
      congr 1
      simp [List.getD_eq_getElem?_getD, show zs.length - (k + 1) = zs.length - 1 - k by omega, show zs.length - 1 - k < zs.length by omega]
    have hs : Small (zs.drop (zs.length - k)) := Small.of_mem fun z hz => h.mem (List.mem_of_mem_drop hz)
    rw [dn_succ, hval_snoc, hval_ev hx h k (by omega), hd]
    show _ = zs.getD _ 0 ^^^ Gf.mul x _
    rw [Nat.xor_comm, Gf.mul_comm hx (Gf.ev_lt hs.sm hx), List.getD_eq_getElem?_getD]

end Go.Proofs.Ytokeoodkioobdaa
