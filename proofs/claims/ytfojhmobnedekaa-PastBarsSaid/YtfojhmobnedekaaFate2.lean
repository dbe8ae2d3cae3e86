/- The walks of slices.Clone, and of fate's and the reference's Turn. Conditions: rows are shorter than 2 to the 40. -/
import Derived.Test.YtfojhmobnedekaaApart
import Derived.Test.YtfojhmobnedekaaFate1
namespace Go.Proofs.Ytfojhmobnedekaa
open Go.RowKit

theorem rb_news {w : World} {ad : Addr} {n c : Nat} {l : List Nat} (h : RB w (some ad) n c l) : ∀ j u, (bs l)[j]? = some u → w.cell? (ad.add j) = some u := by
  intro j u hu
  have hj : j < n := by have := (List.getElem?_eq_some_iff.1 hu).1; rw [length_bs, h.len] at this; exact this
  obtain ⟨b, off, hb, hc⟩ := h.at_ j hj
  obtain rfl := Option.some.inj hb
  rw [bs_get l j (by rw [h.len]; exact hj)] at hu
  rw [← hu, Addr.add_lit]
  exact hc
theorem rb_none {w : World} {n c : Nat} {l : List Nat} (h : RB w none n c l) : n = 0 ∧ c = 0 ∧ l = [] := by
  have h1 := h.nil rfl
  have h2 := h.le
  have h3 := h.len
  exact ⟨by omega, h1, List.eq_nil_of_length_eq_zero (by omega)⟩

set_option maxHeartbeats 800000 in
set_option maxRecDepth 100000 in
theorem clone_any {w : World} {a : Option Addr} {n c : Nat} {l : List Nat} (h : RB w a n c l) :
    Calls Try.prog 63 #[.slice a n c] w fun e w' => ∃ v, e = .returned v ∧ w'.ownsRow w.heap.size 5 1 v n (bs l) ∧ Below w.heap.size w w' := by
  obtain ⟨i0, hi, hz0, hz1, hz2⟩ := info_parts info5
  cases a with
  | none =>
    obtain ⟨rfl, rfl, rfl⟩ := rb_none h
    clear h
    have hq := Lib.run_eql_slice_nil (P := Try.prog) w 25 5 none 0 0 0 0 Try.underlying25
    go_enter Try.func63, Try.ntmps63
    go_wp2_with fail
    go_ret
    exact ⟨_, rfl, own_nil _ _, Below.refl _ _⟩
  | some ad =>
    have hm := h.most
    have hl : (bs l).length = n * 1 := by rw [length_bs, h.len, Nat.mul_one]
    have HN := Lib.hid (rb_news (h.alloc (.cells #[] 5)))
    have HE := Lib.hid (own_empty w)
    clear h
    have hq := Lib.run_eql_slice_nil (P := Try.prog) w 25 5 (some ad) n c 0 0 Try.underlying25
    go_enter Try.func63, Try.ntmps63
    go_wp2_with (at_builtin; go_loud (refine wpList_append_own3 _ rfl (.tmp 5) (.tmp 6) 25 rfl w.heap.size 5 i0 (.int .u8 0) 1 Try.underlying25 hi hz0 hz1 hz2 rfl _ 0 [] rfl HE.out ad n c (bs l) rfl hl HN.out (bs_one _) (by unfold maxLen; omega) (by omega) (by simp) ?_))
    intro v7 w7 ho7 hg7 hb7 hk7
    have hB := ((Below.refl w.heap.size w).alloc (Nat.le_refl _) (.cells #[] 5)).grown hg7 (by simp) (fun j e => (own_lt HE.out e).1)
    have ho : w7.ownsRow w.heap.size 5 1 v7 n (bs l) := by simpa using ho7
    have HO := Lib.hid ho
    have HB := Lib.hid hB
    clear ho7 hg7 hb7 hk7 hB ho HE HN
    go_wp2_with fail
    go_ret
    exact ⟨_, rfl, HO.out, HB.out⟩

theorem own_pos {w : World} {B e n c : Nat} {a : Option Addr} {xs : List Value} (h : w.ownsRow B e 1 (.slice a n c) n xs) (hn : 0 < n) : ∃ g, a = some ⟨g, 0, none⟩ := by
  rcases h.2 with ⟨_, rfl⟩ | ⟨g, cap, cur, e, _⟩
  · omega
  · injection e with e1 e2 e3; exact ⟨g, e1⟩
set_option maxHeartbeats 800000 in
set_option maxRecDepth 100000 in
theorem turn_ok {w : World} {a : Option Addr} {n c : Nat} {l : List Nat} {bit : Int} (h : RB w a n c l) (hn : 0 < n) (hb0 : 0 ≤ bit) (hb1 : bit ≤ 9223372036854775807) :
    Calls Try.prog 18 #[.slice a n c, .int .i64 bit] w fun e w' => ∃ v, e = .returned v ∧ w'.ownsRow w.heap.size 5 1 v n (bs (Fm.turnI l bit)) ∧ Below w.heap.size w w' := by
  have hm := h.most
  have hl := h.len
  have HS := Lib.hid h.small
  have H63 := Lib.hid (clone_any h)
  clear h
  go_enter Try.func18, Try.ntmps18
  go_wp2_with fail
  refine H63.out.mono ?_
  rintro e w1 ⟨v1, rfl, ho1, hB1⟩
  have HO := Lib.hid ho1
  have HB := Lib.hid hB1
  clear ho1 hB1
  have d1 : ((n : Int) == 0) = false := by simp; omega
  have d2 : decide (bit < 0) = false := by simp; omega
  go_wp2_with fail
  obtain ⟨K, hK⟩ : ∃ K : Nat, K = bit.toNat % (8 * n) := ⟨_, rfl⟩
  have hKi : bit % (8 * (n : Int)) = (K : Int) := by
    rw [hK, Int.natCast_emod, Int.toNat_of_nonneg hb0]; rfl
  have hK8 : K / 8 < n := by
    have := Nat.mod_lt bit.toNat (show 8 * n > 0 by omega)
    rw [← hK] at this
    omega
  rw [hKi]
  have hset : Fm.turnI l bit = l.set (K / 8) (Fm.flip (l.getD (K / 8) 0) (K % 8)) := by
    rw [Fm.turnI_pos (fun e => by rw [e] at hl; simp at hl; omega) hb0, hl, ← hK]; rfl
  have hx := HS.out (K / 8)
  obtain ⟨a1, c1, rfl⟩ := own_slice HO.out
  obtain ⟨g, ec⟩ := own_pos HO.out hn
  subst ec
  obtain ⟨hc, hf⟩ := own_cell HO.out hK8
  have hst : ∀ q, ((w1.drewN q).setCell ⟨g, K / 8, none⟩ (.int .u8 (Fm.flip (l.getD (K / 8) 0) (K % 8) : Nat))).ownsRow w.heap.size 5 1 (.slice (some ⟨g, 0, none⟩) n c1) n (bs (Fm.turnI l bit)) := fun q => by
    rw [hset]; exact own_set (own_below HO.out (below_drewN (Below.refl _ _) q))
  have hBs := fun q v => (below_drewN HB.out q).setCell (p := ⟨g, K / 8, none⟩) (own_lt HO.out rfl).1 v
  have hand : bits .and .i64 (K : Int) 7 = ((K % 8 : Nat) : Int) := by
    rw [show (7 : Int) = ((7 : Nat) : Int) from rfl, i64_and_nat K 7 (by omega) (by omega)]
    congr 1
    exact Nat.and_two_pow_sub_one_eq_mod K 3
  obtain ⟨j, hj⟩ : ∃ j, j = K % 8 := ⟨_, rfl⟩
  have hj8 : j < 8 := by omega
  rw [← hj] at hand hst
  have HST := Lib.hid hst
  have HBS := Lib.hid hBs
  clear hK hKi hj hset hl hst hBs
  generalize l.getD (K / 8) 0 = x at *
  have u0 : bits .xor .u8 (x : Int) 1 = ((Fm.flip x 0 : Nat) : Int) := u8_xor_nat x 1 hx (by omega)
  have u1 : bits .xor .u8 (x : Int) 2 = ((Fm.flip x 1 : Nat) : Int) := u8_xor_nat x 2 hx (by omega)
  have u2 : bits .xor .u8 (x : Int) 4 = ((Fm.flip x 2 : Nat) : Int) := u8_xor_nat x 4 hx (by omega)
  have u3 : bits .xor .u8 (x : Int) 8 = ((Fm.flip x 3 : Nat) : Int) := u8_xor_nat x 8 hx (by omega)
  have u4 : bits .xor .u8 (x : Int) 16 = ((Fm.flip x 4 : Nat) : Int) := u8_xor_nat x 16 hx (by omega)
  have u5 : bits .xor .u8 (x : Int) 32 = ((Fm.flip x 5 : Nat) : Int) := u8_xor_nat x 32 hx (by omega)
  have u6 : bits .xor .u8 (x : Int) 64 = ((Fm.flip x 6 : Nat) : Int) := u8_xor_nat x 64 hx (by omega)
  have u7 : bits .xor .u8 (x : Int) 128 = ((Fm.flip x 7 : Nat) : Int) := u8_xor_nat x 128 hx (by omega)
  rcases (show j = 0 ∨ j = 1 ∨ j = 2 ∨ j = 3 ∨ j = 4 ∨ j = 5 ∨ j = 6 ∨ j = 7 by omega) with rfl | rfl | rfl | rfl | rfl | rfl | rfl | rfl
  all_goals
    refine region_quiet_tail 10 (by kernel_rfl) (by kernel_rfl) ?_
    simp only [List.take_succ_cons, List.take_zero, List.drop_succ_cons, List.drop_zero]
    repeat (go_big_quiet_step (fail))
    refine wpQuiet_nil ?_
    intro _ hw'
    obtain ⟨nq, rfl⟩ := hw'
    go_wp2_with fail
    go_ret
    exact ⟨_, rfl, HST.out nq, HBS.out nq _⟩

set_option maxHeartbeats 800000 in
set_option maxRecDepth 100000 in
theorem turn_none {w : World} {a : Option Addr} {n c : Nat} {l : List Nat} {bit : Int} (h : RB w a n c l) (hn : n = 0 ∨ bit < 0) :
    Calls Try.prog 18 #[.slice a n c, .int .i64 bit] w fun e w' => ∃ v, e = .returned v ∧ w'.ownsRow w.heap.size 5 1 v n (bs (Fm.turnI l bit)) ∧ Below w.heap.size w w' := by
  have he : Fm.turnI l bit = l := by
    rcases hn with hn | hn
    · have := h.len
      rw [hn] at this
      rw [List.eq_nil_of_length_eq_zero this, Fm.turnI_nil]
    · exact Fm.turnI_neg l hn
  rw [he]
  have H63 := Lib.hid (clone_any h)
  clear h he
  by_cases h0 : n = 0
  · subst h0
    clear hn
    go_enter Try.func18, Try.ntmps18
    go_wp2_with fail
    refine H63.out.mono ?_
    rintro e w1 ⟨v1, rfl, ho1, hB1⟩
    have HO := Lib.hid ho1
    have HB := Lib.hid hB1
    clear ho1 hB1
    go_wp2_with fail
    go_ret
    exact ⟨_, rfl, HO.out, HB.out⟩
  · have d1 : ((n : Int) == 0) = false := by simp; omega
    have hb : bit < 0 := hn.resolve_left h0
    have d2 : decide (bit < 0) = true := by simp; omega
    clear hn h0
    go_enter Try.func18, Try.ntmps18
    go_wp2_with fail
    refine H63.out.mono ?_
    rintro e w1 ⟨v1, rfl, ho1, hB1⟩
    have HO := Lib.hid ho1
    have HB := Lib.hid hB1
    clear ho1 hB1
    go_wp2_with fail
    go_ret
    exact ⟨_, rfl, HO.out, HB.out⟩
theorem turn_any {w : World} {a : Option Addr} {n c : Nat} {l : List Nat} {bit : Int} (h : RB w a n c l) (hb1 : bit ≤ 9223372036854775807) :
    Calls Try.prog 18 #[.slice a n c, .int .i64 bit] w fun e w' => ∃ v, e = .returned v ∧ w'.ownsRow w.heap.size 5 1 v n (bs (Fm.turnI l bit)) ∧ Below w.heap.size w w' := by
  by_cases h0 : n = 0 ∨ bit < 0
  · exact turn_none h h0
  · exact turn_ok h (by omega) (by omega) hb1
end Go.Proofs.Ytfojhmobnedekaa
