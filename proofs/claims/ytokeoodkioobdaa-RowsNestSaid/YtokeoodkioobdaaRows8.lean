/- The walks of slices.Clone at bytes and of rows' Inverse. Conditions: there are at most 100000 rows. -/
import Derived.Test.YtokeoodkioobdaaRows7
namespace Go.Proofs.Ytokeoodkioobdaa
open Go.RowKit

theorem own_emptyB (w : World) : (w.alloc (.cells #[] 5)).ownsRow w.heap.size 5 1 (.slice (some ⟨w.heap.size, 0, none⟩) 0 0) 0 [] :=
  ⟨rfl, .inr ⟨w.heap.size, 0, #[], rfl, Nat.le_refl _, heap_alloc_new _ _, Nat.le_refl _, by unfold maxLen; omega, rfl, rfl⟩⟩
theorem rb_news {w : World} {ad : Addr} {n c : Nat} {l : List Nat} (h : RB w (some ad) n c l) : ∀ j u, (bs l)[j]? = some u → w.cell? (ad.add j) = some u := by
  intro j u hu
  have hj : j < n := by have := (List.getElem?_eq_some_iff.1 hu).1; rw [length_bs, h.len] at this; exact this
  obtain ⟨b, off, hb, hc⟩ := h.at_ j hj
  obtain rfl := Option.some.inj hb
  rw [bs_get l j (by rw [h.len]; exact hj)] at hu
  rw [← hu, Addr.add_lit]
  exact hc
theorem rb_none {w : World} {n c : Nat} {l : List Nat} (h : RB w none n c l) : n = 0 ∧ c = 0 ∧ l = [] := by
  have h1 := h.nil rfl
  have h2 := h.le
  have h3 := h.len
  exact ⟨by omega, h1, List.eq_nil_of_length_eq_zero (by omega)⟩

set_option maxHeartbeats 800000 in
set_option maxRecDepth 100000 in
theorem clone_any {w : World} {a : Option Addr} {n c : Nat} {l : List Nat} (h : RB w a n c l) :
    Calls Try.prog 107 #[.slice a n c] w fun e w' => ∃ v, e = .returned v ∧ w'.ownsRow w.heap.size 5 1 v n (bs l) ∧ Below w.heap.size w w' := by
  obtain ⟨i0, hi, hz0, hz1, hz2⟩ := info_parts info5
  cases a with
  | none =>
    obtain ⟨rfl, rfl, rfl⟩ := rb_none h
    clear h
    have hq := Lib.run_eql_slice_nil (P := Try.prog) w 31 5 none 0 0 0 0 Try.underlying31
    go_enter Try.func107, Try.ntmps107
    go_wp2_with fail
    go_ret
    exact ⟨_, rfl, World.ownsRow_nil _ _ _ _, Below.refl _ _⟩
  | some ad =>
    have hm := h.most
    have hl : (bs l).length = n * 1 := by rw [length_bs, h.len, Nat.mul_one]
    have HN := Lib.hid (rb_news (h.alloc (.cells #[] 5)))
    have HE := Lib.hid (own_emptyB w)
    clear h
    have hq := Lib.run_eql_slice_nil (P := Try.prog) w 31 5 (some ad) n c 0 0 Try.underlying31
    go_enter Try.func107, Try.ntmps107
    go_wp2_with (at_builtin; go_loud (refine wpList_append_own3 _ rfl (.tmp 5) (.tmp 6) 31 rfl w.heap.size 5 i0 (.int .u8 0) 1 Try.underlying31 hi hz0 hz1 hz2 rfl _ 0 [] rfl HE.out ad n c (bs l) rfl hl HN.out (bs_one _) (by unfold maxLen; omega) (by omega) (by simp) ?_))
    intro v7 w7 ho7 hg7 hb7 hk7
    have hB := ((Below.refl w.heap.size w).alloc (Nat.le_refl _) (.cells #[] 5)).grown hg7 (by simp) (fun j e => (own_lt HE.out e).1)
    have ho : w7.ownsRow w.heap.size 5 1 v7 n (bs l) := by simpa using ho7
    have HO := Lib.hid ho
    have HB := Lib.hid hB
    clear ho7 hg7 hb7 hk7 hB ho HE HN
    go_wp2_with fail
    go_ret
    exact ⟨_, rfl, HO.out, HB.out⟩


theorem own_cap {w : World} {B n c g : Nat} {e : TypeId} {xs : List Value} (h : w.ownsRow B e 1 (.slice (some ⟨g, 0, none⟩) n c) n xs) : c ≤ maxLen := by
  rcases h.2 with ⟨h2, _⟩ | ⟨g', cap, cur, e1, hg, hh, hn2, hc, _⟩
  · cases h2
  · injection e1 with _ _ e3
    rw [e3]; exact hc

/-- A grid where one of its rows grows: what it was stays. -/
theorem GridTo.grow {w w' : World} {B N K n : Nat} {v u : Value} {p c : Nat → Nat} {X : Nat → List Nat} {l : List Nat} (h : GridTo w B v N K p c X) (hu : w.ownsRow B 5 1 u n (bs l)) (hk : KeepRows w w' u n)
    (hl : ∀ i, i < K → (X i).length ≤ n ∨ Unl (hdr p c X i) u) : GridTo w' B v N K p c X := by
  obtain ⟨⟨vs, h1, h2⟩, h3, h4, h5⟩ := h
  exact ⟨⟨vs, hk _ _ _ _ _ h1 (.inr (unl_types (by decide) h1 hu)), h2⟩, fun i hi => hk _ _ _ _ _ (h3 i hi) (hl i hi), h4, h5⟩
/-- Rows beside rows, the first k of them. -/
def besTo (A U : Nat → List Nat) (k : Nat) : Nat → List Nat := fun j => if j < k then A j ++ U j else A j
theorem besTo_all {A U : Nat → List Nat} {N : Nat} : ∀ j, j < N → besTo A U N j = Gf.bes A U j := fun _ hj => if_pos hj

theorem cut_half {g N c : Nat} (h : 0 < N) (hN : N ≤ 100000) (hc : N + N ≤ c) (w : World) : (Instr.sliceAt 31 (.slice (some ⟨g, 0, none⟩) (N + N) c) (some (.int .i64 N)) none none).run Try.prog w = .ok (.slice (some ⟨g, N, none⟩) N (c - N)) w := by
  have h1 : (N : Int) ≤ ((N + N : Nat) : Int) := by omega
  have h2 : ((N + N : Nat) : Int) ≤ c := by omega
  go_simp
  rw [if_pos (by omega), if_neg (by omega)]

theorem own_some {w : World} {B n : Nat} {v : Value} {xs : List Value} {e : TypeId} (h : w.ownsRow B e 1 v n xs) (hn : 0 < n) : ∃ g c, v = .slice (some ⟨g, 0, none⟩) n c := by
  rcases h.2 with ⟨_, rfl⟩ | ⟨g, cap, cur, rfl, _⟩
  · omega
  · exact ⟨_, _, rfl⟩
/-- The end of an owned row reads as the end of the list. -/
theorem rb_half {w : World} {B g c N : Nat} {l l2 : List Nat} (h : w.ownsRow B 5 1 (.slice (some ⟨g, 0, none⟩) (N + N) c) (N + N) (bs (l ++ l2))) (h1 : l.length = N) (h2 : l2.length = N) (hs : Small l2) (hN : N ≤ 100000) : RB w (some ⟨g, N, none⟩) N (c - N) l2 := by
  have hle := (own_blk h).2.1
  refine ⟨h2, by omega, by omega, hs, fun e => (by cases e), fun i hi => ⟨g, N, rfl, ?_⟩⟩
  have hc := (own_cell h (i := N + i) (by omega)).1
  rw [List.getD_eq_getElem?_getD, List.getElem?_append_right (by omega), ← List.getD_eq_getElem?_getD, h1, Nat.add_sub_cancel_left] at hc
  exact hc

set_option maxHeartbeats 1600000 in
set_option maxRecDepth 100000 in
theorem Inverse_bad {w : World} {a : Option Addr} {N c : Nat} {X : Nat → List Nat} (hN : N ≤ 100000) (h : RR w (.slice a N c) N X) (hno : ¬ (isM N X ∧ colsX N X = N)) :
    Calls Try.prog 74 #[.slice a N c] w fun e w' => e = .returned (.tuple #[.slice none 0 0, .int .i64 2]) ∧ w = w' := by
  by_cases hx : isM N X
  · have H1 := Lib.hid (right_yes hN h hx)
    have H3 := Lib.hid (wide_is hN h hx)
    have hc : colsX N X ≠ N := fun e => hno ⟨hx, e⟩
    have hc2 := hx.2.1
    clear h hno hx
    generalize colsX N X = z at *
    have q : ((z : Int) != (N : Int)) = true := by simp; omega
    have q2 : decide (z = N) = false := by simp; omega
    go_enter Try.func74, Try.ntmps74
    go_wp2_with fail
    refine H1.out.mono ?_
    rintro e w' ⟨rfl, rfl⟩
    go_wp2_with fail
    refine H3.out.mono ?_
    rintro e w' ⟨rfl, rfl⟩
    go_wp2_with fail
    go_ret2
    exact ⟨rfl, rfl⟩
  · have H1 := Lib.hid (right_not hN h hx)
    clear h hno hx
    go_enter Try.func74, Try.ntmps74
    go_wp2_with fail
    refine H1.out.mono ?_
    rintro e w' ⟨rfl, rfl⟩
    go_wp2_with fail
    go_ret2
    exact ⟨rfl, rfl⟩

theorem GridTo.line1 {w : World} {B N K i g d W : Nat} {p c : Nat → Nat} {X : Nat → List Nat} (h : GridTo w B (.slice (some ⟨g, 0, none⟩) N d) N K p c X) (hl : (X i).length = W) (hi : i < K) :
    w.cell? ⟨g, i, none⟩ = some (.slice (some ⟨p i, 0, none⟩) W (c i)) ∧ w.frozen? ⟨g, i, none⟩ = false ∧ w.ownsRow B 5 1 (.slice (some ⟨p i, 0, none⟩) W (c i)) W (bs (X i)) ∧ p i < w.heap.size := by
  obtain ⟨g', d', e, h1, h2, h3, h4, h5, h6, h7, h8⟩ := h.cell hi
  injection e with e _ _
  injection e with e
  injection e with e _ _
  subst e
  have hr := h.row i hi
  unfold hdr at hr
  rw [hl] at h3 hr h8
  exact ⟨h3, h4, hr, h7⟩
/-- What Inverse hands back of a square matrix. -/
def InvGive (w : World) (N : Nat) (A : Nat → List Nat) (e : Ending) (w' : World) : Prop := Below w.heap.size w w' ∧
  ((Gf.rdN A N N < N ∧ e = .returned (.tuple #[.slice none 0 0, .int .i64 7])) ∨ (Gf.rdN A N N = N ∧ ∃ g p d, e = .returned (.tuple #[.slice (some ⟨g, 0, none⟩) N N, .int .i64 0]) ∧ GridTo w' w.heap.size (.slice (some ⟨g, 0, none⟩) N N) N N p d (Gf.invX A N)))
/-- The rows of the inverse, the first k of them cut off. -/
def invTo (A : Nat → List Nat) (N k : Nat) : Nat → List Nat := fun j => if j < k then Gf.invX A N j else Gf.bes (Gf.rdX A N N) (Gf.invX A N) j

/-- A row has grown and is stored back. -/
theorem grid_grow {W6 w7 : World} {B N k g g7 c7 : Nat} {p d : Nat → Nat} {X U : Nat → List Nat} (hX : ∀ i, i < N → (X i).length = N) (hU : ∀ i, (U i).length = N) (hk : k < N)
    (hG : GridTo W6 B (.slice (some ⟨g, 0, none⟩) N N) N N p d (besTo X U k)) (ho : W6.ownsRow B 5 1 (.slice (some ⟨p k, 0, none⟩) N (d k)) N (bs (X k)))
    (ho7 : w7.ownsRow B 5 1 (.slice (some ⟨g7, 0, none⟩) (N + N) c7) (N + N) (bs (X k) ++ bs (U k))) (hk7 : KeepRows W6 w7 (.slice (some ⟨p k, 0, none⟩) N (d k)) N)
    (hb7 : ∀ b, (Value.slice (some ⟨g7, 0, none⟩) (N + N) c7).ownBlock = some b → (Value.slice (some ⟨p k, 0, none⟩) N (d k)).ownBlock = some b ∨ b = W6.heap.size) :
    GridTo w7 B (.slice (some ⟨g, 0, none⟩) N N) N N p d (besTo X U k) ∧ ∃ p' d', GridTo (w7.setCell ⟨g, k, none⟩ (.slice (some ⟨g7, 0, none⟩) (N + N) c7)) B (.slice (some ⟨g, 0, none⟩) N N) N N p' d' (besTo X U (k + 1)) := by
  have hlen : ∀ i, i < N → i ≠ k → Unl (hdr p d (besTo X U k) i) (.slice (some ⟨p k, 0, none⟩) N (d k)) := fun i hi hne b e1 e2 => by
    have e1 : some (p i) = some b := e1
    have e2 : some (p k) = some b := e2
    exact hne (hG.inj i k hi hk (by injection e1 with e1; injection e2 with e2; rw [e1, e2]))
  have h7 := hG.grow ho hk7 fun i hi => by
    by_cases e : i = k
    · left
      unfold besTo
      rw [if_neg (by omega), hX i hi]
      exact Nat.le_refl N
    · exact .inr (hlen i hi e)
  refine ⟨h7, ?_⟩
  have hl : (X k ++ U k).length = N + N := by rw [List.length_append, hX k hk, hU k]
  have h8 := h7.put (l := X k ++ U k) (q := g7) (d := c7) rfl hk (by omega) (by rw [hl, bs_append]; exact ho7) (fun j hj hne e => ?_) rfl
  · rw [show max N (k + 1) = N by omega, hl] at h8
    refine ⟨_, _, h8.congr fun i hi => ?_⟩
    unfold besTo
    by_cases e : i = k
    · subst e; rw [if_pos (by omega), if_pos rfl]
    · rw [if_neg e]
      by_cases e2 : i < k
      · rw [if_pos e2, if_pos (by omega)]
      · rw [if_neg e2, if_neg (by omega)]
  · rcases hb7 g7 rfl with h | h
    · have h : some (p k) = some g7 := h
      injection h with h
      exact hne (hG.inj j k hj hk (by rw [e, h]))
    · obtain ⟨_, _, cur, hcur, _⟩ := own_blk (hG.row j hj)
      have := lt_of_block hcur
      omega

set_option maxHeartbeats 6000000 in
set_option maxRecDepth 100000 in
theorem Inverse_any {w : World} {a : Option Addr} {N c : Nat} {X : Nat → List Nat} (h : RR w (.slice a N c) N X) (hx : isM N X) (hxy : colsX N X = N) :
    Calls Try.prog 74 #[.slice a N c] w (InvGive w N (cut N X N)) := by
  obtain ⟨i0, hi, hz0, hz1, hz2⟩ := info_parts info5
  have hN : N ≤ 255 := hx.1
  have hlx := isM_len hx
  rw [hxy] at hlx
  have hw0 := wide_is (by omega) h hx
  rw [hxy] at hw0
  have hcp := copied_any (by omega) (isM_small hx) h
  have H1 := Lib.hid (right_yes (by omega) h hx)
  have H3 := Lib.hid hw0
  have HCP := Lib.hid hcp
  have HLX := Lib.hid hlx
  have HLong := Lib.hid (cut_long (W := N) hlx)
  have HByt := Lib.hid (cut_byt (W := N) h.small)
  clear hx hxy hlx hw0 h hcp
  have qq : ((N : Int) != (N : Int)) = false := by simp
  go_enter Try.func74, Try.ntmps74
  go_wp2_with fail
  refine H1.out.mono ?_
  rintro e w' ⟨rfl, rfl⟩
  go_wp2_with fail
  refine H3.out.mono ?_
  rintro e w' ⟨rfl, rfl⟩
  clear H1 H3 qq
  go_wp2_with fail
  refine HCP.out.mono ?_
  rintro e w3 ⟨g, p, d, rfl, hG, hB3⟩
  have HG3 := Lib.hid (hG.congr (Y := besTo X (Gf.unitX N) 0) fun i _ => if_neg (Nat.not_lt_zero _))
  have HB3 := Lib.hid hB3
  clear hG hB3 HCP
  go_wp2_with fail
  go_loopw [22] (fun i wr => ∃ k : Nat, k ≤ N ∧ i = .int .i64 k ∧ (∃ p d, Hid (GridTo wr w.heap.size (.slice (some ⟨g, 0, none⟩) N N) N N p d (besTo X (Gf.unitX N) k))) ∧ Hid (Below w.heap.size w wr)) (fun i _ => N - (intOf i).toNat)
  case atStart => exact ⟨0, Nat.zero_le _, rfl, ⟨_, _, HG3⟩, HB3⟩
  case round =>
    clear HG3 HB3 p d
    obtain ⟨k, hk, rfl, ⟨p, d, HG⟩, HB⟩ := hrel
    by_cases hk1 : k < N
    · have hsw : w.heap.size ≤ wr.heap.size := HB.out.size
      go_wp2_with (refine wpList_make_full _ rfl (.tmp 26) (.tmp 26) 31 rfl wr.heap.size 5 i0 (.int .u8 0) 1 Try.underlying31 hi hz0 hz1 .i64 .i64 _ _ N rfl rfl (by omega) (by omega) ?_ ?_ (Nat.le_refl _) ?_)
      · rw [hz2]; omega
      · unfold maxLen; omega
      intro w5 hown5 hg5
      have hB5 : Below wr.heap.size wr w5 := (Below.refl _ _).grown hg5 (Nat.le_refl _) (fun j e => by cases e)
      have hz := own_zeros hown5
      obtain ⟨hc5, hf5⟩ := own_cell hz (i := k) hk1
      have hgq : g ≠ wr.heap.size := Nat.ne_of_lt HG.out.gl.2
      have hu6 : (w5.setCell ⟨wr.heap.size, k, none⟩ (.int .u8 1)).ownsRow wr.heap.size 5 1 (.slice (some ⟨wr.heap.size, 0, none⟩) N N) N (bs (Gf.unitX N k)) := own_set hz
      have hB6 : Below wr.heap.size wr (w5.setCell ⟨wr.heap.size, k, none⟩ (.int .u8 1)) := hB5.setCell (Nat.le_refl _) _
      have e0 : besTo X (Gf.unitX N) k k = X k := if_neg (Nat.lt_irrefl k)
      obtain ⟨hc, hf, _, _⟩ := (HG.out.below hB5).line1 (W := N) (by rw [e0]; exact HLX.out k hk1) hk1
      obtain ⟨_, _, hrow, hlt⟩ := (HG.out.below hB6).line1 (W := N) (by rw [e0]; exact HLX.out k hk1) hk1
      rw [e0] at hrow
      have HB6 := Lib.hid hB6
      have HG6 := Lib.hid (HG.out.below hB6)
      have HR6 := Lib.hid hrow
      have HNW := Lib.hid (hu6.cells (g := wr.heap.size) rfl)
      have HBL := Lib.hid (show (bs (Gf.unitX N k)).length = N * 1 by rw [length_bs, Gf.unitX_len, Nat.mul_one])
      have hs6 : w.heap.size ≤ (w5.setCell ⟨wr.heap.size, k, none⟩ (.int .u8 1)).heap.size := Nat.le_trans hsw hB6.size
      have HS6 := Lib.hid hs6
      have HPB := Lib.hid (own_blk hrow).1
      clear hown5 hg5 hB5 hz hu6 hB6 hrow e0 hs6 hlt
      go_wp2_with (at_builtin; refine wpList_append_own3 _ rfl (.tmp 36) (.tmp 37) 31 rfl w.heap.size 5 i0 (.int .u8 0) 1 Try.underlying31 hi hz0 hz1 hz2 rfl (.slice (some ⟨p k, 0, none⟩) N (d k)) N (bs (X k)) rfl HR6.out ⟨wr.heap.size, 0, none⟩ N N (bs (Gf.unitX N k)) rfl HBL.out HNW.out (bs_one _) (by unfold maxLen; omega) (by omega) HS6.out ?_)
      intro v7 w7 ho7 hg7 hb7 hk7
      obtain ⟨g7, c7, rfl⟩ := own_some ho7 (by omega)
      obtain ⟨hG7, p7, d7, hG8⟩ := grid_grow HLX.out (Gf.unitX_len N) hk1 HG6.out HR6.out ho7 hk7 (fun b e => (hb7 b e).imp id fun h => by rw [h]; simp)
      obtain ⟨⟨u, hu⟩, hfz, _, _⟩ := hG7.slot hk1
      have HB7 := Lib.hid (((HB.out.trans (HB6.out.mono hsw)).grown hg7 HS6.out (fun j e => by injection e with e; rw [← e]; exact HPB.out)).setCell (p := ⟨g, k, none⟩) HG6.out.gl.1 (.slice (some ⟨g7, 0, none⟩) (N + N) c7))
      have HG8 := Lib.hid hG8
      clear ho7 hg7 hb7 hk7 hG7 hG8 HG6 HR6 HNW HBL HB6 HS6 HPB hgq
      go_wp2_with fail
      go_roundw
      case rel => exact ⟨k + 1, by omega, by go_num, ⟨p7, d7, HG8⟩, HB7⟩
      case measure => simp [intOf]; omega
    · obtain rfl : k = N := by omega
      have HG9 := Lib.hid (HG.out.congr (Y := Gf.bes (cut k X k) (Gf.unitX k)) fun i hi => by unfold besTo Gf.bes; rw [if_pos hi, cut_at hi])
      clear HG
      go_wp2_with fail
      refine (new_any _).mono ?_
      rintro e w8 ⟨pf, rfl, hpf, hf8, hB8⟩
      have hL2 := Gf.bes_long HLong.out (fun r => Gf.unitX_len k r)
      have hB2 := Gf.bes_byt HByt.out (Gf.unitX_byt k)
      have hst := steps_any (C := k) hf8 (HG9.out.below hB8) (HG9.out.below hB8).gl.2 hL2 hB2 (by omega) (by omega) (by omega)
      obtain ⟨r1, r2⟩ := Gf.rd_bes (B := Gf.unitX k) (R := k) HLong.out k (Nat.le_refl k)
      rw [r1, r2] at hst
      have HST := Lib.hid hst
      have HB8 := Lib.hid (HB.out.trans (hB8.mono HB.out.size))
      have HG8 := Lib.hid (HG9.out.below hB8)
      have HRL := Lib.hid (Gf.rdN_le (cut k X k) k k).1
      clear hf8 hB8 hL2 hB2 hst r1 r2 HG9
      have hrl := HRL.out
      obtain ⟨m, hm⟩ : ∃ m, m = Gf.rdN (cut k X k) k k := ⟨_, rfl⟩
      rw [← hm] at HST hrl
      have HM := Lib.hid hm
      clear hm HRL
      go_wp2_with fail
      refine HST.out.mono ?_
      rintro e w9 ⟨rfl, ⟨p9, d9, hG9⟩, hK9⟩
      have HB9 := Lib.hid (HB8.out.trans (off_below hK9 HG8.out HB8.out.size))
      have HG9 := Lib.hid hG9
      clear hG9 hK9 HST HG8 HB8
      by_cases hmk : m < k
      · have HMK := Lib.hid hmk
        go_wp2_with fail
        go_ret2
        exact ⟨HB9.out, .inl ⟨by rw [← HM.out]; exact HMK.out, rfl⟩⟩
      · obtain rfl : m = k := by omega
        have hmm : decide ((m : Int) < (m : Int)) = false := by simp
        have HG0 := Lib.hid (HG9.out.congr (Y := invTo (cut m X m) m 0) fun i _ => if_neg (Nat.not_lt_zero i))
        have HIL := Lib.hid (Gf.invX_long (cut m X m) m)
        have HIB := Lib.hid (Gf.invX_byt (cut m X m) m)
        have HRX := Lib.hid (HLong.out.rdX m m)
        clear HG9
        go_wp2_with fail
        go_loopw [52] (fun i wr => ∃ k : Nat, k ≤ m ∧ i = .int .i64 k ∧ (∃ p d, Hid (GridTo wr w.heap.size (.slice (some ⟨g, 0, none⟩) m m) m m p d (invTo (cut m X m) m k))) ∧ Hid (Below w.heap.size w wr)) (fun i _ => m - (intOf i).toNat)
        case atStart => exact ⟨0, Nat.zero_le _, rfl, ⟨_, _, HG0⟩, HB9⟩
        case round =>
          clear HG0 HB9 HB p d p9 d9
          obtain ⟨k, hk, rfl, ⟨p, d, HG⟩, HB⟩ := hrel
          by_cases hk1 : k < m
          · have e0 : invTo (cut m X m) m k k = Gf.rdX (cut m X m) m m k ++ Gf.invX (cut m X m) m k := if_neg (Nat.lt_irrefl k)
            have hl0 : (invTo (cut m X m) m k k).length = m + m := by rw [e0, List.length_append, HRX.out k, HIL.out k]
            obtain ⟨hc, hf, hrow, hlt⟩ := HG.out.line1 hl0 hk1
            rw [e0] at hrow
            have hle := (own_blk hrow).2.1
            have hcut := fun W => cut_half (g := p k) (by omega) (by omega) hle W
            have hcl := clone_any (rb_half hrow (HRX.out k) (HIL.out k) (byt_small HIB.out k) (by omega))
            have HCL := Lib.hid hcl
            have hsw : w.heap.size ≤ wr.heap.size := HB.out.size
            have hm0 : 0 < m := by omega
            clear hrow hcl e0 hl0
            go_wp2_with fail
            refine HCL.out.mono ?_
            rintro e w10 ⟨v10, rfl, ho10, hB10⟩
            obtain ⟨g10, c10, rfl⟩ := own_some ho10 hm0
            obtain ⟨⟨u, hu⟩, hfz, _, _⟩ := (HG.out.below hB10).slot hk1
            have hpt := (HG.out.below hB10).put (i := k) (l := Gf.invX (cut m X m) m k) (q := g10) (d := c10) rfl hk1 (by omega) (by rw [HIL.out k]; exact own_mono ho10 hsw) (fun j hj _ e => by
              obtain ⟨_, _, cur, hcur, _⟩ := own_blk (HG.out.row j hj)
              have := lt_of_block hcur
              have := (own_blk ho10).1
              omega) rfl
            rw [show max m (k + 1) = m by omega, HIL.out k] at hpt
            have HG' : ∃ p d, Hid (GridTo (w10.setCell ⟨g, k, none⟩ (.slice (some ⟨g10, 0, none⟩) m c10)) w.heap.size (.slice (some ⟨g, 0, none⟩) m m) m m p d (invTo (cut m X m) m (k + 1))) := ⟨_, _, hpt.congr fun i hi => by
              unfold invTo
              by_cases e : i = k
              · subst e; simp
              · by_cases e2 : i < k
                · rw [if_neg e, if_pos e2, if_pos (by omega)]
                · rw [if_neg e, if_neg e2, if_neg (by omega)]⟩
            have HB' := Lib.hid ((HB.out.trans (hB10.mono hsw)).setCell (p := ⟨g, k, none⟩) HG.out.gl.1 (.slice (some ⟨g10, 0, none⟩) m c10))
            have HGG := Lib.hid HG'
            clear hpt HG' ho10 hB10 HCL hcut HG
            go_wp2_with fail
            go_roundw
            case rel => exact ⟨k + 1, by omega, by go_num, HGG.out, HB'⟩
            case measure => simp [intOf]; omega
          · obtain rfl : k = m := by omega
            have HF := Lib.hid (HG.out.congr (Y := Gf.invX (cut k X k) k) fun i hi => (if_pos hi).symm)
            clear HG
            go_wp2_with fail
            go_ret2
            exact ⟨HB.out, .inr ⟨HM.out.symm, _, _, _, rfl, HF.out⟩⟩
end Go.Proofs.Ytokeoodkioobdaa
