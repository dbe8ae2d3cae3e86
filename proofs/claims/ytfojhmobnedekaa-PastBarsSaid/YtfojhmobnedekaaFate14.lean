/- The walk of the law FateLands. Conditions: the row's length against 3000. -/
import Derived.Test.YtfojhmobnedekaaFate13
namespace Go.Proofs.Ytfojhmobnedekaa
open Go.RowKit

/-- Rows that were made, in a list that the law grew: ApartBytes tells true. -/
theorem rows_apart_own {B Lb C : Nat} {la : Option Addr} {rs : List R1} {w : World} (h : Made B rs w) (hB : B ≤ w.heap.size) (hn : ∀ r ∈ rs, r.n ≤ 1000000) (hr : rs.length ≤ 1000000) (h0 : 0 < rs.length)
    (hL : w.ownsRow Lb 25 1 (.slice la rs.length C) rs.length (rs.map R1.v)) (hne : ∀ r ∈ rs, ∀ g, r.v.ownBlock = some g → g < Lb) :
    Calls Try.prog 22 #[.slice la rs.length C] w fun e w' => e = .returned (.bool true) ∧ Below B w w' := by
  obtain ⟨Lg, rfl⟩ := own_pos hL h0
  have hLb : Lb ≤ Lg := (own_lt hL rfl).1
  have hmem : ∀ k (hk : k < rs.length), rs[k] ∈ rs := fun k hk => List.getElem_mem hk
  have hS : Sep (some ⟨Lg, 0, none⟩) rs.length (ra rs) (rn rs) (rc rs) := by
    refine ⟨fun i j hi hj hne => ?_, fun b o k e hk e2 => ?_, fun k hk => ?_, hr⟩
    · rw [at_get hi, at_get hj]
      rcases Nat.lt_or_gt_of_ne hne with hlt | hlt
      · exact List.pairwise_iff_getElem.1 h.unl i j hi hj hlt
      · exact (List.pairwise_iff_getElem.1 h.unl j i hj hi hlt).symm
    · injection e with e; injection e with e; subst e
      rw [at_get hk] at e2; have := hne _ (hmem k hk) _ e2; omega
    · have := hn _ (hmem k hk)
      unfold rn
      rwa [List.getD_eq_getElem?_getD, List.getElem?_eq_getElem hk]
  have hF : Fam B (some ⟨Lg, 0, none⟩) rs.length (ra rs) (rn rs) (rc rs) (fun k i => ((rs.getD k default).l).getD i 0) w := by
    refine ⟨fun k hk => ⟨Lg, 0, rfl, ?_⟩, fun k hk => ?_⟩
    · have := hL.cells (g := Lg) rfl k (rs[k]).v (by simp [hk])
      rw [at_get hk]; rwa [Addr.add_lit] at this
    · have h1 := own_rowf (h.own _ (hmem k hk))
      rw [at_get hk]
      have e1 : rn rs k = (rs[k]).n := by unfold rn; rw [List.getD_eq_getElem?_getD, List.getElem?_eq_getElem hk]; rfl
      have e2 : rs.getD k default = rs[k] := by rw [List.getD_eq_getElem?_getD, List.getElem?_eq_getElem hk]; rfl
      rw [e1, e2]; exact h1
  refine (apart_bytes hB hS hF).mono fun e w' ⟨h1, h2⟩ => ⟨h1, h2.os, h2.tape, h2.output, h2.size, fun g hg => h2.block g ⟨by omega, fun k hk e => ?_⟩⟩
  rw [at_get hk] at e
  have := (own_lt (h.own _ (hmem k hk)) e).1
  omega
theorem own_cells25 {w : World} {g n : Nat} {xs : List Value} (h : w.heap[g]? = some (.cells xs.toArray 25 (0, 0))) (hn : xs.length = n) (hm : n ≤ 1000000) {B : Nat} (hB : B ≤ g) : w.ownsRow B 25 1 (.slice (some ⟨g, 0, none⟩) n n) n xs := by
  subst hn
  refine ⟨by rw [Nat.mul_one], .inr ⟨g, xs.length, _, rfl, hB, h, Nat.le_refl _, by unfold maxLen; omega, by simp, ?_⟩⟩
  rw [Nat.mul_one]
  exact List.take_of_length_le (Nat.le_refl _)
/-- What lands is told, of any fate and tick. -/
def ldOk (k b al pl now : Int) : Prop := RightF k b al pl ∧ (0 ≤ now ∧ now ≤ 2147483647)

/-- What a round of the law reads. -/
theorem land_round {w : World} {B m n vc uc K : Nat} {va ua : Option Addr} {ls : List Ld} {L : List (Int × Int × List Nat)} (hO : w.ownsRow B 39 3 (.slice va m vc) m (ls.flatMap Ld.cells)) (hl : ls.length = m) (hT : ls.map Ld.tell = L) (hM : Made B (ls.map Ld.r) w) (hn : ∀ x ∈ ls, x.r.n = n) (hS : ∀ x ∈ L, Small x.2.2) (hn2 : n ≤ 140737488351232)
    (hU : LdR w (.slice ua m uc) L) (hK : K < m) :
    ∃ b o d q ad n1 c1 b2 o2 a2 n2 c2 l1, va = some ⟨b, o, none⟩ ∧ ua = some ⟨b2, o2, none⟩ ∧ w.cell? ⟨b, o + K * 3, none⟩ = some (.int .i64 d) ∧ w.cell? ⟨b, o + K * 3 + 1, none⟩ = some (.int .i64 q) ∧ w.cell? ⟨b, o + K * 3 + 2, none⟩ = some (.slice ad n1 c1)
      ∧ w.cell? ⟨b2, o2 + K * 3, none⟩ = some (.int .i64 d) ∧ w.cell? ⟨b2, o2 + K * 3 + 1, none⟩ = some (.int .i64 q) ∧ w.cell? ⟨b2, o2 + K * 3 + 2, none⟩ = some (.slice a2 n2 c2) ∧ RB w ad n1 c1 l1 ∧ RB w a2 n2 c2 l1 ∧ (ls.map fun x => x.r.v).take (K + 1) = (ls.map fun x => x.r.v).take K ++ [.slice ad n1 c1] := by
  have hk : K < ls.length := by omega
  have hkL : K < L.length := by rw [← hT, List.length_map]; exact hk
  have hx : ls[K] ∈ ls := List.getElem_mem hk
  have hLK : L[K] = (ls[K]).tell := by subst hT; simp
  obtain ⟨a', c', e, hU⟩ := hU.shape
  injection e with e1 e2 e3
  subst e1; subst e3
  obtain ⟨b2, o2, a2, n2, c2, e, f0, f1, f2, hr2⟩ := hU K hkL
  rw [hLK] at f0 f1 hr2
  have hr := own_rb2 (hM.own _ (List.mem_map_of_mem hx)) (by have := hS _ (hT ▸ List.mem_map_of_mem (f := Ld.tell) hx); exact this) (by rw [hn _ hx]; exact hn2)
  rcases hO.2 with ⟨e0, h0⟩ | ⟨g, cap, cur, e0, hb, hh, hnc⟩
  · omega
  · injection e0 with e1 e2 e3
    subst e1
    have hc := fun j (hj : j < 3) u (hu : (ls[K]).cells[j]? = some u) => hO.cells (g := g) rfl (K * 3 + j) u ((cells_at ls K j hk hj).trans hu)
    have e0 := hc 0 (by omega) _ rfl
    have e1 := hc 1 (by omega) _ rfl
    have e2 := hc 2 (by omega) _ rfl
    rw [Addr.add_lit] at e0 e1 e2
    refine ⟨g, 0, (ls[K]).due, (ls[K]).place, (ls[K]).r.a, (ls[K]).r.n, (ls[K]).r.c, b2, o2, a2, n2, c2, (ls[K]).r.l, rfl, e, ?_, ?_, ?_, f0, f1, f2, hr, hr2, ?_⟩
    · simpa using e0
    · simpa [Nat.add_assoc] using e1
    · simpa [Nat.add_assoc, R1.v] using e2
    · rw [List.take_add_one, List.getElem?_map, List.getElem?_eq_getElem hk]; rfl

/-- What the law asks to lie apart. -/
theorem made_all {w w1 w2 w3 w6 : World} {g n tc : Nat} {ta : Option Addr} {l l2 : List Nat} {ls : List Ld} (hg : w.heap.size ≤ g) (hle : LentAt w1 g l) (hl : l.length = n) (hn : n ≤ 3000) (hs1 : w.heap.size ≤ w1.heap.size) (hs2 : w1.heap.size ≤ w2.heap.size) (hs3 : w2.heap.size ≤ w3.heap.size)
    (hM : Made w1.heap.size (ls.map Ld.r) w2) (ho : w6.ownsRow w3.heap.size 5 1 (.slice ta n tc) n (bs l2)) (h1 : ∀ x, x < w1.heap.size → w6.heap[x]? = w1.heap[x]?) (h2 : ∀ x, x < w2.heap.size → w6.heap[x]? = w2.heap[x]?) :
    Made w.heap.size ([⟨some ⟨g, 0, none⟩, n, n + 12, l⟩, ⟨ta, n, tc, l2⟩] ++ ls.map Ld.r) w6 := by
  have hlt := hle.lt
  have hin := own_frame (w' := w6) (lent_own (B := w.heap.size) hle hl (by omega) hg) fun x _ hx => h1 x hx
  have hls : ∀ r ∈ ls.map Ld.r, ∀ x, r.v.ownBlock = some x → w1.heap.size ≤ x ∧ x < w2.heap.size := fun r hr x hx => own_lt (hM.own r hr) hx
  refine ⟨fun r hr => ?_, ?_⟩
  · rcases List.mem_append.1 hr with hr | hr
    · rcases List.mem_cons.1 hr with rfl | hr
      · exact hin
      · rw [List.mem_singleton.1 hr]; exact own_mono ho (by omega)
    · exact own_mono (own_frame (hM.own r hr) fun x _ hx => h2 x hx) hs1
  · refine List.pairwise_append.2 ⟨List.pairwise_cons.2 ⟨fun s hs => ?_, List.pairwise_singleton _ _⟩, hM.unl, fun r hr s hs x hx hx2 => ?_⟩
    · rw [List.mem_singleton.1 hs]
      intro x hx hx2
      have e : g = x := by have := Option.some.inj hx; exact this
      have := (own_lt ho hx2).1
      omega
    · have h3 := hls s hs x hx2
      rcases List.mem_cons.1 hr with rfl | hr
      · have e : g = x := by have := Option.some.inj hx; exact this
        omega
      · rw [List.mem_singleton.1 hr] at hx
        have := (own_lt ho hx).1
        omega

set_option maxHeartbeats 3200000 in
set_option maxRecDepth 100000 in
theorem flands_great {w : World} {k b al pl now bit : Int} {a : Option Addr} {n c : Nat} (h : 3000 < n) :
    Calls Try.prog 3 #[.agg #[.int .i64 k, .int .i64 b, .int .i64 al, .int .i64 pl], .slice a n c, .int .i64 now, .int .i64 bit] w fun e w' => e = .returned (.bool true) ∧ Below w.heap.size w w' := by
  have d1 : decide ((3000 : Int) < (n : Int)) = true := by simp; omega
  have H14 := Lib.hid (awake_any (w.alloc (.cells #[.int .i64 k, .int .i64 b, .int .i64 al, .int .i64 pl] 24)))
  have HB0 := Lib.hid (show Below w.heap.size w (w.alloc (.cells #[.int .i64 k, .int .i64 b, .int .i64 al, .int .i64 pl] 24)) from (Below.refl _ _).alloc (Nat.le_refl _) _)
  clear h
  go_enter Try.func3, Try.ntmps3
  go_wp2_with fail
  refine H14.out.mono ?_
  rintro e w1 ⟨rfl, hB1⟩
  have HB1 := Lib.hid (HB0.out.trans (hB1.mono HB0.out.size))
  clear hB1
  go_wp2_with fail
  go_ret
  exact ⟨rfl, HB1.out⟩

set_option maxHeartbeats 6400000 in
set_option maxRecDepth 100000 in
theorem flands_walk {w : World} {k b al pl now bit er : Int} {a : Option Addr} {n c m : Nat} {l : List Nat} {L : List (Int × Int × List Nat)} (h : RB w a n c l) (hn : n ≤ 3000) (hbit : bit ≤ 9223372036854775807) (hm : L.length = m) (hm2 : m ≤ 2) (hLs : ∀ x ∈ L, Small x.2.2)
    (h16 : ∀ W x y, RB W x n y l → Calls Try.prog 16 #[.agg #[.int .i64 k, .int .i64 b, .int .i64 al, .int .i64 pl], .slice x n y, .int .i64 now] W fun e w' => ∃ va vc, ∃ ls : List Ld, e = .returned (.tuple #[.slice va m vc, .int .i64 er]) ∧ Hid (ls.map Ld.tell = L) ∧ Hid (∀ x ∈ ls, x.r.n = n) ∧ Hid (w'.ownsRow W.heap.size 39 3 (.slice va m vc) m (ls.flatMap Ld.cells)) ∧ Hid (Made W.heap.size (ls.map Ld.r) w') ∧ Hid (Below W.heap.size W w'))
    (h17 : ∀ W x y, RB W x n y l → Calls Try.prog 17 #[.agg #[.int .i64 k, .int .i64 b, .int .i64 al, .int .i64 pl], .slice x n y, .int .i64 now] W fun e w' => ∃ va vc, e = .returned (.tuple #[.slice va m vc, .int .i64 er]) ∧ Hid (LdR w' (.slice va m vc) L) ∧ Hid (Below W.heap.size W w')) :
    Calls Try.prog 3 #[.agg #[.int .i64 k, .int .i64 b, .int .i64 al, .int .i64 pl], .slice a n c, .int .i64 now, .int .i64 bit] w fun e w' => e = .returned (.bool true) ∧ Below w.heap.size w w' := by
  have d1 : decide ((3000 : Int) < (n : Int)) = false := by simp; omega
  obtain ⟨i31, hj, hy0, hy1, hy2⟩ := info_parts info31
  have HB0 := Lib.hid (show Below w.heap.size w (w.alloc (.cells #[.int .i64 k, .int .i64 b, .int .i64 al, .int .i64 pl] 24)) from (Below.refl _ _).alloc (Nat.le_refl _) _)
  have HF0 := Lib.hid (fate_box w k b al pl)
  have H := Lib.hid h
  have H15 := Lib.hid (lent_any (h.alloc (.cells #[.int .i64 k, .int .i64 b, .int .i64 al, .int .i64 pl] 24)))
  have H16 := Lib.hid h16
  have H17 := Lib.hid h17
  have hl := h.len
  have HLN := Lib.hid hl
  have HSM := Lib.hid h.small
  have HLS := Lib.hid hLs
  have HM := Lib.hid hm
  clear h h16 h17 hl hLs hm
  go_enter Try.func3, Try.ntmps3
  go_wp2_with fail
  refine H15.out.mono ?_
  rintro e w1 ⟨g, rfl, hg, hb, hB1⟩
  have hle : LentAt w1 g l := hb
  have HLE := Lib.hid hle
  have HB1 := Lib.hid (HB0.out.trans (hB1.mono HB0.out.size))
  have HF1 := Lib.hid (HF0.out.below hB1)
  have HG := Lib.hid (show w.heap.size ≤ g by have := HB0.out.size; omega)
  have HI1 := Lib.hid (own_rb2 (lent_own (B := 0) hle HLN.out (by omega) (Nat.zero_le _)) HSM.out (by omega))
  obtain ⟨c0, c1, c2, c3⟩ := HF1.out
  clear H15 hg hb hB1 HB0 HF0 hle
  go_wp2_with fail
  refine (H16.out w1 _ _ HI1.out).mono ?_
  rintro e w2 ⟨va, vc, ls, rfl, HT, HN2, HO2, HM2, HBx⟩
  have HB2 := Lib.hid (HB1.out.trans (HBx.out.mono HB1.out.size))
  have HF2 := Lib.hid (HF1.out.below HBx.out)
  have HI2 := Lib.hid (HI1.out.below HBx.out)
  have HLE2 := Lib.hid (HLE.out.below HBx.out HLE.out.lt)
  have HLD : Hid (LdR w2 (.slice va m vc) L) := Lib.hid (LandAt.rd ⟨ls, HT.out, HN2.out, by have := HO2.out; rwa [show ls.length = m by rw [← HM.out, ← HT.out, List.length_map]], HM2.out⟩ HLS.out (by omega))
  have HR2 := Lib.hid (H.out.below HB2.out)
  clear c0 c1 c2 c3
  obtain ⟨c0, c1, c2, c3⟩ := HF2.out
  go_wp2_with fail
  refine (H17.out w2 _ _ HR2.out).mono ?_
  rintro e w3 ⟨ua, uc, rfl, HLU, HBy⟩
  have HB3 := Lib.hid (HB2.out.trans (HBy.out.mono HB2.out.size))
  have HI3 := Lib.hid (HI2.out.below HBy.out)
  have k18 := Lib.hid (turn_any (bit := bit) HI3.out hbit)
  clear c0 c1 c2 c3
  go_wp2_with fail
  refine k18.out.mono ?_
  rintro e w4 ⟨v4, rfl, ho4, hB4⟩
  obtain ⟨ta, tc, rfl⟩ := own_slice ho4
  have HO4 := Lib.hid ho4
  have HB34 := Lib.hid hB4
  have HB4 := Lib.hid (HB3.out.trans (hB4.mono HB3.out.size))
  have k20 := Lib.hid (rturn_rd (bit := bit) (H.out.below HB4.out) hbit)
  clear ho4 hB4 k18
  go_wp2_with fail
  refine k20.out.mono ?_
  rintro e w5 ⟨sa, sc, rfl, hr5, hB5⟩
  have HB45 := Lib.hid hB5
  have k19 := Lib.hid (same_any ((own_rb2 HO4.out (fun i => Fm.turnI_small HSM.out bit i) (by omega)).below hB5) hr5)
  rw [decide_eq_true rfl] at k19
  clear hr5 hB5 k20
  go_wp2_with fail
  refine k19.out.mono ?_
  rintro e w6 ⟨rfl, hd6⟩
  have hBq : Below w5.heap.size w5 w6 := by obtain ⟨q, rfl⟩ := hd6; exact below_drewN (Below.refl _ _) _
  clear k19 hd6
  have hl' : ls.length = m := by rw [← HM.out, ← HT.out, List.length_map]
  have hB46 := HB45.out.trans (hBq.mono HB45.out.size)
  have hB36 := HB34.out.trans (hB46.mono HB34.out.size)
  have hB26 := HBy.out.trans (hB36.mono HBy.out.size)
  have hB16 := HBx.out.trans (hB26.mono HBx.out.size)
  have HB6 := Lib.hid (HB4.out.trans (hB46.mono HB4.out.size))
  have HO6 := Lib.hid (own_below HO4.out hB46)
  have HMA := Lib.hid (made_all HG.out HLE.out HLN.out hn HB1.out.size HBx.out.size HBy.out.size HM2.out HO6.out (fun x hx => hB16.block x hx) (fun x hx => hB26.block x hx))
  have HLE6 := Lib.hid (HLE.out.below hB16 HLE.out.lt)
  have HLR := Lib.hid fun K (hK : K < m) => land_round (own_frame3 HO2.out fun x _ hx => hB26.block x hx) hl' HT.out (HM2.out.below hB26) HN2.out HLS.out (by omega) (HLU.out.below hB36) hK
  have HLL := Lib.hid hl'
  have HCut := Lib.hid (show ∀ r ∈ ([⟨some ⟨g, 0, none⟩, n, n + 12, l⟩, ⟨ta, n, tc, Fm.turnI l bit⟩] ++ ls.map Ld.r : List R1), r.n ≤ 1000000 ∧ ∀ x, r.v.ownBlock = some x → x < w6.heap.size from fun r hr => ⟨by
    rcases List.mem_append.1 hr with hr | hr
    · rcases List.mem_cons.1 hr with rfl | hr
      · show n ≤ 1000000; omega
      · rw [List.mem_singleton.1 hr]; show n ≤ 1000000; omega
    · obtain ⟨x, hx, rfl⟩ := List.mem_map.1 hr
      rw [HN2.out x hx]; omega, fun x hx => (own_lt (HMA.out.own r hr) hx).2⟩)
  have HE6 := Lib.hid (own_cells25 (n := 2) (heap_alloc_new w6 (.cells #[.slice (some ⟨g, 0, none⟩) n (n + 12), .slice ta n tc] 25)) rfl (by omega) (Nat.le_refl _))
  clear HB45 HB34 HBy HBx HB4 HB3 HB2 HB1 HLE HLE2 HI1 HI2 HI3 HO2 HO4 HM2 HLU HLD HN2 HT HLS HR2 HF1 HF2 hl' hB46 hB36 hB26 hB16 hBq H16 H17
  go_wp2_with fail
  go_loopw [15, 16] (fun v i wr => ∃ K : Nat, ∃ aa ac, K ≤ m ∧ i = .int .i64 K ∧ v = .slice aa (K + 2) ac ∧ Hid (wr.ownsRow w6.heap.size 25 1 (.slice aa (K + 2) ac) (K + 2) ([.slice (some ⟨g, 0, none⟩) n (n + 12), .slice ta n tc] ++ (ls.map fun x => x.r.v).take K)) ∧ Hid (Below w6.heap.size w6 wr)) (fun _ i _ => m - (intOf i).toNat)
  case atStart => exact ⟨0, _, _, Nat.zero_le _, rfl, rfl, HE6.out, (Below.refl _ _).alloc (Nat.le_refl _) _⟩
  case round =>
    obtain ⟨K, aa, ac, hK, rfl, rfl, HO, HW⟩ := hrel
    by_cases hK1 : K < m
    · have d3 : ((K : Int) < (m : Int)) := by omega
      obtain ⟨b1, o1, d, q, ad, n1, c1, b2, o2, a2, n2, c2, l1, rfl, rfl, e0, e1, e2, f0, f1, f2, hr1, hr2, htk⟩ := HLR.out K hK1
      have e0 := (HW.out.cell (block_lt_of_cell e0)).trans e0
      have e1 := (HW.out.cell (block_lt_of_cell e1)).trans e1
      have e2 := (HW.out.cell (block_lt_of_cell e2)).trans e2
      have f0 := (HW.out.cell (block_lt_of_cell f0)).trans f0
      have f1 := (HW.out.cell (block_lt_of_cell f1)).trans f1
      have f2 := (HW.out.cell (block_lt_of_cell f2)).trans f2
      have hs : ∀ q, Hid (Calls Try.prog 19 #[.slice ad n1 c1, .slice a2 n2 c2] (wr.drewN q) fun e w' => e = .returned (.bool true) ∧ ∃ n, w' = (wr.drewN q).drewN n) := fun q =>
        (same_any ((hr1.below HW.out).drewN q) ((hr2.below HW.out).drewN q)).mono fun e w' ⟨h1, h2⟩ => ⟨by rw [h1, decide_eq_true rfl], h2⟩
      have HS := Lib.hid hs
      have HTK := Lib.hid htk
      clear hs hr1 hr2 htk
      go_wp2_with fail
      go_quiet (first | (go_at_call 19; exact Calls.quiet_of (HS.out _).out))
      have HOa := Lib.hid (own_frame (w' := (wr.drewN nq).alloc (.cells #[.slice ad n1 c1] 25)) HO.out fun x _ hx => Below.heap_alloc (wr.drewN nq) _ x hx)
      clear HO HS
      go_wp2_with (at_builtin; refine wpList_append_own3 _ rfl (.tmp 105) (.tmp 111) 37 rfl w6.heap.size 25 i31 (.slice none 0 0) 24 Try.underlying37 hj hy0 hy1 hy2 rfl _ (K + 2) _ rfl HOa.out ⟨wr.heap.size, 0, none⟩ 1 1 [.slice ad n1 c1] rfl rfl (cell_new31 (wr.drewN nq) _) (one_sl _ _ _) (by unfold maxLen; omega) (by omega) (by have := HW.out.size; simp; omega) ?_)
      intro v7 w7 ho7 hg7 hb7 hk7
      obtain ⟨g7, c7, rfl⟩ := own_succ ho7
      have HO7 := Lib.hid ho7
      have HW7 := Lib.hid (HW.out.trans (((below_drewN (Below.refl w6.heap.size wr) nq).alloc (show w6.heap.size ≤ (wr.drewN nq).heap.size from HW.out.size) (.cells #[.slice ad n1 c1] 25)).grown hg7 (by have := HW.out.size; simp; omega) (fun x e => (own_lt HOa.out e).1)))
      clear ho7 hg7 hb7 hk7 HOa HW
      go_wp2_with fail
      go_roundw
      case rel => exact ⟨K + 1, _, _, by omega, by go_num, rfl, by have := HO7.out; rw [← HTK.out] at this; exact this, HW7.out⟩
      case measure => simp [intOf]; omega
    · obtain rfl : m = K := by omega
      have hw := HW.out
      have k21 := Lib.hid (kept_any (H.out.below (HB6.out.trans (hw.mono HB6.out.size))) (HLE6.out.below hw HLE6.out.lt))
      clear hw
      go_wp2_with fail
      refine k21.out.mono ?_
      rintro e w7 ⟨rfl, hd7⟩
      have hB7 : Below wr.heap.size wr w7 := by obtain ⟨q, rfl⟩ := hd7; exact below_drewN (Below.refl _ _) _
      have hW7 := HW.out.trans (hB7.mono HW.out.size)
      have hrs : ([⟨some ⟨g, 0, none⟩, n, n + 12, l⟩, ⟨ta, n, tc, Fm.turnI l bit⟩] ++ ls.map Ld.r : List R1).length = m + 2 := by simp [HLL.out]
      have k22 := rows_apart_own (C := ac) (la := aa) (Lb := w6.heap.size) (HMA.out.below hW7) (by have := HB6.out.size; have := hW7.size; omega) (fun r hr => (HCut.out r hr).1) (by rw [hrs]; omega) (by rw [hrs]; omega) (by
        rw [hrs]
        have := own_frame (w' := w7) HO.out fun x _ hx => hB7.block x hx
        rw [List.take_of_length_le (by rw [List.length_map, HLL.out]; exact Nat.le_refl _)] at this
        simpa [R1.v, Function.comp_def] using this) (fun r hr => (HCut.out r hr).2)
      rw [hrs] at k22
      have K22 := Lib.hid k22
      have HB7 := Lib.hid (HB6.out.trans (hW7.mono HB6.out.size))
      clear k22 k21 hd7 hB7 hW7
      go_wp2_with fail
      refine K22.out.mono ?_
      rintro e w8 ⟨rfl, hB8⟩
      have HB8 := Lib.hid (HB7.out.trans hB8)
      have k14 := Lib.hid (awake_any w8)
      clear hB8 K22 HB7
      go_wp2_with fail
      refine k14.out.mono ?_
      rintro e w9 ⟨rfl, hB9⟩
      have HB9 := Lib.hid (HB8.out.trans (hB9.mono HB8.out.size))
      clear hB9
      go_wp2_with fail
      go_ret
      exact ⟨rfl, HB9.out⟩

theorem LandAt.parts {B n m : Nat} {v : Value} {L : List (Int × Int × List Nat)} {w : World} (h : LandAt B v n L w) (hm : L.length = m) : ∃ va vc, ∃ ls : List Ld, v = .slice va m vc ∧ ls.map Ld.tell = L ∧ (∀ x ∈ ls, x.r.n = n) ∧ w.ownsRow B 39 3 (.slice va m vc) m (ls.flatMap Ld.cells) ∧ Made B (ls.map Ld.r) w := by
  obtain ⟨ls, hT, hn, ho, hM⟩ := h
  have e : ls.length = m := by rw [← hm, ← hT, List.length_map]
  rw [e] at ho
  rcases ho.2 with ⟨rfl, h0⟩ | ⟨g, cap, cur, rfl, hb, hh, hnc⟩
  · subst h0; exact ⟨none, 0, ls, rfl, hT, hn, ho, hM⟩
  · exact ⟨_, cap, ls, rfl, hT, hn, ho, hM⟩

theorem landsOf_two (k b al pl now : Int) (l : List Nat) : (landsOf k b al pl now l).length ≤ 2 := by
  unfold landsOf
  split
  · simp
  · split
    · simp
    · split <;> simp

theorem flands_any {w : World} {k b al pl now bit : Int} {a : Option Addr} {n c : Nat} {l : List Nat} (h : RB w a n c l) (hbit : bit ≤ 9223372036854775807) :
    Calls Try.prog 3 #[.agg #[.int .i64 k, .int .i64 b, .int .i64 al, .int .i64 pl], .slice a n c, .int .i64 now, .int .i64 bit] w fun e w' => e = .returned (.bool true) ∧ Below w.heap.size w w' := by
  by_cases hn : 3000 < n
  · exact flands_great hn
  · by_cases hr : RightF k b al pl ∧ (0 ≤ now ∧ now ≤ 2147483647)
    · obtain ⟨hr, hnow⟩ := hr
      refine flands_walk (L := landsOf k b al pl now l) (er := 0) h (by omega) hbit rfl (landsOf_two k b al pl now l) (landsOf_small h.small) (fun W x y hW => ?_) fun W x y hW => ?_
      · refine (lands_ok hW hr hnow).mono ?_
        rintro e w' ⟨v, rfl, hL, hB⟩
        obtain ⟨va, vc, ls, rfl, h1, h2, h3, h4⟩ := hL.parts rfl
        exact ⟨va, vc, ls, rfl, h1, h2, h3, h4, hB⟩
      · refine (rlands_ok hW hr hnow).mono ?_
        rintro e w' ⟨v, rfl, hL, hB⟩
        obtain ⟨va, vc, rfl, _⟩ := hL.shape
        exact ⟨va, vc, rfl, hL, hB⟩
    · refine flands_walk (L := []) (er := 2) h (by omega) hbit rfl (Nat.zero_le _) (fun x hx => absurd hx (by simp)) (fun W x y hW => ?_) fun W x y hW => ?_
      · refine (lands_bad x n y hr).mono ?_
        rintro e w' ⟨rfl, hB⟩
        exact ⟨none, 0, [], rfl, rfl, fun x hx => absurd hx (by simp), ⟨rfl, .inl ⟨rfl, rfl⟩⟩, Made.nil _ _, hB⟩
      · refine (rlands_bad x n y hr).mono ?_
        rintro e w' ⟨rfl, hB⟩
        exact ⟨none, 0, rfl, ⟨none, 0, rfl, fun k hk => absurd hk (by simp)⟩, hB⟩
end Go.Proofs.Ytfojhmobnedekaa
