/- The walk of the law WireOnce. Conditions: lists are shorter than 2 to the 40. -/
import Derived.Test.YtfojhmobnedekaaWire16
namespace Go.Proofs.Ytfojhmobnedekaa
open Go.RowKit

theorem flat_snoc (ps : List (Ld × Int)) (p : Ld × Int) : ((ps ++ [p]).map (·.1)).flatMap Ld.cells = (ps.map (·.1)).flatMap Ld.cells ++ p.1.cells := by simp
theorem rd_rb {w : World} {a : Option Addr} {n c k : Nat} {L : List Dd} {x : Dd} (h : RD w a n c L) (hx : L[k]? = some x) : RB w x.a x.n x.c x.l := by
  obtain ⟨_, _, _, _, _, _, _, _, _, _, _, hr⟩ := h.at_ k x hx
  exact hr
/-- The list, j of the landings gone over. -/
def pj (ps : List (Ld × Int)) (ls : List Ld) (t : Int) (j : Nat) : List (Ld × Int) := ps ++ (ls.take j).map fun d => (d, t)
theorem pj_succ {ps : List (Ld × Int)} {ls : List Ld} {t : Int} {j : Nat} {y : Ld} (h : ls[j]? = some y) : pj ps ls t (j + 1) = pj ps ls t j ++ [(y, t)] := by
  unfold pj
  rw [List.take_add_one, h, List.map_append, List.append_assoc]; rfl
theorem pj_len {ps : List (Ld × Int)} {ls : List Ld} {t : Int} {j : Nat} (h : j ≤ ls.length) : (pj ps ls t j).length = ps.length + j := by
  unfold pj
  rw [List.length_append, List.length_map, List.length_take, Nat.min_eq_left h]
set_option maxHeartbeats 4000000 in
set_option maxRecDepth 100000 in
theorem once_walk {w : World} {a : Option Addr} {len cap : Nat} {L : List Dd} {now : Int} (h : RD w a len cap L) :
    Calls Try.prog 8 #[.slice a len cap, .int .i64 now] w fun e w' => e = .returned (.bool true) ∧ Below w.heap.size w w' := by
  have hm := h.most
  have hl := h.len
  have H := Lib.hid h
  have H32 := Lib.hid (awake28 w)
  clear h
  go_enter Try.func8, Try.ntmps8
  go_wp2_with fail
  refine H32.out.mono ?_
  rintro e w1 ⟨rfl, hB1⟩
  have H33 := Lib.hid (size_any (H.out.below hB1))
  have HB1 := Lib.hid hB1
  clear hB1 H32
  go_wp2_with fail
  refine H33.out.mono ?_
  rintro e w2 ⟨⟨r, rfl, hr1, hr2⟩, rfl⟩
  have HS := Lib.hid hr2
  clear hr2 H33
  by_cases hsz : r ≤ 400
  · have hlen : len + sumD L ≤ 400 := by have := HS.out hsz; omega
    have H34 := Lib.hid (New_any w1)
    go_wp2_with fail
    refine H34.out.mono ?_
    rintro e w3 ⟨rfl, rfl⟩
    have H0 := Lib.hid (show OnceI w w1.heap.size 0 [] 0 (.slice none 0 0) (.slice none 0 0) (.slice none 0 0) (w1.alloc (.cells (wireC (.slice none 0 0) 0 0) 91)) from
      ⟨PW.new w1, ⟨World.ownsRow_nil _ _ _ _, World.ownsRow_nil _ _ _ _, fun p hp => absurd hp (by simp)⟩, fun p hp => absurd hp (by simp), Nat.le_refl _, by decide, HB1.out.trans (show Below w.heap.size w1 _ from (Below.refl _ _).alloc HB1.out.size _), HB1.out.size⟩)
    generalize w1.alloc (.cells (wireC (.slice none 0 0) 0 0) 91) = w3 at *
    obtain ⟨W, hW⟩ : ∃ W, W = w1.heap.size := ⟨_, rfl⟩
    rw [← hW] at H0 ⊢
    clear HB1 HS H34 hW
    go_wp2_with fail
    go_loopw [6, 7, 8] (fun va vt i wr => ∃ k : Nat, ∃ ps dr v aa ac ta tc, k ≤ len ∧ i = .int .i64 k ∧ va = .slice aa (ps : List (Ld × Int)).length ac ∧ vt = .slice ta ps.length tc ∧ Hid (OnceI w W k ps dr v (.slice aa ps.length ac) (.slice ta ps.length tc) wr)) (fun _ _ i _ => len - (intOf i).toNat)
    case atStart => exact ⟨0, [], 0, _, none, 0, none, 0, Nat.zero_le _, rfl, rfl, rfl, H0⟩
    case round =>
      obtain ⟨k, ps, dr, v, aa, ac, ta, tc, hk, rfl, rfl, rfl, HR⟩ := hrel
      by_cases hlt : k < len
      · obtain ⟨x, hx⟩ : ∃ x, L[k]? = some x := ⟨_, List.getElem?_eq_getElem (by omega)⟩
        obtain ⟨b, off, rfl, x0, x1, x2, x3, x4, x5, x6, x7, hrb⟩ := (H.out.below HR.out.low).at_ k x hx
        have hx8 : BoxD wr.heap.size x (wr.alloc (.cells #[.int .i64 x.wh, .int .i64 x.tt, .int .i64 x.nw, .int .i64 x.k, .int .i64 x.b, .int .i64 x.al, .int .i64 x.pl, .slice x.a x.n x.c] 59)) := World.alloc_heap_new wr _
        have hB5 : Below wr.heap.size wr (wr.alloc (.cells #[.int .i64 x.wh, .int .i64 x.tt, .int .i64 x.nw, .int .i64 x.k, .int .i64 x.b, .int .i64 x.al, .int .i64 x.pl, .slice x.a x.n x.c] 59)) := (Below.refl _ _).alloc (Nat.le_refl _) _
        go_upto_region 12 with fail
        generalize wr.alloc (.cells #[.int .i64 x.wh, .int .i64 x.tt, .int .i64 x.nw, .int .i64 x.k, .int .i64 x.b, .int .i64 x.al, .int .i64 x.pl, .slice x.a x.n x.c] 59) = W5 at *
        have hxn : x.n ≤ 1000 := by have := sumD_mem (List.mem_of_getElem? hx); omega
        have hk400 : k ≤ 400 := by omega
        have hR := HR.out
        have hla := hR.len
        have hdra := hR.dra
        have hsa := hR.sa
        have hPa := hR.pw.below hB5
        have hr5 := hrb.below hB5
        have hlow5 : Below w.heap.size w W5 := hR.low.trans (hB5.mono hR.low.size)
        have hWl := lt_of_block hPa.wire
        have HSA := Lib.hid (sendD x hPa hr5 hxn (by rw [ordZ_len, List.length_map]; omega) (by omega) (by omega) (by omega))
        have x1 := hx8.cell 1 _ rfl
        have x2 := hx8.cell 2 _ rfl
        have x3 := hx8.cell 3 _ rfl
        have x4 := hx8.cell 4 _ rfl
        have x5 := hx8.cell 5 _ rfl
        have x6 := hx8.cell 6 _ rfl
        have x7 := hx8.cell 7 _ rfl
        have HX := Lib.hid hx
        have HX8 := Lib.hid hx8
        have HPA := Lib.hid hPa
        have HLOW := Lib.hid hlow5
        have HB5 := Lib.hid hB5
        clear x0 hrb hx hx8 hB5 hPa hr5 hlow5 hR
        go_wp2_with fail
        refine HSA.out.mono ?_
        rintro e w6 ⟨rfl, v6, ha6, hk6, hn6⟩
        clear HSA x1 x2 x3 x4 x5 x6 x7
        have hx6 : BoxD wr.heap.size x w6 := HPA.out.far hk6 HX8.out (by decide) (by decide)
        have hlow6 : Below w.heap.size w w6 := HLOW.out.trans (hk6.low hsa (fun g e => by have := (HPA.out.ownB e).1; omega) HLOW.out.size)
        have hrow6 : AllO w.heap.size (.slice aa ps.length ac) (.slice ta ps.length tc) ps w6 :=
          ⟨own_far HPA.out hk6 (own_frame3 HR.out.row.row fun g _ hg => HB5.out.block g hg) (by decide) (by decide), own_far HPA.out hk6 (own_frame3 HR.out.row.tos fun g _ hg => HB5.out.block g hg) (by decide) (by decide), fun p hp => own_far HPA.out hk6 (own_frame3 (HR.out.row.own p hp) fun g _ hg => HB5.out.block g hg) (by decide) (by decide)⟩
        rw [x.put_ord, x.ld_new] at ha6
        have hdr6 := x.dr_le dr
        by_cases hgo : x.goes
        · rw [show x.code = 0 from by unfold Dd.code; rw [if_pos hgo]]
          rw [Dd.new_goes hgo] at ha6
          have hr6 := rd_rb (H.out.below hlow6) HX.out
          have H16 := Lib.hid (lands_ok hr6 hgo.2.1 hgo.2.2)
          have x2 := hx6.cell 2 _ rfl
          have x3 := hx6.cell 3 _ rfl
          have x4 := hx6.cell 4 _ rfl
          have x5 := hx6.cell 5 _ rfl
          have x6 := hx6.cell 6 _ rfl
          have x7 := hx6.cell 7 _ rfl
          have H6 := Lib.hid (And.intro ha6 (And.intro hx6 (And.intro hlow6 hrow6)))
          have HPOS := Lib.hid (landsOf_pos (l := x.l) hgo.2.1 hgo.2.2.1)
          clear ha6 hk6 hn6 hx6 hlow6 hrow6 hr6 hgo
          go_wp2_with fail
          refine H16.out.mono ?_
          rintro e w7 ⟨vl, rfl, ⟨ls, htl, hln, hol, hml⟩, hB7⟩
          obtain ⟨ha6, hx6, hlow6, hrow6⟩ := H6.out
          obtain ⟨la, lc, rfl⟩ := own39_slice hol
          have hls : ls.length ≤ 2 := by rw [← List.length_map (f := Ld.tell), htl]; exact landsOf_len _ _ _ _ _ _
          have hzF : (pj ps ls x.tt ls.length).map zOf = ps.map zOf ++ x.L.map fun y => ⟨y.1, y.2.1, x.tt, y.2.2⟩ := by
            unfold pj Dd.L
            rw [List.take_of_length_le (Nat.le_refl _), List.map_append, ← htl, List.map_map, List.map_map]; rfl
          have hlF : ((ps.length : Nat) : Int) + ((x.L.map fun y => (⟨y.1, y.2.1, x.tt, y.2.2⟩ : Zl)).length : Nat) = (((pj ps ls x.tt ls.length).length : Nat) : Int) := by
            unfold pj Dd.L
            rw [List.length_map, ← htl, List.length_map, List.take_of_length_le (Nat.le_refl _), List.length_append, List.length_map]; omega
          rw [← hzF, hlF] at ha6
          have hposF : ∀ p ∈ pj ps ls x.tt ls.length, 0 ≤ p.1.due := fun p hp => by
            unfold pj at hp
            rw [List.take_of_length_le (Nat.le_refl _)] at hp
            rcases List.mem_append.1 hp with hp | hp
            · exact HR.out.pos p hp
            · obtain ⟨d, hd, rfl⟩ := List.mem_map.1 hp
              have : d.tell ∈ landsOf x.k x.b x.al x.pl x.nw x.l := by rw [← htl]; exact List.mem_map_of_mem hd
              exact HPOS.out _ this
          have hsz6 : w.heap.size ≤ w6.heap.size := hlow6.size
          obtain ⟨bx, hbx⟩ : ∃ bx, bx = wr.heap.size := ⟨_, rfl⟩
          rw [← hbx] at hx6
          have hIn : InI w W (ordZ ((pj ps ls x.tt ls.length).map zOf)) ((pj ps ls x.tt ls.length).length : Nat) (x.dr dr) v6 (.slice la ls.length lc) ls bx x (pj ps ls x.tt ls.length) (.slice aa ps.length ac) (.slice ta ps.length tc) ps ps w7 :=
            ⟨ha6.below hB7, own_frame3 hrow6.row fun g _ hg => hB7.block g hg, own_frame3 hrow6.tos fun g _ hg => hB7.block g hg, fun p hp => by
              unfold pj at hp
              rw [List.take_of_length_le (Nat.le_refl _)] at hp
              rcases List.mem_append.1 hp with hp | hp
              · exact own_frame3 (hrow6.own p hp) fun g _ hg => hB7.block g hg
              · obtain ⟨d, hd, rfl⟩ := List.mem_map.1 hp
                exact own_mono (hml.own _ (List.mem_map_of_mem hd)) hsz6, own_mono3 hol hsz6, fun g e1 e2 => by have := (own_lt3 hol e1).1; have := (own_lt3 hrow6.row e2).2; omega, (hB7.block _ (lt_of_block hx6)).trans hx6, hlow6.trans (hB7.mono hsz6)⟩
          have HIN := Lib.hid hIn
          have HF := Lib.hid (And.intro hposF hls)
          have hpl : ps.length ≤ 802 := by omega
          clear ha6 hx6 hlow6 hrow6 htl hln hol hml hB7 hzF hlF hposF hIn H6 H16 HPOS x2 x3 x4 x5 x6 x7
          rw [← hbx]
          clear hbx
          go_wp2_with fail
          go_loopw [6, 7, 12] (fun va vt i wr => ∃ j : Nat, ∃ a1 c1 a2 c2, j ≤ ls.length ∧ i = .int .i64 j ∧ va = .slice a1 (ps.length + j) c1 ∧ vt = .slice a2 (ps.length + j) c2 ∧ Hid (InI w W (ordZ ((pj ps ls x.tt ls.length).map zOf)) ((pj ps ls x.tt ls.length).length : Nat) (x.dr dr) v6 (.slice la ls.length lc) ls bx x (pj ps ls x.tt ls.length) (.slice a1 (ps.length + j) c1) (.slice a2 (ps.length + j) c2) (pj ps ls x.tt j) (pj ps ls x.tt j) wr)) (fun _ _ i _ => ls.length - (intOf i).toNat)
          case atStart => exact ⟨0, aa, ac, ta, tc, Nat.zero_le _, rfl, rfl, rfl, by rw [show pj ps ls x.tt 0 = ps from List.append_nil _]; exact HIN⟩
          case round =>
            obtain ⟨j, a1, c1, a2, c2, hj, rfl, rfl, rfl, HI⟩ := hrel
            by_cases hjl : j < ls.length
            · obtain ⟨y, hy⟩ : ∃ y, ls[j]? = some y := ⟨_, List.getElem?_eq_getElem hjl⟩
              obtain ⟨g, rfl, y0, y1, y2⟩ := HI.out.cells hy
              obtain ⟨i39, hi, hz0, hz1, hz2⟩ := info_parts info39
              obtain ⟨i61, hj1, hw0, hw1, hw2⟩ := info_parts info61
              have hls2 := HF.out.2
              have hpn : ps.length + j ≤ 804 := by omega
              have hI1 := HI.out.below (show Below wr.heap.size wr (wr.alloc (.cells #[.int .i64 y.due, .int .i64 y.place, .slice y.r.a y.r.n y.r.c] 39)) from (Below.refl _ _).alloc (Nat.le_refl _) _)
              have hlen := pj_len (ps := ps) (t := x.tt) hj
              have hrow1 := hI1.row
              rw [hlen] at hrow1
              have HC1 := Lib.hid (cells_at_block (World.alloc_heap_new wr (.cells [.int .i64 y.due, .int .i64 y.place, .slice y.r.a y.r.n y.r.c].toArray 39)))
              have hbs1 := hI1.low.size
              have HI1 := Lib.hid hI1
              have HROW1 := Lib.hid hrow1
              have HY := Lib.hid hy
              clear hI1 hrow1 hlen hy
              go_wp2_with (at_builtin; refine wpList_append_ownS _ rfl (.tmp 64) (.tmp 69) 28 rfl w.heap.size 39 i39 _ 3 40 Try.underlying28 hi hz0 hz1 hz2 rfl (by decide) (.slice a1 (ps.length + j) c1) (ps.length + j) _ rfl HROW1.out ⟨wr.heap.size, 0, none⟩ 1 1 [.int .i64 y.due, .int .i64 y.place, .slice y.r.a y.r.n y.r.c] rfl rfl HC1.out (by simp [Value.oneCell']) (by unfold maxLen; omega) (by omega) hbs1 ?_)
              intro v1 w8 ho8 hg8 hn8
              obtain ⟨b1, d1, rfl⟩ := own39_slice ho8
              have hl1 := pj_len (ps := ps) (t := x.tt) (show j + 1 ≤ ls.length by omega)
              have hI2 : InI w W (ordZ ((pj ps ls x.tt ls.length).map zOf)) ((pj ps ls x.tt ls.length).length : Nat) (x.dr dr) v6 (.slice (some ⟨g, 0, none⟩) ls.length lc) ls bx x (pj ps ls x.tt ls.length) (.slice b1 (ps.length + j + 1) d1) (.slice a2 (ps.length + j) c2) (pj ps ls x.tt (j + 1)) (pj ps ls x.tt j) w8 :=
                HI1.out.app1 (by rw [hl1, pj_succ HY.out, flat_snoc]; exact ho8) hg8 (fun g e => by rw [World.size_alloc]; exact hn8 g e)
              have hI3 := hI2.below (show Below w8.heap.size w8 (w8.alloc (.cells #[.int .i64 x.tt] 61)) from (Below.refl _ _).alloc (Nat.le_refl _) _)
              have hlen := pj_len (ps := ps) (t := x.tt) hj
              have hrow3 := hI3.tos
              rw [hlen] at hrow3
              have HC3 := Lib.hid (cells_at_block (World.alloc_heap_new w8 (.cells [.int .i64 x.tt].toArray 61)))
              have hbs3 := hI3.low.size
              have hxt := hI2.box.cell 1 _ rfl
              have HI3 := Lib.hid hI3
              have HROW3 := Lib.hid hrow3
              clear ho8 hg8 hn8 hI2 hI3 hrow3 hlen hl1 HI1 HROW1 HC1 y0 y1 y2
              go_wp2_with (at_builtin; refine wpList_append_ownS _ rfl (.tmp 71) (.tmp 74) 57 rfl w.heap.size 61 i61 _ 1 8 Try.underlying57 hj1 hw0 hw1 hw2 rfl (by decide) (.slice a2 (ps.length + j) c2) (ps.length + j) _ rfl HROW3.out ⟨w8.heap.size, 0, none⟩ 1 1 [.int .i64 x.tt] rfl rfl HC3.out (by simp [Value.oneCell']) (by unfold maxLen; omega) (by omega) hbs3 ?_)
              intro v2 w9 ho9 hg9 _
              obtain ⟨b2, d2, rfl⟩ := own39_slice ho9
              have hl1 := pj_len (ps := ps) (t := x.tt) (show j + 1 ≤ ls.length by omega)
              have hI4 : InI w W (ordZ ((pj ps ls x.tt ls.length).map zOf)) ((pj ps ls x.tt ls.length).length : Nat) (x.dr dr) v6 (.slice (some ⟨g, 0, none⟩) ls.length lc) ls bx x (pj ps ls x.tt ls.length) (.slice b1 (ps.length + j + 1) d1) (.slice b2 (ps.length + j + 1) d2) (pj ps ls x.tt (j + 1)) (pj ps ls x.tt (j + 1)) w9 :=
                HI3.out.app2 (by rw [hl1, pj_succ HY.out, List.map_append]; exact ho9) hg9
              have HI4 := Lib.hid hI4
              clear ho9 hg9 hI4 hl1 HI3 HROW3 HC3 hxt
              go_wp2_with fail
              go_roundw
              case rel => exact ⟨j + 1, b1, d1, b2, d2, by omega, by go_num, rfl, rfl, HI4⟩
              case measure => simp [intOf]; omega
            · obtain rfl : j = ls.length := by omega
              have hlF := pj_len (ps := ps) (t := x.tt) (Nat.le_refl ls.length)
              have hI := HI.out
              have hOn : OnceI w W (k + 1) (pj ps ls x.tt ls.length) (x.dr dr) v6 (.slice a1 (pj ps ls x.tt ls.length).length c1) (.slice a2 (pj ps ls x.tt ls.length).length c2) wr :=
                ⟨hI.pw, by rw [hlF]; exact ⟨hI.row, hI.tos, hI.own⟩, HF.out.1, by have := HF.out.2; omega, by omega, hI.low, hsa⟩
              have HON := Lib.hid hOn
              rw [← hlF]
              clear hOn hI hlF
              go_wp2_with fail
              go_roundw
              case rel => exact ⟨k + 1, pj ps ls x.tt ls.length, x.dr dr, v6, a1, c1, a2, c2, by omega, by go_num, rfl, rfl, HON⟩
              case measure => simp [intOf]; omega
        · have hnew := Dd.new_not hgo
          rw [hnew, List.append_nil] at ha6
          have hOn : OnceI w W (k + 1) ps (x.dr dr) v6 (.slice aa ps.length ac) (.slice ta ps.length tc) w6 := ⟨by simpa using ha6, hrow6, HR.out.pos, by omega, by omega, hlow6, hsa⟩
          have HON := Lib.hid hOn
          rw [show x.code = 2 from by unfold Dd.code; rw [if_neg hgo]]
          clear ha6 hk6 hn6 hx6 hlow6 hrow6 hOn hnew
          go_wp2_with fail
          go_roundw
          case rel => exact ⟨k + 1, ps, x.dr dr, v6, aa, ac, ta, tc, by omega, by go_num, rfl, rfl, HON⟩
          case measure => simp [intOf]; omega
      · obtain rfl : k = len := by omega
        have hR := HR.out
        have hN : ps.length ≤ 800 := by have := hR.len; omega
        have hdra := hR.dra
        have hsa := hR.sa
        have hOl : (ordZ (ps.map zOf)).length = ps.length := by rw [ordZ_len, List.length_map]
        have H36 := Lib.hid (Sent_any hR.pw.wire)
        have HPOSZ := Lib.hid hR.pos
        clear hR
        go_wp2_with fail
        refine H36.out.mono ?_
        rintro e w5 ⟨rfl, hB5⟩
        have hp5 := HR.out.pw.below hB5
        have hall5 := HR.out.row.below hB5
        have hlow5 := HR.out.low.trans (hB5.mono HR.out.low.size)
        have H37 := Lib.hid (openP hp5)
        rw [hOl] at H37
        have H38 := Lib.hid (dueP now hp5 (by rw [hOl]; omega))
        have H5 := Lib.hid (And.intro hp5 (And.intro hall5 hlow5))
        clear hp5 hall5 hlow5 hB5 H36 HR
        go_wp2_with fail
        refine H37.out.mono ?_
        rintro e w6 ⟨rfl, rfl⟩
        clear H37
        go_wp2_with fail
        refine H38.out.mono ?_
        rintro e w6 ⟨vm, v6, xs, rfl, hx6, hm6, hp6, hk6, ho6⟩
        have hp5 := H5.out.1
        obtain ⟨am, cm, rfl⟩ := own70_slice hm6.row
        have hxl : xs.length = (dueZ now (ordZ (ps.map zOf))).length := by rw [← hx6, List.length_map]
        have hmr := hm6.rd (by rw [hx6]; exact sm_due hp5.sm)
        rw [hx6] at hmr
        rw [hxl] at hmr ⊢
        have hall6 : AllO w.heap.size (.slice aa ps.length ac) (.slice ta ps.length tc) ps w6 :=
          ⟨own_far hp5 hk6 H5.out.2.1.row (by decide) (by decide), own_far hp5 hk6 H5.out.2.1.tos (by decide) (by decide), fun p hp => own_far hp5 hk6 (H5.out.2.1.own p hp) (by decide) (by decide)⟩
        have hlow6 : Below w.heap.size w w6 := H5.out.2.2.trans (hk6.low hsa (fun g e => by have := (hp5.ownB e).1; omega) H5.out.2.2.size)
        have hsm : ∀ p ∈ ps, Small p.1.r.l ∧ p.1.r.l.length ≤ 1000 := fun p hp => hp5.sm _ (mem_ordZ.2 (List.mem_map_of_mem (f := zOf) hp))
        have H6 := Lib.hid (And.intro hmr (And.intro hall6 (And.intro hp6 (And.intro hlow6 hsm))))
        have hml : (dueZ now (ordZ (ps.map zOf))).length ≤ ps.length := by
          rw [← hOl]; exact List.IsPrefix.length_le (List.takeWhile_prefix (l := ordZ (ps.map zOf)) (fun x => decide (x.d ≤ now)))
        have hls6 := hlow6.size
        clear hx6 hm6 hp6 hk6 ho6 hxl hmr hall6 hlow6 hsm hp5 H38 H5
        obtain ⟨i4, hi4, hy0, hy1, hy2⟩ := info_parts info4b
        go_wp2_with (refine wpList_make_full _ rfl (.tmp 96) (.tmp 96) 67 rfl w6.heap.size 4 i4 (.bool false) 1 Try.underlying67 hi4 hy0 hy1 .i64 .i64 _ _ ps.length rfl rfl rfl rfl ?_ ?_ (Nat.le_refl _) ?_)
        · rw [hy2]; omega
        · unfold maxLen; omega
        intro w7 ho7 hg7
        have HG7 := Lib.hid (gone_new ho7)
        have HB7 := Lib.hid ((Below.refl w6.heap.size w6).grown hg7 (Nat.le_refl _) (fun j e => by cases e))
        clear ho7 hg7
        generalize hZ : ps.map zOf = Z at *
        have hZl : Z.length = ps.length := by rw [← hZ, List.length_map]
        have HZ := Lib.hid hZ
        have hord := remTo_all Z (fun _ => false) (fun _ => rfl) Z.length (Nat.le_refl _)
        rw [List.take_of_length_le (Nat.le_refl _)] at hord
        have hord : ordZ (remTo Z (fun _ => false) Z.length) = (ordZ Z).drop 0 := by rw [hord]; rfl
        have HORD := Lib.hid hord
        have HZL := Lib.hid hZl
        clear hZ hord
        obtain ⟨M, hM⟩ : ∃ M, M = (dueZ now (ordZ Z)).length := ⟨_, rfl⟩
        have HM := Lib.hid hM
        rw [← hM] at hml ⊢
        clear hM hZl hOl
        go_wp2_with fail
        go_loopw [17, 18, 19] (fun l i _ wr => ∃ q : Nat, ∃ last : Int, ∃ g : Nat → Bool, q ≤ M ∧ i = .int .i64 q ∧ l = .int .i64 last ∧ Hid (ordZ (remTo Z g Z.length) = (ordZ Z).drop q) ∧ Hid ((q = 0 ∧ last = -1) ∨ ∃ x, 0 < q ∧ (ordZ Z)[q - 1]? = some x ∧ last = x.d) ∧ Hid (GoneO w6.heap.size (.slice (some ⟨w6.heap.size, 0, none⟩) ps.length ps.length) ps.length g wr) ∧ Hid (Below w6.heap.size w6 wr)) (fun _ i _ _ => M - (intOf i).toNat)
        case atStart => exact ⟨0, -1, fun _ => false, Nat.zero_le _, rfl, rfl, HORD, .inl ⟨rfl, rfl⟩, HG7, HB7⟩
        case round =>
          obtain ⟨q, last, g, hq, rfl, rfl, HO, HL, HG, HB⟩ := hrel
          by_cases hlt : q < M
          · obtain ⟨b, hb1, hb2, hb3, hb4, hb5, hb6⟩ := once_step (now := now) HO.out (by rw [← HM.out]; exact hlt)
            have hbn : b < ps.length := by rw [← HZL.out]; exact hb2
            obtain ⟨p, hp⟩ : ∃ p, ps[b]? = some p := ⟨_, List.getElem?_eq_getElem hbn⟩
            have hzb : Z.getD b default = zOf p := by rw [← HZ.out, List.getD_eq_getElem?_getD, List.getElem?_map, hp]; rfl
            rw [hzb] at hb3 hb4 hb6
            obtain ⟨hmr, hall, hpw, hlow, hsm⟩ := H6.out
            have hnx := nextg_any (hall.below HB.out) rfl (by omega) HG.out
            rw [show nextTo (ps.map zOf) g ps.length = some b from by rw [HZ.out, ← HZL.out]; exact hb1] at hnx
            have hlastd : last ≤ p.1.due := by
              rcases HL.out with ⟨_, rfl⟩ | ⟨x, hq0, hx, rfl⟩
              · have : zOf p ∈ Z := by rw [← HZ.out]; exact List.mem_map_of_mem (List.mem_of_getElem? hp)
                have := HPOSZ.out p (List.mem_of_getElem? hp)
                omega
              · exact srt_last (srt_ordZ Z) hx (by rw [Nat.sub_add_cancel hq0]; exact hb6)
            have HNX := Lib.hid hnx
            have HST := Lib.hid (And.intro hb3 (And.intro hb5 (And.intro hb6 hp)))
            have hnow : p.1.due ≤ now := hb4
            clear hb1 hb2 hb3 hb4 hb5 hb6 hzb hmr hall hpw hlow hsm hnx hp
            go_wp2_with fail
            refine HNX.out.mono ?_
            rintro e w8 ⟨rfl, hB8⟩
            rw [show optI (some b) = ((b : Nat) : Int) from rfl]
            obtain ⟨hb3, hb5, hb6, hp⟩ := HST.out
            obtain ⟨hmr, hall, hpw, hlow, hsm⟩ := H6.out
            have hlt6 : ∀ {x : Addr} {v : Value}, w6.cell? x = some v → x.block < w6.heap.size := fun h => block_lt_of_cell h
            have hB68 : Below w6.heap.size w6 w8 := HB.out.trans (hB8.mono HB.out.size)
            have hG8 : GoneO w6.heap.size (.slice (some ⟨w6.heap.size, 0, none⟩) ps.length ps.length) ps.length g w8 := own_frame3 HG.out fun g _ hg => hB8.block g hg
            obtain ⟨ga, e1, y0, _, y2⟩ := hall.at_ hp
            obtain ⟨gt, e2, y3⟩ := hall.to_ hp
            obtain ⟨_, _, e3, hk⟩ := hmr
            injection e3 with e3 _ e4
            subst e1; subst e2; subst e3; subst e4
            obtain ⟨bm, om, s1, n1, c1, e5, k1, k2, k3⟩ := hk q _ hb3
            subst e5
            have hgal := hlt6 y0
            have hgal : ga < w6.heap.size := hgal
            have y0 := (hB68.cell (hlt6 y0)).trans y0
            have y2 := (hB68.cell (hlt6 y2)).trans y2
            have y3 := (hB68.cell (hlt6 y3)).trans y3
            have k1 := (hB68.cell (hlt6 k1)).trans k1
            have k2 := (hB68.cell (hlt6 k2)).trans k2
            have hsp := hsm p (List.mem_of_getElem? hp)
            have hop := hall.own p (List.mem_of_getElem? hp)
            have hlp := own_len hop
            have hrp := (own_rb2 hop hsp.1 (by rw [← hlp]; have := hsp.2; omega)).below hB68
            have hrm : RB w8 s1 n1 c1 p.1.r.l := k3.below hB68
            have H19 := Lib.hid fun z : Lies w8 => show Calls Try.prog 19 #[.slice s1 n1 c1, .slice p.1.r.a p.1.r.n p.1.r.c] z.1 fun e w' => e = .returned (.bool true) ∧ Below z.1.heap.size z.1 w' from (same_any (hrm.below z.2) (hrp.below z.2)).mono (by
              rintro e w' ⟨rfl, qq, rfl⟩
              exact ⟨by simp, below_drewN (Below.refl _ _) _⟩)
            have L0 := fun z : Lies w8 => lies_cell y0 z
            have L2 := fun z : Lies w8 => lies_cell y2 z
            have L3 := fun z : Lies w8 => lies_cell y3 z
            have L4 : ∀ z : Lies w8, z.1.cell? ⟨bm, om + q * 2, none⟩ = some (.int .i64 p.2) := fun z => lies_cell k1 z
            have L5 := fun z : Lies w8 => lies_cell k2 z
            have d0 : decide (((b : Nat) : Int) < 0) = false := by simp
            have d1 : decide (now < p.1.due) = false := decide_eq_false (by omega)
            have d3 : decide (p.1.due < last) = false := decide_eq_false (by omega)
            have HB68 := Lib.hid hB68
            have HG8 := Lib.hid hG8
            have HY0 := Lib.hid y0
            clear y0 y2 y3 k1 k2 k3 hk hrm hrp hsp hop hlp hB68 hG8 hB8 hb3 hb5 hb6 hp hall hpw hlow hsm hlt6 HNX hnow hlastd
            clear HG HB
            go_upto_region 29 with fail
            refine region_lies (by rfl) (by decide +kernel) ?_
            repeat (go_big_quiet_step ((go_at_call 19; exact Lies.call (H19.out _))))
            refine wpQuiet_nil ?_
            intro _ hw'
            obtain ⟨z, rfl⟩ := hw'
            have hz : Below w8.heap.size w8 z.1 := z.2
            clear L0 L2 L3 L4 L5 H19 d0 d1 d3
            generalize z.1 = wz at *
            clear z
            have hG9 : GoneO w6.heap.size (.slice (some ⟨w6.heap.size, 0, none⟩) ps.length ps.length) ps.length g wz := own_frame3 HG8.out fun g _ hg => hz.block g hg
            obtain ⟨⟨u, hgc⟩, hgf⟩ := gone_cell hG9 hbn
            have hB9 : Below w6.heap.size w6 (wz.setCell ⟨w6.heap.size, b, none⟩ (.bool true)) := (HB68.out.trans (hz.mono HB68.out.size)).setCell (p := ⟨w6.heap.size, b, none⟩) (Nat.le_refl _) _
            have hy9 : (wz.setCell ⟨w6.heap.size, b, none⟩ (.bool true)).cell? ⟨ga, b * 3, none⟩ = some (.int .i64 p.1.due) := by
              rw [World.cell?_setCell_other _ _ _ _ (by intro e; injection e; omega)]
              exact (hz.cell (block_lt_of_cell HY0.out)).trans HY0.out
            have HG9 := Lib.hid (gone_set (b := b) hG9)
            have HB9 := Lib.hid hB9
            clear hG9 hB9 hz
            go_wp2_with fail
            go_roundw
            case rel => exact ⟨q + 1, p.1.due, updG g b, by omega, by go_num, rfl, HST.out.2.1, .inr ⟨zOf p, Nat.succ_pos _, by rw [Nat.add_sub_cancel]; exact HST.out.2.2.1, rfl⟩, HG9, HB9⟩
            case measure => simp [intOf]; omega
          · obtain rfl : q = M := by omega
            obtain ⟨hmr, hall, hpw, hlow, hsm⟩ := H6.out
            have hnx := nextg_any (hall.below HB.out) rfl (by omega) HG.out
            rw [show nextTo (ps.map zOf) g ps.length = nextTo Z g Z.length from by rw [HZ.out, HZL.out]] at hnx
            have hend := once_end (now := now) (g := g) (zs := Z) (by rw [← HM.out]; exact HO.out)
            have HNX := Lib.hid hnx
            clear hmr hall hpw hlow hsm hnx
            go_wp2_with fail
            refine HNX.out.mono ?_
            rintro e w8 ⟨rfl, hB8⟩
            obtain ⟨hmr, hall, hpw, hlow, hsm⟩ := H6.out
            have hB68 : Below w6.heap.size w6 w8 := HB.out.trans (hB8.mono HB.out.size)
            have hpw8 := hpw.below hB68
            rw [← HM.out] at hpw8
            have hdl : ((ordZ Z).drop q).length = ps.length - q := by rw [List.length_drop, ordZ_len, HZL.out]
            have H37 := Lib.hid (openP hpw8)
            have H38 := Lib.hid (dueP now hpw8 (by rw [hdl]; omega))
            rw [hdl, show ((ps.length - q : Nat) : Int) = (ps.length : Int) - (q : Int) from by omega] at H37
            have hd0 : (dueZ now ((ordZ Z).drop q)).length = 0 := by rw [HM.out, due_none]; rfl
            have HLO := Lib.hid (hlow.trans (hB68.mono hlow.size))
            have HD0 := Lib.hid hd0
            have HWB := Lib.hid (show ∀ g, v6.ownBlock = some g → w.heap.size ≤ g from fun g e => by have := (hpw8.ownB e).1; omega)
            cases hb : nextTo Z g Z.length with
            | none =>
              rw [show optI none = -1 from rfl]
              clear hmr hall hpw hlow hsm hB68 hpw8 hdl hd0 hend hb HNX hB8
              go_wp2_with fail
              refine H37.out.mono ?_
              rintro e w9 ⟨rfl, rfl⟩
              go_wp2_with fail
              refine H38.out.mono ?_
              rintro e w9 ⟨vm9, v9, xs9, rfl, hx9, hm9, _, hk9, _⟩
              have hl9 : xs9.length = 0 := by have := HD0.out; rw [← hx9, List.length_map] at this; exact this
              obtain ⟨a9, c9, rfl⟩ := own70_slice hm9.row
              rw [hl9]
              have HFIN := Lib.hid (HLO.out.trans (hk9.low hsa (fun g e => HWB.out g e) HLO.out.size))
              clear hx9 hm9 hk9 hl9 H37 H38 HLO
              go_wp2_with fail
              go_ret
              exact ⟨rfl, HFIN.out⟩
            | some b =>
              rw [hb] at hend
              obtain ⟨hb2, hb3⟩ := hend
              have hbn : b < ps.length := by rw [← HZL.out]; exact hb2
              obtain ⟨p, hp⟩ : ∃ p, ps[b]? = some p := ⟨_, List.getElem?_eq_getElem hbn⟩
              have hzb : Z.getD b default = zOf p := by rw [← HZ.out, List.getD_eq_getElem?_getD, List.getElem?_map, hp]; rfl
              rw [hzb] at hb3
              have hb3 : now < p.1.due := hb3
              obtain ⟨ga, e1, y0, _, _⟩ := (hall.below hB68).at_ hp
              subst e1
              have d0 : decide (((b : Nat) : Int) < 0) = false := by simp
              have d1 : decide (now < p.1.due) = true := decide_eq_true hb3
              rw [show optI (some b) = ((b : Nat) : Int) from rfl]
              clear hmr hall hpw hlow hsm hB68 hpw8 hdl hd0 hb HNX hB8 hzb hp hb2
              go_wp2_with fail
              refine H37.out.mono ?_
              rintro e w9 ⟨rfl, rfl⟩
              go_wp2_with fail
              refine H38.out.mono ?_
              rintro e w9 ⟨vm9, v9, xs9, rfl, hx9, hm9, _, hk9, _⟩
              have hl9 : xs9.length = 0 := by have := HD0.out; rw [← hx9, List.length_map] at this; exact this
              obtain ⟨a9, c9, rfl⟩ := own70_slice hm9.row
              rw [hl9]
              have HFIN := Lib.hid (HLO.out.trans (hk9.low hsa (fun g e => HWB.out g e) HLO.out.size))
              clear hx9 hm9 hk9 hl9 H37 H38 HLO
              go_wp2_with fail
              go_ret
              exact ⟨rfl, HFIN.out⟩
  · go_wp2_with fail
    go_ret
    exact ⟨rfl, HB1.out⟩
end Go.Proofs.Ytfojhmobnedekaa
