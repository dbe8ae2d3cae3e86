/- The walk of the law WireDoes. Conditions: lists are shorter than 2 to the 40. -/
import Derived.Test.YtfojhmobnedekaaWire23
namespace Go.Proofs.Ytfojhmobnedekaa
open Go.RowKit

theorem rd_rbD {w : World} {a : Option Addr} {n c k : Nat} {L : List Dd} {x : Dd} (h : RD w a n c L) (hx : L[k]? = some x) : RB w x.a x.n x.c x.l := by
  obtain ⟨_, _, _, _, _, _, _, _, _, _, _, hr⟩ := h.at_ k x hx
  exact hr
theorem mrow_at {w : World} {B n : Nat} {t : TypeId} {v : Value} {xs : List Wz} (h : w.ownsRow B t 2 v n (mcs (xs.map Wz.w))) {k : Nat} {x : Wz} (hk : xs[k]? = some x) : ∃ g c, v = .slice (some ⟨g, 0, none⟩) n c ∧ w.cell? ⟨g, k * 2 + 1, none⟩ = some (.slice x.r.a x.r.n x.r.c) := by
  obtain ⟨hk1, rfl⟩ := List.getElem?_eq_some_iff.1 hk
  have hk2 : k < (xs.map Wz.w).length := by simpa using hk1
  rcases h.2 with ⟨_, h0⟩ | ⟨g, cap, cur, rfl, _⟩
  · have := h.1
    rw [mcs_len, List.length_map] at this; omega
  · have e1 := h.cells (g := g) rfl (k * 2 + 1) _ ((mcs_get (xs.map Wz.w) k 1 hk2 (by omega)).trans rfl)
    rw [Addr.add_lit] at e1
    exact ⟨g, cap, rfl, by simpa [Wz.w] using e1⟩
theorem DoI.pw {w0 : World} {W K : Nat} {ms rs : List Wz} {ld dr : Int} {v u : Value} {w : World} (h : DoI w0 W K ms rs ld dr v u w) : PW (W + 1) W (ordZ (rs.map Wz.z)) ld dr v w :=
  ⟨ms, h.q, h.eqz, fun z hz => h.sm z (mem_ordZ.1 hz), own4_slice h.q.row⟩

set_option maxHeartbeats 4000000 in
set_option maxRecDepth 100000 in
theorem does_walk {w : World} {a : Option Addr} {len cap : Nat} {L : List Dd} (h : RD w a len cap L) :
    Calls Try.prog 10 #[.slice a len cap] w fun e w' => e = .returned (.bool true) ∧ Below w.heap.size w w' := by
  have hm := h.most
  have hl := h.len
  have H := Lib.hid h
  have H32 := Lib.hid fun W => awake28 W
  have H33 := Lib.hid (size_any h)
  clear h
  go_enter Try.func10, Try.ntmps10
  go_wp2_with fail
  refine H33.out.mono ?_
  rintro e w2 ⟨⟨r, rfl, hr1, hr2⟩, rfl⟩
  have HS := Lib.hid hr2
  clear hr2 H33
  by_cases hsz : r ≤ 400
  · have hlen : len + sumD L ≤ 400 := by have := HS.out hsz; omega
    have H34 := Lib.hid (New_any w)
    go_wp2_with fail
    refine H34.out.mono ?_
    rintro e w3 ⟨rfl, rfl⟩
    have hb3 : Below w.heap.size w (w.alloc (.cells (wireC (.slice none 0 0) 0 0) 91)) := (Below.refl _ _).alloc (Nat.le_refl _) _
    have hq3 := (PW.new w)
    have hz3 : (w.alloc (.cells (wireC (.slice none 0 0) 0 0) 91)).heap.size = w.heap.size + 1 := World.size_alloc _ _
    generalize w.alloc (.cells (wireC (.slice none 0 0) 0 0) 91) = w3 at *
    go_wp2_with fail
    have hb4 : Below w3.heap.size w3 (w3.alloc (.cells #[.slice none 0 0, .int .i64 0, .int .i64 0] 79)) := (Below.refl _ _).alloc (Nat.le_refl _) _
    have H0 := Lib.hid (show DoI w w.heap.size 0 [] [] 0 0 (.slice none 0 0) (.slice none 0 0) (w3.alloc (.cells #[.slice none 0 0, .int .i64 0, .int .i64 0] 79)) by
      obtain ⟨ms, h1, h2, _⟩ := hq3.below hb4
      obtain rfl : ms = [] := List.map_eq_nil_iff.1 h2
      refine ⟨h1, ⟨?_, World.ownsRow_nil _ _ _ _, Made.nil _ _⟩, rfl, fun z hz => absurd hz (by simp), Made.nil _ _, by decide, by decide, Nat.le_refl _, hb3.trans (hb4.mono (by omega)), Nat.le_refl _⟩
      have := World.alloc_heap_new w3 (.cells #[.slice none 0 0, .int .i64 0, .int .i64 0] 79)
      rw [hz3] at this; exact this)
    generalize w3.alloc (.cells #[.slice none 0 0, .int .i64 0, .int .i64 0] 79) = w4 at *
    obtain ⟨W, hW⟩ : ∃ W, W = w.heap.size := ⟨_, rfl⟩
    rw [← hW] at H0 ⊢
    clear hb3 hq3 hz3 hb4 H34 HS hW
    go_loopw [5] (fun i wr => ∃ k : Nat, ∃ ms rs ld dr v u, k ≤ len ∧ i = .int .i64 k ∧ Hid (DoI w W k ms rs ld dr v u wr)) (fun i _ => len - (intOf i).toNat)
    case atStart => exact ⟨0, [], [], 0, 0, _, _, Nat.zero_le _, rfl, H0⟩
    case round =>
      obtain ⟨k, ms, rs, ld, dr, v, u, hk, rfl, HR⟩ := hrel
      by_cases hlt : k < len
      · obtain ⟨x, hx⟩ : ∃ x, L[k]? = some x := ⟨_, List.getElem?_eq_getElem (by omega)⟩
        obtain ⟨b, off, rfl, x0, x1, x2, x3, x4, x5, x6, x7, hrb⟩ := (H.out.below HR.out.low).at_ k x hx
        have hx8 : BoxD wr.heap.size x (wr.alloc (.cells #[.int .i64 x.wh, .int .i64 x.tt, .int .i64 x.nw, .int .i64 x.k, .int .i64 x.b, .int .i64 x.al, .int .i64 x.pl, .slice x.a x.n x.c] 59)) := World.alloc_heap_new wr _
        have hB5 : Below wr.heap.size wr (wr.alloc (.cells #[.int .i64 x.wh, .int .i64 x.tt, .int .i64 x.nw, .int .i64 x.k, .int .i64 x.b, .int .i64 x.al, .int .i64 x.pl, .slice x.a x.n x.c] 59)) := (Below.refl _ _).alloc (Nat.le_refl _) _
        go_upto_region 9 with fail
        generalize wr.alloc (.cells #[.int .i64 x.wh, .int .i64 x.tt, .int .i64 x.nw, .int .i64 x.k, .int .i64 x.b, .int .i64 x.al, .int .i64 x.pl, .slice x.a x.n x.c] 59) = W5 at *
        have hxn : x.n ≤ 1000 := by have := sumD_mem (List.mem_of_getElem? hx); omega
        have hk400 : k ≤ 400 := by omega
        have hlq := HR.out.lenq
        have hlr := HR.out.len
        have hldb := HR.out.ldb
        have hdrb := HR.out.drb
        have hsa := HR.out.sa
        have hD5 := HR.out.below hB5
        have hr5 := hrb.below hB5
        have hWl := hD5.wlt
        have H40 := Lib.hid fun W => pick_any W x.wh 4 (by omega) (by omega)
        have x0' := hx8.cell 0 _ rfl
        have HX := Lib.hid hx
        have HX8 := Lib.hid hx8
        have HD5 := Lib.hid hD5
        have HR5 := Lib.hid hr5
        have hsz5 := hB5.size
        clear x0 x1 x2 x3 x4 x5 x6 x7 hrb hx hx8 hB5 hD5 hr5
        obtain ⟨bx, hbx⟩ : ∃ bx, bx = wr.heap.size := ⟨_, rfl⟩
        obtain ⟨y, hy⟩ : ∃ y, y = x.wh % 4 := ⟨_, rfl⟩
        rw [← hy] at H40
        rw [← hbx] at x0' HX8 ⊢
        have hbx5 : bx < W5.heap.size := lt_of_block HX8.out
        clear hy hbx
        go_upto_if 36 with (go_at_call 40; refine (H40.out _).mono ?_; rintro e w6 ⟨rfl, rfl⟩)
        go_cut [7, 8, 9] from 23 to 140 (fun _ _ _ wx => ∃ ms rs ld dr v u, Hid (DoI w W (k + 1) ms rs ld dr v u wx))
        case first =>
          by_cases hy : y = 3
          · subst hy
            have x2' := HX8.out.cell 2 _ rfl
            have H38 := Lib.hid (dueM x.nw HD5.out.q (by omega))
            clear H40 x0' HR5 HR
            go_wp2_with fail
            refine H38.out.mono ?_
            rintro e w6 ⟨vm, v6, rfl, h6⟩
            have hq5 := HD5.out.q
            have x2'' : w6.cell? ⟨bx, 2, none⟩ = some (.int .i64 x.nw) := (cell_of_block (keep_block h6.2.2.1 hq5.wire hq5.row HX8.out (by decide) (by decide))).trans rfl
            have hr6 := HD5.out.r.keepQ hq5 h6.2.2.1
            have H43 := Lib.hid (rdue_any x.nw hr6 (by omega) (by have := h6.2.2.1.size; omega))
            have H6 := Lib.hid h6
            clear h6 hr6 hq5 H38 x2'
            go_wp2_with fail
            refine H43.out.mono ?_
            rintro e w7 ⟨vm2, rfl, h7⟩
            obtain ⟨ms', rs', u', xs, hov, hxm, hm1, hm2, hxl⟩ := HD5.out.dued H6.out h7
            obtain ⟨a1, c1, e1, _⟩ := id hm1
            obtain ⟨a2, c2, e2, _⟩ := id hm2
            subst e1; subst e2
            have H42 := Lib.hid (same42 hm1 hm2 (by rw [List.length_map]; omega))
            have HOV := Lib.hid hov
            have HXM := Lib.hid hxm
            rw [List.length_map] at *
            clear hov hxm hm1 hm2 h7 H6 H43 x2''
            go_wp2_with fail
            refine H42.out.mono ?_
            rintro e w8 ⟨rfl, hB8⟩
            have HO8 := Lib.hid (HOV.out.below hB8)
            have HM8 := Lib.hid (HXM.out.below hB8)
            clear hB8 HOV HXM H42
            go_wp2_with fail
            go_loopw [8] (fun i wq => ∃ j : Nat, j ≤ xs.length ∧ i = .int .i64 j ∧ Hid (OvI w W (k + 1) ms' rs' xs ld dr v6 u' (.slice a1 xs.length c1) wq ∧ Made (W + 1) ((xs.drop j).map Wz.r) wq)) (fun i _ => xs.length - (intOf i).toNat)
            case atStart => exact ⟨0, Nat.zero_le _, rfl, HO8.out, HM8.out⟩
            case round =>
              obtain ⟨j, hj, rfl, HI⟩ := hrel
              by_cases hlj : j < xs.length
              · obtain ⟨m, hmx⟩ : ∃ m, xs[j]? = some m := ⟨_, List.getElem?_eq_getElem hlj⟩
                obtain ⟨g, c', hv, k1⟩ := mrow_at HI.out.1.mail hmx
                obtain ⟨rfl, rfl⟩ : a1 = some ⟨g, 0, none⟩ ∧ c1 = c' := by injection hv with h1 _ h2; exact ⟨h1, h2⟩
                have ho : wr.ownsRow (W + 1) 5 1 m.r.v m.r.n (bs m.r.l) := HI.out.2.own _ (List.mem_map_of_mem (by
                  have := (List.getElem?_eq_some_iff.1 hmx).2
                  rw [List.drop_eq_getElem_cons hlj, this]; exact List.mem_cons_self ..))
                have hmn : m.r.n ≤ 1000 := by
                  have h1 := own_len ho
                  have h2 := (HI.out.1.sm m.z (List.mem_map_of_mem (List.mem_of_getElem? hmx))).2
                  have h3 : m.z.l.length = m.r.l.length := rfl
                  omega
                have H44 := Lib.hid (over_any ho (by omega))
                have HMX := Lib.hid hmx
                clear hmx hv ho
                go_wp2_with fail
                refine H44.out.mono ?_
                rintro e w9 ⟨rfl, hg9, _⟩
                have HNEW := Lib.hid (HI.out.1.over HI.out.2 HMX.out hg9)
                clear hg9 H44 HI
                go_wp2_with fail
                go_roundw
                case rel => exact ⟨j + 1, by omega, by go_num, HNEW⟩
                case measure => simp [intOf]; omega
              · obtain rfl : j = xs.length := by omega
                have HFD := Lib.hid HI.out.1.d
                clear HI
                go_wp2_with fail
                go_meet
                exact ⟨ms', rs', ld, dr, v6, u', HFD⟩
          · have d1 : (y == 3) = false := by simpa using hy
            have x7' := HX8.out.cell 7 _ rfl
            have H15 := Lib.hid (lent_any HR5.out)
            have HALL := Lib.hid (show ∀ z ∈ ms ++ rs, ∀ g, z.r.v.ownBlock = some g → g < W5.heap.size from fun z hz g e => (own_lt (HD5.out.all.own _ (List.mem_map_of_mem hz)) e).2)
            clear hy x0' HR
            go_wp2_with fail
            refine H15.out.mono ?_
            rintro e w6 ⟨g, rfl, hg1, hg2, hB6⟩
            have hln5 := HR5.out.len
            have hlent : LentAt w6 g x.l := hg2
            have hD6 := HD5.out.below hB6
            have hX6 : BoxD bx x w6 := (hB6.block bx hbx5).trans HX8.out
            have hg6 : g < w6.heap.size := hlent.lt
            have hsm5 := HR5.out.small
            have hr6 : RB w6.drew (some ⟨g, 0, none⟩) x.n (x.n + 12) x.l := by
              have := (hlent.rb hsm5 (by omega)).below (Below.refl _ _).drew
              rwa [hln5] at this
            have hD6' := hD6.below (Below.refl _ _).drew
            have hW6 := hD6.wlt
            have HSA := Lib.hid (sendM x hD6'.q hr6 (by omega) (by show W + 1 ≤ w6.heap.size; omega) (by omega) (by omega))
            have HD6 := Lib.hid hD6'
            have HLE := Lib.hid (show LentAt w6.drew g x.l from hlent)
            have HX6 := Lib.hid (show BoxD bx x w6.drew from hX6)
            have hf6 : ∀ z ∈ ms ++ rs, z.r.v.ownBlock ≠ some g := fun z hz e => by have := HALL.out z hz g e; omega
            have HF6 := Lib.hid hf6
            have HS5 := Lib.hid hsm5
            haveI : Nonempty (Such (BoxD bx x)) := ⟨⟨w6, hX6⟩⟩
            haveI : Inhabited (Such (BoxD bx x)) := ⟨⟨w6, hX6⟩⟩
            have Z1 : ∀ z : Such (BoxD bx x), z.1.cell? ⟨bx, 1, none⟩ = some (.int .i64 x.tt) := fun z => BoxD.cell z.2 1 _ rfl
            have Z2 : ∀ z : Such (BoxD bx x), z.1.cell? ⟨bx, 2, none⟩ = some (.int .i64 x.nw) := fun z => BoxD.cell z.2 2 _ rfl
            have Z3 : ∀ z : Such (BoxD bx x), z.1.cell? ⟨bx, 3, none⟩ = some (.int .i64 x.k) := fun z => BoxD.cell z.2 3 _ rfl
            have Z4 : ∀ z : Such (BoxD bx x), z.1.cell? ⟨bx, 4, none⟩ = some (.int .i64 x.b) := fun z => BoxD.cell z.2 4 _ rfl
            have Z5 : ∀ z : Such (BoxD bx x), z.1.cell? ⟨bx, 5, none⟩ = some (.int .i64 x.al) := fun z => BoxD.cell z.2 5 _ rfl
            have Z6 : ∀ z : Such (BoxD bx x), z.1.cell? ⟨bx, 6, none⟩ = some (.int .i64 x.pl) := fun z => BoxD.cell z.2 6 _ rfl
            have Z7 : ∀ z : Such (BoxD bx x), z.1.cell? ⟨bx, 7, none⟩ = some (.slice x.a x.n x.c) := fun z => BoxD.cell z.2 7 _ rfl
            clear x7' H15 H40 hg2 hB6 hlent hD6 hX6 hr6 hD6' hf6 hsm5 hln5 HALL HD5 HX8
            go_upto_region 18 with fail
            refine region_sch (fun w' => ∃ z : Such (BoxD bx x), w' = z.1) [25, 26] [([0, 1, 2, 3, 4, 5, 6, 7, 9, 10, 11, 12, 13, 14, 15, 16, 17], 8), ([], 18), ([19, 20, 21, 22, 23], 24)] (by rfl) (by decide +kernel) ⟨⟨w6.drew, HX6.out⟩, rfl⟩ ?_
            unfold schP
            simp only [pickL, List.filterMap_cons, List.filterMap_nil, List.getElem?_toArray, List.getElem?_cons_zero, List.getElem?_cons_succ]
            show wpQuiet _ _ _ _ [_, _, _, _, _, _, _, _, _, _, _, _, _, _, _, _, _] _
            repeat (go_big_quiet_step (fail))
            refine wpQuiet_nil ?_
            refine mvP_call (f := 35) (args := #[.pointer (some ⟨W, 0, none⟩), .int .i64 x.tt, .agg #[.int .i64 x.k, .int .i64 x.b, .int .i64 x.al, .int .i64 x.pl], .slice (some ⟨g, 0, none⟩) x.n (x.n + 12), .int .i64 x.nw]) (w' := w6.drew) (some 71) rfl rfl rfl (by go_simp) (HSA.out.mono ?_)
            rintro e w7 ⟨rfl, v7, ms', ns, h7⟩
            have hk7 := h7.2.2.2.2.2.1
            have hq6 := HD6.out.q
            have hX7 : BoxD bx x w7 := keep_block hk7 hq6.wire hq6.row HX6.out (by decide) (by decide)
            have hL7 : LentAt w7 g x.l := keep_block hk7 hq6.wire hq6.row HLE.out (by decide) (by decide)
            have hlow7 : Below w.heap.size w w7 := HD6.out.low.trans (hk7.low hsa (fun q e => HD6.out.vlow e) HD6.out.low.size)
            have hr7 := HD6.out.r.keepQ hq6 hk7
            have hs7 := hk7.size
            have hdz : w6.drew.heap.size = w6.heap.size := rfl
            have hrb7 := rd_rbD (H.out.below hlow7) HX.out
            have HSB := Lib.hid (rsendM x hr7 hrb7 (by omega) (by omega) (by omega) (by omega))
            have H7 := Lib.hid h7
            have HL7 := Lib.hid hL7
            have HR7 := Lib.hid hr7
            have HW7 := Lib.hid hlow7
            refine ⟨_, rfl, ⟨⟨w7, hX7⟩, rfl⟩, ?_⟩
            simp only [Act.put, List.setIfInBounds_toArray, List.set_cons_succ, List.set_cons_zero]
            unfold schP
            clear h7 hk7 hq6 hL7 hr7 hrb7 hlow7 HSA
            refine wpQuiet_nil ?_
            refine mvP_call (f := 45) (args := #[.pointer (some ⟨W + 1, 0, none⟩), .int .i64 x.tt, .agg #[.int .i64 x.k, .int .i64 x.b, .int .i64 x.al, .int .i64 x.pl], .slice x.a x.n x.c, .int .i64 x.nw]) (w' := w7) (some 81) rfl rfl rfl (by go_simp) (HSB.out.mono ?_)
            rintro e w8 ⟨rfl, u8, ns', h8⟩
            have hk8 := h8.2.2.2.1
            have hX8 : BoxD bx x w8 := keep_block hk8 HR7.out.wire HR7.out.row hX7 (by decide) (by decide)
            have hL8 : LentAt w8 g x.l := keep_block hk8 HR7.out.wire HR7.out.row HL7.out (by decide) (by decide)
            have hnew := HD6.out.sent HS5.out (by have := (HR5.out.len); omega) H7.out h8
            have hfree := hnew.2 g hg6 HF6.out
            have hD8 := hnew.1
            have hrb8 := rd_rbD (H.out.below hD8.low) HX.out
            have H21 := Lib.hid (kept_any hrb8 hL8)
            have HD8 := Lib.hid hD8
            have HL8 := Lib.hid hL8
            have HFR := Lib.hid hfree
            refine ⟨_, rfl, ⟨⟨w8, hX8⟩, rfl⟩, ?_⟩
            simp only [Act.put, List.setIfInBounds_toArray, List.set_cons_succ, List.set_cons_zero]
            unfold schP
            simp only [pickL, List.filterMap_cons, List.filterMap_nil, List.getElem?_toArray, List.getElem?_cons_zero, List.getElem?_cons_succ]
            clear h8 hk8 hL8 hnew hfree hD8 hrb8 HSB hX7 H7 HL7 HR7 HW7 HD6 HLE HX6 HF6
            generalize x.code = cd
            have dcd : (cd != cd) = false := by simp
            show wpQuiet _ _ _ _ [_, _, _, _, _] _
            repeat (go_big_quiet_step (fail))
            refine wpQuiet_nil ?_
            refine mvP_call (f := 21) (args := #[.slice (some ⟨g, 0, none⟩) x.n (x.n + 12), .slice x.a x.n x.c]) (w' := w8) (some 87) rfl rfl rfl (by go_simp) (H21.out.mono ?_)
            rintro e w9 ⟨rfl, nq, rfl⟩
            refine ⟨_, rfl, ⟨⟨w8.drewN nq, (show BoxD bx x w8 from hX8)⟩, rfl⟩, ?_⟩
            simp only [Act.put, List.setIfInBounds_toArray, List.set_cons_succ, List.set_cons_zero]
            unfold schP
            simp only [pickL, List.filterMap_cons, List.filterMap_nil, List.getElem?_toArray, List.getElem?_cons_zero, List.getElem?_cons_succ]
            clear H21 hX8 Z1 Z2 Z3 Z4 Z5 Z6 Z7
            show wpQuiet _ _ _ _ [_, _] _
            repeat (go_big_quiet_step (fail))
            refine wpQuiet_nil ?_
            have hL9 : LentAt (w8.drewN nq) g x.l := HL8.out
            have hln9 := HR5.out.len
            have ho9 := lent_own hL9 hln9 (by omega) (Nat.le_refl g)
            have H44 := Lib.hid (over_any ho9 (by omega))
            have HO9 := Lib.hid ho9
            clear hL9 ho9 hln9 HL8
            go_wp2_with fail
            refine H44.out.mono ?_
            rintro e w10 ⟨rfl, hg10, _⟩
            have hD9 : DoI w W (k + 1) ms' (rs ++ ns') (x.ld ld) (x.dr dr) v7 u8 (w8.drewN nq) := HD8.out.below (below_drewN (Below.refl _ _) _)
            have hsw := HD8.out.sa
            have hFD := hD9.over HO9.out hg10 (by omega) (fun z hz q e1 e2 => HFR.out z hz (by rw [e1, ← e2]; rfl))
            have HFD := Lib.hid hFD
            clear hg10 hD9 hFD H44 HO9 HFR HD8
            go_wp2_with fail
            go_meet
            exact ⟨ms', rs ++ ns', _, _, v7, u8, HFD⟩
        case rest =>
          obtain ⟨ms, rs, ld, dr, v, u, HD⟩ := hcut
          have hln := HD.out.len
          have hoz : (ordZ (rs.map Wz.z)).length = rs.length := by rw [ordZ_len, List.length_map]
          have h41 := nextP HD.out.pw (by rw [hoz]; omega)
          have h46 := rnext_any HD.out.r (by omega)
          rw [hoz] at h41
          obtain ⟨q0, hq0⟩ : ∃ q0, q0 = hdZ (ordZ (rs.map Wz.z)) := ⟨_, rfl⟩
          rw [← hq0] at h41 h46
          generalize hp0 : decide (0 < rs.length) = p0 at h41 h46
          have H41 := Lib.hid h41
          have H46 := Lib.hid h46
          clear hq0 hp0 h41 h46 HR hlq hlr hldb hdrb H40 x0' HX HX8 HD5 HR5 hsz5 hxn hWl hbx5
          go_wp2_with fail
          refine H41.out.mono ?_
          rintro e w7 ⟨rfl, rfl⟩
          go_wp2_with fail
          refine H46.out.mono ?_
          rintro e w8 ⟨rfl, hB8⟩
          have hD8 := HD.out.below hB8
          have H36 := Lib.hid (Sent_any hD8.q.wire)
          have HD8 := Lib.hid hD8
          clear hB8 hD8 H41 H46
          go_wp2_with fail
          refine H36.out.mono ?_
          rintro e w9 ⟨rfl, hB9⟩
          have hD9 := HD8.out.below hB9
          have H37 := Lib.hid fun q => openP (hD9.below (below_drewN (Below.refl _ _) q)).pw
          rw [hoz] at H37
          obtain ⟨au, cu, hu⟩ := own39_slice hD9.r.row
          subst hu
          have c0 : w9.cell? ⟨W + 1, 0, none⟩ = some (.slice au rs.length cu) := (cell_of_block hD9.r.wire).trans rfl
          have c1 : w9.cell? ⟨W + 1, 1, none⟩ = some (.int .i64 ld) := (cell_of_block hD9.r.wire).trans rfl
          have c2 : w9.cell? ⟨W + 1, 2, none⟩ = some (.int .i64 dr) := (cell_of_block hD9.r.wire).trans rfl
          have HD9 := Lib.hid hD9
          clear hB9 hD9 H36 HD8 HD hoz
          go_wp2_with fail
          go_quiet ((go_at_call 37; exact quiet_same (H37.out _)))
          go_wp2_with fail
          go_roundw
          case rel => exact ⟨k + 1, ms, rs, ld, dr, v, _, by omega, by go_num, HD9.out.below (below_drewN (Below.refl _ _) _)⟩
          case measure => simp [intOf]; omega
      · obtain rfl : k = len := by omega
        have H32' := Lib.hid (H32.out wr)
        go_wp2_with fail
        refine H32'.out.mono ?_
        rintro e w5 ⟨rfl, hB5⟩
        have HF := Lib.hid (HR.out.low.trans (hB5.mono HR.out.low.size))
        clear hB5 H32' HR
        go_wp2_with fail
        go_ret
        exact ⟨rfl, HF.out⟩
  · go_wp2_with fail
    refine (H32.out _).mono ?_
    rintro e w5 ⟨rfl, hB5⟩
    have HF := Lib.hid hB5
    clear hB5
    go_wp2_with fail
    go_ret
    exact ⟨rfl, HF.out⟩
end Go.Proofs.Ytfojhmobnedekaa
