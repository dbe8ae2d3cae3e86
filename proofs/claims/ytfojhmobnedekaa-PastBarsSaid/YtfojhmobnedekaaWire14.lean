/- The walk of the law WireSteps. Conditions: lists are shorter than 2 to the 40. -/
import Derived.Deep.CutRange
import Derived.Deep.DeepCutAuto
import Derived.Test.YtfojhmobnedekaaWire13
namespace Go.Proofs.Ytfojhmobnedekaa
open Go.RowKit

/-- The two wires of the law, alike in what is told of them. -/
structure TwoW (w0 : World) (Wa Wb K : Nat) (za zb : List Zl) (ld dr : Int) (va vb : Value) (w : World) : Prop where
  a : PW (Wa + 1) Wa za ld dr va w
  b : PW (Wb + 1) Wb zb ld dr vb w
  un : Unl va vb
  lda : 0 ≤ ld ∧ ld ≤ 2 * K
  dra : 0 ≤ dr ∧ dr ≤ K
  la : za.length ≤ 2 * K
  lb : zb.length ≤ 2 * K
  low : Below w0.heap.size w0 w
  sa : w0.heap.size ≤ Wa
  sb : Wa < Wb
/-- The deeds, sent one after the other. -/
def putAll (L : List Dd) : List Zl := L.foldl (fun s x => x.put s) []
theorem putAll_snoc (L : List Dd) (x : Dd) : putAll (L ++ [x]) = x.put (putAll L) := by simp [putAll]
theorem putAll_take {L : List Dd} {k : Nat} {x : Dd} (h : L[k]? = some x) : putAll (L.take (k + 1)) = x.put (putAll (L.take k)) := by
  rw [List.take_add_one, h]; exact putAll_snoc _ _
/-- A box of eight cells: a deed. -/
def BoxD (bx : Nat) (x : Dd) (w : World) : Prop := w.heap[bx]? = some (.cells #[.int .i64 x.wh, .int .i64 x.tt, .int .i64 x.nw, .int .i64 x.k, .int .i64 x.b, .int .i64 x.al, .int .i64 x.pl, .slice x.a x.n x.c] 59 (0, 0))
theorem BoxD.cell {bx : Nat} {x : Dd} {w : World} (h : BoxD bx x w) (i : Nat) (v : Value) (e : #[Value.int .i64 x.wh, .int .i64 x.tt, .int .i64 x.nw, .int .i64 x.k, .int .i64 x.b, .int .i64 x.al, .int .i64 x.pl, .slice x.a x.n x.c][i]? = some v) : w.cell? ⟨bx, i, none⟩ = some v := (cell_of_block h).trans e

theorem mcs_one (l : List Wl) : ∀ u ∈ mcs l, u.oneCell' = true := by
  intro u hu
  obtain ⟨x, _, hx⟩ := List.mem_flatMap.1 hu
  simp at hx
  rcases hx with rfl | rfl <;> rfl
theorem mcs_append (a b : List Wl) : mcs (a ++ b) = mcs a ++ mcs b := by simp [mcs]
/-- Mails are put behind mails. -/
theorem wpList_append_mail {w : World} {ops : Array Oper} {rest : List Oper} {o : Oper} {a : Act} {Q : Exit → Act → World → Prop} (hgd : Region.wanted o (yielded ops a.tmps) = true) (s x : Operand)
    (ho : o.op = .call { callee := .builtin .append, args := #[s, x], argTypes := #[65, 65] }) (base base2 : Nat) {v got : Value} {n m : Nat} {xs ys : List Wl} (hs : a.eval s = v) (hx : a.eval x = got)
    (hown : w.ownsRow base 70 2 v n (mcs xs)) (hgot : w.ownsRow base2 70 2 got m (mcs ys)) (hnm : n + m ≤ 1000000) (hbase : base ≤ w.heap.size)
    (h : ∀ v' w', w'.ownsRow base 70 2 v' (n + m) (mcs (xs ++ ys)) → w.grownBy w' v.ownBlock → wpList Try.prog ops Q rest (a.put o.dst v') w') : wpList Try.prog ops Q (o :: rest) a w := by
  obtain ⟨i70, hi, hz0, hz1, hz2⟩ := info_parts info70
  refine wpList_taken hgd fun K hK => ?_
  rcases hgot.2 with ⟨rfl, rfl⟩ | ⟨g, cap, cur, rfl, _, hh, _⟩
  · have hys : mcs ys = [] := List.eq_nil_of_length_eq_zero (by rw [hgot.1])
    have hrun := run_append_owned_none (P := Try.prog) (w := w) base 65 o.type 70 i70 2 Try.underlying65 hi v n (mcs xs) hown
    unfold Oper.wp execOp
    simp only [ho, resolve, invoke, builtin, Sem.run_bind, Sem.run_pure, Result.andThen_ok, List.map_toArray, List.map_cons, List.map_nil, hs, hx, hrun]
    exact hK _ _ (h _ _ (by rw [mcs_append, hys, List.append_nil]; exact hown) ⟨rfl, rfl, rfl, Nat.le_refl _, fun _ _ _ => rfl⟩)
  · obtain ⟨v', w', hr, h2, h3, _⟩ := run_append_ownS (P := Try.prog) w base 65 o.type 70 i70 _ 2 32 Try.underlying65 hi hz0 hz1 hz2 rfl (by decide) v n (mcs xs) hown ⟨g, 0, none⟩ m cap (mcs ys) hgot.1 (hgot.cells (g := g) rfl) (mcs_one _) (by unfold maxLen; omega) (by omega) hbase
    unfold Oper.wp execOp
    simp only [ho, resolve, invoke, builtin, Sem.run_bind, Sem.run_pure, Result.andThen_ok, List.map_toArray, List.map_cons, List.map_nil, hs, hx, hr]
    exact hK _ _ (h v' w' (by rw [mcs_append]; exact h2) h3)
theorem own_ne_type {w : World} {B e size n g : Nat} {u : Value} {xs : List Value} {cs : Array Value} {t : TypeId} (ho : w.ownsRow B e size u n xs) (hg : w.heap[g]? = some (.cells cs t (0, 0))) (ht : t ≠ e) : u.ownBlock ≠ some g := by
  intro e1
  rcases ho.2 with ⟨rfl, _⟩ | ⟨g', cap, cur, rfl, _, hh, _⟩
  · cases e1
  · have e : g' = g := by injection e1
    subst e
    rw [hg] at hh
    injection hh with e2
    injection e2 with _ e3
    exact ht e3
theorem own_grown {w w' : World} {B B2 e e2 size size2 n n2 : Nat} {u v : Value} {xs ys : List Value} (ho : w.ownsRow B e size u n xs) (hg : w.grownBy w' u.ownBlock) (h2 : w.ownsRow B2 e2 size2 v n2 ys) (ht : e2 ≠ e) : w'.ownsRow B2 e2 size2 v n2 ys := by
  obtain ⟨q1, q2⟩ := h2
  refine ⟨q1, ?_⟩
  rcases q2 with q2 | ⟨g, cap, cur, rfl, hb, hh, hn⟩
  · exact .inl q2
  · exact .inr ⟨g, cap, cur, rfl, hb, (hg.block g (lt_of_block hh) (fun e => own_ne_type ho hh ht e.symm)).trans hh, hn⟩
/-- A wire stays as it is while a row of another type grows. -/
theorem PW.grown {B W B2 e size n : Nat} {zs : List Zl} {ld dr : Int} {v u : Value} {w w' : World} {xs : List Value} (h : PW B W zs ld dr v w) (ho : w.ownsRow B2 e size u n xs) (hg : w.grownBy w' u.ownBlock) (h1 : 91 ≠ e) (h2 : 139 ≠ e) (h3 : 5 ≠ e) : PW B W zs ld dr v w' := by
  obtain ⟨ms, q1, q2⟩ := h
  exact ⟨ms, ⟨(hg.block W (lt_of_block q1.wire) (fun e => own_ne_type ho q1.wire h1 e.symm)).trans q1.wire, own_grown ho hg q1.row h2, q1.srt, ⟨fun r hr => own_grown ho hg (q1.made.own r hr) h3, q1.made.unl⟩⟩, q2⟩

/-- Between the ticks. -/
structure StepI (w0 : World) (Wa : Nat) (zs : List Zl) (ld dr tk : Int) (va vb vm : Value) (w : World) : Prop where
  mail : ∃ xs : List Wz, xs.map Wz.z = dueZ tk zs ∧ MailO w0.heap.size (Wa + 1) vm xs w
  a : PW (Wa + 1) Wa (zs.drop (dueZ tk zs).length) ld dr va w
  b : PW (Wa + 1 + 1) (Wa + 1) zs ld dr vb w
  un : Unl va vb
  low : Below w0.heap.size w0 w
theorem own70_slice {w : World} {B n : Nat} {v : Value} {xs : List Value} (h : w.ownsRow B 70 2 v n xs) : ∃ a c, v = .slice a n c := by
  rcases h.2 with ⟨rfl, rfl⟩ | ⟨g, cap, cur, rfl, _⟩
  · exact ⟨_, _, rfl⟩
  · exact ⟨_, _, rfl⟩
theorem due_drop {m n : Int} (h : m ≤ n) (zs : List Zl) : (zs.drop (dueZ m zs).length).drop (dueZ n (zs.drop (dueZ m zs).length)).length = zs.drop (dueZ n zs).length := by
  rw [List.drop_drop, dueZ_two h zs, List.length_append]
theorem due_step (n : Int) (zs : List Zl) : decide (0 < (dueZ n zs).length) = (decide (0 < zs.length) && decide (hdZ zs ≤ n)) := by
  by_cases h : 0 < (dueZ n zs).length
  · obtain ⟨x, t, rfl, hx⟩ := (dueZ_pos n zs).1 h
    rw [decide_eq_true h, decide_eq_true (show hdZ (x :: t) ≤ n from hx)]; rfl
  · rw [decide_eq_false h]
    cases zs with
    | nil => rfl
    | cons x t =>
      have : ¬ x.d ≤ n := fun hx => h ((dueZ_pos n _).2 ⟨x, t, rfl, hx⟩)
      rw [decide_eq_false (show ¬ hdZ (x :: t) ≤ n from this), Bool.and_false]

set_option maxHeartbeats 4000000 in
set_option maxRecDepth 100000 in
/-- Both sendings of a round. -/
theorem steps_walk {w : World} {a : Option Addr} {len cap : Nat} {L : List Dd} {ta : Option Addr} {tn tc : Nat} {T : List Int} (h : RD w a len cap L) (ht : tn ≤ 140737488351232) (hT : T.length = tn) (htk : ∀ k x, T[k]? = some x → (-9223372036854775808 ≤ x ∧ x ≤ 9223372036854775807) ∧ ∃ b off, ta = some ⟨b, off, none⟩ ∧ w.cell? ⟨b, off + k, none⟩ = some (.int .i64 x)) :
    Calls Try.prog 9 #[.slice a len cap, .slice ta tn tc] w fun e w' => e = .returned (.bool true) ∧ Below w.heap.size w w' := by
  have hm := h.most
  have hl := h.len
  have H := Lib.hid h
  have HT := Lib.hid htk
  have H32 := Lib.hid (awake28 w)
  clear h htk
  go_enter Try.func9, Try.ntmps9
  go_wp2_with fail
  refine H32.out.mono ?_
  rintro e w1 ⟨rfl, hB1⟩
  have H33 := Lib.hid (size_any (H.out.below hB1))
  have HB1 := Lib.hid hB1
  clear hB1 H32
  go_wp2_with fail
  refine H33.out.mono ?_
  rintro e w2 ⟨⟨r, rfl, hr1, hr2⟩, rfl⟩
  have HS := Lib.hid hr2
  clear hr2 H33
  by_cases hsz : r + tn ≤ 400
  · have hlen : len + sumD L ≤ 400 := by have := HS.out (by omega); omega
    have H34 := Lib.hid (New_any w1)
    go_wp2_with fail
    refine H34.out.mono ?_
    rintro e w3 ⟨rfl, rfl⟩
    have HA := Lib.hid (PW.new w1)
    have HB := Lib.hid (HB1.out.trans (show Below w.heap.size w1 (w1.alloc (.cells (wireC (.slice none 0 0) 0 0) 91)) from (Below.refl _ _).alloc HB1.out.size _))
    have H34 := Lib.hid (New_any (w1.alloc (.cells (wireC (.slice none 0 0) 0 0) 91)))
    have hz1 : (w1.alloc (.cells (wireC (.slice none 0 0) 0 0) 91)).heap.size = w1.heap.size + 1 := World.size_alloc _ _
    have hws := HB1.out.size
    generalize hW3 : w1.alloc (.cells (wireC (.slice none 0 0) 0 0) 91) = w3 at *
    go_wp2_with fail
    refine H34.out.mono ?_
    rintro e w4 ⟨rfl, rfl⟩
    have h2 := (show TwoW w w1.heap.size w3.heap.size 0 [] [] 0 0 (.slice none 0 0) (.slice none 0 0) (w3.alloc (.cells (wireC (.slice none 0 0) 0 0) 91)) from
      ⟨HA.out.below ((Below.refl _ _).alloc (Nat.le_refl _) _), PW.new w3, fun g e => (by cases e), by decide, by decide, Nat.le_refl _, Nat.le_refl _, HB.out.alloc (by omega) _, hws, by omega⟩)
    generalize w3.alloc (.cells (wireC (.slice none 0 0) 0 0) 91) = w4 at *
    obtain ⟨Wa, hWa⟩ : ∃ Wa, Wa = w1.heap.size := ⟨_, rfl⟩
    rw [hz1, ← hWa] at h2
    have H2 := Lib.hid h2
    rw [hz1, ← hWa]
    clear h2 HA HB H34 hW3 hz1 hws HS HB1
    clear hWa
    go_wp2_with fail
    go_loopw [7, 8] (fun i _ wr => ∃ k : Nat, ∃ ld dr va vb, k ≤ len ∧ i = .int .i64 k ∧ Hid (TwoW w Wa (Wa + 1) k (putAll (L.take k)) (putAll (L.take k)) ld dr va vb wr)) (fun i _ _ => len - (intOf i).toNat)
    case atStart => exact ⟨0, 0, 0, _, _, Nat.zero_le _, rfl, H2⟩
    case round =>
      obtain ⟨k, ld, dr, va, vb, hk, rfl, HR⟩ := hrel
      by_cases hlt : k < len
      · obtain ⟨x, hx⟩ : ∃ x, L[k]? = some x := ⟨_, List.getElem?_eq_getElem (by omega)⟩
        obtain ⟨b, off, rfl, x0, x1, x2, x3, x4, x5, x6, x7, hrb⟩ := (H.out.below HR.out.low).at_ k x hx
        go_wp2_with fail
        have hx8 : BoxD wr.heap.size x (wr.alloc (.cells #[.int .i64 x.wh, .int .i64 x.tt, .int .i64 x.nw, .int .i64 x.k, .int .i64 x.b, .int .i64 x.al, .int .i64 x.pl, .slice x.a x.n x.c] 59)) := World.alloc_heap_new wr _
        have hB5 : Below wr.heap.size wr (wr.alloc (.cells #[.int .i64 x.wh, .int .i64 x.tt, .int .i64 x.nw, .int .i64 x.k, .int .i64 x.b, .int .i64 x.al, .int .i64 x.pl, .slice x.a x.n x.c] 59)) := (Below.refl _ _).alloc (Nat.le_refl _) _
        generalize wr.alloc (.cells #[.int .i64 x.wh, .int .i64 x.tt, .int .i64 x.nw, .int .i64 x.k, .int .i64 x.b, .int .i64 x.al, .int .i64 x.pl, .slice x.a x.n x.c] 59) = W5 at *
        have hxn : x.n ≤ 1000 := by have := sumD_mem (List.mem_of_getElem? hx); omega
        have hk400 : k ≤ 400 := by omega
        have hR := HR.out
        have hla := hR.la
        have hlda := hR.lda
        have hdra := hR.dra
        have hPa : PW (Wa + 1) Wa (putAll (L.take k)) ld dr va W5.drew := (hR.a.below hB5).below (Below.refl _ _).drew
        have hPb : PW (Wa + 1 + 1) (Wa + 1) (putAll (L.take k)) ld dr vb W5.drew := (hR.b.below hB5).below (Below.refl _ _).drew
        have hr5 : RB W5.drew x.a x.n x.c x.l := (hrb.below hB5).below (Below.refl _ _).drew
        have hlow5 : Below w.heap.size w W5.drew := (hR.low.trans (hB5.mono hR.low.size)).drew
        have hWl := lt_of_block hPb.wire
        have HSA := Lib.hid (sendD x hPa hr5 hxn (by omega) (by omega) (by omega) (by omega))
        have HX := Lib.hid hx
        have HX8 := Lib.hid hx8
        have HPA := Lib.hid hPa
        have HPB := Lib.hid hPb
        have HLOW := Lib.hid hlow5
        have HUN := Lib.hid hR.un
        have hsa := hR.sa
        haveI : Nonempty (Such (BoxD wr.heap.size x)) := ⟨⟨W5, hx8⟩⟩
        haveI : Inhabited (Such (BoxD wr.heap.size x)) := ⟨⟨W5, hx8⟩⟩
        have Z1 : ∀ z : Such (BoxD wr.heap.size x), z.1.cell? ⟨wr.heap.size, 1, none⟩ = some (.int .i64 x.tt) := fun z => BoxD.cell z.2 1 _ rfl
        have Z2 : ∀ z : Such (BoxD wr.heap.size x), z.1.cell? ⟨wr.heap.size, 2, none⟩ = some (.int .i64 x.nw) := fun z => BoxD.cell z.2 2 _ rfl
        have Z3 : ∀ z : Such (BoxD wr.heap.size x), z.1.cell? ⟨wr.heap.size, 3, none⟩ = some (.int .i64 x.k) := fun z => BoxD.cell z.2 3 _ rfl
        have Z4 : ∀ z : Such (BoxD wr.heap.size x), z.1.cell? ⟨wr.heap.size, 4, none⟩ = some (.int .i64 x.b) := fun z => BoxD.cell z.2 4 _ rfl
        have Z5 : ∀ z : Such (BoxD wr.heap.size x), z.1.cell? ⟨wr.heap.size, 5, none⟩ = some (.int .i64 x.al) := fun z => BoxD.cell z.2 5 _ rfl
        have Z6 : ∀ z : Such (BoxD wr.heap.size x), z.1.cell? ⟨wr.heap.size, 6, none⟩ = some (.int .i64 x.pl) := fun z => BoxD.cell z.2 6 _ rfl
        have Z7 : ∀ z : Such (BoxD wr.heap.size x), z.1.cell? ⟨wr.heap.size, 7, none⟩ = some (.slice x.a x.n x.c) := fun z => BoxD.cell z.2 7 _ rfl
        clear x0 x1 x2 x3 x4 x5 x6 x7 hrb hx hx8 hB5 hPa hPb hr5 hlow5 hR HR
        refine region_sch (fun w' => ∃ z : Such (BoxD wr.heap.size x), w' = z.1) [20] [([0, 1, 2, 3, 4, 5, 6, 7, 8, 10, 11, 12, 13, 14, 15, 16, 17, 18], 9), ([], 19)] (by rfl) (by decide +kernel) ⟨⟨W5.drew, HX8.out⟩, rfl⟩ ?_
        unfold schP
        simp only [pickL, List.filterMap_cons, List.filterMap_nil, List.getElem?_toArray, List.getElem?_cons_zero, List.getElem?_cons_succ]
        show wpQuiet _ _ _ _ [_, _, _, _, _, _, _, _, _, _, _, _, _, _, _, _, _, _] _
        repeat (go_big_quiet_step (fail))
        refine wpQuiet_nil ?_
        refine mvP_call (f := 35) (args := #[.pointer (some ⟨Wa, 0, none⟩), .int .i64 x.tt, .agg #[.int .i64 x.k, .int .i64 x.b, .int .i64 x.al, .int .i64 x.pl], .slice x.a x.n x.c, .int .i64 x.nw]) (w' := W5.drew) (some 46) rfl rfl rfl (by go_simp) (HSA.out.mono ?_)
        rintro e w6 ⟨rfl, va6, ha6, hk6, hn6⟩
        have hlow6 : Below w.heap.size w w6 := HLOW.out.trans (hk6.low hsa (fun g e => by have := (HPA.out.ownB e).1; omega) HLOW.out.size)
        obtain ⟨_, _, _, _, _, _, _, _, _, _, _, hr6⟩ := (H.out.below hlow6).at_ k x HX.out
        have hPb6 := HPA.out.other hk6 HPB.out (by omega) HUN.out.symm
        have hX6 : BoxD wr.heap.size x w6 := HPA.out.far hk6 HX8.out (by decide) (by decide)
        have hW6 := lt_of_block hPb6.wire
        have HSB := Lib.hid (sendD x hPb6 hr6 hxn (by omega) (by omega) (by omega) (by omega))
        have HA6 := Lib.hid ha6
        have HPB6 := Lib.hid hPb6
        have HL6 := Lib.hid hlow6
        have HUN6 := Lib.hid (hn6.unl HPB.out HUN.out.symm)
        refine ⟨_, rfl, ⟨⟨w6, hX6⟩, rfl⟩, ?_⟩
        simp only [Act.put, List.setIfInBounds_toArray, List.set_cons_succ, List.set_cons_zero]
        unfold schP
        refine wpQuiet_nil ?_
        refine mvP_call (f := 35) (args := #[.pointer (some ⟨Wa + 1, 0, none⟩), .int .i64 x.tt, .agg #[.int .i64 x.k, .int .i64 x.b, .int .i64 x.al, .int .i64 x.pl], .slice x.a x.n x.c, .int .i64 x.nw]) (w' := w6) (some 56) rfl rfl rfl (by go_simp) (HSB.out.mono ?_)
        clear ha6 hk6 hn6 hlow6 hr6 hPb6 HSA
        rintro e w7 ⟨rfl, vb7, hb7, hk7, hn7⟩
        have hX7 : BoxD wr.heap.size x w7 := HPB6.out.far hk7 hX6 (by decide) (by decide)
        have ha7 := HPB6.out.other hk7 HA6.out (by omega) HUN6.out.symm
        have hp := putAll_take HX.out
        have h1 := x.ld_le ld
        have h2 := x.dr_le dr
        have h3 := x.put_len (putAll (L.take k))
        have hnew : TwoW w Wa (Wa + 1) (k + 1) (putAll (L.take (k + 1))) (putAll (L.take (k + 1))) (x.ld ld) (x.dr dr) va6 vb7 w7 := by
          rw [hp]
          exact ⟨ha7, hb7, hn7.unl HA6.out HUN6.out.symm, by omega, by omega, by omega, by omega, HL6.out.trans (hk7.low (by omega) (fun g e => by have := (HPB6.out.ownB e).1; omega) HL6.out.size), hsa, by omega⟩
        have HNEW := Lib.hid hnew
        refine ⟨_, rfl, ⟨⟨w7, hX7⟩, rfl⟩, ?_⟩
        simp only [Act.put, List.setIfInBounds_toArray, List.set_cons_succ, List.set_cons_zero]
        unfold schP
        simp only [pickL, List.filterMap_cons, List.filterMap_nil, List.getElem?_toArray, List.getElem?_cons_zero, List.getElem?_cons_succ]
        clear hb7 hk7 hn7 ha7 hp h1 h2 h3 hnew HSB Z1 Z2 Z3 Z4 Z5 Z6 Z7 hX6 hX7
        show wpQuiet _ _ _ _ [_] _
        repeat (go_big_quiet_step (fail))
        refine wpQuiet_nil ?_
        go_wp2_with fail
        go_roundw
        case rel => exact ⟨k + 1, x.ld ld, x.dr dr, va6, vb7, by omega, by go_num, HNEW⟩
        case measure => simp [intOf]; omega
      · obtain rfl : k = len := by omega
        rw [List.take_of_length_le (Nat.le_of_eq hl)] at HR
        have hK4 : k ≤ 400 := by omega
        have hla := HR.out.la
        have H38 := Lib.hid (dueP 0 HR.out.a (by omega))
        go_wp2_with fail
        refine H38.out.mono ?_
        rintro e w6 ⟨vm, va6, xs, rfl, hx6, hm6, ha6, hk6, ho6⟩
        have hR := HR.out
        have hst : StepI w Wa (putAll L) ld dr 0 va6 vb vm w6 :=
          ⟨⟨xs, hx6, own_mono3 hm6.row hR.low.size, hm6.own⟩, ha6, hR.a.other hk6 hR.b (by omega) hR.un.symm, unl_same ho6 hR.un.symm |>.symm, hR.low.trans (hk6.low hR.sa (fun g e => by have := (hR.a.ownB e).1; have := hR.sa; omega) hR.low.size)⟩
        obtain ⟨am, cm, rfl⟩ := own70_slice hm6.row
        have hxl : xs.length = (dueZ 0 (putAll L)).length := by rw [← hx6, List.length_map]
        rw [hxl] at hst ⊢
        have HST := Lib.hid hst
        have hsa := hR.sa
        have hzl : (putAll L).length ≤ 800 := by omega
        clear hx6 hm6 ha6 hk6 ho6 hst H38 hR hxl HR H2 H34 hla
        clear xs
        generalize putAll L = Z at *
        go_wp2_with fail
        go_loopw [9, 10, 11] (fun t v i wr => ∃ j : Nat, ∃ tk : Int, ∃ am cm va vb, j ≤ tn ∧ 0 ≤ tk ∧ tk ≤ 60 ∧ t = .int .i64 tk ∧ v = .slice am (dueZ tk Z).length cm ∧ i = .int .i64 j ∧ Hid (StepI w Wa Z ld dr tk va vb (.slice am (dueZ tk Z).length cm) wr)) (fun _ _ i _ => tn - (intOf i).toNat)
        case atStart => exact ⟨0, 0, am, cm, va6, vb, Nat.zero_le _, by omega, by omega, rfl, rfl, rfl, HST⟩
        case round =>
          obtain ⟨j, tk, am, cm, va, vb, hj, ht0, ht1, rfl, rfl, rfl, HR⟩ := hrel
          by_cases hlt : j < tn
          · obtain ⟨x, hx⟩ : ∃ x, T[j]? = some x := ⟨_, List.getElem?_eq_getElem (by omega)⟩
            obtain ⟨hxr, b, off, rfl, hxc⟩ := HT.out j x hx
            have hxc2 := (HR.out.low.cell (block_lt_of_cell hxc)).trans hxc
            have H40 := Lib.hid fun W => pick_any W x 10 (by omega) (by omega)
            have hx0 := Int.emod_nonneg x (show (10 : Int) ≠ 0 by omega)
            have hx9 := Int.emod_lt_of_pos x (show (0 : Int) < 10 by omega)
            go_upto_region 17 with fail
            go_cut [9] from 61 to 95 (fun s9 wx => ∃ t2 : Int, s9 = .int .i64 t2 ∧ Hid (tk ≤ t2 ∧ t2 ≤ 60) ∧ wx = wr)
            case first =>
              go_wp2_with fail
              refine (H40.out _).mono ?_
              rintro e w7 ⟨rfl, rfl⟩
              obtain ⟨y, hy⟩ : ∃ y, y = x % 10 := ⟨_, rfl⟩
              rw [← hy] at hx0 hx9 ⊢
              clear hxc hxc2 hx H40 hy hxr
              go_wp2_with fail
              all_goals
                go_meet
                exact ⟨_, rfl, by show _ ∧ _; omega, rfl⟩
            case rest =>
              obtain ⟨t2, rfl, HT2, hwc⟩ := hcut
              subst wc
              have hA := HR.out.a
              obtain ⟨zr, hzr⟩ : ∃ zr, zr = Z.drop (dueZ tk Z).length := ⟨_, rfl⟩
              rw [← hzr] at hA
              have hzd : zr.length ≤ 800 := by rw [hzr, List.length_drop]; omega
              have H41 := Lib.hid (nextP hA (by omega))
              have H38 := Lib.hid (dueP t2 hA (by omega))
              have HA := Lib.hid hA
              have HZR := Lib.hid hzr
              clear hxc hxc2 hx H40 hxr hx0 hx9 hA hzr
              go_wp2_with fail
              refine H41.out.mono ?_
              rintro e w7 ⟨rfl, rfl⟩
              go_wp2_with fail
              refine H38.out.mono ?_
              rintro e w8 ⟨vm8, va8, xs8, rfl, hx8, hm8, ha8, hk8, ho8⟩
              obtain ⟨a8, c8, rfl⟩ := own70_slice hm8.row
              have hl8 : xs8.length = (dueZ t2 zr).length := by rw [← hx8, List.length_map]
              have hkey := due_step t2 zr
              rw [← hl8] at hkey
              obtain ⟨m, hm⟩ : ∃ m, m = xs8.length := ⟨_, rfl⟩
              have hm800 : m ≤ 800 := by
                have := List.IsPrefix.length_le (List.takeWhile_prefix (l := zr) (fun x => decide (x.d ≤ t2)))
                unfold dueZ at hl8
                omega
              rw [← hm] at hkey ⊢
              generalize decide (0 < zr.length) = p at *
              have H8 := Lib.hid (And.intro hx8 (And.intro hm8 (And.intro ha8 (And.intro hk8 (And.intro ho8 hm)))))
              have HKEY := Lib.hid hkey
              clear hx8 hm8 ha8 hk8 ho8 hl8 hkey hm H38 H41
              go_upto_region 20 with fail
              go_cut [92] from 61 to 95 (fun s92 wx => s92 = .bool false ∧ wx = w8)
              case first =>
                have hkey := HKEY.out
                cases p
                · have hm0 : ¬ 0 < m := of_decide_eq_false hkey
                  clear hkey
                  go_wp2_with fail
                  go_meet
                  exact ⟨rfl, rfl⟩
                · by_cases hq : hdZ zr ≤ t2
                  · rw [decide_eq_true hq] at hkey
                    have hm0 : 0 < m := of_decide_eq_true hkey
                    clear hkey
                    go_wp2_with fail
                    go_meet
                    exact ⟨rfl, rfl⟩
                  · rw [decide_eq_false hq] at hkey
                    have hm0 : ¬ 0 < m := of_decide_eq_false hkey
                    clear hkey
                    go_wp2_with fail
                    go_meet
                    exact ⟨rfl, rfl⟩
              case rest =>
                obtain ⟨rfl, hwc⟩ := hcut
                subst wc
                obtain ⟨hx8, hm8, ha8, hk8, ho8, hm⟩ := H8.out
                have hR := HR.out
                obtain ⟨xs, hxs, hmO⟩ := hR.mail
                have hmO8 := hmO.far HA.out hk8
                have hb8 := HA.out.other hk8 hR.b (by omega) hR.un.symm
                have hu8 := (unl_same ho8 hR.un.symm).symm
                have hlow8 : Below w.heap.size w w8 := hR.low.trans (hk8.low hsa (fun g e => by have := (HA.out.ownB e).1; omega) hR.low.size)
                have hxl : xs.length = (dueZ tk Z).length := by rw [← hxs, List.length_map]
                have hdl : (dueZ tk Z).length ≤ 800 := by
                  have := List.IsPrefix.length_le (List.takeWhile_prefix (l := Z) (fun x => decide (x.d ≤ tk)))
                  unfold dueZ; omega
                have hro : w8.ownsRow w.heap.size 70 2 (.slice am (dueZ tk Z).length cm) (dueZ tk Z).length (mcs (xs.map Wz.w)) := by rw [← hxl]; rw [← hxl] at hmO8; exact hmO8.row
                have hrg : w8.ownsRow wr.heap.size 70 2 (.slice a8 m c8) m (mcs (xs8.map Wz.w)) := by rw [hm]; exact hm8.row
                have HRO := Lib.hid hro
                have HRG := Lib.hid hrg
                have hls8 := hlow8.size
                have HM := Lib.hid hm
                have HL8 := Lib.hid (And.intro hx8 (And.intro hxs hxl))
                clear hro hrg hm hx8 hxs hxl
                go_wp2_with (at_builtin; refine wpList_append_mail rfl (.tmp 93) (.tmp 94) rfl w.heap.size wr.heap.size rfl rfl HRO.out HRG.out (by omega) (by omega) ?_)
                intro v9 w9 ho9 hg9
                obtain ⟨a9, c9, rfl⟩ := own70_slice ho9
                obtain ⟨hx8, hxs, hxl⟩ := HL8.out
                have hm := HM.out
                have hlen9 : (dueZ tk Z).length + m = (dueZ t2 Z).length := by
                  rw [dueZ_two HT2.out.1 Z, List.length_append, ← HZR.out, hm, ← hx8, List.length_map]
                have hnew : StepI w Wa Z ld dr t2 va8 vb (.slice a9 (dueZ t2 Z).length c9) w9 := by
                  refine ⟨⟨xs ++ xs8, ?_, ?_, fun x hx => ?_⟩, ?_, hb8.grown HRO.out hg9 (by decide) (by decide) (by decide), hu8, hlow8.grown hg9 (by omega) (fun g e => (own_lt3 HRO.out e).1)⟩
                  · rw [List.map_append, hxs, hx8, dueZ_two HT2.out.1 Z, HZR.out]
                  · rw [List.length_append, hxl, ← hm, List.map_append, ← hlen9]; exact ho9
                  · rcases List.mem_append.1 hx with hx | hx
                    · exact own_grown HRO.out hg9 (hmO8.own x hx) (by decide)
                    · exact own_grown HRO.out hg9 (hm8.own x hx) (by decide)
                  · rw [← due_drop HT2.out.1 Z, ← HZR.out]
                    exact ha8.grown HRO.out hg9 (by decide) (by decide) (by decide)
                have HNEW := Lib.hid hnew
                have ht2 := HT2.out
                rw [hlen9]
                clear hm hxl HM HL8 hlen9
                clear ho9 hg9 hnew hx8 hm8 ha8 hk8 ho8 hR hxs hmO hmO8 hb8 hu8 hlow8 HRO HRG H8 HKEY HA HZR HR
                go_wp2_with fail
                go_roundw
                case rel => exact ⟨j + 1, t2, a9, c9, va8, vb, by omega, by omega, by omega, rfl, rfl, by go_num, HNEW⟩
                case measure => simp [intOf]; omega
          · obtain rfl : j = tn := by omega
            have hR := HR.out
            have H38 := Lib.hid (dueP tk hR.b (by omega))
            clear hR
            go_wp2_with fail
            refine H38.out.mono ?_
            rintro e w7 ⟨vm7, vb7, xs7, rfl, hx7, hm7, hb7, hk7, ho7⟩
            obtain ⟨a7, c7, rfl⟩ := own70_slice hm7.row
            have hR := HR.out
            obtain ⟨xs, hxs, hmO⟩ := hR.mail
            have hsm : SmZ (dueZ tk Z) := sm_due hR.b.sm
            have hmc := (hmO.far hR.b hk7).rd (by rw [hxs]; exact hsm)
            have hmo := hm7.rd (by rw [hx7]; exact hsm)
            rw [hxs] at hmc
            rw [hx7] at hmo
            have ha7 := hR.b.other hk7 hR.a (by omega) hR.un
            have hlow7 : Below w.heap.size w w7 := hR.low.trans (hk7.low (by omega) (fun g e => by have := (hR.b.ownB e).1; omega) hR.low.size)
            have hl7 : xs7.length = (dueZ tk Z).length := by rw [← hx7, List.length_map]
            have hdl : (dueZ tk Z).length ≤ 800 := by
              have := List.IsPrefix.length_le (List.takeWhile_prefix (l := Z) (fun x => decide (x.d ≤ tk)))
              unfold dueZ; omega
            rw [hl7] at hmo ⊢
            have HMC := Lib.hid hmc
            have HMO := Lib.hid hmo
            have HL7 := Lib.hid hlow7
            have HOA := Lib.hid (openP ha7)
            have HOB := Lib.hid (openP hb7)
            clear hx7 hm7 hb7 hk7 ho7 hR hxs hmO hsm hmc hmo ha7 hlow7 hl7 H38 HR
            generalize dueZ tk Z = D at *
            generalize Z.drop D.length = R at *
            go_wp2_with fail
            refine HOA.out.mono ?_
            rintro e w8 ⟨rfl, rfl⟩
            go_wp2_with fail
            refine HOB.out.mono ?_
            rintro e w8 ⟨rfl, rfl⟩
            clear HOA HOB
            go_wp2_with fail
            go_loopw [16] (fun i wr => ∃ q : Nat, q ≤ D.length ∧ i = .int .i64 q ∧ Hid (Below w7.heap.size w7 wr)) (fun i _ => D.length - (intOf i).toNat)
            case atStart => exact ⟨0, Nat.zero_le _, rfl, Below.refl _ _⟩
            case round =>
              obtain ⟨q, hq, rfl, HBq⟩ := hrel
              by_cases hlq : q < D.length
              · obtain ⟨x, hx⟩ : ∃ x, D[q]? = some x := ⟨_, List.getElem?_eq_getElem hlq⟩
                obtain ⟨_, _, e1, hk1⟩ := HMO.out.below HBq.out
                injection e1 with e1 _ e2
                subst e1; subst e2
                obtain ⟨b1, o1, s1, n1, c1, rfl, k1, k2, k3⟩ := hk1 q x hx
                obtain ⟨_, _, e1, hk2⟩ := HMC.out.below HBq.out
                injection e1 with e1 _ e2
                subst e1; subst e2
                obtain ⟨b2, o2, s2, n2, c2, rfl, k4, k5, k6⟩ := hk2 q x hx
                have H19 := Lib.hid fun z : Lies wr => show Calls Try.prog 19 #[.slice s1 n1 c1, .slice s2 n2 c2] z.1 fun e w' => e = .returned (.bool true) ∧ Below z.1.heap.size z.1 w' from (same_any (k3.below z.2) (k6.below z.2)).mono (by
                  rintro e w' ⟨rfl, qq, rfl⟩
                  exact ⟨by simp, below_drewN (Below.refl _ _) _⟩)
                have L1 := fun z : Lies wr => lies_cell k1 z
                have L2 := fun z : Lies wr => lies_cell k2 z
                have L3 := fun z : Lies wr => lies_cell k4 z
                have L4 := fun z : Lies wr => lies_cell k5 z
                clear hk1 hk2 hx k1 k2 k3 k4 k5 k6
                go_upto_region 29 with fail
                refine region_lies (by rfl) (by decide +kernel) ?_
                repeat (go_big_quiet_step ((go_at_call 19; exact Lies.call (H19.out _))))
                refine wpQuiet_nil ?_
                intro _ hw'
                obtain ⟨z, rfl⟩ := hw'
                have HZ := Lib.hid (HBq.out.trans ((show Below wr.heap.size wr z.1 from z.2).mono HBq.out.size))
                clear L1 L2 L3 L4 H19
                generalize z.1 = wz at *
                clear z
                go_wp2_with fail
                go_roundw
                case rel => exact ⟨q + 1, by omega, by go_num, HZ⟩
                case measure => simp [intOf]; omega
              · obtain rfl : q = D.length := by omega
                go_wp2_with fail
                go_ret
                exact ⟨rfl, HL7.out.trans (HBq.out.mono HL7.out.size)⟩
  · go_wp2_with fail
    go_ret
    exact ⟨rfl, HB1.out⟩
end Go.Proofs.Ytfojhmobnedekaa
