/- The walk of the reference's Lands. Conditions: rows are shorter than 2 to the 40. -/
import Derived.Test.YtfojhmobnedekaaFate12
namespace Go.Proofs.Ytfojhmobnedekaa
open Go.RowKit

/-- A copy, within a region that draws its order. -/
theorem step_copy {w : World} {ops : Array Oper} {o : Oper} {a : Act} {K : Act → World → Prop} {Q : Exit → Act → World → Prop} {E : Prop} (hgd : o.guard = none) (s x : Operand)
    (ho : o.op = .call { callee := .builtin .append, args := #[s, x], argTypes := #[25, 25] }) (g : Nat) (hs : a.eval s = .slice (some ⟨g, 0, none⟩) 0 0) (hE : w.ownsRow g 5 1 (.slice (some ⟨g, 0, none⟩) 0 0) 0 [])
    {ad : Option Addr} {n c : Nat} {l : List Nat} (hx : a.eval x = .slice ad n c) (hr : RB w ad n c l)
    (h : ∀ a' c' w', w'.ownsRow g 5 1 (.slice a' n c') n (bs l) → Below g w w' → K (a.put o.dst (.slice a' n c')) w') : if Region.wanted o (yielded ops a.tmps) = true then Oper.wp Try.prog o a w K Q else E := by
  have hw : Region.wanted o (yielded ops a.tmps) = true := by simp [Region.wanted, hgd]
  rw [if_pos hw]
  obtain ⟨i0, hi, hz0, hz1, hz2⟩ := info_parts info5
  have hg : g < w.heap.size := (own_lt hE rfl).2
  have hl : (bs l).length = n * 1 := by rw [length_bs, hr.len, Nat.mul_one]
  have hm := hr.most
  cases ad with
  | none =>
    obtain ⟨rfl, rfl, rfl⟩ := rb_none hr
    have hrun := run_append_owned_none (P := Try.prog) (w := w) g 25 o.type 5 i0 1 Try.underlying25 hi (.slice (some ⟨g, 0, none⟩) 0 0) 0 [] hE
    unfold Oper.wp execOp
    simp only [ho, resolve, invoke, builtin, Sem.run_bind, Sem.run_pure, Result.andThen_ok, List.map_toArray, List.map_cons, List.map_nil, hs, hx, hrun]
    exact h _ _ _ hE (Below.refl g w)
  | some ad =>
    obtain ⟨v', w', hrun, h2, h3, h4⟩ := run_append_own2 (P := Try.prog) w g 25 o.type 5 i0 (.int .u8 0) 1 Try.underlying25 hi hz0 hz1 hz2 rfl (.slice (some ⟨g, 0, none⟩) 0 0) 0 [] hE ad n c (bs l) hl (rb_news hr) (bs_one _) (by unfold maxLen; omega) (by omega) (by omega)
    have hB : Below g w w' := (Below.refl g w).grown h3 (by omega) (fun j e => (own_lt hE e).1)
    have h2' : w'.ownsRow g 5 1 v' n (bs l) := by simpa using h2
    obtain ⟨a', c', rfl⟩ := own_slice h2'
    unfold Oper.wp execOp
    simp only [ho, resolve, invoke, builtin, Sem.run_bind, Sem.run_pure, Result.andThen_ok, List.map_toArray, List.map_cons, List.map_nil, hs, hx, hrun]
    exact h _ _ _ h2' hB

theorem cell_da {w : World} {q : Nat} {o : Obj} {p : Addr} {v : Value} (h : w.cell? p = some v) : ((w.drewN q).alloc o).cell? p = some v :=
  ((Below.refl (w.drewN q).heap.size (w.drewN q)).alloc (Nat.le_refl _) o).cell (block_lt_of_cell (show (w.drewN q).cell? p = some v from h)) |>.trans h
theorem below_da {w w' : World} {q : Nat} {o : Obj} (h : Below w.heap.size ((w.drewN q).alloc o) w') : Below w.heap.size w w' :=
  (show Below w.heap.size w ((w.drewN q).alloc o) from (below_drewN (Below.refl w.heap.size w) q).alloc (show w.heap.size ≤ (w.drewN q).heap.size from Nat.le_refl _) o).trans h
theorem rturn_rd {w : World} {a : Option Addr} {n c : Nat} {l : List Nat} {bit : Int} (h : RB w a n c l) (hb1 : bit ≤ 9223372036854775807) :
    Calls Try.prog 20 #[.slice a n c, .int .i64 bit] w fun e w' => ∃ a' c', e = .returned (.slice a' n c') ∧ RB w' a' n c' (Fm.turnI l bit) ∧ Below w.heap.size w w' := by
  refine (rturn_any h hb1).mono ?_
  rintro e w' ⟨v, rfl, ho, hB⟩
  obtain ⟨a', c', rfl⟩ := own_slice ho
  exact ⟨a', c', rfl, own_rb2 ho (fun i => Fm.turnI_small h.small bit i) h.most, hB⟩
theorem ldr_one {w : World} {d q : Int} {a : Option Addr} {n c : Nat} {l : List Nat} (h : RB w a n c l) : LdR (w.alloc (.cells #[.int .i64 d, .int .i64 q, .slice a n c] 40)) (.slice (some ⟨w.heap.size, 0, none⟩) 1 1) [(d, q, l)] := by
  have hb := heap_alloc_new w (.cells #[.int .i64 d, .int .i64 q, .slice a n c] 40)
  refine ⟨_, 1, rfl, fun k hk => ?_⟩
  obtain rfl : k = 0 := by simp at hk; omega
  exact ⟨w.heap.size, 0, a, n, c, rfl, (cell_of_block (j := 0) hb).trans rfl, (cell_of_block (j := 1) hb).trans rfl, (cell_of_block (j := 2) hb).trans rfl, h.alloc _⟩
theorem ldr_two {w : World} {d q d2 q2 : Int} {a a2 : Option Addr} {n c n2 c2 : Nat} {l l2 : List Nat} (h : RB w a n c l) (h2 : RB w a2 n2 c2 l2) : LdR (w.alloc (.cells #[.int .i64 d, .int .i64 q, .slice a n c, .int .i64 d2, .int .i64 q2, .slice a2 n2 c2] 40)) (.slice (some ⟨w.heap.size, 0, none⟩) 2 2) [(d, q, l), (d2, q2, l2)] := by
  have hb := heap_alloc_new w (.cells #[.int .i64 d, .int .i64 q, .slice a n c, .int .i64 d2, .int .i64 q2, .slice a2 n2 c2] 40)
  refine ⟨_, 2, rfl, fun k hk => ?_⟩
  rcases (show k = 0 ∨ k = 1 by simp at hk; omega) with rfl | rfl
  · exact ⟨w.heap.size, 0, a, n, c, rfl, (cell_of_block (j := 0) hb).trans rfl, (cell_of_block (j := 1) hb).trans rfl, (cell_of_block (j := 2) hb).trans rfl, h.alloc _⟩
  · exact ⟨w.heap.size, 0, a2, n2, c2, rfl, (cell_of_block (j := 3) hb).trans rfl, (cell_of_block (j := 4) hb).trans rfl, (cell_of_block (j := 5) hb).trans rfl, h2.alloc _⟩

set_option maxHeartbeats 1600000 in
set_option maxRecDepth 100000 in
theorem rlands_bad {w : World} {k b al pl now : Int} (a : Option Addr) (n c : Nat) (h : ¬ (RightF k b al pl ∧ (0 ≤ now ∧ now ≤ 2147483647))) :
    Calls Try.prog 17 #[.agg #[.int .i64 k, .int .i64 b, .int .i64 al, .int .i64 pl], .slice a n c, .int .i64 now] w fun e w' => e = .returned (.tuple #[.slice none 0 0, .int .i64 2]) ∧ Below w.heap.size w w' := by
  have hB0 : Below w.heap.size w (w.alloc (.cells #[.int .i64 k, .int .i64 b, .int .i64 al, .int .i64 pl] 24)) := (Below.refl _ _).alloc (Nat.le_refl _) _
  obtain ⟨c0, c1, c2, c3⟩ := fate_box w k b al pl
  by_cases hr : RightF k b al pl
  · have H23 := Lib.hid fun W => (show Calls Try.prog 28 #[.agg #[.int .i64 k, .int .i64 b, .int .i64 al, .int .i64 pl]] W fun e w' => e = .returned (.bool true) ∧ Below W.heap.size W w' from decide_eq_true hr ▸ rright_any k b al pl W)
    have H59 := Lib.hid fun W => rwithin_is (n := now) (l := 0) (m := 2147483647) (t := false) (decide_eq_false fun h2 => h ⟨hr, h2⟩) W
    have HB0 := Lib.hid hB0
    clear h hr hB0
    go_enter Try.func17, Try.ntmps17
    go_wp2_with fail
    refine (H23.out _).mono ?_
    rintro e w1 ⟨rfl, hB1⟩
    have HB1 := Lib.hid (HB0.out.trans (hB1.mono HB0.out.size))
    clear hB1
    go_wp2_with fail
    refine (H59.out _).mono ?_
    rintro e w2 ⟨rfl, rfl⟩
    go_wp2_with fail
    go_ret2
    exact ⟨rfl, HB1.out⟩
  · have H23 := Lib.hid fun W => (show Calls Try.prog 28 #[.agg #[.int .i64 k, .int .i64 b, .int .i64 al, .int .i64 pl]] W fun e w' => e = .returned (.bool false) ∧ Below W.heap.size W w' from decide_eq_false hr ▸ rright_any k b al pl W)
    have HB0 := Lib.hid hB0
    clear h hr hB0
    go_enter Try.func17, Try.ntmps17
    go_wp2_with fail
    refine (H23.out _).mono ?_
    rintro e w1 ⟨rfl, hB1⟩
    have HB1 := Lib.hid (HB0.out.trans (hB1.mono HB0.out.size))
    clear hB1
    go_wp2_with fail
    go_ret2
    exact ⟨rfl, HB1.out⟩

set_option maxHeartbeats 3200000 in
set_option maxRecDepth 100000 in
theorem rlands_ok {w : World} {k b al pl now : Int} {a : Option Addr} {n c : Nat} {l : List Nat} (h : RB w a n c l) (hr : RightF k b al pl) (hn : 0 ≤ now ∧ now ≤ 2147483647) :
    Calls Try.prog 17 #[.agg #[.int .i64 k, .int .i64 b, .int .i64 al, .int .i64 pl], .slice a n c, .int .i64 now] w fun e w' => ∃ v, e = .returned (.tuple #[v, .int .i64 0]) ∧ LdR w' v (landsOf k b al pl now l) ∧ Below w.heap.size w w' := by
  have hB0 : Below w.heap.size w (w.alloc (.cells #[.int .i64 k, .int .i64 b, .int .i64 al, .int .i64 pl] 24)) := (Below.refl _ _).alloc (Nat.le_refl _) _
  have hF0 := fate_box w k b al pl
  have HF0 := Lib.hid hF0
  obtain ⟨c0, c1, c2, c3⟩ := hF0
  have H23 := Lib.hid fun W => (show Calls Try.prog 28 #[.agg #[.int .i64 k, .int .i64 b, .int .i64 al, .int .i64 pl]] W fun e w' => e = .returned (.bool true) ∧ Below W.heap.size W w' from decide_eq_true hr ▸ rright_any k b al pl W)
  have H59 := Lib.hid fun W => rwithin_is (n := now) (l := 0) (m := 2147483647) (t := true) (decide_eq_true hn) W
  have HB0 := Lib.hid hB0
  have H := Lib.hid h
  have hsm := h.small
  have hmo := h.most
  obtain ⟨hk, ⟨hb0, hb1⟩, ⟨ha0, ha1⟩, hp⟩ := hr
  obtain ⟨hn0, hn1⟩ := hn
  have hwb : IntKind.i64.wrap (now + b) = now + b := IntWalk.i64_in _ (by omega)
  clear h hB0 hp
  rcases (show k = 0 ∨ k = 1 ∨ k = 2 ∨ k = 3 by omega) with rfl | rfl | rfl | rfl
  all_goals
    go_enter Try.func17, Try.ntmps17
    go_wp2_with fail
    refine (H23.out _).mono ?_
    rintro e w1 ⟨rfl, hB1⟩
    have HB1 := Lib.hid (HB0.out.trans (hB1.mono HB0.out.size))
    have HF1 := Lib.hid (HF0.out.below hB1)
    have hb01 := HB1.out
    have HR1 := Lib.hid ((H.out.below hb01).alloc (.cells #[] 5))
    have HE := Lib.hid (own_empty w1)
    clear hB1 hb01 HB0 HF0 H23 c0 c1 c2 c3
    go_wp2_with fail
    refine (H59.out _).mono ?_
    rintro e w2 ⟨rfl, rfl⟩
    go_wp2_with (at_builtin; refine wpList_copy _ rfl (.tmp 17) (.tmp 18) rfl w1.heap.size rfl HE.out rfl HR1.out ?_)
    intro v2 w2 ho2 hB2
    obtain ⟨a2, k2, rfl⟩ := own_slice ho2
    have hB2' := ((Below.refl w1.heap.size w1).alloc (Nat.le_refl _) (.cells #[] 5)).trans hB2
    have hF2 := HF1.out.below hB2'
    have HB2 := Lib.hid (HB1.out.trans (hB2'.mono HB1.out.size))
    have HX2 := Lib.hid (own_rb2 ho2 hsm hmo)
    have HR2 := Lib.hid (H.out.below HB2.out)
    have HF2 := Lib.hid hF2
    obtain ⟨c0, c1, c2, c3⟩ := hF2
    clear ho2 hB2 hB2' HB1 HF1 HR1 HE H59
  · go_wp2_with fail
    go_ret2
    exact ⟨_, rfl, ldr_one HX2.out, HB2.out.alloc HB2.out.size _⟩
  · go_wp2_with fail
    go_ret2
    exact ⟨_, rfl, ⟨none, 0, rfl, fun k hk => absurd hk (by simp [landsOf])⟩, HB2.out⟩
  · have ha2 : al ≤ 2000 := ha1
    have hwa : IntKind.i64.wrap (now + al) = now + al := IntWalk.i64_in _ (by omega)
    clear H
    go_upto_region 8 with fail
    have k1 : w2.cell? ⟨w.heap.size, 1, none⟩ = some (.int .i64 b) := HF2.out.2.1
    have k2' : w2.cell? ⟨w.heap.size, 2, none⟩ = some (.int .i64 al) := HF2.out.2.2.1
    have k3 : w2.cell? ⟨w.heap.size, 3, none⟩ = some (.int .i64 pl) := HF2.out.2.2.2
    have hlt1 := block_lt_of_cell k1
    have hlt2 := block_lt_of_cell k2'
    have hlt3 := block_lt_of_cell k3
    go_region_held3 (fun w' => w'.cell? ⟨w.heap.size, 1, none⟩ = some (.int .i64 b) ∧ w'.cell? ⟨w.heap.size, 2, none⟩ = some (.int .i64 al) ∧ w'.cell? ⟨w.heap.size, 3, none⟩ = some (.int .i64 pl))
      (first | go_keep)
      (first
        | (refine step_copy ?_ (.tmp 49) (.tmp 50) ?_ w2.heap.size ?_ ?_ (ad := a) (n := n) (c := c) (l := l) ?_ ?_ ?_; rfl; rfl; rfl; exact own_empty _; rfl; exact ((HR2.out.drewN _).alloc _); intro a5 c5 w5 ho5 hB5; have HO5 := Lib.hid ho5; have HA : Hid (Below w2.heap.size w2 w5) := Lib.hid (below_da hB5); have q1 : w5.cell? ⟨w.heap.size, 1, none⟩ = some (.int .i64 b) := (HA.out.cell hlt1).trans k1; have q2 : w5.cell? ⟨w.heap.size, 2, none⟩ = some (.int .i64 al) := (HA.out.cell hlt2).trans k2'; have q3 : w5.cell? ⟨w.heap.size, 3, none⟩ = some (.int .i64 pl) := (HA.out.cell hlt3).trans k3; clear ho5 hB5))
    have X2 := HX2.out.below HA.out
    go_wp2_with fail
    go_ret2
    exact ⟨_, rfl, ldr_two X2 (own_rb2 HO5.out hsm hmo), (HB2.out.trans (HA.out.mono HB2.out.size)).alloc (Nat.le_trans HB2.out.size HA.out.size) _⟩
  · have ha3 : al ≤ 9223372036854775807 := Int.le_trans (show al ≤ 2147483647 from ha1) (by decide)
    have HT := Lib.hid fun W (hW : Below w2.heap.size w2 W) => (show Calls Try.prog 20 #[.slice a n c, .int .i64 al] W fun e w' => ∃ a' c', e = .returned (.slice a' n c') ∧ w'.cell? ⟨w.heap.size, 1, none⟩ = some (.int .i64 b) ∧ w'.cell? ⟨w.heap.size, 2, none⟩ = some (.int .i64 al) ∧ w'.cell? ⟨w.heap.size, 3, none⟩ = some (.int .i64 pl) ∧ Hid (RB w' a' n c' (Fm.turnI l al)) ∧ Hid (Below w2.heap.size w2 w') by
      refine (rturn_rd (HR2.out.below hW) ha3).mono ?_
      rintro e w' ⟨a', c', rfl, hr', hB'⟩
      have hB2 := hW.trans (hB'.mono hW.size)
      exact ⟨a', c', rfl, (hB2.cell (block_lt_of_cell c1)).trans c1, (hB2.cell (block_lt_of_cell c2)).trans c2, (hB2.cell (block_lt_of_cell c3)).trans c3, hr', hB2⟩)
    clear H
    go_upto_region 10 with fail
    have k1 : w2.cell? ⟨w.heap.size, 1, none⟩ = some (.int .i64 b) := HF2.out.2.1
    have k2' : w2.cell? ⟨w.heap.size, 2, none⟩ = some (.int .i64 al) := HF2.out.2.2.1
    have k3 : w2.cell? ⟨w.heap.size, 3, none⟩ = some (.int .i64 pl) := HF2.out.2.2.2
    go_region_held3 (fun w' => w'.cell? ⟨w.heap.size, 1, none⟩ = some (.int .i64 b) ∧ w'.cell? ⟨w.heap.size, 2, none⟩ = some (.int .i64 al) ∧ w'.cell? ⟨w.heap.size, 3, none⟩ = some (.int .i64 pl))
      (first | go_keep)
      (first
        | (go_at_call 20; ((with_reducible refine (HT.out _ ?_).mono ?_); (exact below_drewN (Below.refl _ _) _); rintro e w5 ⟨a5, c5, rfl, q1, q2, q3, HR5, HB5⟩)))
    go_wp2_with fail
    go_ret2
    exact ⟨_, rfl, ldr_one HR5.out, (HB2.out.trans (HB5.out.mono HB2.out.size)).alloc (Nat.le_trans HB2.out.size HB5.out.size) _⟩
end Go.Proofs.Ytfojhmobnedekaa
