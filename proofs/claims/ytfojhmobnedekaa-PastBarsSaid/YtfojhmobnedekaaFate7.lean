/- The walks of fate's rules for both, for a flip, for nothing. Conditions: the channel has room; ticks and delays are those of right fates. -/
import Derived.Test.YtfojhmobnedekaaFate6
namespace Go.Proofs.Ytfojhmobnedekaa
open Go.RowKit Go.Conc

theorem not_chan {w : World} {b o ch cap s r : Nat} {v : Value} {buf : Array Value} {cl tm : Bool} (hc : w.heap[ch]? = some (.chan cap buf cl s r tm)) (h : w.cell? ⟨b, o, none⟩ = some v) : b ≠ ch := by
  intro e
  subst e
  unfold World.cell? at h
  simp [hc] at h
theorem RB.kb {w w' : World} {a : Option Addr} {n c ch cap s r : Nat} {l : List Nat} {buf : Array Value} {cl tm : Bool} (h : RB w a n c l) (hK : Kb ch w w') (hc : w.heap[ch]? = some (.chan cap buf cl s r tm)) : RB w' a n c l :=
  h.frame fun _ _ _ hv _ => (hK.cell (block_lt_of_cell hv) (not_chan hc hv)).trans hv
theorem clone_keep {W0 : World} {a : Option Addr} {n c p ch s g i j : Nat} {buf : Array Value} {l : List Nat} {u v : Value} (h : RB W0 a n c l) (hx : Box p ch s buf W0) (e1 : W0.cell? ⟨g, i, none⟩ = some u) (e3 : W0.cell? ⟨g, j, none⟩ = some v) (W : World) (hW : Below W0.heap.size W0 W) :
    Calls Try.prog 63 #[.slice a n c] W fun e w' => ∃ a' c', e = .returned (.slice a' n c') ∧ w'.cell? ⟨g, i, none⟩ = some u ∧ w'.cell? ⟨g, j, none⟩ = some v ∧ Hid (w'.ownsRow W0.heap.size 5 1 (.slice a' n c') n (bs l)) ∧ Hid (Box p ch s buf w') ∧ Hid (Kb ch W0 w') := by
  refine (clone_any (h.below hW)).mono ?_
  rintro e w' ⟨v, rfl, ho, hB⟩
  obtain ⟨a', c', rfl⟩ := own_slice ho
  have hB2 := hW.trans (hB.mono hW.size)
  exact ⟨a', c', rfl, (hB2.cell (block_lt_of_cell e1)).trans e1, (hB2.cell (block_lt_of_cell e3)).trans e3, own_mono ho hW.size, hx.below hB2, Kb.of_below hB2⟩
theorem put_keep {W : World} {due place : Int} {a : Option Addr} {n c p ch s g i j : Nat} {buf : Array Value} {u v : Value} (e1 : W.cell? ⟨g, i, none⟩ = some u) (e3 : W.cell? ⟨g, j, none⟩ = some v) (hx : Box p ch s buf W) (hb : buf.size < 2) :
    Calls Try.prog 61 #[.agg #[.int .i64 due, .int .i64 place, .slice a n c], .pointer (some ⟨p, 0, none⟩)] W fun e w' => e = .returned (.tuple #[]) ∧ w'.cell? ⟨g, i, none⟩ = some u ∧ w'.cell? ⟨g, j, none⟩ = some v ∧ Hid (Box p ch (s + 1) (buf.push (.agg #[.int .i64 due, .int .i64 place, .slice a n c])) w') ∧ Hid (Kb ch W w') := by
  refine (put_box hx hb).mono ?_
  rintro e w' ⟨rfl, hX2, hK⟩
  exact ⟨rfl, (hK.cell (block_lt_of_cell e1) (not_chan hx.chan e1)).trans e1, (hK.cell (block_lt_of_cell e3) (not_chan hx.chan e3)).trans e3, hX2, hK⟩

set_option maxHeartbeats 1600000 in
set_option maxRecDepth 100000 in
theorem both_any {w : World} {k b al pl now : Int} {a : Option Addr} {n c p ch : Nat} {l : List Nat} (h : RB w a n c l) (hx : Box p ch 0 #[] w) (h1 : 0 ≤ now ∧ now ≤ 2147483647) (h2 : 0 ≤ b ∧ b ≤ 2000) (h3 : 0 ≤ al ∧ al ≤ 2000) :
    Calls Try.prog 89 #[.agg #[.int .i64 k, .int .i64 b, .int .i64 al, .int .i64 pl], .slice a n c, .int .i64 now, .func (.func 61) #[] #[.pointer (some ⟨p, 0, none⟩)]] w fun e w' => e = .returned (.tuple #[]) ∧
      ∃ a' c' a2 c2, Box p ch 2 #[.agg #[.int .i64 (now + b), .int .i64 pl, .slice a' n c'], .agg #[.int .i64 (now + al), .int .i64 pl, .slice a2 n c2]] w' ∧ w'.ownsRow w.heap.size 5 1 (.slice a' n c') n (bs l) ∧ w'.ownsRow w.heap.size 5 1 (.slice a2 n c2) n (bs l) ∧ Unl (.slice a' n c') (.slice a2 n c2) ∧ Kb ch w w' := by
  have hB0 : Below w.heap.size w (w.alloc (.cells #[.int .i64 k, .int .i64 b, .int .i64 al, .int .i64 pl] 24)) := (Below.refl _ _).alloc (Nat.le_refl _) _
  have hbl := heap_alloc_new w (.cells #[.int .i64 k, .int .i64 b, .int .i64 al, .int .i64 pl] 24)
  have c0 : (w.alloc (.cells #[.int .i64 k, .int .i64 b, .int .i64 al, .int .i64 pl] 24)).cell? ⟨w.heap.size, 0, none⟩ = some (.int .i64 k) := (cell_of_block (j := 0) hbl).trans rfl
  have c1 : (w.alloc (.cells #[.int .i64 k, .int .i64 b, .int .i64 al, .int .i64 pl] 24)).cell? ⟨w.heap.size, 1, none⟩ = some (.int .i64 b) := (cell_of_block (j := 1) hbl).trans rfl
  have c2 : (w.alloc (.cells #[.int .i64 k, .int .i64 b, .int .i64 al, .int .i64 pl] 24)).cell? ⟨w.heap.size, 2, none⟩ = some (.int .i64 al) := (cell_of_block (j := 2) hbl).trans rfl
  have c3 : (w.alloc (.cells #[.int .i64 k, .int .i64 b, .int .i64 al, .int .i64 pl] 24)).cell? ⟨w.heap.size, 3, none⟩ = some (.int .i64 pl) := (cell_of_block (j := 3) hbl).trans rfl
  have hw : IntKind.i64.wrap (now + al) = now + al := IntWalk.i64_in _ (by omega)
  have H87 := Lib.hid (first_any (k := k) (al := al) (pl := pl) (h.below hB0) (hx.below hB0) (by decide) h1 h2)
  have HA := Lib.hid (And.intro (h.below hB0) (And.intro (hx.below hB0) (And.intro hB0 (And.intro c2 c3))))
  obtain ⟨h1a, h1b⟩ := h1
  obtain ⟨h3a, h3b⟩ := h3
  clear h hx hbl hB0 h2
  go_enter Try.func89, Try.ntmps89
  go_upto_region 2 with fail
  refine H87.out.mono ?_
  rintro e w1 ⟨rfl, a1, k1, hX1, ho1, hK1⟩
  simp only [World.size_alloc] at ho1
  have hr1 := HA.out.1.kb hK1 HA.out.2.1.chan
  have e2 := (hK1.cell (block_lt_of_cell HA.out.2.2.2.1) (not_chan HA.out.2.1.chan HA.out.2.2.2.1)).trans HA.out.2.2.2.1
  have e3 := (hK1.cell (block_lt_of_cell HA.out.2.2.2.2) (not_chan HA.out.2.1.chan HA.out.2.2.2.2)).trans HA.out.2.2.2.2
  have hk1 : Kb ch w w1 := (Kb.of_below HA.out.2.2.1).trans hK1
  have H63 := Lib.hid fun W hW => clone_keep hr1 hX1 e2 e3 W hW
  have H61 := Lib.hid fun (W : World) (x : Option Addr) (y : Nat) (f1 : W.cell? ⟨w.heap.size, 2, none⟩ = some (.int .i64 al)) (f3 : W.cell? ⟨w.heap.size, 3, none⟩ = some (.int .i64 pl)) (hx : Box p ch 1 #[.agg #[.int .i64 (now + b), .int .i64 pl, .slice a1 n k1]] W) => put_keep (due := now + al) (place := pl) (a := x) (n := n) (c := y) f1 f3 hx (by simp)
  have HO1 := Lib.hid ho1
  have HK1 := Lib.hid hk1
  have HC1 := Lib.hid hX1
  clear c0 c1 c2 c3 hr1 ho1 hK1 hk1 hX1 HA H87
  go_upto_region 2 with fail
  go_region_held3 (fun w' => w'.cell? ⟨w.heap.size, 2, none⟩ = some (.int .i64 al) ∧ w'.cell? ⟨w.heap.size, 3, none⟩ = some (.int .i64 pl))
    (first | go_keep)
    (first
      | (go_at_call 63; ((with_reducible refine (H63.out _ ?_).mono ?_); (exact below_drewN (Below.refl _ _) _); rintro e w5 ⟨a5, c5, rfl, hk1, hk2, HO5, HX5, HK5⟩))
      | (go_at_call 61; ((with_reducible refine (H61.out _ _ _ ?_ ?_ ?_).mono ?_); (exact hk1); (exact hk2); (first | exact HX5.out | exact HX5.out.below (below_drewN (Below.refl _ _) _)); rintro e w6 ⟨rfl, hk3, hk4, HX6, HK6⟩)))
  have hne := HO1.out
  have ho6 : w6.ownsRow w1.heap.size 5 1 (.slice a5 n c5) n (bs l) := HK6.out.own HO5.out HX5.out.chan
  have ho1' : w5.ownsRow (w.heap.size + 1) 5 1 (.slice a1 n k1) n (bs l) := HK5.out.own HO1.out HC1.out.chan
  have ho1 : w6.ownsRow (w.heap.size + 1) 5 1 (.slice a1 n k1) n (bs l) := HK6.out.own ho1' HX5.out.chan
  have hk6 : Kb ch w w6 := HK1.out.trans (HK5.out.trans HK6.out)
  exact bodyPost_end (v := .tuple #[]) (results_none rfl _ _ _) rfl ⟨rfl, a1, k1, a5, c5, HX6.out, own_mono ho1 (by omega), own_mono ho6 HK1.out.size, fun g q1 q2 => by have := (own_lt HO1.out q1).2; have := (own_lt ho6 q2).1; omega, hk6⟩

set_option maxHeartbeats 800000 in
set_option maxRecDepth 100000 in
theorem drop_any (w : World) (k b al pl now : Int) (a : Option Addr) (n c : Nat) (v : Value) :
    Calls Try.prog 88 #[.agg #[.int .i64 k, .int .i64 b, .int .i64 al, .int .i64 pl], .slice a n c, .int .i64 now, v] w fun e w' => e = .returned (.tuple #[]) ∧ Below w.heap.size w w' := by
  go_enter Try.func88, Try.ntmps88
  go_wp2_with fail
  exact bodyPost_end (v := .tuple #[]) (results_none rfl _ _ _) rfl ⟨rfl, (Below.refl _ _).alloc (Nat.le_refl _) _⟩

set_option maxHeartbeats 1600000 in
set_option maxRecDepth 100000 in
theorem flip_any {w : World} {k b al pl now : Int} {a : Option Addr} {n c p ch : Nat} {l : List Nat} (h : RB w a n c l) (hx : Box p ch 0 #[] w) (h1 : 0 ≤ now ∧ now ≤ 2147483647) (h2 : 0 ≤ b ∧ b ≤ 2000) (h3 : 0 ≤ al ∧ al ≤ 2147483647) :
    Calls Try.prog 90 #[.agg #[.int .i64 k, .int .i64 b, .int .i64 al, .int .i64 pl], .slice a n c, .int .i64 now, .func (.func 61) #[] #[.pointer (some ⟨p, 0, none⟩)]] w fun e w' => e = .returned (.tuple #[]) ∧
      ∃ a' c', Box p ch 1 #[.agg #[.int .i64 (now + b), .int .i64 pl, .slice a' n c']] w' ∧ w'.ownsRow w.heap.size 5 1 (.slice a' n c') n (bs (Fm.turnI l al)) ∧ Kb ch w w' := by
  have hB0 : Below w.heap.size w (w.alloc (.cells #[.int .i64 k, .int .i64 b, .int .i64 al, .int .i64 pl] 24)) := (Below.refl _ _).alloc (Nat.le_refl _) _
  have hbl := heap_alloc_new w (.cells #[.int .i64 k, .int .i64 b, .int .i64 al, .int .i64 pl] 24)
  have c0 : (w.alloc (.cells #[.int .i64 k, .int .i64 b, .int .i64 al, .int .i64 pl] 24)).cell? ⟨w.heap.size, 0, none⟩ = some (.int .i64 k) := (cell_of_block (j := 0) hbl).trans rfl
  have c1 : (w.alloc (.cells #[.int .i64 k, .int .i64 b, .int .i64 al, .int .i64 pl] 24)).cell? ⟨w.heap.size, 1, none⟩ = some (.int .i64 b) := (cell_of_block (j := 1) hbl).trans rfl
  have c2 : (w.alloc (.cells #[.int .i64 k, .int .i64 b, .int .i64 al, .int .i64 pl] 24)).cell? ⟨w.heap.size, 2, none⟩ = some (.int .i64 al) := (cell_of_block (j := 2) hbl).trans rfl
  have c3 : (w.alloc (.cells #[.int .i64 k, .int .i64 b, .int .i64 al, .int .i64 pl] 24)).cell? ⟨w.heap.size, 3, none⟩ = some (.int .i64 pl) := (cell_of_block (j := 3) hbl).trans rfl
  have hm := h.most
  have hl := h.len
  have h18 : ∀ W, Below (w.alloc (.cells #[.int .i64 k, .int .i64 b, .int .i64 al, .int .i64 pl] 24)).heap.size (w.alloc (.cells #[.int .i64 k, .int .i64 b, .int .i64 al, .int .i64 pl] 24)) W → Calls Try.prog 18 #[.slice a n c, .int .i64 al] W fun e w' => ∃ a' c', e = .returned (.slice a' n c') ∧ w'.cell? ⟨w.heap.size, 0, none⟩ = some (.int .i64 k) ∧ w'.cell? ⟨w.heap.size, 1, none⟩ = some (.int .i64 b) ∧ w'.cell? ⟨w.heap.size, 2, none⟩ = some (.int .i64 al) ∧ w'.cell? ⟨w.heap.size, 3, none⟩ = some (.int .i64 pl) ∧ Hid (RB w' a' n c' (Fm.turnI l al)) ∧ Hid (Box p ch 0 #[] w') ∧ Hid (Kb ch w w') := fun W hW => by
    refine (turn_any ((h.below hB0).below hW) (by omega)).mono ?_
    rintro e w' ⟨v, rfl, ho, hB⟩
    obtain ⟨a', c', rfl⟩ := own_slice ho
    have hB2 := hW.trans (hB.mono hW.size)
    have hB3 := hB0.trans (hB2.mono hB0.size)
    exact ⟨a', c', rfl, (hB2.cell (block_lt_of_cell c0)).trans c0, (hB2.cell (block_lt_of_cell c1)).trans c1, (hB2.cell (block_lt_of_cell c2)).trans c2, (hB2.cell (block_lt_of_cell c3)).trans c3, own_rb2 ho (fun i => Fm.turnI_small h.small al i) hm, hx.below hB3, Kb.of_below hB3⟩
  have h87 : ∀ W x y, W.cell? ⟨w.heap.size, 0, none⟩ = some (.int .i64 k) → W.cell? ⟨w.heap.size, 1, none⟩ = some (.int .i64 b) → W.cell? ⟨w.heap.size, 2, none⟩ = some (.int .i64 al) → W.cell? ⟨w.heap.size, 3, none⟩ = some (.int .i64 pl) → RB W x n y (Fm.turnI l al) → Box p ch 0 #[] W → Kb ch w W →
      Calls Try.prog 87 #[.agg #[.int .i64 k, .int .i64 b, .int .i64 al, .int .i64 pl], .slice x n y, .int .i64 now, .func (.func 61) #[] #[.pointer (some ⟨p, 0, none⟩)]] W fun e w' => e = .returned (.tuple #[]) ∧ w'.cell? ⟨w.heap.size, 0, none⟩ = some (.int .i64 k) ∧ w'.cell? ⟨w.heap.size, 1, none⟩ = some (.int .i64 b) ∧ w'.cell? ⟨w.heap.size, 2, none⟩ = some (.int .i64 al) ∧ w'.cell? ⟨w.heap.size, 3, none⟩ = some (.int .i64 pl) ∧
        ∃ a' c', Hid (Box p ch 1 #[.agg #[.int .i64 (now + b), .int .i64 pl, .slice a' n c']] w') ∧ Hid (w'.ownsRow w.heap.size 5 1 (.slice a' n c') n (bs (Fm.turnI l al))) ∧ Hid (Kb ch w w') := fun W x y f0 f1 f2 f3 hr hX hk => by
    refine (first_any hr hX (by decide) h1 h2).mono ?_
    rintro e w' ⟨rfl, a', c', hX2, ho, hK⟩
    have hn := fun {j : Nat} {u : Value} (f : W.cell? ⟨w.heap.size, j, none⟩ = some u) => (hK.cell (block_lt_of_cell f) (not_chan hX.chan f)).trans f
    exact ⟨rfl, hn f0, hn f1, hn f2, hn f3, a', c', hX2, own_mono ho hk.size, hk.trans hK⟩
  have H18 := Lib.hid h18
  have H87 := Lib.hid h87
  clear h hx hbl hB0 h2 h1 h3 h18 h87
  go_enter Try.func90, Try.ntmps90
  go_upto_region 1 with fail
  go_region_held3 (fun w' => w'.cell? ⟨w.heap.size, 0, none⟩ = some (.int .i64 k) ∧ w'.cell? ⟨w.heap.size, 1, none⟩ = some (.int .i64 b) ∧ w'.cell? ⟨w.heap.size, 2, none⟩ = some (.int .i64 al) ∧ w'.cell? ⟨w.heap.size, 3, none⟩ = some (.int .i64 pl))
    (first | go_keep)
    (first
      | (go_at_call 18; ((with_reducible refine (H18.out _ ?_).mono ?_); (exact below_drewN (Below.refl _ _) _); rintro e w5 ⟨a5, c5, rfl, hk1, hk2, hk3, hk4, HR5, HX5, HK5⟩))
      | (go_at_call 87; ((with_reducible refine (H87.out _ _ _ ?_ ?_ ?_ ?_ ?_ ?_ ?_).mono ?_); (exact hk1); (exact hk2); (exact hk3); (exact hk4); (first | exact HR5.out | exact HR5.out.drewN _); (first | exact HX5.out | exact HX5.out.below (below_drewN (Below.refl _ _) _)); (exact HK5.out); rintro e w6 ⟨rfl, hk5, hk6, hk7, hk8, a6, c6, HX6, HO6, HK6⟩)))
  exact bodyPost_end (v := .tuple #[]) (results_none rfl _ _ _) rfl ⟨rfl, a6, c6, HX6.out, HO6.out, HK6.out⟩
end Go.Proofs.Ytfojhmobnedekaa
