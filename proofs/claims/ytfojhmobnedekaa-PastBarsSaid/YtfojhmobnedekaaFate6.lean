/- The walks of fate's rules. Conditions: the channel has room; ticks and delays are those of right fates. -/
import Derived.Test.YtfojhmobnedekaaFate5
import Derived.Deep.RegionHeld3
namespace Go.Proofs.Ytfojhmobnedekaa
open Go.RowKit Go.Conc

/-- A channel of two with this in it, and where it is to be found. -/
structure Box (p ch s : Nat) (buf : Array Value) (w : World) : Prop where
  at_ : w.cell? ⟨p, 0, none⟩ = some (.chan (some ch))
  chan : w.heap[ch]? = some (.chan 2 buf false s 0 false)
theorem Box.lt {p ch s : Nat} {buf : Array Value} {w : World} (h : Box p ch s buf w) : ch < w.heap.size := (Array.getElem?_eq_some_iff.1 h.chan).1
theorem Box.below {p ch s : Nat} {buf : Array Value} {w w' : World} (h : Box p ch s buf w) (hB : Below w.heap.size w w') : Box p ch s buf w' :=
  ⟨(hB.cell (block_lt_of_cell h.at_)).trans h.at_, (hB.block ch h.lt).trans h.chan⟩
theorem Box.ne {p ch s : Nat} {buf : Array Value} {w : World} (h : Box p ch s buf w) : p ≠ ch := by
  intro e
  have h1 := h.at_
  subst e
  unfold World.cell? at h1
  simp [h.chan] at h1
/-- What put has done. -/
theorem put_box {w : World} {due place : Int} {a : Option Addr} {n c p ch s : Nat} {buf : Array Value} (h : Box p ch s buf w) (hb : buf.size < 2) :
    Calls Try.prog 61 #[.agg #[.int .i64 due, .int .i64 place, .slice a n c], .pointer (some ⟨p, 0, none⟩)] w fun e w' => e = .returned (.tuple #[]) ∧
      Box p ch (s + 1) (buf.push (.agg #[.int .i64 due, .int .i64 place, .slice a n c])) w' ∧ Kb ch w w' := by
  refine (put_any h.at_ h.chan hb).mono ?_
  rintro e w' ⟨rfl, rfl⟩
  have hK : Kb ch w ((w.alloc (.cells #[.int .i64 due, .int .i64 place, .slice a n c] 39)).setChan ch 2 (buf.push (.agg #[.int .i64 due, .int .i64 place, .slice a n c])) false (s + 1) 0 false) :=
    (Kb.of_below ((Below.refl _ _).alloc (Nat.le_refl _) _)).trans (Kb.setChan _ _ _ _ _ _ _ _)
  exact ⟨rfl, ⟨(hK.cell (block_lt_of_cell h.at_) h.ne).trans h.at_, heap_setChan _ _ _ _ _ _ _ _ (by simp; have := h.lt; omega)⟩, hK⟩

set_option maxHeartbeats 1600000 in
set_option maxRecDepth 100000 in
theorem first_any {w : World} {k b al pl now : Int} {a : Option Addr} {n c p ch s : Nat} {buf : Array Value} {l : List Nat} (h : RB w a n c l) (hx : Box p ch s buf w) (hb : buf.size < 2) (h1 : 0 ≤ now ∧ now ≤ 2147483647) (h2 : 0 ≤ b ∧ b ≤ 2000) :
    Calls Try.prog 87 #[.agg #[.int .i64 k, .int .i64 b, .int .i64 al, .int .i64 pl], .slice a n c, .int .i64 now, .func (.func 61) #[] #[.pointer (some ⟨p, 0, none⟩)]] w fun e w' => e = .returned (.tuple #[]) ∧
      ∃ a' c', Box p ch (s + 1) (buf.push (.agg #[.int .i64 (now + b), .int .i64 pl, .slice a' n c'])) w' ∧ w'.ownsRow w.heap.size 5 1 (.slice a' n c') n (bs l) ∧ Kb ch w w' := by
  have hB0 : Below w.heap.size w (w.alloc (.cells #[.int .i64 k, .int .i64 b, .int .i64 al, .int .i64 pl] 24)) := (Below.refl _ _).alloc (Nat.le_refl _) _
  have hbl := heap_alloc_new w (.cells #[.int .i64 k, .int .i64 b, .int .i64 al, .int .i64 pl] 24)
  have c1 : (w.alloc (.cells #[.int .i64 k, .int .i64 b, .int .i64 al, .int .i64 pl] 24)).cell? ⟨w.heap.size, 1, none⟩ = some (.int .i64 b) := (cell_of_block (j := 1) hbl).trans rfl
  have c3 : (w.alloc (.cells #[.int .i64 k, .int .i64 b, .int .i64 al, .int .i64 pl] 24)).cell? ⟨w.heap.size, 3, none⟩ = some (.int .i64 pl) := (cell_of_block (j := 3) hbl).trans rfl
  have h63 : ∀ W, Below (w.heap.size + 1) (w.alloc (.cells #[.int .i64 k, .int .i64 b, .int .i64 al, .int .i64 pl] 24)) W → Calls Try.prog 63 #[.slice a n c] W fun e w' => ∃ a' c', e = .returned (.slice a' n c') ∧ w'.cell? ⟨w.heap.size, 1, none⟩ = some (.int .i64 b) ∧ w'.cell? ⟨w.heap.size, 3, none⟩ = some (.int .i64 pl) ∧ Hid (w'.ownsRow w.heap.size 5 1 (.slice a' n c') n (bs l)) ∧ Hid (Box p ch s buf w') ∧ Hid (Kb ch w w') := fun W hW => by
    have hsz := hW.size
    simp only [World.size_alloc] at hsz
    refine (clone_any (h.below (hB0.trans (hW.mono (by omega))))).mono ?_
    rintro e w' ⟨v, rfl, ho, hB⟩
    obtain ⟨a', c', rfl⟩ := own_slice ho
    have hB2 := hW.trans (hB.mono (by omega))
    have hB3 := hB0.trans (hB2.mono (by omega))
    exact ⟨a', c', rfl, (hB2.cell (by simp)).trans c1, (hB2.cell (by simp)).trans c3, own_mono ho (by omega), hx.below hB3, Kb.of_below hB3⟩
  have H63 := Lib.hid h63
  have hchl := hx.lt
  have h61 : ∀ W a' c', W.cell? ⟨w.heap.size, 1, none⟩ = some (.int .i64 b) → W.cell? ⟨w.heap.size, 3, none⟩ = some (.int .i64 pl) → Box p ch s buf W → Calls Try.prog 61 #[.agg #[.int .i64 (now + b), .int .i64 pl, .slice a' n c'], .pointer (some ⟨p, 0, none⟩)] W fun e w' => e = .returned (.tuple #[]) ∧ w'.cell? ⟨w.heap.size, 1, none⟩ = some (.int .i64 b) ∧ w'.cell? ⟨w.heap.size, 3, none⟩ = some (.int .i64 pl) ∧ Hid (Box p ch (s + 1) (buf.push (.agg #[.int .i64 (now + b), .int .i64 pl, .slice a' n c'])) w') ∧ Hid (Kb ch W w') := fun W a' c' e1 e3 hX => by
    refine (put_box hX hb).mono ?_
    rintro e w' ⟨rfl, hX2, hK⟩
    exact ⟨rfl, (hK.cell (block_lt_of_cell e1) (by show w.heap.size ≠ ch; omega)).trans e1, (hK.cell (block_lt_of_cell e3) (by show w.heap.size ≠ ch; omega)).trans e3, hX2, hK⟩
  have H61 := Lib.hid h61
  have hw : IntKind.i64.wrap (now + b) = now + b := IntWalk.i64_in _ (by omega)
  obtain ⟨h1a, h1b⟩ := h1
  obtain ⟨h2a, h2b⟩ := h2
  clear h hx hbl h63 h61 hB0
  go_enter Try.func87, Try.ntmps87
  go_upto_region 1 with fail
  go_region_held3 (fun w' => w'.cell? ⟨w.heap.size, 1, none⟩ = some (.int .i64 b) ∧ w'.cell? ⟨w.heap.size, 3, none⟩ = some (.int .i64 pl))
    (first | go_keep)
    (first
      | (go_at_call 63; ((with_reducible refine (H63.out _ ?_).mono ?_); (exact below_drewN (Below.refl _ _) _); rintro e w5 ⟨a5, c5, rfl, hk1, hk2, HO5, HX5, HK5⟩))
      | (go_at_call 61; ((with_reducible refine (H61.out _ _ _ ?_ ?_ ?_).mono ?_); (exact hk1); (exact hk2); (first | exact HX5.out | exact HX5.out.below (below_drewN (Below.refl _ _) _)); rintro e w6 ⟨rfl, hk3, hk4, HX6, HK6⟩)))
  have ho6 : w6.ownsRow w.heap.size 5 1 (.slice a5 n c5) n (bs l) := HK6.out.own HO5.out HX5.out.chan
  have hk6 : Kb ch w w6 := HK5.out.trans HK6.out
  exact bodyPost_end (v := .tuple #[]) (results_none rfl _ _ _) rfl ⟨rfl, a5, c5, HX6.out, ho6, hk6⟩
end Go.Proofs.Ytfojhmobnedekaa
