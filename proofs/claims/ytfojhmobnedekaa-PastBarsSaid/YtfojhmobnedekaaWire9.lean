/- The walks of the queue's upTo: an iterator that takes from the queue. Conditions: what lies in the queue is short. -/
import Derived.Test.YtfojhmobnedekaaRangeC
import Derived.Test.YtfojhmobnedekaaWire8
import Derived.Shelf.Abstract
import Derived.Shelf.RegionOpen
import Derived.WalkKit
import Derived.OwnWalkIn
import Derived.TacticsInMore
import Derived.LoopNIn
import Derived.LoopIn
namespace Go.Proofs.Ytfojhmobnedekaa
open Go.RowKit

set_option maxHeartbeats 1600000 in
set_option maxRecDepth 100000 in
/-- Whether a landing is due. -/
theorem isDue_any {w : World} {bn : Nat} {now : Int} (x : Wl) (hb : w.cell? ⟨bn, 0, none⟩ = some (.int .i64 now)) : Calls Try.prog 74 #[x.v, .pointer (some ⟨bn, 0, none⟩)] w fun e w' => e = .returned (.bool (decide (x.d ≤ now))) ∧ Below w.heap.size w w' := by
  have hB : Below w.heap.size w (w.alloc (.cells #[.int .i64 x.d, .int .i64 x.q, .slice x.a x.n x.c, .int .i64 x.t] 139)) := (Below.refl _ _).alloc (Nat.le_refl _) _
  have h0 : (w.alloc (.cells #[.int .i64 x.d, .int .i64 x.q, .slice x.a x.n x.c, .int .i64 x.t] 139)).cell? ⟨w.heap.size, 0, none⟩ = some (.int .i64 x.d) := (cell_of_block (heap_alloc_new _ _)).trans rfl
  have h1 := (hB.cell (block_lt_of_cell hb)).trans hb
  have HB := Lib.hid hB
  clear hB hb
  unfold Wl.v landV
  go_enter Try.func74, Try.ntmps74
  go_wp2_with fail
  try go_quiet (fail)
  go_wp2_with fail
  go_ret
  exact ⟨rfl, HB.out⟩
set_option maxHeartbeats 1600000 in
/-- upTo boxes the queue's pointer and the function; its value captures the boxes. -/
theorem upTo_any (w : World) (W bn : Nat) : Calls Try.prog 73 #[.pointer (some ⟨W, 0, none⟩), .func (.func 74) #[] #[.pointer (some ⟨bn, 0, none⟩)]] w fun e w' => e = .returned (.func (.func 110) #[] #[.pointer (some ⟨w.heap.size, 0, none⟩), .pointer (some ⟨w.heap.size + 1, 0, none⟩)]) ∧ w' = (w.alloc (.cells #[.pointer (some ⟨W, 0, none⟩)] 181)).alloc (.cells #[.func (.func 74) #[] #[.pointer (some ⟨bn, 0, none⟩)]] 143) := by
  go_enter Try.func73, Try.ntmps73
  go_wp2_with fail
  go_ret
  exact ⟨rfl, rfl⟩
/-- The block of a slice's address. -/
def oB (a : Option Addr) : Option Nat := a.map (·.block)
theorem own_oB (a : Option Addr) (n c : Nat) : (Value.slice a n c).ownBlock = oB a := by cases a <;> rfl
/-- A queue that is taken from. -/
structure QS (B W : Nat) (ld dr : Int) (bq bi bn : Nat) (now : Int) (a : Option Addr) (c : Nat) (rest : List Wl) (w : World) : Prop where
  wire : w.heap[W]? = some (.cells (wireC (.slice a rest.length c) ld dr) 91 (0, 0))
  row : w.ownsRow B 139 4 (.slice a rest.length c) rest.length (wcs rest)
  q : w.cell? ⟨bq, 0, none⟩ = some (.pointer (some ⟨W, 0, none⟩))
  i : w.cell? ⟨bi, 0, none⟩ = some (.func (.func 74) #[] #[.pointer (some ⟨bn, 0, none⟩)])
  n : w.cell? ⟨bn, 0, none⟩ = some (.int .i64 now)
  qW : bq ≠ W
  iW : bi ≠ W
  nW : bn ≠ W
  qO : oB a ≠ some bq
  iO : oB a ≠ some bi
  nO : oB a ≠ some bn
/-- What a round must keep. -/
def Kq (W bq bi bn : Nat) (a : Option Addr) (A B : World) : Prop := A.heap.size ≤ B.heap.size ∧ ∀ g, (g = W ∨ g = bq ∨ g = bi ∨ g = bn ∨ oB a = some g) → g < A.heap.size → B.heap[g]? = A.heap[g]?
theorem QS.kq {B W : Nat} {ld dr : Int} {bq bi bn : Nat} {now : Int} {a : Option Addr} {c : Nat} {rest : List Wl} {A C : World} (h : QS B W ld dr bq bi bn now a c rest A) (k : Kq W bq bi bn a A C) : QS B W ld dr bq bi bn now a c rest C where
  wire := (k.2 W (.inl rfl) (lt_of_block h.wire)).trans h.wire
  row := own_frame3 h.row fun g e hg => k.2 g (.inr (.inr (.inr (.inr (by rw [own_oB] at e; exact e))))) hg
  q := (World.cell?_of_block (w := A) (k.2 bq (.inr (.inl rfl)) (block_lt_of_cell h.q))).trans h.q
  i := (World.cell?_of_block (w := A) (k.2 bi (.inr (.inr (.inl rfl))) (block_lt_of_cell h.i))).trans h.i
  n := (World.cell?_of_block (w := A) (k.2 bn (.inr (.inr (.inr (.inl rfl)))) (block_lt_of_cell h.n))).trans h.n
  qW := h.qW
  iW := h.iW
  nW := h.nW
  qO := h.qO
  iO := h.iO
  nO := h.nO
theorem QS.below {B W : Nat} {ld dr : Int} {bq bi bn : Nat} {now : Int} {a : Option Addr} {c : Nat} {rest : List Wl} {A C : World} (h : QS B W ld dr bq bi bn now a c rest A) (k : Below A.heap.size A C) : QS B W ld dr bq bi bn now a c rest C := h.kq ⟨k.size, fun g _ hg => k.block g hg⟩
/-- What the iterator's own steps may do. -/
def Sq (W : Nat) (a : Option Addr) (A B : World) : Prop := Keep W (.slice a 0 0) A B ∧ (∀ o, A.heap[W]? = some o → o.isCells = true) ∧ ∀ g, oB a = some g → ∀ o, A.heap[g]? = some o → o.isCells = true
theorem QS.head {B W : Nat} {ld dr : Int} {bq bi bn : Nat} {now : Int} {a : Option Addr} {c : Nat} {y : Wl} {rest : List Wl} {w : World} (h : QS B W ld dr bq bi bn now a c (y :: rest) w) :
    ∃ g, a = some ⟨g, 0, none⟩ ∧ w.cell? ⟨g, 0, none⟩ = some (.int .i64 y.d) ∧ w.cell? ⟨g, 1, none⟩ = some (.int .i64 y.q) ∧ w.cell? ⟨g, 2, none⟩ = some (.slice y.a y.n y.c) ∧ w.cell? ⟨g, 3, none⟩ = some (.int .i64 y.t) := by
  rcases h.row.2 with ⟨_, e⟩ | ⟨g, cap, cur, e, _⟩
  · cases e
  · injection e with e1 _ _
    subst e1
    have hc := fun q u (hu : (wcs (y :: rest))[q]? = some u) => h.row.cells (g := g) rfl q u hu
    have e0 := hc 0 _ rfl
    have e1 := hc 1 _ rfl
    have e2 := hc 2 _ rfl
    have e3 := hc 3 _ rfl
    rw [Addr.add_lit] at e0 e1 e2 e3
    exact ⟨g, rfl, by simpa using e0, by simpa using e1, by simpa using e2, by simpa using e3⟩
theorem QS.isCells {B W : Nat} {ld dr : Int} {bq bi bn : Nat} {now : Int} {a : Option Addr} {c : Nat} {rest : List Wl} {A : World} (h : QS B W ld dr bq bi bn now a c rest A) : (∀ o, A.heap[W]? = some o → o.isCells = true) ∧ ∀ g, oB a = some g → ∀ o, A.heap[g]? = some o → o.isCells = true := by
  refine ⟨fun o ho => ?_, fun g hg o ho => ?_⟩
  · rw [h.wire] at ho; injection ho with ho; subst ho; rfl
  · rcases h.row.2 with ⟨e, _⟩ | ⟨g', cap, cur, e, _, hh, _⟩
    · injection e with e1 _ _; subst e1; cases hg
    · injection e with e1 _ _; subst e1
      have e : g' = g := by injection hg
      subst e
      rw [hh] at ho; injection ho with ho; subst ho; rfl
theorem Sq.kept {W : Nat} {a : Option Addr} {A B : World} (h : Sq W a A B) (k : Nat) (o : Obj) (hk : A.heap[k]? = some o) (ho : o.isCells = false) : B.heap[k]? = some o := by
  refine (h.1.block k (Array.getElem?_eq_some_iff.1 hk).1 (fun e => ?_) (fun e => ?_)).trans hk
  · subst e; have := h.2.1 o hk; rw [ho] at this; cases this
  · rw [own_oB] at e; have := h.2.2 k e o hk; rw [ho] at this; cases this
/-- Those that are due, from the front. -/
def takeDue (now : Int) (l : List Wl) : List Wl := l.takeWhile fun x => decide (x.d ≤ now)
theorem takeDue_at {now : Int} : ∀ {pre rest : List Wl}, (∀ x ∈ pre, x.d ≤ now) → (∀ y t, rest = y :: t → ¬ y.d ≤ now) → takeDue now (pre ++ rest) = pre
  | [], [], _, _ => rfl
  | [], y :: t, _, h => by
    have := h y t rfl
    simp [takeDue, this]
  | x :: pre, rest, h1, h2 => by
    have h3 : x.d ≤ now := h1 x (by simp)
    have := takeDue_at (pre := pre) (rest := rest) (fun z hz => h1 z (by simp [hz])) h2
    unfold takeDue at this ⊢
    rw [List.cons_append, List.takeWhile_cons, if_pos (by simpa using h3), this]
/-- How long the queue is. -/
def qLen (W : Nat) (w : World) : Nat := match w.cell? ⟨W, 0, none⟩ with
  | some (Value.slice _ n _) => n
  | _ => 0
theorem qLen_eq {W n c : Nat} {a : Option Addr} {ld dr : Int} {w : World} (h : w.heap[W]? = some (.cells (wireC (.slice a n c) ld dr) 91 (0, 0))) : qLen W w = n := by unfold qLen; rw [cell_of_block h]; rfl

def TakS (bq W : Nat) (v : Value) (w : World) : Prop := w.cell? ⟨bq, 0, none⟩ = some (.pointer (some ⟨W, 0, none⟩)) ∧ w.cell? ⟨W, 0, none⟩ = some v
/-- The first has been taken; the queue's header is about to be written. -/
theorem QS.took {B W : Nat} {ld dr : Int} {bq bi bn : Nat} {now : Int} {a : Option Addr} {c : Nat} {y : Wl} {rest : List Wl} {w w' : World} (h : QS B W ld dr bq bi bn now a c (y :: rest) w) (hg : w.drew.grownBy w' (Value.slice a (rest.length + 1) c).ownBlock) (hs : w'.heap.size = w.heap.size) (ho : w'.ownsRow B 139 4 (.slice a rest.length c) rest.length (wcs rest)) :
    TakS bq W (.slice a (rest.length + 1) c) w' ∧ w'.frozen? ⟨W, 0, none⟩ = false ∧ QS B W ld dr bq bi bn now a c rest (w'.setCell ⟨W, 0, none⟩ (.slice a rest.length c)) ∧ Sq W a w (w'.setCell ⟨W, 0, none⟩ (.slice a rest.length c)) ∧ ∀ g, g < w.heap.size → g ≠ W → oB a ≠ some g → (w'.setCell ⟨W, 0, none⟩ (.slice a rest.length c)).heap[g]? = w.heap[g]? := by
  have hWo : oB a ≠ some W := by have := own4_ne h.row h.wire (by decide); rwa [own_oB] at this
  have hk : ∀ g, g < w.heap.size → oB a ≠ some g → w'.heap[g]? = w.heap[g]? := fun g hg' hne => hg.block g hg' (fun e => hne (by rw [own_oB] at e; exact e.symm))
  have hw' := (hk W (lt_of_block h.wire) hWo).trans h.wire
  have hk2 : ∀ g, g < w.heap.size → g ≠ W → oB a ≠ some g → (w'.setCell ⟨W, 0, none⟩ (.slice a rest.length c)).heap[g]? = w.heap[g]? := fun g hg' h1 h2 => (Below.heap_setCell w' ⟨W, 0, none⟩ _ g h1).trans (hk g hg' h2)
  refine ⟨⟨(World.cell?_of_block (w := w) (hk bq (block_lt_of_cell h.q) h.qO)).trans h.q, (cell_of_block hw').trans rfl⟩, frozen_of_block hw', ⟨setCell_of_block _ hw', ?_, ?_, ?_, ?_, h.qW, h.iW, h.nW, h.qO, h.iO, h.nO⟩, ⟨⟨hg.os, hg.tape, hg.output, by simp [World.setCell, hs], fun g hg' h1 h2 => hk2 g hg' h1 (by rw [own_oB] at h2; exact h2)⟩, h.isCells⟩, hk2⟩
  · exact own_frame3 ho fun g e _ => Below.heap_setCell w' ⟨W, 0, none⟩ _ g (fun e2 => hWo (by rw [own_oB] at e; rw [e]; exact congrArg some e2))
  · exact (World.cell?_of_block (w := w) (hk2 bq (block_lt_of_cell h.q) h.qW h.qO)).trans h.q
  · exact (World.cell?_of_block (w := w) (hk2 bi (block_lt_of_cell h.i) h.iW h.iO)).trans h.i
  · exact (World.cell?_of_block (w := w) (hk2 bn (block_lt_of_cell h.n) h.nW h.nO)).trans h.n

attribute [local go_sem] Oper.semAt_some

set_option maxHeartbeats 2000000 in
set_option maxRecDepth 100000 in
/-- The iterator itself. -/
theorem upto_in (nn : Nat) (hn : 1 ≤ nn) (l B W : Nat) (ld dr : Int) (bq bi bn : Nat) (now : Int) (a : Option Addr) (c : Nat) (L : List Wl) (J : List Wl → World → Prop) (hJ : ∀ s A B, J s A → Sq W a A B → J s B)
    (hY : ∀ pre x W1, J pre W1 → pre.length < L.length → YieldAt Fence.wide (nn - 1) Try.prog l #[x.v] W1 fun e W' => e = .returned (.bool true) ∧ J (pre ++ [x]) W' ∧ Kq W bq bi bn a W1 W')
    (w : World) (hQ : QS B W ld dr bq bi bn now a c L w) (h0 : J [] w) :
    CallsIn Fence.wide nn Try.prog 110 #[.func (.yield l) #[] #[], .pointer (some ⟨bq, 0, none⟩), .pointer (some ⟨bi, 0, none⟩)] w fun e W' => (∃ v, e = .returned v) ∧ ∃ xs, (xs = takeDue now L ∧ QS B W ld dr bq bi bn now a c (L.drop xs.length) W') ∧ J xs W' := by
  have HQ := Lib.hid hQ
  have HJ := Lib.hid hJ
  have HY := Lib.hid hY
  have h0 := Lib.hid h0
  clear hQ hJ hY
  refine callsIn_of_wp Try.func110 rfl trivial ?_ rfl
  simp only [Try.ntmps110, List.size_toArray, List.length_cons, List.length_nil, Nat.reduceAdd, Nat.reduceSub, Array.replicate_succ, Array.replicate_zero, List.push_toArray, List.append_toArray, List.nil_append, List.cons_append]
  gi_wp2
  gi_loopw [4] (fun _ wr => ∃ pre rest : List Wl, Hid (L = pre ++ rest) ∧ Hid (∀ x ∈ pre, x.d ≤ now) ∧ Hid (J pre wr) ∧ Hid (QS B W ld dr bq bi bn now a c rest wr)) (fun _ wr => qLen W wr)
  case atStart => exact ⟨[], L, rfl, fun x hx => absurd hx (by simp), h0, HQ⟩
  case round =>
    obtain ⟨pre, rest, HE, HD, HJ0, HQ0⟩ := hrel
    cases rest with
    | nil =>
      have L0 := fun z : Lies wr => lies_cell HQ0.out.q z
      have L1 := fun z : Lies wr => lies_cell ((cell_of_block HQ0.out.wire).trans rfl : wr.cell? ⟨W, 0, none⟩ = some (.slice a 0 c)) z
      refine wpIn_wide.2 ?_
      go_upto_region 0 with fail
      refine region_lies (by rfl) (by decide +kernel) ?_
      repeat (go_big_quiet_step (fail))
      refine wpQuiet_nil ?_
      intro _ hw'
      obtain ⟨z, rfl⟩ := hw'
      have HZ := Lib.hid (show Below wr.heap.size wr z.1 from z.2)
      clear L0 L1
      generalize z.1 = wz at *
      clear z
      have hfin : ∃ xs, (xs = takeDue now L ∧ QS B W ld dr bq bi bn now a c (L.drop xs.length) wz) ∧ J xs wz := by
        have he : L = pre := by rw [HE.out, List.append_nil]
        subst he
        exact ⟨L, ⟨by have := takeDue_at (now := now) (pre := L) (rest := []) HD.out (fun y t e => by cases e); rw [List.append_nil] at this; exact this.symm, by rw [List.drop_eq_nil_of_le (Nat.le_refl _)]; exact HQ0.out.below HZ.out⟩, HJ.out _ _ _ HJ0.out ⟨Keep.of_below HZ.out, HQ0.out.isCells⟩⟩
      have HFIN := Lib.hid hfin
      clear hfin
      go_wp2_with fail
      exact bodyPost_end (v := .tuple #[]) (results_none rfl _ _ _) rfl ⟨⟨_, rfl⟩, HFIN.out⟩
    | cons y rest =>
      obtain ⟨g, rfl, y0, y1, y2, y3⟩ := HQ0.out.head
      have L0 := fun z : Lies wr => lies_cell HQ0.out.q z
      have L1 := fun z : Lies wr => lies_cell ((cell_of_block HQ0.out.wire).trans rfl : wr.cell? ⟨W, 0, none⟩ = some (.slice (some ⟨g, 0, none⟩) (rest.length + 1) c)) z
      have L2 := fun z : Lies wr => lies_cell HQ0.out.i z
      have L3 := fun z : Lies wr => lies_cell y0 z
      have L4 := fun z : Lies wr => lies_cell y1 z
      have L5 := fun z : Lies wr => lies_cell y2 z
      have L6 := fun z : Lies wr => lies_cell y3 z
      have H74 := Lib.hid fun z : Lies wr => isDue_any y (lies_cell HQ0.out.n z)
      refine wpIn_wide.2 ?_
      go_upto_region 0 with fail
      refine region_lies (by rfl) (by decide +kernel) ?_
      repeat (go_big_quiet_step ((go_at_call 74; exact Lies.call (H74.out _))))
      refine wpQuiet_nil ?_
      intro _ hw'
      obtain ⟨z, rfl⟩ := hw'
      have hz : Below wr.heap.size wr z.1 := z.2
      clear L0 L1 L2 L3 L4 L5 L6 H74
      generalize z.1 = wz at *
      clear z
      have hQz := HQ0.out.below hz
      have hsq : Sq W (some ⟨g, 0, none⟩) wr wz := ⟨Keep.of_below hz, HQ0.out.isCells⟩
      by_cases hd : y.d ≤ now
      · have d1 : decide (y.d ≤ now) = true := decide_eq_true hd
        have HD1 := Lib.hid hd
        have q0 := hQz.q
        have q1 : wz.cell? ⟨W, 0, none⟩ = some (.slice (some ⟨g, 0, none⟩) (rest.length + 1) c) := (cell_of_block hQz.wire).trans rfl
        have z0 := (hz.cell (block_lt_of_cell y0)).trans y0
        have z1 := (hz.cell (block_lt_of_cell y1)).trans y1
        have z2 := (hz.cell (block_lt_of_cell y2)).trans y2
        have z3 := (hz.cell (block_lt_of_cell y3)).trans y3
        have HQZ := Lib.hid hQz
        have HSQ := Lib.hid hsq
        clear hd y0 y1 y2 y3 hz hQz hsq
        rw [d1]
        clear d1
        go_wp2_with fail
        have hQ5 := HQZ.out.below (show Below wz.heap.size wz (wz.alloc (.cells #[.int .i64 y.d, .int .i64 y.q, .slice y.a y.n y.c, .int .i64 y.t] 139)) from (Below.refl _ _).alloc (Nat.le_refl _) _)
        have hn5 : (wz.alloc (.cells #[.int .i64 y.d, .int .i64 y.q, .slice y.a y.n y.c, .int .i64 y.t] 139)).heap[wz.heap.size]? = some (.cells #[.int .i64 y.d, .int .i64 y.q, .slice y.a y.n y.c, .int .i64 y.t] 139 (0, 0)) := heap_alloc_new _ _
        have hS5 : Below wz.heap.size wz (wz.alloc (.cells #[.int .i64 y.d, .int .i64 y.q, .slice y.a y.n y.c, .int .i64 y.t] 139)) := (Below.refl _ _).alloc (Nat.le_refl _) _
        generalize wz.alloc (.cells #[.int .i64 y.d, .int .i64 y.q, .slice y.a y.n y.c, .int .i64 y.t] 139) = W5 at *
        have hi5 : TakS bq W (.slice (some ⟨g, 0, none⟩) (rest.length + 1) c) W5 := ⟨hQ5.q, (cell_of_block hQ5.wire).trans rfl⟩
        haveI : Nonempty (Such (TakS bq W (.slice (some ⟨g, 0, none⟩) (rest.length + 1) c))) := ⟨⟨W5, hi5⟩⟩
        haveI : Inhabited (Such (TakS bq W (.slice (some ⟨g, 0, none⟩) (rest.length + 1) c))) := ⟨⟨W5, hi5⟩⟩
        have Z0 : ∀ z : Such (TakS bq W (.slice (some ⟨g, 0, none⟩) (rest.length + 1) c)), z.1.cell? ⟨bq, 0, none⟩ = some (.pointer (some ⟨W, 0, none⟩)) := fun z => z.2.1
        have Z1 : ∀ z : Such (TakS bq W (.slice (some ⟨g, 0, none⟩) (rest.length + 1) c)), z.1.cell? ⟨W, 0, none⟩ = some (.slice (some ⟨g, 0, none⟩) (rest.length + 1) c) := fun z => z.2.2
        have HDEL := Lib.hid (delete_any (w := W5.drew) (show W5.drew.ownsRow B 139 4 (.slice (some ⟨g, 0, none⟩) (rest.length + 1) c) (rest.length + 1) (wcs (y :: rest)) from hQ5.row))
        have HQ5 := Lib.hid hQ5
        have HI5 := Lib.hid hi5
        have HN5 := Lib.hid hn5
        have HS5 := Lib.hid hS5
        clear q0 q1 z0 z1 z2 z3 hQ5 hi5 hn5 hS5
        refine region_lsch (fun w' => ∃ z : Such (TakS bq W (.slice (some ⟨g, 0, none⟩) (rest.length + 1) c)), w' = z.1) 6 [([0, 1, 2, 3, 4], 5)] (by rfl) (by decide +kernel) ⟨⟨W5.drew, HI5.out⟩, rfl⟩ ?_
        unfold lschP
        simp only [pickL, List.filterMap_cons, List.filterMap_nil, List.getElem?_toArray, List.getElem?_cons_zero, List.getElem?_cons_succ]
        show wpQuiet _ _ _ _ [_, _, _, _, _] _
        repeat (go_big_quiet_step (fail))
        refine wpQuiet_nil ?_
        refine mvP_call (f := 111) (args := #[.slice (some ⟨g, 0, none⟩) (rest.length + 1) c, .int .i64 0, .int .i64 1]) (w' := W5.drew) (some 32) rfl rfl rfl (by go_simp) (HDEL.out.mono ?_)
        rintro e w7 ⟨rfl, hg7, hs7, ho7⟩
        rw [Nat.add_sub_cancel] at ho7
        have h7 := HQ5.out.took hg7 hs7 ho7
        have HT := Lib.hid h7
        refine ⟨_, rfl, ⟨⟨w7, h7.1⟩, rfl⟩, ?_⟩
        simp only [Act.put, List.setIfInBounds_toArray, List.set_cons_succ, List.set_cons_zero, Nat.add_sub_cancel]
        unfold lschP
        simp only [List.drop_succ_cons, List.drop_zero]
        have hc7 : w7.cell? ⟨W, 0, none⟩ = some (.slice (some ⟨g, 0, none⟩) (rest.length + 1) c) := h7.1.2
        have hf7 : w7.frozen? ⟨W, 0, none⟩ = false := h7.2.1
        clear hg7 hs7 ho7 h7
        go_upto_region 3 with fail
        generalize w7.setCell ⟨W, 0, none⟩ (.slice (some ⟨g, 0, none⟩) rest.length c) = w8 at *
        obtain ⟨_, _, hQ8, hS8, hk8⟩ := HT.out
        have hWz : W < wz.heap.size := lt_of_block HQZ.out.wire
        have hOz : oB (some (⟨g, 0, none⟩ : Addr)) ≠ some wz.heap.size := fun e => by
          have := (own_lt3 HQZ.out.row (by rw [own_oB]; exact e)).2
          omega
        have hb8 := (hk8 wz.heap.size (lt_of_block HN5.out) (by omega) hOz).trans HN5.out
        have b0 : w8.cell? ⟨wz.heap.size, 0, none⟩ = some (.int .i64 y.d) := (cell_of_block hb8).trans rfl
        have b1 : w8.cell? ⟨wz.heap.size, 1, none⟩ = some (.int .i64 y.q) := (cell_of_block hb8).trans rfl
        have b2 : w8.cell? ⟨wz.heap.size, 2, none⟩ = some (.slice y.a y.n y.c) := (cell_of_block hb8).trans rfl
        have b3 : w8.cell? ⟨wz.heap.size, 3, none⟩ = some (.int .i64 y.t) := (cell_of_block hb8).trans rfl
        have hsq8 : Sq W (some ⟨g, 0, none⟩) wr w8 := ⟨HSQ.out.1.trans (Nxt.refl _ _) ((Keep.of_below HS5.out).trans (Nxt.refl _ _) hS8.1), HSQ.out.2⟩
        have hJ8 := HJ.out _ _ _ HJ0.out hsq8
        have hlt : pre.length < L.length := by rw [HE.out]; simp
        obtain ⟨fn, tmps, assign, body, hy, hR⟩ := HY.out _ y w8 hJ8 hlt
        unfold Wl.v landV at hy
        have HQ8 := Lib.hid hQ8
        have HQL := Lib.hid (qLen_eq HQ0.out.wire)
        clear hQ8 hS8 hk8 hb8 hsq8 hJ8 hlt HT HDEL HQ5 HI5 HN5 HS5 HQZ HSQ hc7 hf7
        refine (wpIn_wide (n := nn)).1 ?_
        gi_wp2
        refine hR.mono ?_
        rintro e w9 ⟨rfl, hJ9, hk9⟩
        have HQ9 := Lib.hid (HQ8.out.kq hk9)
        have HJ9 := Lib.hid hJ9
        clear hJ9 hk9 hR hy b0 b1 b2 b3
        gi_wp2
        go_wp2_with fail
        go_roundw
        case rel => exact ⟨pre ++ [y], rest, Lib.hid (by rw [HE.out]; simp), Lib.hid (fun x hx => by
          rcases List.mem_append.1 hx with hx | hx
          · exact HD.out x hx
          · rw [List.mem_singleton.1 hx]; exact HD1.out), HJ9, HQ9⟩
        case measure => rw [qLen_eq HQ9.out.wire, HQL.out]; simp
      · have d1 : decide (y.d ≤ now) = false := decide_eq_false hd
        rw [d1]
        clear d1
        have hfin : ∃ xs, (xs = takeDue now L ∧ QS B W ld dr bq bi bn now (some ⟨g, 0, none⟩) c (L.drop xs.length) wz) ∧ J xs wz :=
          ⟨pre, ⟨by rw [HE.out]; exact (takeDue_at HD.out (fun y' t e => by injection e with e1 _; subst e1; exact hd)).symm, by rw [HE.out, List.drop_left]; exact hQz⟩, HJ.out _ _ _ HJ0.out hsq⟩
        have HFIN := Lib.hid hfin
        clear hfin hd hz hQz hsq y0 y1 y2 y3
        go_wp2_with fail
        exact bodyPost_end (v := .tuple #[]) (results_none rfl _ _ _) rfl ⟨⟨_, rfl⟩, HFIN.out⟩
end Go.Proofs.Ytfojhmobnedekaa
