/- The walk of the law WireOnce, its parts: what was sent, in order of sending; the rows that the law fills. Conditions: lists are short. -/
import Derived.Test.YtfojhmobnedekaaWire14
import Derived.Test.YtfojhmobnedekaaWire15
namespace Go.Proofs.Ytfojhmobnedekaa
open Go.RowKit

/-- What lands of a deed, in order of sending. -/
def Dd.new (x : Dd) : List Zl := if x.goes then x.L.map fun y => ⟨y.1, y.2.1, x.tt, y.2.2⟩ else []
theorem sendZ_ord (t : Int) : ∀ (L : List (Int × Int × List Nat)) (zs : List Zl), sendZ t L (ordZ zs) = ordZ (zs ++ L.map fun y => ⟨y.1, y.2.1, t, y.2.2⟩)
  | [], zs => by simp [sendZ]
  | y :: L, zs => by
    show sendZ t L (insZ ⟨y.1, y.2.1, t, y.2.2⟩ (ordZ zs)) = _
    rw [← ordZ_snoc, sendZ_ord t L]
    simp
theorem Dd.put_ord (x : Dd) (zs : List Zl) : x.put (ordZ zs) = ordZ (zs ++ x.new) := by
  unfold Dd.put Dd.new
  by_cases h : x.goes
  · rw [if_pos h, if_pos h, sendZ_ord]
  · rw [if_neg h, if_neg h, List.append_nil]
theorem Dd.ld_new (x : Dd) (n : Int) : x.ld n = n + (x.new.length : Nat) := by
  unfold Dd.ld Dd.new
  by_cases h : x.goes
  · rw [if_pos h, if_pos h, List.length_map]
  · rw [if_neg h, if_neg h]; simp
theorem Dd.new_goes {x : Dd} (h : x.goes) : x.new = x.L.map fun y => ⟨y.1, y.2.1, x.tt, y.2.2⟩ := by unfold Dd.new; rw [if_pos h]
theorem Dd.new_not {x : Dd} (h : ¬ x.goes) : x.new = [] := by unfold Dd.new; rw [if_neg h]
theorem ordZ_len (zs : List Zl) : (ordZ zs).length = zs.length := by
  suffices ∀ s, (zs.foldl (fun s x => insZ x s) s).length = s.length + zs.length by simpa [ordZ] using this []
  induction zs with
  | nil => intro s; simp
  | cons x zs ih =>
    intro s
    have hi : ∀ l : List Zl, (insZ x l).length = l.length + 1 := by
      intro l
      induction l with
      | nil => rfl
      | cons z l ih => unfold insZ; split <;> simp [ih]
    rw [List.foldl_cons, ih, hi, List.length_cons]; omega
theorem mem_ordZ {z : Zl} {zs : List Zl} : z ∈ ordZ zs ↔ z ∈ zs := by
  suffices ∀ s, z ∈ zs.foldl (fun s x => insZ x s) s ↔ z ∈ s ∨ z ∈ zs by simpa [ordZ] using this []
  induction zs with
  | nil => intro s; simp
  | cons x zs ih =>
    intro s
    rw [List.foldl_cons, ih, mem_insZ]
    simp [or_assoc, or_comm, or_left_comm]
theorem landsOf_pos {k b al pl now : Int} {l : List Nat} (h : RightF k b al pl) (hn : 0 ≤ now) : ∀ x ∈ landsOf k b al pl now l, 0 ≤ x.1 := by
  intro x hx
  obtain ⟨hk, hb, ha, hp⟩ := h
  unfold landsOf at hx
  split at hx
  · rw [List.mem_singleton.1 hx]; show 0 ≤ now + b; omega
  · split at hx
    · simp at hx
      rcases hx with rfl | rfl
      · show 0 ≤ now + b; omega
      · show 0 ≤ now + al; omega
    · split at hx
      · rw [List.mem_singleton.1 hx]; show 0 ≤ now + b; omega
      · simp at hx
theorem own_unl {w w' : World} {B e size n : Nat} {u v : Value} {xs : List Value} (ho : w.ownsRow B e size v n xs) (hg : w.grownBy w' u.ownBlock) (hu : Unl v u) : w'.ownsRow B e size v n xs := by
  obtain ⟨q1, q2⟩ := ho
  refine ⟨q1, ?_⟩
  rcases q2 with q2 | ⟨g, cap, cur, rfl, hb, hh, hn⟩
  · exact .inl q2
  · exact .inr ⟨g, cap, cur, rfl, hb, (hg.block g (lt_of_block hh) (fun e => hu g rfl e.symm)).trans hh, hn⟩
/-- Within a deed: its landings go over to the law's rows. -/
structure InI (w0 : World) (W : Nat) (zs : List Zl) (ld dr : Int) (v vl : Value) (ls : List Ld) (bx : Nat) (x : Dd) (pF : List (Ld × Int)) (va vt : Value) (p1 p2 : List (Ld × Int)) (w : World) : Prop where
  pw : PW (W + 1) W zs ld dr v w
  row : w.ownsRow w0.heap.size 39 3 va p1.length ((p1.map (·.1)).flatMap Ld.cells)
  tos : w.ownsRow w0.heap.size 61 1 vt p2.length (p2.map fun p => Value.int .i64 p.2)
  own : ∀ p ∈ pF, w.ownsRow w0.heap.size 5 1 p.1.r.v p.1.r.n (bs p.1.r.l)
  list : w.ownsRow w0.heap.size 39 3 vl ls.length (ls.flatMap Ld.cells)
  un : Unl vl va
  box : BoxD bx x w
  low : Below w0.heap.size w0 w
theorem InI.below {w0 : World} {W : Nat} {zs : List Zl} {ld dr : Int} {v vl : Value} {ls : List Ld} {bx : Nat} {x : Dd} {pF : List (Ld × Int)} {va vt : Value} {p1 p2 : List (Ld × Int)} {w w' : World} (h : InI w0 W zs ld dr v vl ls bx x pF va vt p1 p2 w) (hB : Below w.heap.size w w') : InI w0 W zs ld dr v vl ls bx x pF va vt p1 p2 w' :=
  ⟨h.pw.below hB, own_frame3 h.row fun g _ hg => hB.block g hg, own_frame3 h.tos fun g _ hg => hB.block g hg, fun p hp => own_frame3 (h.own p hp) fun g _ hg => hB.block g hg, own_frame3 h.list fun g _ hg => hB.block g hg, h.un, (hB.block bx (lt_of_block h.box)).trans h.box, h.low.trans (hB.mono h.low.size)⟩
theorem InI.app1 {w0 : World} {W : Nat} {zs : List Zl} {ld dr : Int} {v vl : Value} {ls : List Ld} {bx : Nat} {x : Dd} {pF : List (Ld × Int)} {va vt va' : Value} {p1 p2 p1' : List (Ld × Int)} {w w' : World} (h : InI w0 W zs ld dr v vl ls bx x pF va vt p1 p2 w)
    (ho : w'.ownsRow w0.heap.size 39 3 va' p1'.length ((p1'.map (·.1)).flatMap Ld.cells)) (hg : w.grownBy w' va.ownBlock) (hn : ∀ g, va'.ownBlock = some g → va.ownBlock = some g ∨ g = w.heap.size) : InI w0 W zs ld dr v vl ls bx x pF va' vt p1' p2 w' :=
  ⟨h.pw.grown h.row hg (by decide) (by decide) (by decide), ho, own_grown h.row hg h.tos (by decide), fun p hp => own_grown h.row hg (h.own p hp) (by decide), own_unl h.list hg h.un, fun g e1 e2 => by
    rcases hn g e2 with e | e
    · exact h.un g e1 e
    · have := (own_lt3 h.list e1).2; omega, (hg.block bx (lt_of_block h.box) (fun e => own_ne_type h.row h.box (by decide) e.symm)).trans h.box, h.low.grown hg h.low.size (fun g e => (own_lt3 h.row e).1)⟩
theorem InI.app2 {w0 : World} {W : Nat} {zs : List Zl} {ld dr : Int} {v vl : Value} {ls : List Ld} {bx : Nat} {x : Dd} {pF : List (Ld × Int)} {va vt vt' : Value} {p1 p2 p2' : List (Ld × Int)} {w w' : World} (h : InI w0 W zs ld dr v vl ls bx x pF va vt p1 p2 w)
    (ho : w'.ownsRow w0.heap.size 61 1 vt' p2'.length (p2'.map fun p => Value.int .i64 p.2)) (hg : w.grownBy w' vt.ownBlock) : InI w0 W zs ld dr v vl ls bx x pF va vt' p1 p2' w' :=
  ⟨h.pw.grown h.tos hg (by decide) (by decide) (by decide), own_grown h.tos hg h.row (by decide), ho, fun p hp => own_grown h.tos hg (h.own p hp) (by decide), own_grown h.tos hg h.list (by decide), h.un, (hg.block bx (lt_of_block h.box) (fun e => own_ne_type h.tos h.box (by decide) e.symm)).trans h.box, h.low.grown hg h.low.size (fun g e => (own_lt3 h.tos e).1)⟩
theorem InI.cells {w0 : World} {W : Nat} {zs : List Zl} {ld dr : Int} {v : Value} {la : Option Addr} {lc n : Nat} {ls : List Ld} {bx : Nat} {x : Dd} {pF : List (Ld × Int)} {va vt : Value} {p1 p2 : List (Ld × Int)} {w : World} (h : InI w0 W zs ld dr v (.slice la n lc) ls bx x pF va vt p1 p2 w) {i : Nat} {y : Ld} (hi : ls[i]? = some y) :
    ∃ g, la = some ⟨g, 0, none⟩ ∧ w.cell? ⟨g, i * 3, none⟩ = some (.int .i64 y.due) ∧ w.cell? ⟨g, i * 3 + 1, none⟩ = some (.int .i64 y.place) ∧ w.cell? ⟨g, i * 3 + 2, none⟩ = some (.slice y.r.a y.r.n y.r.c) := by
  obtain ⟨hil, rfl⟩ := List.getElem?_eq_some_iff.1 hi
  rcases h.list.2 with ⟨_, h0⟩ | ⟨g, cap, cur, e, _⟩
  · omega
  · injection e with e1 _ _
    subst e1
    have hc := fun q (hq : q < 3) u (hu : (ls[i]).cells[q]? = some u) => h.list.cells (g := g) rfl (i * 3 + q) u ((cells_at ls i q hil hq).trans hu)
    have e0 := hc 0 (by omega) _ rfl
    have e1 := hc 1 (by omega) _ rfl
    have e2 := hc 2 (by omega) _ rfl
    rw [Addr.add_lit] at e0 e1 e2
    exact ⟨g, rfl, by simpa using e0, by simpa using e1, by simpa [R1.v] using e2⟩
/-- Between the deeds. -/
structure OnceI (w0 : World) (W K : Nat) (ps : List (Ld × Int)) (dr : Int) (v va vt : Value) (w : World) : Prop where
  pw : PW (W + 1) W (ordZ (ps.map zOf)) ps.length dr v w
  row : AllO w0.heap.size va vt ps w
  pos : ∀ p ∈ ps, 0 ≤ p.1.due
  len : ps.length ≤ 2 * K
  dra : 0 ≤ dr ∧ dr ≤ K
  low : Below w0.heap.size w0 w
  sa : w0.heap.size ≤ W
theorem info61 : (Try.prog.info? 61).map (fun i => (i.zero, i.size, i.bytes)) = some (some (.int .i64 0), 1, 8) := by kernel_rfl
theorem info4b : (Try.prog.info? 4).map (fun i => (i.zero, i.size, i.bytes)) = some (some (.bool false), 1, 1) := by kernel_rfl
theorem due_mem {now : Int} {x : Zl} : ∀ {l : List Zl}, x ∈ dueZ now l → x.d ≤ now
  | [], h => by cases h
  | y :: l, h => by
    by_cases hy : y.d ≤ now
    · rw [show dueZ now (y :: l) = y :: dueZ now l from by unfold dueZ; rw [List.takeWhile_cons, if_pos (decide_eq_true hy)]] at h
      rcases List.mem_cons.1 h with rfl | h
      · exact hy
      · exact due_mem h
    · rw [show dueZ now (y :: l) = [] from by unfold dueZ; rw [List.takeWhile_cons, if_neg (fun e => hy (of_decide_eq_true e))]] at h
      cases h
theorem due_rest (now : Int) : ∀ l : List Zl, match (l.drop (dueZ now l).length) with
    | [] => True
    | y :: _ => ¬ y.d ≤ now
  | [] => trivial
  | x :: l => by
    by_cases hx : x.d ≤ now
    · have e : dueZ now (x :: l) = x :: dueZ now l := by unfold dueZ; rw [List.takeWhile_cons, if_pos (decide_eq_true hx)]
      rw [e]; exact due_rest now l
    · have e : dueZ now (x :: l) = [] := by unfold dueZ; rw [List.takeWhile_cons, if_neg (fun h => hx (of_decide_eq_true h))]
      rw [e]; exact hx
theorem due_none (now : Int) (l : List Zl) : dueZ now (l.drop (dueZ now l).length) = [] := by
  have h := due_rest now l
  cases hd : l.drop (dueZ now l).length with
  | nil => rfl
  | cons y t =>
    rw [hd] at h
    unfold dueZ; rw [List.takeWhile_cons, if_neg (fun e => h (of_decide_eq_true e))]
/-- What next tells in a round. -/
theorem once_step {zs : List Zl} {g : Nat → Bool} {q : Nat} {now : Int} (h : ordZ (remTo zs g zs.length) = (ordZ zs).drop q) (hq : q < (dueZ now (ordZ zs)).length) :
    ∃ b, nextTo zs g zs.length = some b ∧ b < zs.length ∧ (dueZ now (ordZ zs))[q]? = some (zs.getD b default) ∧ (zs.getD b default).d ≤ now ∧ ordZ (remTo zs (updG g b) zs.length) = (ordZ zs).drop (q + 1) ∧ (ordZ zs)[q]? = some (zs.getD b default) := by
  have hn := next_rest zs g zs.length
  have hp := List.takeWhile_prefix (l := ordZ zs) (fun x : Zl => decide (x.d ≤ now))
  have hle : (dueZ now (ordZ zs)).length ≤ (ordZ zs).length := hp.length_le
  have hqe : (dueZ now (ordZ zs))[q]? = (ordZ zs)[q]? := by
    conv => lhs; rw [dueZ_take]
    rw [List.getElem?_take, if_pos hq]
  cases hb : nextTo zs g zs.length with
  | none =>
    rw [hb] at hn
    have hn : remTo zs g zs.length = [] := hn
    rw [hn] at h
    have := congrArg List.length h
    rw [List.length_drop] at this
    have : (ordZ ([] : List Zl)).length = 0 := rfl
    omega
  | some b =>
    rw [hb] at hn
    obtain ⟨h1, _, h3⟩ := hn
    rw [h3] at h
    have hz : (ordZ zs)[q]? = some (zs.getD b default) := by
      have := congrArg (fun l => l[0]?) h
      simp only [List.getElem?_cons_zero, List.getElem?_drop, Nat.add_zero] at this
      exact this.symm
    refine ⟨b, rfl, h1, hqe.trans hz, due_mem (List.mem_of_getElem? (hqe.trans hz)), ?_, hz⟩
    have := congrArg List.tail h
    rw [List.tail_cons, List.tail_drop] at this
    exact this
theorem once_end {zs : List Zl} {g : Nat → Bool} {now : Int} (h : ordZ (remTo zs g zs.length) = (ordZ zs).drop (dueZ now (ordZ zs)).length) : match nextTo zs g zs.length with
    | none => True
    | some b => b < zs.length ∧ now < (zs.getD b default).d := by
  have hn := next_rest zs g zs.length
  have hr := due_rest now (ordZ zs)
  cases hb : nextTo zs g zs.length with
  | none => trivial
  | some b =>
    rw [hb] at hn
    obtain ⟨h1, _, h3⟩ := hn
    rw [← h, h3] at hr
    exact ⟨h1, by omega⟩
theorem AllO.below {B : Nat} {va vt : Value} {ps : List (Ld × Int)} {w w' : World} (h : AllO B va vt ps w) (hB : Below w.heap.size w w') : AllO B va vt ps w' :=
  ⟨own_frame3 h.row fun g _ hg => hB.block g hg, own_frame3 h.tos fun g _ hg => hB.block g hg, fun p hp => own_frame3 (h.own p hp) fun g _ hg => hB.block g hg⟩
theorem AllO.to_ {B n c : Nat} {va : Value} {a : Option Addr} {ps : List (Ld × Int)} {w : World} (h : AllO B va (.slice a n c) ps w) {k : Nat} {p : Ld × Int} (hk : ps[k]? = some p) : ∃ g, a = some ⟨g, 0, none⟩ ∧ w.cell? ⟨g, k, none⟩ = some (.int .i64 p.2) := by
  obtain ⟨hk1, rfl⟩ := List.getElem?_eq_some_iff.1 hk
  rcases h.tos.2 with ⟨_, h0⟩ | ⟨g, cap, cur, e, _⟩
  · omega
  · injection e with e1 _ _
    subst e1
    have := h.tos.cells (g := g) rfl k (.int .i64 (ps[k]).2) (by rw [List.getElem?_map, hk]; rfl)
    rw [Addr.add_lit, Nat.zero_add] at this
    exact ⟨g, rfl, this⟩
theorem gone_set {B G n c b : Nat} {g : Nat → Bool} {w : World} (h : GoneO B (.slice (some ⟨G, 0, none⟩) n c) n g w) : GoneO B (.slice (some ⟨G, 0, none⟩) n c) n (updG g b) (w.setCell ⟨G, b, none⟩ (.bool true)) := by
  obtain ⟨h1, h2⟩ := h
  rcases h2 with ⟨h2, _⟩ | ⟨g', cap, cur, e, hg, hh, hn2, hc, hsz, ht⟩
  · cases h2
  · injection e with e1 e2 e3
    injection e1 with e1
    injection e1 with e1 _ _
    subst e1; subst e3
    refine ⟨by simp, .inr ⟨G, c, cur.setIfInBounds b (.bool true), rfl, hg, heap_setCell_same w G b cur 4 _ hh, hn2, hc, by simpa using hsz, ?_⟩⟩
    rw [Nat.mul_one] at ht ⊢
    rw [Array.toList_setIfInBounds, List.take_set, ht]
    apply List.ext_getElem
    · simp
    · intro i h1 h2
      simp only [List.getElem_set, List.getElem_map, List.getElem_range, updG]
      by_cases e : b = i
      · rw [if_pos e, if_pos e.symm]
      · rw [if_neg e, if_neg (fun e2 => e e2.symm)]
theorem gone_cell {B G n c b : Nat} {g : Nat → Bool} {w : World} (h : GoneO B (.slice (some ⟨G, 0, none⟩) n c) n g w) (hb : b < n) : (∃ v, w.cell? ⟨G, b, none⟩ = some v) ∧ w.frozen? ⟨G, b, none⟩ = false := by
  obtain ⟨g', e, hc⟩ := h.cell hb
  injection e with e
  injection e with e _ _
  subst e
  refine ⟨⟨_, hc⟩, ?_⟩
  rcases h.2 with ⟨h2, _⟩ | ⟨g', cap, cur, e, hg, hh, _⟩
  · cases h2
  · injection e with e1 e2 e3
    injection e1 with e1
    injection e1 with e1 _ _
    subst e1
    exact frozen_of_block hh
/-- A row of falsehoods, just made. -/
theorem gone_new {B G n : Nat} {w : World} (h : w.ownsRow B 4 1 (.slice (some ⟨G, 0, none⟩) n n) n (madeCells #[Value.bool false] n).toList) : GoneO B (.slice (some ⟨G, 0, none⟩) n n) n (fun _ => false) w := by
  unfold GoneO
  rw [toList_madeCells_one] at h
  have e : (List.range n).map (fun _ => Value.bool false) = List.replicate n (Value.bool false) := by
    apply List.ext_getElem
    · simp
    · intro i h1 h2; simp
  rw [e]; exact h
theorem srt_last {zs : List Zl} {q : Nat} {x y : Zl} (h : SrtZ zs) (hx : zs[q]? = some x) (hy : zs[q + 1]? = some y) : x.d ≤ y.d := by
  obtain ⟨h1, rfl⟩ := List.getElem?_eq_some_iff.1 hx
  obtain ⟨h2, rfl⟩ := List.getElem?_eq_some_iff.1 hy
  have := List.pairwise_iff_getElem.1 h q (q + 1) h1 h2 (Nat.lt_succ_self q)
  rw [Zl.le_iff] at this
  omega
end Go.Proofs.Ytfojhmobnedekaa
