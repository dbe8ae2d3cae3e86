/- The walk of the closed law PolyEnds. -/
import Derived.Test.YtokeoodkioobdaaPoly19
import Derived.Deep.RegionHeld3
import Derived.Deep.DeepCutAuto
namespace Go.Proofs.Ytokeoodkioobdaa
open Go.RowKit

theorem pdoes_any {w : World} {a b : Option Addr} {n m c d t : Nat} {x y : List Nat} (ht : t < 256) (hx : RB w a n c x) (hy : RB w b m d y) :
    Calls Try.prog 12 #[.slice a n c, .slice b m d, .int .u8 (t : Nat)] w fun e w' => e = .returned (.bool true) ∧ Below w.heap.size w w' := by
  by_cases h : 700 < n + m
  · exact does_great hx hy h
  · exact does_small ht hx hy (by omega)
theorem pthrough_any {w : World} {a b : Option Addr} {n m c d : Nat} {x y : List Nat} (hx : RB w a n c x) (hy : RB w b m d y) :
    Calls Try.prog 8 #[.slice a n c, .slice b m d] w fun e w' => e = .returned (.bool true) ∧ Below w.heap.size w w' := by
  by_cases h : 80 < n + m
  · exact through_great hx hy h
  · exact through_small hx hy (by omega)

/-- A list of rows that can be read. -/
def Tbl (Lb N : Nat) (w : World) : Prop := ∀ i, i < N → ∃ a n c x, w.cell? ⟨Lb, i, none⟩ = some (.slice a n c) ∧ RB w a n c x
theorem Tbl.below {Lb N : Nat} {w w' : World} (h : Tbl Lb N w) (hB : Below w.heap.size w w') : Tbl Lb N w' := fun i hi => by
  obtain ⟨a, n, c, x, hc, hr⟩ := h i hi
  exact ⟨a, n, c, x, (hB.cell (block_lt_of_cell hc)).trans hc, hr.below hB⟩
/-- What is kept in a round over two rows. -/
structure EndSt (w0 : World) (Lb N : Nat) (a b : Option Addr) (n m c d : Nat) (x y : List Nat) (w : World) : Prop where
  tbl : Tbl Lb N w
  p : RB w a n c x
  q : RB w b m d y
  bel : Below w0.heap.size w0 w
theorem EndSt.below {w0 w w' : World} {Lb N : Nat} {a b : Option Addr} {n m c d : Nat} {x y : List Nat} (h : EndSt w0 Lb N a b n m c d x y w) (hB : Below w.heap.size w w') : EndSt w0 Lb N a b n m c d x y w' :=
  ⟨h.tbl.below hB, h.p.below hB, h.q.below hB, h.bel.trans (hB.mono h.bel.size)⟩


def allocs (w : World) : List Obj → World
  | [] => w
  | o :: r => allocs (w.alloc o) r
theorem allocs_below {w0 : World} : ∀ (os : List Obj) {w : World}, Below w0.heap.size w0 w → Below w0.heap.size w0 (allocs w os)
  | [], _, h => h
  | o :: r, _, h => allocs_below r (h.alloc h.size o)
theorem allocs_old : ∀ (os : List Obj) (w : World) (g : Nat), g < w.heap.size → (allocs w os).heap[g]? = w.heap[g]?
  | [], _, _, _ => rfl
  | o :: r, w, g, h => (allocs_old r (w.alloc o) g (by simp; omega)).trans (Below.heap_alloc w o g h)
theorem allocs_at : ∀ (w : World) (os : List Obj) (j : Nat), j < os.length → (allocs w os).heap[w.heap.size + j]? = os[j]?
  | w, o :: r, 0, _ => (allocs_old r (w.alloc o) w.heap.size (by simp)).trans (heap_alloc_new _ _)
  | w, o :: r, j + 1, h => by
    have := allocs_at (w.alloc o) r j (by simp at h; omega)
    rw [show (w.alloc o).heap.size + j = w.heap.size + (j + 1) by simp; omega] at this
    exact this
def endObjs (w : World) : List Obj := [.cells #[.int .u8 0] 5, .cells #[.int .u8 0, .int .u8 0, .int .u8 0] 5, .cells #[.int .u8 1] 5, .cells #[.int .u8 7] 5, .cells #[.int .u8 0, .int .u8 1] 5, .cells #[.int .u8 3, .int .u8 0] 5, .cells #[.int .u8 1, .int .u8 1, .int .u8 1] 5, .cells #[.int .u8 0, .int .u8 0, .int .u8 9, .int .u8 0] 5, .cells #[.int .u8 2, .int .u8 3, .int .u8 5, .int .u8 7, .int .u8 11, .int .u8 13] 5, .cells #[.int .u8 255, .int .u8 254, .int .u8 0, .int .u8 1] 5, .cells #[.slice none 0 0, .slice (some ⟨w.heap.size, 0, none⟩) 1 1, .slice (some ⟨w.heap.size + 1, 0, none⟩) 3 3, .slice (some ⟨w.heap.size + 1 + 1, 0, none⟩) 1 1, .slice (some ⟨w.heap.size + 1 + 1 + 1, 0, none⟩) 1 1, .slice (some ⟨w.heap.size + 1 + 1 + 1 + 1, 0, none⟩) 2 2, .slice (some ⟨w.heap.size + 1 + 1 + 1 + 1 + 1, 0, none⟩) 2 2, .slice (some ⟨w.heap.size + 1 + 1 + 1 + 1 + 1 + 1, 0, none⟩) 3 3, .slice (some ⟨w.heap.size + 1 + 1 + 1 + 1 + 1 + 1 + 1, 0, none⟩) 4 4, .slice (some ⟨w.heap.size + 1 + 1 + 1 + 1 + 1 + 1 + 1 + 1, 0, none⟩) 6 6, .slice (some ⟨w.heap.size + 1 + 1 + 1 + 1 + 1 + 1 + 1 + 1 + 1, 0, none⟩) 4 4] 31]
theorem end_tbl (w : World) : Tbl (w.heap.size + 10) 11 (allocs w (endObjs w)) := fun i hi => by
  have hT := allocs_at w (endObjs w) 10 (show 10 < 11 by decide)
  match i, hi with
  | 0, _ => exact ⟨none, 0, 0, [], (cell_of_block hT).trans rfl, rb_nil _⟩
  | 1, _ => exact ⟨some ⟨w.heap.size, 0, none⟩, 1, 1, [0], (cell_of_block hT).trans rfl, RB.of_block (l := [0]) (m := []) (allocs_at w (endObjs w) 0 (show 0 < 11 by decide)) (Small.of_mem (by decide)) (Nat.le_refl _) (by decide)⟩
  | 2, _ => exact ⟨some ⟨w.heap.size + 1, 0, none⟩, 3, 3, [0, 0, 0], (cell_of_block hT).trans rfl, RB.of_block (l := [0, 0, 0]) (m := []) (allocs_at w (endObjs w) 1 (show 1 < 11 by decide)) (Small.of_mem (by decide)) (Nat.le_refl _) (by decide)⟩
  | 3, _ => exact ⟨some ⟨w.heap.size + 1 + 1, 0, none⟩, 1, 1, [1], (cell_of_block hT).trans rfl, RB.of_block (l := [1]) (m := []) (allocs_at w (endObjs w) 2 (show 2 < 11 by decide)) (Small.of_mem (by decide)) (Nat.le_refl _) (by decide)⟩
  | 4, _ => exact ⟨some ⟨w.heap.size + 1 + 1 + 1, 0, none⟩, 1, 1, [7], (cell_of_block hT).trans rfl, RB.of_block (l := [7]) (m := []) (allocs_at w (endObjs w) 3 (show 3 < 11 by decide)) (Small.of_mem (by decide)) (Nat.le_refl _) (by decide)⟩
  | 5, _ => exact ⟨some ⟨w.heap.size + 1 + 1 + 1 + 1, 0, none⟩, 2, 2, [0, 1], (cell_of_block hT).trans rfl, RB.of_block (l := [0, 1]) (m := []) (allocs_at w (endObjs w) 4 (show 4 < 11 by decide)) (Small.of_mem (by decide)) (Nat.le_refl _) (by decide)⟩
  | 6, _ => exact ⟨some ⟨w.heap.size + 1 + 1 + 1 + 1 + 1, 0, none⟩, 2, 2, [3, 0], (cell_of_block hT).trans rfl, RB.of_block (l := [3, 0]) (m := []) (allocs_at w (endObjs w) 5 (show 5 < 11 by decide)) (Small.of_mem (by decide)) (Nat.le_refl _) (by decide)⟩
  | 7, _ => exact ⟨some ⟨w.heap.size + 1 + 1 + 1 + 1 + 1 + 1, 0, none⟩, 3, 3, [1, 1, 1], (cell_of_block hT).trans rfl, RB.of_block (l := [1, 1, 1]) (m := []) (allocs_at w (endObjs w) 6 (show 6 < 11 by decide)) (Small.of_mem (by decide)) (Nat.le_refl _) (by decide)⟩
  | 8, _ => exact ⟨some ⟨w.heap.size + 1 + 1 + 1 + 1 + 1 + 1 + 1, 0, none⟩, 4, 4, [0, 0, 9, 0], (cell_of_block hT).trans rfl, RB.of_block (l := [0, 0, 9, 0]) (m := []) (allocs_at w (endObjs w) 7 (show 7 < 11 by decide)) (Small.of_mem (by decide)) (Nat.le_refl _) (by decide)⟩
  | 9, _ => exact ⟨some ⟨w.heap.size + 1 + 1 + 1 + 1 + 1 + 1 + 1 + 1, 0, none⟩, 6, 6, [2, 3, 5, 7, 11, 13], (cell_of_block hT).trans rfl, RB.of_block (l := [2, 3, 5, 7, 11, 13]) (m := []) (allocs_at w (endObjs w) 8 (show 8 < 11 by decide)) (Small.of_mem (by decide)) (Nat.le_refl _) (by decide)⟩
  | 10, _ => exact ⟨some ⟨w.heap.size + 1 + 1 + 1 + 1 + 1 + 1 + 1 + 1 + 1, 0, none⟩, 4, 4, [255, 254, 0, 1], (cell_of_block hT).trans rfl, RB.of_block (l := [255, 254, 0, 1]) (m := []) (allocs_at w (endObjs w) 9 (show 9 < 11 by decide)) (Small.of_mem (by decide)) (Nat.le_refl _) (by decide)⟩

theorem wpList_taken {P : Program} {w : World} {ops : Array Oper} {rest : List Oper} {o : Oper} {a : Act} {Q : Exit → Act → World → Prop} (hg : Region.wanted o (yielded ops a.tmps) = true)
    (h : ∀ K : Act → World → Prop, (∀ a w, wpList P ops Q rest a w → K a w) → o.wp P a w K Q) : wpList P ops Q (o :: rest) a w :=
  wpList_step fun K hK => by rw [if_pos hg]; exact h K hK
/-- The append's law at a guarded operation. -/
theorem wpList_append_own3g {P : Program} (w : World) {ops : Array Oper} {rest : List Oper} {o : Oper} {a : Act} {Q : Exit → Act → World → Prop} (hgd : Region.wanted o (yielded ops a.tmps) = true) (s x : Operand) (t : TypeId)
    (ho : o.op = .call { callee := .builtin .append, args := #[s, x], argTypes := #[t, t] })
    (base : Nat) (e : TypeId) (i : TypeInfo) (z : Value) (bytes : Nat) (ht : P.underlying t = some (.slice e)) (hi : P.info? e = some i) (hz : i.zero = some z)
    (hsize : i.size = 1) (hby : i.bytes = bytes) (hzs : z.cells.size = 1)
    (v : Value) (n : Nat) (xs : List Value) (hs : a.eval s = v) (hown : w.ownsRow base e 1 v n xs)
    (ad : Addr) (m c : Nat) (news : List Value) (hx : a.eval x = .slice (some ad) m c) (hl : news.length = m * 1) (hnews : ∀ j u, news[j]? = some u → w.cell? (ad.add j) = some u) (h1 : ∀ u ∈ news, u.oneCell' = true)
    (h63 : n + m ≤ maxLen) (hbytes : (n + m) * bytes ≤ 140737488355328) (hbase : base ≤ w.heap.size)
    (h : ∀ v' w', w'.ownsRow base e 1 v' (n + m) (xs ++ news) → w.grownBy w' v.ownBlock → (∀ g, v'.ownBlock = some g → v.ownBlock = some g ∨ g = w.heap.size) → KeepRows w w' v n → wpList P ops Q rest (a.put o.dst v') w') : wpList P ops Q (o :: rest) a w := by
  refine wpList_taken hgd fun K hK => ?_
  obtain ⟨v', w', hr, h2, h3, h4, h5⟩ := run_append_own3 (P := P) w base t o.type e i z bytes ht hi hz hsize hby hzs v n xs hown ad m c news hl hnews h1 h63 hbytes hbase
  unfold Oper.wp execOp
  simp only [ho, resolve, invoke, builtin, Sem.run_bind, Sem.run_pure, Result.andThen_ok, List.map_toArray, List.map_cons, List.map_nil, hs, hx, hr]
  exact hK _ _ (h v' w' h2 h3 h4 h5)
theorem drop_cells {w : World} {B g n c : Nat} {l : List Nat} (h : w.ownsRow B 5 1 (.slice (some ⟨g, 0, none⟩) n c) n (bs l)) : ∀ j u, (bs (l.tail))[j]? = some u → w.cell? ((⟨g, 1, none⟩ : Addr).add j) = some u := by
  intro j u hu
  have e : (bs (l.tail))[j]? = (bs l)[1 + j]? := by unfold bs; rw [← List.drop_one, List.map_drop, List.getElem?_drop]
  rw [e] at hu
  have := h.cells (g := g) rfl (1 + j) u hu
  rw [Addr.add_lit] at this ⊢
  simpa using this
theorem own_empty (w : World) : (w.alloc (.cells #[] 5)).ownsRow w.heap.size 5 1 (.slice (some ⟨w.heap.size, 0, none⟩) 0 0) 0 [] :=
  ⟨rfl, .inr ⟨w.heap.size, 0, #[], rfl, Nat.le_refl _, heap_alloc_new _ _, Nat.le_refl _, by unfold maxLen; omega, rfl, rfl⟩⟩
theorem ends_three (w : World) : Calls Try.prog 8 #[.slice (some ⟨w.heap.size, 0, none⟩) 3 3, .slice (some ⟨w.heap.size + 1, 0, none⟩) 3 3] ((w.alloc (.cells #[.int .u8 0, .int .u8 1, .int .u8 0] 5)).alloc (.cells #[.int .u8 1, .int .u8 2, .int .u8 1] 5)) fun e w' => e = .returned (.bool true) ∧ Below w.heap.size w w' := by
  have h2 := three_rb (w.alloc (.cells #[.int .u8 0, .int .u8 1, .int .u8 0] 5)) 1 2 1 (by omega) (by omega) (by omega)
  simp only [World.size_alloc] at h2
  refine (pthrough_any ((three_rb w 0 1 0 (by omega) (by omega) (by omega)).alloc _) h2).mono ?_
  rintro e w' ⟨rfl, hB⟩
  exact ⟨rfl, (((Below.refl _ _).alloc (Nat.le_refl _) _).alloc (by simp) _).trans (hB.mono (by simp; omega))⟩
theorem cell_new2 (w : World) (u v : Value) : ∀ j x, [u, v][j]? = some x → (w.alloc (.cells #[u, v] 5)).cell? ((⟨w.heap.size, 0, none⟩ : Addr).add j) = some x := by
  intro j x hx
  rw [Addr.add_lit, Nat.zero_add, cell_of_block (heap_alloc_new _ _)]
  simpa using hx
theorem two_u8 (x y : Int) : ∀ u ∈ [Value.int .u8 x, Value.int .u8 y], u.oneCell' = true := by intro u hu; simp at hu; rcases hu with rfl | rfl <;> rfl
/-- Two rows of forty bytes. -/
def Fill (g h : Nat) (w : World) : Prop := ∃ x y : List Nat, w.ownsRow g 5 1 (.slice (some ⟨g, 0, none⟩) 40 40) 40 (bs x) ∧ w.ownsRow g 5 1 (.slice (some ⟨h, 0, none⟩) 40 40) 40 (bs y) ∧ Small x ∧ Small y
theorem small_set {l : List Nat} {i x : Nat} (h : Small l) (hx : x < 256) : Small (l.set i x) := Small.of_mem fun v hv => by
  rcases List.mem_or_eq_of_mem_set hv with hv | rfl
  · exact h.mem hv
  · exact hx
theorem own_setother {w : World} {B g h n c i x : Nat} {l : List Nat} (hne : g ≠ h) (ho : w.ownsRow B 5 1 (.slice (some ⟨g, 0, none⟩) n c) n (bs l)) : (w.setCell ⟨h, i, none⟩ (.int .u8 (x : Nat))).ownsRow B 5 1 (.slice (some ⟨g, 0, none⟩) n c) n (bs l) :=
  ownsRow_setCell_other ho (fun e => hne (by injection e)) _
theorem fill_step {g h p u v : Nat} {w : World} (hne : g ≠ h) (hF : Fill g h w) (hu : u < 256) (hv : v < 256) : Fill g h ((w.setCell ⟨g, p, none⟩ (.int .u8 (u : Nat))).setCell ⟨h, p, none⟩ (.int .u8 (v : Nat))) := by
  obtain ⟨x, y, hx, hy, hsx, hsy⟩ := hF
  exact ⟨x.set p u, y.set p v, own_setother hne (own_set hx), own_set (own_setother hne.symm hy), small_set hsx hu, small_set hsy hv⟩

set_option maxHeartbeats 6000000 in
set_option maxRecDepth 100000 in
theorem ends_any (w : World) : Calls Try.prog 13 #[] w fun e w' => e = .returned (.bool true) ∧ Below w.heap.size w w' := by
  obtain ⟨i0, hi0, hz0, hz1, hz2⟩ := info_parts info5
  go_enter Try.func13, Try.ntmps13
  go_upto_region 1 with fail
  go_cut [1] from 9 to 19 (fun s1 wx => ∃ Lb : Nat, s1 = .slice (some ⟨Lb, 0, none⟩) 11 11 ∧ Hid (Tbl Lb 11 wx) ∧ Hid (Below w.heap.size w wx))
  case first =>
    go_wp2_with fail
    go_meet
    exact ⟨_, rfl, end_tbl w, allocs_below (endObjs w) (Below.refl _ _)⟩
  obtain ⟨Lb, rfl, HT0, HB0⟩ := hcut
  go_wp2_with fail
  go_loopw [2] (fun i wr => ∃ k : Nat, k ≤ 11 ∧ i = .int .i64 k ∧ Hid (Tbl Lb 11 wr) ∧ Hid (Below w.heap.size w wr)) (fun i _ => 11 - (intOf i).toNat)
  case atStart => exact ⟨0, Nat.zero_le _, rfl, HT0, HB0⟩
  case round =>
    clear HT0 HB0
    obtain ⟨i, hi, rfl, HT, HB⟩ := hrel
    by_cases hi1 : i < 11
    · have hdi : decide ((i : Int) < 11) = true := by simp; omega
      go_wp2_with fail
      go_loopw [3] (fun j wr => ∃ k : Nat, k ≤ 11 ∧ j = .int .i64 k ∧ Hid (Tbl Lb 11 wr) ∧ Hid (Below w.heap.size w wr)) (fun j _ => 11 - (intOf j).toNat)
      case atStart => exact ⟨0, Nat.zero_le _, rfl, HT, HB⟩
      case round =>
        clear HT HB
        obtain ⟨j, hj, rfl, HT, HB⟩ := hrel
        by_cases hj1 : j < 11
        · have hdj : decide ((j : Int) < 11) = true := by simp; omega
          obtain ⟨a1, n1, c1, x1, hc1, hr1⟩ := HT.out i hi1
          obtain ⟨a2, n2, c2, x2, hc2, hr2⟩ := HT.out j hj1
          have HSt := Lib.hid (EndSt.mk HT.out hr1 hr2 HB.out)
          have hib : (0 : Int) ≤ (i : Int) ∧ (i : Int) < 11 := by omega
          have hjb : (0 : Int) ≤ (j : Int) ∧ (j : Int) < 11 := by omega
          obtain ⟨hib1, hib2⟩ := hib
          obtain ⟨hjb1, hjb2⟩ := hjb
          have hle : i * j ≤ 10 * 10 := Nat.mul_le_mul (by omega) (by omega)
          obtain ⟨p, hp⟩ : ∃ p, p = i * j := ⟨_, rfl⟩
          have hpi : (i : Int) * (j : Int) = (p : Int) := by rw [hp]; exact (Int.natCast_mul i j).symm
          rw [← hp] at hle
          have hw1 : IntKind.u8.wrap (p : Int) = (p : Int) := by
            exact IntWalk.u8_in _ (by omega)
          have hw0 : IntKind.i64.wrap (p : Int) = (p : Int) := IntWalk.i64_in _ (by omega)
          have hKeep : ∀ W, Below wr.heap.size wr W → W.cell? ⟨Lb, i, none⟩ = some (.slice a1 n1 c1) ∧ W.cell? ⟨Lb, j, none⟩ = some (.slice a2 n2 c2) := fun W hW =>
            ⟨(hW.cell (block_lt_of_cell hc1)).trans hc1, (hW.cell (block_lt_of_cell hc2)).trans hc2⟩
          have h12 : ∀ W, Below wr.heap.size wr W → Calls Try.prog 12 #[.slice a1 n1 c1, .slice a2 n2 c2, .int .u8 (p : Nat)] W fun e w' => e = .returned (.bool true) ∧ w'.cell? ⟨Lb, i, none⟩ = some (.slice a1 n1 c1) ∧ w'.cell? ⟨Lb, j, none⟩ = some (.slice a2 n2 c2) ∧ Hid (Below wr.heap.size wr w') := fun W hW =>
            (pdoes_any (by omega) (hr1.below hW) (hr2.below hW)).mono fun e w' ⟨he, hB⟩ => by
              have hb := hW.trans (hB.mono hW.size)
              exact ⟨he, (hKeep w' hb).1, (hKeep w' hb).2, hb⟩
          have h8 : ∀ W, Below wr.heap.size wr W → Calls Try.prog 8 #[.slice a1 n1 c1, .slice a2 n2 c2] W fun e w' => e = .returned (.bool true) ∧ w'.cell? ⟨Lb, i, none⟩ = some (.slice a1 n1 c1) ∧ w'.cell? ⟨Lb, j, none⟩ = some (.slice a2 n2 c2) ∧ Hid (Below wr.heap.size wr w') := fun W hW =>
            (pthrough_any (hr1.below hW) (hr2.below hW)).mono fun e w' ⟨he, hB⟩ => by
              have hb := hW.trans (hB.mono hW.size)
              exact ⟨he, (hKeep w' hb).1, (hKeep w' hb).2, hb⟩
          have H12 := Lib.hid h12
          have H8 := Lib.hid h8
          clear hr1 hr2 hp h12 h8 hKeep HSt
          go_wp2_with fail
          go_region_held3 (fun w' => w'.cell? ⟨Lb, i, none⟩ = some (.slice a1 n1 c1) ∧ w'.cell? ⟨Lb, j, none⟩ = some (.slice a2 n2 c2))
            (first | go_keep)
            (first
              | (go_at_call 12; ((with_reducible refine (H12.out _ ?_).mono ?_); (exact (Below.refl _ _).drew); rintro e w5 ⟨rfl, hk1, hk2, HB5⟩))
              | (go_at_call 8; ((with_reducible refine (H8.out _ ?_).mono ?_); (exact HB5.out); rintro e w6 ⟨rfl, hk3, hk4, HB6⟩)))
          go_wp2_with fail
          go_roundw
          case rel => exact ⟨j + 1, by omega, by go_num, Lib.hid (HT.out.below HB6.out), Lib.hid (HB.out.trans (HB6.out.mono HB.out.size))⟩
          case measure => simp [intOf]; omega
        · obtain rfl : j = 11 := by omega
          go_wp2_with fail
          go_roundw
          case rel => exact ⟨i + 1, by omega, by go_num, HT, HB⟩
          case measure => simp [intOf]; omega
    · obtain rfl : i = 11 := by omega
      simp only [show ((11 : Nat) : Int) = 11 from rfl]
      clear hi hi1 HT
      go_wp2_with fail
      go_loopw [4] (fun i wr => ∃ k : Nat, (599 ≤ k ∧ k ≤ 603) ∧ i = .int .i64 k ∧ Hid (Below w.heap.size w wr)) (fun i _ => 603 - (intOf i).toNat)
      case atStart => exact ⟨599, ⟨by omega, by omega⟩, rfl, HB⟩
      case round =>
        clear HB
        obtain ⟨k, ⟨hk0, hk⟩, rfl, HB⟩ := hrel
        by_cases hk1 : k < 603
        · have hdk : decide ((k : Int) < 603) = true := by simp; omega
          obtain ⟨k1, hke⟩ : ∃ k1, k1 = k - 1 := ⟨_, rfl⟩
          have hw1 : IntKind.i64.wrap ((k : Int) - 1) = (k1 : Int) := by rw [show (k : Int) - 1 = (k1 : Int) by omega]; exact IntWalk.i64_in _ (by omega)
          have hw1' : (k : Int) - 1 = (k1 : Int) := by omega
          obtain ⟨u, hu⟩ : ∃ u : Nat, u = k % 256 := ⟨_, rfl⟩
          have hw2 : IntKind.u8.wrap (k : Int) = (u : Int) := by rw [IntKind.wrap_u8, hu]; omega
          have hsz : w.heap.size ≤ wr.heap.size := HB.out.size
          have hk1b : (k1 : Int) < (k : Int) := by omega
          have hk1c : (1 : Int) < (k : Int) := by omega
          have hk1d : k1 < k := by omega
          have hu256 : u < 256 := by omega
          clear hke hu
          go_wp2_with (refine wpList_make_full _ rfl (.tmp 62) (.tmp 62) 31 rfl wr.heap.size 5 i0 (.int .u8 0) 1 Try.underlying31 hi0 hz0 hz1 .i64 .i64 _ _ k rfl rfl rfl rfl ?_ ?_ (Nat.le_refl _) ?_)
          · rw [hz2]; omega
          · unfold maxLen; omega
          intro w3 hown hg3
          have hB3 : Below wr.heap.size wr w3 := (Below.refl _ _).grown hg3 (Nat.le_refl _) (fun j e => by cases e)
          have hoz := own_zeros hown
          obtain ⟨hc3, hf3⟩ := own_cell hoz (i := k1) (by omega)
          have hst := own_set (i := k1) (x := u) hoz
          obtain ⟨hc4, hf4⟩ := own_cell hst (i := 1) (by omega)
          have hst2 := own_set (i := 1) (x := 1) hst
          have hB4 := (hB3.setCell (p := ⟨wr.heap.size, k1, none⟩) (Nat.le_refl _) (.int .u8 (u : Nat))).setCell (p := ⟨wr.heap.size, 1, none⟩) (Nat.le_refl _) (.int .u8 ((1 : Nat) : Int))
          have HST := Lib.hid hst2
          have HB4 := Lib.hid hB4
          clear hown hg3 hB3 hoz hst hst2 hB4
          have hL : Small ((((List.replicate k 0).set k1 u)).set 1 1) := by
            refine Small.of_mem fun v hv => ?_
            rcases List.mem_or_eq_of_mem_set hv with hv | rfl
            · rcases List.mem_or_eq_of_mem_set hv with hv | rfl
              · rw [List.eq_of_mem_replicate hv]; omega
              · exact hu256
            · omega
          have HSm := Lib.hid hL
          clear hL
          obtain ⟨L, hLe⟩ : ∃ L, L = ((List.replicate k 0).set k1 u).set 1 1 := ⟨_, rfl⟩
          rw [← hLe] at HSm HST
          clear hLe
          go_wp2_with fail
          have hszW : (World.setCell (World.setCell w3 ⟨wr.heap.size, k1, none⟩ (.int .u8 (u : Nat))) ⟨wr.heap.size, 1, none⟩ (.int .u8 1)).heap.size = w3.heap.size := by simp
          generalize hW2 : World.setCell (World.setCell w3 ⟨wr.heap.size, k1, none⟩ (.int .u8 (u : Nat))) ⟨wr.heap.size, 1, none⟩ (.int .u8 1) = W2 at *
          have HOW : Hid (W2.ownsRow wr.heap.size 5 1 (.slice (some ⟨wr.heap.size, 0, none⟩) k k) k (bs L)) := HST
          have HBW : Hid (Below wr.heap.size wr W2) := HB4
          clear HST HB4 hW2 hc3 hf3 hc4 hf4
          have h1 : Calls Try.prog 12 #[.slice (some ⟨wr.heap.size, 0, none⟩) k k, .slice (some ⟨W2.heap.size, 0, none⟩) 2 2, .int .u8 3] (W2.alloc (.cells #[.int .u8 1, .int .u8 2] 5)) fun e w' => e = .returned (.bool true) ∧ Below (W2.alloc (.cells #[.int .u8 1, .int .u8 2] 5)).heap.size (W2.alloc (.cells #[.int .u8 1, .int .u8 2] 5)) w' :=
            pdoes_any (t := 3) (by omega) ((own_rb2 HOW.out HSm.out (by omega)).alloc _) (two_rb W2 1 2 (by omega) (by omega))
          rw [hszW] at h1
          have H1 := Lib.hid h1
          clear h1
          refine H1.out.mono ?_
          rintro e w5 ⟨rfl, hB5⟩
          clear hszW
          have HBW5 := Lib.hid ((Below.refl W2.heap.size W2).alloc (Nat.le_refl _) (.cells #[.int .u8 1, .int .u8 2] 5) |>.trans (hB5.mono (by simp)))
          clear hB5 H1
          have h2 : Calls Try.prog 12 #[.slice (some ⟨w5.heap.size, 0, none⟩) 1 1, .slice (some ⟨wr.heap.size, 0, none⟩) k k, .int .u8 1] (w5.alloc (.cells #[.int .u8 5] 5)) fun e w' => e = .returned (.bool true) ∧ Below (w5.alloc (.cells #[.int .u8 5] 5)).heap.size (w5.alloc (.cells #[.int .u8 5] 5)) w' :=
            pdoes_any (t := 1) (by omega) (one_rb w5 5 (by omega)) ((own_rb2 (own_below HOW.out HBW5.out) HSm.out (by omega)).alloc _)
          have H2 := Lib.hid h2
          clear h2
          go_wp2_with fail
          refine H2.out.mono ?_
          rintro e w6 ⟨rfl, hB6⟩
          have HBW6 := Lib.hid (HBW5.out.trans (((Below.refl w5.heap.size w5).alloc (Nat.le_refl _) (.cells #[.int .u8 5] 5) |>.trans (hB6.mono (by simp))).mono HBW5.out.size))
          have HO6 := Lib.hid ((own_below HOW.out HBW6.out).alloc (.cells #[.int .u8 0, .int .u8 0] 5))
          have HB6 := Lib.hid (HBW.out.trans (HBW6.out.mono HBW.out.size))
          have hsz6 : wr.heap.size ≤ w6.heap.size := HB6.out.size
          clear hB6 H2 HBW5 HBW6 HOW HBW
          go_wp2_with (at_builtin; go_loud (refine wpList_append_own3g _ rfl (.tmp 83) (.tmp 84) 31 rfl wr.heap.size 5 i0 (.int .u8 0) 1 Try.underlying31 hi0 hz0 hz1 hz2 rfl _ k (bs L) rfl HO6.out ⟨w6.heap.size, 0, none⟩ 2 2 [.int .u8 0, .int .u8 0] rfl rfl (cell_new2 _ _ _) (two_u8 _ _) (by unfold maxLen; omega) (by omega) (by simp; omega) ?_))
          intro v7 w7 ho7 hg7 hb7 hk7
          have hB7 : Below w.heap.size w w7 := (HB.out.trans ((HB6.out.alloc (by omega) (.cells #[.int .u8 0, .int .u8 0] 5)).mono HB.out.size)).grown hg7 (by simp; omega) (fun j e => by have := (own_lt HO6.out e).1; omega)
          obtain ⟨a7, c7, rfl⟩ := own_slice ho7
          have h3 : Calls Try.prog 12 #[.slice a7 (k + 2 : Nat) c7, .slice (some ⟨w7.heap.size, 0, none⟩) 2 2, .int .u8 9] (w7.alloc (.cells #[.int .u8 0, .int .u8 1] 5)) fun e w' => e = .returned (.bool true) ∧ Below (w7.alloc (.cells #[.int .u8 0, .int .u8 1] 5)).heap.size (w7.alloc (.cells #[.int .u8 0, .int .u8 1] 5)) w' :=
            pdoes_any (t := 9) (x := L ++ [0, 0]) (by omega) ((own_rb2 (by rw [bs_append]; exact ho7) (Small.of_mem fun v hv => (List.mem_append.1 hv).elim (fun hv => HSm.out.mem hv) (fun hv => by simp at hv; omega)) (by omega)).alloc _) (two_rb w7 0 1 (by omega) (by omega))
          have H3 := Lib.hid h3
          have HB7 := Lib.hid hB7
          clear h3 ho7 hg7 hb7 hk7 hB7 HB6 HO6
          go_wp2_with fail
          refine H3.out.mono ?_
          rintro e w8 ⟨rfl, hB8⟩
          have HB8 := Lib.hid (HB7.out.trans (((Below.refl w7.heap.size w7).alloc (Nat.le_refl _) (.cells #[.int .u8 0, .int .u8 1] 5) |>.trans (hB8.mono (by simp))).mono HB7.out.size))
          clear hB8 H3 HB7
          go_wp2_with fail
          go_roundw
          case rel => exact ⟨k + 1, ⟨by omega, by omega⟩, by go_num, HB8⟩
          case measure => simp [intOf]; omega
        · obtain rfl : k = 603 := by omega
          simp only [show ((603 : Nat) : Int) = 603 from rfl]
          obtain ⟨wo, rfl⟩ : ∃ wo, wo = wr := ⟨_, rfl⟩
          clear hk hk0 hk1
          have hszr : w.heap.size ≤ wo.heap.size := HB.out.size
          go_wp2_with (refine wpList_make_full _ rfl (.const (.int .i64 40)) (.const (.int .i64 40)) 31 rfl wo.heap.size 5 i0 (.int .u8 0) 1 Try.underlying31 hi0 hz0 hz1 .i64 .i64 _ _ 40 rfl rfl rfl rfl ?_ ?_ (Nat.le_refl _) ?_)
          · rw [hz2]; omega
          · unfold maxLen; omega
          intro w3 hown3 hg3
          have hB3 : Below wo.heap.size wo w3 := (Below.refl _ _).grown hg3 (Nat.le_refl _) (fun j e => by cases e)
          have HX3 := Lib.hid (own_zeros hown3)
          have HB3 := Lib.hid hB3
          have hsz3 : wo.heap.size ≤ w3.heap.size := hB3.size
          clear hown3 hg3 hB3
          go_wp2_with (refine wpList_make_full _ rfl (.const (.int .i64 40)) (.const (.int .i64 40)) 31 rfl w3.heap.size 5 i0 (.int .u8 0) 1 Try.underlying31 hi0 hz0 hz1 .i64 .i64 _ _ 40 rfl rfl rfl rfl ?_ ?_ (Nat.le_refl _) ?_)
          · rw [hz2]; omega
          · unfold maxLen; omega
          intro w4 hown4 hg4
          have hB4 : Below w3.heap.size w3 w4 := (Below.refl _ _).grown hg4 (Nat.le_refl _) (fun j e => by cases e)
          have hwr3 : wo.heap.size < w3.heap.size := (own_lt HX3.out rfl).2
          have HX4 := Lib.hid (own_below HX3.out hB4)
          have HY4 := Lib.hid (own_mono (own_zeros hown4) hsz3)
          have HB4 := Lib.hid (HB.out.trans ((HB3.out.trans (hB4.mono hsz3)).mono HB.out.size))
          have hne : wo.heap.size ≠ w3.heap.size := by omega
          clear hown4 hg4 hB4 HX3 HB3 HB hwr3
          have hzs : Small (List.replicate 40 0) := Small.of_mem fun x hx => by rw [List.eq_of_mem_replicate hx]; omega
          go_wp2_with fail
          go_loopw [8] (fun i wr => ∃ p : Nat, p ≤ 40 ∧ i = .int .i64 p ∧ Hid (Fill wo.heap.size w3.heap.size wr) ∧ Hid (Below w.heap.size w wr)) (fun i _ => 40 - (intOf i).toNat)
          case atStart => exact ⟨0, Nat.zero_le _, rfl, ⟨_, _, HX4.out, HY4.out, hzs, hzs⟩, HB4⟩
          case round =>
            clear HX4 HY4 HB4 hzs
            obtain ⟨p, hp, rfl, HF, HB⟩ := hrel
            by_cases hp1 : p < 40
            · have hdp : decide ((p : Int) < 40) = true := by simp; omega
              have hpi0 : (0 : Int) ≤ (p : Int) := by omega
              have hpi1 : (p : Int) < 40 := by omega
              obtain ⟨q, hq⟩ : ∃ q, q = p * p := ⟨_, rfl⟩
              have hle : q ≤ 39 * 39 := by rw [hq]; exact Nat.mul_le_mul (by omega) (by omega)
              have hqi : (p : Int) * (p : Int) = (q : Int) := by rw [hq]; exact (Int.natCast_mul p p).symm
              have hw0 : IntKind.i64.wrap (q : Int) = (q : Int) := IntWalk.i64_in _ (by omega)
              obtain ⟨u, hu⟩ : ∃ u : Nat, u = (7 * p + 3) % 256 := ⟨_, rfl⟩
              have hw1 : IntKind.u8.wrap (7 * (p : Int) + 3) = (u : Int) := by rw [IntKind.wrap_u8, hu]; omega
              obtain ⟨v, hv⟩ : ∃ v : Nat, v = q % 256 := ⟨_, rfl⟩
              have hw2 : IntKind.u8.wrap (q : Int) = (v : Int) := by rw [IntKind.wrap_u8, hv]; omega
              have hu2 : u < 256 := by omega
              have hv2 : v < 256 := by omega
              clear hq hu hv
              obtain ⟨x, y, hx, hy, hsx, hsy⟩ := HF.out
              obtain ⟨hc1, hf1⟩ := own_cell hx hp1
              obtain ⟨hc2, hf2⟩ := own_cell hy hp1
              have hF2 := Lib.hid (fill_step (p := p) hne HF.out hu2 hv2)
              have hB2 := Lib.hid ((HB.out.setCell (p := ⟨wo.heap.size, p, none⟩) hszr (.int .u8 (u : Nat))).setCell (p := ⟨w3.heap.size, p, none⟩) (by show w.heap.size ≤ w3.heap.size; omega) (.int .u8 (v : Nat)))
              clear hx hy hsx hsy
              go_wp2_with fail
              go_roundw
              case rel => exact ⟨p + 1, by omega, by go_num, hF2, hB2⟩
              case measure => simp [intOf]; omega
            · obtain rfl : p = 40 := by omega
              clear hp hp1
              obtain ⟨x, y, hx, hy, hsx, hsy⟩ := HF.out
              have hxl : x.length = 40 := own_len hx
              have hd39 : (bs (x.tail)).length = 39 * 1 := by rw [length_bs, List.length_tail, hxl]
              have HSx := Lib.hid hsx
              have HX := Lib.hid (own_rb2 hx hsx (by omega))
              have HY := Lib.hid (own_rb2 hy hsy (by omega))
              have HXO := Lib.hid hx
              have hXlt : wo.heap.size < wr.heap.size := (own_lt hx rfl).2
              clear hx hy hsx hsy HF
              have H8 := Lib.hid (pthrough_any HX.out HY.out)
              go_wp2_with fail
              refine H8.out.mono ?_
              rintro e w5 ⟨rfl, hB5⟩
              have HX5 := Lib.hid (HX.out.below hB5)
              have HY5 := Lib.hid (HY.out.below hB5)
              have HXO5 := Lib.hid (own_below HXO.out hB5)
              have HB5 := Lib.hid (HB.out.trans (hB5.mono HB.out.size))
              have H8b := Lib.hid (pthrough_any (HX5.out.take 39 (by omega)) HY5.out)
              clear hB5 H8 HX HY HXO HB
              go_wp2_with fail
              refine H8b.out.mono ?_
              rintro e w6 ⟨rfl, hB6⟩
              have HY6 := Lib.hid (HY5.out.below hB6)
              have HC6 := Lib.hid (drop_cells (own_below (own_below HXO5.out hB6) ((Below.refl _ _).alloc (Nat.le_refl _) (.cells #[] 5))))
              have HB6 := Lib.hid (HB5.out.trans (hB6.mono HB5.out.size))
              have HO6 := Lib.hid (own_empty w6)
              have hsz6 : w.heap.size ≤ w6.heap.size := HB6.out.size
              clear hB6 H8b HX5 HY5 HXO5 HB5
              go_wp2_with (at_builtin; refine wpList_append_own3g _ rfl (.tmp 120) (.tmp 122) 31 rfl w6.heap.size 5 i0 (.int .u8 0) 1 Try.underlying31 hi0 hz0 hz1 hz2 rfl _ 0 [] rfl HO6.out ⟨wo.heap.size, 1, none⟩ 39 39 (bs (x.tail)) rfl hd39 HC6.out (bs_one _) (by unfold maxLen; omega) (by omega) (by simp) ?_)
              intro v7 w7 ho7 hg7 hb7 hk7
              have ho7 : w7.ownsRow w6.heap.size 5 1 v7 39 (bs (x.tail)) := ho7
              obtain ⟨a7, c7, rfl⟩ := own_slice ho7
              have hB7 : Below w6.heap.size w6 w7 := ((Below.refl _ _).alloc (Nat.le_refl _) (.cells #[] 5)).grown hg7 (by simp) (fun j e => (own_lt HO6.out e).1)
              have HO7 := Lib.hid (ho7.alloc (.cells #[.int .u8 3] 5))
              have HB7 := Lib.hid hB7
              have hsz7 : w6.heap.size ≤ w7.heap.size := hB7.size
              clear ho7 hg7 hb7 hk7 hB7 HO6 HC6
              go_wp2_with (at_builtin; refine wpList_append_own3g _ rfl (.tmp 123) (.tmp 124) 31 rfl w6.heap.size 5 i0 (.int .u8 0) 1 Try.underlying31 hi0 hz0 hz1 hz2 rfl _ 39 (bs (x.tail)) rfl HO7.out ⟨w7.heap.size, 0, none⟩ 1 1 [.int .u8 3] rfl rfl (cell_new _ _) (one_u8 _) (by unfold maxLen; omega) (by omega) (by simp; omega) ?_)
              intro v8 w8 ho8 hg8 hb8 hk8
              have ho8 : w8.ownsRow w6.heap.size 5 1 v8 40 (bs (x.tail) ++ [.int .u8 (3 : Nat)]) := ho8
              obtain ⟨a8, c8, rfl⟩ := own_slice ho8
              have hB8 : Below w6.heap.size w6 w8 := (HB7.out.alloc hsz7 (.cells #[.int .u8 3] 5)).grown hg8 (by simp; omega) (fun j e => (own_lt HO7.out e).1)
              have HB8 := Lib.hid (HB6.out.trans (hB8.mono hsz6))
              have H8c := Lib.hid (pthrough_any (x := x.tail ++ [3]) (own_rb2 (by rw [bs_append]; exact ho8) (Small.of_mem fun v hv => (List.mem_append.1 hv).elim (fun hv => HSx.out.mem (List.mem_of_mem_tail hv)) (fun hv => by simp at hv; omega)) (by omega)) (HY6.out.below hB8))
              clear ho8 hg8 hb8 hk8 hB8 HO7 HB7 HY6
              go_wp2_with fail
              refine H8c.out.mono ?_
              rintro e w9 ⟨rfl, hB9⟩
              have HB9 := Lib.hid (HB8.out.trans (hB9.mono HB8.out.size))
              have H8d := Lib.hid (ends_three w9)
              clear hB9 H8c HB8
              go_wp2_with fail
              refine H8d.out.mono ?_
              rintro e w10 ⟨rfl, hB10⟩
              have HB10 := Lib.hid (HB9.out.trans (hB10.mono HB9.out.size))
              clear hB10 H8d HB9
              go_wp2_with fail
              refine (awake2 w10).mono ?_
              rintro e w11 ⟨rfl, hB11⟩
              have HB11 := Lib.hid (HB10.out.trans (hB11.mono HB10.out.size))
              clear hB11 HB10
              go_wp2_with fail
              go_ret
              exact ⟨rfl, HB11.out⟩
end Go.Proofs.Ytokeoodkioobdaa
