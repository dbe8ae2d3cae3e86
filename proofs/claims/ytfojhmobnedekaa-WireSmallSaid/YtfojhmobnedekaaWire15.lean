/- The first least of those that did not come yet, plain; the walk of the law's next. Conditions: lists are shorter than 2 to the 40. -/
import Derived.Test.YtfojhmobnedekaaWire13
namespace Go.Proofs.Ytfojhmobnedekaa
open Go.RowKit

/-- Of those that are not gone, the first least of the first k. -/
def nextTo (zs : List Zl) (g : Nat → Bool) : Nat → Option Nat
  | 0 => none
  | k + 1 => if g k = true then nextTo zs g k else match nextTo zs g k with
    | none => some k
    | some b => if (zs.getD k default).lt (zs.getD b default) then some k else some b
/-- Those that are not gone, of the first k. -/
def remTo (zs : List Zl) (g : Nat → Bool) : Nat → List Zl
  | 0 => []
  | k + 1 => if g k = true then remTo zs g k else remTo zs g k ++ [zs.getD k default]
def updG (g : Nat → Bool) (b : Nat) : Nat → Bool := fun i => if i = b then true else g i
theorem remTo_upd (zs : List Zl) (g : Nat → Bool) (b : Nat) : ∀ k, k ≤ b → remTo zs (updG g b) k = remTo zs g k
  | 0, _ => rfl
  | k + 1, h => by
    have e : updG g b k = g k := by unfold updG; rw [if_neg (by omega)]
    unfold remTo
    rw [e, remTo_upd zs g b k (by omega)]
theorem next_rest (zs : List Zl) (g : Nat → Bool) : ∀ k, match nextTo zs g k with
    | none => remTo zs g k = []
    | some b => b < k ∧ g b = false ∧ ordZ (remTo zs g k) = zs.getD b default :: ordZ (remTo zs (updG g b) k)
  | 0 => rfl
  | k + 1 => by
    have ih := next_rest zs g k
    unfold nextTo
    by_cases hg : g k = true
    · rw [if_pos hg]
      have e1 : remTo zs g (k + 1) = remTo zs g k := by rw [remTo, if_pos hg]
      cases hb : nextTo zs g k with
      | none =>
        rw [hb] at ih
        exact e1.trans ih
      | some b =>
        rw [hb] at ih
        obtain ⟨h1, h2, h3⟩ := ih
        have e2 : remTo zs (updG g b) (k + 1) = remTo zs (updG g b) k := by rw [remTo, if_pos (by unfold updG; rw [if_neg (by omega)]; exact hg)]
        exact ⟨by omega, h2, by rw [e1, e2]; exact h3⟩
    · rw [if_neg hg]
      have e1 : remTo zs g (k + 1) = remTo zs g k ++ [zs.getD k default] := by rw [remTo, if_neg hg]
      have e3 : remTo zs (updG g k) (k + 1) = remTo zs g k := by
        rw [remTo, if_pos (by unfold updG; rw [if_pos rfl])]; exact remTo_upd zs g k k (Nat.le_refl _)
      have hgf : g k = false := by simpa using hg
      cases hb : nextTo zs g k with
      | none =>
        rw [hb] at ih
        have ih : remTo zs g k = [] := ih
        refine ⟨by omega, hgf, ?_⟩
        rw [e1, e3, ih]; rfl
      | some b =>
        rw [hb] at ih
        obtain ⟨h1, h2, h3⟩ := ih
        show match (if (zs.getD k default).lt (zs.getD b default) then some k else some b) with
          | none => _
          | some b => _
        by_cases h : (zs.getD k default).lt (zs.getD b default)
        · rw [if_pos h]
          refine ⟨by omega, hgf, ?_⟩
          rw [e1, e3, ordZ_snoc, h3, headZ_ins h]
        · rw [if_neg h]
          have e2 : remTo zs (updG g b) (k + 1) = remTo zs (updG g b) k ++ [zs.getD k default] := by rw [remTo, if_neg (by unfold updG; rw [if_neg (by omega)]; exact hg)]
          refine ⟨by omega, h2, ?_⟩
          rw [e1, e2, ordZ_snoc, h3, headZ_keep h, ordZ_snoc]
theorem remTo_all (zs : List Zl) (g : Nat → Bool) (h : ∀ i, g i = false) : ∀ k, k ≤ zs.length → remTo zs g k = zs.take k
  | 0, _ => rfl
  | k + 1, hk => by
    rw [remTo, if_neg (by rw [h k]; decide), remTo_all zs g h k (by omega), List.take_add_one, List.getD_eq_getElem?_getD, List.getElem?_eq_getElem (by omega)]; rfl
theorem Zl.lt_iff {x y : Zl} : x.lt y ↔ x.d < y.d ∨ (x.d = y.d ∧ x.q < y.q) := by
  unfold Zl.lt
  rw [Zl.le_iff]; omega
/-- The number that next tells. -/
def optI : Option Nat → Int
  | none => -1
  | some k => (k : Nat)
/-- Landings, and to whom, that are owned: two rows, and the bytes. -/
def zOf (p : Ld × Int) : Zl := ⟨p.1.due, p.1.place, p.2, p.1.r.l⟩
structure AllO (B : Nat) (va vt : Value) (ps : List (Ld × Int)) (w : World) : Prop where
  row : w.ownsRow B 39 3 va ps.length ((ps.map (·.1)).flatMap Ld.cells)
  tos : w.ownsRow B 61 1 vt ps.length (ps.map fun p => Value.int .i64 p.2)
  own : ∀ p ∈ ps, w.ownsRow B 5 1 p.1.r.v p.1.r.n (bs p.1.r.l)
theorem own39_slice {w : World} {B n : Nat} {v : Value} {xs : List Value} {e size : Nat} (h : w.ownsRow B e size v n xs) : ∃ a c, v = .slice a n c := by
  rcases h.2 with ⟨rfl, rfl⟩ | ⟨g, cap, cur, rfl, _⟩
  · exact ⟨_, _, rfl⟩
  · exact ⟨_, _, rfl⟩
/-- The cells of one landing of a row. -/
theorem AllO.at_ {B n c : Nat} {a : Option Addr} {vt : Value} {ps : List (Ld × Int)} {w : World} (h : AllO B (.slice a n c) vt ps w) {k : Nat} {p : Ld × Int} (hk : ps[k]? = some p) :
    ∃ g, a = some ⟨g, 0, none⟩ ∧ w.cell? ⟨g, k * 3, none⟩ = some (.int .i64 p.1.due) ∧ w.cell? ⟨g, k * 3 + 1, none⟩ = some (.int .i64 p.1.place) ∧ w.cell? ⟨g, k * 3 + 2, none⟩ = some (.slice p.1.r.a p.1.r.n p.1.r.c) := by
  obtain ⟨hk1, rfl⟩ := List.getElem?_eq_some_iff.1 hk
  rcases h.row.2 with ⟨_, h0⟩ | ⟨g, cap, cur, e, _⟩
  · omega
  · injection e with e1 _ _
    subst e1
    have hk2 : k < (ps.map (·.1)).length := by simpa using hk1
    have hc := fun q (hq : q < 3) u (hu : ((ps.map (fun x : Ld × Int => x.1))[k]'hk2).cells[q]? = some u) => h.row.cells (g := g) rfl (k * 3 + q) u ((cells_at (ps.map (·.1)) k q hk2 hq).trans hu)
    have e0 := hc 0 (by omega) _ rfl
    have e1 := hc 1 (by omega) _ rfl
    have e2 := hc 2 (by omega) _ rfl
    rw [Addr.add_lit] at e0 e1 e2
    exact ⟨g, rfl, by simpa using e0, by simpa using e1, by simpa [R1.v] using e2⟩
/-- A row of truths. -/
def GoneO (B : Nat) (v : Value) (n : Nat) (g : Nat → Bool) (w : World) : Prop := w.ownsRow B 4 1 v n ((List.range n).map fun i => Value.bool (g i))
theorem GoneO.cell {B n c : Nat} {a : Option Addr} {g : Nat → Bool} {w : World} (h : GoneO B (.slice a n c) n g w) {k : Nat} (hk : k < n) : ∃ b, a = some ⟨b, 0, none⟩ ∧ w.cell? ⟨b, k, none⟩ = some (.bool (g k)) := by
  rcases h.2 with ⟨_, h0⟩ | ⟨b, cap, cur, e, _⟩
  · omega
  · injection e with e1 _ _
    subst e1
    have := h.cells (g := b) rfl k (.bool (g k)) (by rw [List.getElem?_map, List.getElem?_range hk]; rfl)
    rw [Addr.add_lit, Nat.zero_add] at this
    exact ⟨b, rfl, this⟩

set_option maxHeartbeats 1000000 in
set_option maxRecDepth 100000 in
theorem nextg_any {w : World} {B B2 n c c2 : Nat} {a a2 : Option Addr} {vt : Value} {ps : List (Ld × Int)} {g : Nat → Bool} (h : AllO B (.slice a n c) vt ps w) (hn : ps.length = n) (hm : n ≤ 1000000) (hg : GoneO B2 (.slice a2 n c2) n g w) :
    Calls Try.prog 39 #[.slice a n c, .slice a2 n c2] w fun e w' => e = .returned (.int .i64 (optI (nextTo (ps.map zOf) g n))) ∧ Below w.heap.size w w' := by
  have H := Lib.hid h
  have HG := Lib.hid hg
  clear h hg
  go_enter Try.func39, Try.ntmps39
  go_wp2_with fail
  go_loopw [5, 6] (fun b i wr => ∃ k : Nat, k ≤ n ∧ i = .int .i64 k ∧ b = .int .i64 (optI (nextTo (ps.map zOf) g k)) ∧ Hid (Below w.heap.size w wr)) (fun _ i _ => n - (intOf i).toNat)
  case atStart => exact ⟨0, Nat.zero_le _, rfl, rfl, Below.refl _ _⟩
  case round =>
    obtain ⟨k, hk, rfl, rfl, HD⟩ := hrel
    by_cases hlt : k < n
    · obtain ⟨p, hp⟩ : ∃ p, ps[k]? = some p := ⟨_, List.getElem?_eq_getElem (by omega)⟩
      obtain ⟨ga, rfl, e0, e1, _⟩ := H.out.at_ hp
      obtain ⟨gb, rfl, f0⟩ := HG.out.cell hlt
      have e0 := (HD.out.cell (block_lt_of_cell e0)).trans e0
      have e1 := (HD.out.cell (block_lt_of_cell e1)).trans e1
      have f0 := (HD.out.cell (block_lt_of_cell f0)).trans f0
      have hzk : (ps.map zOf).getD k default = zOf p := by rw [List.getD_eq_getElem?_getD, List.getElem?_map, hp]; rfl
      have hnr := next_rest (ps.map zOf) g k
      have hst : nextTo (ps.map zOf) g (k + 1) = if g k = true then nextTo (ps.map zOf) g k else match nextTo (ps.map zOf) g k with
        | none => some k
        | some b => if (zOf p).lt ((ps.map zOf).getD b default) then some k else some b := by rw [nextTo, hzk]
      clear hp hzk
      cases hg : g k with
      | true =>
        rw [hg] at f0
        rw [hg, if_pos rfl] at hst
        have HN := Lib.hid hst
        clear hst hnr hg
        go_wp2_with fail
        go_quiet (fail)
        go_wp2_with fail
        go_roundw
        case rel => exact ⟨k + 1, by omega, by go_num, by rw [HN.out], below_drewN HD.out _⟩
        case measure => simp [intOf]; omega
      | false =>
        rw [hg] at f0
        rw [hg, if_neg (by decide)] at hst
        cases hb : nextTo (ps.map zOf) g k with
        | none =>
          rw [hb] at hst
          have HN := Lib.hid (show nextTo (ps.map zOf) g (k + 1) = some k from hst)
          rw [show optI none = -1 from rfl]
          clear hst hnr hg hb
          go_wp2_with fail
          go_quiet (fail)
          go_wp2_with fail
          go_roundw
          case rel => exact ⟨k + 1, by omega, by go_num, by rw [HN.out]; rfl, below_drewN HD.out _⟩
          case measure => simp [intOf]; omega
        | some b =>
          rw [hb] at hst hnr
          obtain ⟨hbk, _, _⟩ := hnr
          have hbn : b < n := by omega
          obtain ⟨pb, hpb⟩ : ∃ pb, ps[b]? = some pb := ⟨_, List.getElem?_eq_getElem (by omega)⟩
          obtain ⟨gc, hgc, x0, x1, _⟩ := H.out.at_ hpb
          obtain rfl : ga = gc := by injection hgc with hgc; injection hgc
          have x0 := (HD.out.cell (block_lt_of_cell x0)).trans x0
          have x1 := (HD.out.cell (block_lt_of_cell x1)).trans x1
          have hzb : (ps.map zOf).getD b default = zOf pb := by rw [List.getD_eq_getElem?_getD, List.getElem?_map, hpb]; rfl
          have hst : nextTo (ps.map zOf) g (k + 1) = if (zOf p).lt (zOf pb) then some k else some b := by rw [hst, ← hzb]
          rw [show optI (some b) = ((b : Nat) : Int) from rfl]
          clear hpb hgc hzb hg hb
          have d0 : decide (((b : Nat) : Int) < 0) = false := by simp
          by_cases h1 : p.1.due < pb.1.due
          · rw [if_pos (Zl.lt_iff.2 (.inl h1))] at hst
            have HN := Lib.hid hst
            have d1 : decide (p.1.due < pb.1.due) = true := decide_eq_true h1
            clear hst
            go_wp2_with fail
            go_quiet (fail)
            go_wp2_with fail
            go_roundw
            case rel => exact ⟨k + 1, by omega, by go_num, by rw [HN.out]; rfl, below_drewN HD.out _⟩
            case measure => simp [intOf]; omega
          · have d1 : decide (p.1.due < pb.1.due) = false := decide_eq_false h1
            by_cases h2 : p.1.due = pb.1.due
            · have d2 : (p.1.due == pb.1.due) = true := by simpa using h2
              have d2' : decide (p.1.due = pb.1.due) = true := decide_eq_true h2
              by_cases h3 : p.1.place < pb.1.place
              · rw [if_pos (Zl.lt_iff.2 (.inr ⟨h2, h3⟩))] at hst
                have HN := Lib.hid hst
                have d3 : decide (p.1.place < pb.1.place) = true := decide_eq_true h3
                clear hst h2 h1
                go_wp2_with fail
                go_quiet (fail)
                go_wp2_with fail
                go_roundw
                case rel => exact ⟨k + 1, by omega, by go_num, by rw [HN.out]; rfl, below_drewN HD.out _⟩
                case measure => simp [intOf]; omega
              · rw [if_neg (fun e => by rcases Zl.lt_iff.1 e with e | e; exact h1 e; exact h3 e.2)] at hst
                have HN := Lib.hid hst
                have d3 : decide (p.1.place < pb.1.place) = false := decide_eq_false h3
                clear hst h2 h1
                go_wp2_with fail
                go_quiet (fail)
                go_wp2_with fail
                go_roundw
                case rel => exact ⟨k + 1, by omega, by go_num, by rw [HN.out]; rfl, below_drewN HD.out _⟩
                case measure => simp [intOf]; omega
            · rw [if_neg (fun e => by rcases Zl.lt_iff.1 e with e | e; exact h1 e; exact h2 e.1)] at hst
              have HN := Lib.hid hst
              have d2 : (p.1.due == pb.1.due) = false := by simpa using h2
              have d2' : decide (p.1.due = pb.1.due) = false := decide_eq_false h2
              clear hst h1
              go_wp2_with fail
              go_quiet (fail)
              go_wp2_with fail
              go_roundw
              case rel => exact ⟨k + 1, by omega, by go_num, by rw [HN.out]; rfl, below_drewN HD.out _⟩
              case measure => simp [intOf]; omega
    · obtain rfl : k = n := by omega
      go_wp2_with fail
      go_ret
      exact ⟨rfl, HD.out⟩
end Go.Proofs.Ytfojhmobnedekaa
