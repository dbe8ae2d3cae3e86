/- The walk of the law LagrAny. Conditions: none. -/
import Derived.Test.YtokeoodkioobdaaLagrT
import Derived.Test.YtokeoodkioobdaaArgs
namespace Go.Proofs.Ytokeoodkioobdaa
open Go.RowKit

/-- A slice of ints that can be read. -/
structure RI (w : World) (a : Option Addr) (n : Nat) (zs : List Int) : Prop where
  most : n ≤ 140737488351232
  at_ : ∀ i, i < n → (∃ b off, a = some ⟨b, off, none⟩ ∧ w.cell? ⟨b, off + i, none⟩ = some (.int .i64 (zs.getD i 0))) ∧ -9223372036854775808 ≤ zs.getD i 0 ∧ zs.getD i 0 ≤ 9223372036854775807
theorem RI.below {w w' : World} {a : Option Addr} {n : Nat} {zs : List Int} (h : RI w a n zs) (hB : Below w.heap.size w w') : RI w' a n zs :=
  ⟨h.most, fun i hi => by
    obtain ⟨⟨b, off, e, hc⟩, h2⟩ := h.at_ i hi
    exact ⟨⟨b, off, e, (hB.cell (block_lt_of_cell hc)).trans hc⟩, h2⟩⟩
theorem ri_of_row {w : World} {a : Option Addr} {n cap : Nat} {zs : List Int} (h : IsRow .i64 w a n cap zs) (hs : cap * 8 ≤ 140737488351232) : RI w a n zs := by
  rcases h with ⟨rfl, rfl, rfl, rfl⟩ | ⟨⟨b, off, spot⟩, rfl, hl, hm, hz, hcell, hwz⟩
  · exact ⟨by omega, fun i hi => absurd hi (by omega)⟩
  · refine ⟨by omega, fun i hi => ?_⟩
    have hc := hcell i (by omega)
    have hspot : spot = none := by
      have h0 := hcell 0 (by omega)
      simpa [Addr.add] using World.cell?_spot h0
    subst hspot
    rw [Addr.add_lit] at hc
    have hb := bounds_i64 (hwz (zs.getD i 0) (by simp [List.getD, show i < zs.length by omega]))
    exact ⟨⟨b, off, rfl, hc⟩, by omega, by omega⟩

theorem pick_any {x : Int} {n : Nat} (h1 : 1 ≤ n) (h2 : n ≤ 1000000) (hx1 : -9223372036854775808 ≤ x) (hx2 : x ≤ 9223372036854775807) :
    ∃ r : Nat, r < n ∧ ∀ w, Calls Try.prog 85 #[.int .i64 x, .int .i64 (n : Nat)] w fun e w' => e = .returned (.int .i64 (r : Nat)) ∧ w = w' := by
  have d1 : decide ((n : Int) < 1) = false := by simp; omega
  have d2 : ((n : Int) == 0) = false := by simp; omega
  have d3 : decide (n = 0) = false := by simp; omega
  by_cases h0 : 0 ≤ x
  · obtain ⟨X, rfl⟩ := Int.eq_ofNat_of_zero_le h0
    refine ⟨X % n, Nat.mod_lt _ (by omega), fun w => ?_⟩
    have hm := Lib.hid (show (X : Int) % (n : Int) = ((X % n : Nat) : Int) by omega)
    have hnn : 0 ≤ (X : Int) % (n : Int) := Int.emod_nonneg _ (by omega)
    have hn0 : decide ((X : Int) % (n : Int) < 0) = false := by rw [decide_eq_false]; omega
    obtain ⟨m, hme⟩ : ∃ m, m = X % n := ⟨_, rfl⟩
    rw [← hme] at hm ⊢
    clear hme
    go_enter Try.func85, Try.ntmps85
    go_wp2_with fail
    go_ret
    exact ⟨ret_i64 hm.out, rfl⟩
  · have hlo : -(n : Int) < x.tmod n := by
      have := Int.tmod_lt_of_pos (-x) (show (0 : Int) < n by omega)
      rw [Int.neg_tmod] at this
      omega
    have hhi : x.tmod n ≤ 0 := by
      have := Int.tmod_nonneg (n : Int) (show (0 : Int) ≤ -x by omega)
      rw [Int.neg_tmod] at this
      omega
    by_cases hz : x.tmod n < 0
    · have d4 : decide (x.tmod n < 0) = true := by simp; omega
      obtain ⟨m, hm⟩ : ∃ m : Nat, x.tmod n + n = (m : Int) := ⟨(x.tmod n + n).toNat, by omega⟩
      refine ⟨m, by omega, fun w => ?_⟩
      have HR := Lib.hid hm
      clear hm
      go_enter Try.func85, Try.ntmps85
      go_wp2_with fail
      go_ret
      exact ⟨ret_i64 HR.out, rfl⟩
    · have d4 : decide (x.tmod n < 0) = false := by simp; omega
      refine ⟨0, by omega, fun w => ?_⟩
      have HR := Lib.hid (show x.tmod n = ((0 : Nat) : Int) by omega)
      go_enter Try.func85, Try.ntmps85
      go_wp2_with fail
      go_ret
      exact ⟨ret_i64 HR.out, rfl⟩

/-- The polynomial's values at the first k points. -/
def evs (p q : List Nat) (k : Nat) : List Nat := (List.range k).map fun i => Gf.ev p (q.getD i 0)
theorem evs_succ (p q : List Nat) (k : Nat) : bs (evs p q (k + 1)) = bs (evs p q k) ++ [.int .u8 (Gf.ev p (q.getD k 0) : Nat)] := by simp [evs, bs, List.range_succ]
theorem evs_len (p q : List Nat) (k : Nat) : (evs p q k).length = k := by simp [evs]
theorem evs_get (p q : List Nat) {k i : Nat} (h : i < k) : (evs p q k).getD i 0 = Gf.ev p (q.getD i 0) := by simp [evs, List.getD_eq_getElem?_getD, h]
theorem evs_small {p q : List Nat} (hp : Small p) (hq : Small q) (k : Nat) : Small (evs p q k) := Small.of_mem fun x hx => by
  obtain ⟨i, _, rfl⟩ := List.mem_map.1 hx
  exact Gf.ev_lt hp.sm (hq i)
theorem value_ev {w : World} {a : Option Addr} {n c x : Nat} {p : List Nat} (hx : x < 256) (h : RB w a n c p) : Calls Try.prog 45 #[.slice a n c, .int .u8 (x : Nat)] w fun e w' => e = .returned (.int .u8 (Gf.ev p x : Nat)) ∧ Below w.heap.size w w' := by
  have h1 := Value_any hx h
  have h2 := hval_ev hx h.small n (by rw [h.len]; exact Nat.le_refl _)
  rw [h.len] at h2
  rw [h2, Nat.sub_self] at h1
  exact h1
/-- Interpolation: the value elsewhere is the polynomial's. -/
theorem interp {p q : List Nat} {t : Nat} (hp : Small p) (hq : Small q) (hn : q.Nodup) (hl : p.length ≤ q.length) (ht : t < 256) : lval q (evs p q q.length) q.length t = Gf.ev p t := by
  rw [lval_F hq hn ht]
  exact Gf.F_eq (f := Gf.ev p) hq (evs_small hp hq _) hn ⟨p, hl, hp.sm, fun _ _ => rfl⟩ (fun j hj => (evs_get p q hj).symm) ht
/-- As many rows of a table as it has columns have an inverse. -/
theorem table_full {C : Nat} {rs : List Nat} (hC : C ≤ 255) (hl : rs.length = C) (hn : rs.Nodup) (hr : ∀ x ∈ rs, x < 256) : Gf.rdN (cut C (fun k => tabX C (rs.getD k 0)) C) C C = C := by
  have h1 : (List.range C).length = C := by simp
  have := Gf.table_inv (l := List.range C) (ts := rs) (S := cut C (fun k => tabX C (rs.getD k 0)) C) (range_small (by omega)) List.nodup_range (by rw [hl, h1]) hn hr (by rw [h1]; exact cut_long fun i _ => tabX_len _ _) (cut_byt fun i _ => tabX_small _ _) (fun r c hr1 hc1 => by
    rw [h1] at hr1 hc1 ⊢
    rw [cut_at hr1, at0_getD]
    unfold tabX
    have hm : rs.getD r 0 < 256 := by
      rw [List.getD_eq_getElem?_getD, List.getElem?_eq_getElem (by omega)]
      exact hr _ (List.getElem_mem _)
    rw [wts_get _ _ _ _ hc1]
    have := wf_W (l := List.range C) (range_small (by omega)) List.nodup_range hm (k := c) (by rw [h1]; exact hc1)
    rw [h1] at this
    exact this)
  rwa [h1] at this
/-- Which rows were taken. -/
def tkl (A : Nat) (rs : List Nat) : List Value := (List.range A).map fun j => .int .i64 (if j ∈ rs then 1 else 0)
theorem tkl_get {A : Nat} {rs : List Nat} {j : Nat} (h : j < A) : (tkl A rs)[j]? = some (.int .i64 (if j ∈ rs then 1 else 0)) := by simp [tkl, h]
theorem tkl_set {A : Nat} {rs rs' : List Nat} {r : Nat} (hr : r < A) (h : ∀ j, j ∈ rs' ↔ j = r ∨ j ∈ rs) : (tkl A rs).set r (.int .i64 1) = tkl A rs' := by
  apply List.ext_getElem?
  intro i
  rw [List.getElem?_set]
  by_cases hi : i < A
  · rw [tkl_get hi, tkl_get hi]
    by_cases e : r = i
    · subst e
      rw [if_pos rfl, if_pos (by simpa [tkl] using hr), if_pos ((h r).2 (.inl rfl))]
    · rw [if_neg e]
      by_cases e2 : i ∈ rs
      · rw [if_pos e2, if_pos ((h i).2 (.inr e2))]
      · rw [if_neg e2, if_neg fun e3 => (((h i).1 e3).elim (fun e4 => e e4.symm) e2)]
  · rw [if_neg (by intro e; subst e; exact hi hr), List.getElem?_eq_none (by simp [tkl]; omega), List.getElem?_eq_none (by simp [tkl]; omega)]

/-- What holds between the law's calls. -/
structure LSt (w0 : World) (pa : Option Addr) (pn pc : Nat) (p : List Nat) (qa : Option Addr) (qn qc : Nat) (q : List Nat) (ha : Option Addr) (hn : Nat) (zs : List Int) (w : World) : Prop where
  P : RB w pa pn pc p
  Q : RB w qa qn qc q
  H : RI w ha hn zs
  low : Below w0.heap.size w0 w
theorem LSt.step {w0 w w' : World} {pa qa ha : Option Addr} {pn pc qn qc hn : Nat} {p q : List Nat} {zs : List Int} (h : LSt w0 pa pn pc p qa qn qc q ha hn zs w) (hB : Below w.heap.size w w') : LSt w0 pa pn pc p qa qn qc q ha hn zs w' :=
  ⟨h.P.below hB, h.Q.below hB, h.H.below hB, h.low.trans (hB.mono h.low.size)⟩

set_option maxHeartbeats 1600000 in
set_option maxRecDepth 100000 in
theorem any_great {w : World} {pa qa ha : Option Addr} {pn pc qn qc hn hc t : Nat} {p q : List Nat} {zs : List Int} {k n : Int} (hp : RB w pa pn pc p) (hq : RB w qa qn qc q) (hh : RI w ha hn zs) (h : 24 < qn ∨ qn < pn ∨ 24 < hn) :
    Calls Try.prog 20 #[.slice pa pn pc, .slice qa qn qc, .int .u8 (t : Nat), .int .i64 k, .int .i64 n, .slice ha hn hc] w fun e w' => e = .returned (.bool true) ∧ Below w.heap.size w w' := by
  have hm1 := hp.most
  have hm2 := hq.most
  have hm3 := hh.most
  clear hp hq hh
  by_cases h1 : 24 < qn
  · have d1 : decide ((24 : Int) < (qn : Int)) = true := by simp; omega
    go_enter Try.func20, Try.ntmps20
    go_wp2_with fail
    refine (awake4 w).mono ?_
    rintro e w1 ⟨rfl, hB1⟩
    have HB1 := Lib.hid hB1
    clear hB1
    go_wp2_with fail
    go_ret
    exact ⟨rfl, HB1.out⟩
  · have d1 : decide ((24 : Int) < (qn : Int)) = false := by simp; omega
    by_cases h2 : qn < pn
    · have d2 : decide ((qn : Int) < (pn : Int)) = true := by simp; omega
      have d2' : decide (qn < pn) = true := by simp; omega
      go_enter Try.func20, Try.ntmps20
      go_wp2_with fail
      refine (awake4 w).mono ?_
      rintro e w1 ⟨rfl, hB1⟩
      have HB1 := Lib.hid hB1
      clear hB1
      go_wp2_with fail
      go_ret
      exact ⟨rfl, HB1.out⟩
    · have d2 : decide ((qn : Int) < (pn : Int)) = false := by simp; omega
      have d2' : decide (qn < pn) = false := by simp; omega
      have d3 : decide ((24 : Int) < (hn : Int)) = true := by simp; omega
      go_enter Try.func20, Try.ntmps20
      go_wp2_with fail
      refine (awake4 w).mono ?_
      rintro e w1 ⟨rfl, hB1⟩
      have HB1 := Lib.hid hB1
      clear hB1
      go_wp2_with fail
      go_ret
      exact ⟨rfl, HB1.out⟩

/-- The rows that were taken of a table. -/
structure Taken (wt wr : World) (C A : Nat) (s : Value) (m : Nat) (rs : List Nat) (vs : List Value) : Prop where
  len : rs.length = m
  nodup : rs.Nodup
  lt : ∀ x ∈ rs, x < A
  le : m ≤ C
  own : wr.ownsRow wt.heap.size 31 1 s m vs
  rows : ∀ k, k < m → ∃ a1 n1 c1, vs[k]? = some (.slice a1 n1 c1) ∧ RB wt a1 n1 c1 (tabX C (rs.getD k 0))
  tk : wr.ownsRow wt.heap.size 3 1 (.slice (some ⟨wt.heap.size, 0, none⟩) A A) A (tkl A rs)
  low : Below wt.heap.size wt wr
theorem info3 : (Try.prog.info? 3).map (fun i => (i.zero, i.size, i.bytes)) = some (some (.int .i64 0), 1, 8) := by kernel_rfl
theorem own_zeros3 {w : World} {B A : Nat} (h : w.ownsRow B 3 1 (.slice (some ⟨B, 0, none⟩) A A) A (madeCells #[Value.int .i64 0] A).toList) : w.ownsRow B 3 1 (.slice (some ⟨B, 0, none⟩) A A) A (tkl A []) := by
  have e : (madeCells #[Value.int .i64 0] A).toList = tkl A [] := by
    rw [toList_madeCells_one]
    apply List.ext_getElem
    · simp [tkl]
    · intro i h1 h2; simp [tkl]
  rw [← e]; exact h

theorem rr_of_own2 {w : World} {B N : Nat} {v : Value} {vs : List Value} {X : Nat → List Nat} (h : w.ownsRow B 31 1 v N vs) (h0 : 0 < N) (hr : ∀ k, k < N → ∃ a1 n1 c1, vs[k]? = some (.slice a1 n1 c1) ∧ RB w a1 n1 c1 (X k)) : RR w v N X := by
  obtain ⟨g, c, rfl⟩ := own_some h h0
  refine ⟨_, c, rfl, fun k hk => ?_⟩
  obtain ⟨a1, n1, c1, e, hb⟩ := hr k hk
  have := h.cells (g := g) rfl k _ e
  rw [Addr.add_lit] at this
  exact ⟨g, 0, a1, n1, c1, rfl, this, hb⟩
theorem own_slice31 {w : World} {B n : Nat} {v : Value} {xs : List Value} (h : w.ownsRow B 31 1 v n xs) : ∃ a c, v = .slice a n c := by
  rcases h.2 with ⟨rfl, rfl⟩ | ⟨g, cap, cur, rfl, _⟩
  · exact ⟨_, _, rfl⟩
  · exact ⟨_, _, rfl⟩
theorem own_at3 {w : World} {B g n c i : Nat} {u : Value} {xs : List Value} (h : w.ownsRow B 3 1 (.slice (some ⟨g, 0, none⟩) n c) n xs) (hu : xs[i]? = some u) : w.cell? ⟨g, i, none⟩ = some u ∧ w.frozen? ⟨g, i, none⟩ = false := by
  obtain ⟨g', c', e, _, _, h1, h2, _⟩ := own_cellV h hu
  injection e with e _ _
  injection e with e
  injection e with e _ _
  subst e
  exact ⟨h1, h2⟩
section
variable {wt wr w7 : World} {C A m r : Nat} {s s' : Value} {rs : List Nat} {vs : List Value}
theorem own_far31 {B r : Nat} {xs : List Value} (h : wr.ownsRow B 31 1 s m xs) {ys : List Value} {g A : Nat} (ht : wr.ownsRow B 3 1 (.slice (some ⟨g, 0, none⟩) A A) A ys) (u : Value) : (wr.setCell ⟨g, r, none⟩ u).ownsRow B 31 1 s m xs := by
  have hu := unl_types (by decide) h ht
  refine own_frame h fun b hb _ => Below.heap_setCell wr ⟨g, r, none⟩ u b fun e => ?_
  exact hu b hb (by rw [e]; rfl)
theorem Taken.mark (h : Taken wt wr C A s m rs vs) (hr : r < A) (hin : r ∈ rs) : Taken wt (wr.setCell ⟨wt.heap.size, r, none⟩ (.int .i64 1)) C A s m rs vs :=
  ⟨h.len, h.nodup, h.lt, h.le, own_far31 h.own h.tk _, h.rows, by
    have := own_setV (i := r) (.int .i64 1) h.tk
    rwa [tkl_set (rs' := rs) hr fun j => ⟨fun hj => .inr hj, fun hj => hj.elim (fun e => e ▸ hin) id⟩] at this, h.low.setCell (Nat.le_refl _) _⟩
theorem Taken.more {a1 : Option Addr} {n1 c1 : Nat} (h : Taken wt wr C A s m rs vs) (hr : r < A) (hin : r ∉ rs) (hm : m < C) (ho7 : w7.ownsRow wt.heap.size 31 1 s' (m + 1) (vs ++ [.slice a1 n1 c1])) (hrb : RB wt a1 n1 c1 (tabX C r))
    (htk : w7.ownsRow wt.heap.size 3 1 (.slice (some ⟨wt.heap.size, 0, none⟩) A A) A (tkl A rs)) (hB7 : Below wt.heap.size wt w7) : Taken wt (w7.setCell ⟨wt.heap.size, r, none⟩ (.int .i64 1)) C A s' (m + 1) (rs ++ [r]) (vs ++ [.slice a1 n1 c1]) := by
  have hvl : vs.length = m := by have := h.own.1; rwa [Nat.mul_one] at this
  have hl := h.len
  refine ⟨by rw [List.length_append, hl]; rfl, List.nodup_append.2 ⟨h.nodup, List.nodup_cons.2 ⟨by simp, List.nodup_nil⟩, fun a ha b hb e => ?_⟩, fun x hx => ?_, hm, own_far31 ho7 htk _, fun k hk => ?_, ?_, hB7.setCell (Nat.le_refl _) _⟩
  · rw [List.mem_singleton.1 hb] at e
    exact hin (e ▸ ha)
  · rcases List.mem_append.1 hx with hx | hx
    · exact h.lt x hx
    · rw [List.mem_singleton.1 hx]; exact hr
  · by_cases hk1 : k < m
    · obtain ⟨a2, n2, c2, e, hb⟩ := h.rows k hk1
      refine ⟨a2, n2, c2, by rw [List.getElem?_append_left (by omega)]; exact e, ?_⟩
      rw [List.getD_eq_getElem?_getD, List.getElem?_append_left (by omega), ← List.getD_eq_getElem?_getD]
      exact hb
    · obtain rfl : k = m := by omega
      refine ⟨_, _, _, by rw [List.getElem?_append_right (by omega), hvl, Nat.sub_self]; rfl, ?_⟩
      rw [List.getD_eq_getElem?_getD, List.getElem?_append_right (by omega), hl, Nat.sub_self]
      exact hrb
  · have := own_setV (i := r) (.int .i64 1) htk
    rwa [tkl_set (rs' := rs ++ [r]) hr fun j => by rw [List.mem_append, List.mem_singleton]; exact Or.comm] at this
end

set_option maxHeartbeats 6000000 in
set_option maxRecDepth 100000 in
theorem any_small {w : World} {pa qa ha : Option Addr} {pn pc qn qc hn hc t : Nat} {p q : List Nat} {zs : List Int} {k n : Int} (ht : t < 256) (hk1 : -9223372036854775808 ≤ k) (hk2 : k ≤ 9223372036854775807) (hn1 : -9223372036854775808 ≤ n) (hn2 : n ≤ 9223372036854775807)
    (hp : RB w pa pn pc p) (hq : RB w qa qn qc q) (hh : RI w ha hn zs) (h1 : qn ≤ 24) (h2 : pn ≤ qn) (h3 : hn ≤ 24) :
    Calls Try.prog 20 #[.slice pa pn pc, .slice qa qn qc, .int .u8 (t : Nat), .int .i64 k, .int .i64 n, .slice ha hn hc] w fun e w' => e = .returned (.bool true) ∧ Below w.heap.size w w' := by
  obtain ⟨i0, hi, hz0, hz1, hz2⟩ := info_parts info5
  obtain ⟨i31, hj, hy0, hy1, hy2⟩ := info_parts info31
  obtain ⟨i3, hg, hx0, hx1, hx2⟩ := info_parts info3
  obtain ⟨r1, hr1, hpk1⟩ := pick_any (x := k) (n := 12) (by omega) (by omega) hk1 hk2
  obtain ⟨r2, hr2, hpk2⟩ := pick_any (x := n) (n := 40) (by omega) (by omega) hn1 hn2
  have HP1 := Lib.hid hpk1
  have HP2 := Lib.hid hpk2
  have d1 : decide ((24 : Int) < (qn : Int)) = false := by simp; omega
  have d2 : decide ((qn : Int) < (pn : Int)) = false := by simp; omega
  have d2' : decide (qn < pn) = false := by simp; omega
  have d3 : decide ((24 : Int) < (hn : Int)) = false := by simp; omega
  have HPS := Lib.hid (And.intro hp.small (And.intro hp.len (And.intro hq.small hq.len)))
  have H0 := Lib.hid (LSt.mk (w0 := w) hp hq hh (Below.refl _ _))
  clear hp hq hh hpk1 hpk2 hk1 hk2 hn1 hn2
  go_enter Try.func20, Try.ntmps20
  go_wp2_with fail
  refine (awake4 w).mono ?_
  rintro e w1 ⟨rfl, hB1⟩
  have H1 := Lib.hid (H0.out.step hB1)
  clear hB1 H0
  go_wp2_with fail
  go_loopw [13, 14] (fun v i wr => ∃ j : Nat, j ≤ qn ∧ i = .int .i64 j ∧ Hid (wr.ownsRow w1.heap.size 5 1 v j (bs (evs p q j))) ∧ Hid (Below w1.heap.size w1 wr)) (fun _ i _ => qn - (intOf i).toNat)
  case atStart => exact ⟨0, Nat.zero_le _, rfl, World.ownsRow_nil _ _ _ _, Below.refl _ _⟩
  case round =>
    obtain ⟨j, hj1, rfl, HO, HB⟩ := hrel
    by_cases hj2 : j < qn
    · obtain ⟨b1, o1, rfl, hc1⟩ := (H1.out.Q.below HB.out).at_ j hj2
      have hx := H1.out.Q.small j
      have HV := Lib.hid (value_ev hx (H1.out.P.below HB.out))
      have HES := Lib.hid (evs_succ p q j)
      have hsz : w1.heap.size ≤ wr.heap.size := HB.out.size
      generalize Gf.ev p (q.getD j 0) = y at *
      generalize q.getD j 0 = x at *
      go_wp2_with fail
      refine HV.out.mono ?_
      rintro e w5 ⟨rfl, hB5⟩
      have HAL := Lib.hid ((own_below HO.out hB5).alloc (.cells #[.int .u8 (y : Nat)] 5))
      have HB5 := Lib.hid (HB.out.trans (hB5.mono hsz))
      have HOL := Lib.hid (fun g e => (own_lt HO.out (g := g) e).1)
      have hsz5 : w1.heap.size ≤ w5.heap.size := Nat.le_trans hsz hB5.size
      clear hB5
      go_wp2_with (at_builtin; refine wpList_append_own _ rfl (.tmp 50) (.tmp 57) 31 rfl w1.heap.size 5 i0 (.int .u8 0) 1 1 Try.underlying31 hi hz0 hz1 hz2 rfl (by decide) u13 j (bs (evs p q j)) rfl HAL.out ⟨w5.heap.size, 0, none⟩ 1 1 [.int .u8 (y : Nat)] rfl rfl (cell_new _ _) (one_u8 _) (by unfold maxLen; omega) (by omega) (by simp; omega) ?_)
      intro v' w6 hown2 hg2 _
      have HO6 := Lib.hid (show w6.ownsRow w1.heap.size 5 1 v' (j + 1) (bs (evs p q (j + 1))) by rw [HES.out]; exact hown2)
      have HB6 := Lib.hid ((HB5.out.alloc hsz5 (.cells #[.int .u8 (y : Nat)] 5)).grown hg2 (by simp; omega) (fun g e => HOL.out g e))
      clear hown2 hg2 HAL
      go_wp2_with fail
      go_roundw
      case rel => exact ⟨j + 1, by omega, by go_num, HO6, HB6⟩
      case measure => simp [intOf]; omega
    · obtain rfl : j = qn := by omega
      obtain ⟨va, vc, rfl⟩ := own_slice HO.out
      have H2 := Lib.hid (H1.out.step HB.out)
      have HVS := Lib.hid (own_rb2 HO.out (evs_small HPS.out.1 HPS.out.2.2.1 _) (by omega))
      clear HO H1 HB
      by_cases hd : q.Nodup
      case' pos =>
        have hval := Value_ok ht H2.out.Q HVS.out hd
        have hin := interp HPS.out.1 HPS.out.2.2.1 hd (by rw [HPS.out.2.1, HPS.out.2.2.2]; exact h2) ht
        rw [HPS.out.2.2.2] at hin
        rw [hin] at hval
        have HVL := Lib.hid hval
        have HEV := Lib.hid fun W (hW : LSt w pa pn pc p qa j qc q ha hn zs W) => value_ev ht hW.P
        clear hval hin hd
        generalize Gf.ev p t = y at *
        go_wp2_with fail
        refine HVL.out.mono ?_
        rintro e w7 ⟨rfl, hB7⟩
        have H7 := Lib.hid (H2.out.step hB7)
        clear hB7 H2 HVL HVS
        go_wp2_with fail
        refine (HEV.out w7 H7.out).mono ?_
        rintro e w8 ⟨rfl, hB8⟩
        have H8 := Lib.hid (H7.out.step hB8)
        clear hB8 H7 HEV
        go_wp2_with fail
      case' neg =>
        have HVL := Lib.hid (Value_twice (b := va) (c2 := vc) (t := t) H2.out.Q hd)
        clear hd
        go_wp2_with fail
        refine HVL.out.mono ?_
        rintro e w8 ⟨rfl, hB8⟩
        have H8 := Lib.hid (H2.out.step hB8)
        clear hB8 H2 HVL HVS
        go_wp2_with fail
      all_goals
        refine (HP1.out w8).mono ?_
        rintro e w9 ⟨rfl, rfl⟩
        clear HP1
        go_wp2_with fail
        refine (HP2.out w8).mono ?_
        rintro e w9 ⟨rfl, rfl⟩
        clear HP2
        go_wp2_with fail
        obtain ⟨C, hC⟩ : ∃ C : Nat, (1 : Int) + (r1 : Int) = (C : Int) := ⟨1 + r1, by omega⟩
        obtain ⟨A, hA⟩ : ∃ A : Nat, (C : Int) + (r2 : Int) = (A : Int) := ⟨C + r2, by omega⟩
        rw [hC, hA]
        have c1 : 1 ≤ C := by omega
        have c2 : C ≤ 12 := by omega
        have c3 : C ≤ A := by omega
        have c4 : A ≤ 51 := by omega
        clear hC hA hr1 hr2
        refine (Table_ok c1 c3 (by omega)).mono ?_
        rintro e wt ⟨tv, rfl, hT, hBt⟩
        obtain ⟨ta, tc, rfl⟩ := hT.slice
        have HT := Lib.hid (hT.rr (fun i _ => ⟨tabX_small _ _, by rw [tabX_len]; omega⟩))
        have H9 := Lib.hid (H8.out.step hBt)
        clear hT hBt H8
        go_wp2_with (refine wpList_make_full _ rfl (.tmp 98) (.tmp 98) 41 rfl wt.heap.size 3 i3 (.int .i64 0) 1 Try.underlying41 hg hx0 hx1 .i64 .i64 _ _ A rfl rfl (by omega) (by omega) ?_ ?_ (Nat.le_refl _) ?_)
        · rw [hx2]; omega
        · unfold maxLen; omega
        intro wm hownm hgm
        have HTK := Lib.hid (Taken.mk (wt := wt) (C := C) (rs := []) (vs := []) rfl List.nodup_nil (fun x hx => absurd hx (by simp)) (Nat.zero_le _) (World.ownsRow_nil wm wt.heap.size 31 1) (fun k hk => absurd hk (Nat.not_lt_zero k)) (own_zeros3 hownm) ((Below.refl _ _).grown hgm (Nat.le_refl _) (fun j e => by cases e)))
        clear hownm hgm
        go_wp2_with fail
        go_loopw [21, 23] (fun s i wr => ∃ (j m : Nat) (rs : List Nat) (vs : List Value), j ≤ hn ∧ i = .int .i64 j ∧ Hid (Taken wt wr C A s m rs vs)) (fun _ i _ => hn - (intOf i).toNat)
        case atStart => exact ⟨0, 0, [], [], Nat.zero_le _, rfl, HTK⟩
        case round =>
          clear HTK
          obtain ⟨j2, m, rs, vs, hj2, rfl, HK⟩ := hrel
          obtain ⟨sa, sc, hse⟩ := own_slice31 HK.out.own
          subst hse
          have hmC := HK.out.le
          by_cases hlt : j2 < hn ∧ m < C
          · obtain ⟨g1, g2⟩ := hlt
            have e1 : decide ((j2 : Int) < (hn : Int)) = true := by simp; omega
            have e1' : decide (j2 < hn) = true := by simp; omega
            have e2 : decide ((m : Int) < (C : Int)) = true := by simp; omega
            have e2' : decide (m < C) = true := by simp; omega
            obtain ⟨⟨b1, o1, rfl, hc1⟩, z1, z2⟩ := (H9.out.H.below HK.out.low).at_ j2 g1
            obtain ⟨r, hrA, hpk⟩ := pick_any (x := zs.getD j2 0) (n := A) (by omega) (by omega) z1 z2
            have HPK := Lib.hid hpk
            clear hpk
            generalize zs.getD j2 0 = z at *
            go_wp2_with fail
            refine (HPK.out _).mono ?_
            rintro e wx ⟨rfl, rfl⟩
            clear HPK
            by_cases hin : r ∈ rs
            · obtain ⟨hcr, hfr⟩ := own_at3 HK.out.tk (tkl_get hrA)
              rw [if_pos hin] at hcr
              have HK2 := Lib.hid (HK.out.mark hrA hin)
              clear HK
              go_wp2_with fail
              go_roundw
              case rel => exact ⟨j2 + 1, m, rs, vs, by omega, by go_num, HK2⟩
              case measure => simp [intOf]; omega
            · obtain ⟨hcr, hfr⟩ := own_at3 HK.out.tk (tkl_get hrA)
              rw [if_neg hin] at hcr
              obtain ⟨a', c', e, hX⟩ := HT.out.shape
              injection e with e3 e4 e5
              subst e3; subst e5; clear e4
              obtain ⟨b2, o2, a2, n2, cc2, rfl, hd0, hr2⟩ := hX r hrA
              have hd1 := (HK.out.low.cell (p := ⟨b2, o2 + r, none⟩) (block_lt_of_cell hd0)).trans hd0
              have HR2 := Lib.hid hr2
              have HAL := Lib.hid (HK.out.own.alloc (.cells #[.slice a2 n2 cc2] 31))
              have HTA := Lib.hid (HK.out.tk.alloc (.cells #[.slice a2 n2 cc2] 31))
              have HLO := Lib.hid (HK.out.low.alloc HK.out.low.size (.cells #[.slice a2 n2 cc2] 31))
              have HOL := Lib.hid (fun g e => (own_lt HK.out.own (g := g) e).1)
              have hsz : wt.heap.size ≤ wr.heap.size := HK.out.low.size
              clear hX hr2 hd0
              go_wp2_with (at_builtin; refine wpList_append_own3 _ rfl (.tmp 123) (.tmp 128) 51 rfl wt.heap.size 31 i31 (.slice none 0 0) 24 Try.underlying51 hj hy0 hy1 hy2 rfl (.slice sa m sc) m vs rfl HAL.out ⟨wr.heap.size, 0, none⟩ 1 1 [.slice a2 n2 cc2] rfl rfl (cell_new31 _ _) (one_sl _ _ _) (by unfold maxLen; omega) (by omega) (by simp; omega) ?_)
              intro v7 w7 ho7 hg7 hb7 hk7
              have htk7 := hk7 _ _ _ _ _ HTA.out (.inr (unl_types (by decide) HTA.out HAL.out))
              obtain ⟨hc7, hf7⟩ := own_at3 htk7 (tkl_get hrA)
              have HK2 := Lib.hid (HK.out.more hrA hin g2 ho7 HR2.out htk7 (HLO.out.grown hg7 (by simp; omega) (fun g e => HOL.out g e)))
              clear ho7 hg7 hb7 hk7 htk7 HAL HTA HLO HK hcr hfr
              go_wp2_with fail
              go_roundw
              case rel => exact ⟨j2 + 1, m + 1, rs ++ [r], vs ++ [.slice a2 n2 cc2], by omega, by go_num, HK2⟩
              case measure => simp [intOf]; omega
          · have H10 := Lib.hid (H9.out.step (Below.mono (B' := wt.heap.size) HK.out.low (Nat.le_refl _)))
            have hrr : RR wr (.slice sa m sc) m (fun k => tabX C (rs.getD k 0)) := by
              by_cases m0 : 0 < m
              · exact rr_of_own2 HK.out.own m0 fun k hk => by
                  obtain ⟨a1, n1, c1, e, hb⟩ := HK.out.rows k hk
                  exact ⟨a1, n1, c1, e, hb.below HK.out.low⟩
              · exact ⟨sa, sc, rfl, fun k hk => absurd hk (by omega)⟩
            have htf : m = C → Gf.rdN (cut m (fun k => tabX C (rs.getD k 0)) m) m m = m := fun e => by
              subst e
              exact table_full (by omega) HK.out.len HK.out.nodup fun x hx => by have := HK.out.lt x hx; omega
            have hlen : ∀ i, i < m → ((fun k => tabX C (rs.getD k 0)) i).length = C := fun i _ => tabX_len _ _
            have hM := fun (m0 : 0 < m) => isM_of (N := m) (W := C) (X := fun k => tabX C (rs.getD k 0)) (by omega) (by omega) hlen (by omega)
            by_cases hmc : m = C
            · obtain ⟨hM1, hM2⟩ := hM (by omega)
              have HI := Lib.hid (inv_give hrr hM1 (hM2.trans hmc.symm) (htf hmc))
              have e4 : decide ((m : Int) < (C : Int)) = false := by simp; omega
              have e4' : decide (m < C) = false := by simp; omega
              have e5 : ((m : Int) == (C : Int)) = true := by simp; omega
              have e5' : decide (m = C) = true := by simp; omega
              clear hrr htf hlen hM hM1 hM2 hmc HK
              by_cases g1 : j2 < hn
              · have e1 : decide ((j2 : Int) < (hn : Int)) = true := by simp; omega
                have e1' : decide (j2 < hn) = true := by simp; omega
                go_wp2_with fail
                refine HI.out.mono ?_
                rintro e w12 ⟨gi, rfl, _, hB12⟩
                have H12 := Lib.hid (H10.out.step hB12.out)
                clear hB12
                go_wp2_with fail
                go_ret
                exact ⟨rfl, H12.out.low⟩
              · have e1 : decide ((j2 : Int) < (hn : Int)) = false := by simp; omega
                have e1' : decide (j2 < hn) = false := by simp; omega
                go_wp2_with fail
                refine HI.out.mono ?_
                rintro e w12 ⟨gi, rfl, _, hB12⟩
                have H12 := Lib.hid (H10.out.step hB12.out)
                clear hB12
                go_wp2_with fail
                go_ret
                exact ⟨rfl, H12.out.low⟩
            · have g1 : ¬ j2 < hn := fun h => hlt ⟨h, by omega⟩
              have e1 : decide ((j2 : Int) < (hn : Int)) = false := by simp; omega
              have e1' : decide (j2 < hn) = false := by simp; omega
              have e4 : decide ((m : Int) < (C : Int)) = true := by simp; omega
              have e4' : decide (m < C) = true := by simp; omega
              by_cases m0 : 0 < m
              · have HI := Lib.hid (Inverse_bad (by omega) hrr fun e => hmc (e.2.symm.trans (hM m0).2))
                have e6 : decide ((0 : Int) < (m : Int)) = true := by simp; omega
                have e6' : decide (0 < m) = true := by simp; omega
                clear hrr htf hlen hM hmc HK hlt
                go_wp2_with fail
                refine HI.out.mono ?_
                rintro e w12 ⟨rfl, rfl⟩
                go_wp2_with fail
                go_ret
                exact ⟨rfl, H10.out.low⟩
              · obtain rfl : m = 0 := by omega
                obtain ⟨hM1, hM2⟩ := isM_of (N := 0) (W := 0) (X := fun k => tabX C (rs.getD k 0)) (by omega) (by omega) (fun i hi => absurd hi (by omega)) (fun _ => rfl)
                have HI := Lib.hid (inv_give hrr hM1 hM2 rfl)
                clear hrr htf hlen hM hM1 hM2 hmc HK hlt
                go_wp2_with fail
                refine HI.out.mono ?_
                rintro e w12 ⟨gi, rfl, _, hB12⟩
                have H12 := Lib.hid (H10.out.step hB12.out)
                clear hB12
                go_wp2_with fail
                go_ret
                exact ⟨rfl, H12.out.low⟩
end Go.Proofs.Ytokeoodkioobdaa
