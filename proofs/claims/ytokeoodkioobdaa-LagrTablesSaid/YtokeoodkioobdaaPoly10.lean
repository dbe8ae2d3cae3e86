/- The iterator back over a row whose bytes turn in its rounds: only the places are told. Conditions: rows are shorter than 2 to the 47. -/
import Derived.Test.YtokeoodkioobdaaPoly9
import Derived.Test.YtokeoodkioobdaaQt
namespace Go.Proofs.Ytokeoodkioobdaa
open Go.RowKit Go.Shelf

attribute [local go_sem] Oper.semAt_some

/-- What the iterator reads where the bytes may turn: the slice in its box, a byte in each cell. -/
structure Rq (W : World) (Bs g n c : Nat) : Prop where
  box : W.cell? ⟨Bs, 0, none⟩ = some (.slice (some ⟨g, 0, none⟩) n c)
  at_ : ∀ j, j < n → ∃ v : Nat, v < 256 ∧ W.cell? ⟨g, j, none⟩ = some (.int .u8 (v : Nat))
/-- A place, and a byte. -/
abbrev Pl (n : Nat) := { p : Nat × Nat // p.1 < n ∧ p.2 < 256 }
def Kq (n₀ Bs g n c : Nat) (A B : World) : Prop := Below n₀ A B ∧ (Rq A Bs g n c → Rq B Bs g n c)
theorem kq_t {n₀ Bs g n c : Nat} {A B C : World} (h : Kq n₀ Bs g n c A B) (k : Kq n₀ Bs g n c B C) : Kq n₀ Bs g n c A C := ⟨h.1.trans k.1, fun r => k.2 (h.2 r)⟩
theorem Rq.put {Bs g n c : Nat} {W : World} {l : Nat} {o o' : Obj} (h : W.heap[l]? = some o) (h1 : o.isCells = false) (r : Rq W Bs g n c) : Rq (W.putObj l o') Bs g n c :=
  ⟨cell_kept r.box (grownBy_putObj' W l o') (fun b e => by cases e; exact ⟨o, h, h1⟩), fun j hj => by
    obtain ⟨v, hv, hc⟩ := r.at_ j hj
    exact ⟨v, hv, cell_kept hc (grownBy_putObj' W l o') (fun b e => by cases e; exact ⟨o, h, h1⟩)⟩⟩
theorem kq_b {n₀ Bs g n c : Nat} {w : World} (hn : n₀ ≤ w.heap.size) (W : World) (l : Nat) (o o' : Obj) (hl : w.heap.size ≤ l) (h : W.heap[l]? = some o) (h1 : o.isCells = false) (h2 : o.isWalk = false) : Kq n₀ Bs g n c W (W.putObj l o') :=
  ⟨belowK_b hn W l o o' hl h h1 h2, Rq.put h h1⟩
theorem Rq.below {Bs g n c : Nat} {w W : World} (r : Rq w Bs g n c) (h : Below w.heap.size w W) : Rq W Bs g n c :=
  ⟨(h.cell (p := ⟨Bs, 0, none⟩) (block_lt_of_cell r.box)).trans r.box, fun j hj => by
    obtain ⟨v, hv, hc⟩ := r.at_ j hj
    exact ⟨v, hv, (h.cell (p := ⟨g, j, none⟩) (block_lt_of_cell hc)).trans hc⟩⟩

set_option maxRecDepth 100000 in
set_option maxHeartbeats 2000000 in
/-- The iterator itself. -/
theorem back2_in (F : Fence) (n : Nat) (h7 : F.fn 131) (hro : F.round = none) (hn : 1 ≤ n) (l Bs g : Nat) (len cap : Nat) (hreach : len ≤ 140737488351232) (Kp : World → World → Prop) (hKp : ∀ A B, Kp A B → Rq A Bs g len cap → Rq B Bs g len cap) (J Jx : List (Pl len) → World → Prop)
    (hY : ∀ pre x W, J pre W → pre.length < len → YieldAt F (n - 1) Try.prog l #[.int .i64 (x.1.1 : Nat), .int .u8 (x.1.2 : Nat)] W fun e W' =>
      (e = .returned (.bool true) ∧ J (pre ++ [x]) W' ∧ Kp W W') ∨ (e = .returned (.bool false) ∧ Jx (pre ++ [x]) W'))
    (W : World) (hR : Rq W Bs g len cap) (h0 : J [] W) :
    CallsIn F n Try.prog 131 #[.func (.yield l) #[] #[], .pointer (some ⟨Bs, 0, none⟩)] W fun e W' => (∃ v, e = .returned v) ∧
      ((∃ ys : List (Pl len), ys.map (·.1.1) = dn len len ∧ J ys W') ∨ (∃ pre : List (Pl len), True ∧ Jx pre W')) := by
  have hbx := hR.box
  have HR := Lib.hid hR
  clear hR
  refine callsIn_of_wp Try.func131 rfl h7 ?_ hro
  simp only [Try.ntmps131, List.size_toArray, List.length_cons, List.length_nil, Nat.reduceAdd, Nat.reduceSub, Array.replicate_succ, Array.replicate_zero, List.push_toArray, List.append_toArray, List.nil_append, List.cons_append]
  gi_wp2
  gi_loopw [3] (fun i wr => ∃ m : Nat, m ≤ len ∧ i = .int .i64 ((m : Int) - 1) ∧ (∃ pre : List (Pl len), Hid (pre.map (·.1.1) = dn len (len - m)) ∧ J pre wr) ∧ Hid (Rq wr Bs g len cap))
    (fun i _ => (intOf i + 1).toNat)
  case atStart => exact ⟨len, Nat.le_refl _, rfl, ⟨[], by rw [Nat.sub_self]; rfl, h0⟩, HR⟩
  case round =>
    clear hbx
    obtain ⟨m, hm, rfl, ⟨pre, hpre, hJs⟩, hnx⟩ := hrel
    have hsl := hnx.out.box
    cases m with
    | zero =>
      simp only [show ((0 : Nat) : Int) - 1 = -1 from rfl]
      gi_wp2
      refine ⟨fun _ h => (by cases h), ?_⟩
      gi_wp2
      go_end0
      exact ⟨⟨_, rfl⟩, .inl ⟨_, hpre.out, hJs⟩⟩
    | succ j =>
      simp only [show ((j + 1 : Nat) : Int) - 1 = (j : Int) from by omega]
      obtain ⟨v, hv, hcx⟩ := hnx.out.at_ j (by omega)
      have hlen : pre.length = len - (j + 1) := by have := congrArg List.length hpre.out; rwa [List.length_map, length_dn] at this
      obtain ⟨fn, tmps, assign, body, hy, hR⟩ := hY pre ⟨(j, v), by show j < len; omega, hv⟩ wr hJs (by omega)
      have hst : (pre ++ [(⟨(j, v), by show j < len; omega, hv⟩ : Pl len)]).map (·.1.1) = dn len (len - j) := by
        rw [List.map_append, hpre.out, show len - j = len - (j + 1) + 1 by omega, dn_succ]
        show _ ++ [j] = _
        rw [show len - 1 - (len - (j + 1)) = j by omega]
      have HST := Lib.hid hst
      clear hst hlen
      gi_wp2
      refine hR.mono ?_
      rintro e W3 (⟨rfl, hJ3, hk3⟩ | ⟨rfl, hJx3⟩)
      · have h3 := Lib.hid (hKp _ _ hk3 hnx.out)
        clear hnx
        gi_wp2
        go_roundw
        case rel => exact ⟨j, by omega, by go_num, ⟨_, HST, hJ3⟩, h3⟩
        case measure => simp [intOf]
      · gi_wp2
        go_end0
        exact ⟨⟨_, rfl⟩, .inr ⟨_, trivial, hJx3⟩⟩

theorem back2_stops (F : Fence) (n : Nat) (h8 : F.fn 131) (hro : F.round = none) (hn : 1 ≤ n) (Bs n₀ g : Nat) (len cap : Nat) (hreach : len ≤ 140737488351232) (w : World) (hR : Rq w Bs g len cap) :
    SeqStopsK F n Try.prog 131 #[.pointer (some ⟨Bs, 0, none⟩)] (fun x : Pl len => #[Value.int .i64 (x.1.1 : Nat), Value.int .u8 (x.1.2 : Nat)]) (Kq n₀ Bs g len cap) (fun ys => ys.map (·.1.1) = dn len len) (fun _ => True) len w := fun l J Jx W hW _ _ hY h0 =>
  back2_in F n h8 hro hn l Bs g len cap hreach (Kq n₀ Bs g len cap) (fun _ _ k => k.2) J Jx hY W (hR.below hW) h0
end Go.Proofs.Ytokeoodkioobdaa
