/- The reference's Lands once more: what it tells is its own. Conditions: rows are shorter than 2 to the 40. -/
import Derived.Test.YtfojhmobnedekaaFate13
import Derived.Test.YtfojhmobnedekaaWire13
import Derived.Test.YtfojhmobnedekaaWire15
import Derived.Test.YtfojhmobnedekaaWire14
import Derived.Test.YtfojhmobnedekaaWire16
namespace Go.Proofs.Ytfojhmobnedekaa
open Go.RowKit

/-- The reference's landings: a row of the call's own, each one's bytes in a row of their own. -/
structure RL (B : Nat) (v : Value) (ls : List Ld) (w : World) : Prop where
  row : w.ownsRow B 40 3 v ls.length (ls.flatMap Ld.cells)
  made : Made B (ls.map Ld.r) w
theorem row_new (w : World) {B e size n : Nat} {xs : List Value} (hl : xs.length = n * size) (hB : B ≤ w.heap.size) (hn : n ≤ 1000000) : (w.alloc (.cells xs.toArray e)).ownsRow B e size (.slice (some ⟨w.heap.size, 0, none⟩) n n) n xs :=
  ⟨hl, .inr ⟨_, n, _, rfl, hB, heap_alloc_new w _, Nat.le_refl _, (by unfold maxLen; omega), by simpa using hl, by simp [← hl]⟩⟩
theorem own_allocS {w : World} {B e size n : Nat} {v : Value} {xs : List Value} (h : w.ownsRow B e size v n xs) (o : Obj) : (w.alloc o).ownsRow B e size v n xs := own_frame3 h fun g _ hg => Below.heap_alloc w o g hg
theorem one_n {d q : Int} {n c : Nat} {a : Option Addr} {l : List Nat} : ∀ x ∈ [(⟨d, q, ⟨a, n, c, l⟩⟩ : Ld)], x.r.n = n := fun x hx => by rw [List.mem_singleton.1 hx]
theorem two_n {d q d2 q2 : Int} {n c c2 : Nat} {a a2 : Option Addr} {l l2 : List Nat} : ∀ x ∈ [(⟨d, q, ⟨a, n, c, l⟩⟩ : Ld), ⟨d2, q2, ⟨a2, n, c2, l2⟩⟩], x.r.n = n := fun x hx => by
  simp at hx; rcases hx with rfl | rfl <;> rfl
theorem rl_one {w : World} {B n c : Nat} {d q : Int} {a : Option Addr} {l : List Nat} (h : w.ownsRow B 5 1 (.slice a n c) n (bs l)) (hB : B ≤ w.heap.size) : RL B (.slice (some ⟨w.heap.size, 0, none⟩) 1 1) [⟨d, q, ⟨a, n, c, l⟩⟩] (w.alloc (.cells #[.int .i64 d, .int .i64 q, .slice a n c] 40)) :=
  ⟨row_new w (by rfl) hB (by omega), ⟨fun r hr => by rw [List.mem_singleton.1 hr]; exact own_allocS h _, List.pairwise_singleton _ _⟩⟩
theorem rl_two {w : World} {B n c n2 c2 : Nat} {d q d2 q2 : Int} {a a2 : Option Addr} {l l2 : List Nat} (h : w.ownsRow B 5 1 (.slice a n c) n (bs l)) (h2 : w.ownsRow B 5 1 (.slice a2 n2 c2) n2 (bs l2)) (hu : Unl (.slice a n c) (.slice a2 n2 c2)) (hB : B ≤ w.heap.size) :
    RL B (.slice (some ⟨w.heap.size, 0, none⟩) 2 2) [⟨d, q, ⟨a, n, c, l⟩⟩, ⟨d2, q2, ⟨a2, n2, c2, l2⟩⟩] (w.alloc (.cells #[.int .i64 d, .int .i64 q, .slice a n c, .int .i64 d2, .int .i64 q2, .slice a2 n2 c2] 40)) :=
  ⟨row_new w (by rfl) hB (by omega), ⟨fun r hr => by
    simp at hr
    rcases hr with rfl | rfl
    · exact own_allocS h _
    · exact own_allocS h2 _, List.pairwise_cons.2 ⟨fun s hs => by
      rw [List.mem_singleton.1 hs]; exact hu, List.pairwise_singleton _ _⟩⟩⟩

set_option maxHeartbeats 3200000 in
set_option maxRecDepth 100000 in
theorem rlandsO {w : World} {k b al pl now : Int} {a : Option Addr} {n c : Nat} {l : List Nat} (h : RB w a n c l) (hr : RightF k b al pl) (hn : 0 ≤ now ∧ now ≤ 2147483647) :
    Calls Try.prog 17 #[.agg #[.int .i64 k, .int .i64 b, .int .i64 al, .int .i64 pl], .slice a n c, .int .i64 now] w fun e w' => ∃ v, e = .returned (.tuple #[v, .int .i64 0]) ∧ ∃ ls : List Ld, ls.map Ld.tell = landsOf k b al pl now l ∧ (∀ x ∈ ls, x.r.n = n) ∧ RL w.heap.size v ls w' ∧ Below w.heap.size w w' := by
  have hB0 : Below w.heap.size w (w.alloc (.cells #[.int .i64 k, .int .i64 b, .int .i64 al, .int .i64 pl] 24)) := (Below.refl _ _).alloc (Nat.le_refl _) _
  have hF0 := fate_box w k b al pl
  have HF0 := Lib.hid hF0
  obtain ⟨c0, c1, c2, c3⟩ := hF0
  have H23 := Lib.hid fun W => (show Calls Try.prog 28 #[.agg #[.int .i64 k, .int .i64 b, .int .i64 al, .int .i64 pl]] W fun e w' => e = .returned (.bool true) ∧ Below W.heap.size W w' from decide_eq_true hr ▸ rright_any k b al pl W)
  have H59 := Lib.hid fun W => rwithin_is (n := now) (l := 0) (m := 2147483647) (t := true) (decide_eq_true hn) W
  have HB0 := Lib.hid hB0
  have H := Lib.hid h
  have hsm := h.small
  have hmo := h.most
  obtain ⟨hk, ⟨hb0, hb1⟩, ⟨ha0, ha1⟩, hp⟩ := hr
  obtain ⟨hn0, hn1⟩ := hn
  have hwb : IntKind.i64.wrap (now + b) = now + b := IntWalk.i64_in _ (by omega)
  clear h hB0 hp
  rcases (show k = 0 ∨ k = 1 ∨ k = 2 ∨ k = 3 by omega) with rfl | rfl | rfl | rfl
  all_goals
    go_enter Try.func17, Try.ntmps17
    go_wp2_with fail
    refine (H23.out _).mono ?_
    rintro e w1 ⟨rfl, hB1⟩
    have HB1 := Lib.hid (HB0.out.trans (hB1.mono HB0.out.size))
    have HF1 := Lib.hid (HF0.out.below hB1)
    have hb01 := HB1.out
    have HR1 := Lib.hid ((H.out.below hb01).alloc (.cells #[] 5))
    have HE := Lib.hid (own_empty w1)
    clear hB1 hb01 HB0 HF0 H23 c0 c1 c2 c3
    go_wp2_with fail
    refine (H59.out _).mono ?_
    rintro e w2 ⟨rfl, rfl⟩
    go_wp2_with (at_builtin; refine wpList_copy _ rfl (.tmp 17) (.tmp 18) rfl w1.heap.size rfl HE.out rfl HR1.out ?_)
    intro v2 w2 ho2 hB2
    obtain ⟨a2, k2, rfl⟩ := own_slice ho2
    have hB2' := ((Below.refl w1.heap.size w1).alloc (Nat.le_refl _) (.cells #[] 5)).trans hB2
    have hF2 := HF1.out.below hB2'
    have HB2 := Lib.hid (HB1.out.trans (hB2'.mono HB1.out.size))
    have HO2 := Lib.hid ho2
    have HW1 := Lib.hid HB1.out.size
    have HR2 := Lib.hid (H.out.below HB2.out)
    have HF2 := Lib.hid hF2
    obtain ⟨c0, c1, c2, c3⟩ := hF2
    clear ho2 hB2 hB2' HB1 HF1 HR1 HE H59
  · go_wp2_with fail
    go_ret2
    exact ⟨_, rfl, [⟨now + b, pl, ⟨a2, n, k2, l⟩⟩], rfl, one_n, rl_one (own_mono HO2.out HW1.out) HB2.out.size, HB2.out.alloc HB2.out.size _⟩
  · go_wp2_with fail
    go_ret2
    exact ⟨_, rfl, [], rfl, fun x hx => absurd hx (by simp), ⟨World.ownsRow_nil _ _ _ _, Made.nil _ _⟩, HB2.out⟩
  · have ha2 : al ≤ 2000 := ha1
    have hwa : IntKind.i64.wrap (now + al) = now + al := IntWalk.i64_in _ (by omega)
    clear H
    go_upto_region 8 with fail
    have k1 : w2.cell? ⟨w.heap.size, 1, none⟩ = some (.int .i64 b) := HF2.out.2.1
    have k2' : w2.cell? ⟨w.heap.size, 2, none⟩ = some (.int .i64 al) := HF2.out.2.2.1
    have k3 : w2.cell? ⟨w.heap.size, 3, none⟩ = some (.int .i64 pl) := HF2.out.2.2.2
    have hlt1 := block_lt_of_cell k1
    have hlt2 := block_lt_of_cell k2'
    have hlt3 := block_lt_of_cell k3
    go_region_held3 (fun w' => w'.cell? ⟨w.heap.size, 1, none⟩ = some (.int .i64 b) ∧ w'.cell? ⟨w.heap.size, 2, none⟩ = some (.int .i64 al) ∧ w'.cell? ⟨w.heap.size, 3, none⟩ = some (.int .i64 pl))
      (first | go_keep)
      (first
        | (refine step_copy ?_ (.tmp 49) (.tmp 50) ?_ w2.heap.size ?_ ?_ (ad := a) (n := n) (c := c) (l := l) ?_ ?_ ?_; rfl; rfl; rfl; exact own_empty _; rfl; exact ((HR2.out.drewN _).alloc _); intro a5 c5 w5 ho5 hB5; have HO5 := Lib.hid ho5; have HA : Hid (Below w2.heap.size w2 w5) := Lib.hid (below_da hB5); have q1 : w5.cell? ⟨w.heap.size, 1, none⟩ = some (.int .i64 b) := (HA.out.cell hlt1).trans k1; have q2 : w5.cell? ⟨w.heap.size, 2, none⟩ = some (.int .i64 al) := (HA.out.cell hlt2).trans k2'; have q3 : w5.cell? ⟨w.heap.size, 3, none⟩ = some (.int .i64 pl) := (HA.out.cell hlt3).trans k3; clear ho5 hB5))
    have X2 := own_below HO2.out HA.out
    have Hlt : ∀ g, (Value.slice a2 n k2).ownBlock = some g → g < w2.heap.size := fun g e => (own_lt HO2.out e).2
    go_wp2_with fail
    go_ret2
    exact ⟨_, rfl, [⟨now + b, pl, ⟨a2, n, k2, l⟩⟩, ⟨now + al, pl, ⟨a5, n, c5, l⟩⟩], rfl, two_n, rl_two (own_mono X2 HW1.out) (own_mono HO5.out HB2.out.size) (fun g e1 e2 => Nat.lt_irrefl _ (Nat.lt_of_lt_of_le (Hlt g e1) (own_lt HO5.out e2).1)) (Nat.le_trans HB2.out.size HA.out.size), (HB2.out.trans (HA.out.mono HB2.out.size)).alloc (Nat.le_trans HB2.out.size HA.out.size) _⟩
  · have ha3 : al ≤ 9223372036854775807 := Int.le_trans (show al ≤ 2147483647 from ha1) (by decide)
    have HT := Lib.hid fun W (hW : Below w2.heap.size w2 W) => (show Calls Try.prog 20 #[.slice a n c, .int .i64 al] W fun e w' => ∃ a' c', e = .returned (.slice a' n c') ∧ w'.cell? ⟨w.heap.size, 1, none⟩ = some (.int .i64 b) ∧ w'.cell? ⟨w.heap.size, 2, none⟩ = some (.int .i64 al) ∧ w'.cell? ⟨w.heap.size, 3, none⟩ = some (.int .i64 pl) ∧ Hid (w'.ownsRow w2.heap.size 5 1 (.slice a' n c') n (bs (Fm.turnI l al))) ∧ Hid (Below w2.heap.size w2 w') by
      refine (rturn_any (HR2.out.below hW) ha3).mono ?_
      rintro e w' ⟨v', rfl, hr', hB'⟩
      obtain ⟨a', c', rfl⟩ := own_slice hr'
      have hr' := own_mono hr' hW.size
      have hB2 := hW.trans (hB'.mono hW.size)
      exact ⟨a', c', rfl, (hB2.cell (block_lt_of_cell c1)).trans c1, (hB2.cell (block_lt_of_cell c2)).trans c2, (hB2.cell (block_lt_of_cell c3)).trans c3, hr', hB2⟩)
    clear H
    go_upto_region 10 with fail
    have k1 : w2.cell? ⟨w.heap.size, 1, none⟩ = some (.int .i64 b) := HF2.out.2.1
    have k2' : w2.cell? ⟨w.heap.size, 2, none⟩ = some (.int .i64 al) := HF2.out.2.2.1
    have k3 : w2.cell? ⟨w.heap.size, 3, none⟩ = some (.int .i64 pl) := HF2.out.2.2.2
    go_region_held3 (fun w' => w'.cell? ⟨w.heap.size, 1, none⟩ = some (.int .i64 b) ∧ w'.cell? ⟨w.heap.size, 2, none⟩ = some (.int .i64 al) ∧ w'.cell? ⟨w.heap.size, 3, none⟩ = some (.int .i64 pl))
      (first | go_keep)
      (first
        | (go_at_call 20; ((with_reducible refine (HT.out _ ?_).mono ?_); (exact below_drewN (Below.refl _ _) _); rintro e w5 ⟨a5, c5, rfl, q1, q2, q3, HR5, HB5⟩)))
    go_wp2_with fail
    go_ret2
    exact ⟨_, rfl, [⟨now + b, pl, ⟨a5, n, c5, Fm.turnI l al⟩⟩], rfl, one_n, rl_one (own_mono HR5.out HB2.out.size) (Nat.le_trans HB2.out.size HB5.out.size), (HB2.out.trans (HB5.out.mono HB2.out.size)).alloc (Nat.le_trans HB2.out.size HB5.out.size) _⟩
end Go.Proofs.Ytfojhmobnedekaa

/- The walk of the reference's first. Conditions: its list is short. -/
namespace Go.Proofs.Ytfojhmobnedekaa
open Go.RowKit

/-- The cells of the reference's list. -/
def Wz.rc (x : Wz) : List Value := [.int .i64 x.t, .int .i64 x.d, .int .i64 x.q, .slice x.r.a x.r.n x.r.c]
def rcs (l : List Wz) : List Value := l.flatMap Wz.rc
theorem rcs_append (a b : List Wz) : rcs (a ++ b) = rcs a ++ rcs b := by simp [rcs]
theorem rcs_len : ∀ l : List Wz, (rcs l).length = l.length * 4
  | [] => rfl
  | x :: l => by
    show ([_, _, _, _] ++ rcs l).length = _
    rw [List.length_append, rcs_len l]; simp; omega
theorem rcs_get : ∀ (l : List Wz) (k j : Nat) (h : k < l.length), j < 4 → (rcs l)[k * 4 + j]? = (l[k]).rc[j]?
  | x :: l, 0, j, _, hj => by
    show ([_, _, _, _] ++ rcs l)[0 * 4 + j]? = _
    rw [List.getElem?_append_left (by simp; omega)]; simp [Wz.rc]
  | x :: l, k + 1, j, h, hj => by
    have h1 : (k + 1) * 4 + j = 4 + (k * 4 + j) := by omega
    show ([_, _, _, _] ++ rcs l)[(k + 1) * 4 + j]? = _
    rw [h1, List.getElem?_append_right (by simp)]
    have := rcs_get l k j (by simpa using h) hj
    simpa using this
/-- The reference's wire: its cells, its list in order of sending, the bytes, each in a row of its own. -/
structure RW (B W : Nat) (rs : List Wz) (ld dr : Int) (v : Value) (w : World) : Prop where
  wire : w.heap[W]? = some (.cells #[v, .int .i64 ld, .int .i64 dr] 79 (0, 0))
  row : w.ownsRow B 147 4 v rs.length (rcs rs)
  made : Made B (rs.map Wz.r) w
theorem RW.frame {B W : Nat} {rs : List Wz} {ld dr : Int} {v : Value} {w w' : World} (h : RW B W rs ld dr v w) (hk : ∀ g, (g = W ∨ v.ownBlock = some g ∨ ∃ x ∈ rs, x.r.v.ownBlock = some g) → g < w.heap.size → w'.heap[g]? = w.heap[g]?) : RW B W rs ld dr v w' where
  wire := (hk W (.inl rfl) (lt_of_block h.wire)).trans h.wire
  row := own_frame3 h.row fun g e hg => hk g (.inr (.inl e)) hg
  made := h.made.frame fun r hr g e hg => by
    obtain ⟨x, hx, rfl⟩ := List.mem_map.1 hr
    exact hk g (.inr (.inr ⟨x, hx, e⟩)) hg
theorem RW.below {B W : Nat} {rs : List Wz} {ld dr : Int} {v : Value} {w w' : World} (h : RW B W rs ld dr v w) (hB : Below w.heap.size w w') : RW B W rs ld dr v w' := h.frame fun g _ hg => hB.block g hg
/-- The cells of one of the list. -/
theorem rrow_at {w : World} {B n : Nat} {v : Value} {rs : List Wz} (h : w.ownsRow B 147 4 v n (rcs rs)) {k : Nat} {x : Wz} (hk : rs[k]? = some x) :
    ∃ g c, v = .slice (some ⟨g, 0, none⟩) n c ∧ w.cell? ⟨g, k * 4, none⟩ = some (.int .i64 x.t) ∧ w.cell? ⟨g, k * 4 + 1, none⟩ = some (.int .i64 x.d) ∧ w.cell? ⟨g, k * 4 + 2, none⟩ = some (.int .i64 x.q) ∧ w.cell? ⟨g, k * 4 + 3, none⟩ = some (.slice x.r.a x.r.n x.r.c) := by
  obtain ⟨hk1, rfl⟩ := List.getElem?_eq_some_iff.1 hk
  rcases h.2 with ⟨_, h0⟩ | ⟨g, cap, cur, rfl, _⟩
  · have := h.1
    rw [rcs_len] at this; omega
  · have hc := fun q (hq : q < 4) u (hu : (rs[k]).rc[q]? = some u) => h.cells (g := g) rfl (k * 4 + q) u ((rcs_get rs k q hk1 hq).trans hu)
    have e0 := hc 0 (by omega) _ rfl
    have e1 := hc 1 (by omega) _ rfl
    have e2 := hc 2 (by omega) _ rfl
    have e3 := hc 3 (by omega) _ rfl
    rw [Addr.add_lit] at e0 e1 e2 e3
    exact ⟨g, cap, rfl, by simpa using e0, by simpa using e1, by simpa using e2, by simpa using e3⟩

set_option maxHeartbeats 1600000 in
set_option maxRecDepth 100000 in
theorem rfirst_any {w : World} {B W n c : Nat} {a : Option Addr} {rs : List Wz} {ld dr : Int} (h : RW B W rs ld dr (.slice a n c) w) (hn : rs.length = n) (hm : n ≤ 1000000) :
    Calls Try.prog 75 #[.pointer (some ⟨W, 0, none⟩)] w fun e w' => e = .returned (.int .i64 (optI (bestZ (rs.map Wz.z) n))) ∧ Below w.heap.size w w' := by
  have HR : Hid (w.ownsRow B 147 4 (.slice a n c) n (rcs rs)) := by have := h.row; rw [hn] at this; exact this
  have hc0 : w.cell? ⟨W, 0, none⟩ = some (.slice a n c) := (cell_of_block h.wire).trans rfl
  have HC0 := Lib.hid hc0
  have HN := Lib.hid hn
  clear h hc0 hn
  go_enter Try.func75, Try.ntmps75
  go_wp2_with fail
  go_loopw [3, 4] (fun b i wr => ∃ k : Nat, k ≤ n ∧ i = .int .i64 k ∧ b = .int .i64 (optI (bestZ (rs.map Wz.z) k)) ∧ Hid (Below w.heap.size w wr)) (fun _ i _ => n - (intOf i).toNat)
  case atStart => exact ⟨0, Nat.zero_le _, rfl, rfl, Below.refl _ _⟩
  case round =>
    obtain ⟨k, hk, rfl, rfl, HD⟩ := hrel
    have cw := (HD.out.cell (block_lt_of_cell HC0.out)).trans HC0.out
    by_cases hlt : k < n
    · obtain ⟨x, hx⟩ : ∃ x, rs[k]? = some x := ⟨_, List.getElem?_eq_getElem (by rw [HN.out]; exact hlt)⟩
      obtain ⟨g, cc, hv, e0, e1, e2, e3⟩ := rrow_at HR.out hx
      obtain ⟨rfl, rfl⟩ : a = some ⟨g, 0, none⟩ ∧ c = cc := by injection hv with h1 _ h2; exact ⟨h1, h2⟩
      have e1 := (HD.out.cell (block_lt_of_cell e1)).trans e1
      have e2 := (HD.out.cell (block_lt_of_cell e2)).trans e2
      have e3 := (HD.out.cell (block_lt_of_cell e3)).trans e3
      have e2' : wr.cell? ⟨g, k * 4 + 1 + 1, none⟩ = some (.int .i64 x.q) := e2
      have e3' : wr.cell? ⟨g, k * 4 + 1 + 2, none⟩ = some (.slice x.r.a x.r.n x.r.c) := e3
      have hzk : (rs.map Wz.z).getD k default = x.z := by rw [List.getD_eq_getElem?_getD, List.getElem?_map, hx]; rfl
      have hnr := bestZ_rest (rs.map Wz.z) k (by rw [List.length_map, HN.out]; omega)
      have hst : bestZ (rs.map Wz.z) (k + 1) = match bestZ (rs.map Wz.z) k with
        | none => some k
        | some b => if x.z.lt ((rs.map Wz.z).getD b default) then some k else some b := by rw [bestZ, hzk]; cases bestZ (rs.map Wz.z) k <;> rfl
      clear hx hzk hv e0
      have hBA : Below wr.heap.size wr (wr.alloc (.cells #[.int .i64 x.d, .int .i64 x.q, .slice x.r.a x.r.n x.r.c] 40)) := (Below.refl _ _).alloc (Nat.le_refl _) _
      have HBA := Lib.hid (HD.out.trans (hBA.mono HD.out.size))
      clear hBA
      cases hb : bestZ (rs.map Wz.z) k with
      | none =>
        rw [hb] at hst
        have HNX := Lib.hid (show bestZ (rs.map Wz.z) (k + 1) = some k from hst)
        rw [show optI none = -1 from rfl]
        clear hst hnr hb
        go_wp2_with fail
        go_quiet (fail)
        go_wp2_with fail
        go_roundw
        case rel => exact ⟨k + 1, by omega, by go_num, by rw [HNX.out]; rfl, below_drewN HBA.out _⟩
        case measure => simp [intOf]; omega
      | some b =>
        rw [hb] at hst hnr
        obtain ⟨hbk, _⟩ := hnr
        have hbn : b < n := by omega
        obtain ⟨y, hy⟩ : ∃ y, rs[b]? = some y := ⟨_, List.getElem?_eq_getElem (by rw [HN.out]; exact hbn)⟩
        obtain ⟨g', c', hv, f0, f1, f2, f3⟩ := rrow_at HR.out hy
        obtain ⟨rfl, rfl⟩ : g = g' ∧ c = c' := by injection hv with h1 _ h2; injection h1 with h1; injection h1 with h1; exact ⟨h1, h2⟩
        have f1 := (HD.out.cell (block_lt_of_cell f1)).trans f1
        have f2 := (HD.out.cell (block_lt_of_cell f2)).trans f2
        have f2' : wr.cell? ⟨g, b * 4 + 1 + 1, none⟩ = some (.int .i64 y.q) := f2
        have hzb : (rs.map Wz.z).getD b default = y.z := by rw [List.getD_eq_getElem?_getD, List.getElem?_map, hy]; rfl
        have hst : bestZ (rs.map Wz.z) (k + 1) = if x.z.lt y.z then some k else some b := by rw [hst, ← hzb]
        rw [show optI (some b) = ((b : Nat) : Int) from rfl]
        clear hy hv hzb hb f0 f3
        go_wp2_with fail
        have b0 : (wr.alloc (.cells #[.int .i64 x.d, .int .i64 x.q, .slice x.r.a x.r.n x.r.c] 40)).cell? ⟨wr.heap.size, 0, none⟩ = some (.int .i64 x.d) := (cell_of_block (heap_alloc_new wr _)).trans rfl
        have b1 : (wr.alloc (.cells #[.int .i64 x.d, .int .i64 x.q, .slice x.r.a x.r.n x.r.c] 40)).cell? ⟨wr.heap.size, 1, none⟩ = some (.int .i64 x.q) := (cell_of_block (heap_alloc_new wr _)).trans rfl
        have hBA : Below wr.heap.size wr (wr.alloc (.cells #[.int .i64 x.d, .int .i64 x.q, .slice x.r.a x.r.n x.r.c] 40)) := (Below.refl _ _).alloc (Nat.le_refl _) _
        have cw := (hBA.cell (block_lt_of_cell cw)).trans cw
        have f1 := (hBA.cell (block_lt_of_cell f1)).trans f1
        have f2 := (hBA.cell (block_lt_of_cell f2)).trans f2
        have f2' := (hBA.cell (block_lt_of_cell f2')).trans f2'
        clear hBA
        generalize wr.alloc (.cells #[.int .i64 x.d, .int .i64 x.q, .slice x.r.a x.r.n x.r.c] 40) = W5 at *
        have d0 : decide (((b : Nat) : Int) < 0) = false := by simp
        by_cases h1 : x.d < y.d
        · rw [if_pos (Zl.lt_iff.2 (.inl h1))] at hst
          have HNX := Lib.hid hst
          have d1 : decide (x.d < y.d) = true := decide_eq_true h1
          clear hst
          go_quiet (fail)
          go_wp2_with fail
          go_roundw
          case rel => exact ⟨k + 1, by omega, by go_num, by rw [HNX.out]; rfl, below_drewN HBA.out _⟩
          case measure => simp [intOf]; omega
        · have d1 : decide (x.d < y.d) = false := decide_eq_false h1
          by_cases h2 : x.d = y.d
          · have d2 : (x.d == y.d) = true := by simpa using h2
            have d2' : decide (x.d = y.d) = true := decide_eq_true h2
            by_cases h3 : x.q < y.q
            · rw [if_pos (Zl.lt_iff.2 (.inr ⟨h2, h3⟩))] at hst
              have HNX := Lib.hid hst
              have d3 : decide (x.q < y.q) = true := decide_eq_true h3
              clear hst h2 h1
              go_quiet (fail)
              go_wp2_with fail
              go_roundw
              case rel => exact ⟨k + 1, by omega, by go_num, by rw [HNX.out]; rfl, below_drewN HBA.out _⟩
              case measure => simp [intOf]; omega
            · rw [if_neg (fun e => by rcases Zl.lt_iff.1 e with e | e; exact h1 e; exact h3 e.2)] at hst
              have HNX := Lib.hid hst
              have d3 : decide (x.q < y.q) = false := decide_eq_false h3
              clear hst h2 h1
              go_quiet (fail)
              go_wp2_with fail
              go_roundw
              case rel => exact ⟨k + 1, by omega, by go_num, by rw [HNX.out]; rfl, below_drewN HBA.out _⟩
              case measure => simp [intOf]; omega
          · rw [if_neg (fun e => by rcases Zl.lt_iff.1 e with e | e; exact h1 e; exact h2 e.1)] at hst
            have HNX := Lib.hid hst
            have d2 : (x.d == y.d) = false := by simpa using h2
            have d2' : decide (x.d = y.d) = false := decide_eq_false h2
            clear hst h1
            go_quiet (fail)
            go_wp2_with fail
            go_roundw
            case rel => exact ⟨k + 1, by omega, by go_num, by rw [HNX.out]; rfl, below_drewN HBA.out _⟩
            case measure => simp [intOf]; omega
    · obtain rfl : k = n := by omega
      go_wp2_with fail
      go_ret
      exact ⟨rfl, HD.out⟩
end Go.Proofs.Ytfojhmobnedekaa

/- The walks of the reference's Next and Send. Conditions: its list is short, the bytes are few. -/
namespace Go.Proofs.Ytfojhmobnedekaa
open Go.RowKit

/-- What a wire's step keeps: blocks of another type. -/
theorem keep_block {W Bv sv nv : Nat} {v : Value} {w w' : World} {csW cs : Array Value} {tW ev t : TypeId} {xv : List Value} (hk : Keep W v w w') (hW : w.heap[W]? = some (.cells csW tW (0, 0))) (hv : w.ownsRow Bv ev sv v nv xv) {g : Nat} (hg : w.heap[g]? = some (.cells cs t (0, 0))) (h1 : t ≠ tW) (h2 : t ≠ ev) : w'.heap[g]? = some (.cells cs t (0, 0)) := by
  refine (hk.block g (lt_of_block hg) (fun e => ?_) (own_ne_type hv hg h2)).trans hg
  subst e
  rw [hg] at hW
  injection hW with hW
  injection hW with _ e2
  exact h1 e2
theorem keep_own {W Bv sv nv B s n : Nat} {v u : Value} {w w' : World} {csW : Array Value} {tW ev e : TypeId} {xv xs : List Value} (hk : Keep W v w w') (hW : w.heap[W]? = some (.cells csW tW (0, 0))) (hv : w.ownsRow Bv ev sv v nv xv) (ho : w.ownsRow B e s u n xs) (h1 : e ≠ tW) (h2 : e ≠ ev) : w'.ownsRow B e s u n xs := by
  obtain ⟨q1, q2⟩ := ho
  refine ⟨q1, ?_⟩
  rcases q2 with q2 | ⟨g, cap, cur, rfl, hb, hh, hn⟩
  · exact .inl q2
  · exact .inr ⟨g, cap, cur, rfl, hb, keep_block hk hW hv hh h1 h2, hn⟩
theorem keep_made {W Bv sv nv B : Nat} {v : Value} {w w' : World} {csW : Array Value} {tW ev : TypeId} {xv : List Value} {rs : List R1} (hk : Keep W v w w') (hW : w.heap[W]? = some (.cells csW tW (0, 0))) (hv : w.ownsRow Bv ev sv v nv xv) (ho : Made B rs w) (h1 : 5 ≠ tW) (h2 : 5 ≠ ev) : Made B rs w' :=
  ⟨fun r hr => keep_own hk hW hv (ho.own r hr) h1 h2, ho.unl⟩

set_option maxHeartbeats 1600000 in
set_option maxRecDepth 100000 in
theorem rnext_any {w : World} {B W : Nat} {v : Value} {rs : List Wz} {ld dr : Int} (h : RW B W rs ld dr v w) (hm : rs.length ≤ 1000000) :
    Calls Try.prog 46 #[.pointer (some ⟨W, 0, none⟩)] w fun e w' => e = .returned (.tuple #[.int .i64 (hdZ (ordZ (rs.map Wz.z))), .bool (decide (0 < rs.length))]) ∧ Below w.heap.size w w' := by
  obtain ⟨a, c, rfl⟩ := own39_slice h.row
  have H75 := Lib.hid (rfirst_any h rfl hm)
  have hc0 : w.cell? ⟨W, 0, none⟩ = some (.slice a rs.length c) := (cell_of_block h.wire).trans rfl
  have hbr := bestZ_rest (rs.map Wz.z) rs.length (by rw [List.length_map]; exact Nat.le_refl _)
  rw [List.take_of_length_le (by rw [List.length_map]; exact Nat.le_refl _)] at hbr
  have HR := Lib.hid h.row
  cases hb : bestZ (rs.map Wz.z) rs.length with
  | none =>
    rw [hb] at hbr
    have hz : rs.length = 0 := hbr
    have h75 := H75.out
    rw [hb, show optI none = -1 from rfl] at h75
    have H75 := Lib.hid h75
    have e1 : rs = [] := List.eq_nil_of_length_eq_zero hz
    have HE : Hid (hdZ (ordZ (rs.map Wz.z)) = 0 ∧ decide (0 < rs.length) = false) := by rw [e1]; exact ⟨rfl, rfl⟩
    clear hb hbr e1 h75 h hz hc0 HR
    go_enter Try.func46, Try.ntmps46
    go_wp2_with fail
    refine H75.out.mono ?_
    rintro e w1 ⟨rfl, hB⟩
    have HB := Lib.hid hB
    clear hB
    go_wp2_with fail
    go_ret2
    exact ⟨by rw [HE.out.1, HE.out.2]; rfl, HB.out⟩
  | some b =>
    rw [hb] at hbr
    obtain ⟨h1, h2⟩ := hbr
    obtain ⟨y, hy⟩ : ∃ y, rs[b]? = some y := ⟨_, List.getElem?_eq_getElem h1⟩
    have hzb : (rs.map Wz.z).getD b default = y.z := by rw [List.getD_eq_getElem?_getD, List.getElem?_map, hy]; rfl
    have HE : Hid (hdZ (ordZ (rs.map Wz.z)) = y.d ∧ decide (0 < rs.length) = true) := ⟨by rw [h2, hzb]; rfl, decide_eq_true (by omega)⟩
    obtain ⟨g, c', hv, _, f1, _⟩ := rrow_at HR.out hy
    obtain ⟨rfl, rfl⟩ : a = some ⟨g, 0, none⟩ ∧ c = c' := by injection hv with h1 _ h2; exact ⟨h1, h2⟩
    have h75 := H75.out
    rw [hb, show optI (some b) = ((b : Nat) : Int) from rfl] at h75
    have H75 := Lib.hid h75
    clear hb hzb hy hv h75 h2 HR h
    go_enter Try.func46, Try.ntmps46
    go_wp2_with fail
    refine H75.out.mono ?_
    rintro e w1 ⟨rfl, hB⟩
    have hc0 := (hB.cell (block_lt_of_cell hc0)).trans hc0
    have f1 := (hB.cell (block_lt_of_cell f1)).trans f1
    have HB := Lib.hid hB
    clear hB
    go_wp2_with fail
    go_ret2
    exact ⟨by rw [HE.out.1, HE.out.2]; rfl, HB.out⟩

/-- An append, in a region along a schedule. -/
theorem mvP_append {P : Program} {ops : Array Oper} {i : Nat} {o : Oper} {K : Act → World → Prop} {a : Act} {w w' : World} {v sv xv : Value} {t t2 : TypeId} (d : Option Tmp) (ho : ops[i]? = some o) (hd : o.dst = d) (hw : Region.wanted o (yielded ops a.tmps) = true) (s x : Operand)
    (hop : o.op = .call { callee := .builtin .append, args := #[s, x], argTypes := #[t, t2] }) (hs : a.eval s = sv) (hx : a.eval x = xv) (hrun : (Builtin.append_ #[t, t2] o.type #[sv, xv]).run P w = .ok v w') (hK : K (a.put d v) w') : mvP P ops i K a w := by
  refine mvP_value d ho hd hw ?_ hK
  unfold execOp
  simp only [hop, resolve, invoke, builtin, Sem.run_bind, Sem.run_pure, Result.andThen_ok, List.map_toArray, List.map_cons, List.map_nil, hs, hx, hrun]
theorem info147 : (Try.prog.info? 147).map (fun i => (i.zero, i.size, i.bytes)) = some (some (.agg #[.int .i64 0, .int .i64 0, .int .i64 0, .slice none 0 0]), 4, 48) := by kernel_rfl
theorem rc_one (x : Wz) : ∀ u ∈ x.rc, u.oneCell' = true := by
  intro u hu
  simp [Wz.rc] at hu
  rcases hu with rfl | rfl | rfl | rfl <;> rfl
/-- A landing, and to whom. -/
def Ld.wz (t : Int) (x : Ld) : Wz := ⟨x.due, x.place, t, x.r⟩
/-- The rounds of Send's loop. -/
structure RSnd (B W : Nat) (rs : List Wz) (ld dr t : Int) (v vl : Value) (ls : List Ld) (w0 : World) (j : Nat) (v' : Value) (w : World) : Prop where
  wire : w.heap[W]? = some (.cells #[v', .int .i64 ld, .int .i64 dr] 79 (0, 0))
  row : w.ownsRow B 147 4 v' (rs.length + j) (rcs (rs ++ (ls.take j).map (Ld.wz t)))
  land : RL w0.heap.size vl ls w
  old : Made B (rs.map Wz.r) w
  keep : Keep W v w0 w
  nxt : Nxt w0 v v'
theorem RSnd.next {B W : Nat} {rs : List Wz} {ld dr t : Int} {v vl v' v'' : Value} {ls : List Ld} {w0 w w' : World} {j : Nat} (h : RSnd B W rs ld dr t v vl ls w0 j v' w) {x : Ld} (hj : ls[j]? = some x)
    (hw : w'.heap[W]? = some (.cells #[v'', .int .i64 ld, .int .i64 dr] 79 (0, 0))) (ho : w'.ownsRow B 147 4 v'' (rs.length + j + 1) (rcs (rs ++ (ls.take j).map (Ld.wz t)) ++ (x.wz t).rc)) (hk : Keep W v' w w') (hn : Nxt w v' v'') : RSnd B W rs ld dr t v vl ls w0 (j + 1) v'' w' := by
  refine ⟨hw, ?_, ⟨keep_own hk h.wire h.row h.land.row (by decide) (by decide), keep_made hk h.wire h.row h.land.made (by decide) (by decide)⟩, keep_made hk h.wire h.row h.old (by decide) (by decide), h.keep.trans h.nxt hk, h.nxt.trans h.keep.size hn⟩
  have e : rcs (rs ++ (ls.take (j + 1)).map (Ld.wz t)) = rcs (rs ++ (ls.take j).map (Ld.wz t)) ++ (x.wz t).rc := by
    rw [List.take_add_one, hj]
    simp [rcs]
  rw [e]
  exact ho
theorem RL.at_ {B n c : Nat} {a : Option Addr} {ls : List Ld} {w : World} (h : RL B (.slice a n c) ls w) {k : Nat} {x : Ld} (hk : ls[k]? = some x) :
    ∃ g, a = some ⟨g, 0, none⟩ ∧ w.cell? ⟨g, k * 3, none⟩ = some (.int .i64 x.due) ∧ w.cell? ⟨g, k * 3 + 1, none⟩ = some (.int .i64 x.place) ∧ w.cell? ⟨g, k * 3 + 2, none⟩ = some (.slice x.r.a x.r.n x.r.c) := by
  obtain ⟨hk1, rfl⟩ := List.getElem?_eq_some_iff.1 hk
  rcases h.row.2 with ⟨_, h0⟩ | ⟨g, cap, cur, e, _⟩
  · omega
  · injection e with e1 _ _
    subst e1
    have hc := fun q (hq : q < 3) u (hu : (ls[k]).cells[q]? = some u) => h.row.cells (g := g) rfl (k * 3 + q) u ((cells_at ls k q hk1 hq).trans hu)
    have e0 := hc 0 (by omega) _ rfl
    have e1 := hc 1 (by omega) _ rfl
    have e2 := hc 2 (by omega) _ rfl
    rw [Addr.add_lit] at e0 e1 e2
    exact ⟨g, rfl, by simpa using e0, by simpa using e1, by simpa [R1.v] using e2⟩
def SndS (W g j : Nat) (v : Value) (x : Ld) (w : World) : Prop := w.cell? ⟨W, 0, none⟩ = some v ∧ w.cell? ⟨g, j * 3, none⟩ = some (.int .i64 x.due) ∧ w.cell? ⟨g, j * 3 + 1, none⟩ = some (.int .i64 x.place) ∧ w.cell? ⟨g, j * 3 + 2, none⟩ = some (.slice x.r.a x.r.n x.r.c)
theorem SndS.below {W g j : Nat} {v : Value} {x : Ld} {w w' : World} (h : SndS W g j v x w) (hB : Below w.heap.size w w') : SndS W g j v x w' :=
  ⟨(hB.cell (block_lt_of_cell h.1)).trans h.1, (hB.cell (block_lt_of_cell h.2.1)).trans h.2.1, (hB.cell (block_lt_of_cell h.2.2.1)).trans h.2.2.1, (hB.cell (block_lt_of_cell h.2.2.2)).trans h.2.2.2⟩
/-- What the reference's Send hands on. -/
def RSent (B W : Nat) (rs : List Wz) (ld dr t : Int) (v : Value) (n : Nat) (L : List (Int × Int × List Nat)) (w w' : World) : Prop :=
  ∃ v', ∃ ls : List Ld, ls.map Ld.tell = L ∧ (∀ x ∈ ls, x.r.n = n) ∧ Made w.heap.size (ls.map Ld.r) w' ∧ RW B W (rs ++ ls.map (Ld.wz t)) (ld + (ls.length : Nat)) (if ls.length = 0 then dr + 1 else dr) v' w' ∧ Keep W v w w' ∧ Nxt w v v'
theorem RSnd.fin {B W n : Nat} {rs : List Wz} {ld dr t : Int} {v vl v' : Value} {ls : List Ld} {w0 w w' : World} {L : List (Int × Int × List Nat)} (h : RSnd B W rs ld dr t v vl ls w0 ls.length v' w) (hq : RW B W rs ld dr v w0) (hB : B ≤ w0.heap.size) (h1 : ls.map Ld.tell = L) (h2 : ∀ x ∈ ls, x.r.n = n)
    (hw : w'.heap[W]? = some (.cells #[v', .int .i64 (ld + (ls.length : Nat)), .int .i64 (if ls.length = 0 then dr + 1 else dr)] 79 (0, 0))) (hk : ∀ g, g ≠ W → w'.heap[g]? = w.heap[g]?) (hs : w'.heap.size = w.heap.size) (h3 : w'.os = w.os) (h4 : w'.tape = w.tape) (h5 : w'.output = w.output) : RSent B W rs ld dr t v n L w0 w' := by
  have hk2 : Keep W v' w w' := ⟨h3, h4, h5, by omega, fun g _ h1 _ => hk g h1⟩
  have hnew := keep_made hk2 h.wire h.row h.land.made (by decide) (by decide)
  have hold := keep_made hk2 h.wire h.row h.old (by decide) (by decide)
  have hrow := own_frame3 h.row fun g e _ => hk g (fun e2 => own_ne_type h.row h.wire (by decide) (by rw [e, e2]))
  rw [List.take_of_length_le (Nat.le_refl _)] at hrow
  refine ⟨v', ls, h1, h2, hnew, ⟨hw, by rw [List.length_append, List.length_map]; exact hrow, ?_⟩, h.keep.trans h.nxt hk2, h.nxt⟩
  rw [List.map_append, List.map_map]
  refine ⟨fun r hr => ?_, List.pairwise_append.2 ⟨hold.unl, hnew.unl, fun r hr s hs g e1 e2 => ?_⟩⟩
  · rcases List.mem_append.1 hr with hr | hr
    · exact hold.own r hr
    · exact own_mono (hnew.own r hr) hB
  · have := (own_lt (hq.made.own r hr) e1).2
    have := (own_lt (hnew.own s hs) e2).1
    omega

set_option maxHeartbeats 3200000 in
set_option maxRecDepth 100000 in
theorem rsend_ok1 {w : World} {W B n c : Nat} {a : Option Addr} {l : List Nat} {k b al pl now ld dr : Int} {v : Value} {rs : List Wz} (hq : RW B W rs ld dr v w) (hr : RB w a n c l) (hf : RightF k b al pl) (hn : 0 ≤ now ∧ now ≤ 2147483647) (hm : rs.length ≤ 10000) (hB : B ≤ w.heap.size) (hld : 0 ≤ ld ∧ ld ≤ 1000000) (hdr : 0 ≤ dr ∧ dr ≤ 1000000) :
    Calls Try.prog 45 #[.pointer (some ⟨W, 0, none⟩), .int .i64 1, .agg #[.int .i64 k, .int .i64 b, .int .i64 al, .int .i64 pl], .slice a n c, .int .i64 now] w fun e w' => e = .returned (.int .i64 0) ∧ RSent B W rs ld dr 1 v n (landsOf k b al pl now l) w w' := by
  obtain ⟨i147, hi, hz0, hz1, hz2⟩ := info_parts info147
  have hb0 : Below w.heap.size w (w.alloc (.cells #[.int .i64 k, .int .i64 b, .int .i64 al, .int .i64 pl] 24)) := (Below.refl _ _).alloc (Nat.le_refl _) _
  have hL := Lib.hid (rlandsO (hr.below hb0) hf hn)
  have HQ := Lib.hid hq
  have HB0 := Lib.hid hb0
  obtain ⟨c0, c1, c2, c3⟩ := fate_box w k b al pl
  clear hq hr hf hb0 hn
  go_enter Try.func45, Try.ntmps45
  go_wp2_with fail
  refine hL.out.mono ?_
  rintro e w2 ⟨vl, rfl, ls, htl, hln, hrl, hB2⟩
  have hls : ls.length ≤ 2 := by rw [← List.length_map (f := Ld.tell), htl]; exact landsOf_len _ _ _ _ _ _
  have hB3 : Below w.heap.size w w2 := HB0.out.trans (hB2.mono (by simp))
  obtain ⟨va, vc, rfl⟩ := own39_slice hrl.row
  have HTL := Lib.hid (And.intro htl hln)
  have hq2 := HQ.out.below hB3
  have hrl2 : RL w.heap.size (.slice va ls.length vc) ls w2 := ⟨own_mono3 hrl.row (by simp), hrl.made.mono (by simp)⟩
  have hsz : w.heap.size ≤ w2.heap.size := hB3.size
  have HST := Lib.hid (show RSnd B W rs ld dr 1 v (.slice va ls.length vc) ls w 0 v w2 from ⟨hq2.wire, by simpa using hq2.row, hrl2, hq2.made, Keep.of_below hB3, Nxt.refl _ _⟩)
  clear htl hln hB2 hB3 hL c0 c1 c2 c3 hrl HB0 hq2 hrl2
  go_wp2_with fail
  go_loopw [13] (fun i wr => ∃ j : Nat, ∃ v', j ≤ ls.length ∧ i = .int .i64 j ∧ Hid (RSnd B W rs ld dr 1 v (.slice va ls.length vc) ls w j v' wr)) (fun i _ => ls.length - (intOf i).toNat)
  case atStart => exact ⟨0, v, Nat.zero_le _, rfl, HST⟩
  case round =>
    obtain ⟨j, v', hj, rfl, HR⟩ := hrel
    by_cases hlt : j < ls.length
    · obtain ⟨x, hx⟩ : ∃ x, ls[j]? = some x := ⟨_, List.getElem?_eq_getElem hlt⟩
      have HX := Lib.hid hx
      obtain ⟨g, rfl, e0, e1, e2⟩ := HR.out.land.at_ hx
      obtain ⟨a', c', rfl⟩ := own39_slice HR.out.row
      have hw0 : wr.cell? ⟨W, 0, none⟩ = some (.slice a' (rs.length + j) c') := (cell_of_block HR.out.wire).trans rfl
      have hS : SndS W g j (.slice a' (rs.length + j) c') x wr := ⟨hw0, e0, e1, e2⟩
      have HS := Lib.hid hS
      clear hx e0 e1 e2 hw0
      go_upto_region 9 with fail
      haveI : Nonempty (Such (SndS W g j (.slice a' (rs.length + j) c') x)) := ⟨⟨wr, hS⟩⟩
      haveI : Inhabited (Such (SndS W g j (.slice a' (rs.length + j) c') x)) := ⟨⟨wr, hS⟩⟩
      have Z0 : ∀ z : Such (SndS W g j (.slice a' (rs.length + j) c') x), z.1.cell? ⟨W, 0, none⟩ = some (.slice a' (rs.length + j) c') := fun z => z.2.1
      have Z1 : ∀ z : Such (SndS W g j (.slice a' (rs.length + j) c') x), z.1.cell? ⟨g, j * 3, none⟩ = some (.int .i64 x.due) := fun z => z.2.2.1
      have Z2 : ∀ z : Such (SndS W g j (.slice a' (rs.length + j) c') x), z.1.cell? ⟨g, j * 3 + 1, none⟩ = some (.int .i64 x.place) := fun z => z.2.2.2.1
      have Z3 : ∀ z : Such (SndS W g j (.slice a' (rs.length + j) c') x), z.1.cell? ⟨g, j * 3 + 2, none⟩ = some (.slice x.r.a x.r.n x.r.c) := fun z => z.2.2.2.2
      clear hS
      refine region_lsch (fun w' => ∃ z : Such (SndS W g j (.slice a' (rs.length + j) c') x), w' = z.1) 13 [([0, 1, 2, 3, 4, 5, 6, 7, 8, 9, 10], 11), ([], 12)] (by rfl) (by decide +kernel) ⟨⟨wr.drew, HS.out⟩, rfl⟩ ?_
      unfold lschP
      simp only [pickL, List.filterMap_cons, List.filterMap_nil, List.getElem?_toArray, List.getElem?_cons_zero, List.getElem?_cons_succ]
      show wpQuiet _ _ _ _ [_, _, _, _, _, _, _, _, _, _, _] _
      repeat (go_big_quiet_step (fail))
      refine wpQuiet_nil ?_
      refine mvP_value (v := .slice (some ⟨wr.heap.size, 0, none⟩) (1 : Nat) (1 : Nat)) (w' := wr.drew.alloc (.cells (x.wz 1).rc.toArray 147)) (some 47) rfl rfl rfl (by go_simp; rfl) ⟨⟨⟨_, HS.out.below ((Below.refl _ _).drew.alloc (Nat.le_refl _) _)⟩, rfl⟩, ?_⟩
      simp only [Act.put, List.setIfInBounds_toArray, List.set_cons_succ, List.set_cons_zero]
      unfold lschP
      refine wpQuiet_nil ?_
      have hB6 : Below wr.heap.size wr (wr.drew.alloc (.cells (x.wz 1).rc.toArray 147)) := (Below.refl _ _).drew.alloc (Nat.le_refl _) _
      have hrow6 : (wr.drew.alloc (.cells (x.wz 1).rc.toArray 147)).ownsRow B 147 4 (.slice a' (rs.length + j) c') (rs.length + j) (rcs (rs ++ (ls.take j).map (Ld.wz 1))) := own_frame3 HR.out.row fun g _ hg => hB6.block g hg
      have hwz := HR.out.keep.size
      obtain ⟨v6, w6, hrun, ho6, hg6, hn6⟩ := run_append_ownS (P := Try.prog) (wr.drew.alloc (.cells (x.wz 1).rc.toArray 147)) B 77 77 147 i147 _ 4 48 Try.underlying77 hi hz0 hz1 hz2 rfl (by decide) (.slice a' (rs.length + j) c') (rs.length + j) _ hrow6 ⟨wr.heap.size, 0, none⟩ 1 1 (x.wz 1).rc rfl (cells_at_block (heap_alloc_new wr.drew _)) (rc_one _) (by unfold maxLen; omega) (by omega) (by simp; omega)
      obtain ⟨a6, c6, rfl⟩ := own39_slice ho6
      have hks : ∀ q, q < wr.heap.size → (Value.slice a' (rs.length + j) c').ownBlock ≠ some q → w6.heap[q]? = wr.heap[q]? := fun q hq h1 => (hg6.block q (by simp; omega) (fun e => h1 e.symm)).trans (hB6.block q hq)
      have hW1 : (Value.slice a' (rs.length + j) c').ownBlock ≠ some W := own_ne_type HR.out.row HR.out.wire (by decide)
      have hw6 : w6.heap[W]? = some (.cells #[.slice a' (rs.length + j) c', .int .i64 ld, .int .i64 dr] 79 (0, 0)) := (hks W (lt_of_block HR.out.wire) hW1).trans HR.out.wire
      have hgl : wr.heap[g]? = w6.heap[g]? := (hks g (block_lt_of_cell HS.out.2.1) (by
        rcases HR.out.land.row.2 with ⟨_, h0⟩ | ⟨g2, cap, cur, e, _, hh, _⟩
        · omega
        · injection e with e _ _
          injection e with e
          injection e with e
          subst e
          exact own_ne_type HR.out.row hh (by decide))).symm
      have hS6 : SndS W g j (.slice a' (rs.length + j) c') x w6 := ⟨(cell_of_block hw6).trans rfl, (World.cell?_of_block hgl.symm).trans HS.out.2.1, (World.cell?_of_block hgl.symm).trans HS.out.2.2.1, (World.cell?_of_block hgl.symm).trans HS.out.2.2.2⟩
      have hsz6 : wr.heap.size + 1 ≤ w6.heap.size := by have := hg6.size; simpa using this
      refine mvP_append (some 48) rfl rfl rfl (.tmp 40) (.tmp 47) rfl rfl rfl hrun ⟨⟨⟨w6, hS6⟩, rfl⟩, ?_⟩
      simp only [Act.put, List.setIfInBounds_toArray, List.set_cons_succ, List.set_cons_zero]
      unfold lschP
      simp only [List.drop_succ_cons, List.drop_zero]
      have hf6 : w6.frozen? ⟨W, 0, none⟩ = false := frozen_of_block hw6
      have hc6 : w6.cell? ⟨W, 0, none⟩ = some (.slice a' (rs.length + j) c') := hS6.1
      have hne6 : (Value.slice a6 (rs.length + j + 1) c6).ownBlock ≠ some W := own_ne_type ho6 hw6 (by decide)
      have hnx : RSnd B W rs ld dr 1 v (.slice (some ⟨g, 0, none⟩) ls.length vc) ls w (j + 1) (.slice a6 (rs.length + j + 1) c6) (w6.setCell ⟨W, 0, none⟩ (.slice a6 (rs.length + j + 1) c6)) := by
        refine HR.out.next HX.out (setCell_of_block _ hw6) ?_ ⟨hg6.os, hg6.tape, hg6.output, ?_, fun q hq h1 h2 => ?_⟩ fun q e => ?_
        · exact own_frame3 ho6 fun q hq _ => Below.heap_setCell w6 ⟨W, 0, none⟩ _ q (fun e => hne6 (by rw [hq, e]))
        · simp [World.setCell]; omega
        · exact (Below.heap_setCell w6 ⟨W, 0, none⟩ _ q h1).trans (hks q hq h2)
        · rcases hn6 q e with e | e
          · exact .inl e
          · exact .inr (by rw [e]; simp)
      have HNX := Lib.hid hnx
      clear hnx hne6 hS6 hgl hw6 hW1 hks hn6 hg6 ho6 hrun hrow6 hB6 Z0 Z1 Z2 Z3 HS
      go_wp2_with fail
      go_roundw
      case rel => exact ⟨j + 1, _, by omega, by go_num, HNX⟩
      case measure => simp [intOf]; omega
    · obtain rfl : j = ls.length := by omega
      have hW := HR.out.wire
      have hc1 : wr.cell? ⟨W, 1, none⟩ = some (.int .i64 ld) := (cell_of_block hW).trans rfl
      have hc2 : wr.cell? ⟨W, 2, none⟩ = some (.int .i64 dr) := (cell_of_block hW).trans rfl
      have hf1 : wr.frozen? ⟨W, 1, none⟩ = false := frozen_of_block hW
      have hf2 : wr.frozen? ⟨W, 2, none⟩ = false := frozen_of_block hW
      by_cases hz : ls.length = 0
      · have hz1 : ((ls.length : Int) == 0) = true := by simp; exact List.eq_nil_of_length_eq_zero hz
        have hz2 : (wr.setCell ⟨W, 1, none⟩ (.int .i64 (ld + (ls.length : Nat)))).cell? ⟨W, 2, none⟩ = some (.int .i64 dr) := by rw [World.cell?_setCell_other _ _ _ _ (by simp)]; exact hc2
        have hz3 : (wr.setCell ⟨W, 1, none⟩ (.int .i64 (ld + (ls.length : Nat)))).frozen? ⟨W, 2, none⟩ = false := by rw [World.frozen?_setCell]; exact hf2
        have hD : RSent B W rs ld dr 1 v n (landsOf k b al pl now l) w ((wr.setCell ⟨W, 1, none⟩ (.int .i64 (ld + (ls.length : Nat)))).setCell ⟨W, 2, none⟩ (.int .i64 (dr + 1))) := by
          refine HR.out.fin HQ.out hB HTL.out.1 HTL.out.2 ?_ (fun g hg => (Below.heap_setCell _ ⟨W, 2, none⟩ _ g hg).trans (Below.heap_setCell wr ⟨W, 1, none⟩ _ g hg)) (by simp [World.setCell]) rfl rfl rfl
          rw [if_pos hz]
          exact setCell_of_block _ (setCell_of_block _ hW)
        have HD := Lib.hid hD
        rw [hz] at hz2 hz3 HD
        have hz2 : (wr.setCell ⟨W, 1, none⟩ (.int .i64 ld)).cell? ⟨W, 2, none⟩ = some (.int .i64 dr) := by simpa using hz2
        have hz3 : (wr.setCell ⟨W, 1, none⟩ (.int .i64 ld)).frozen? ⟨W, 2, none⟩ = false := by simpa using hz3
        have HD : Hid (RSent B W rs ld dr 1 v n (landsOf k b al pl now l) w ((wr.setCell ⟨W, 1, none⟩ (.int .i64 ld)).setCell ⟨W, 2, none⟩ (.int .i64 (dr + 1)))) := by simpa using HD
        clear hD hW
        go_wp2_with fail
        go_ret
        exact ⟨rfl, HD.out⟩
      · have hz1 : ((ls.length : Int) == 0) = false := by simp; exact fun e => hz (by rw [e]; rfl)
        have hD : RSent B W rs ld dr 1 v n (landsOf k b al pl now l) w (wr.setCell ⟨W, 1, none⟩ (.int .i64 (ld + (ls.length : Nat)))) := by
          refine HR.out.fin HQ.out hB HTL.out.1 HTL.out.2 ?_ (fun g hg => Below.heap_setCell wr ⟨W, 1, none⟩ _ g hg) (by simp [World.setCell]) rfl rfl rfl
          rw [if_neg hz]
          exact setCell_of_block _ hW
        have HD := Lib.hid hD
        clear hD hW
        go_wp2_with fail
        go_ret
        exact ⟨rfl, HD.out⟩

set_option maxHeartbeats 3200000 in
set_option maxRecDepth 100000 in
theorem rsend_ok2 {w : World} {W B n c : Nat} {a : Option Addr} {l : List Nat} {k b al pl now ld dr : Int} {v : Value} {rs : List Wz} (hq : RW B W rs ld dr v w) (hr : RB w a n c l) (hf : RightF k b al pl) (hn : 0 ≤ now ∧ now ≤ 2147483647) (hm : rs.length ≤ 10000) (hB : B ≤ w.heap.size) (hld : 0 ≤ ld ∧ ld ≤ 1000000) (hdr : 0 ≤ dr ∧ dr ≤ 1000000) :
    Calls Try.prog 45 #[.pointer (some ⟨W, 0, none⟩), .int .i64 2, .agg #[.int .i64 k, .int .i64 b, .int .i64 al, .int .i64 pl], .slice a n c, .int .i64 now] w fun e w' => e = .returned (.int .i64 0) ∧ RSent B W rs ld dr 2 v n (landsOf k b al pl now l) w w' := by
  obtain ⟨i147, hi, hz0, hz1, hz2⟩ := info_parts info147
  have hb0 : Below w.heap.size w (w.alloc (.cells #[.int .i64 k, .int .i64 b, .int .i64 al, .int .i64 pl] 24)) := (Below.refl _ _).alloc (Nat.le_refl _) _
  have hL := Lib.hid (rlandsO (hr.below hb0) hf hn)
  have HQ := Lib.hid hq
  have HB0 := Lib.hid hb0
  obtain ⟨c0, c1, c2, c3⟩ := fate_box w k b al pl
  clear hq hr hf hb0 hn
  go_enter Try.func45, Try.ntmps45
  go_wp2_with fail
  refine hL.out.mono ?_
  rintro e w2 ⟨vl, rfl, ls, htl, hln, hrl, hB2⟩
  have hls : ls.length ≤ 2 := by rw [← List.length_map (f := Ld.tell), htl]; exact landsOf_len _ _ _ _ _ _
  have hB3 : Below w.heap.size w w2 := HB0.out.trans (hB2.mono (by simp))
  obtain ⟨va, vc, rfl⟩ := own39_slice hrl.row
  have HTL := Lib.hid (And.intro htl hln)
  have hq2 := HQ.out.below hB3
  have hrl2 : RL w.heap.size (.slice va ls.length vc) ls w2 := ⟨own_mono3 hrl.row (by simp), hrl.made.mono (by simp)⟩
  have hsz : w.heap.size ≤ w2.heap.size := hB3.size
  have HST := Lib.hid (show RSnd B W rs ld dr 2 v (.slice va ls.length vc) ls w 0 v w2 from ⟨hq2.wire, by simpa using hq2.row, hrl2, hq2.made, Keep.of_below hB3, Nxt.refl _ _⟩)
  clear htl hln hB2 hB3 hL c0 c1 c2 c3 hrl HB0 hq2 hrl2
  go_wp2_with fail
  go_loopw [13] (fun i wr => ∃ j : Nat, ∃ v', j ≤ ls.length ∧ i = .int .i64 j ∧ Hid (RSnd B W rs ld dr 2 v (.slice va ls.length vc) ls w j v' wr)) (fun i _ => ls.length - (intOf i).toNat)
  case atStart => exact ⟨0, v, Nat.zero_le _, rfl, HST⟩
  case round =>
    obtain ⟨j, v', hj, rfl, HR⟩ := hrel
    by_cases hlt : j < ls.length
    · obtain ⟨x, hx⟩ : ∃ x, ls[j]? = some x := ⟨_, List.getElem?_eq_getElem hlt⟩
      have HX := Lib.hid hx
      obtain ⟨g, rfl, e0, e1, e2⟩ := HR.out.land.at_ hx
      obtain ⟨a', c', rfl⟩ := own39_slice HR.out.row
      have hw0 : wr.cell? ⟨W, 0, none⟩ = some (.slice a' (rs.length + j) c') := (cell_of_block HR.out.wire).trans rfl
      have hS : SndS W g j (.slice a' (rs.length + j) c') x wr := ⟨hw0, e0, e1, e2⟩
      have HS := Lib.hid hS
      clear hx e0 e1 e2 hw0
      go_upto_region 9 with fail
      haveI : Nonempty (Such (SndS W g j (.slice a' (rs.length + j) c') x)) := ⟨⟨wr, hS⟩⟩
      haveI : Inhabited (Such (SndS W g j (.slice a' (rs.length + j) c') x)) := ⟨⟨wr, hS⟩⟩
      have Z0 : ∀ z : Such (SndS W g j (.slice a' (rs.length + j) c') x), z.1.cell? ⟨W, 0, none⟩ = some (.slice a' (rs.length + j) c') := fun z => z.2.1
      have Z1 : ∀ z : Such (SndS W g j (.slice a' (rs.length + j) c') x), z.1.cell? ⟨g, j * 3, none⟩ = some (.int .i64 x.due) := fun z => z.2.2.1
      have Z2 : ∀ z : Such (SndS W g j (.slice a' (rs.length + j) c') x), z.1.cell? ⟨g, j * 3 + 1, none⟩ = some (.int .i64 x.place) := fun z => z.2.2.2.1
      have Z3 : ∀ z : Such (SndS W g j (.slice a' (rs.length + j) c') x), z.1.cell? ⟨g, j * 3 + 2, none⟩ = some (.slice x.r.a x.r.n x.r.c) := fun z => z.2.2.2.2
      clear hS
      refine region_lsch (fun w' => ∃ z : Such (SndS W g j (.slice a' (rs.length + j) c') x), w' = z.1) 13 [([0, 1, 2, 3, 4, 5, 6, 7, 8, 9, 10], 11), ([], 12)] (by rfl) (by decide +kernel) ⟨⟨wr.drew, HS.out⟩, rfl⟩ ?_
      unfold lschP
      simp only [pickL, List.filterMap_cons, List.filterMap_nil, List.getElem?_toArray, List.getElem?_cons_zero, List.getElem?_cons_succ]
      show wpQuiet _ _ _ _ [_, _, _, _, _, _, _, _, _, _, _] _
      repeat (go_big_quiet_step (fail))
      refine wpQuiet_nil ?_
      refine mvP_value (v := .slice (some ⟨wr.heap.size, 0, none⟩) (1 : Nat) (1 : Nat)) (w' := wr.drew.alloc (.cells (x.wz 2).rc.toArray 147)) (some 47) rfl rfl rfl (by go_simp; rfl) ⟨⟨⟨_, HS.out.below ((Below.refl _ _).drew.alloc (Nat.le_refl _) _)⟩, rfl⟩, ?_⟩
      simp only [Act.put, List.setIfInBounds_toArray, List.set_cons_succ, List.set_cons_zero]
      unfold lschP
      refine wpQuiet_nil ?_
      have hB6 : Below wr.heap.size wr (wr.drew.alloc (.cells (x.wz 2).rc.toArray 147)) := (Below.refl _ _).drew.alloc (Nat.le_refl _) _
      have hrow6 : (wr.drew.alloc (.cells (x.wz 2).rc.toArray 147)).ownsRow B 147 4 (.slice a' (rs.length + j) c') (rs.length + j) (rcs (rs ++ (ls.take j).map (Ld.wz 2))) := own_frame3 HR.out.row fun g _ hg => hB6.block g hg
      have hwz := HR.out.keep.size
      obtain ⟨v6, w6, hrun, ho6, hg6, hn6⟩ := run_append_ownS (P := Try.prog) (wr.drew.alloc (.cells (x.wz 2).rc.toArray 147)) B 77 77 147 i147 _ 4 48 Try.underlying77 hi hz0 hz1 hz2 rfl (by decide) (.slice a' (rs.length + j) c') (rs.length + j) _ hrow6 ⟨wr.heap.size, 0, none⟩ 1 1 (x.wz 2).rc rfl (cells_at_block (heap_alloc_new wr.drew _)) (rc_one _) (by unfold maxLen; omega) (by omega) (by simp; omega)
      obtain ⟨a6, c6, rfl⟩ := own39_slice ho6
      have hks : ∀ q, q < wr.heap.size → (Value.slice a' (rs.length + j) c').ownBlock ≠ some q → w6.heap[q]? = wr.heap[q]? := fun q hq h1 => (hg6.block q (by simp; omega) (fun e => h1 e.symm)).trans (hB6.block q hq)
      have hW1 : (Value.slice a' (rs.length + j) c').ownBlock ≠ some W := own_ne_type HR.out.row HR.out.wire (by decide)
      have hw6 : w6.heap[W]? = some (.cells #[.slice a' (rs.length + j) c', .int .i64 ld, .int .i64 dr] 79 (0, 0)) := (hks W (lt_of_block HR.out.wire) hW1).trans HR.out.wire
      have hgl : wr.heap[g]? = w6.heap[g]? := (hks g (block_lt_of_cell HS.out.2.1) (by
        rcases HR.out.land.row.2 with ⟨_, h0⟩ | ⟨g2, cap, cur, e, _, hh, _⟩
        · omega
        · injection e with e _ _
          injection e with e
          injection e with e
          subst e
          exact own_ne_type HR.out.row hh (by decide))).symm
      have hS6 : SndS W g j (.slice a' (rs.length + j) c') x w6 := ⟨(cell_of_block hw6).trans rfl, (World.cell?_of_block hgl.symm).trans HS.out.2.1, (World.cell?_of_block hgl.symm).trans HS.out.2.2.1, (World.cell?_of_block hgl.symm).trans HS.out.2.2.2⟩
      have hsz6 : wr.heap.size + 1 ≤ w6.heap.size := by have := hg6.size; simpa using this
      refine mvP_append (some 48) rfl rfl rfl (.tmp 40) (.tmp 47) rfl rfl rfl hrun ⟨⟨⟨w6, hS6⟩, rfl⟩, ?_⟩
      simp only [Act.put, List.setIfInBounds_toArray, List.set_cons_succ, List.set_cons_zero]
      unfold lschP
      simp only [List.drop_succ_cons, List.drop_zero]
      have hf6 : w6.frozen? ⟨W, 0, none⟩ = false := frozen_of_block hw6
      have hc6 : w6.cell? ⟨W, 0, none⟩ = some (.slice a' (rs.length + j) c') := hS6.1
      have hne6 : (Value.slice a6 (rs.length + j + 1) c6).ownBlock ≠ some W := own_ne_type ho6 hw6 (by decide)
      have hnx : RSnd B W rs ld dr 2 v (.slice (some ⟨g, 0, none⟩) ls.length vc) ls w (j + 1) (.slice a6 (rs.length + j + 1) c6) (w6.setCell ⟨W, 0, none⟩ (.slice a6 (rs.length + j + 1) c6)) := by
        refine HR.out.next HX.out (setCell_of_block _ hw6) ?_ ⟨hg6.os, hg6.tape, hg6.output, ?_, fun q hq h1 h2 => ?_⟩ fun q e => ?_
        · exact own_frame3 ho6 fun q hq _ => Below.heap_setCell w6 ⟨W, 0, none⟩ _ q (fun e => hne6 (by rw [hq, e]))
        · simp [World.setCell]; omega
        · exact (Below.heap_setCell w6 ⟨W, 0, none⟩ _ q h1).trans (hks q hq h2)
        · rcases hn6 q e with e | e
          · exact .inl e
          · exact .inr (by rw [e]; simp)
      have HNX := Lib.hid hnx
      clear hnx hne6 hS6 hgl hw6 hW1 hks hn6 hg6 ho6 hrun hrow6 hB6 Z0 Z1 Z2 Z3 HS
      go_wp2_with fail
      go_roundw
      case rel => exact ⟨j + 1, _, by omega, by go_num, HNX⟩
      case measure => simp [intOf]; omega
    · obtain rfl : j = ls.length := by omega
      have hW := HR.out.wire
      have hc1 : wr.cell? ⟨W, 1, none⟩ = some (.int .i64 ld) := (cell_of_block hW).trans rfl
      have hc2 : wr.cell? ⟨W, 2, none⟩ = some (.int .i64 dr) := (cell_of_block hW).trans rfl
      have hf1 : wr.frozen? ⟨W, 1, none⟩ = false := frozen_of_block hW
      have hf2 : wr.frozen? ⟨W, 2, none⟩ = false := frozen_of_block hW
      by_cases hz : ls.length = 0
      · have hz1 : ((ls.length : Int) == 0) = true := by simp; exact List.eq_nil_of_length_eq_zero hz
        have hz2 : (wr.setCell ⟨W, 1, none⟩ (.int .i64 (ld + (ls.length : Nat)))).cell? ⟨W, 2, none⟩ = some (.int .i64 dr) := by rw [World.cell?_setCell_other _ _ _ _ (by simp)]; exact hc2
        have hz3 : (wr.setCell ⟨W, 1, none⟩ (.int .i64 (ld + (ls.length : Nat)))).frozen? ⟨W, 2, none⟩ = false := by rw [World.frozen?_setCell]; exact hf2
        have hD : RSent B W rs ld dr 2 v n (landsOf k b al pl now l) w ((wr.setCell ⟨W, 1, none⟩ (.int .i64 (ld + (ls.length : Nat)))).setCell ⟨W, 2, none⟩ (.int .i64 (dr + 1))) := by
          refine HR.out.fin HQ.out hB HTL.out.1 HTL.out.2 ?_ (fun g hg => (Below.heap_setCell _ ⟨W, 2, none⟩ _ g hg).trans (Below.heap_setCell wr ⟨W, 1, none⟩ _ g hg)) (by simp [World.setCell]) rfl rfl rfl
          rw [if_pos hz]
          exact setCell_of_block _ (setCell_of_block _ hW)
        have HD := Lib.hid hD
        rw [hz] at hz2 hz3 HD
        have hz2 : (wr.setCell ⟨W, 1, none⟩ (.int .i64 ld)).cell? ⟨W, 2, none⟩ = some (.int .i64 dr) := by simpa using hz2
        have hz3 : (wr.setCell ⟨W, 1, none⟩ (.int .i64 ld)).frozen? ⟨W, 2, none⟩ = false := by simpa using hz3
        have HD : Hid (RSent B W rs ld dr 2 v n (landsOf k b al pl now l) w ((wr.setCell ⟨W, 1, none⟩ (.int .i64 ld)).setCell ⟨W, 2, none⟩ (.int .i64 (dr + 1)))) := by simpa using HD
        clear hD hW
        go_wp2_with fail
        go_ret
        exact ⟨rfl, HD.out⟩
      · have hz1 : ((ls.length : Int) == 0) = false := by simp; exact fun e => hz (by rw [e]; rfl)
        have hD : RSent B W rs ld dr 2 v n (landsOf k b al pl now l) w (wr.setCell ⟨W, 1, none⟩ (.int .i64 (ld + (ls.length : Nat)))) := by
          refine HR.out.fin HQ.out hB HTL.out.1 HTL.out.2 ?_ (fun g hg => Below.heap_setCell wr ⟨W, 1, none⟩ _ g hg) (by simp [World.setCell]) rfl rfl rfl
          rw [if_neg hz]
          exact setCell_of_block _ hW
        have HD := Lib.hid hD
        clear hD hW
        go_wp2_with fail
        go_ret
        exact ⟨rfl, HD.out⟩

set_option maxRecDepth 100000 in
theorem rsend_bad1 {w : World} (W : Nat) (a : Option Addr) (n c : Nat) {k b al pl now : Int} (h : ¬ (RightF k b al pl ∧ (0 ≤ now ∧ now ≤ 2147483647))) :
    Calls Try.prog 45 #[.pointer (some ⟨W, 0, none⟩), .int .i64 1, .agg #[.int .i64 k, .int .i64 b, .int .i64 al, .int .i64 pl], .slice a n c, .int .i64 now] w fun e w' => e = .returned (.int .i64 2) ∧ Below w.heap.size w w' := by
  have hb0 : Below w.heap.size w (w.alloc (.cells #[.int .i64 k, .int .i64 b, .int .i64 al, .int .i64 pl] 24)) := (Below.refl _ _).alloc (Nat.le_refl _) _
  have hL := Lib.hid (rlands_bad (w := w.alloc (.cells #[.int .i64 k, .int .i64 b, .int .i64 al, .int .i64 pl] 24)) a n c h)
  have HB0 := Lib.hid hb0
  obtain ⟨c0, c1, c2, c3⟩ := fate_box w k b al pl
  clear hb0 h
  go_enter Try.func45, Try.ntmps45
  go_wp2_with fail
  refine hL.out.mono ?_
  rintro e w2 ⟨rfl, hB2⟩
  have HB2 := Lib.hid (HB0.out.trans (hB2.mono (by simp)))
  clear hB2 hL
  go_wp2_with fail
  go_ret
  exact ⟨rfl, HB2.out⟩

set_option maxRecDepth 100000 in
theorem rsend_bad2 {w : World} (W : Nat) (a : Option Addr) (n c : Nat) {k b al pl now : Int} (h : ¬ (RightF k b al pl ∧ (0 ≤ now ∧ now ≤ 2147483647))) :
    Calls Try.prog 45 #[.pointer (some ⟨W, 0, none⟩), .int .i64 2, .agg #[.int .i64 k, .int .i64 b, .int .i64 al, .int .i64 pl], .slice a n c, .int .i64 now] w fun e w' => e = .returned (.int .i64 2) ∧ Below w.heap.size w w' := by
  have hb0 : Below w.heap.size w (w.alloc (.cells #[.int .i64 k, .int .i64 b, .int .i64 al, .int .i64 pl] 24)) := (Below.refl _ _).alloc (Nat.le_refl _) _
  have hL := Lib.hid (rlands_bad (w := w.alloc (.cells #[.int .i64 k, .int .i64 b, .int .i64 al, .int .i64 pl] 24)) a n c h)
  have HB0 := Lib.hid hb0
  obtain ⟨c0, c1, c2, c3⟩ := fate_box w k b al pl
  clear hb0 h
  go_enter Try.func45, Try.ntmps45
  go_wp2_with fail
  refine hL.out.mono ?_
  rintro e w2 ⟨rfl, hB2⟩
  have HB2 := Lib.hid (HB0.out.trans (hB2.mono (by simp)))
  clear hB2 hL
  go_wp2_with fail
  go_ret
  exact ⟨rfl, HB2.out⟩

set_option maxRecDepth 100000 in
theorem rsend_side {w : World} (W : Nat) (a : Option Addr) (n c : Nat) {k b al pl now t : Int} (h1 : t ≠ 1) (h2 : t ≠ 2) :
    Calls Try.prog 45 #[.pointer (some ⟨W, 0, none⟩), .int .i64 t, .agg #[.int .i64 k, .int .i64 b, .int .i64 al, .int .i64 pl], .slice a n c, .int .i64 now] w fun e w' => e = .returned (.int .i64 2) ∧ Below w.heap.size w w' := by
  have hb0 : Below w.heap.size w (w.alloc (.cells #[.int .i64 k, .int .i64 b, .int .i64 al, .int .i64 pl] 24)) := (Below.refl _ _).alloc (Nat.le_refl _) _
  have HB0 := Lib.hid hb0
  clear hb0
  have d1 : (t != 1) = true := by simpa using h1
  have d2 : (t != 2) = true := by simpa using h2
  clear h1 h2
  go_enter Try.func45, Try.ntmps45
  go_wp2_with fail
  go_ret
  exact ⟨rfl, HB0.out⟩
theorem rsend_any {w : World} {W B n c : Nat} {a : Option Addr} {l : List Nat} {k b al pl now ld dr t : Int} {v : Value} {rs : List Wz} (hq : RW B W rs ld dr v w) (hr : RB w a n c l) (hm : rs.length ≤ 10000) (hB : B ≤ w.heap.size) (hld : 0 ≤ ld ∧ ld ≤ 1000000) (hdr : 0 ≤ dr ∧ dr ≤ 1000000) (hg : Goes t k b al pl now) :
    Calls Try.prog 45 #[.pointer (some ⟨W, 0, none⟩), .int .i64 t, .agg #[.int .i64 k, .int .i64 b, .int .i64 al, .int .i64 pl], .slice a n c, .int .i64 now] w fun e w' => e = .returned (.int .i64 0) ∧ RSent B W rs ld dr t v n (landsOf k b al pl now l) w w' := by
  obtain ⟨rfl | rfl, h2, h3⟩ := hg
  · exact rsend_ok1 hq hr h2 h3 hm hB hld hdr
  · exact rsend_ok2 hq hr h2 h3 hm hB hld hdr
theorem rsend_not {w : World} (W : Nat) (a : Option Addr) (n c : Nat) {k b al pl now t : Int} (h : ¬ Goes t k b al pl now) :
    Calls Try.prog 45 #[.pointer (some ⟨W, 0, none⟩), .int .i64 t, .agg #[.int .i64 k, .int .i64 b, .int .i64 al, .int .i64 pl], .slice a n c, .int .i64 now] w fun e w' => e = .returned (.int .i64 2) ∧ Below w.heap.size w w' := by
  by_cases h1 : t = 1
  · subst h1; exact rsend_bad1 W a n c fun h2 => h ⟨.inl rfl, h2⟩
  · by_cases h2 : t = 2
    · subst h2; exact rsend_bad2 W a n c fun h3 => h ⟨.inr rfl, h3⟩
    · exact rsend_side W a n c h1 h2
end Go.Proofs.Ytfojhmobnedekaa

/- The walk of the reference's Due. Conditions: its list is short. -/
namespace Go.Proofs.Ytfojhmobnedekaa
open Go.RowKit

theorem info145 : (Try.prog.info? 145).map (fun i => (i.zero, i.size, i.bytes)) = some (some (.agg #[.int .i64 0, .slice none 0 0]), 2, 32) := by kernel_rfl
theorem Made.right {B : Nat} {xs ys zs : List Wz} {w : World} (h : Made B (zs.map Wz.r) w) (hp : (xs ++ ys).Perm zs) : Made B (ys.map Wz.r) w := by
  have h2 := h.perm (hp.map Wz.r)
  rw [List.map_append] at h2
  exact ⟨fun r hr => h2.own r (List.mem_append_right _ hr), (List.pairwise_append.1 h2.unl).2.1⟩
theorem Made.left {B : Nat} {xs ys zs : List Wz} {w : World} (h : Made B (zs.map Wz.r) w) (hp : (xs ++ ys).Perm zs) : Made B (xs.map Wz.r) w := by
  have h2 := h.perm (hp.map Wz.r)
  rw [List.map_append] at h2
  exact ⟨fun r hr => h2.own r (List.mem_append_left _ hr), (List.pairwise_append.1 h2.unl).1⟩
/-- Rows of unlike types lie apart. -/
theorem unl_rows {w : World} {B B' n n' s s' : Nat} {e e' : TypeId} {v v' : Value} {xs xs' : List Value} (hne : e ≠ e') (h : w.ownsRow B e s v n xs) (h' : w.ownsRow B' e' s' v' n' xs') : Unl v v' := by
  intro g e1 e2
  rcases h.2 with ⟨rfl, _⟩ | ⟨g1, cap, cur, rfl, hb, hh, _⟩
  · cases e1
  · have e : g1 = g := by injection e1
    subst e
    exact own_ne_type h' hh hne e2
/-- Between the rounds of the reference's Due. -/
structure RDue (B W : Nat) (rs : List Wz) (ld dr now : Int) (v : Value) (w0 : World) (ys rs' : List Wz) (v' vm : Value) (w : World) : Prop where
  wire : w.heap[W]? = some (.cells #[v', .int .i64 ld, .int .i64 dr] 79 (0, 0))
  row : w.ownsRow B 147 4 v' rs'.length (rcs rs')
  made : Made B (rs.map Wz.r) w
  perm : (ys ++ rs').Perm rs
  mail : w.ownsRow w0.heap.size 145 2 vm ys.length (mcs (ys.map Wz.w))
  ord : ordZ (rs.map Wz.z) = ys.map Wz.z ++ ordZ (rs'.map Wz.z)
  due : ∀ y ∈ ys, y.d ≤ now
  keep : Keep W v w0 w
  nxt : Nxt w0 v v'
theorem RDue.len {B W : Nat} {rs : List Wz} {ld dr now : Int} {v : Value} {w0 : World} {ys rs' : List Wz} {v' vm : Value} {w : World} (h : RDue B W rs ld dr now v w0 ys rs' v' vm w) : ys.length + rs'.length = rs.length := by
  have := h.perm.length_eq
  rwa [List.length_append] at this
theorem RDue.rw {B W : Nat} {rs : List Wz} {ld dr now : Int} {v : Value} {w0 : World} {ys rs' : List Wz} {v' vm : Value} {w : World} (h : RDue B W rs ld dr now v w0 ys rs' v' vm w) : RW B W rs' ld dr v' w := ⟨h.wire, h.row, h.made.right h.perm⟩
/-- What is told when the first one is not due. -/
theorem due_all {ys : List Zl} {t : List Zl} {now : Int} (h : ∀ y ∈ ys, y.d ≤ now) (ht : dueZ now t = []) : dueZ now (ys ++ t) = ys := by
  induction ys with
  | nil => exact ht
  | cons y ys ih =>
    unfold dueZ at ih ⊢
    rw [List.cons_append, List.takeWhile_cons, if_pos (decide_eq_true (h y (by simp))), ih (fun z hz => h z (by simp [hz]))]
/-- What the reference's Due hands on. -/
def RDueTo (B W : Nat) (rs : List Wz) (ld dr now : Int) (v : Value) (w0 : World) (vm : Value) (w : World) : Prop :=
  ∃ ys rs' v', ys.map Wz.z = dueZ now (ordZ (rs.map Wz.z)) ∧ ordZ (rs'.map Wz.z) = (ordZ (rs.map Wz.z)).drop (dueZ now (ordZ (rs.map Wz.z))).length ∧ RDue B W rs ld dr now v w0 ys rs' v' vm w
theorem RDue.to {B W : Nat} {rs : List Wz} {ld dr now : Int} {v : Value} {w0 : World} {ys rs' : List Wz} {v' vm : Value} {w : World} (h : RDue B W rs ld dr now v w0 ys rs' v' vm w) (ht : dueZ now (ordZ (rs'.map Wz.z)) = []) : RDueTo B W rs ld dr now v w0 vm w := by
  have e : dueZ now (ordZ (rs.map Wz.z)) = ys.map Wz.z := by
    rw [h.ord]
    refine due_all (fun y hy => ?_) ht
    obtain ⟨x, hx, rfl⟩ := List.mem_map.1 hy
    exact h.due x hx
  refine ⟨ys, rs', v', e.symm, ?_, h⟩
  rw [e, h.ord, List.drop_left]
theorem rcs_erase (l : List Wz) (b : Nat) : rcs (l.eraseIdx b) = rcs (l.take b) ++ rcs (l.drop (b + 1)) := by rw [List.eraseIdx_eq_take_drop_succ, rcs_append]
theorem rcs_take {l : List Wz} {b j : Nat} {u : Value} (h : (rcs (l.take b))[j]? = some u) : (rcs l)[j]? = some u := by
  have e : rcs l = rcs (l.take b) ++ rcs (l.drop b) := by rw [← rcs_append, List.take_append_drop]
  rw [e, List.getElem?_append_left (List.getElem?_eq_some_iff.1 h).1]
  exact h
theorem rcs_drop {l : List Wz} {b j : Nat} {u : Value} (hb : b ≤ l.length) (h : (rcs (l.drop b))[j]? = some u) : (rcs l)[b * 4 + j]? = some u := by
  have e : rcs l = rcs (l.take b) ++ rcs (l.drop b) := by rw [← rcs_append, List.take_append_drop]
  have hl : (rcs (l.take b)).length = b * 4 := by rw [rcs_len, List.length_take, Nat.min_eq_left hb]
  rw [e, List.getElem?_append_right (by omega), hl, Nat.add_sub_cancel_left]; exact h
theorem rcs_one (l : List Wz) : ∀ u ∈ rcs l, u.oneCell' = true := by
  intro u hu
  obtain ⟨x, _, hx⟩ := List.mem_flatMap.1 hu
  exact rc_one x u hx
theorem row_empty (w : World) (e : TypeId) (s : Nat) : (w.alloc (.cells #[] e)).ownsRow w.heap.size e s (.slice (some ⟨w.heap.size, 0, none⟩) 0 0) 0 [] :=
  ⟨by simp, .inr ⟨_, 0, _, rfl, Nat.le_refl _, heap_alloc_new w _, Nat.le_refl _, (by unfold maxLen; omega), by simp, by simp⟩⟩
theorem erase_perm {α : Type} {l : List α} {b : Nat} (h : b < l.length) : (l[b] :: l.eraseIdx b).Perm l := by
  have e : l = l.take b ++ l[b] :: l.drop (b + 1) := by rw [← List.drop_eq_getElem_cons h, List.take_append_drop]
  rw [List.eraseIdx_eq_take_drop_succ]
  refine List.Perm.trans List.perm_middle.symm ?_
  rw [← e]
theorem map_erase {α β : Type} (f : α → β) (l : List α) (b : Nat) : (l.map f).eraseIdx b = (l.eraseIdx b).map f := by
  rw [List.eraseIdx_eq_take_drop_succ, List.eraseIdx_eq_take_drop_succ, List.map_append, List.map_take, List.map_drop]
theorem RDue.below {B W : Nat} {rs : List Wz} {ld dr now : Int} {v : Value} {w0 : World} {ys rs' : List Wz} {v' vm : Value} {w w' : World} (h : RDue B W rs ld dr now v w0 ys rs' v' vm w) (hB : Below w.heap.size w w') : RDue B W rs ld dr now v w0 ys rs' v' vm w' :=
  ⟨(hB.block W (lt_of_block h.wire)).trans h.wire, own_frame3 h.row fun q _ hq => hB.block q hq, h.made.below hB, h.perm, own_frame3 h.mail fun q _ hq => hB.block q hq, h.ord, h.due, h.keep.then_below hB, h.nxt⟩
/-- The cells that the appending of a mail reads. -/
def DueS (W g b : Nat) (v : Value) (y : Wz) (w : World) : Prop := w.cell? ⟨W, 0, none⟩ = some v ∧ w.cell? ⟨g, b * 4, none⟩ = some (.int .i64 y.t) ∧ w.cell? ⟨g, b * 4 + 3, none⟩ = some (.slice y.r.a y.r.n y.r.c)
theorem DueS.of {W g b : Nat} {v : Value} {y : Wz} {w w' : World} (h : DueS W g b v y w) (h1 : w'.heap[W]? = w.heap[W]?) (h2 : w'.heap[g]? = w.heap[g]?) : DueS W g b v y w' :=
  ⟨(World.cell?_of_block h1).trans h.1, (World.cell?_of_block h2).trans h.2.1, (World.cell?_of_block h2).trans h.2.2⟩

set_option maxHeartbeats 3200000 in
set_option maxRecDepth 100000 in
theorem rdue_any {w : World} {B W : Nat} {v : Value} {rs : List Wz} {ld dr : Int} (now : Int) (hq : RW B W rs ld dr v w) (hm : rs.length ≤ 10000) (hB : B ≤ w.heap.size) :
    Calls Try.prog 43 #[.pointer (some ⟨W, 0, none⟩), .int .i64 now] w fun e w' => ∃ vm, e = .returned vm ∧ RDueTo B W rs ld dr now v w vm w' := by
  obtain ⟨i147, hi, hz0, hz1, hz2⟩ := info_parts info147
  obtain ⟨i145, hj, hy0, hy1, hy2⟩ := info_parts info145
  have H75 : Hid (Calls Try.prog 75 #[.pointer (some ⟨W, 0, none⟩)] w fun e w' => e = .returned (.int .i64 (optI (bestZ (rs.map Wz.z) rs.length))) ∧ Below w.heap.size w w') := by
    obtain ⟨a, c, e⟩ := own39_slice hq.row
    rw [e] at hq
    exact rfirst_any hq rfl (by omega)
  have HQ := Lib.hid hq
  clear hq
  go_enter Try.func43, Try.ntmps43
  go_wp2_with fail
  refine H75.out.mono ?_
  rintro e w1 ⟨rfl, hB1⟩
  have hST : RDue B W rs ld dr now v w [] rs v (.slice none 0 0) w1 := by
    have h1 := HQ.out.below hB1
    exact ⟨h1.wire, h1.row, h1.made, List.Perm.refl _, World.ownsRow_nil _ _ _ _, rfl, fun y hy => absurd hy (by simp), Keep.of_below hB1, Nxt.refl _ _⟩
  have HST := Lib.hid hST
  clear hST hB1 H75
  go_wp2_with fail
  go_loopw [5, 6] (fun o k wr => ∃ ys rs' am cm v', o = .slice am ys.length cm ∧ k = .int .i64 (optI (bestZ (rs'.map Wz.z) rs'.length)) ∧ Hid (RDue B W rs ld dr now v w ys rs' v' (.slice am ys.length cm) wr)) (fun o _ _ => rs.length - (match o with | .slice _ m _ => m | _ => 0))
  case atStart => exact ⟨[], rs, none, 0, _, rfl, rfl, HST⟩
  case round =>
    obtain ⟨ys, rs', am, cm, v', rfl, rfl, HR⟩ := hrel
    have hlen := HR.out.len
    have hbr := bestZ_rest (rs'.map Wz.z) rs'.length (by rw [List.length_map]; exact Nat.le_refl _)
    rw [List.take_of_length_le (by rw [List.length_map]; exact Nat.le_refl _)] at hbr
    cases hb : bestZ (rs'.map Wz.z) rs'.length with
    | none =>
      rw [hb] at hbr
      have e1 : rs' = [] := List.eq_nil_of_length_eq_zero hbr
      have HE := Lib.hid (HR.out.to (by rw [e1]; rfl))
      rw [show optI none = -1 from rfl]
      clear hb hbr e1 HR
      go_wp2_with fail
      go_ret
      exact ⟨_, rfl, HE.out⟩
    | some b =>
      rw [hb] at hbr
      obtain ⟨h1, h2⟩ := hbr
      obtain ⟨y, hy⟩ : ∃ y, rs'[b]? = some y := ⟨_, List.getElem?_eq_getElem h1⟩
      have hzb : (rs'.map Wz.z).getD b default = y.z := by rw [List.getD_eq_getElem?_getD, List.getElem?_map, hy]; rfl
      obtain ⟨g, c', rfl, k0, k1, k2, k3⟩ := rrow_at HR.out.row hy
      rw [show optI (some b) = ((b : Nat) : Int) from rfl]
      rw [hzb] at h2
      have hc0 : wr.cell? ⟨W, 0, none⟩ = some (.slice (some ⟨g, 0, none⟩) rs'.length c') := (cell_of_block HR.out.wire).trans rfl
      have HY := Lib.hid hy
      have H2 := Lib.hid h2
      clear hb hzb hy h2 k2
      by_cases hd : y.d ≤ now
      · have d1 : decide (y.d ≤ now) = true := decide_eq_true hd
        have hS : DueS W g b (.slice (some ⟨g, 0, none⟩) rs'.length c') y wr := ⟨hc0, k0, k3⟩
        have HS := Lib.hid hS
        have hwz := HR.out.keep.size
        have hb1 : b < rs'.length := h1
        obtain ⟨n', hn'⟩ : ∃ n', n' = rs'.length := ⟨_, rfl⟩
        go_upto_region 5 with fail
        clear k0 k1 k3 hc0
        haveI : Nonempty (Such (DueS W g b (.slice (some ⟨g, 0, none⟩) rs'.length c') y)) := ⟨⟨wr, hS⟩⟩
        haveI : Inhabited (Such (DueS W g b (.slice (some ⟨g, 0, none⟩) rs'.length c') y)) := ⟨⟨wr, hS⟩⟩
        have Z0 : ∀ z : Such (DueS W g b (.slice (some ⟨g, 0, none⟩) rs'.length c') y), z.1.cell? ⟨W, 0, none⟩ = some (.slice (some ⟨g, 0, none⟩) rs'.length c') := fun z => z.2.1
        have Z1 : ∀ z : Such (DueS W g b (.slice (some ⟨g, 0, none⟩) rs'.length c') y), z.1.cell? ⟨g, b * 4, none⟩ = some (.int .i64 y.t) := fun z => z.2.2.1
        have Z2 : ∀ z : Such (DueS W g b (.slice (some ⟨g, 0, none⟩) rs'.length c') y), z.1.cell? ⟨g, b * 4 + 1 + 2, none⟩ = some (.slice y.r.a y.r.n y.r.c) := fun z => z.2.2.2
        have Z3 : ∀ z : Such (DueS W g b (.slice (some ⟨g, 0, none⟩) rs'.length c') y), z.1.cell? ⟨g, b * 4 + 3, none⟩ = some (.slice y.r.a y.r.n y.r.c) := fun z => z.2.2.2
        clear hS
        refine region_sch (fun w' => ∃ z : Such (DueS W g b (.slice (some ⟨g, 0, none⟩) rs'.length c') y), w' = z.1) [21] [([0, 1, 2, 3, 4, 5, 6, 7, 8, 9, 10, 11, 12, 13, 14, 15, 16, 17, 18], 19), ([], 20)] (by rfl) (by decide +kernel) ⟨⟨wr.drew, HS.out⟩, rfl⟩ ?_
        unfold schP
        simp only [pickL, List.filterMap_cons, List.filterMap_nil, List.getElem?_toArray, List.getElem?_cons_zero, List.getElem?_cons_succ]
        show wpQuiet _ _ _ _ [_, _, _, _, _, _, _, _, _, _, _, _, _, _, _, _, _, _, _] _
        repeat (go_big_quiet_step (fail))
        refine wpQuiet_nil ?_
        refine mvP_value (v := .slice (some ⟨wr.heap.size, 0, none⟩) (1 : Nat) (1 : Nat)) (w' := wr.drew.alloc (.cells [.int .i64 y.t, .slice y.r.a y.r.n y.r.c].toArray 145)) (some 45) rfl rfl rfl (by go_simp) ⟨⟨⟨_, HS.out.of (Below.heap_alloc wr.drew _ W (lt_of_block HR.out.wire)) (Below.heap_alloc wr.drew _ g (block_lt_of_cell HS.out.2.1))⟩, rfl⟩, ?_⟩
        simp only [Act.put, List.setIfInBounds_toArray, List.set_cons_succ, List.set_cons_zero]
        unfold schP
        refine wpQuiet_nil ?_
        have hB5 : Below wr.heap.size wr (wr.drew.alloc (.cells [.int .i64 y.t, .slice y.r.a y.r.n y.r.c].toArray 145)) := (Below.refl _ _).drew.alloc (Nat.le_refl _) _
        have hrow5 : (wr.drew.alloc (.cells [.int .i64 y.t, .slice y.r.a y.r.n y.r.c].toArray 145)).ownsRow w.heap.size 145 2 (.slice am ys.length cm) ys.length (mcs (ys.map Wz.w)) := own_frame3 HR.out.mail fun q _ hq => hB5.block q hq
        obtain ⟨v6, w6, hrun, ho6, hg6, hn6⟩ := run_append_ownS (P := Try.prog) (wr.drew.alloc (.cells [.int .i64 y.t, .slice y.r.a y.r.n y.r.c].toArray 145)) w.heap.size 81 81 145 i145 _ 2 32 Try.underlying81 hj hy0 hy1 hy2 rfl (by decide) (.slice am ys.length cm) ys.length _ hrow5 ⟨wr.heap.size, 0, none⟩ 1 1 [.int .i64 y.t, .slice y.r.a y.r.n y.r.c] rfl (cells_at_block (heap_alloc_new wr.drew _)) (by simp [Value.oneCell']) (by unfold maxLen; omega) (by omega) (by simp; omega)
        obtain ⟨a6, c6, rfl⟩ := own39_slice ho6
        have hks : ∀ q, q < wr.heap.size → (Value.slice am ys.length cm).ownBlock ≠ some q → w6.heap[q]? = wr.heap[q]? := fun q hq h1 => (hg6.block q (by simp; omega) (fun e => h1 e.symm)).trans (hB5.block q hq)
        have hRow := HR.out.row
        have hS6 : DueS W g b (.slice (some ⟨g, 0, none⟩) rs'.length c') y w6 := HS.out.of (hks W (lt_of_block HR.out.wire) (own_ne_type HR.out.mail HR.out.wire (by decide))) (hks g (block_lt_of_cell HS.out.2.1) (by
          rcases hRow.2 with ⟨e, _⟩ | ⟨g2, cap, cur, e, _, hh, _⟩
          · cases e
          · injection e with e _ _
            injection e with e
            injection e with e
            subst e
            exact own_ne_type HR.out.mail hh (by decide)))
        refine mvP_append (some 46) rfl rfl rfl (.tmp 26) (.tmp 45) rfl rfl rfl hrun ⟨⟨⟨w6, hS6⟩, rfl⟩, ?_⟩
        simp only [Act.put, List.setIfInBounds_toArray, List.set_cons_succ, List.set_cons_zero]
        unfold schP
        simp only [pickL, List.filterMap_cons, List.filterMap_nil, List.getElem?_toArray, List.getElem?_cons_zero, List.getElem?_cons_succ]
        have hsz6 : wr.heap.size + 1 ≤ w6.heap.size := by have := hg6.size; simpa using this
        have hmid : RDue B W rs ld dr now v w ys rs' (.slice (some ⟨g, 0, none⟩) rs'.length c') (.slice am ys.length cm) wr := HR.out
        have hw6 : w6.heap[W]? = some (.cells #[.slice (some ⟨g, 0, none⟩) rs'.length c', .int .i64 ld, .int .i64 dr] 79 (0, 0)) := (hks W (lt_of_block hmid.wire) (own_ne_type hmid.mail hmid.wire (by decide))).trans hmid.wire
        have hr6 : w6.ownsRow B 147 4 (.slice (some ⟨g, 0, none⟩) rs'.length c') rs'.length (rcs rs') := own_frame3 hmid.row fun q e hq => hks q hq (fun e2 => unl_rows (by decide) hmid.row hmid.mail q e e2)
        have hm6 : Made B (rs.map Wz.r) w6 := hmid.made.frame fun r hr q e hq => hks q hq (fun e2 => unl_rows (by decide) (hmid.made.own r hr) hmid.mail q e e2)
        have hl6 : w6.ownsRow w.heap.size 145 2 (.slice a6 (ys.length + 1) c6) (ys.length + 1) (mcs ((ys ++ [y]).map Wz.w)) := by
          rw [List.map_append, mcs_append]; exact ho6
        have hk6 : Keep W v w w6 := ⟨hg6.os.trans hmid.keep.os, hg6.tape.trans hmid.keep.tape, hg6.output.trans hmid.keep.output, by omega, fun q hq h1 h2 => (hks q (by omega) (fun e => by have := (own_lt3 hmid.mail e).1; omega)).trans (hmid.keep.block q hq h1 h2)⟩
        have H6 := Lib.hid (And.intro hw6 (And.intro hr6 (And.intro hm6 (And.intro hl6 hk6))))
        clear hw6 hr6 hm6 hl6 hk6 hmid hsz6 hS6 hRow hks hn6 hg6 ho6 hrun hrow5 hB5 Z0 Z1 Z2 Z3 HS
        show wpQuiet _ _ _ _ [_] _
        repeat (go_big_quiet_step (fail))
        refine wpQuiet_nil ?_
        go_upto_region 6 with fail
        have hc6 : w6.cell? ⟨W, 0, none⟩ = some (.slice (some ⟨g, 0, none⟩) rs'.length c') := (cell_of_block H6.out.1).trans rfl
        have L0 := fun z : Lies w6 => lies_cell hc6 z
        have hnc : rs'.length ≤ c' := by
          rcases H6.out.2.1.2 with ⟨e, _⟩ | ⟨g2, cap, cur, e, _, _, hh, _⟩
          · cases e
          · injection e with _ _ e
            subst e
            exact hh
        clear hc6
        refine region_lsch (fun w' => ∃ z : Lies w6, w' = z.1) 17 [([0, 2, 3, 4, 5, 6, 7, 9, 10, 11, 12, 13, 14, 15], 1), ([], 8), ([], 16)] (by rfl) (by decide +kernel) ⟨⟨w6.drew, (Below.refl _ _).drew⟩, rfl⟩ ?_
        unfold lschP
        simp only [pickL, List.filterMap_cons, List.filterMap_nil, List.getElem?_toArray, List.getElem?_cons_zero, List.getElem?_cons_succ]
        show wpQuiet _ _ _ _ [_, _, _, _, _, _, _, _, _, _, _, _, _, _] _
        repeat (go_big_quiet_step (fail))
        refine wpQuiet_nil ?_
        obtain ⟨off, hoff, hoff2⟩ : ∃ off, (if c' = b + 1 then some (⟨g, 0, none⟩ : Addr) else some ⟨g, (b + 1) * 4, none⟩) = some ⟨g, off, none⟩ ∧ (c' = b + 1 ∨ off = (b + 1) * 4) := by
          by_cases h : c' = b + 1
          · exact ⟨0, if_pos h, .inl h⟩
          · exact ⟨(b + 1) * 4, if_neg h, .inr rfl⟩
        rw [hoff]
        clear hoff L0
        have hB7 : Below w6.heap.size w6 (w6.drew.alloc (.cells #[] 147)) := (Below.refl _ _).drew.alloc (Nat.le_refl _) _
        refine mvP_value (v := .slice (some ⟨w6.heap.size, 0, none⟩) (0 : Nat) (0 : Nat)) (w' := w6.drew.alloc (.cells #[] 147)) (some 48) rfl rfl rfl (by go_simp) ⟨⟨⟨_, hB7⟩, rfl⟩, ?_⟩
        simp only [Act.put, List.setIfInBounds_toArray, List.set_cons_succ, List.set_cons_zero]
        unfold lschP
        refine wpQuiet_nil ?_
        have hcg : ∀ j u, (rcs rs')[j]? = some u → w6.cell? ((⟨g, 0, none⟩ : Addr).add j) = some u := H6.out.2.1.cells (g := g) rfl
        have hgl : ∀ j u, (rcs rs')[j]? = some u → g < w6.heap.size := fun j u hu => block_lt_of_cell (by have := hcg j u hu; rw [Addr.add_lit] at this; exact this)
        have hbl : (rcs (rs'.take b)).length = b * 4 := by rw [rcs_len, List.length_take, Nat.min_eq_left (by omega)]
        have hdl : (rcs (rs'.drop (b + 1))).length = (rs'.length - (b + 1)) * 4 := by rw [rcs_len, List.length_drop]
        obtain ⟨v8, w8, hrun, ho8, hg8, hn8⟩ := run_append_ownS (P := Try.prog) (w6.drew.alloc (.cells #[] 147)) w6.heap.size 77 77 147 i147 _ 4 48 Try.underlying77 hi hz0 hz1 hz2 rfl (by decide) (.slice (some ⟨w6.heap.size, 0, none⟩) 0 0) 0 [] (row_empty w6.drew 147 4) ⟨g, 0, none⟩ b c' (rcs (rs'.take b)) hbl (fun j u hu => by
          have h3 := hcg j u (rcs_take hu)
          rw [Addr.add_lit] at h3 ⊢
          exact (hB7.cell (block_lt_of_cell h3)).trans h3) (rcs_one _) (by unfold maxLen; omega) (by omega) (by simp)
        have hB8 : Below w6.heap.size w6 w8 := hB7.grown hg8 (by simp) (fun j e => by cases e; exact Nat.le_refl _)
        obtain ⟨a8, c8, rfl⟩ := own39_slice ho8
        refine mvP_append (some 55) rfl rfl rfl (.tmp 48) (.tmp 54) rfl rfl rfl hrun ⟨⟨⟨w8, hB8⟩, rfl⟩, ?_⟩
        simp only [Act.put, List.setIfInBounds_toArray, List.set_cons_succ, List.set_cons_zero]
        unfold lschP
        refine wpQuiet_nil ?_
        clear hrun
        obtain ⟨v9, w9, hrun, ho9, hg9, hn9⟩ := run_append_ownS (P := Try.prog) w8 w6.heap.size 77 77 147 i147 _ 4 48 Try.underlying77 hi hz0 hz1 hz2 rfl (by decide) (.slice a8 (0 + b) c8) (0 + b) _ ho8 ⟨g, off, none⟩ (rs'.length - (b + 1)) (c' - (b + 1)) (rcs (rs'.drop (b + 1))) hdl (fun j u hu => by
          have hj := (List.getElem?_eq_some_iff.1 hu).1
          rw [hdl] at hj
          have h4 := rcs_drop (by omega) hu
          have h3 := hcg _ u h4
          rw [Addr.add_lit] at h3 ⊢
          rcases hoff2 with e | e
          · omega
          · subst e
            refine (hB8.cell (hgl _ u h4)).trans ?_
            simpa using h3) (rcs_one _) (by unfold maxLen; omega) (by omega) hB8.size
        have hB9 : Below w6.heap.size w6 w9 := hB8.grown hg9 hB8.size (fun j e => (own_lt3 ho8 e).1)
        have hlen9 : 0 + b + (rs'.length - (b + 1)) = rs'.length - 1 := by omega
        rw [hlen9] at ho9
        obtain ⟨a9, c9, rfl⟩ := own39_slice ho9
        refine mvP_append (some 63) rfl rfl rfl (.tmp 55) (.tmp 62) rfl rfl rfl hrun ⟨⟨⟨w9, hB9⟩, rfl⟩, ?_⟩
        simp only [Act.put, List.setIfInBounds_toArray, List.set_cons_succ, List.set_cons_zero]
        unfold lschP
        simp only [List.drop_succ_cons, List.drop_zero]
        have H6' := H6.out
        obtain ⟨hw6, hr6, hm6, hl6, hk6⟩ := H6'
        have hw9 : w9.heap[W]? = some (.cells #[.slice (some ⟨g, 0, none⟩) rs'.length c', .int .i64 ld, .int .i64 dr] 79 (0, 0)) := (hB9.block W (lt_of_block hw6)).trans hw6
        have hc9 : w9.cell? ⟨W, 0, none⟩ = some (.slice (some ⟨g, 0, none⟩) rs'.length c') := (cell_of_block hw9).trans rfl
        have hf9 : w9.frozen? ⟨W, 0, none⟩ = false := frozen_of_block hw9
        have hel : (rs'.eraseIdx b).length = rs'.length - 1 := by rw [List.length_eraseIdx, if_pos hb1]
        have hsW : ∀ q, q ≠ W → (w9.setCell ⟨W, 0, none⟩ (.slice a9 (rs'.length - 1) c9)).heap[q]? = w9.heap[q]? := fun q hq => Below.heap_setCell w9 ⟨W, 0, none⟩ _ q hq
        have hne : ∀ {B2 e2 s2 n2 : Nat} {u : Value} {xs : List Value}, w9.ownsRow B2 e2 s2 u n2 xs → 79 ≠ e2 → u.ownBlock ≠ some W := fun ho ht => own_ne_type ho hw9 ht
        have hm9 : Made B (rs.map Wz.r) w9 := hm6.below hB9
        have hl9 := own_frame3 hl6 fun q _ hq => hB9.block q hq
        have HOLD := HR.out
        have hyb : rs'[b] = y := by have := HY.out; rw [List.getElem?_eq_getElem hb1] at this; exact Option.some.inj this
        have hnew : RDue B W rs ld dr now v w (ys ++ [y]) (rs'.eraseIdx b) (.slice a9 (rs'.length - 1) c9) (.slice a6 (ys.length + 1) c6) (w9.setCell ⟨W, 0, none⟩ (.slice a9 (rs'.length - 1) c9)) := by
          refine ⟨setCell_of_block _ hw9, ?_, ?_, ?_, ?_, ?_, ?_, ?_, ?_⟩
          · rw [hel, rcs_erase]
            exact own_mono3 (own_frame3 ho9 fun q hq _ => hsW q (fun e => hne ho9 (by decide) (by rw [hq, e]))) (by have := hk6.size; omega)
          · exact hm9.frame fun r hr q hq _ => hsW q (fun e => hne (hm9.own r hr) (by decide) (by rw [hq, e]))
          · refine (List.Perm.trans ?_ HOLD.perm)
            rw [List.append_assoc]
            refine List.Perm.append_left _ ?_
            have := erase_perm hb1
            rw [hyb] at this
            exact this
          · rw [List.length_append]
            exact own_frame3 hl9 fun q hq _ => hsW q (fun e => hne hl9 (by decide) (by rw [hq, e]))
          · rw [HOLD.ord, H2.out, map_erase]
            simp
          · intro x hx
            rcases List.mem_append.1 hx with hx | hx
            · exact HOLD.due x hx
            · rw [List.mem_singleton.1 hx]; exact hd
          · refine ⟨hB9.os.trans hk6.os, hB9.tape.trans hk6.tape, hB9.output.trans hk6.output, ?_, fun q hq h1 h2 => (hsW q h1).trans ((hB9.block q (by have := hk6.size; omega)).trans (hk6.block q hq h1 h2))⟩
            have := hB9.size; have := hk6.size; simp [World.setCell]; omega
          · intro q e
            exact .inr (by have := (own_lt3 ho9 e).1; have := hk6.size; omega)
        have HNEW := Lib.hid hnew
        have hrw := hnew.rw
        rw [← hel] at hrw
        have H75 := Lib.hid (rfirst_any hrw rfl (by rw [hel]; omega))
        rw [hel] at H75
        clear hnew hrw hm9 hl9 hne hsW hw9 hw6 hr6 hm6 hl6 hk6 hB7 hB8 hB9 ho8 ho9 hg8 hg9 hn8 hn9 hrun hcg hgl hbl hdl HOLD
        go_wp2_with fail
        refine H75.out.mono ?_
        rintro e w10 ⟨rfl, hB10⟩
        have HN10 := Lib.hid (HNEW.out.below hB10)
        clear hB10 H75
        go_wp2_with fail
        go_roundw
        case rel => exact ⟨ys ++ [y], rs'.eraseIdx b, a6, c6, _, by simp, by rw [hel], by simpa using HN10⟩
        case measure => simp; omega
      · have HE := Lib.hid (HR.out.to (by
          rw [H2.out]
          unfold dueZ
          rw [List.takeWhile_cons, if_neg (show ¬ decide (y.z.d ≤ now) = true from fun e => hd (of_decide_eq_true e))]))
        have d1 : decide (y.d ≤ now) = false := decide_eq_false hd
        clear HR
        go_wp2_with fail
        go_ret
        exact ⟨_, rfl, HE.out⟩
end Go.Proofs.Ytfojhmobnedekaa

/- The walks of OverBytes and of the law's same. Conditions: rows are short. -/
namespace Go.Proofs.Ytfojhmobnedekaa
open Go.RowKit

/-- A block of bytes, written over, and nothing else. -/
def OverR (w : World) (g c : Nat) (wr : World) : Prop := w.grownBy wr (some g) ∧ wr.heap.size = w.heap.size ∧ ∃ cur : Array Value, wr.heap[g]? = some (.cells cur 5 (0, 0)) ∧ cur.size = c
theorem OverR.set {w wr : World} {g c k : Nat} (h : OverR w g c wr) (u : Value) : OverR w g c (wr.setCell ⟨g, k, none⟩ u) := by
  obtain ⟨h1, h2, cur, h3, h4⟩ := h
  refine ⟨⟨h1.os, h1.tape, h1.output, by have := h1.size; simpa [World.setCell] using this, fun q hq hne => (Below.heap_setCell wr ⟨g, k, none⟩ u q (fun e => hne (by rw [e]))).trans (h1.block q hq hne)⟩, by simpa [World.setCell] using h2, _, setCell_of_block u h3, by simpa using h4⟩

set_option maxHeartbeats 1600000 in
set_option maxRecDepth 100000 in
theorem over_block {w : World} {g n c : Nat} {cur : Array Value} (hg : w.heap[g]? = some (.cells cur 5 (0, 0))) (hc : cur.size = c) (hn : n ≤ c) (hm : n ≤ 1000000) (hcm : c ≤ 9223372036854775807) :
    Calls Try.prog 44 #[.slice (some ⟨g, 0, none⟩) n c] w fun e w' => e = .returned (.tuple #[]) ∧ OverR w g c w' := by
  have HO := Lib.hid (show OverR w g c w from ⟨⟨rfl, rfl, rfl, Nat.le_refl _, fun _ _ _ => rfl⟩, rfl, cur, hg, hc⟩)
  clear hg hc
  go_enter Try.func44, Try.ntmps44
  go_wp2_with fail
  case inl h =>
    obtain ⟨m, hm0⟩ : ∃ m : Nat, m = n + 12 := ⟨_, rfl⟩
    rw [show ((n : Int) + 12).toNat = m by omega]
    have hm2 : m ≤ c := by omega
    have hmm : m ≤ 1000012 := by omega
    clear hm0 h
    go_loopw [3] (fun i wr => ∃ k : Nat, k ≤ m ∧ i = .int .i64 k ∧ Hid (OverR w g c wr)) (fun i _ => m - (intOf i).toNat)
    case atStart => exact ⟨0, Nat.zero_le _, rfl, HO⟩
    case round =>
      obtain ⟨k, hk, rfl, HR⟩ := hrel
      by_cases hlt : k < m
      · obtain ⟨_, _, cur2, h3, h4⟩ := HR.out
        have hkc : k < cur2.size := by rw [h4]; exact Nat.lt_of_lt_of_le hlt hm2
        have hc0 : wr.cell? ⟨g, k, none⟩ = some cur2[k] := (cell_of_block h3).trans (Array.getElem?_eq_getElem _)
        have hf0 : wr.frozen? ⟨g, k, none⟩ = false := frozen_of_block h3
        generalize cur2[k] = u0 at *
        clear h3 h4 hkc
        go_wp2_with (go_at_call 58; refine (markByte_any _ _ _).mono ?_; rintro e w' ⟨rfl, rfl⟩)
        go_roundw
        case rel => exact ⟨k + 1, by omega, by go_num, HR.out.set _⟩
        case measure => simp [intOf]; omega
      · obtain rfl : k = m := by omega
        go_wp2_with fail
        exact bodyPost_end (v := .tuple #[]) (results_none rfl _ _ _) rfl ⟨rfl, HR.out⟩
  case inr h =>
    obtain ⟨m, hm0⟩ : ∃ m : Nat, m = c := ⟨_, rfl⟩
    have hm2 : m ≤ c := Nat.le_of_eq hm0
    have hmm : m ≤ 1000012 := by omega
    have hsl : Value.slice (some ⟨g, 0, none⟩) c c = .slice (some ⟨g, 0, none⟩) m c := by rw [hm0]
    rw [hsl]
    clear hm0 h hsl
    go_loopw [3] (fun i wr => ∃ k : Nat, k ≤ m ∧ i = .int .i64 k ∧ Hid (OverR w g c wr)) (fun i _ => m - (intOf i).toNat)
    case atStart => exact ⟨0, Nat.zero_le _, rfl, HO⟩
    case round =>
      obtain ⟨k, hk, rfl, HR⟩ := hrel
      by_cases hlt : k < m
      · obtain ⟨_, _, cur2, h3, h4⟩ := HR.out
        have hkc : k < cur2.size := by rw [h4]; exact Nat.lt_of_lt_of_le hlt hm2
        have hc0 : wr.cell? ⟨g, k, none⟩ = some cur2[k] := (cell_of_block h3).trans (Array.getElem?_eq_getElem _)
        have hf0 : wr.frozen? ⟨g, k, none⟩ = false := frozen_of_block h3
        generalize cur2[k] = u0 at *
        clear h3 h4 hkc
        go_wp2_with (go_at_call 58; refine (markByte_any _ _ _).mono ?_; rintro e w' ⟨rfl, rfl⟩)
        go_roundw
        case rel => exact ⟨k + 1, by omega, by go_num, HR.out.set _⟩
        case measure => simp [intOf]; omega
      · obtain rfl : k = m := by omega
        go_wp2_with fail
        exact bodyPost_end (v := .tuple #[]) (results_none rfl _ _ _) rfl ⟨rfl, HR.out⟩

set_option maxRecDepth 100000 in
theorem over_nil (w : World) : Calls Try.prog 44 #[.slice none 0 0] w fun e w' => e = .returned (.tuple #[]) ∧ w = w' := by
  go_enter Try.func44, Try.ntmps44
  go_wp2_with fail
  go_loopw [3] (fun i wr => i = .int .i64 0 ∧ wr = w) (fun i _ => 0)
  case atStart => exact ⟨rfl, rfl⟩
  case round =>
    obtain ⟨rfl, hwr⟩ := hrel
    subst hwr
    go_wp2_with fail
    exact bodyPost_end (v := .tuple #[]) (results_none rfl _ _ _) rfl ⟨rfl, rfl⟩
/-- OverBytes of bytes that are owned. -/
theorem over_any {w : World} {B n : Nat} {v : Value} {xs : List Value} (ho : w.ownsRow B 5 1 v n xs) (hm : n ≤ 1000000) :
    Calls Try.prog 44 #[v] w fun e w' => e = .returned (.tuple #[]) ∧ w.grownBy w' v.ownBlock ∧ w'.heap.size = w.heap.size := by
  rcases ho.2 with ⟨rfl, rfl⟩ | ⟨g, cap, cur, rfl, _, hg, hnc, hcm, hcs, _⟩
  · refine (over_nil w).mono ?_
    rintro e w' ⟨rfl, rfl⟩
    exact ⟨rfl, ⟨rfl, rfl, rfl, Nat.le_refl _, fun _ _ _ => rfl⟩, rfl⟩
  · refine (over_block hg (by rw [hcs, Nat.mul_one]) hnc hm (by unfold maxLen at hcm; omega)).mono ?_
    rintro e w' ⟨rfl, h1, h2, _⟩
    exact ⟨rfl, h1, h2⟩

/-- Mails that are owned can be read. -/
theorem mailR_of {w : World} {B B' : Nat} {t : TypeId} {v : Value} {ms : List Wz} (ho : w.ownsRow B' t 2 v ms.length (mcs (ms.map Wz.w))) (hm : ∀ x ∈ ms, w.ownsRow B 5 1 x.r.v x.r.n (bs x.r.l)) (hs : SmZ (ms.map Wz.z)) : MailR w v (ms.map Wz.z) := by
  rcases ho.2 with ⟨rfl, h0⟩ | ⟨g, cap, cur, rfl, hb, hh, hnc⟩
  · refine ⟨none, 0, by rw [List.length_map, h0], fun k x hk => ?_⟩
    have := (List.getElem?_eq_some_iff.1 hk).1
    rw [List.length_map, h0] at this; omega
  · refine ⟨_, cap, by rw [List.length_map], fun k x hk => ?_⟩
    obtain ⟨hk1, rfl⟩ := List.getElem?_eq_some_iff.1 hk
    have hk2 : k < ms.length := by simpa using hk1
    have hc := fun j (hj : j < 2) u (hu : [Value.int .i64 ((ms.map Wz.w)[k]'(by simpa using hk2)).t, .slice ((ms.map Wz.w)[k]'(by simpa using hk2)).a ((ms.map Wz.w)[k]'(by simpa using hk2)).n ((ms.map Wz.w)[k]'(by simpa using hk2)).c][j]? = some u) => ho.cells (g := g) rfl (k * 2 + j) u ((mcs_get (ms.map Wz.w) k j (by simpa using hk2) hj).trans hu)
    have e0 := hc 0 (by omega) _ rfl
    have e1 := hc 1 (by omega) _ rfl
    rw [Addr.add_lit] at e0 e1
    have hx : ms[k] ∈ ms := List.getElem_mem hk2
    have hz := hs _ (List.mem_map_of_mem (f := Wz.z) hx)
    have hown := hm _ hx
    have hln := own_len hown
    have hr := own_rb2 hown hz.1 (by have := hz.2; rw [← hln]; exact Nat.le_trans this (by omega))
    refine ⟨g, 0, (ms[k]).r.a, (ms[k]).r.n, (ms[k]).r.c, rfl, ?_, ?_, ?_⟩
    · simpa [Wz.w, Wz.z] using e0
    · simpa [Wz.w] using e1
    · simpa [Wz.z] using hr

set_option maxHeartbeats 1600000 in
set_option maxRecDepth 100000 in
theorem same42 {w : World} {a b : Option Addr} {n m c d : Nat} {D : List Zl} (h1 : MailR w (.slice a n c) D) (h2 : MailR w (.slice b m d) D) (hm : D.length ≤ 1000000) :
    Calls Try.prog 42 #[.slice a n c, .slice b m d] w fun e w' => e = .returned (.bool true) ∧ Below w.heap.size w w' := by
  obtain rfl : n = D.length := by obtain ⟨_, _, e, _⟩ := h1; injection e
  obtain rfl : m = D.length := by obtain ⟨_, _, e, _⟩ := h2; injection e
  have HMO := Lib.hid h1
  have HMC := Lib.hid h2
  clear h1 h2
  go_enter Try.func42, Try.ntmps42
  go_wp2_with fail
  go_loopw [5] (fun i wr => ∃ q : Nat, q ≤ D.length ∧ i = .int .i64 q ∧ Hid (Below w.heap.size w wr)) (fun i _ => D.length - (intOf i).toNat)
  case atStart => exact ⟨0, Nat.zero_le _, rfl, Below.refl _ _⟩
  case round =>
    obtain ⟨q, hq, rfl, HBq⟩ := hrel
    by_cases hlq : q < D.length
    · obtain ⟨x, hx⟩ : ∃ x, D[q]? = some x := ⟨_, List.getElem?_eq_getElem hlq⟩
      obtain ⟨_, _, e1, hk1⟩ := HMO.out.below HBq.out
      injection e1 with e1 _ e2
      subst e1; subst e2
      obtain ⟨b1, o1, s1, n1, c1, rfl, k1, k2, k3⟩ := hk1 q x hx
      obtain ⟨_, _, e1, hk2⟩ := HMC.out.below HBq.out
      injection e1 with e1 _ e2
      subst e1; subst e2
      obtain ⟨b2, o2, s2, n2, c2, rfl, k4, k5, k6⟩ := hk2 q x hx
      have H19 := Lib.hid fun z : Lies wr => show Calls Try.prog 19 #[.slice s1 n1 c1, .slice s2 n2 c2] z.1 fun e w' => e = .returned (.bool true) ∧ Below z.1.heap.size z.1 w' from (same_any (k3.below z.2) (k6.below z.2)).mono (by
        rintro e w' ⟨rfl, qq, rfl⟩
        exact ⟨by simp, below_drewN (Below.refl _ _) _⟩)
      have L1 := fun z : Lies wr => lies_cell k1 z
      have L2 := fun z : Lies wr => lies_cell k2 z
      have L3 := fun z : Lies wr => lies_cell k4 z
      have L4 := fun z : Lies wr => lies_cell k5 z
      clear hk1 hk2 hx k1 k2 k3 k4 k5 k6
      go_upto_region 6 with fail
      refine region_lies (by rfl) (by decide +kernel) ?_
      repeat (go_big_quiet_step ((go_at_call 19; exact Lies.call (H19.out _))))
      refine wpQuiet_nil ?_
      intro _ hw'
      obtain ⟨z, rfl⟩ := hw'
      have HZ := Lib.hid (HBq.out.trans ((show Below wr.heap.size wr z.1 from z.2).mono HBq.out.size))
      clear L1 L2 L3 L4 H19
      generalize z.1 = wz at *
      clear z
      go_wp2_with fail
      go_roundw
      case rel => exact ⟨q + 1, by omega, by go_num, HZ⟩
      case measure => simp [intOf]; omega
    · obtain rfl : q = D.length := by omega
      go_wp2_with fail
      go_ret
      exact ⟨rfl, HBq.out⟩
end Go.Proofs.Ytfojhmobnedekaa

/- The program's wire and the reference's, side by side: what a sending, an asking and a writing over make of both. Conditions: lists are short, bytes are few. -/
namespace Go.Proofs.Ytfojhmobnedekaa
open Go.RowKit

/-- Both wires: what lies in the one, put in order, is what lies in the other. -/
structure DoI (w0 : World) (W K : Nat) (ms rs : List Wz) (ld dr : Int) (v u : Value) (w : World) : Prop where
  q : WQ (W + 1) W ms ld dr v w
  r : RW (W + 1) (W + 1) rs ld dr u w
  eqz : ms.map Wz.z = ordZ (rs.map Wz.z)
  sm : SmZ (rs.map Wz.z)
  all : Made (W + 1) ((ms ++ rs).map Wz.r) w
  ldb : 0 ≤ ld ∧ ld ≤ 2 * K
  drb : 0 ≤ dr ∧ dr ≤ K
  len : rs.length ≤ 2 * K
  low : Below w0.heap.size w0 w
  sa : w0.heap.size ≤ W
theorem DoI.below {w0 : World} {W K : Nat} {ms rs : List Wz} {ld dr : Int} {v u : Value} {w w' : World} (h : DoI w0 W K ms rs ld dr v u w) (hB : Below w.heap.size w w') : DoI w0 W K ms rs ld dr v u w' :=
  ⟨h.q.below hB, h.r.below hB, h.eqz, h.sm, h.all.below hB, h.ldb, h.drb, h.len, h.low.trans (hB.mono h.low.size), h.sa⟩
theorem DoI.lenq {w0 : World} {W K : Nat} {ms rs : List Wz} {ld dr : Int} {v u : Value} {w : World} (h : DoI w0 W K ms rs ld dr v u w) : ms.length = rs.length := by
  have := congrArg List.length h.eqz
  rwa [List.length_map, ordZ_len, List.length_map] at this
theorem DoI.wlt {w0 : World} {W K : Nat} {ms rs : List Wz} {ld dr : Int} {v u : Value} {w : World} (h : DoI w0 W K ms rs ld dr v u w) : W + 1 < w.heap.size := lt_of_block h.r.wire
theorem DoI.vlow {w0 : World} {W K : Nat} {ms rs : List Wz} {ld dr : Int} {v u : Value} {w : World} (h : DoI w0 W K ms rs ld dr v u w) {g : Nat} (e : v.ownBlock = some g) : w0.heap.size ≤ g := by
  have := (own_lt3 h.q.row e).1; have := h.sa; omega
theorem DoI.ulow {w0 : World} {W K : Nat} {ms rs : List Wz} {ld dr : Int} {v u : Value} {w : World} (h : DoI w0 W K ms rs ld dr v u w) {g : Nat} (e : u.ownBlock = some g) : w0.heap.size ≤ g := by
  have := (own_lt3 h.r.row e).1; have := h.sa; omega
/-- The reference's wire, while the program's one does a step. -/
theorem RW.keepQ {B W R : Nat} {ms rs : List Wz} {ld dr ld2 dr2 : Int} {v u : Value} {w w' : World} (h : RW B R rs ld2 dr2 u w) (hq : WQ B W ms ld dr v w) (hk : Keep W v w w') : RW B R rs ld2 dr2 u w' :=
  ⟨keep_block hk hq.wire hq.row h.wire (by decide) (by decide), keep_own hk hq.wire hq.row h.row (by decide) (by decide), keep_made hk hq.wire hq.row h.made (by decide) (by decide)⟩
/-- The program's wire, while the reference's one does a step. -/
theorem WQ.keepR {B W R : Nat} {ms rs : List Wz} {ld dr ld2 dr2 : Int} {v u : Value} {w w' : World} (h : WQ B W ms ld dr v w) (hr : RW B R rs ld2 dr2 u w) (hk : Keep R u w w') : WQ B W ms ld dr v w' :=
  ⟨keep_block hk hr.wire hr.row h.wire (by decide) (by decide), keep_own hk hr.wire hr.row h.row (by decide) (by decide), h.srt, keep_made hk hr.wire hr.row h.made (by decide) (by decide)⟩
/-- What the program's Send makes, by the deed. -/
def SentM (B W : Nat) (ms : List Wz) (ld dr : Int) (v : Value) (x : Dd) (w w' : World) (v' : Value) (ms' ns : List Wz) : Prop :=
  ms'.Perm (ns ++ ms) ∧ ms'.map Wz.z = x.put (ms.map Wz.z) ∧ ns.map Wz.z = x.new ∧ Made w.heap.size (ns.map Wz.r) w' ∧ WQ B W ms' (x.ld ld) (x.dr dr) v' w' ∧ Keep W v w w' ∧ Nxt w v v'
theorem wz_z (t : Int) (ls : List Ld) : (ls.map (Ld.wz t)).map Wz.z = (ls.map Ld.tell).map fun y => ⟨y.1, y.2.1, t, y.2.2⟩ := by
  rw [List.map_map, List.map_map]; rfl
theorem wz_r (t : Int) (ls : List Ld) : (ls.map (Ld.wz t)).map Wz.r = ls.map Ld.r := by
  rw [List.map_map]; rfl
theorem sendM {w : World} {W B : Nat} {ld dr : Int} {v : Value} {ms : List Wz} (x : Dd) {a : Option Addr} {c : Nat} (hq : WQ B W ms ld dr v w) (hr : RB w a x.n c x.l) (hm : ms.length ≤ 10000) (hB : B ≤ w.heap.size) (hld : 0 ≤ ld ∧ ld ≤ 1000000) (hdr : 0 ≤ dr ∧ dr ≤ 1000000) :
    Calls Try.prog 35 #[.pointer (some ⟨W, 0, none⟩), .int .i64 x.tt, .agg #[.int .i64 x.k, .int .i64 x.b, .int .i64 x.al, .int .i64 x.pl], .slice a x.n c, .int .i64 x.nw] w fun e w' => e = .returned (.int .i64 x.code) ∧ ∃ v' ms' ns, SentM B W ms ld dr v x w w' v' ms' ns := by
  by_cases hg : x.goes
  · refine (send_any hq hr hm hB hld hdr hg).mono ?_
    rintro e w' ⟨rfl, v', ls, k1, k2, k3, k4, k5, k6⟩
    have hl : ls.length = x.L.length := by unfold Dd.L; rw [← k1, List.length_map]
    refine ⟨by unfold Dd.code; rw [if_pos hg], v', insAll x.tt ls ms, ls.map (Ld.wz x.tt), insAll_perm x.tt ls ms, ?_, ?_, by rw [wz_r]; exact k3, ?_, k5, k6⟩
    · rw [insAll_z, k1]; unfold Dd.put; rw [if_pos hg]; rfl
    · rw [wz_z, k1, Dd.new_goes hg]; rfl
    · have e1 : x.ld ld = ld + (ls.length : Nat) := by unfold Dd.ld; rw [if_pos hg, hl]
      have e2 : x.dr dr = if ls.length = 0 then dr + 1 else dr := by
        unfold Dd.dr
        by_cases hz : x.L.length = 0
        · rw [if_pos ⟨hg, hz⟩, if_pos (by omega)]
        · rw [if_neg (fun e => hz e.2), if_neg (by omega)]
      rw [e1, e2]; exact k4
  · refine (send_not a x.n c hq.wire hg).mono ?_
    rintro e w' ⟨rfl, hB2⟩
    refine ⟨by unfold Dd.code; rw [if_neg hg], v, ms, [], List.Perm.refl _, by unfold Dd.put; rw [if_neg hg], (Dd.new_not hg).symm, Made.nil _ _, ?_, Keep.of_below hB2, Nxt.refl _ _⟩
    unfold Dd.ld Dd.dr
    rw [if_neg hg, if_neg (fun e => hg e.1)]
    exact hq.below hB2
/-- What the reference's Send makes, by the deed. -/
def RSentM (B W : Nat) (rs : List Wz) (ld dr : Int) (v : Value) (x : Dd) (w w' : World) (v' : Value) (ns : List Wz) : Prop :=
  ns.map Wz.z = x.new ∧ Made w.heap.size (ns.map Wz.r) w' ∧ RW B W (rs ++ ns) (x.ld ld) (x.dr dr) v' w' ∧ Keep W v w w' ∧ Nxt w v v'
theorem rsendM {w : World} {W B : Nat} {ld dr : Int} {v : Value} {rs : List Wz} (x : Dd) {a : Option Addr} {c : Nat} (hq : RW B W rs ld dr v w) (hr : RB w a x.n c x.l) (hm : rs.length ≤ 10000) (hB : B ≤ w.heap.size) (hld : 0 ≤ ld ∧ ld ≤ 1000000) (hdr : 0 ≤ dr ∧ dr ≤ 1000000) :
    Calls Try.prog 45 #[.pointer (some ⟨W, 0, none⟩), .int .i64 x.tt, .agg #[.int .i64 x.k, .int .i64 x.b, .int .i64 x.al, .int .i64 x.pl], .slice a x.n c, .int .i64 x.nw] w fun e w' => e = .returned (.int .i64 x.code) ∧ ∃ v' ns, RSentM B W rs ld dr v x w w' v' ns := by
  by_cases hg : x.goes
  · refine (rsend_any hq hr hm hB hld hdr hg).mono ?_
    rintro e w' ⟨rfl, v', ls, k1, k2, k3, k4, k5, k6⟩
    have hl : ls.length = x.L.length := by unfold Dd.L; rw [← k1, List.length_map]
    refine ⟨by unfold Dd.code; rw [if_pos hg], v', ls.map (Ld.wz x.tt), ?_, by rw [wz_r]; exact k3, ?_, k5, k6⟩
    · rw [wz_z, k1, Dd.new_goes hg]; rfl
    · have e1 : x.ld ld = ld + (ls.length : Nat) := by unfold Dd.ld; rw [if_pos hg, hl]
      have e2 : x.dr dr = if ls.length = 0 then dr + 1 else dr := by
        unfold Dd.dr
        by_cases hz : x.L.length = 0
        · rw [if_pos ⟨hg, hz⟩, if_pos (by omega)]
        · rw [if_neg (fun e => hz e.2), if_neg (by omega)]
      rw [e1, e2]; exact k4
  · refine (rsend_not W a x.n c hg).mono ?_
    rintro e w' ⟨rfl, hB2⟩
    refine ⟨by unfold Dd.code; rw [if_neg hg], v, [], (Dd.new_not hg).symm, Made.nil _ _, ?_, Keep.of_below hB2, Nxt.refl _ _⟩
    unfold Dd.ld Dd.dr
    rw [if_neg hg, if_neg (fun e => hg e.1), List.append_nil]
    exact hq.below hB2
theorem Dd.new_len (x : Dd) : x.new.length ≤ 2 := by
  have := x.L_len
  unfold Dd.new; split
  · rw [List.length_map]; exact this
  · simp
theorem Dd.new_sm {x : Dd} (hs : Small x.l) (hl : x.l.length ≤ 1000) : SmZ x.new := by
  intro z hz
  unfold Dd.new at hz
  split at hz
  · obtain ⟨y, hy, rfl⟩ := List.mem_map.1 hz
    exact ⟨landsOf_small hs y hy, by show y.2.2.length ≤ 1000; rw [landsOf_mem y hy]; exact hl⟩
  · simp at hz
theorem DoI.sent {w0 : World} {W K : Nat} {ms rs ms' ns ns' : List Wz} {ld dr : Int} {v u v' u' : Value} {w w6 w7 : World} {x : Dd} (h : DoI w0 W K ms rs ld dr v u w) (hs : Small x.l) (hl : x.l.length ≤ 1000)
    (h6 : SentM (W + 1) W ms ld dr v x w w6 v' ms' ns) (h7 : RSentM (W + 1) (W + 1) rs ld dr u x w6 w7 u' ns') : DoI w0 W (K + 1) ms' (rs ++ ns') (x.ld ld) (x.dr dr) v' u' w7 ∧ ∀ g, g < w.heap.size → (∀ y ∈ ms ++ rs, y.r.v.ownBlock ≠ some g) → ∀ y ∈ ms' ++ (rs ++ ns'), y.r.v.ownBlock ≠ some g := by
  obtain ⟨a1, a2, a3, a4, a5, a6, a7⟩ := h6
  obtain ⟨b1, b2, b3, b4, b5⟩ := h7
  have r6 : RW (W + 1) (W + 1) rs ld dr u w6 := h.r.keepQ h.q a6
  have q7 : WQ (W + 1) W ms' (x.ld ld) (x.dr dr) v' w7 := a5.keepR r6 b4
  have ez : ms'.map Wz.z = ordZ ((rs ++ ns').map Wz.z) := by rw [a2, h.eqz, x.put_ord, List.map_append, b1]
  have hl1 := x.ld_le ld
  have hd1 := x.dr_le dr
  have := h.ldb; have := h.drb; have := h.len; have := h.wlt
  have hn' : ns'.length = x.new.length := by rw [← b1, List.length_map]
  have hnl := x.new_len
  have hs6 := a6.size
  have hs7 := b4.size
  have hold7 : Made (W + 1) ((ms ++ rs).map Wz.r) w7 := keep_made b4 r6.wire r6.row (keep_made a6 h.q.wire h.q.row h.all (by decide) (by decide)) (by decide) (by decide)
  have hn7 : Made w.heap.size (ns.map Wz.r) w7 := keep_made b4 r6.wire r6.row a4 (by decide) (by decide)
  have hlt : ∀ y ∈ ms ++ rs, ∀ g, y.r.v.ownBlock = some g → g < w.heap.size := fun y hy g e => (own_lt (h.all.own _ (List.mem_map_of_mem hy)) e).2
  have hge : ∀ y ∈ ns, ∀ g, y.r.v.ownBlock = some g → w.heap.size ≤ g ∧ g < w6.heap.size := fun y hy g e => ⟨(own_lt (a4.own _ (List.mem_map_of_mem hy)) e).1, (own_lt (a4.own _ (List.mem_map_of_mem hy)) e).2⟩
  have hge' : ∀ y ∈ ns', ∀ g, y.r.v.ownBlock = some g → w6.heap.size ≤ g := fun y hy g e => (own_lt (b2.own _ (List.mem_map_of_mem hy)) e).1
  have hperm : (ms' ++ (rs ++ ns')).Perm (ns ++ (ms ++ rs) ++ ns') := by
    rw [List.append_assoc, List.append_assoc, ← List.append_assoc ns]
    exact a1.append_right _
  refine ⟨⟨q7, b3, ez, ?_, ?_, by omega, by omega, by rw [List.length_append]; omega, ?_, h.sa⟩, ?_⟩
  · rw [List.map_append, b1]
    intro z hz
    rcases List.mem_append.1 hz with hz | hz
    · exact h.sm z hz
    · exact Dd.new_sm hs hl z hz
  · refine Made.perm (rs := (ns ++ (ms ++ rs) ++ ns').map Wz.r) ⟨fun r hr => ?_, ?_⟩ (hperm.map Wz.r)
    · rw [List.map_append, List.map_append] at hr
      rcases List.mem_append.1 hr with hr | hr
      · rcases List.mem_append.1 hr with hr | hr
        · exact own_mono (hn7.own r hr) (by omega)
        · exact hold7.own r hr
      · exact own_mono (b2.own r hr) (by omega)
    · rw [List.map_append, List.map_append]
      refine List.pairwise_append.2 ⟨List.pairwise_append.2 ⟨a4.unl, h.all.unl, ?_⟩, b2.unl, ?_⟩
      · intro r hr s hs g e1 e2
        obtain ⟨y, hy, rfl⟩ := List.mem_map.1 hr
        obtain ⟨z, hz, rfl⟩ := List.mem_map.1 hs
        have := hge y hy g e1; have := hlt z hz g e2; omega
      · intro r hr s hs g e1 e2
        obtain ⟨z, hz, rfl⟩ := List.mem_map.1 hs
        have := hge' z hz g e2
        rcases List.mem_append.1 hr with hr | hr
        · obtain ⟨y, hy, rfl⟩ := List.mem_map.1 hr
          have := hge y hy g e1; omega
        · obtain ⟨y, hy, rfl⟩ := List.mem_map.1 hr
          have := hlt y hy g e1; omega
  · have hW := h.sa
    exact (h.low.trans (a6.low h.sa (fun g e => h.vlow e) h.low.size)).trans (b4.low (by omega) (fun g e => h.ulow e) (by have := h.low.size; omega))
  · intro g hg hf y hy e
    have hy := hperm.mem_iff.1 hy
    rcases List.mem_append.1 hy with hy | hy
    · rcases List.mem_append.1 hy with hy | hy
      · have := (hge y hy g e).1; omega
      · exact hf y hy e
    · have := hge' y hy g e; omega
/-- Bytes that lie apart are written over. -/
theorem DoI.over {w0 : World} {W K B n : Nat} {ms rs : List Wz} {ld dr : Int} {v u b : Value} {w w' : World} {xs : List Value} (h : DoI w0 W K ms rs ld dr v u w) (ho : w.ownsRow B 5 1 b n xs) (hg : w.grownBy w' b.ownBlock) (hB : w0.heap.size ≤ B) (hu : ∀ y ∈ ms ++ rs, Unl y.r.v b) : DoI w0 W K ms rs ld dr v u w' := by
  have hall : Made (W + 1) ((ms ++ rs).map Wz.r) w' := ⟨fun r hr => by
    obtain ⟨y, hy, rfl⟩ := List.mem_map.1 hr
    exact own_unl (h.all.own _ (List.mem_map_of_mem hy)) hg (hu y hy), h.all.unl⟩
  have hsub1 : Made (W + 1) (ms.map Wz.r) w' := Made.left hall (List.Perm.refl _)
  have hsub2 : Made (W + 1) (rs.map Wz.r) w' := Made.right hall (List.Perm.refl _)
  refine ⟨⟨(hg.block W (lt_of_block h.q.wire) (fun e => own_ne_type ho h.q.wire (by decide) e.symm)).trans h.q.wire, own_grown ho hg h.q.row (by decide), h.q.srt, hsub1⟩, ⟨(hg.block (W + 1) (lt_of_block h.r.wire) (fun e => own_ne_type ho h.r.wire (by decide) e.symm)).trans h.r.wire, own_grown ho hg h.r.row (by decide), hsub2⟩, h.eqz, h.sm, hall, h.ldb, h.drb, h.len, h.low.grown hg h.low.size (fun g e => by have := (own_lt ho e).1; omega), h.sa⟩
/-- What the program's Due makes. -/
def DueM (B W : Nat) (now : Int) (ms : List Wz) (ld dr : Int) (v : Value) (w w' : World) (vm v' : Value) : Prop :=
  w'.ownsRow w.heap.size 70 2 vm (ms.take (dueZ now (ms.map Wz.z)).length).length (mcs ((ms.take (dueZ now (ms.map Wz.z)).length).map Wz.w)) ∧ WQ B W (ms.drop (dueZ now (ms.map Wz.z)).length) ld dr v' w' ∧ Keep W v w w' ∧ Made B (ms.map Wz.r) w' ∧ v'.ownBlock = v.ownBlock
theorem dueM {w : World} {B W : Nat} {v : Value} {ms : List Wz} {ld dr : Int} (now : Int) (hq : WQ B W ms ld dr v w) (hm : ms.length ≤ 10000) :
    Calls Try.prog 38 #[.pointer (some ⟨W, 0, none⟩), .int .i64 now] w fun e w' => ∃ vm v', e = .returned vm ∧ DueM B W now ms ld dr v w w' vm v' := by
  obtain ⟨a, c, rfl⟩ := own4_slice hq.row
  refine (due_any now hq hm).mono ?_
  rintro e w' ⟨vm, rfl, k1, k2, k3, k4⟩
  have hle : (dueZ now (ms.map Wz.z)).length ≤ ms.length := by
    have := List.IsPrefix.length_le (List.takeWhile_prefix (l := ms.map Wz.z) (fun x => decide (x.d ≤ now)))
    simpa [dueZ] using this
  have ht := takeDue_z now ms
  have hlen : (takeDue now (ms.map Wz.w)).length = (dueZ now (ms.map Wz.z)).length := by
    rw [ht, List.length_map, List.length_take, Nat.min_eq_left hle]
  rw [hlen] at k1 k2
  refine ⟨vm, _, rfl, ?_, k2, k3, k4, by cases a <;> rfl⟩
  rw [List.length_take, Nat.min_eq_left hle, ← ht]; exact k1
/-- Behind both askings: the mails are owned, and lie apart from what is under way. -/
structure OvI (w0 : World) (W K : Nat) (ms rs xs : List Wz) (ld dr : Int) (v u vm : Value) (w : World) : Prop where
  d : DoI w0 W K ms rs ld dr v u w
  mail : w.ownsRow w0.heap.size 70 2 vm xs.length (mcs (xs.map Wz.w))
  un : ∀ x ∈ xs, ∀ y ∈ ms ++ rs, Unl y.r.v x.r.v
  sm : SmZ (xs.map Wz.z)
theorem OvI.below {w0 : World} {W K : Nat} {ms rs xs : List Wz} {ld dr : Int} {v u vm : Value} {w w' : World} (h : OvI w0 W K ms rs xs ld dr v u vm w) (hB : Below w.heap.size w w') : OvI w0 W K ms rs xs ld dr v u vm w' :=
  ⟨h.d.below hB, own_frame3 h.mail fun g _ hg => hB.block g hg, h.un, h.sm⟩
theorem DoI.dued {w0 : World} {W K : Nat} {ms rs : List Wz} {ld dr now : Int} {v u vm v' vm2 : Value} {w w6 w7 : World} (h : DoI w0 W K ms rs ld dr v u w) (h6 : DueM (W + 1) W now ms ld dr v w w6 vm v') (h7 : RDueTo (W + 1) (W + 1) rs ld dr now u w6 vm2 w7) :
    ∃ ms' rs' u' xs, OvI w0 W (K + 1) ms' rs' xs ld dr v' u' vm w7 ∧ Made (W + 1) (xs.map Wz.r) w7 ∧ MailR w7 vm (xs.map Wz.z) ∧ MailR w7 vm2 (xs.map Wz.z) ∧ xs.length ≤ ms.length := by
  obtain ⟨a1, a2, a3, a4, a5⟩ := h6
  obtain ⟨ys, rs', u', b1, b2, b3⟩ := h7
  have r6 : RW (W + 1) (W + 1) rs ld dr u w6 := h.r.keepQ h.q a3
  have q7 := a2.keepR r6 b3.keep
  have hW := h.sa
  have hall7 : Made (W + 1) ((ms ++ rs).map Wz.r) w7 := keep_made b3.keep r6.wire r6.row (keep_made a3 h.q.wire h.q.row h.all (by decide) (by decide)) (by decide) (by decide)
  have hlow6 : Below w0.heap.size w0 w6 := h.low.trans (a3.low h.sa (fun g e => h.vlow e) h.low.size)
  have hlow7 : Below w0.heap.size w0 w7 := hlow6.trans (b3.keep.low (by omega) (fun g e => h.ulow e) hlow6.size)
  have hdz : dueZ now (ordZ (rs.map Wz.z)) = dueZ now (ms.map Wz.z) := by rw [h.eqz]
  obtain ⟨k, hk⟩ : ∃ k, k = (dueZ now (ms.map Wz.z)).length := ⟨_, rfl⟩
  rw [← hk] at a1 a2 q7
  rw [hdz] at b1 b2
  have hxz : (ms.take k).map Wz.z = dueZ now (ms.map Wz.z) := by rw [List.map_take, hk]; exact (dueZ_take _ _).symm
  have hmail7 : w7.ownsRow w0.heap.size 70 2 vm (ms.take k).length (mcs ((ms.take k).map Wz.w)) := own_mono3 (keep_own b3.keep r6.wire r6.row a1 (by decide) (by decide)) (by have := h.low.size; omega)
  have hsmq : SmZ (ms.map Wz.z) := fun z hz => by
    rw [h.eqz] at hz
    exact h.sm z (mem_ordZ.1 hz)
  have hsmx : SmZ ((ms.take k).map Wz.z) := fun z hz => hsmq z (by
    rw [List.map_take] at hz
    exact List.mem_of_mem_take hz)
  have hmsp : (ms.take k ++ ms.drop k).Perm ms := by rw [List.take_append_drop]
  have hrl : rs'.length ≤ rs.length := by have := b3.len; omega
  have hmsM : Made (W + 1) (ms.map Wz.r) w7 := Made.left hall7 (List.Perm.refl _)
  have hxM : Made (W + 1) ((ms.take k).map Wz.r) w7 := Made.left hmsM hmsp
  have hbig : Made (W + 1) ((ms.take k ++ (ms.drop k ++ (rs' ++ ys))).map Wz.r) w7 := by
    refine hall7.perm (List.Perm.map _ ?_)
    rw [← List.append_assoc, List.take_append_drop]
    exact List.Perm.append_left _ (List.perm_append_comm.trans b3.perm)
  have hrest : Made (W + 1) ((ms.drop k ++ rs').map Wz.r) w7 := by
    have h1 : Made (W + 1) ((ms.drop k ++ (rs' ++ ys)).map Wz.r) w7 := Made.right hbig (List.Perm.refl _)
    exact Made.left (ys := ys) h1 (by rw [List.append_assoc])
  have hunl := hbig.unl
  rw [List.map_append] at hunl
  have hcross := (List.pairwise_append.1 hunl).2.2
  have := h.ldb; have := h.drb; have := h.len
  have hez : (ms.drop k).map Wz.z = ordZ (rs'.map Wz.z) := by rw [b2, List.map_drop, h.eqz, hk, h.eqz]
  refine ⟨ms.drop k, rs', u', ms.take k, ⟨⟨q7, b3.rw, hez, ?_, hrest, by omega, by omega, by omega, hlow7, h.sa⟩, hmail7, ?_, hsmx⟩, hxM, ?_, ?_, by rw [List.length_take]; omega⟩
  · intro z hz
    obtain ⟨y, hy, rfl⟩ := List.mem_map.1 hz
    exact h.sm _ (List.mem_map_of_mem (b3.perm.mem_iff.1 (List.mem_append_right _ hy)))
  · intro x hx y hy
    refine Unl.symm (hcross _ (List.mem_map_of_mem hx) _ (List.mem_map_of_mem ?_))
    rcases List.mem_append.1 hy with hy | hy
    · exact List.mem_append_left _ hy
    · exact List.mem_append_right _ (List.mem_append_left _ hy)
  · exact mailR_of hmail7 (fun x hx => hxM.own _ (List.mem_map_of_mem hx)) hsmx
  · have hym : Made (W + 1) (ys.map Wz.r) w7 := Made.left b3.made b3.perm
    rw [hxz, ← b1]
    exact mailR_of b3.mail (fun x hx => hym.own _ (List.mem_map_of_mem hx)) (by rw [b1, ← hxz]; exact hsmx)
/-- One mail's bytes are written over. -/
theorem OvI.over {w0 : World} {W K j : Nat} {ms rs xs : List Wz} {ld dr : Int} {v u vm : Value} {w w' : World} (h : OvI w0 W K ms rs xs ld dr v u vm w) (hm : Made (W + 1) ((xs.drop j).map Wz.r) w) {x : Wz} (hx : xs[j]? = some x) (hg : w.grownBy w' x.r.v.ownBlock) :
    OvI w0 W K ms rs xs ld dr v u vm w' ∧ Made (W + 1) ((xs.drop (j + 1)).map Wz.r) w' := by
  obtain ⟨hj, rfl⟩ := List.getElem?_eq_some_iff.1 hx
  have e : xs.drop j = xs[j] :: xs.drop (j + 1) := List.drop_eq_getElem_cons hj
  rw [e, List.map_cons] at hm
  have ho := hm.own _ (List.mem_cons_self ..)
  have hW := h.d.sa
  have hp := List.pairwise_cons.1 hm.unl
  refine ⟨⟨h.d.over ho hg (by omega) (h.un _ (List.getElem_mem hj)), own_grown ho hg h.mail (by decide), h.un, h.sm⟩, ⟨fun r hr => own_unl (hm.own r (List.mem_cons_of_mem _ hr)) hg (Unl.symm (hp.1 r hr)), hp.2⟩⟩
end Go.Proofs.Ytfojhmobnedekaa
