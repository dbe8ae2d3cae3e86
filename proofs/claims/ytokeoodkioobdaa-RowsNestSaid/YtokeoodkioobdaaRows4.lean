/- The walk of rows' steps. Conditions: there are at most 100000 rows, each of at most 100000 places. -/
import Derived.Test.YtokeoodkioobdaaRows3
namespace Go.Proofs.Ytokeoodkioobdaa
open Go.RowKit

/-- What holds while rows are turned to steps. -/
structure StepSt (w : World) (B g N pf : Nat) (p : Nat → Nat) (Y : Nat → List Nat) (wr : World) (p' c' : Nat → Nat) : Prop where
  grid : GridTo wr B (.slice (some ⟨g, 0, none⟩) N N) N N p' c' Y
  img : ∀ i, i < N → ∃ j, j < N ∧ p' i = p j
  kpt : Kpt (Off w g N p) w wr
  box : wr.heap[w.heap.size]? = some (.cells #[.pointer (some ⟨pf, 0, none⟩)] 113 (0, 0))
  field : IsF wr pf
  low : ∀ j, j < N → p j < w.heap.size
  gl : g < w.heap.size
section
variable {w wr w2 : World} {B g N pf : Nat} {p p' c' : Nat → Nat} {Y : Nat → List Nat}
theorem StepSt.below (h : StepSt w B g N pf p Y wr p' c') (hB : Below wr.heap.size wr w2) : StepSt w B g N pf p Y w2 p' c' :=
  ⟨h.grid.below hB, h.img, h.kpt.then (hB.mono (Nat.zero_le _)) fun k hk => hB.block k (Nat.lt_of_lt_of_le hk.lt h.kpt.size), (hB.block _ (lt_of_block h.box)).trans h.box, h.field.below hB h.field.lt, h.low, h.gl⟩
theorem StepSt.drewN (h : StepSt w B g N pf p Y wr p' c') (q : Nat) : StepSt w B g N pf p Y (wr.drewN q) p' c' := h.below (below_drewN (Below.refl _ _) q)
theorem StepSt.alloc (h : StepSt w B g N pf p Y wr p' c') (o : Obj) : StepSt w B g N pf p Y (wr.alloc o) p' c' := h.below ((Below.refl _ _).alloc (Nat.le_refl _) o)
theorem StepSt.low' (h : StepSt w B g N pf p Y wr p' c') {i : Nat} (hi : i < N) : p' i < w.heap.size := by
  obtain ⟨j, hj, e⟩ := h.img i hi
  rw [e]; exact h.low j hj
theorem StepSt.turn {i : Nat} {l : List Nat} (h : StepSt w B g N pf p Y wr p' c') (hi : i < N) (hO : Only (p' i) wr w2) (hl : l.length = (Y i).length) (hr : w2.ownsRow B 5 1 (.slice (some ⟨p' i, 0, none⟩) (Y i).length (c' i)) (Y i).length (bs l)) :
    StepSt w B g N pf p (fun j => if j = i then l else Y j) w2 p' c' := by
  refine ⟨h.grid.turn hi hO hl hr, h.img, h.kpt.only hO (fun hn => ?_) fun k hk => hk.lt, ?_, h.field.only hO (field_apart h.field (h.grid.row i hi)), h.low, h.gl⟩
  · obtain ⟨j, hj, e⟩ := h.img i hi
    exact hn.2.2 j hj e.symm
  · have := h.low' hi
    exact (hO.block _ (lt_of_block h.box) (by omega)).trans h.box
theorem StepSt.swap {a b : Nat} (h : StepSt w B g N pf p Y wr p' c') (ha : a < N) (hb : b < N)
    (hw : w2.heap = ((wr.setCell ⟨g, a, none⟩ (.slice (some ⟨p' b, 0, none⟩) (Y b).length (c' b))).setCell ⟨g, b, none⟩ (.slice (some ⟨p' a, 0, none⟩) (Y a).length (c' a))).heap) (hB : Below 0 wr w2) :
    StepSt w B g N pf p (Gf.swp Y a b) w2 (fun j => if j = b then p' a else if j = a then p' b else p' j) (fun j => if j = b then c' a else if j = a then c' b else c' j) := by
  have hbl : ∀ k, k ≠ g → w2.heap[k]? = wr.heap[k]? := fun k hk => by
    rw [hw, heap_setCell_other _ ⟨g, _, none⟩ k _ hk, heap_setCell_other _ ⟨g, _, none⟩ k _ hk]
  have hfg : pf ≠ g := fun e => by
    obtain ⟨vs, h1, _⟩ := h.grid.own
    obtain ⟨_, _, cur, hcur, _⟩ := own_blk h1
    have hf := h.field
    subst e
    have := hcur.symm.trans hf
    injection this with this
    injection this with _ h3 _
    exact absurd h3 (by decide)
  have hgl := h.gl
  refine ⟨h.grid.swap rfl ha hb hw, fun i hi => ?_, h.kpt.then hB fun k hk => hbl k hk.2.1, (hbl _ (by omega)).trans h.box, (hbl _ hfg).trans h.field, h.low, h.gl⟩
  by_cases e : i = b
  · rw [if_pos e]; exact h.img a ha
  · rw [if_neg e]
    by_cases e2 : i = a
    · rw [if_pos e2]; exact h.img b hb
    · rw [if_neg e2]; exact h.img i hi
theorem StepSt.congr {Z : Nat → List Nat} (h : StepSt w B g N pf p Y wr p' c') (e : ∀ i, i < N → Z i = Y i) : StepSt w B g N pf p Z wr p' c' := ⟨h.grid.congr e, h.img, h.kpt, h.box, h.field, h.low, h.gl⟩
end

/-- And the column's number in a box of its own. -/
structure StepC (w : World) (B g N pf : Nat) (p : Nat → Nat) (Y : Nat → List Nat) (wr : World) (p' c' : Nat → Nat) (bc k : Nat) : Prop where
  st : StepSt w B g N pf p Y wr p' c'
  cb : wr.heap[bc]? = some (.cells #[.int .i64 (k : Nat)] 3 (0, 0))
  bcl : w.heap.size ≤ bc
section
variable {w wr w2 : World} {B g N pf bc k : Nat} {p p' c' : Nat → Nat} {Y : Nat → List Nat}
theorem StepC.drewN (h : StepC w B g N pf p Y wr p' c' bc k) (q : Nat) : StepC w B g N pf p Y (wr.drewN q) p' c' bc k := ⟨h.st.drewN q, h.cb, h.bcl⟩
theorem StepC.turn {i : Nat} {l : List Nat} (h : StepC w B g N pf p Y wr p' c' bc k) (hi : i < N) (hO : Only (p' i) wr w2) (hl : l.length = (Y i).length) (hr : w2.ownsRow B 5 1 (.slice (some ⟨p' i, 0, none⟩) (Y i).length (c' i)) (Y i).length (bs l)) :
    StepC w B g N pf p (fun j => if j = i then l else Y j) w2 p' c' bc k :=
  ⟨h.st.turn hi hO hl hr, (hO.block _ (lt_of_block h.cb) (by have := h.st.low' hi; have := h.bcl; omega)).trans h.cb, h.bcl⟩
theorem StepC.congr {Z : Nat → List Nat} (h : StepC w B g N pf p Y wr p' c' bc k) (e : ∀ i, i < N → Z i = Y i) : StepC w B g N pf p Z wr p' c' bc k := ⟨h.st.congr e, h.cb, h.bcl⟩
theorem StepC.col (h : StepC w B g N pf p Y wr p' c' bc k) : wr.cell? ⟨bc, 0, none⟩ = some (.int .i64 (k : Nat)) := (cell_of_block h.cb).trans rfl
theorem StepC.fld (h : StepC w B g N pf p Y wr p' c' bc k) : wr.cell? ⟨w.heap.size, 0, none⟩ = some (.pointer (some ⟨pf, 0, none⟩)) := (cell_of_block h.st.box).trans rfl
theorem StepC.swap {a b W : Nat} (h : StepC w B g N pf p Y wr p' c' bc k) (hL : Gf.Long Y W) (ha : a < N) (hb : b < N)
    (hw : w2.heap = ((wr.setCell ⟨g, a, none⟩ (.slice (some ⟨p' b, 0, none⟩) W (c' b))).setCell ⟨g, b, none⟩ (.slice (some ⟨p' a, 0, none⟩) W (c' a))).heap) (hB : Below 0 wr w2) :
    ∃ p2 c2, StepC w B g N pf p (Gf.swp Y a b) w2 p2 c2 bc k := by
  have hg := h.st.gl
  have hl := h.bcl
  refine ⟨_, _, h.st.swap ha hb (by rw [hL a, hL b]; exact hw) hB, ?_, h.bcl⟩
  have hne : bc ≠ g := by omega
  rw [hw, heap_setCell_other _ ⟨g, _, none⟩ bc _ hne, heap_setCell_other _ ⟨g, _, none⟩ bc _ hne]
  exact h.cb
end
/-- The rows of an elimination, the first r of them turned. -/
def elTo (M : Nat → List Nat) (n k r : Nat) : Nat → List Nat := fun j => if j = n then Gf.sc (Gf.inv (Gf.at0 (M n) k)) (M n) else if j < r then Gf.ad (Gf.at0 (M j) k) (M j) (Gf.sc (Gf.inv (Gf.at0 (M n) k)) (M n)) else M j
theorem elTo_long {M : Nat → List Nat} {W n k r : Nat} (h : Gf.Long M W) : Gf.Long (elTo M n k r) W := fun j => by
  unfold elTo; split
  · rw [Gf.sc_len]; exact h n
  · split
    · rw [Gf.ad_len (by rw [Gf.sc_len, h j, h n])]; exact h j
    · exact h j
theorem elTo_byt {M : Nat → List Nat} {W n k r : Nat} (hl : Gf.Long M W) (h : Gf.Byt M) : Gf.Byt (elTo M n k r) := fun j i => by
  unfold elTo; split
  · rw [Gf.at0_sc]; exact Gf.mul_lt (h n i)
  · split
    · rw [Gf.at0_ad (by rw [Gf.sc_len, hl j, hl n]), Gf.at0_sc]; exact Gf.xor_lt (h j i) (Gf.mul_lt (Gf.mul_lt (h n i)))
    · exact h j i

theorem cut_rows {g N r : Nat} (h : r < N) (w : World) : (Instr.sliceAt 112 (.slice (some ⟨g, 0, none⟩) N N) (some (.int .i64 r)) none none).run Try.prog w = .ok (.slice (some ⟨g, r, none⟩) (N - r) (N - r)) w := by
  have h1 : (r : Int) ≤ N := by omega
  go_simp
  intro e
  omega
theorem cut_end {g N : Nat} (w : World) : (Instr.sliceAt 112 (.slice (some ⟨g, 0, none⟩) N N) (some (.int .i64 N)) none none).run Try.prog w = .ok (.slice (some ⟨g, 0, none⟩) 0 0) w := by
  go_simp

set_option maxHeartbeats 6000000 in
set_option maxRecDepth 100000 in
theorem steps_any {w : World} {B pf g N W C : Nat} {p c : Nat → Nat} {X : Nat → List Nat} (hf : IsF w pf) (hG : GridTo w B (.slice (some ⟨g, 0, none⟩) N N) N N p c X) (hg : g < w.heap.size) (hL : Gf.Long X W) (hb : Gf.Byt X) (hC : C ≤ W) (hN : N ≤ 100000) (hW : W ≤ 100000) :
    Calls Try.prog 103 #[.agg #[.pointer (some ⟨pf, 0, none⟩)], .slice (some ⟨g, 0, none⟩) N N, .int .i64 (C : Nat)] w fun e w' => e = .returned (.int .i64 (Gf.rdN X N C : Nat)) ∧ (∃ p' c', GridTo w' B (.slice (some ⟨g, 0, none⟩) N N) N N p' c' (Gf.rdX X N C)) ∧ Kpt (Off w g N p) w w' := by
  have hlow : ∀ j, j < N → p j < w.heap.size := fun j hj => by
    obtain ⟨_, _, cur, hcur, _⟩ := own_blk (hG.row j hj)
    exact lt_of_block hcur
  have hb1 := (Below.refl w.heap.size w).alloc (Nat.le_refl _) (.cells #[.pointer (some ⟨pf, 0, none⟩)] 113)
  have HS0 := Lib.hid (StepSt.mk (w := w) (hG.below hb1) (fun i hi => ⟨i, hi, rfl⟩) (Kpt.of_below hb1 fun k hk => hk.lt) (heap_alloc_new _ _) (hf.below hb1 hf.lt) hlow hg)
  have HL := Lib.hid hL
  have HBy := Lib.hid hb
  clear hf hG hL hb hlow hb1
  go_enter Try.func103, Try.ntmps103
  go_wp2_with fail
  go_loopw [6, 13] (fun nn i wr => ∃ k : Nat, k ≤ C ∧ i = .int .i64 k ∧ nn = .int .i64 (Gf.rdN X N k : Nat) ∧ ∃ p' c', Hid (StepSt w B g N pf p (Gf.rdX X N k) wr p' c')) (fun _ i _ => C - (intOf i).toNat)
  case atStart => exact ⟨0, Nat.zero_le _, rfl, rfl, _, _, HS0⟩
  case round =>
    obtain ⟨k, hk, rfl, rfl, p', c', HS⟩ := hrel
    obtain ⟨wo, rfl⟩ : ∃ wo, wo = wr := ⟨_, rfl⟩
    by_cases hk1 : k < C
    · have hn := (Gf.rdN_le X N k).1
      have HE0 := Lib.hid (fun h : ¬ Gf.fnd (Gf.rdX X N k) N k (Gf.rdN X N k) < N => Gf.rd_none h)
      have HE1 := Lib.hid (fun h : Gf.fnd (Gf.rdX X N k) N k (Gf.rdN X N k) < N => Gf.rd_some h)
      have HLM := Lib.hid (HL.out.rdX N k)
      have HBM := Lib.hid (HBy.out.rdX HL.out N k)
      generalize Gf.rdX X N k = M at *
      generalize Gf.rdN X N k = n at *
      have HS1 := Lib.hid (StepC.mk (bc := wo.heap.size) (k := k) (HS.out.alloc (.cells #[.int .i64 (k : Nat)] 3)) (heap_alloc_new _ _) HS.out.kpt.size)
      have hbc := HS1.out.col
      clear HS
      by_cases hnN : n < N
      · have hix := indexf_any (cp := N - n) (R := N) (M := M) (cc := k) (W := W) (show n + (N - n) = N by omega) hN (by omega) (fun i hi => by
          obtain ⟨h1, h2, h3, _⟩ := HS1.out.st.grid.line HLM.out (i := n + i) (by omega)
          exact ⟨h1, own_rb2 h3 (byt_small HBM.out _) (by omega)⟩) hbc
        have HIX := Lib.hid hix
        clear hix
        have hcr := fun w => cut_rows (g := g) hnN w
        by_cases hfd : Gf.fnd M N k n < N
        · have hna := (Gf.fnd_le (M := M) (c := k) (show n ≤ N by omega)).1
          have hne := Gf.fnd_ne (by omega) hfd
          rw [if_pos hfd] at HIX
          have HE := Lib.hid (HE1.out hfd)
          clear HE0 HE1
          generalize Gf.fnd M N k n = a at *
          have hne2 : Gf.at0 (Gf.swp M n a n) k ≠ 0 := by
            unfold Gf.swp
            by_cases e : n = a
            · rw [if_pos e]; rw [← e] at hne; exact hne
            · rw [if_neg e, if_pos rfl]; exact hne
          have HNE := Lib.hid hne2
          clear hne hne2
          go_wp2_with fail
          refine HIX.out.mono ?_
          rintro e w1 ⟨rfl, rfl⟩
          clear HIX
          have hw : IntKind.i64.wrap ((n : Int) + ((a - n : Nat) : Int)) = (a : Int) := by rw [show (n : Int) + ((a - n : Nat) : Int) = (a : Int) by omega]; exact IntWalk.i64_in _ (by omega)
          generalize a - n = e at *
          have hd0 : decide ((e : Int) < 0) = false := by simp
          obtain ⟨W1, hW1⟩ : ∃ W1, W1 = wo.alloc (.cells #[.int .i64 (k : Nat)] 3) := ⟨_, rfl⟩
          rw [← hW1] at HS1 hbc ⊢
          clear hW1
          generalize wo.heap.size = bc at *
          obtain ⟨l1, l2, l3, l4, l5, l6⟩ := HS1.out.st.grid.line HLM.out hnN
          obtain ⟨m1, m2, m3, m4, m5, m6⟩ := HS1.out.st.grid.line HLM.out hfd
          clear l3 m3
          obtain ⟨v', hv'⟩ := cell?_setCell_some (w := W1) (p := ⟨g, n, none⟩) (x := .slice (some ⟨p' a, 0, none⟩) W (c' a)) (q := ⟨g, a, none⟩) (v := .slice (some ⟨p' a, 0, none⟩) W (c' a)) m1
          go_wp2_with fail
          go_region
          obtain ⟨W2, hW2⟩ : ∃ W2, W2 = ((W1.setCell ⟨g, n, none⟩ (.slice (some ⟨p' a, 0, none⟩) W (c' a))).setCell ⟨g, a, none⟩ (.slice (some ⟨p' n, 0, none⟩) W (c' n))).drew := ⟨_, rfl⟩
          obtain ⟨p2, c2, hS2⟩ := HS1.out.swap (w2 := W2) HLM.out hnN hfd (by rw [hW2]; rfl) (by rw [hW2]; exact (((Below.refl _ _).setCell (Nat.zero_le _) _).setCell (Nat.zero_le _) _).drew)
          rw [← hW2]
          clear hW2 l1 l2 l4 l5 l6 m1 m2 m4 m5 m6 hv' HS1 hw hbc
          have HLM2 := Lib.hid (HLM.out.swp n a)
          have HBM2 := Lib.hid (HBM.out.swp n a)
          clear HLM HBM
          generalize Gf.swp M n a = M2 at *
          have HS2 := Lib.hid hS2
          have hx := byt_small HBM2.out n k
          have hinv : ∀ q, Hid (Calls Try.prog 26 #[.pointer (some ⟨pf, 0, none⟩), .int .u8 ((M2 n).getD k 0 : Nat)] (W2.drewN q) fun e w' => e = .returned (.tuple #[.int .u8 (Gf.inv ((M2 n).getD k 0) : Nat), .int .i64 0]) ∧ ∃ n, w' = (W2.drewN q).drewN n) := fun q => inv_pos (hS2.st.field.drewN q) hx (by rw [← at0_getD]; exact HNE.out)
          have HINV := Lib.hid hinv
          obtain ⟨l1, l2, l3, l4, l5, l6⟩ := hS2.st.grid.line HLM2.out hnN
          have hcell := (own_cell l3 (i := k) (by omega)).1
          have hb0 := hS2.col
          have hb1 := hS2.fld
          have hil : Gf.inv ((M2 n).getD k 0) < 256 := Gf.inv_lt
          have hkW : k < W := by omega
          have hsc : ∀ q, Hid (Calls Try.prog 128 #[.agg #[.pointer (some ⟨pf, 0, none⟩)], .slice (some ⟨p2 n, 0, none⟩) W (c2 n), .int .u8 (Gf.inv ((M2 n).getD k 0) : Nat)] (W2.drewN q) fun e w' => (∃ v, e = .returned v) ∧ w'.ownsRow B 5 1 (.slice (some ⟨p2 n, 0, none⟩) W (c2 n)) W (bs (Gf.sc (Gf.inv ((M2 n).getD k 0)) (M2 n))) ∧ Only (p2 n) (W2.drewN q) w') := fun q => scale_any hil (hS2.st.field.drewN q) l3 (byt_small HBM2.out n) hW
          have HSC := Lib.hid hsc
          clear hinv hsc hS2 l3
          have HIV := Lib.hid (show Gf.inv (Gf.at0 (M2 n) k) = Gf.inv ((M2 n).getD k 0) by rw [at0_getD])
          generalize Gf.inv ((M2 n).getD k 0) = iv at *
          generalize (M2 n).getD k 0 = x at *
          go_wp2_with fail
          refine wp_region_quiet_lit (by kernel_rfl) (by kernel_rfl) ?_
          repeat (go_big_quiet_step ((go_at_call 26; exact Calls.quiet_of (HINV.out _).out)))
          refine wpQuiet_nil ?_
          intro _ hw'
          obtain ⟨nq, rfl⟩ := hw'
          obtain ⟨W3, hW3⟩ : ∃ W3, W3 = W2.drewN nq := ⟨_, rfl⟩
          have hS3 : StepC w B g N pf p M2 W3 p2 c2 bc k := by rw [hW3]; exact HS2.out.drewN nq
          have HSC3 : Hid (∀ q, Hid (Calls Try.prog 128 #[.agg #[.pointer (some ⟨pf, 0, none⟩)], .slice (some ⟨p2 n, 0, none⟩) W (c2 n), .int .u8 (iv : Nat)] (W3.drewN q) fun e w' => (∃ v, e = .returned v) ∧ w'.ownsRow B 5 1 (.slice (some ⟨p2 n, 0, none⟩) W (c2 n)) W (bs (Gf.sc iv (M2 n))) ∧ Only (p2 n) (W3.drewN q) w')) := by
            rw [hW3]; intro q; rw [World.drewN_drewN]; exact HSC.out _
          rw [← hW3]
          clear hW3 HS2 HSC HINV hcell hb0 hb1 l1 l2 l4 l5 l6
          have HS3 := Lib.hid hS3
          obtain ⟨l1, l2, l3, l4, l5, l6⟩ := hS3.st.grid.line HLM2.out hnN
          have hb1 := hS3.fld
          clear l3 hS3
          go_wp2_with fail
          refine region_quiet_tail 6 (by kernel_rfl) (by kernel_rfl) ?_
          simp only [List.take_succ_cons, List.take_zero, List.drop_succ_cons, List.drop_zero]
          repeat (go_big_quiet_step (fail))
          refine wpQuiet_nil ?_
          intro _ hw'
          obtain ⟨nq, rfl⟩ := hw'
          go_wp2_with (go_at_call 128; ((with_reducible refine (HSC3.out _).out.mono ?_); rintro e w4 ⟨⟨v4, rfl⟩, ho4, hO4⟩; have HO4 := Lib.hid ho4; have HN4 := Lib.hid hO4; clear ho4 hO4))
          have hS4 : StepC w B g N pf p (elTo M2 n k 0) w4 p2 c2 bc k := ((HS3.out.drewN nq).turn (l := Gf.sc iv (M2 n)) hnN HN4.out (Gf.sc_len _ _) (by rw [HLM2.out n]; exact HO4.out)).congr fun j _ => by
            unfold elTo
            rw [HIV.out]
            split
            · rfl
            · rw [if_neg (Nat.not_lt_zero _)]
          have HS4 := Lib.hid hS4
          clear hS4 HS3 HSC3 HO4 HN4 l1 l2 l4 l5 l6 hb1 HIV
          go_loopw [63] (fun i wr => ∃ r : Nat, r ≤ N ∧ i = .int .i64 r ∧ Hid (StepC w B g N pf p (elTo M2 n k r) wr p2 c2 bc k)) (fun i _ => N - (intOf i).toNat)
          case atStart => exact ⟨0, Nat.zero_le _, rfl, HS4⟩
          case round =>
            clear HS4
            obtain ⟨r, hr, rfl, HS⟩ := hrel
            by_cases hr1 : r < N
            · by_cases hrn : r = n
              · subst hrn
                have HS5 := Lib.hid (HS.out.congr (Z := elTo M2 r k (r + 1)) fun j _ => by
                  unfold elTo
                  by_cases e : j = r
                  · rw [if_pos e, if_pos e]
                  · rw [if_neg e, if_neg e]
                    by_cases e2 : j < r
                    · rw [if_pos e2, if_pos (by omega)]
                    · rw [if_neg e2, if_neg (by omega)])
                go_wp2_with fail
                go_roundw
                case rel => exact ⟨r + 1, by omega, by go_num, HS5⟩
                case measure => simp [intOf]; omega
              · have q1 : ((r : Int) != (n : Int)) = true := by simp; omega
                have q2 : decide (r = n) = false := by simp; omega
                have HLE := Lib.hid (elTo_long (n := n) (k := k) (r := r) HLM2.out)
                have HBE := Lib.hid (elTo_byt (n := n) (k := k) (r := r) HLM2.out HBM2.out)
                obtain ⟨l1, l2, l3, l4, l5, l6⟩ := HS.out.st.grid.line HLE.out hnN
                obtain ⟨m1, m2, m3, m4, m5, m6⟩ := HS.out.st.grid.line HLE.out hr1
                have hcell := (own_cell m3 (i := k) (by omega)).1
                have hb0 := HS.out.col
                have hb1 := HS.out.fld
                have hpp : p2 n ≠ p2 r := fun e => hrn (HS.out.st.grid.inj n r hnN hr1 e).symm
                have hadd : ∀ q, Hid (Calls Try.prog 102 #[.agg #[.pointer (some ⟨pf, 0, none⟩)], .slice (some ⟨p2 r, 0, none⟩) W (c2 r), .slice (some ⟨p2 n, 0, none⟩) W (c2 n), .int .u8 ((elTo M2 n k r r).getD k 0 : Nat)] (wr.drewN q) fun e w' => (∃ v, e = .returned v) ∧ w'.ownsRow B 5 1 (.slice (some ⟨p2 r, 0, none⟩) W (c2 r)) W (bs (Gf.ad ((elTo M2 n k r r).getD k 0) (elTo M2 n k r r) (elTo M2 n k r n))) ∧ Only (p2 r) (wr.drewN q) w') := fun q =>
                  addr_any (byt_small HBE.out r k) (HS.out.st.field.drewN q) m3 (byt_small HBE.out r) ((own_rb2 l3 (byt_small HBE.out n) (by omega)).drewN q) (fun _ b off e => by injection e with e; injection e with e; rw [← e]; exact hpp) hW
                have hst : ∀ q w5, w5.ownsRow B 5 1 (.slice (some ⟨p2 r, 0, none⟩) W (c2 r)) W (bs (Gf.ad ((elTo M2 n k r r).getD k 0) (elTo M2 n k r r) (elTo M2 n k r n))) → Only (p2 r) (wr.drewN q) w5 → Hid (StepC w B g N pf p (elTo M2 n k (r + 1)) w5 p2 c2 bc k) := fun q w5 h5 h6 =>
                  ((HS.out.drewN q).turn (l := Gf.ad ((elTo M2 n k r r).getD k 0) (elTo M2 n k r r) (elTo M2 n k r n)) hr1 h6 (by rw [Gf.ad_len (by rw [HLE.out r, HLE.out n])]) (by rw [HLE.out r]; exact h5)).congr fun j _ => by
                    have e1 : elTo M2 n k r r = M2 r := by unfold elTo; rw [if_neg hrn, if_neg (Nat.lt_irrefl r)]
                    have e2 : elTo M2 n k r n = Gf.sc (Gf.inv (Gf.at0 (M2 n) k)) (M2 n) := by unfold elTo; rw [if_pos rfl]
                    rw [e1, e2, ← at0_getD]
                    unfold elTo
                    by_cases e : j = r
                    · subst e
                      rw [if_pos rfl, if_neg hrn, if_pos (Nat.lt_succ_self _)]
                    · rw [if_neg e]
                      by_cases e3 : j = n
                      · rw [if_pos e3, if_pos e3]
                      · rw [if_neg e3, if_neg e3]
                        by_cases e4 : j < r
                        · rw [if_pos e4, if_pos (by omega)]
                        · rw [if_neg e4, if_neg (by omega)]
                have HADD := Lib.hid hadd
                have HSTP := Lib.hid hst
                clear hadd hst l3 m3 hpp HS
                generalize (elTo M2 n k r r).getD k 0 = y at *
                go_wp2_with fail
                refine region_quiet_tail 16 (by kernel_rfl) (by kernel_rfl) ?_
                simp only [List.take_succ_cons, List.take_zero, List.drop_succ_cons, List.drop_zero]
                repeat (go_big_quiet_step (fail))
                refine wpQuiet_nil ?_
                intro _ hw'
                obtain ⟨nq, rfl⟩ := hw'
                go_wp2_with (go_at_call 102; ((with_reducible refine (HADD.out _).out.mono ?_); rintro e w5 ⟨⟨v5, rfl⟩, ho5, hO5⟩; have HS5 := HSTP.out _ _ ho5 hO5; clear ho5 hO5))
                go_roundw
                case rel => exact ⟨r + 1, by omega, by go_num, HS5⟩
                case measure => simp [intOf]; omega
            · obtain rfl : r = N := by omega
              have hS5 : StepSt w B g r pf p (Gf.elim M2 n k) wr p2 c2 := HS.out.st.congr fun j hj => by
                unfold elTo Gf.elim Gf.elimB
                by_cases e : j = n
                · rw [if_pos e, if_pos e]
                · rw [if_neg e, if_neg e, if_pos hj]
              have hfin : Gf.rdN X r (k + 1) = n + 1 ∧ Hid (StepSt w B g r pf p (Gf.rdX X r (k + 1)) wr p2 c2) := ⟨HE.out.1, by rw [HE.out.2]; exact hS5⟩
              have HFN := Lib.hid hfin
              clear hS5 hfin HS
              go_wp2_with fail
              go_roundw
              case rel => exact ⟨k + 1, by omega, by go_num, by rw [HFN.out.1]; go_num, p2, c2, HFN.out.2⟩
              case measure => simp [intOf]; omega
        · rw [if_neg hfd] at HIX
          have HFN := Lib.hid (HE0.out hfd)
          clear HE0 HE1 hfd
          go_wp2_with fail
          refine HIX.out.mono ?_
          rintro e w1 ⟨rfl, rfl⟩
          go_wp2_with fail
          go_roundw
          case rel => exact ⟨k + 1, by omega, by go_num, by rw [HFN.out.1], _, _, by rw [HFN.out.2]; exact HS1.out.st⟩
          case measure => simp [intOf]; omega
      · obtain rfl : n = N := by omega
        have hnf : ¬ Gf.fnd M n k n < n := by
          have := Gf.fnd_le (M := M) (c := k) (show n ≤ n by omega)
          omega
        have HFN := Lib.hid (HE0.out hnf)
        have hcr := fun w => cut_end (g := g) (N := n) w
        clear HE0 HE1 hnf
        go_wp2_with fail
        refine indexf_nil.mono ?_
        rintro e w1 ⟨rfl, rfl⟩
        go_wp2_with fail
        go_roundw
        case rel => exact ⟨k + 1, by omega, by go_num, by rw [HFN.out.1], _, _, by rw [HFN.out.2]; exact HS1.out.st⟩
        case measure => simp [intOf]; omega
    · obtain rfl : k = C := by omega
      go_wp2_with fail
      go_ret
      exact ⟨rfl, ⟨_, _, HS.out.grid⟩, HS.out.kpt⟩
end Go.Proofs.Ytokeoodkioobdaa
