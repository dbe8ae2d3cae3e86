/- The walks of slices.Values, slices.Collect at frames. Conditions: the slice is short. -/
import Derived.Maps.AppendAt
import Derived.Test.YtfojhmobnedekaaWire10
import Derived.Test.YtfojhmobnedekaaPast6
import Derived.Lib.OwnBridge
import Derived.Test.YtfojhmobnedekaaShelf
namespace Go.Proofs.Ytfojhmobnedekaa
open Go.RowKit

attribute [local go_sem] Oper.semAt_some

theorem values_any (w : World) (a : Option Addr) (n c : Nat) : Calls Try.prog 83 #[.slice a n c] w fun e w' => e = .returned (.func (.func 115) #[] #[.pointer (some ⟨w.heap.size, 0, none⟩)]) ∧ w' = w.alloc (.cells #[.slice a n c] 152) := by
  go_enter Try.func83, Try.ntmps83
  go_wp2_with fail
  go_ret
  exact ⟨rfl, rfl⟩
/-- A slice that is gone through. -/
structure VS (B bs : Nat) (a : Option Addr) (c : Nat) (L : List Fr) (w : World) : Prop where
  box : w.cell? ⟨bs, 0, none⟩ = some (.slice a L.length c)
  row : w.ownsRow B 149 2 (.slice a L.length c) L.length (fcs2 L)
/-- What a round must keep. -/
def Kv (bs : Nat) (a : Option Addr) (A B : World) : Prop := A.heap.size ≤ B.heap.size ∧ ∀ g, (g = bs ∨ oB a = some g) → g < A.heap.size → B.heap[g]? = A.heap[g]?
theorem VS.kv {B bs c : Nat} {a : Option Addr} {L : List Fr} {A C : World} (h : VS B bs a c L A) (k : Kv bs a A C) : VS B bs a c L C :=
  ⟨(World.cell?_of_block (w := A) (k.2 bs (.inl rfl) (block_lt_of_cell h.box))).trans h.box, own_frame3 h.row fun g e hg => k.2 g (.inr (by rw [own_oB] at e; exact e)) hg⟩
theorem kv_below {bs : Nat} {a : Option Addr} {A C : World} (h : Below A.heap.size A C) : Kv bs a A C := ⟨h.size, fun g _ hg => h.block g hg⟩
theorem kv_trans {bs : Nat} {a : Option Addr} {A B C : World} (h : Kv bs a A B) (k : Kv bs a B C) : Kv bs a A C :=
  ⟨Nat.le_trans h.1 k.1, fun g h1 h2 => (k.2 g h1 (Nat.lt_of_lt_of_le h2 h.1)).trans (h.2 g h1 h2)⟩
theorem kv_of {bs n0 : Nat} {a : Option Addr} (h : ∀ g, (g = bs ∨ oB a = some g) → g < n0) {A B : World} {row : Option Nat} (hg : A.grownBy B row) (hr : ∀ r, row = some r → n0 ≤ r) : Kv bs a A B :=
  ⟨hg.size, fun g h1 h2 => hg.block g h2 (fun e => by have := hr g e.symm; have := h g h1; omega)⟩

set_option maxHeartbeats 2000000 in
set_option maxRecDepth 100000 in
/-- The iterator itself. -/
theorem vals_in (nn : Nat) (hn : 1 ≤ nn) (l B bs : Nat) (a : Option Addr) (c : Nat) (L : List Fr) (hL : L.length ≤ 100000) (J : List Fr → World → Prop) (hJ : ∀ s A C, J s A → Below A.heap.size A C → J s C)
    (hY : ∀ pre x W1, J pre W1 → pre.length < L.length → YieldAt Fence.wide (nn - 1) Try.prog l #[x.v] W1 fun e W' => e = .returned (.bool true) ∧ J (pre ++ [x]) W' ∧ Kv bs a W1 W')
    (w : World) (hQ : VS B bs a c L w) (h0 : J [] w) :
    CallsIn Fence.wide nn Try.prog 115 #[.func (.yield l) #[] #[], .pointer (some ⟨bs, 0, none⟩)] w fun e W' => (∃ v, e = .returned v) ∧ ∃ xs, (xs = L ∧ VS B bs a c L W') ∧ J xs W' := by
  have HQ := Lib.hid hQ
  have HJ := Lib.hid hJ
  have HY := Lib.hid hY
  have h0 := Lib.hid h0
  have hb := hQ.box
  obtain ⟨N, hN⟩ : ∃ N, N = L.length := ⟨_, rfl⟩
  have HN := Lib.hid hN
  rw [← hN] at hb hL
  clear hQ hJ hY hN
  refine callsIn_of_wp Try.func115 rfl trivial ?_ rfl
  simp only [Try.ntmps115, List.size_toArray, List.length_cons, List.length_nil, Nat.reduceAdd, Nat.reduceSub, Array.replicate_succ, Array.replicate_zero, List.push_toArray, List.append_toArray, List.nil_append, List.cons_append]
  gi_wp2
  clear hb
  gi_loopw [7] (fun i wr => ∃ k : Nat, k ≤ N ∧ i = .int .i64 k ∧ Hid (J (L.take k) wr) ∧ Hid (VS B bs a c L wr)) (fun i wr => N - (intOf i).toNat)
  case atStart => exact ⟨0, Nat.zero_le _, rfl, by rw [List.take_zero]; exact h0, HQ⟩
  case round =>
    obtain ⟨k, hk, rfl, HJ0, HQ0⟩ := hrel
    by_cases hkn : k < N
    · have d1 : decide ((k : Int) < (N : Int)) = true := decide_eq_true (by omega)
      obtain ⟨g, c', hv1, x0, x1⟩ := frow_at HQ0.out.row (k := k) (by rw [← HN.out]; exact hkn)
      obtain ⟨rfl, rfl⟩ : a = some ⟨g, 0, none⟩ ∧ c = c' := by injection hv1 with h1 _ h2; exact ⟨h1, h2⟩
      clear hv1
      obtain ⟨y, hy⟩ : ∃ y, y = hv L k := ⟨_, rfl⟩
      rw [← hy] at x0 x1
      have HT : Hid (L.take (k + 1) = L.take k ++ [y]) := by
        show L.take (k + 1) = L.take k ++ [y]
        have hkl : k < L.length := by rw [← HN.out]; exact hkn
        rw [hy, hv_get hkl, List.take_add_one, List.getElem?_eq_getElem hkl]; rfl
      clear hy
      obtain ⟨yd, yn⟩ := y
      dsimp only at x0 x1
      have hb5 : Below wr.heap.size wr (wr.alloc (.cells #[.int .i64 yd, .int .i64 yn] 149)) := (Below.refl _ _).alloc (Nat.le_refl _) _
      have hx5 := heap_alloc_new wr (.cells #[.int .i64 yd, .int .i64 yn] 149)
      have b0 : (wr.alloc (.cells #[.int .i64 yd, .int .i64 yn] 149)).cell? ⟨wr.heap.size, 0, none⟩ = some (.int .i64 yd) := (cell_of_block (j := 0) hx5).trans rfl
      have b1 : (wr.alloc (.cells #[.int .i64 yd, .int .i64 yn] 149)).cell? ⟨wr.heap.size, 1, none⟩ = some (.int .i64 yn) := (cell_of_block (j := 1) hx5).trans rfl
      obtain ⟨fn, tmps, assign, body, hy, hR⟩ := HY.out (L.take k) ⟨yd, yn⟩ (wr.alloc (.cells #[.int .i64 yd, .int .i64 yn] 149)) (HJ.out _ _ _ HJ0.out hb5) (by rw [List.length_take, ← HN.out]; omega)
      unfold Fr.v at hy
      have HQ5 := Lib.hid (HQ0.out.kv (kv_below hb5))
      clear hb5 hx5
      gi_wp2
      refine hR.mono ?_
      rintro e w9 ⟨rfl, hJ9, hk9⟩
      have HQ9 := Lib.hid (HQ5.out.kv hk9)
      rw [← HT.out] at hJ9
      have HJ9 := Lib.hid hJ9
      clear hJ9 hk9 hR hy b0 b1 x0 x1
      gi_wp2
      exact ⟨⟨k + 1, hkn, by go_num, HJ9, HQ9⟩, by simp [intOf]; omega⟩
    · have d1 : decide ((k : Int) < (N : Int)) = false := decide_eq_false (by omega)
      have hkN : k = N := by omega
      have hfin : ∃ xs, (xs = L ∧ VS B bs a c L wr) ∧ J xs wr := ⟨L, ⟨rfl, HQ0.out⟩, by
        have := HJ0.out
        rwa [hkN, HN.out, List.take_length] at this⟩
      have HFIN := Lib.hid hfin
      clear hfin hkN
      gi_wp2
      exact bodyPost_end (v := .tuple #[]) (results_none rfl _ _ _) rfl ⟨⟨_, rfl⟩, HFIN.out⟩
end Go.Proofs.Ytfojhmobnedekaa

/- The walks of slices.AppendSeq, slices.Collect at frames, over slices.Values. Conditions: the slice is short. -/
namespace Go.Proofs.Ytfojhmobnedekaa
open Go.RowKit

attribute [local go_sem] Oper.semAt_some

theorem fcs2_snoc (l : List Fr) (x : Fr) : fcs2 (l ++ [x]) = fcs2 l ++ x.c := by simp [fcs2]
/-- Between the rounds. -/
structure AppI (w0 : World) (n0 bo : Nat) (pre : List Fr) (A : World) : Prop where
  out : ∃ vm, Boxed A bo 152 vm ∧ A.ownsRow n0 149 2 vm pre.length (fcs2 pre) ∧ True
  keep : Below w0.heap.size w0 A
  low : n0 ≤ A.heap.size
theorem AppI.own {w0 : World} {n0 bo : Nat} (hn : w0.heap.size ≤ n0) : OwnFrom n0 (AppI w0 n0 bo) := fun s A B row h hg hr =>
  ⟨(holdsRow_own n0 bo 152 149 2 (fun s : List Fr => s.length) fcs2 (fun _ _ => True)).from n0 s A B row h.out hg hr, ownFrom_below (β := Unit) (Nat.le_refl _) hn () A B row h.keep hg hr, Nat.le_trans h.low hg.size⟩
theorem AppI.below {w0 A C : World} {n0 bo : Nat} {pre : List Fr} (h : AppI w0 n0 bo pre A) (k : Below A.heap.size A C) : AppI w0 n0 bo pre C := by
  obtain ⟨vm, h1, h2, _⟩ := h.out
  exact ⟨⟨vm, (k.block bo h1.lt).trans h1, own_frame3 h2 fun g _ hg => k.block g hg, trivial⟩, h.keep.trans (k.mono h.keep.size), Nat.le_trans h.low k.size⟩
theorem AppI.step {w0 A w1 : World} {n0 bo : Nat} {pre : List Fr} {x : Fr} {vm vm' : Value} {tmp : Obj} (h : Below w0.heap.size w0 A) (hlow : n0 ≤ A.heap.size) (hb : bo < n0) (hw : w0.heap.size ≤ bo) (hx : Boxed A bo 152 vm) (hr : A.ownsRow n0 149 2 vm pre.length (fcs2 pre))
    (ho : w1.ownsRow n0 149 2 vm' (pre.length + 1) (fcs2 pre ++ x.c)) (hg : (A.alloc tmp).grownBy w1 vm.ownBlock) :
    Boxed w1 bo 152 vm ∧ KeepsOthers A (w1.setCell ⟨bo, 0, none⟩ vm') ∧ (A.heap.size ≤ (w1.setCell ⟨bo, 0, none⟩ vm').heap.size ∧ ∀ g, g < n0 → g ≠ bo → g < A.heap.size → (w1.setCell ⟨bo, 0, none⟩ vm').heap[g]? = A.heap[g]?) ∧ AppI w0 n0 bo (pre ++ [x]) (w1.setCell ⟨bo, 0, none⟩ vm') := by
  obtain ⟨k1, k2, k3, k4, _⟩ := hx.appended (n₀ := 0) (by decide) (own_mono3 hr (Nat.zero_le _)) (Nat.zero_le _) (Nat.zero_le _) (own_mono3 ho (Nat.zero_le _)) hg
  have hbl : ∀ g, g < n0 → g ≠ bo → g < A.heap.size → (w1.setCell ⟨bo, 0, none⟩ vm').heap[g]? = A.heap[g]? := fun g h1 h2 h3 => (Below.heap_setCell w1 ⟨bo, 0, none⟩ vm' g h2).trans ((hg.block g (by simp; omega) (fun e => by have := (own_lt3 hr e.symm).1; omega)).trans (Below.heap_alloc A tmp g h3))
  have hsz : A.heap.size ≤ (w1.setCell ⟨bo, 0, none⟩ vm').heap.size := by have := hg.size; simp [World.setCell] at this ⊢; omega
  have hbo : vm'.ownBlock ≠ some bo := fun e => by have := (own_lt3 ho e).1; omega
  refine ⟨k1, k4, ⟨hsz, hbl⟩, ⟨vm', k2, ?_, trivial⟩, ⟨hg.os.trans h.os, hg.tape.trans h.tape, hg.output.trans h.output, Nat.le_trans h.size hsz, fun g h1 => ?_⟩, Nat.le_trans hlow hsz⟩
  · rw [fcs2_snoc, List.length_append]
    exact own_frame3 ho fun g e _ => Below.heap_setCell w1 ⟨bo, 0, none⟩ vm' g (fun e2 => hbo (by rw [e]; exact congrArg some e2))
  · have := h.size
    exact (hbl g (by omega) (by omega) (by omega)).trans (h.block g h1)
/-- A round's own variable. -/
def AppAx (n0 bo bs : Nat) (x : Fr) (a' : Act) (A : World) : Prop := ∃ Bx, n0 ≤ Bx ∧ A.heap[Bx]? = some (.cells #[.int .i64 x.d, .int .i64 x.n] 149 (0, 0)) ∧
  a' = { tmps := #[.slice none 0 0, .func (.func 115) #[] #[.pointer (some ⟨bs, 0, none⟩)], .pointer (some ⟨bo, 0, none⟩), undef, .slice none 0 0, .pointer (some ⟨Bx, 0, none⟩), .func (.func 115) #[] #[.pointer (some ⟨bs, 0, none⟩)], .agg #[.int .i64 x.d, .int .i64 x.n], undef, undef, undef, undef, undef], defers := [] }
theorem AppAx.own (n0 bo bs : Nat) (x : Fr) (a' : Act) : OwnFrom n0 (fun (_ : Unit) A => AppAx n0 bo bs x a' A) := fun _ A B row h hg hr => by
  obtain ⟨Bx, h1, h2, h3⟩ := h
  refine ⟨Bx, h1, (hg.block Bx (lt_of_block h2) (fun e => ?_)).trans h2, h3⟩
  obtain ⟨_, o, ho, hc⟩ := hr Bx e.symm
  rw [h2] at ho; injection ho with ho; subst ho; cases hc

set_option maxHeartbeats 4000000 in
set_option maxRecDepth 100000 in
theorem appseq_in (nn : Nat) (hnn : 5 ≤ nn) {w : World} {B bs c : Nat} {a : Option Addr} {L : List Fr} (hq : VS B bs a c L w) (hm : L.length ≤ 100000) :
    CallsIn Fence.wide nn Try.prog 129 #[.slice none 0 0, .func (.func 115) #[] #[.pointer (some ⟨bs, 0, none⟩)]] w fun e w' => ∃ v, e = .returned v ∧ w'.ownsRow w.heap.size 149 2 v L.length (fcs2 L) ∧ Below w.heap.size w w' := by
  have hb0 : Below w.heap.size w (w.alloc (.cells #[.slice none 0 0] 152)) := (Below.refl _ _).alloc (Nat.le_refl _) _
  have hbo := heap_alloc_new w (.cells #[.slice none 0 0] 152)
  have hz : (w.alloc (.cells #[.slice none 0 0] 152)).heap.size = w.heap.size + 1 := World.size_alloc _ _
  have HQ := Lib.hid hq
  have hq4 := hq.kv (kv_below hb0)
  refine callsIn_of_wp_marks Try.func129 rfl trivial ?_ rfl
  simp only [Try.ntmps129, List.size_toArray, List.length_cons, List.length_nil, Nat.reduceAdd, Nat.reduceSub, Array.replicate_succ, Array.replicate_zero, List.push_toArray, List.append_toArray, List.nil_append, List.cons_append]
  refine wpIn_wide.2 ?_
  go_wp2_with fail
  generalize w.alloc (.cells #[.slice none 0 0] 152) = w4 at *
  have hbl : bs < w.heap.size := block_lt_of_cell HQ.out.box
  have hal : ∀ g, oB a = some g → g < w.heap.size := fun g e => (own_lt3 HQ.out.row (by rw [own_oB]; exact e)).2
  have hlist : ∀ g, (g = bs ∨ oB a = some g) → g < w4.heap.size := fun g h => by
    rcases h with h | h
    · omega
    · have := hal g h; omega
  have HI0 : AppI w w4.heap.size w.heap.size [] w4 := ⟨⟨_, hbo, World.ownsRow_nil _ _ _ _, trivial⟩, hb0, Nat.le_refl _⟩
  refine (wpIn_wide (n := nn)).1 ?_
  refine wpIn_rangeCells rfl (by omega) (gf := 115) (lb := #[.pointer (some ⟨bs, 0, none⟩)]) rfl trivial (enters_of Try.func115 (by kernel_rfl) rfl)
    (encs := fun x : Fr => #[x.v]) (Kp := Kv bs a) (St := fun A C => Below A.heap.size A C) (S := fun xs A => xs = L ∧ VS B bs a c L A) (N := L.length)
    (fun W1 hB l J hJ hY h0 => vals_in (nn - 1) (by omega) l B bs a c L hm J hJ hY W1 (hq4.kv (kv_below hB)) h0)
    (fun A C h k o hk ho => (h.block k (Array.getElem?_eq_some_iff.1 hk).1).trans hk) kv_trans (fun A l o o' h1 h2 h3 => kv_of hlist (grownBy_putObj' A l o') (fun r e => by injection e with e; omega)) (fun _ => rfl)
    (fun s A C row h hg hr => ⟨h.1, h.2.kv (kv_of hlist hg fun r e => (hr r e).1)⟩)
    (AppI w w4.heap.size w.heap.size) (AppI.own (by omega))
    (fun s A C h k => h.below k) HI0
    (AppAx w4.heap.size w.heap.size bs) (AppAx.own _ _ _) ?assign ?body ?done
  case assign =>
    intro l pre x A K hI hK
    unfold Fr.v
    gi_wp2
    exact hK _ _ ((KeepsOthers.alloc _ _).from _) (kv_below ((Below.refl _ _).alloc (Nat.le_refl _) _)) ((AppI.own (by omega)).alloc _ hI) ⟨A.heap.size, hI.low, World.alloc_heap_new A _, rfl⟩
  case body =>
    rintro l pre x a' A hl0 hI ⟨Bx, hBx, hb, rfl⟩ hlen
    obtain ⟨vm, hx, hr, _⟩ := hI.out
    obtain ⟨xd, xn⟩ := x
    have x0 : A.cell? ⟨Bx, 0, none⟩ = some (.int .i64 xd) := (cell_of_block hb).trans rfl
    have x1 : A.cell? ⟨Bx, 1, none⟩ = some (.int .i64 xn) := (cell_of_block hb).trans rfl
    have hxc := hx.cell
    obtain ⟨i149, hi, hz0, hz1, hz2⟩ := info_parts info149f
    have hpl : pre.length < 100000 := by omega
    have hlow := hI.low
    have hkp := hI.keep
    obtain ⟨n0, hn0⟩ : ∃ n0, n0 = w4.heap.size := ⟨_, rfl⟩
    rw [← hn0] at hr hlow
    have hb0n : w.heap.size < n0 := by omega
    have hcn := cells_at_block (World.alloc_heap_new A (.cells [.int .i64 xd, .int .i64 xn].toArray 149))
    have HCN := Lib.hid hcn
    clear hcn
    gi_wp2_with (gi_at_builtin; refine wpListIn_append_own _ rfl (.tmp 8) (.tmp 10) 152 rfl n0 149 i149 _ 2 16 Try.underlying152 hi hz0 hz1 hz2 rfl (by decide) vm pre.length (fcs2 pre) rfl (hr.alloc _) ⟨A.heap.size, 0, none⟩ 1 1 [.int .i64 xd, .int .i64 xn] rfl rfl HCN.out (by simp [Value.oneCell']) (by unfold maxLen; omega) (by omega) (by simp only [World.size_alloc]; omega) ?_)
    intro vm' w1 ho hg _
    obtain ⟨g', cap', rfl⟩ := ownsRow_succ ho
    obtain ⟨k1, k2, k3, k4⟩ := AppI.step (x := ⟨xd, xn⟩) hkp (n0 := w.heap.size + 1) (by omega) (by omega) (by omega) hx (by rw [← hz, ← hn0]; exact hr) ho hg
    have hc1 := k1.cell
    have hf1 := k1.frozen
    have HK := Lib.hid (And.intro k2 (And.intro k3 k4))
    clear k1 k2 k3 k4 ho hg HCN
    gi_wp2
    refine ⟨HK.out.1.from _, ⟨HK.out.2.1.1, fun g hg hl => HK.out.2.1.2 g ?_ ?_ hl⟩, HK.out.2.2⟩
    · have := hlist g hg; omega
    · rcases hg with hg | hg
      · omega
      · have := hal g hg; omega
  case done =>
    rintro D xs A hD ⟨rfl, hQ⟩ hI hK
    obtain ⟨vm, hx, hr, _⟩ := hI.out
    have hxc := hx.cell
    obtain ⟨am, cm, rfl⟩ : ∃ am cm, vm = .slice am xs.length cm := by
      rcases hr.2 with ⟨rfl, h0⟩ | ⟨g, cap, cur, rfl, _⟩
      · exact ⟨none, 0, by rw [h0]⟩
      · exact ⟨_, _, rfl⟩
    have HR := Lib.hid hr
    have HK := Lib.hid hK
    have HI := Lib.hid hI
    clear hq4 HI0 hr hx hQ hI
    gi_wp2
    go_wp2_with fail
    refine ⟨by simp, .inl ⟨_, _, rfl, run_takeDeferred HK.out, ?_⟩⟩
    refine ⟨.slice am xs.length cm, ?_, ?_⟩
    · simp [results, Try.f129, go_sem]
    · have hI' := (AppI.own (w0 := w) (n0 := w4.heap.size) (bo := w.heap.size) (by omega)).putObj (.deferred none) HI.out hD HK.out rfl
      refine ⟨_, rfl, own_mono3 (own_frame3 HR.out fun g hg _ => World.putObj_heap_other (fun e => ?_)) (by omega), hI'.keep⟩
      subst e
      rcases HR.out.2 with ⟨e, _⟩ | ⟨g', cap, cur, e, _, hh, _⟩
      · injection e with e1 _ _; subst e1; cases hg
      · injection e with e1 _ _; subst e1
        have e : g' = g := by injection hg
        subst e
        rw [HK.out] at hh; cases hh
theorem appseq_any {w : World} {B bs c : Nat} {a : Option Addr} {L : List Fr} (hq : VS B bs a c L w) (hm : L.length ≤ 100000) :
    Calls Try.prog 129 #[.slice none 0 0, .func (.func 115) #[] #[.pointer (some ⟨bs, 0, none⟩)]] w fun e w' => ∃ v, e = .returned v ∧ w'.ownsRow w.heap.size 149 2 v L.length (fcs2 L) ∧ Below w.heap.size w w' :=
  callsIn_wide.1 (appseq_in 5 (Nat.le_refl _) hq hm)
theorem collect_any {w : World} {B bs c : Nat} {a : Option Addr} {L : List Fr} (hq : VS B bs a c L w) (hm : L.length ≤ 100000) :
    Calls Try.prog 113 #[.func (.func 115) #[] #[.pointer (some ⟨bs, 0, none⟩)]] w fun e w' => ∃ v, e = .returned v ∧ w'.ownsRow w.heap.size 149 2 v L.length (fcs2 L) ∧ Below w.heap.size w w' := by
  have H := Lib.hid (appseq_any hq hm)
  clear hq hm
  go_enter Try.func113, Try.ntmps113
  go_wp2_with fail
  refine H.out.mono ?_
  rintro e w1 ⟨v, rfl, hr⟩
  obtain ⟨av, cv, rfl⟩ := own_sl hr.1
  have HR := Lib.hid hr
  clear hr H
  go_wp2_with fail
  go_ret
  exact ⟨_, rfl, HR.out⟩
end Go.Proofs.Ytfojhmobnedekaa

/- The sort of frames; the walk of slices.SortedFunc at frames. Conditions: the slice is short. -/
namespace Go.Proofs.Ytfojhmobnedekaa
open Go.RowKit Go.Lib Go.Sort Go.Shelf

theorem drewN_grow2 (w : World) (os : Array Obj) (n : Nat) : (grow w os).drewN n = grow (w.drewN n) os := rfl
set_option maxHeartbeats 1600000 in
set_option maxRecDepth 100000 in
theorem forder_lays (x y : Fr) (w : World) : Calls Try.prog 77 #[x.v, y.v] w fun e w' => e = .returned (.int .i64 (ordI x.d x.n y.d y.n)) ∧ ∃ q os', w' = grow (w.drewN q) os' := by
  obtain ⟨d, q⟩ := x
  obtain ⟨d2, q2⟩ := y
  have HC := Lib.hid fun (W : World) x y => Compare_any (w := W) x y
  unfold Fr.v ordI
  go_enter Try.func77, Try.ntmps77
  go_wp2_with fail
  refine region_quiet_tail 10 (by rfl) (by decide +kernel) ?_
  simp only [List.take_succ_cons, List.take_zero, List.drop_succ_cons, List.drop_zero]
  repeat (go_big_quiet_step ((go_at_call 106; exact quiet_same (HC.out _ _ _))))
  refine wpQuiet_nil ?_
  intro _ hw'
  obtain ⟨nq, rfl⟩ := hw'
  go_wp2_with fail
  have hn := heap_alloc_new (((w.alloc (.cells #[.int .i64 d, .int .i64 q] 149)).alloc (.cells #[.int .i64 d2, .int .i64 q2] 149)).drewN nq) (.cells #[.int .i64 (cmpI d d2), .int .i64 (cmpI q q2)] 3)
  rw [show (((w.alloc (.cells #[.int .i64 d, .int .i64 q] 149)).alloc (.cells #[.int .i64 d2, .int .i64 q2] 149)).drewN nq).heap.size = w.heap.size + 1 + 1 by simp] at hn
  have HG : Hid (∃ nn os', (((w.alloc (.cells #[.int .i64 d, .int .i64 q] 149)).alloc (.cells #[.int .i64 d2, .int .i64 q2] 149)).drewN nq).alloc (.cells #[.int .i64 (cmpI d d2), .int .i64 (cmpI q q2)] 3) = grow (w.drewN nn) os') := by
    refine ⟨nq, (#[.cells #[.int .i64 d, .int .i64 q] 149] ++ #[.cells #[.int .i64 d2, .int .i64 q2] 149]) ++ #[.cells #[.int .i64 (cmpI d d2), .int .i64 (cmpI q q2)] 3], ?_⟩
    simp only [alloc_eq_grow, grow_grow, drewN_grow2]
  have hc := Or_two ((cell_of_block hn).trans rfl) ((cell_of_block hn).trans rfl)
  generalize (((w.alloc (.cells #[.int .i64 d, .int .i64 q] 149)).alloc (.cells #[.int .i64 d2, .int .i64 q2] 149)).drewN nq).alloc (.cells #[.int .i64 (cmpI d d2), .int .i64 (cmpI q q2)] 3) = W at *
  refine hc.mono ?_
  rintro e w2 ⟨rfl, rfl⟩
  clear hn hc
  go_wp2_with fail
  go_ret
  exact ⟨rfl, HG.out⟩
def cfF (x y : Fr) : Int := ordI x.d x.n y.d y.n
theorem ltOf_cfF (x y : Fr) : ltOf cfF x y = decide (x.lt y) := decide_eq_decide.2 ordI_lt
theorem swoF : SWO (ltOf cfF) where
  irrefl x := by rw [ltOf_cfF]; exact decide_eq_false (by rw [Fr.lt_iff]; omega)
  trans x y z h1 h2 := by rw [ltOf_cfF] at *; have h1 := of_decide_eq_true h1; have h2 := of_decide_eq_true h2; rw [Fr.lt_iff] at h1 h2; exact decide_eq_true (by rw [Fr.lt_iff]; omega)
  ntrans x y z h1 h2 := by rw [ltOf_cfF] at *; have h1 := of_decide_eq_false h1; have h2 := of_decide_eq_false h2; rw [Fr.lt_iff] at h1 h2; exact decide_eq_false (by rw [Fr.lt_iff]; omega)
/-- Frames in order. -/
def ordF (l : List Fr) : List Fr := l.mergeSort fun x y => !(ltOf cfF) y x
theorem ordF_perm (l : List Fr) : (ordF l).Perm l := List.mergeSort_perm _ _
theorem ordF_sorted (l : List Fr) : (ordF l).Pairwise Fr.le := by
  have := List.pairwise_mergeSort (le := fun x y => !(ltOf cfF) y x) (fun a b c h1 h2 => by
    simp only [ltOf_cfF] at *
    simp only [Bool.not_eq_true', decide_eq_false_iff_not] at *
    rw [Fr.lt_iff] at *; omega) (fun a b => by
    simp only [ltOf_cfF]
    by_cases h : b.lt a
    · have : ¬ a.lt b := by rw [Fr.lt_iff] at *; omega
      simp [this]
    · simp [h]) l
  refine this.imp fun {a b} h => ?_
  simp only [ltOf_cfF, Bool.not_eq_true', decide_eq_false_iff_not] at h
  exact h
/-- Two that are in order and hold the same are one. -/
theorem sorted_uniq {l m : List Fr} (h1 : l.Pairwise Fr.le) (h2 : m.Pairwise Fr.le) (hp : l.Perm m) : l = m :=
  hp.eq_of_pairwise (fun _ _ _ _ h h' => Fr.le_antisymm h h') h1 h2
/-- A slice of frames, read. -/
def RFr (w : World) (a : Option Addr) (l : List Fr) : Prop := ∀ i, i < l.length → ∃ g, a = some ⟨g, 0, none⟩ ∧ w.cell? ⟨g, i * 2, none⟩ = some (.int .i64 (hv l i).d) ∧ w.cell? ⟨g, i * 2 + 1, none⟩ = some (.int .i64 (hv l i).n)
theorem c_len (x : Fr) : x.c.length = 2 := rfl
theorem c_one (x : Fr) : ∀ v ∈ x.c, v.oneCell' = true := fun v hv => by
  simp [Fr.c] at hv
  rcases hv with rfl | rfl <;> rfl
theorem get_hv (l : List Fr) (i : Nat) (h : i < l.length) : l.toArray[i]! = hv l i := by
  rw [getElem!_pos _ i (by simpa using h), hv_get h]; simp
theorem holds_frames {w : World} {B g c : Nat} {l : List Fr} (h : w.ownsRow B 149 2 (.slice (some ⟨g, 0, none⟩) l.length c) l.length (fcs2 l)) : HoldsK Fr.c 2 w g 0 l.toArray := fun j hj => by
  rw [size_flatK] at hj
  rw [get_flatK _ _ _ _ hj]
  have hj2 : j < l.length * 2 := by simpa using hj
  obtain ⟨g', c', hv1, x0, x1⟩ := frow_at h (k := j / 2) (by omega)
  obtain rfl : g = g' := by injection hv1 with h1 _ _; injection h1 with h1; injection h1 with h1
  refine ⟨?_, row_frozen h⟩
  rw [get_hv l (j / 2) (by omega), Nat.zero_add]
  rcases (show j % 2 = 0 ∨ j % 2 = 1 by omega) with e | e
  · rw [e, show (⟨g, j, none⟩ : Addr) = ⟨g, j / 2 * 2, none⟩ by congr 1; omega, x0]; rfl
  · rw [e, show (⟨g, j, none⟩ : Addr) = ⟨g, j / 2 * 2 + 1, none⟩ by congr 1; omega, x1]; rfl
theorem frames_held {w : World} {g : Nat} {l : List Fr} (h : HoldsK Fr.c 2 w g 0 l.toArray) : RFr w (some ⟨g, 0, none⟩) l := fun i hi => by
  have hi' : i < l.toArray.size := by simpa using hi
  have h0 := (h.cell hi' (c := 0) (by omega)).1
  have h1 := (h.cell hi' (c := 1) (by omega)).1
  rw [get_hv l i hi] at h0 h1
  refine ⟨g, rfl, ?_, ?_⟩
  · rw [Nat.zero_add, Nat.add_zero] at h0; exact h0
  · rw [Nat.zero_add] at h1; exact h1
theorem below_sortK {B n g : Nat} {w0 w : World} {d : Array Fr} {os : Array Obj} (h : Below B w0 w) (hg : B ≤ g) (hs : B ≤ w.heap.size) : Below B w0 (sortWorldK Fr.c 2 w g 0 n d os) := by
  have h1 : Below B w0 (putRowK Fr.c 2 (Sort.ahead w n) g 0 d) := below_putRow h hg
  have hz : (putRowK Fr.c 2 (Sort.ahead w n) g 0 d).heap.size = w.heap.size := size_putRowK Fr.c 2 (Sort.ahead w n) g 0 d
  refine ⟨h1.os, h1.tape, h1.output, ?_, fun k hk => ?_⟩
  · have := h1.size
    simp only [sortWorldK, grow, Array.size_append]; omega
  · have := h1.block k hk
    rw [← this]
    show ((putRowK Fr.c 2 (Sort.ahead w n) g 0 d).heap ++ os)[k]? = _
    rw [Array.getElem?_append_left (by omega)]
theorem sort_any {w : World} {B c : Nat} {a : Option Addr} {L : List Fr} (h : w.ownsRow B 149 2 (.slice a L.length c) L.length (fcs2 L)) (hB : B ≤ w.heap.size) (hL : L.length ≤ 100000) :
    Calls Try.prog 114 #[.slice a L.length c, .func (.func 77) #[] #[]] w fun e w' => e = .returned (.tuple #[]) ∧ RFr w' a (ordF L) ∧ Below B w w' := by
  by_cases h0 : L.length = 0
  · have he : ordF L = [] := by
      have := (ordF_perm L).length_eq
      exact List.eq_nil_of_length_eq_zero (by omega)
    rw [h0, he]
    exact (AnyF.slices_SortFunc_none Try.sortFr a c _ w).mono fun e w' ⟨h1, h2⟩ => ⟨h1, fun i hi => absurd hi (by simp), by rw [h2]; exact Below.refl _ _⟩
  · obtain ⟨g, c', hv1, _, _⟩ := frow_at h (k := 0) (by omega)
    obtain ⟨rfl, rfl⟩ : a = some ⟨g, 0, none⟩ ∧ c = c' := by injection hv1 with h1 _ h2; exact ⟨h1, h2⟩
    have hgB := own_lt3 h (g := g) rfl
    have hH := holds_frames h
    have eg : ∀ args w, (callFunc 77 args).run Try.prog w = .ok (.enter 77 args) w := enters_of Try.func77 (by kernel_rfl) rfl
    have hcon := AnyQ.slices_SortFunc_total Try.sortFr 2 Try.isAgg149 Try.sizeOf149 Fr.c c_len c_one cfF swoF 77 #[] g 0 c L.toArray w eg (fun m os dk _ x y => forder_lays x y _) hH hgB.2 (by simp; omega) (fun x y h1 h2 => by
      rw [ltOf_cfF] at h1 h2
      exact Fr.le_antisymm (of_decide_eq_false h2) (of_decide_eq_false h1))
    change Calls Try.prog 114 _ _ _ at hcon
    rw [List.size_toArray] at hcon
    refine hcon.mono ?_
    rintro e w' ⟨he, n, os, hw⟩
    refine ⟨he, ?_, ?_⟩
    · rw [hw]
      have h3 : HoldsK Fr.c 2 (putRowK Fr.c 2 (Sort.ahead w n) g 0 (ordF L).toArray) g 0 (ordF L).toArray := holdsK_putRowK Fr.c 2 (Sort.ahead w n) g 0 L.toArray _ hH (by simp [(ordF_perm L).length_eq])
      refine frames_held (holds_grow id _ os g 0 _ ?_ h3)
      rw [size_putRowK]; exact hgB.2
    · rw [hw]; exact below_sortK (Below.refl _ _) hgB.1 hB
set_option maxHeartbeats 1600000 in
set_option maxRecDepth 100000 in
theorem sorted_any {w : World} {B bs c : Nat} {a : Option Addr} {L : List Fr} (hq : VS B bs a c L w) (hm : L.length ≤ 100000) :
    Calls Try.prog 82 #[.func (.func 115) #[] #[.pointer (some ⟨bs, 0, none⟩)], .func (.func 77) #[] #[]] w fun e w' => ∃ a' c', e = .returned (.slice a' L.length c') ∧ RFr w' a' (ordF L) ∧ Below w.heap.size w w' := by
  have H := Lib.hid (collect_any hq hm)
  clear hq
  go_enter Try.func82, Try.ntmps82
  go_wp2_with fail
  refine H.out.mono ?_
  rintro e w1 ⟨v, rfl, hr, hb⟩
  obtain ⟨av, cv, rfl⟩ := own_sl hr
  have HS := Lib.hid (sort_any hr hb.size hm)
  have HB := Lib.hid hb
  clear hr hb H
  go_wp2_with fail
  refine HS.out.mono ?_
  rintro e w2 ⟨rfl, hr2, hb2⟩
  have HF := Lib.hid (And.intro hr2 (HB.out.trans hb2))
  clear hr2 hb2 HB HS
  go_wp2_with fail
  go_ret
  exact ⟨_, _, rfl, HF.out⟩
end Go.Proofs.Ytfojhmobnedekaa

/- The walks of the past's Frames, of SameInts. Conditions: what the past holds reads as one; slices are short. -/
namespace Go.Proofs.Ytfojhmobnedekaa
open Go.RowKit

/-- The cells of numbers. -/
def zis (l : List Int) : List Value := l.map (Value.int .i64)
theorem zis_len (l : List Int) : (zis l).length = l.length := by simp [zis]
theorem zis_one (l : List Int) : ∀ u ∈ zis l, u.oneCell' = true := fun u hu => by
  obtain ⟨x, _, rfl⟩ := List.mem_map.1 hu; rfl
theorem zis_take (l : List Int) (k : Nat) (h : k < l.length) : zis (l.take k) ++ [.int .i64 (l.getD k 0)] = zis (l.take (k + 1)) := by
  unfold zis
  rw [List.take_add_one, List.getElem?_eq_getElem h, List.map_append, List.getD_eq_getElem?_getD, List.getElem?_eq_getElem h]
  rfl
/-- Numbers, read. -/
def RZ (w : World) (a : Option Addr) (l : List Int) : Prop := ∀ i, i < l.length → ∃ g, a = some ⟨g, 0, none⟩ ∧ w.cell? ⟨g, i, none⟩ = some (.int .i64 (l.getD i 0))
theorem RZ.below {w w' : World} {a : Option Addr} {l : List Int} (h : RZ w a l) (hB : Below w.heap.size w w') : RZ w' a l := fun i hi => by
  obtain ⟨g, e, hc⟩ := h i hi
  exact ⟨g, e, (hB.cell (block_lt_of_cell hc)).trans hc⟩
theorem RFr.below {w w' : World} {a : Option Addr} {l : List Fr} (h : RFr w a l) (hB : Below w.heap.size w w') : RFr w' a l := fun i hi => by
  obtain ⟨g, e, h0, h1⟩ := h i hi
  exact ⟨g, e, (hB.cell (block_lt_of_cell h0)).trans h0, (hB.cell (block_lt_of_cell h1)).trans h1⟩
theorem own_rz {w : World} {B c : Nat} {a : Option Addr} {l : List Int} (h : w.ownsRow B 3 1 (.slice a l.length c) l.length (zis l)) : RZ w a l := fun i hi => by
  rcases h.2 with ⟨_, h0⟩ | ⟨g, cap, cur, e, _⟩
  · omega
  · have hc := h.cells (g := g) (by rw [e]; rfl) i (.int .i64 (l.getD i 0)) (by simp [zis, List.getD_eq_getElem?_getD, List.getElem?_eq_getElem hi])
    injection e with e1 _ _
    rw [Addr.add_lit, Nat.zero_add] at hc
    exact ⟨g, e1, hc⟩
theorem info3 : (Try.prog.info? 3).map (fun i => (i.zero, i.size, i.bytes)) = some (some (.int .i64 0), 1, 8) := by kernel_rfl
set_option maxHeartbeats 3200000 in
set_option maxRecDepth 100000 in
theorem pframes_any {w : World} {B W mb kp f : Nat} {l : List Fr} {h : Int} {v : Value} (p : PB B W mb l kp h f v w) :
    Calls Try.prog 50 #[.pointer (some ⟨W, 0, none⟩)] w fun e w' => ∃ a c, e = .returned (.slice a l.length c) ∧ w'.ownsRow w.heap.size 3 1 (.slice a l.length c) l.length (zis ((ordF l).map Fr.n)) ∧ Below w.heap.size w w' := by
  obtain ⟨a0, c0, rfl⟩ := p.hp.slice
  have HM := Lib.hid (pmade_any p.hp.box)
  have hc0 : w.cell? ⟨W, 0, none⟩ = some (.slice a0 l.length c0) := (cell_of_block p.hp.box).trans rfl
  have hl : l.length ≤ 1024 := by have := p.len; have := p.top; omega
  have hb1 : Below w.heap.size w (w.alloc (.cells #[.slice a0 l.length c0] 152)) := (Below.refl _ _).alloc (Nat.le_refl _) _
  have HV1 : Hid (VS B w.heap.size a0 c0 l (w.alloc (.cells #[.slice a0 l.length c0] 152)) ∧ Below w.heap.size w (w.alloc (.cells #[.slice a0 l.length c0] 152))) :=
    ⟨⟨(cell_of_block (heap_alloc_new w _)).trans rfl, (p.hp.below hb1).row⟩, hb1⟩
  clear p hb1
  obtain ⟨N, hN⟩ : ∃ N, N = l.length := ⟨_, rfl⟩
  obtain ⟨ns, hns⟩ : ∃ ns, ns = (ordF l).map Fr.n := ⟨_, rfl⟩
  have HNS : Hid (ns = (ordF l).map Fr.n ∧ ns.length = N ∧ (ordF l).length = N) := ⟨hns, by rw [hns, List.length_map, (ordF_perm l).length_eq, hN], by rw [(ordF_perm l).length_eq, hN]⟩
  rw [← hns]
  rw [← hN] at hc0 hl HV1 ⊢
  have HNl := Lib.hid hN
  clear hns hN
  go_enter Try.func50, Try.ntmps50
  go_wp2_with fail
  refine HM.out.mono ?_
  rintro e w0 ⟨rfl, rfl⟩
  go_wp2_with fail
  refine (values_any _ _ _ _).mono ?_
  rintro e w1 ⟨rfl, rfl⟩
  generalize w.alloc (.cells #[.slice a0 N c0] 152) = w1 at *
  have HS := Lib.hid (sorted_any HV1.out.1 (by rw [← HNl.out]; omega))
  go_wp2_with fail
  refine HS.out.mono ?_
  rintro e w2 ⟨a9, c9, rfl, hrs, hb2⟩
  rw [← HNl.out]
  have HR2 := Lib.hid (And.intro hrs (HV1.out.2.trans (hb2.mono HV1.out.2.size)))
  clear hrs hb2 HS HM hc0 HV1
  go_wp2_with fail
  go_loopw [2, 16] (fun s i wr => ∃ k : Nat, ∃ ao co, k ≤ N ∧ i = .int .i64 k ∧ s = .slice ao k co ∧ Hid (wr.ownsRow w2.heap.size 3 1 (.slice ao k co) k (zis (ns.take k)) ∧ Below w2.heap.size w2 wr)) (fun _ i _ => N - (intOf i).toNat)
  case atStart => exact ⟨0, none, 0, Nat.zero_le _, rfl, rfl, ⟨World.ownsRow_nil _ _ _ _, Below.refl _ _⟩⟩
  case round =>
    obtain ⟨k, ao, co, hk, rfl, rfl, HI⟩ := hrel
    by_cases hkn : k < N
    · have d1 : decide ((k : Int) < (N : Int)) = true := decide_eq_true (by omega)
      obtain ⟨g, hg, x0, x1⟩ := (HR2.out.1.below HI.out.2) k (by rw [HNS.out.2.2]; exact hkn)
      subst hg
      obtain ⟨yd, hyd⟩ : ∃ yd, yd = (hv (ordF l) k).d := ⟨_, rfl⟩
      obtain ⟨yn, hyn⟩ : ∃ yn, yn = (hv (ordF l) k).n := ⟨_, rfl⟩
      rw [← hyd] at x0
      rw [← hyn] at x1
      have HT : Hid (zis (ns.take k) ++ [.int .i64 yn] = zis (ns.take (k + 1))) := by
        have e : yn = ns.getD k 0 := by
          rw [hyn, HNS.out.1, List.getD_eq_getElem?_getD, List.getElem?_map, List.getElem?_eq_getElem (by rw [HNS.out.2.2]; exact hkn), hv_get (by rw [HNS.out.2.2]; exact hkn)]
          rfl
        rw [e]
        exact zis_take ns k (by rw [HNS.out.2.1]; exact hkn)
      clear hyd hyn
      have hb5 : Below wr.heap.size wr (wr.alloc (.cells #[.int .i64 yd, .int .i64 yn] 149)) := (Below.refl _ _).alloc (Nat.le_refl _) _
      have hx5 := heap_alloc_new wr (.cells #[.int .i64 yd, .int .i64 yn] 149)
      have hz5 : (wr.alloc (.cells #[.int .i64 yd, .int .i64 yn] 149)).heap.size = wr.heap.size + 1 := World.size_alloc _ _
      have b1 : (wr.alloc (.cells #[.int .i64 yd, .int .i64 yn] 149)).cell? ⟨wr.heap.size, 1, none⟩ = some (.int .i64 yn) := (cell_of_block (j := 1) hx5).trans rfl
      have HROW := Lib.hid (own_frame3 HI.out.1 fun g _ hg => hb5.block g hg)
      have HB5 := Lib.hid (HI.out.2.trans (hb5.mono HI.out.2.size))
      have HZ5 := Lib.hid hz5
      clear hb5 hx5 hz5
      go_upto_region 6 with fail
      generalize wr.alloc (.cells #[.int .i64 yd, .int .i64 yn] 149) = w5 at *
      obtain ⟨i3, hi, hz0, hz1, hz2⟩ := info_parts info3
      have hB6 : Below w5.heap.size w5 (w5.alloc (.cells [.int .i64 yn].toArray 3)) := (Below.refl _ _).alloc (Nat.le_refl _) _
      have HROW6 := Lib.hid (own_frame3 HROW.out fun g _ hg => hB6.block g hg)
      have HB6 := Lib.hid (HB5.out.trans (hB6.mono HB5.out.size))
      have HC6 := Lib.hid (cells_at_block (World.alloc_heap_new w5 (.cells [.int .i64 yn].toArray 3)))
      have hle : w2.heap.size ≤ (w5.alloc (.cells [.int .i64 yn].toArray 3)).heap.size := HB6.out.size
      clear hB6
      go_wp2_with (at_builtin; refine wpList_append_own2 _ rfl (.tmp 20) (.tmp 23) 52 rfl w2.heap.size 3 i3 _ 8 Try.underlying52 hi hz0 hz1 hz2 rfl (.slice ao k co) k _ rfl HROW6.out ⟨w5.heap.size, 0, none⟩ 1 1 [.int .i64 yn] rfl rfl HC6.out (by simp [Value.oneCell']) (by unfold maxLen; omega) (by omega) hle ?_)
      intro v' w7 ho hg _
      obtain ⟨a7, c7, rfl⟩ := own_sl ho
      have HF : Hid (w7.ownsRow w2.heap.size 3 1 (.slice a7 (k + 1) c7) (k + 1) (zis (ns.take (k + 1))) ∧ Below w2.heap.size w2 w7) := by
        rw [← HT.out]
        exact ⟨ho, HB6.out.grown hg HB6.out.size (fun g e => (own_lt3 HROW6.out e).1)⟩
      clear ho hg HC6 HROW6 HB6 HROW HB5 HI hle hi hz0 hz1 hz2 x0 x1 b1
      go_wp2_with fail
      go_roundw
      case rel => exact ⟨k + 1, a7, c7, hkn, by go_num, rfl, HF⟩
      case measure => simp [intOf]; omega
    · have d1 : decide ((k : Int) < (N : Int)) = false := decide_eq_false (by omega)
      obtain rfl : k = N := by omega
      have HF : Hid (wr.ownsRow w.heap.size 3 1 (.slice ao k co) k (zis ns) ∧ Below w.heap.size w wr) := by
        have h1 := HI.out.1
        rw [List.take_of_length_le (by rw [HNS.out.2.1]; exact Nat.le_refl _)] at h1
        exact ⟨own_mono3 h1 HR2.out.2.size, HR2.out.2.trans (HI.out.2.mono HR2.out.2.size)⟩
      go_wp2_with fail
      go_ret
      exact ⟨_, _, rfl, HF.out⟩
set_option maxHeartbeats 3200000 in
set_option maxRecDepth 100000 in
theorem sameints_any {w : World} {a b : Option Addr} {n m c d : Nat} {l k : List Int} (h1 : RZ w a l) (hn : l.length = n) (h2 : RZ w b k) (hm : k.length = m) (hs : n ≤ 1000000) (hs2 : m ≤ 1000000) :
    Calls Try.prog 51 #[.slice a n c, .slice b m d] w fun e w' => e = .returned (.bool (decide (l = k))) ∧ Below w.heap.size w w' := by
  by_cases hnm : n = m
  · subst hnm
    have d0 : ((n : Int) == (n : Int)) = true := by simp
    have d0' : decide ((n : Int) = (n : Int)) = true := by simp
    have HN := Lib.hid (And.intro hn hm)
    clear hn hm
    go_enter Try.func51, Try.ntmps51
    go_wp2_with fail
    go_loopw [5] (fun i wr => ∃ j : Nat, j ≤ n ∧ i = .int .i64 j ∧ Hid ((∀ q, q < j → l.getD q 0 = k.getD q 0) ∧ Below w.heap.size w wr)) (fun i _ => n - (intOf i).toNat)
    case atStart => exact ⟨0, Nat.zero_le _, rfl, ⟨fun q hq => by omega, Below.refl _ _⟩⟩
    case round =>
      obtain ⟨j, hj, rfl, HI⟩ := hrel
      by_cases hjn : j < n
      · have d1 : decide ((j : Int) < (n : Int)) = true := decide_eq_true (by omega)
        obtain ⟨g, rfl, x0⟩ := (h1.below HI.out.2) j (by rw [HN.out.1]; exact hjn)
        obtain ⟨g2, rfl, y0⟩ := (h2.below HI.out.2) j (by rw [HN.out.2]; exact hjn)
        obtain ⟨x, hx⟩ : ∃ x, x = l.getD j 0 := ⟨_, rfl⟩
        obtain ⟨y, hy⟩ : ∃ y, y = k.getD j 0 := ⟨_, rfl⟩
        rw [← hx] at x0
        rw [← hy] at y0
        have HXY := Lib.hid (And.intro hx hy)
        clear hx hy
        have L0 := fun z : Lies wr => lies_cell x0 z
        have L1 := fun z : Lies wr => lies_cell y0 z
        by_cases hxy : x = y
        · have d2 : (x == y) = true := by simp [hxy]
          have d2' : decide (x = y) = true := by simp [hxy]
          have d3 : (x != y) = false := by simp [hxy]
          have HE : Hid (∀ q, q < j + 1 → l.getD q 0 = k.getD q 0) := fun q hq => by
            by_cases e : q = j
            · rw [e, ← HXY.out.1, ← HXY.out.2, hxy]
            · exact HI.out.1 q (by omega)
          clear hxy x0 y0
          go_upto_region 6 with fail
          refine region_lies (by rfl) (by decide +kernel) ?_
          repeat (go_big_quiet_step (fail))
          refine wpQuiet_nil ?_
          intro _ hw'
          obtain ⟨z, rfl⟩ := hw'
          have HZ := Lib.hid (HI.out.2.trans ((show Below wr.heap.size wr z.1 from z.2).mono HI.out.2.size))
          clear L0 L1
          generalize z.1 = wz at *
          clear z
          go_wp2_with fail
          go_roundw
          case rel => exact ⟨j + 1, hjn, by go_num, ⟨HE.out, HZ.out⟩⟩
          case measure => simp [intOf]; omega
        · have d2 : (x == y) = false := by simp [hxy]
          have d2' : decide (x = y) = false := by simp [hxy]
          have d3 : (x != y) = true := by simp [hxy]
          have HE : Hid (decide (l = k) = false) := decide_eq_false fun e => hxy (by rw [HXY.out.1, HXY.out.2, e])
          clear hxy x0 y0
          go_upto_region 6 with fail
          refine region_lies (by rfl) (by decide +kernel) ?_
          repeat (go_big_quiet_step (fail))
          refine wpQuiet_nil ?_
          intro _ hw'
          obtain ⟨z, rfl⟩ := hw'
          have HZ := Lib.hid (HI.out.2.trans ((show Below wr.heap.size wr z.1 from z.2).mono HI.out.2.size))
          clear L0 L1
          generalize z.1 = wz at *
          clear z
          go_wp2_with fail
          go_ret
          exact ⟨by rw [HE.out]; rfl, HZ.out⟩
      · have d1 : decide ((j : Int) < (n : Int)) = false := decide_eq_false (by omega)
        have HE : Hid (decide (l = k) = true) := decide_eq_true (by
          refine List.ext_getElem (by rw [HN.out.1, HN.out.2]) fun q hq1 hq2 => ?_
          have := HI.out.1 q (by rw [HN.out.1] at hq1; omega)
          simpa [List.getD_eq_getElem?_getD, List.getElem?_eq_getElem hq1, List.getElem?_eq_getElem hq2] using this)
        go_wp2_with fail
        go_ret
        exact ⟨by rw [HE.out]; rfl, HI.out.2⟩
  · have d0 : ((n : Int) == (m : Int)) = false := by simp; omega
    have d0' : decide ((n : Int) = (m : Int)) = false := by simp; omega
    have d3 : ((n : Int) != (m : Int)) = true := by simp; omega
    have HE : Hid (decide (l = k) = false) := decide_eq_false fun e => hnm (by rw [← hn, ← hm, e])
    clear h1 h2 hn hm
    go_enter Try.func51, Try.ntmps51
    go_wp2_with fail
    go_ret
    exact ⟨by rw [HE.out]; rfl, Below.refl _ _⟩
end Go.Proofs.Ytfojhmobnedekaa
