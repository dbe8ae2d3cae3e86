/- The walk of the wire's Due. Conditions: what lies in the queue is in order, and short. -/
import Derived.Maps.AppendAt
import Derived.Test.YtfojhmobnedekaaWire9
namespace Go.Proofs.Ytfojhmobnedekaa
open Go.RowKit

attribute [local go_sem] Oper.semAt_some

theorem info70 : (Try.prog.info? 70).map (fun i => (i.zero, i.size, i.bytes)) = some (some (.agg #[.int .i64 0, .slice none 0 0]), 2, 32) := by kernel_rfl
/-- The cells of mails. -/
def mcs (l : List Wl) : List Value := l.flatMap fun x => [.int .i64 x.t, .slice x.a x.n x.c]
theorem mcs_snoc (l : List Wl) (x : Wl) : mcs (l ++ [x]) = mcs l ++ [.int .i64 x.t, .slice x.a x.n x.c] := by simp [mcs]
theorem mcs_len : ∀ l : List Wl, (mcs l).length = l.length * 2
  | [] => rfl
  | x :: l => by
    show ([_, _] ++ mcs l).length = _
    rw [List.length_append, mcs_len l]; simp; omega
/-- Between the rounds. -/
structure DueI (w0 : World) (n0 bo W : Nat) (v : Value) (pre : List Wl) (A : World) : Prop where
  out : ∃ vm, Boxed A bo 65 vm ∧ A.ownsRow n0 70 2 vm pre.length (mcs pre) ∧ True
  keep : Keep W v w0 A
  low : n0 ≤ A.heap.size
theorem DueI.own {w0 : World} {n0 bo W : Nat} {v : Value} (hn : w0.heap.size ≤ n0) : OwnFrom n0 (DueI w0 n0 bo W v) := fun s A B row h hg hr =>
  ⟨(holdsRow_own n0 bo 65 70 2 (fun s : List Wl => s.length) mcs (fun _ _ => True)).from n0 s A B row h.out hg hr, ⟨hg.os.trans h.keep.os, hg.tape.trans h.keep.tape, hg.output.trans h.keep.output, Nat.le_trans h.keep.size hg.size, fun g hl h1 h2 => (hg.block g (Nat.lt_of_lt_of_le hl h.keep.size) (fun e => by have := (hr g e.symm).1; omega)).trans (h.keep.block g hl h1 h2)⟩, Nat.le_trans h.low hg.size⟩
theorem own_fr {w w' : World} {B n size : Nat} {e : TypeId} {v : Value} {xs : List Value} (h : w.ownsRow B e size v n xs) (hk : ∀ g, v.ownBlock = some g → B ≤ g → g < w.heap.size → w'.heap[g]? = w.heap[g]?) : w'.ownsRow B e size v n xs := own_frame3 h fun g e hg => hk g e (own_lt3 h e).1 hg
theorem DueI.sq {w0 A C : World} {n0 bo W n c : Nat} {a : Option Addr} {pre : List Wl} (h : DueI w0 n0 bo W (.slice a n c) pre A) (hW : W < bo) (hb : bo < n0) (ha : ∀ g, oB a = some g → g < bo) (k : Sq W a A C) : DueI w0 n0 bo W (.slice a n c) pre C := by
  have hbl : ∀ g, bo ≤ g → g < A.heap.size → C.heap[g]? = A.heap[g]? := fun g h1 h2 => k.1.block g h2 (by omega) (fun e => by rw [own_oB] at e; have := ha g e; omega)
  obtain ⟨vm, h1, h2, _⟩ := h.out
  refine ⟨⟨vm, (hbl bo (Nat.le_refl _) h1.lt).trans h1, own_fr h2 fun g _ hg hl => hbl g (by omega) hl, trivial⟩, h.keep.trans (Nxt.refl _ _) ⟨k.1.os, k.1.tape, k.1.output, k.1.size, fun g h1 h2 h3 => k.1.block g h1 h2 (by rw [own_oB] at h3 ⊢; exact h3)⟩, Nat.le_trans h.low k.1.size⟩
theorem DueI.step {w0 A w1 : World} {n0 bo W n c : Nat} {a : Option Addr} {pre : List Wl} {x : Wl} {vm vm' : Value} {tmp : Obj} (h : Keep W (.slice a n c) w0 A) (hlow : n0 ≤ A.heap.size) (hb : bo < n0) (hw : w0.heap.size ≤ bo) (hx : Boxed A bo 65 vm) (hr : A.ownsRow n0 70 2 vm pre.length (mcs pre))
    (ho : w1.ownsRow n0 70 2 vm' (pre.length + 1) (mcs pre ++ [.int .i64 x.t, .slice x.a x.n x.c])) (hg : (A.alloc tmp).grownBy w1 vm.ownBlock) :
    Boxed w1 bo 65 vm ∧ KeepsOthers A (w1.setCell ⟨bo, 0, none⟩ vm') ∧ (A.heap.size ≤ (w1.setCell ⟨bo, 0, none⟩ vm').heap.size ∧ ∀ g, g < n0 → g ≠ bo → g < A.heap.size → (w1.setCell ⟨bo, 0, none⟩ vm').heap[g]? = A.heap[g]?) ∧ DueI w0 n0 bo W (.slice a n c) (pre ++ [x]) (w1.setCell ⟨bo, 0, none⟩ vm') := by
  obtain ⟨k1, k2, k3, k4, _⟩ := hx.appended (n₀ := 0) (by decide) (own_mono3 hr (Nat.zero_le _)) (Nat.zero_le _) (Nat.zero_le _) (own_mono3 ho (Nat.zero_le _)) hg
  have hbl : ∀ g, g < n0 → g ≠ bo → g < A.heap.size → (w1.setCell ⟨bo, 0, none⟩ vm').heap[g]? = A.heap[g]? := fun g h1 h2 h3 => (Below.heap_setCell w1 ⟨bo, 0, none⟩ vm' g h2).trans ((hg.block g (by simp; omega) (fun e => by have := (own_lt3 hr e.symm).1; omega)).trans (Below.heap_alloc A tmp g h3))
  have hsz : A.heap.size ≤ (w1.setCell ⟨bo, 0, none⟩ vm').heap.size := by have := hg.size; simp [World.setCell] at this ⊢; omega
  have hbo : vm'.ownBlock ≠ some bo := fun e => by have := (own_lt3 ho e).1; omega
  refine ⟨k1, k4, ⟨hsz, hbl⟩, ⟨vm', k2, ?_, trivial⟩, ⟨hg.os.trans h.os, hg.tape.trans h.tape, hg.output.trans h.output, Nat.le_trans h.size hsz, fun g h1 h2 h3 => ?_⟩, Nat.le_trans hlow hsz⟩
  · rw [mcs_snoc, List.length_append]
    exact own_frame3 ho fun g e _ => Below.heap_setCell w1 ⟨bo, 0, none⟩ vm' g (fun e2 => hbo (by rw [e]; exact congrArg some e2))
  · have := h.size
    exact (hbl g (by omega) (by omega) (by omega)).trans (h.block g h1 h2 h3)
theorem kq_of {W bq bi bn n0 : Nat} {a : Option Addr} (h : ∀ g, (g = W ∨ g = bq ∨ g = bi ∨ g = bn ∨ oB a = some g) → g < n0) {A B : World} {row : Option Nat} (hg : A.grownBy B row) (hr : ∀ r, row = some r → n0 ≤ r) : Kq W bq bi bn a A B :=
  ⟨hg.size, fun g h1 h2 => hg.block g h2 (fun e => by have := hr g e.symm; have := h g h1; omega)⟩
theorem kq_trans {W bq bi bn : Nat} {a : Option Addr} {A B C : World} (h : Kq W bq bi bn a A B) (k : Kq W bq bi bn a B C) : Kq W bq bi bn a A C :=
  ⟨Nat.le_trans h.1 k.1, fun g h1 h2 => (k.2 g h1 (Nat.lt_of_lt_of_le h2 h.1)).trans (h.2 g h1 h2)⟩
/-- A round's own variable. -/
def DueAx (n0 bn bo W bq bi : Nat) (now : Int) (x : Wl) (a' : Act) (A : World) : Prop := ∃ Bx, n0 ≤ Bx ∧ A.heap[Bx]? = some (.cells #[.int .i64 x.d, .int .i64 x.q, .slice x.a x.n x.c, .int .i64 x.t] 139 (0, 0)) ∧
  a' = { tmps := #[.pointer (some ⟨W, 0, none⟩), .int .i64 now, undef, .pointer (some ⟨bn, 0, none⟩), .pointer (some ⟨bo, 0, none⟩), .pointer (some ⟨Bx, 0, none⟩), .pointer (some ⟨W, 0, none⟩), .bool true, .bool false, .pointer (some ⟨W, 0, none⟩), .pointer (some ⟨W, 0, none⟩), .pointer (some ⟨W, 0, none⟩), .func (.func 74) #[] #[.pointer (some ⟨bn, 0, none⟩)], .func (.func 110) #[] #[.pointer (some ⟨bq, 0, none⟩), .pointer (some ⟨bi, 0, none⟩)], .agg #[.int .i64 x.d, .int .i64 x.q, .slice x.a x.n x.c, .int .i64 x.t], undef, undef, undef, undef, undef, undef, undef, undef, undef, undef], defers := [] }
theorem DueAx.own (n0 bn bo W bq bi : Nat) (now : Int) (x : Wl) (a' : Act) : OwnFrom n0 (fun (_ : Unit) A => DueAx n0 bn bo W bq bi now x a' A) := fun _ A B row h hg hr => by
  obtain ⟨Bx, h1, h2, h3⟩ := h
  refine ⟨Bx, h1, (hg.block Bx (lt_of_block h2) (fun e => ?_)).trans h2, h3⟩
  obtain ⟨_, o, ho, hc⟩ := hr Bx e.symm
  rw [h2] at ho; injection ho with ho; subst ho; cases hc
theorem boxes4 (w : World) (o1 o2 o3 o4 : Obj) : Below w.heap.size w ((((w.alloc o1).alloc o2).alloc o3).alloc o4) ∧ ((((w.alloc o1).alloc o2).alloc o3).alloc o4).heap.size = w.heap.size + 4 ∧ ((((w.alloc o1).alloc o2).alloc o3).alloc o4).heap[w.heap.size]? = some o1 ∧ ((((w.alloc o1).alloc o2).alloc o3).alloc o4).heap[w.heap.size + 1]? = some o2 ∧ ((((w.alloc o1).alloc o2).alloc o3).alloc o4).heap[w.heap.size + 2]? = some o3 ∧ ((((w.alloc o1).alloc o2).alloc o3).alloc o4).heap[w.heap.size + 3]? = some o4 := by
  have h2 := World.alloc_heap_new (w.alloc o1) o2
  have h3 := World.alloc_heap_new ((w.alloc o1).alloc o2) o3
  have h4 := World.alloc_heap_new (((w.alloc o1).alloc o2).alloc o3) o4
  simp only [World.size_alloc] at h2 h3 h4
  have k2 := fun (o : Obj) g (h : g < w.heap.size + 1) => Below.heap_alloc (w.alloc o1) o g (by simp only [World.size_alloc]; omega)
  have k3 := fun (o : Obj) g (h : g < w.heap.size + 1 + 1) => Below.heap_alloc ((w.alloc o1).alloc o2) o g (by simp only [World.size_alloc]; omega)
  have k4 := fun (o : Obj) g (h : g < w.heap.size + 1 + 1 + 1) => Below.heap_alloc (((w.alloc o1).alloc o2).alloc o3) o g (by simp only [World.size_alloc]; omega)
  exact ⟨((((Below.refl _ _).alloc (Nat.le_refl _) _).alloc (by rw [World.size_alloc]; omega) _).alloc (by simp only [World.size_alloc]; omega) _).alloc (by simp only [World.size_alloc]; omega) _, by simp only [World.size_alloc],
    (k4 o4 _ (by omega)).trans ((k3 o3 _ (by omega)).trans ((k2 o2 _ (by omega)).trans (World.alloc_heap_new w o1))), (k4 o4 _ (by omega)).trans ((k3 o3 _ (by omega)).trans h2), (k4 o4 _ (by omega)).trans h3, h4⟩
/-- What Due hands on. -/
def DueTo (B W : Nat) (now : Int) (a : Option Addr) (c : Nat) (ms : List Wz) (ld dr : Int) (w w' : World) (v : Value) : Prop :=
  w'.ownsRow w.heap.size 70 2 v (takeDue now (ms.map Wz.w)).length (mcs (takeDue now (ms.map Wz.w))) ∧ WQ B W (ms.drop (takeDue now (ms.map Wz.w)).length) ld dr (.slice a (ms.drop (takeDue now (ms.map Wz.w)).length).length c) w' ∧ Keep W (.slice a ms.length c) w w' ∧ Made B (ms.map Wz.r) w'
/-- What is left is in order still, each in a row of its own. -/
theorem WQ.dropped {B W c : Nat} {a : Option Addr} {ms : List Wz} {ld dr : Int} {w A w' : World} {bq bi bn : Nat} {now : Int} (k : Nat) (h : WQ B W ms ld dr (.slice a ms.length c) w) (hq : QS B W ld dr bq bi bn now a c ((ms.map Wz.w).drop k) A) (hk : ∀ g, (g = W ∨ oB a = some g) → g < A.heap.size → w'.heap[g]? = A.heap[g]?) (hm : Made B (ms.map Wz.r) w') : WQ B W (ms.drop k) ld dr (.slice a (ms.drop k).length c) w' := by
  have e : (ms.map Wz.w).drop k = (ms.drop k).map Wz.w := List.map_drop.symm
  rw [e] at hq
  have h1 := hq.wire
  have h2 := hq.row
  rw [List.length_map] at h1 h2
  refine ⟨(hk W (.inl rfl) (lt_of_block h1)).trans h1, own_frame3 h2 fun g e hg => hk g (.inr (by rw [own_oB] at e; exact e)) hg, ?_, ?_⟩
  · rw [← e]; exact h.srt.sublist (List.drop_sublist _ _)
  · rw [List.map_drop]
    exact ⟨fun r hr => hm.own r (List.mem_of_mem_drop hr), hm.unl.sublist (List.drop_sublist _ _)⟩

set_option maxHeartbeats 4000000 in
set_option maxRecDepth 100000 in
theorem due_in (nn : Nat) (hnn : 5 ≤ nn) {w : World} {B W c : Nat} {a : Option Addr} {ms : List Wz} {ld dr now : Int} (hq : WQ B W ms ld dr (.slice a ms.length c) w) (hm : ms.length ≤ 10000) :
    CallsIn Fence.wide nn Try.prog 38 #[.pointer (some ⟨W, 0, none⟩), .int .i64 now] w fun e w' => ∃ v, e = .returned v ∧ DueTo B W now a c ms ld dr w w' v := by
  have hb0 : Below w.heap.size w ((w.alloc (.cells #[.int .i64 now] 3)).alloc (.cells #[.slice none 0 0] 65)) := ((Below.refl _ _).alloc (Nat.le_refl _) _).alloc (by simp) _
  have hM := Lib.hid (made_any ((hb0.block W (lt_of_block hq.wire)).trans hq.wire))
  have HQ := Lib.hid hq
  have HB0 := Lib.hid hb0
  clear hq hb0
  refine callsIn_of_wp_marks Try.func38 rfl trivial ?_ rfl
  simp only [Try.ntmps38, List.size_toArray, List.length_cons, List.length_nil, Nat.reduceAdd, Nat.reduceSub, Array.replicate_succ, Array.replicate_zero, List.push_toArray, List.append_toArray, List.nil_append, List.cons_append]
  refine wpIn_wide.2 ?_
  go_wp2_with fail
  refine hM.out.mono ?_
  rintro e w1 ⟨rfl, rfl⟩
  go_wp2_with fail
  refine (upTo_any _ _ _).mono ?_
  rintro e w1 ⟨rfl, rfl⟩
  obtain ⟨hB1, hz, hbn, hbo, hbq, hbi⟩ := boxes4 w (.cells #[.int .i64 now] 3) (.cells #[.slice none 0 0] 65) (.cells #[.pointer (some ⟨W, 0, none⟩)] 181) (.cells #[.func (.func 74) #[] #[.pointer (some ⟨w.heap.size, 0, none⟩)]] 143)
  clear hM HB0
  go_wp2_with fail
  generalize ((((w.alloc (.cells #[.int .i64 now] 3)).alloc (.cells #[.slice none 0 0] 65)).alloc (.cells #[.pointer (some ⟨W, 0, none⟩)] 181)).alloc (.cells #[.func (.func 74) #[] #[.pointer (some ⟨w.heap.size, 0, none⟩)]] 143)) = w4 at *
  have hWl : W < w.heap.size := lt_of_block HQ.out.wire
  have hal : ∀ g, oB a = some g → g < w.heap.size := fun g e => (own_lt3 HQ.out.row (by rw [own_oB]; exact e)).2
  have hl : (ms.map Wz.w).length = ms.length := List.length_map ..
  have hQ4 : QS B W ld dr (w.heap.size + 2) (w.heap.size + 3) w.heap.size now a c (ms.map Wz.w) w4 := by
    have h4 := HQ.out.below hB1
    refine ⟨by rw [hl]; exact h4.wire, by rw [hl]; exact h4.row, (cell_of_block hbq).trans rfl, (cell_of_block hbi).trans rfl, (cell_of_block hbn).trans rfl, by omega, by omega, by omega, fun e => ?_, fun e => ?_, fun e => ?_⟩ <;> (have := hal _ e; omega)
  have hlist : ∀ g, (g = W ∨ g = w.heap.size + 2 ∨ g = w.heap.size + 3 ∨ g = w.heap.size ∨ oB a = some g) → g < w4.heap.size := fun g h => by
    rcases h with h | h | h | h | h
    all_goals first | omega | (have := hal g h; omega)
  have HI0 : DueI w w4.heap.size (w.heap.size + 1) W (.slice a ms.length c) [] w4 := ⟨⟨_, hbo, World.ownsRow_nil _ _ _ _, trivial⟩, Keep.of_below hB1, Nat.le_refl _⟩
  refine (wpIn_wide (n := nn)).1 ?_
  refine wpIn_rangeCells rfl (by omega) (gf := 110) (lb := #[.pointer (some ⟨w.heap.size + 2, 0, none⟩), .pointer (some ⟨w.heap.size + 3, 0, none⟩)]) rfl trivial (enters_of Try.func110 (by kernel_rfl) rfl)
    (encs := fun x : Wl => #[x.v]) (Kp := Kq W (w.heap.size + 2) (w.heap.size + 3) w.heap.size a) (St := Sq W a) (S := fun xs A => xs = takeDue now (ms.map Wz.w) ∧ QS B W ld dr (w.heap.size + 2) (w.heap.size + 3) w.heap.size now a c ((ms.map Wz.w).drop xs.length) A) (N := (ms.map Wz.w).length)
    (fun W1 hB l J hJ hY h0 => upto_in (nn - 1) (by omega) l B W ld dr _ _ _ now a c (ms.map Wz.w) J hJ hY W1 (hQ4.below hB) h0)
    (fun A C h k o hk ho => h.kept k o hk ho) kq_trans (fun A l o o' h1 h2 h3 => kq_of hlist (grownBy_putObj' A l o') (fun r e => by injection e with e; omega)) (fun _ => rfl)
    (fun s A C row h hg hr => ⟨h.1, h.2.kq (kq_of hlist hg fun r e => (hr r e).1)⟩)
    (DueI w w4.heap.size (w.heap.size + 1) W (.slice a ms.length c)) (DueI.own (by omega))
    (fun s A C h k => h.sq (by omega) (by omega) (fun g e => by have := hal g e; omega) k) HI0
    (DueAx w4.heap.size w.heap.size (w.heap.size + 1) W (w.heap.size + 2) (w.heap.size + 3) now) (DueAx.own _ _ _ _ _ _ _) ?assign ?body ?done
  case assign =>
    intro l pre x A K hI hK
    unfold Wl.v landV
    gi_wp2
    exact hK _ _ ((KeepsOthers.alloc _ _).from _) ⟨by rw [World.size_alloc]; omega, fun g _ h => Below.heap_alloc A _ g h⟩ ((DueI.own (by omega)).alloc _ hI) ⟨A.heap.size, hI.low, World.alloc_heap_new A _, rfl⟩
  case body =>
    rintro l pre x a' A hl0 hI ⟨Bx, hBx, hb, rfl⟩ hlen
    obtain ⟨vm, hx, hr, _⟩ := hI.out
    have x2 : A.cell? ⟨Bx, 2, none⟩ = some (.slice x.a x.n x.c) := (cell_of_block hb).trans rfl
    have x3 : A.cell? ⟨Bx, 3, none⟩ = some (.int .i64 x.t) := (cell_of_block hb).trans rfl
    have hxc := hx.cell
    obtain ⟨i70, hi, hz0, hz1, hz2⟩ := info_parts info70
    have hpl : pre.length < 10000 := by omega
    have hlow := hI.low
    have hkp := hI.keep
    obtain ⟨n0, hn0⟩ : ∃ n0, n0 = w4.heap.size := ⟨_, rfl⟩
    rw [← hn0] at hr hlow
    have hb0n : w.heap.size + 1 < n0 := by omega
    have hcn := cells_at_block (World.alloc_heap_new A (.cells [.int .i64 x.t, .slice x.a x.n x.c].toArray 70))
    have HCN := Lib.hid hcn
    clear hcn
    gi_wp2_with (gi_at_builtin; refine wpListIn_append_own _ rfl (.tmp 15) (.tmp 22) 65 rfl n0 70 i70 _ 2 32 Try.underlying65 hi hz0 hz1 hz2 rfl (by decide) vm pre.length (mcs pre) rfl (hr.alloc _) ⟨A.heap.size, 0, none⟩ 1 1 [.int .i64 x.t, .slice x.a x.n x.c] rfl rfl HCN.out (by simp [Value.oneCell']) (by unfold maxLen; omega) (by omega) (by simp only [World.size_alloc]; omega) ?_)
    intro vm' w1 ho hg _
    obtain ⟨g', cap', rfl⟩ := ownsRow_succ ho
    obtain ⟨k1, k2, k3, k4⟩ := DueI.step (x := x) hkp (n0 := w.heap.size + 4) (by omega) (by omega) (by omega) hx (by rw [← hz, ← hn0]; exact hr) ho hg
    have hc1 := k1.cell
    have hf1 := k1.frozen
    have HK := Lib.hid (And.intro k2 (And.intro k3 k4))
    clear k1 k2 k3 k4 ho hg HCN
    gi_wp2
    refine ⟨HK.out.1.from _, ⟨HK.out.2.1.1, fun g hg hl => HK.out.2.1.2 g ?_ ?_ hl⟩, HK.out.2.2⟩
    · have := hlist g hg; omega
    · rcases hg with hg | hg | hg | hg | hg
      all_goals first | omega | (have := hal g hg; omega)
  case done =>
    rintro D xs A hD ⟨rfl, hQ⟩ hI hK
    obtain ⟨vm, hx, hr, _⟩ := hI.out
    have hxc := hx.cell
    have hxf := hx.frozen
    obtain ⟨am, cm, rfl⟩ : ∃ am cm, vm = .slice am (takeDue now (ms.map Wz.w)).length cm := by
      rcases hr.2 with ⟨rfl, h0⟩ | ⟨g, cap, cur, rfl, _⟩
      · exact ⟨none, 0, by rw [h0]⟩
      · exact ⟨_, _, rfl⟩
    have HR := Lib.hid hr
    have HX := Lib.hid hx
    have HQ5 := Lib.hid hQ
    have HK := Lib.hid hK
    have HI := Lib.hid hI
    clear hQ4 HI0 hr hx hQ hI
    gi_wp2
    go_wp2_with fail
    have hK' := (KeepsOthers.setCell A ⟨w.heap.size + 1, 0, none⟩ (.slice am (takeDue now (ms.map Wz.w)).length cm)).same D _ HK.out rfl
    have hDn : w.heap.size + 4 ≤ D := by omega
    have hk : ∀ g, g < A.heap.size → g ≠ w.heap.size + 1 → g ≠ D → ((A.setCell ⟨w.heap.size + 1, 0, none⟩ (.slice am (takeDue now (ms.map Wz.w)).length cm)).putObj D (.deferred none)).heap[g]? = A.heap[g]? := fun g _ h1 h2 => (World.putObj_heap_other h2).trans (Below.heap_setCell A ⟨w.heap.size + 1, 0, none⟩ _ g h1)
    have hbox : ((A.setCell ⟨w.heap.size + 1, 0, none⟩ (.slice am (takeDue now (ms.map Wz.w)).length cm)).putObj D (.deferred none)).cell? ⟨w.heap.size + 1, 0, none⟩ = some (.slice am (takeDue now (ms.map Wz.w)).length cm) := by
      refine (World.cell?_of_block (w := A.setCell ⟨w.heap.size + 1, 0, none⟩ (.slice am (takeDue now (ms.map Wz.w)).length cm)) (World.putObj_heap_other (by show w.heap.size + 1 ≠ D; omega))).trans ?_
      exact World.cell?_setCell_same' _ _ _ (by rw [hxc]; rfl)
    refine ⟨by simp, .inl ⟨_, _, rfl, run_takeDeferred hK', ?_⟩⟩
    refine ⟨.slice am (takeDue now (ms.map Wz.w)).length cm, ?_, ?_⟩
    · simp [results, Try.f38, go_sem, hbox]
    · have hns : ∀ g, (Value.slice am (takeDue now (ms.map Wz.w)).length cm).ownBlock = some g → g ≠ w.heap.size + 1 ∧ g ≠ D := fun g hg => ⟨fun e => HX.out.not_row (by decide) HR.out (by rw [← e]; exact hg.symm), fun e => by
        subst e
        rcases HR.out.2 with ⟨e, _⟩ | ⟨g', cap, cur, e, _, hh, _⟩
        · injection e with e1 _ _; subst e1; cases hg
        · injection e with e1 _ _; subst e1
          have e : g' = g := by injection hg
          subst e
          rw [HK.out] at hh; cases hh⟩
      have hKp := HI.out.keep
      have hKw : Keep W (.slice a ms.length c) w ((A.setCell ⟨w.heap.size + 1, 0, none⟩ (.slice am (takeDue now (ms.map Wz.w)).length cm)).putObj D (.deferred none)) := by
        refine ⟨hKp.os, hKp.tape, hKp.output, ?_, fun g h1 h2 h3 => (hk g (Nat.lt_of_lt_of_le h1 hKp.size) (by omega) (by omega)).trans (hKp.block g h1 h2 h3)⟩
        have := hKp.size
        simpa [World.setCell] using this
      have hMd : Made B (ms.map Wz.r) ((A.setCell ⟨w.heap.size + 1, 0, none⟩ (.slice am (takeDue now (ms.map Wz.w)).length cm)).putObj D (.deferred none)) := HQ.out.made.frame fun r hr g e hg => hKw.block g hg (fun e2 => own5_ne (HQ.out.made.own r hr) HQ.out.wire (by decide) (by rw [e, e2])) (fun e2 => unl_types3 (by decide) (HQ.out.made.own r hr) HQ.out.row g e e2)
      refine ⟨_, rfl, ?_, ?_, hKw, hMd⟩
      · exact own_mono3 (own_frame3 HR.out fun g hg hl => hk g hl (hns g hg).1 (hns g hg).2) (by omega)
      · refine HQ.out.dropped _ HQ5.out (fun g hg hl => hk g hl ?_ ?_) hMd
        · rcases hg with hg | hg
          · omega
          · have := hal g hg; omega
        · rcases hg with hg | hg
          · omega
          · have := hal g hg; omega
theorem due_any {w : World} {B W c : Nat} {a : Option Addr} {ms : List Wz} {ld dr : Int} (now : Int) (hq : WQ B W ms ld dr (.slice a ms.length c) w) (hm : ms.length ≤ 10000) :
    Calls Try.prog 38 #[.pointer (some ⟨W, 0, none⟩), .int .i64 now] w fun e w' => ∃ v, e = .returned v ∧ DueTo B W now a c ms ld dr w w' v :=
  callsIn_wide.1 (due_in 5 (Nat.le_refl _) hq hm)
end Go.Proofs.Ytfojhmobnedekaa
