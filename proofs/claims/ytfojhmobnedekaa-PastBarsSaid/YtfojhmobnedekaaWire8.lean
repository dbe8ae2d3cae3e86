/- The walk of the wire's Send. Conditions: what lies in the queue is in order, and short. -/
import Derived.Test.YtfojhmobnedekaaWire7
namespace Go.Proofs.Ytfojhmobnedekaa
open Go.RowKit

/-- A wire: its cells, its queue in order, the bytes of what is under way, each in a row of its own. -/
structure WQ (B W : Nat) (ms : List Wz) (ld dr : Int) (v : Value) (w : World) : Prop where
  wire : w.heap[W]? = some (.cells (wireC v ld dr) 91 (0, 0))
  row : w.ownsRow B 139 4 v ms.length (wcs (ms.map Wz.w))
  srt : Srt (ms.map Wz.w)
  made : Made B (ms.map Wz.r) w
theorem Made.frame {B : Nat} {rs : List R1} {w w' : World} (h : Made B rs w) (hk : ∀ r ∈ rs, ∀ g, r.v.ownBlock = some g → g < w.heap.size → w'.heap[g]? = w.heap[g]?) : Made B rs w' :=
  ⟨fun r hr => own_frame (h.own r hr) (hk r hr), h.unl⟩
theorem Made.perm {B : Nat} {rs ss : List R1} {w : World} (h : Made B rs w) (hp : ss.Perm rs) : Made B ss w :=
  ⟨fun r hr => h.own r (hp.mem_iff.1 hr), (hp.pairwise_iff (fun {_ _} h => h.symm)).2 h.unl⟩
theorem WQ.frame {B W : Nat} {ms : List Wz} {ld dr : Int} {v : Value} {w w' : World} (h : WQ B W ms ld dr v w) (hk : ∀ g, (g = W ∨ v.ownBlock = some g ∨ ∃ x ∈ ms, x.r.v.ownBlock = some g) → g < w.heap.size → w'.heap[g]? = w.heap[g]?) : WQ B W ms ld dr v w' where
  wire := (hk W (.inl rfl) (lt_of_block h.wire)).trans h.wire
  row := own_frame3 h.row fun g e hg => hk g (.inr (.inl e)) hg
  srt := h.srt
  made := h.made.frame fun r hr g e hg => by
    obtain ⟨x, hx, rfl⟩ := List.mem_map.1 hr
    exact hk g (.inr (.inr ⟨x, hx, e⟩)) hg
theorem WQ.below {B W : Nat} {ms : List Wz} {ld dr : Int} {v : Value} {w w' : World} (h : WQ B W ms ld dr v w) (hB : Below w.heap.size w w') : WQ B W ms ld dr v w' := h.frame fun g _ hg => hB.block g hg
/-- One put after the other. -/
def insAll (t : Int) (ls : List Ld) (ms : List Wz) : List Wz := ls.foldl (fun s x => insM ⟨x.due, x.place, t, x.r⟩ s) ms
theorem insAll_perm (t : Int) : ∀ (ls : List Ld) (ms : List Wz), (insAll t ls ms).Perm (ls.map (fun x => ⟨x.due, x.place, t, x.r⟩) ++ ms)
  | [], _ => List.Perm.refl _
  | x :: ls, ms => by
    refine (insAll_perm t ls (insM ⟨x.due, x.place, t, x.r⟩ ms)).trans ?_
    refine ((insM_perm _ ms).append_left _).trans ?_
    exact List.perm_middle
theorem insAll_snoc (t : Int) (ls : List Ld) (x : Ld) (ms : List Wz) : insAll t (ls ++ [x]) ms = insM ⟨x.due, x.place, t, x.r⟩ (insAll t ls ms) := by simp [insAll]
theorem insM_len (x : Wz) (l : List Wz) : (insM x l).length = l.length + 1 := by simpa using (insM_perm x l).length_eq
theorem insAll_len (t : Int) (ls : List Ld) (ms : List Wz) : (insAll t ls ms).length = ms.length + ls.length := by
  have := (insAll_perm t ls ms).length_eq
  simp at this; omega
/-- What Send hands on. -/
def SendTo (B W : Nat) (ms : List Wz) (ld dr t : Int) (v : Value) (n : Nat) (L : List (Int × Int × List Nat)) (w w' : World) : Prop :=
  ∃ v' ls, ls.map Ld.tell = L ∧ (∀ x ∈ ls, x.r.n = n) ∧ Made w.heap.size (ls.map Ld.r) w' ∧ WQ B W (insAll t ls ms) (ld + (ls.length : Nat)) (if ls.length = 0 then dr + 1 else dr) v' w' ∧ Keep W v w w' ∧ Nxt w v v'
theorem own5_ne {w : World} {B n g : Nat} {v : Value} {xs : List Value} {cs : Array Value} {t : TypeId} (ho : w.ownsRow B 5 1 v n xs) (hw : w.heap[g]? = some (.cells cs t (0, 0))) (ht : t ≠ 5) : v.ownBlock ≠ some g := by
  intro e
  rcases ho.2 with ⟨rfl, _⟩ | ⟨g', cap, cur, rfl, _, hg, _⟩
  · cases e
  · have e : g' = g := by injection e
    subst e
    rw [hw] at hg
    injection hg with e2
    injection e2 with _ e3
    exact ht e3
theorem Made.mono {B B' : Nat} {rs : List R1} {w : World} (h : Made B rs w) (hb : B' ≤ B) : Made B' rs w := ⟨fun r hr => own_mono (h.own r hr) hb, h.unl⟩
/-- The rounds of Send's loop. -/
structure SendR (B W : Nat) (ms : List Wz) (ld dr t : Int) (v : Value) (va : Option Addr) (vc : Nat) (ls : List Ld) (w0 : World) (j : Nat) (v' : Value) (w : World) : Prop where
  wire : w.heap[W]? = some (.cells (wireC v' ld dr) 91 (0, 0))
  row : w.ownsRow B 139 4 v' (ms.length + j) (wcs ((insAll t (ls.take j) ms).map Wz.w))
  srt : Srt ((insAll t (ls.take j) ms).map Wz.w)
  list : w.ownsRow w0.heap.size 39 3 (.slice va ls.length vc) ls.length (ls.flatMap Ld.cells)
  new : Made w0.heap.size (ls.map Ld.r) w
  old : Made B (ms.map Wz.r) w
  keep : Keep W v w0 w
  nxt : Nxt w0 v v'
theorem own4_unl3 {w : World} {B B' n n' : Nat} {v v' : Value} {xs xs' : List Value} (h : w.ownsRow B 39 3 v n xs) (h' : w.ownsRow B' 139 4 v' n' xs') : Unl v v' := by
  intro g e1 e2
  rcases h.2 with ⟨rfl, _⟩ | ⟨g1, cap, cur, rfl, hb, hh, _⟩
  · cases e1
  · exact own4_ne h' (show w.heap[g]? = some (.cells cur 39 (0, 0)) from by injection e1 with e1; subst e1; exact hh) (by decide) e2
theorem own3_ne {w : World} {B n g : Nat} {v : Value} {xs : List Value} {cs : Array Value} {t : TypeId} (ho : w.ownsRow B 39 3 v n xs) (hw : w.heap[g]? = some (.cells cs t (0, 0))) (ht : t ≠ 39) : v.ownBlock ≠ some g := by
  intro e
  rcases ho.2 with ⟨rfl, _⟩ | ⟨g', cap, cur, rfl, _, hg, _⟩
  · cases e
  · have e : g' = g := by injection e
    subst e
    rw [hw] at hg
    injection hg with e2
    injection e2 with _ e3
    exact ht e3
theorem SendR.next {B W : Nat} {ms : List Wz} {ld dr t : Int} {v v' v'' : Value} {va : Option Addr} {vc j : Nat} {ls : List Ld} {w0 w w' : World} (h : SendR B W ms ld dr t v va vc ls w0 j v' w) {x : Ld} (hj : ls[j]? = some x)
    (hw : w'.heap[W]? = some (.cells (wireC v'' ld dr) 91 (0, 0))) (ho : w'.ownsRow B 139 4 v'' (ms.length + j + 1) (wcs (insW ⟨x.due, x.place, x.r.a, x.r.n, x.r.c, t⟩ ((insAll t (ls.take j) ms).map Wz.w)))) (hk : Keep W v' w w') (hn : Nxt w v' v'') : SendR B W ms ld dr t v va vc ls w0 (j + 1) v'' w' := by
  have e : insAll t (ls.take (j + 1)) ms = insM ⟨x.due, x.place, t, x.r⟩ (insAll t (ls.take j) ms) := by
    rw [List.take_add_one, hj]
    exact insAll_snoc _ _ _ _
  have e2 : (insAll t (ls.take (j + 1)) ms).map Wz.w = insW ⟨x.due, x.place, x.r.a, x.r.n, x.r.c, t⟩ ((insAll t (ls.take j) ms).map Wz.w) := by rw [e, insM_w]; rfl
  have hne5 : ∀ {B' n : Nat} {u : Value} {xs : List Value}, w.ownsRow B' 5 1 u n xs → ∀ g, u.ownBlock = some g → g < w.heap.size → w'.heap[g]? = w.heap[g]? := fun hu g e hg => hk.block g hg (fun e2 => own5_ne hu h.wire (by decide) (by rw [e, e2])) (fun e2 => unl_types3 (by decide) hu h.row g e e2)
  exact ⟨hw, by rw [e2]; exact ho, by rw [e2]; exact srt_insW h.srt, own_frame3 h.list fun g e hg => hk.block g hg (fun e2 => own3_ne h.list h.wire (by decide) (by rw [e, e2])) (fun e2 => own4_unl3 h.list h.row g e e2),
    h.new.frame fun r hr => hne5 (h.new.own r hr), h.old.frame fun r hr => hne5 (h.old.own r hr), h.keep.trans h.nxt hk, h.nxt.trans h.keep.size hn⟩
theorem info39s : (Try.prog.info? 39).map (fun i => i.size) = some 3 := by kernel_rfl
theorem own3_slice {w : World} {B n : Nat} {v : Value} {xs : List Value} (h : w.ownsRow B 39 3 v n xs) : ∃ a c, v = .slice a n c := by
  rcases h.2 with ⟨rfl, rfl⟩ | ⟨g, cap, cur, rfl, _⟩
  · exact ⟨_, _, rfl⟩
  · exact ⟨_, _, rfl⟩
theorem SendR.cells {B W : Nat} {ms : List Wz} {ld dr t : Int} {v v' : Value} {va : Option Addr} {vc j : Nat} {ls : List Ld} {w0 w : World} (h : SendR B W ms ld dr t v va vc ls w0 j v' w) {i : Nat} {x : Ld} (hi : ls[i]? = some x) :
    ∃ g, va = some ⟨g, 0, none⟩ ∧ w.cell? ⟨g, i * 3, none⟩ = some (.int .i64 x.due) ∧ w.cell? ⟨g, i * 3 + 1, none⟩ = some (.int .i64 x.place) ∧ w.cell? ⟨g, i * 3 + 2, none⟩ = some (.slice x.r.a x.r.n x.r.c) := by
  obtain ⟨hil, rfl⟩ := List.getElem?_eq_some_iff.1 hi
  rcases h.list.2 with ⟨_, h0⟩ | ⟨g, cap, cur, e, _⟩
  · omega
  · injection e with e1 _ _
    subst e1
    have hc := fun q (hq : q < 3) u (hu : (ls[i]).cells[q]? = some u) => h.list.cells (g := g) rfl (i * 3 + q) u ((cells_at ls i q hil hq).trans hu)
    have e0 := hc 0 (by omega) _ rfl
    have e1 := hc 1 (by omega) _ rfl
    have e2 := hc 2 (by omega) _ rfl
    rw [Addr.add_lit] at e0 e1 e2
    exact ⟨g, rfl, by simpa using e0, by simpa using e1, by simpa [R1.v] using e2⟩
/-- Behind the rounds. -/
structure SendDone (B W : Nat) (ms : List Wz) (ld dr t : Int) (v : Value) (n : Nat) (L : List (Int × Int × List Nat)) (ls : List Ld) (w0 : World) (v' : Value) (w : World) : Prop where
  tell : ls.map Ld.tell = L
  len : ∀ x ∈ ls, x.r.n = n
  new : Made w0.heap.size (ls.map Ld.r) w
  wq : WQ B W (insAll t ls ms) ld dr v' w
  keep : Keep W v w0 w
  nxt : Nxt w0 v v'
theorem SendR.fin {B W n : Nat} {ms : List Wz} {ld dr t : Int} {v v' : Value} {va : Option Addr} {vc : Nat} {ls : List Ld} {L : List (Int × Int × List Nat)} {w0 w : World} (h : SendR B W ms ld dr t v va vc ls w0 ls.length v' w) (h0 : WQ B W ms ld dr v w0) (hB : B ≤ w0.heap.size) (h1 : ls.map Ld.tell = L) (h2 : ∀ x ∈ ls, x.r.n = n) : SendDone B W ms ld dr t v n L ls w0 v' w := by
  have hr := h.row
  have hs := h.srt
  rw [List.take_of_length_le (Nat.le_refl _)] at hr hs
  refine ⟨h1, h2, h.new, ⟨h.wire, by rw [insAll_len]; exact hr, hs, ?_⟩, h.keep, h.nxt⟩
  have hp := (insAll_perm t ls ms).map Wz.r
  refine Made.perm (rs := ls.map Ld.r ++ ms.map Wz.r) ⟨fun r hr => ?_, ?_⟩ (by simpa [List.map_append, List.map_map, Function.comp_def] using hp)
  · rcases List.mem_append.1 hr with hr | hr
    · exact own_mono (h.new.own r hr) hB
    · exact h.old.own r hr
  · refine List.pairwise_append.2 ⟨h.new.unl, h.old.unl, fun r hr s hs g e1 e2 => ?_⟩
    have := (own_lt (h.new.own r hr) e1).1
    have := (own_lt (h0.made.own s hs) e2).2
    omega
/-- A cell of the wire's own is written. -/
theorem WQ.set {B W i : Nat} {ms : List Wz} {ld dr ld' dr' : Int} {v u : Value} {w : World} (h : WQ B W ms ld dr v w) (e : (wireC v ld dr).setIfInBounds i u = wireC v ld' dr') : WQ B W ms ld' dr' v (w.setCell ⟨W, i, none⟩ u) :=
  have hk : ∀ g, g ≠ W → (w.setCell ⟨W, i, none⟩ u).heap[g]? = w.heap[g]? := fun g hg => Below.heap_setCell w ⟨W, i, none⟩ u g hg
  ⟨by rw [← e]; exact setCell_of_block u h.wire, own_frame3 h.row fun g e _ => hk g (fun e2 => own4_ne h.row h.wire (by decide) (by rw [e, e2])), h.srt, h.made.frame fun r hr g e _ => hk g (fun e2 => own5_ne (h.made.own r hr) h.wire (by decide) (by rw [e, e2]))⟩
theorem SendDone.set {B W i n : Nat} {ms : List Wz} {ld dr ld' dr' t : Int} {v v' u : Value} {L : List (Int × Int × List Nat)} {ls : List Ld} {w0 w : World} (h : SendDone B W ms ld dr t v n L ls w0 v' w) (e : (wireC v' ld dr).setIfInBounds i u = wireC v' ld' dr') :
    SendDone B W ms ld' dr' t v n L ls w0 v' (w.setCell ⟨W, i, none⟩ u) :=
  ⟨h.tell, h.len, h.new.frame fun r hr g e _ => Below.heap_setCell w ⟨W, i, none⟩ u g (fun e2 => own5_ne (h.new.own r hr) h.wq.wire (by decide) (by rw [e]; exact congrArg some e2)), h.wq.set e, ⟨h.keep.os, h.keep.tape, h.keep.output, by simpa [World.setCell] using h.keep.size, fun g hg h1 h2 => (Below.heap_setCell w ⟨W, i, none⟩ u g h1).trans (h.keep.block g hg h1 h2)⟩, h.nxt⟩
theorem SendDone.to {B W n : Nat} {ms : List Wz} {ld dr t : Int} {v v' : Value} {L : List (Int × Int × List Nat)} {ls : List Ld} {w0 w : World} (h : SendDone B W ms ld (dr + 1) t v n L ls w0 v' w) (hz : ls.length = 0) : SendTo B W ms ld dr t v n L w0 w :=
  ⟨v', ls, h.tell, h.len, h.new, by rw [if_pos hz, hz]; simpa using h.wq, h.keep, h.nxt⟩
theorem SendDone.to2 {B W n : Nat} {ms : List Wz} {ld dr t : Int} {v v' : Value} {L : List (Int × Int × List Nat)} {ls : List Ld} {w0 w : World} (h : SendDone B W ms (ld + (ls.length : Nat)) dr t v n L ls w0 v' w) (hz : ¬ ls.length = 0) : SendTo B W ms ld dr t v n L w0 w :=
  ⟨v', ls, h.tell, h.len, h.new, by rw [if_neg hz]; exact h.wq, h.keep, h.nxt⟩

set_option maxHeartbeats 1600000 in
set_option maxRecDepth 100000 in
theorem send_ok1 {w : World} {W B n c : Nat} {a : Option Addr} {l : List Nat} {k b al pl now ld dr : Int} {v : Value} {ms : List Wz} (hq : WQ B W ms ld dr v w) (hr : RB w a n c l) (hf : RightF k b al pl) (hn : 0 ≤ now ∧ now ≤ 2147483647) (hm : ms.length ≤ 10000) (hB : B ≤ w.heap.size) (hld : 0 ≤ ld ∧ ld ≤ 1000000) (hdr : 0 ≤ dr ∧ dr ≤ 1000000) :
    Calls Try.prog 35 #[.pointer (some ⟨W, 0, none⟩), .int .i64 1, .agg #[.int .i64 k, .int .i64 b, .int .i64 al, .int .i64 pl], .slice a n c, .int .i64 now] w fun e w' => e = .returned (.int .i64 0) ∧ SendTo B W ms ld dr 1 v n (landsOf k b al pl now l) w w' := by
  have hb0 : Below w.heap.size w (w.alloc (.cells #[.int .i64 k, .int .i64 b, .int .i64 al, .int .i64 pl] 24)) := (Below.refl _ _).alloc (Nat.le_refl _) _
  have hM := Lib.hid (made_any ((hb0.block W (lt_of_block hq.wire)).trans hq.wire))
  have hL := Lib.hid (lands_ok (hr.below hb0) hf hn)
  have HQ := Lib.hid hq
  have HB0 := Lib.hid hb0
  have HF := Lib.hid hf
  have c0 := (cell_of_block (j := 0) (heap_alloc_new w (.cells #[.int .i64 k, .int .i64 b, .int .i64 al, .int .i64 pl] 24))).trans rfl
  clear hq hr hf hb0 hn
  go_enter Try.func35, Try.ntmps35
  go_wp2_with fail
  refine hM.out.mono ?_
  rintro e w1 ⟨rfl, rfl⟩
  go_wp2_with fail
  refine hL.out.mono ?_
  rintro e w2 ⟨vl, rfl, ⟨ls, htl, hln, hol, hml⟩, hB2⟩
  have hls : ls.length ≤ 2 := by rw [← List.length_map (f := Ld.tell), htl]; exact landsOf_len _ _ _ _ _ _
  have hB3 : Below w.heap.size w w2 := HB0.out.trans (hB2.mono (by simp))
  obtain ⟨va, vc, rfl⟩ := own3_slice hol
  have hstart : SendR B W ms ld dr 1 v va vc ls w 0 v w2 := by
    have hq2 := HQ.out.below hB3
    exact ⟨hq2.wire, hq2.row, hq2.srt, own_mono3 hol (by simp), hml.mono (by simp), hq2.made, Keep.of_below hB3, Nxt.refl _ _⟩
  have HST := Lib.hid hstart
  have HTL := Lib.hid (And.intro htl hln)
  have hsz : w.heap.size ≤ w2.heap.size := hB3.size
  clear hstart htl hln hol hml hB2 hB3 hM hL c0
  go_wp2_with fail
  go_loopw [14, 38] (fun _ i wr => ∃ j : Nat, ∃ v', j ≤ ls.length ∧ i = .int .i64 j ∧ Hid (SendR B W ms ld dr 1 v va vc ls w j v' wr)) (fun _ i _ => ls.length - (intOf i).toNat)
  case atStart => exact ⟨0, v, Nat.zero_le _, rfl, HST⟩
  case round =>
    obtain ⟨j, v', hj, rfl, HR⟩ := hrel
    by_cases hlt : j < ls.length
    · obtain ⟨x, hx⟩ : ∃ x, ls[j]? = some x := ⟨_, List.getElem?_eq_getElem hlt⟩
      have HX := Lib.hid hx
      obtain ⟨g, rfl, e0, e1, e2⟩ := HR.out.cells hx
      have hnv : (wr.alloc (.cells #[.int .i64 x.due, .int .i64 x.place, .slice x.r.a x.r.n x.r.c] 39)).heap[wr.heap.size]? = some (.cells #[.int .i64 x.due, .int .i64 x.place, .slice x.r.a x.r.n x.r.c] 39 (0, 0)) := heap_alloc_new _ _
      have hB5 : Below wr.heap.size wr (wr.alloc (.cells #[.int .i64 x.due, .int .i64 x.place, .slice x.r.a x.r.n x.r.c] 39)) := (Below.refl _ _).alloc (Nat.le_refl _) _
      obtain ⟨a', c', rfl⟩ := own4_slice HR.out.row
      go_wp2_with fail
      generalize wr.alloc (.cells #[.int .i64 x.due, .int .i64 x.place, .slice x.r.a x.r.n x.r.c] 39) = W5 at *
      have HNV := Lib.hid (show ∀ w', (∃ q, w' = W5.drewN q) → w'.heap[wr.heap.size]? = some (.cells #[.int .i64 x.due, .int .i64 x.place, .slice x.r.a x.r.n x.r.c] 39 (0, 0)) from fun w' ⟨q, e⟩ => by rw [e]; simpa using hnv)
      have hput := fun q => (show Below wr.heap.size wr (W5.drewN q) from below_drewN hB5 q)
      have HPUT := Lib.hid fun q => qput_any (x := ⟨x.due, x.place, x.r.a, x.r.n, x.r.c, 1⟩) (((hput q).block W (lt_of_block HR.out.wire)).trans HR.out.wire) (own_frame3 HR.out.row fun g _ hg => (hput q).block g hg) HR.out.srt (by omega) (by have := HR.out.keep.size; have := (hput q).size; omega)
      have HB5 := Lib.hid hput
      clear hnv hB5 hput e0 e1 e2 hx
      refine region_quiet_tail 6 (by rfl) (by decide +kernel) ?_
      simp only [List.take_succ_cons, List.take_zero, List.drop_succ_cons, List.drop_zero]
      repeat (first | ((refine quiet_load_row (some 45) rfl rfl 39 (.tmp 14) rfl wr.heap.size rfl 39 #[.int .i64 x.due, .int .i64 x.place, .slice x.r.a x.r.n x.r.c] (0, 0) _ HNV.out Try.underlying39 rfl info39s ?_); simp only [Act.put, List.setIfInBounds_toArray, List.set_cons_succ, List.set_cons_zero]) | go_big_quiet_step (fail))
      refine wpQuiet_nil ?_
      intro _ hw'
      obtain ⟨nq, rfl⟩ := hw'
      go_wp2_with fail
      refine (HPUT.out nq).mono ?_
      rintro e w6 ⟨rfl, v6, hw6, ho6, hk6, hn6⟩
      have hnx : SendR B W ms ld dr 1 v (some ⟨g, 0, none⟩) vc ls w (j + 1) v6 w6 := HR.out.next HX.out hw6 ho6 (Keep.after_below (HB5.out nq) hk6) (fun g e => by
        rcases hn6 g e with e | e
        · exact .inl e
        · exact .inr (Nat.le_trans (HB5.out nq).size e))
      have HNX := Lib.hid hnx
      clear hw6 ho6 hk6 hn6 hnx HPUT HNV HB5
      go_wp2_with fail
      go_roundw
      case rel => exact ⟨j + 1, v6, by omega, by go_num, HNX⟩
      case measure => simp [intOf]; omega
    · obtain rfl : j = ls.length := by omega
      have hc2 : wr.cell? ⟨W, 2, none⟩ = some (.int .i64 ld) := (cell_of_block HR.out.wire).trans rfl
      have hc3 : wr.cell? ⟨W, 3, none⟩ = some (.int .i64 dr) := (cell_of_block HR.out.wire).trans rfl
      have hf2 : wr.frozen? ⟨W, 2, none⟩ = false := frozen_of_block HR.out.wire
      have hf3 : wr.frozen? ⟨W, 3, none⟩ = false := frozen_of_block HR.out.wire
      have hD : SendDone B W ms ld dr 1 v n (landsOf k b al pl now l) ls w v' wr := HR.out.fin HQ.out hB HTL.out.1 HTL.out.2
      have HD := Lib.hid hD
      clear HR hD
      by_cases hz : ls.length = 0
      · have hz1 : ((ls.length : Int) == 0) = true := by simp; exact List.eq_nil_of_length_eq_zero hz
        have hz2 : (wr.setCell ⟨W, 2, none⟩ (.int .i64 (ld + (ls.length : Nat)))).cell? ⟨W, 3, none⟩ = some (.int .i64 dr) := by rw [World.cell?_setCell_other _ _ _ _ (by simp)]; exact hc3
        have hz3 : (wr.setCell ⟨W, 2, none⟩ (.int .i64 (ld + (ls.length : Nat)))).frozen? ⟨W, 3, none⟩ = false := by rw [World.frozen?_setCell]; exact hf3
        have hz4 := ((HD.out.set (i := 2) (u := .int .i64 ld) (ld' := ld) (dr' := dr) rfl).set (i := 3) (u := .int .i64 (dr + 1)) (ld' := ld) (dr' := dr + 1) rfl).to hz
        have HZ := Lib.hid hz4
        clear hz4
        go_wp2_with fail
        go_ret
        exact ⟨rfl, HZ.out⟩
      · have hz1 : ((ls.length : Int) == 0) = false := by simp; exact fun e => hz (by rw [e]; rfl)
        have hz4 := (HD.out.set (i := 2) (u := .int .i64 (ld + (ls.length : Nat))) (ld' := ld + (ls.length : Nat)) (dr' := dr) rfl).to2
        have HZ := Lib.hid hz4
        clear hz4
        go_wp2_with fail
        go_ret
        exact ⟨rfl, HZ.out hz⟩

set_option maxHeartbeats 1600000 in
set_option maxRecDepth 100000 in
theorem send_ok2 {w : World} {W B n c : Nat} {a : Option Addr} {l : List Nat} {k b al pl now ld dr : Int} {v : Value} {ms : List Wz} (hq : WQ B W ms ld dr v w) (hr : RB w a n c l) (hf : RightF k b al pl) (hn : 0 ≤ now ∧ now ≤ 2147483647) (hm : ms.length ≤ 10000) (hB : B ≤ w.heap.size) (hld : 0 ≤ ld ∧ ld ≤ 1000000) (hdr : 0 ≤ dr ∧ dr ≤ 1000000) :
    Calls Try.prog 35 #[.pointer (some ⟨W, 0, none⟩), .int .i64 2, .agg #[.int .i64 k, .int .i64 b, .int .i64 al, .int .i64 pl], .slice a n c, .int .i64 now] w fun e w' => e = .returned (.int .i64 0) ∧ SendTo B W ms ld dr 2 v n (landsOf k b al pl now l) w w' := by
  have hb0 : Below w.heap.size w (w.alloc (.cells #[.int .i64 k, .int .i64 b, .int .i64 al, .int .i64 pl] 24)) := (Below.refl _ _).alloc (Nat.le_refl _) _
  have hM := Lib.hid (made_any ((hb0.block W (lt_of_block hq.wire)).trans hq.wire))
  have hL := Lib.hid (lands_ok (hr.below hb0) hf hn)
  have HQ := Lib.hid hq
  have HB0 := Lib.hid hb0
  have HF := Lib.hid hf
  have c0 := (cell_of_block (j := 0) (heap_alloc_new w (.cells #[.int .i64 k, .int .i64 b, .int .i64 al, .int .i64 pl] 24))).trans rfl
  clear hq hr hf hb0 hn
  go_enter Try.func35, Try.ntmps35
  go_wp2_with fail
  refine hM.out.mono ?_
  rintro e w1 ⟨rfl, rfl⟩
  go_wp2_with fail
  refine hL.out.mono ?_
  rintro e w2 ⟨vl, rfl, ⟨ls, htl, hln, hol, hml⟩, hB2⟩
  have hls : ls.length ≤ 2 := by rw [← List.length_map (f := Ld.tell), htl]; exact landsOf_len _ _ _ _ _ _
  have hB3 : Below w.heap.size w w2 := HB0.out.trans (hB2.mono (by simp))
  obtain ⟨va, vc, rfl⟩ := own3_slice hol
  have hstart : SendR B W ms ld dr 2 v va vc ls w 0 v w2 := by
    have hq2 := HQ.out.below hB3
    exact ⟨hq2.wire, hq2.row, hq2.srt, own_mono3 hol (by simp), hml.mono (by simp), hq2.made, Keep.of_below hB3, Nxt.refl _ _⟩
  have HST := Lib.hid hstart
  have HTL := Lib.hid (And.intro htl hln)
  have hsz : w.heap.size ≤ w2.heap.size := hB3.size
  clear hstart htl hln hol hml hB2 hB3 hM hL c0
  go_wp2_with fail
  go_loopw [14, 38] (fun _ i wr => ∃ j : Nat, ∃ v', j ≤ ls.length ∧ i = .int .i64 j ∧ Hid (SendR B W ms ld dr 2 v va vc ls w j v' wr)) (fun _ i _ => ls.length - (intOf i).toNat)
  case atStart => exact ⟨0, v, Nat.zero_le _, rfl, HST⟩
  case round =>
    obtain ⟨j, v', hj, rfl, HR⟩ := hrel
    by_cases hlt : j < ls.length
    · obtain ⟨x, hx⟩ : ∃ x, ls[j]? = some x := ⟨_, List.getElem?_eq_getElem hlt⟩
      have HX := Lib.hid hx
      obtain ⟨g, rfl, e0, e1, e2⟩ := HR.out.cells hx
      have hnv : (wr.alloc (.cells #[.int .i64 x.due, .int .i64 x.place, .slice x.r.a x.r.n x.r.c] 39)).heap[wr.heap.size]? = some (.cells #[.int .i64 x.due, .int .i64 x.place, .slice x.r.a x.r.n x.r.c] 39 (0, 0)) := heap_alloc_new _ _
      have hB5 : Below wr.heap.size wr (wr.alloc (.cells #[.int .i64 x.due, .int .i64 x.place, .slice x.r.a x.r.n x.r.c] 39)) := (Below.refl _ _).alloc (Nat.le_refl _) _
      obtain ⟨a', c', rfl⟩ := own4_slice HR.out.row
      go_wp2_with fail
      generalize wr.alloc (.cells #[.int .i64 x.due, .int .i64 x.place, .slice x.r.a x.r.n x.r.c] 39) = W5 at *
      have HNV := Lib.hid (show ∀ w', (∃ q, w' = W5.drewN q) → w'.heap[wr.heap.size]? = some (.cells #[.int .i64 x.due, .int .i64 x.place, .slice x.r.a x.r.n x.r.c] 39 (0, 0)) from fun w' ⟨q, e⟩ => by rw [e]; simpa using hnv)
      have hput := fun q => (show Below wr.heap.size wr (W5.drewN q) from below_drewN hB5 q)
      have HPUT := Lib.hid fun q => qput_any (x := ⟨x.due, x.place, x.r.a, x.r.n, x.r.c, 2⟩) (((hput q).block W (lt_of_block HR.out.wire)).trans HR.out.wire) (own_frame3 HR.out.row fun g _ hg => (hput q).block g hg) HR.out.srt (by omega) (by have := HR.out.keep.size; have := (hput q).size; omega)
      have HB5 := Lib.hid hput
      clear hnv hB5 hput e0 e1 e2 hx
      refine region_quiet_tail 6 (by rfl) (by decide +kernel) ?_
      simp only [List.take_succ_cons, List.take_zero, List.drop_succ_cons, List.drop_zero]
      repeat (first | ((refine quiet_load_row (some 45) rfl rfl 39 (.tmp 14) rfl wr.heap.size rfl 39 #[.int .i64 x.due, .int .i64 x.place, .slice x.r.a x.r.n x.r.c] (0, 0) _ HNV.out Try.underlying39 rfl info39s ?_); simp only [Act.put, List.setIfInBounds_toArray, List.set_cons_succ, List.set_cons_zero]) | go_big_quiet_step (fail))
      refine wpQuiet_nil ?_
      intro _ hw'
      obtain ⟨nq, rfl⟩ := hw'
      go_wp2_with fail
      refine (HPUT.out nq).mono ?_
      rintro e w6 ⟨rfl, v6, hw6, ho6, hk6, hn6⟩
      have hnx : SendR B W ms ld dr 2 v (some ⟨g, 0, none⟩) vc ls w (j + 1) v6 w6 := HR.out.next HX.out hw6 ho6 (Keep.after_below (HB5.out nq) hk6) (fun g e => by
        rcases hn6 g e with e | e
        · exact .inl e
        · exact .inr (Nat.le_trans (HB5.out nq).size e))
      have HNX := Lib.hid hnx
      clear hw6 ho6 hk6 hn6 hnx HPUT HNV HB5
      go_wp2_with fail
      go_roundw
      case rel => exact ⟨j + 1, v6, by omega, by go_num, HNX⟩
      case measure => simp [intOf]; omega
    · obtain rfl : j = ls.length := by omega
      have hc2 : wr.cell? ⟨W, 2, none⟩ = some (.int .i64 ld) := (cell_of_block HR.out.wire).trans rfl
      have hc3 : wr.cell? ⟨W, 3, none⟩ = some (.int .i64 dr) := (cell_of_block HR.out.wire).trans rfl
      have hf2 : wr.frozen? ⟨W, 2, none⟩ = false := frozen_of_block HR.out.wire
      have hf3 : wr.frozen? ⟨W, 3, none⟩ = false := frozen_of_block HR.out.wire
      have hD : SendDone B W ms ld dr 2 v n (landsOf k b al pl now l) ls w v' wr := HR.out.fin HQ.out hB HTL.out.1 HTL.out.2
      have HD := Lib.hid hD
      clear HR hD
      by_cases hz : ls.length = 0
      · have hz1 : ((ls.length : Int) == 0) = true := by simp; exact List.eq_nil_of_length_eq_zero hz
        have hz2 : (wr.setCell ⟨W, 2, none⟩ (.int .i64 (ld + (ls.length : Nat)))).cell? ⟨W, 3, none⟩ = some (.int .i64 dr) := by rw [World.cell?_setCell_other _ _ _ _ (by simp)]; exact hc3
        have hz3 : (wr.setCell ⟨W, 2, none⟩ (.int .i64 (ld + (ls.length : Nat)))).frozen? ⟨W, 3, none⟩ = false := by rw [World.frozen?_setCell]; exact hf3
        have hz4 := ((HD.out.set (i := 2) (u := .int .i64 ld) (ld' := ld) (dr' := dr) rfl).set (i := 3) (u := .int .i64 (dr + 1)) (ld' := ld) (dr' := dr + 1) rfl).to hz
        have HZ := Lib.hid hz4
        clear hz4
        go_wp2_with fail
        go_ret
        exact ⟨rfl, HZ.out⟩
      · have hz1 : ((ls.length : Int) == 0) = false := by simp; exact fun e => hz (by rw [e]; rfl)
        have hz4 := (HD.out.set (i := 2) (u := .int .i64 (ld + (ls.length : Nat))) (ld' := ld + (ls.length : Nat)) (dr' := dr) rfl).to2
        have HZ := Lib.hid hz4
        clear hz4
        go_wp2_with fail
        go_ret
        exact ⟨rfl, HZ.out hz⟩

set_option maxHeartbeats 1600000 in
set_option maxRecDepth 100000 in
theorem send_bad1 {w : World} {W n c : Nat} {a : Option Addr} {k b al pl now ld dr : Int} {v : Value} (hw : w.heap[W]? = some (.cells (wireC v ld dr) 91 (0, 0))) (h : ¬ (RightF k b al pl ∧ (0 ≤ now ∧ now ≤ 2147483647))) :
    Calls Try.prog 35 #[.pointer (some ⟨W, 0, none⟩), .int .i64 1, .agg #[.int .i64 k, .int .i64 b, .int .i64 al, .int .i64 pl], .slice a n c, .int .i64 now] w fun e w' => e = .returned (.int .i64 2) ∧ Below w.heap.size w w' := by
  have hb0 : Below w.heap.size w (w.alloc (.cells #[.int .i64 k, .int .i64 b, .int .i64 al, .int .i64 pl] 24)) := (Below.refl _ _).alloc (Nat.le_refl _) _
  have hM := Lib.hid (made_any ((hb0.block W (lt_of_block hw)).trans hw))
  have hL := Lib.hid (lands_bad (w := w.alloc (.cells #[.int .i64 k, .int .i64 b, .int .i64 al, .int .i64 pl] 24)) a n c h)
  have HB0 := Lib.hid hb0
  have c0 := (cell_of_block (j := 0) (heap_alloc_new w (.cells #[.int .i64 k, .int .i64 b, .int .i64 al, .int .i64 pl] 24))).trans rfl
  clear hw h hb0
  go_enter Try.func35, Try.ntmps35
  go_wp2_with fail
  refine hM.out.mono ?_
  rintro e w1 ⟨rfl, rfl⟩
  go_wp2_with fail
  refine hL.out.mono ?_
  rintro e w2 ⟨rfl, hB2⟩
  have HB3 := Lib.hid (HB0.out.trans (hB2.mono (by simp)))
  clear hB2
  go_wp2_with fail
  go_ret
  exact ⟨rfl, HB3.out⟩

set_option maxHeartbeats 1600000 in
set_option maxRecDepth 100000 in
theorem send_bad2 {w : World} {W n c : Nat} {a : Option Addr} {k b al pl now ld dr : Int} {v : Value} (hw : w.heap[W]? = some (.cells (wireC v ld dr) 91 (0, 0))) (h : ¬ (RightF k b al pl ∧ (0 ≤ now ∧ now ≤ 2147483647))) :
    Calls Try.prog 35 #[.pointer (some ⟨W, 0, none⟩), .int .i64 2, .agg #[.int .i64 k, .int .i64 b, .int .i64 al, .int .i64 pl], .slice a n c, .int .i64 now] w fun e w' => e = .returned (.int .i64 2) ∧ Below w.heap.size w w' := by
  have hb0 : Below w.heap.size w (w.alloc (.cells #[.int .i64 k, .int .i64 b, .int .i64 al, .int .i64 pl] 24)) := (Below.refl _ _).alloc (Nat.le_refl _) _
  have hM := Lib.hid (made_any ((hb0.block W (lt_of_block hw)).trans hw))
  have hL := Lib.hid (lands_bad (w := w.alloc (.cells #[.int .i64 k, .int .i64 b, .int .i64 al, .int .i64 pl] 24)) a n c h)
  have HB0 := Lib.hid hb0
  have c0 := (cell_of_block (j := 0) (heap_alloc_new w (.cells #[.int .i64 k, .int .i64 b, .int .i64 al, .int .i64 pl] 24))).trans rfl
  clear hw h hb0
  go_enter Try.func35, Try.ntmps35
  go_wp2_with fail
  refine hM.out.mono ?_
  rintro e w1 ⟨rfl, rfl⟩
  go_wp2_with fail
  refine hL.out.mono ?_
  rintro e w2 ⟨rfl, hB2⟩
  have HB3 := Lib.hid (HB0.out.trans (hB2.mono (by simp)))
  clear hB2
  go_wp2_with fail
  go_ret
  exact ⟨rfl, HB3.out⟩

set_option maxHeartbeats 1600000 in
set_option maxRecDepth 100000 in
theorem send_side {w : World} {W n c : Nat} {a : Option Addr} {k b al pl now ld dr t : Int} {v : Value} (hw : w.heap[W]? = some (.cells (wireC v ld dr) 91 (0, 0))) (h1 : ¬ t = 1) (h2 : ¬ t = 2) :
    Calls Try.prog 35 #[.pointer (some ⟨W, 0, none⟩), .int .i64 t, .agg #[.int .i64 k, .int .i64 b, .int .i64 al, .int .i64 pl], .slice a n c, .int .i64 now] w fun e w' => e = .returned (.int .i64 2) ∧ Below w.heap.size w w' := by
  have hb0 : Below w.heap.size w (w.alloc (.cells #[.int .i64 k, .int .i64 b, .int .i64 al, .int .i64 pl] 24)) := (Below.refl _ _).alloc (Nat.le_refl _) _
  have hM := Lib.hid (made_any ((hb0.block W (lt_of_block hw)).trans hw))
  have HB0 := Lib.hid hb0
  clear hw hb0
  have d1 : (t != 1) = true := by simpa using h1
  have d2 : (t != 2) = true := by simpa using h2
  clear h1 h2
  go_enter Try.func35, Try.ntmps35
  go_wp2_with fail
  refine hM.out.mono ?_
  rintro e w1 ⟨rfl, rfl⟩
  go_wp2_with fail
  go_ret
  exact ⟨rfl, HB0.out⟩
/-- Whether Send takes it. -/
def Goes (t k b al pl now : Int) : Prop := (t = 1 ∨ t = 2) ∧ RightF k b al pl ∧ (0 ≤ now ∧ now ≤ 2147483647)
theorem send_any {w : World} {W B n c : Nat} {a : Option Addr} {l : List Nat} {k b al pl now ld dr t : Int} {v : Value} {ms : List Wz} (hq : WQ B W ms ld dr v w) (hr : RB w a n c l) (hm : ms.length ≤ 10000) (hB : B ≤ w.heap.size) (hld : 0 ≤ ld ∧ ld ≤ 1000000) (hdr : 0 ≤ dr ∧ dr ≤ 1000000) (hg : Goes t k b al pl now) :
    Calls Try.prog 35 #[.pointer (some ⟨W, 0, none⟩), .int .i64 t, .agg #[.int .i64 k, .int .i64 b, .int .i64 al, .int .i64 pl], .slice a n c, .int .i64 now] w fun e w' => e = .returned (.int .i64 0) ∧ SendTo B W ms ld dr t v n (landsOf k b al pl now l) w w' := by
  obtain ⟨rfl | rfl, h2, h3⟩ := hg
  · exact send_ok1 hq hr h2 h3 hm hB hld hdr
  · exact send_ok2 hq hr h2 h3 hm hB hld hdr
theorem send_not {w : World} {W : Nat} (a : Option Addr) (n c : Nat) {k b al pl now ld dr t : Int} {v : Value} (hw : w.heap[W]? = some (.cells (wireC v ld dr) 91 (0, 0))) (h : ¬ Goes t k b al pl now) :
    Calls Try.prog 35 #[.pointer (some ⟨W, 0, none⟩), .int .i64 t, .agg #[.int .i64 k, .int .i64 b, .int .i64 al, .int .i64 pl], .slice a n c, .int .i64 now] w fun e w' => e = .returned (.int .i64 2) ∧ Below w.heap.size w w' := by
  by_cases h1 : t = 1
  · subst h1; exact send_bad1 hw fun h2 => h ⟨.inl rfl, h2⟩
  · by_cases h2 : t = 2
    · subst h2; exact send_bad2 hw fun h3 => h ⟨.inr rfl, h3⟩
    · exact send_side hw h1 h2

end Go.Proofs.Ytfojhmobnedekaa
