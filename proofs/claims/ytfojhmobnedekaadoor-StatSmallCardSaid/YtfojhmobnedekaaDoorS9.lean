/- The walk of stat's Text. Conditions: each count fits an int; the table of powers is as the library lays it. -/
import Derived.Test.YtfojhmobnedekaaDoorS8
import Derived.Test.YtfojhmobnedekaaDoorShelf
namespace Go.Proofs.YtfojhmobnedekaaDoor
open Go.RowKit Go.Shelf

attribute [local go_sem] Oper.semAt_some

section
variable {P : Program} {r m : Nat}
/-- Reads and callees that leave alone what lay there, then a tail: within a round. -/
theorem round_lies_tail {id : Nat} {Q : Exit → Act → World → Prop} {a : Act} {w : World} {l : List Oper} (n : Nat) (hm : P.follows .mixedOrders = true) (hB : Region.lexTailB .any l.toArray n = true) (hd : noDefers l.toArray = true)
    (h : wpQuiet P l.toArray (fun w' => ∃ x : Lies w, w' = x.1) (fun a' => ∀ w', (∃ x : Lies w, w' = x.1) → wpListIn (Fence.wide.inRound r) m P l.toArray Q (l.drop n) a' w') (l.take n) a) : (Code.region id l.toArray true).wpIn (Fence.wide.inRound r) m P Q a w := by
  obtain ⟨hn, H⟩ := head_start hB h
  refine wpIn_region_any hm ?_
  have := anyIn_of_head (r := r) (m := m) (Q' := Q) (g := l.length - n) (C := fun w' => ∃ x : Lies w, w' = x.1) hd (fun listed a' w' hw hL => by
    have := anyIn_of_seq (md := .any) (F := Fence.wide.inRound r) (m := m) (Q' := Q) (l.drop n) n listed a' w' (fun j => by simp [List.getElem?_drop]) (by rw [List.length_drop]; exact hL.1) (hL.2 w' hw)
    rwa [List.length_drop] at this) _ _ _ w.drew ⟨⟨_, below_drewN (Below.refl _ _) 1⟩, rfl⟩ H
  rw [show n + (l.length - n) = l.length by omega] at this
  simpa using this
end
theorem below_grow (w : World) (k : Nat) (os : Array Obj) : Below w.heap.size w (Sort.grow (w.drewN k) os) :=
  ⟨rfl, rfl, rfl, by simp [Sort.grow], fun b hb => by simp only [Sort.grow]; exact Array.getElem?_append_left hb⟩
/-- The table of powers, as the library lays it. -/
def Tab (w : World) : Prop := Lib.TabIs Tryd.prog w "internal/strconv.uint64pow10" .u64 Lib.pow10Tab
theorem gTab : Tryd.prog.globalNamed "internal/strconv.uint64pow10" = some 0 := by kernel_rfl
theorem Tab.of_block {w w' : World} (h : Tab w) (hk : w'.heap[0]? = w.heap[0]?) : Tab w' := by
  unfold Tab Lib.TabIs World.var? at *
  rw [gTab] at *
  simp only [Option.bind_some] at *
  rw [hk]; exact h
theorem Tab.lt {w : World} (h : Tab w) : 0 < w.heap.size := by
  unfold Tab Lib.TabIs World.var? at h
  rw [gTab] at h
  simp only [Option.bind_some] at h
  rcases Nat.lt_or_ge 0 w.heap.size with h1 | h1
  · exact h1
  · rw [Array.getElem?_eq_none h1] at h; cases h
theorem Tab.below {w w' : World} {B : Nat} (h : Tab w) (hB : Below B w w') (hb : 0 < B) : Tab w' := h.of_block (hB.block 0 hb)
def inI (x : Int) : Prop := -9223372036854775808 ≤ x ∧ x ≤ 9223372036854775807
theorem itoa_any {n : Int} (h : inI n) {w : World} (ht : Tab w) : Calls Tryd.prog 35 #[.int .i64 n] w fun e w' => e = .returned (.string ⟨(Lib.itoa n).toArray⟩) ∧ Below w.heap.size w w' :=
  (Tryd.strconv_Itoa n h.1 h.2 w ht).mono fun e w' ⟨he, k, os, hw⟩ => ⟨he, by rw [hw]; exact below_grow _ _ _⟩
theorem nDigits_le : ∀ (k u : Nat), u < 10 ^ (k + 1) → Lib.nDigits u ≤ k + 1
  | 0, u, h => by unfold Lib.nDigits; rw [dif_pos (by simpa using h)]; omega
  | k + 1, u, h => by
    unfold Lib.nDigits
    split
    · omega
    · have := nDigits_le k (u / 10) (by rw [Nat.div_lt_iff_lt_mul (by omega)]; rw [← Nat.pow_succ]; exact h)
      omega
theorem itoa_len {n : Int} (h : inI n) : (Lib.itoa n).length ≤ 20 := by
  have hp : (9223372036854775808 : Nat) < 10 ^ (18 + 1) := by decide
  unfold inI at h
  unfold Lib.itoa
  split
  · have := nDigits_le 18 n.natAbs (Nat.lt_of_le_of_lt (by omega) hp)
    rw [List.length_cons, Lib.decDigits_length]; omega
  · have := nDigits_le 18 n.toNat (Nat.lt_of_le_of_lt (by omega) hp)
    rw [Lib.decDigits_length]; omega
def wdl (k : Nat) : List UInt8 := wl[k]?.getD []
theorem wdl_len (k : Nat) : (wdl k).length ≤ 7 := by
  unfold wdl
  by_cases h : k < 17
  · have : k = 0 ∨ k = 1 ∨ k = 2 ∨ k = 3 ∨ k = 4 ∨ k = 5 ∨ k = 6 ∨ k = 7 ∨ k = 8 ∨ k = 9 ∨ k = 10 ∨ k = 11 ∨ k = 12 ∨ k = 13 ∨ k = 14 ∨ k = 15 ∨ k = 16 := by omega
    rcases this with rfl | rfl | rfl | rfl | rfl | rfl | rfl | rfl | rfl | rfl | rfl | rfl | rfl | rfl | rfl | rfl | rfl <;> decide
  · rw [List.getElem?_eq_none (by simp [wl]; omega)]; decide
/-- A line of a text. -/
def lineV (v : Nat → Int) (j : Nat) : List UInt8 := wdl j ++ [32] ++ Lib.itoa (v (of_ j)) ++ [10]
def textTo (v : Nat → Int) (pre : List Nat) : List UInt8 := pre.flatMap (lineV v)
def textV (v : Nat → Int) : List UInt8 := textTo v (List.range 17)
theorem textTo_snoc (v : Nat → Int) (pre : List Nat) (j : Nat) : textTo v (pre ++ [j]) = textTo v pre ++ lineV v j := by simp [textTo]
theorem lineV_len {v : Nat → Int} (h : ∀ i, i < 19 → inI (v i)) (j : Nat) : (lineV v j).length ≤ 29 := by
  have h1 := itoa_len (h _ (of_lt j))
  have h2 := wdl_len j
  simp [lineV]; omega
theorem textTo_len {v : Nat → Int} (h : ∀ i, i < 19 → inI (v i)) : ∀ pre : List Nat, (textTo v pre).length ≤ 29 * pre.length
  | [] => by simp [textTo]
  | j :: pre => by
    have := lineV_len h j
    have := textTo_len h pre
    show (lineV v j ++ textTo v pre).length ≤ _
    rw [List.length_append, List.length_cons]; omega
theorem TabAt.kinds {w0 W : World} {b bx : Nat} (h : TabAt w0 W b 17 bx) : ∃ g cap, Rd W bx g cap b ∧ w0.heap.size ≤ bx ∧ w0.heap.size ≤ g ∧ Below w0.heap.size w0 W ∧ (∃ c fz, W.heap[bx]? = some (.cells c 81 fz)) ∧ (∃ c fz, W.heap[g]? = some (.cells c 63 fz)) := by
  obtain ⟨g, cap, hbox, hown, h1, h2, h3, hB⟩ := h
  refine ⟨g, cap, ⟨(cell_of_block hbox).trans rfl, fun k hk => ?_, fun k hk => ?_⟩, h1, h3, hB, ⟨_, _, hbox⟩, Lib.ownsRow_kind hown g rfl⟩
  · have := hown.cellAt (k * 2) (by omega)
    rw [this]; exact tcs_get0 b 17 k hk
  · have := hown.cellAt (k * 2 + 1) (by omega)
    rw [this]; exact tcs_get1 b 17 k hk
theorem kind_kept {A B : World} {row : Option Nat} {g : Nat} {t : TypeId} (h : ∃ c fz, A.heap[g]? = some (.cells c t fz)) (hg : A.grownBy B row) (hr : ∀ r, row = some r → ∃ o : Obj, A.heap[r]? = some o ∧ o.isCells = false) : ∃ c fz, B.heap[g]? = some (.cells c t fz) := by
  obtain ⟨c, fz, h⟩ := h; exact ⟨c, fz, cells_kept h hg hr⟩
theorem builder_kept {A B : World} {row : Option Nat} {T e : TypeId} {lo b : Nat} {bs : List Value} (h : Lib.IsBuilderF T e lo b bs A) (hg : A.grownBy B row) (hr : ∀ r, row = some r → ∃ o : Obj, A.heap[r]? = some o ∧ o.isCells = false) : Lib.IsBuilderF T e lo b bs B := by
  have key : ∀ p, Lib.BuilderAtF T e lo b p bs A → Lib.BuilderAtF T e lo b p bs B := by
    rintro p ⟨hB, v, hb, hown, hne⟩
    refine ⟨hB, v, cells_kept hb hg hr, hown.kept hg ?_, hne⟩
    cases hv : v.ownBlock with
    | none => exact .inl rfl
    | some g =>
      refine .inr fun e => ?_
      obtain ⟨o, ho, hc⟩ := hr g e.symm
      obtain ⟨c, fz, h2⟩ := Lib.ownsRowF_kind hown g hv
      rw [h2] at ho
      obtain rfl := Option.some.inj ho
      cases hc
  exact h.imp (key _) (key _)
theorem builder_below {A B : World} {T e : TypeId} {lo b : Nat} {bs : List Value} (h : Lib.IsBuilderF T e lo b bs A) (hB : Below A.heap.size A B) : Lib.IsBuilderF T e lo b bs B :=
  builder_kept (row := none) h ⟨hB.os, hB.tape, hB.output, hB.size, fun k hk _ => hB.block k hk⟩ (fun r e => by cases e)
/-- What lies between two rounds of Text's loop. -/
structure TX (v : Nat → Int) (w W1 : World) (bx g : Nat) (pre : List Nat) (W : World) : Prop where
  bld : Lib.IsBuilderF 71 5 (w.heap.size + 1) (w.heap.size + 1) (Lib.byteCells (textTo v pre)) W
  st : StAt 25 W w.heap.size v
  kb : ∃ c fz, W.heap[bx]? = some (.cells c 81 fz)
  kg : ∃ c fz, W.heap[g]? = some (.cells c 63 fz)
  below : Below w.heap.size w W
  size : W1.heap.size ≤ W.heap.size
theorem TX.kept {v : Nat → Int} {w W1 A B : World} {bx g : Nat} {pre : List Nat} {row : Option Nat} (h : TX v w W1 bx g pre A) (hg : A.grownBy B row) (hm : w.heap.size ≤ W1.heap.size) (hr : ∀ r, row = some r → W1.heap.size ≤ r ∧ ∃ o : Obj, A.heap[r]? = some o ∧ o.isCells = false) : TX v w W1 bx g pre B := by
  have hr2 := fun r e => (hr r e).2
  exact ⟨builder_kept h.bld hg hr2, cells_kept h.st hg hr2, kind_kept h.kb hg hr2, kind_kept h.kg hg hr2, below_own h.below hg hm (fun r e => (hr r e).1), Nat.le_trans h.size hg.size⟩
theorem TX.step {v : Nat → Int} {w W1 W V W' : World} {bx g : Nat} {pre : List Nat} {j : Nat} {s : List UInt8} (h : TX v w W1 bx g pre W) (hV : Below W.heap.size W V) (hb : Lib.BuilderAtF 71 5 (w.heap.size + 1) (w.heap.size + 1) (.pointer (some ⟨w.heap.size + 1, 0, none⟩)) (Lib.byteCells (textTo v pre) ++ Lib.byteCells s) W') (hB : Below (w.heap.size + 1) V W') (hO : Lib.OthersKept 5 (some (w.heap.size + 1)) V W') (hs : textTo v (pre ++ [j]) = textTo v pre ++ s) (h1 : w.heap.size + 2 ≤ W1.heap.size) (nb : bx ≠ w.heap.size + 1) (ng : g ≠ w.heap.size + 1) :
    KeepsFrom W1.heap.size W W' ∧ Kt bx g W W' ∧ TX v w W1 bx g (pre ++ [j]) W' := by
  have hsz := hV.size
  have hsz2 := hB.size
  have hz := h.size
  have keep : ∀ k c t fz, W.heap[k]? = some (.cells c t fz) → t ≠ 5 → k ≠ w.heap.size + 1 → W'.heap[k]? = some (.cells c t fz) := fun k c t fz hk ht hn =>
    hO k _ ((hV.block k (Array.getElem?_eq_some_iff.1 hk).1).trans hk) (fun e => hn (Option.some.inj e)) (fun c' fz' e => by injection e with _ e2; exact ht e2)
  obtain ⟨c1, f1, k1⟩ := h.kb
  obtain ⟨c2, f2, k2⟩ := h.kg
  refine ⟨KeepsOthers.from ⟨by omega, fun k o hk ho => ?_⟩ _, ⟨by omega, (keep _ _ _ _ k1 (by decide) nb).trans k1.symm, (keep _ _ _ _ k2 (by decide) ng).trans k2.symm⟩, ⟨.inr (by rw [hs, Lib.byteCells_append]; exact hb), keep _ _ _ _ h.st (by decide) (by omega), ⟨_, _, keep _ _ _ _ k1 (by decide) nb⟩, ⟨_, _, keep _ _ _ _ k2 (by decide) ng⟩, ?_, by omega⟩⟩
  · refine hO k o ((hV.block k (Array.getElem?_eq_some_iff.1 hk).1).trans hk) (fun e => ?_) (fun c' fz' e => by subst e; cases ho)
    obtain rfl := Option.some.inj e
    rcases h.bld with ⟨_, _, h2, _⟩ | ⟨_, _, h2, _⟩
    all_goals
      rw [h2] at hk
      obtain rfl := Option.some.inj hk
      cases ho
  · exact (h.below.trans (hV.mono (by omega))).trans (hB.mono (by omega))
def TPost (v : Nat → Int) (w : World) (e : Ending) (W' : World) : Prop := e = .returned (.string ⟨(textV v).toArray⟩) ∧ Below w.heap.size w W'
set_option maxRecDepth 100000 in
set_option maxHeartbeats 4000000 in
theorem text_in (n : Nat) (hn : 3 ≤ n) (v : Nat → Int) (hv : ∀ i, i < 19 → inI (v i)) (w : World) (ht : Tab w) :
    CallsIn Fence.wide n Tryd.prog 20 #[.agg (stC v)] w (TPost v w) := by
  have h1 : 1 ≤ n := by omega
  have hro : Fence.wide.round = none := rfl
  refine callsIn_of_wp_marks Tryd.func20 rfl trivial ?_ hro
  simp only [Tryd.ntmps20, List.size_toArray, List.length_cons, List.length_nil, Nat.reduceAdd, Nat.reduceSub, Array.replicate_succ, Array.replicate_zero, List.push_toArray, List.append_toArray, List.nil_append, List.cons_append]
  have HS0 := Lib.hid ((StAt.new w v).below ((Below.refl _ _).alloc (Nat.le_refl _) (.cells #[.pointer none, .slice none 0 0] 71)) (by simp))
  have HR0 := Lib.hid (Lib.IsBuilderF.of (Lib.fresh_isBuilder 71 5 (w.alloc (.cells (stC v) 25))))
  have HB0 := Lib.hid (((Below.refl w.heap.size w).alloc (Nat.le_refl _) (.cells (stC v) 25)).alloc (by simp) (.cells #[.pointer none, .slice none 0 0] 71))
  have HT := Lib.hid (table_any HS0.out)
  have HTB := Lib.hid ht
  have htl := ht.lt
  rw [World.size_alloc] at HR0
  clear ht
  gi_wp2_with fail
  refine ⟨trivial, ?_⟩
  refine (callsIn_wide.2 (show Calls _ _ _ _ _ from HT.out)).mono ?_
  rintro e W1 ⟨bx, rfl, hT⟩
  obtain ⟨g, cap, hRd, hbx, hg, hBt, hkb, hkg⟩ := hT.kinds
  rw [World.size_alloc, World.size_alloc] at hbx hg
  have hz1 := hBt.size
  rw [World.size_alloc, World.size_alloc] at hz1
  have HI := Lib.hid (show TX v w W1 bx g [] W1 from ⟨builder_below HR0.out (hBt.mono (by simp)), HS0.out.below hBt (by simp; omega), hkb, hkg, HB0.out.trans (hBt.mono (by simp; omega)), Nat.le_refl _⟩)
  have HRd := Lib.hid hRd
  have hlt := block_lt_of_cell hRd.box
  have hlt2 := block_lt_of_cell (hRd.at0 0 (by omega))
  have HV := Lib.hid hv
  clear hT hRd hBt HT HS0 HR0 HB0 hkb hkg hv
  gi_wp2_with fail
  refine wpIn_rangeFunc_ownH hro h1 (gf := 39) (lb := #[.pointer (some ⟨bx, 0, none⟩)]) rfl trivial (enters_of Tryd.func39 (by kernel_rfl) rfl)
    (table_stops Fence.wide (n - 1) trivial hro (by omega) bx g cap w.heap.size W1 HRd.out) Kt.trans (Kt.putObj hlt hlt2) (Below.refl _ _) (fun _ => rfl)
    (fun pre W => TX v w W1 bx g pre W)
    (fun _ _ _ => False)
    (fun pre A B row hs hgr hr => hs.kept hgr (by omega) hr)
    (fun _ _ _ _ _ hs _ _ => hs.elim)
    HI.out
    (fun j a' W => ∃ B3, Hid (Ent w.heap.size W1.heap.size j B3 W) ∧ a' = { tmps := #[.agg (stC v), .pointer (some ⟨w.heap.size, 0, none⟩), .string ⟨#[]⟩, .pointer (some ⟨w.heap.size + 1, 0, none⟩), .pointer (some ⟨B3, 0, none⟩), .func (.func 39) #[] #[.pointer (some ⟨bx, 0, none⟩)], .agg #[.string (wd j), .pointer (some ⟨w.heap.size, of_ j, none⟩)], undef, undef, undef, undef, undef, undef, undef, undef, undef, undef, undef, undef], defers := [] })
    (fun j a' _ A B row hs hgr hr => by obtain ⟨B3, hE, ha⟩ := hs; exact ⟨B3, ⟨hE.out.1, cells_kept hE.out.2 hgr (fun r e => (hr r e).2)⟩, ha⟩)
    ?assign ?body ?done ?stop
  case assign =>
    rintro l pre j W K hI hK
    have HE := Lib.hid (heap_alloc_new W (.cells #[.string (wd j), .pointer (some ⟨w.heap.size, of_ j, none⟩)] 63))
    have hz := hI.size
    gi_wp2
    exact hK _ _ ((KeepsOthers.alloc _ _).from _) (Kt.grown (grow_alloc _ _) (by omega) (by omega)) (hI.kept (grow_alloc _ _) (by omega) (fun r e => by cases e)) ⟨_, ⟨hz, HE.out⟩, rfl⟩
  case body =>
    rintro l pre j a' W hl ⟨r, hr⟩ hI ⟨B3, hE, rfl⟩ hlen
    have HR := Lib.hid hr
    have HI2 := Lib.hid hI
    have hz := hI.size
    have F0 := lies_cell (show W.cell? ⟨B3, 0, none⟩ = some (.string (wd j)) from (cell_of_block hE.out.2).trans rfl)
    have F2 := lies_cell (show W.cell? ⟨B3, 1, none⟩ = some (.pointer (some ⟨w.heap.size, of_ j, none⟩)) from (cell_of_block hE.out.2).trans rfl)
    have F3 := lies_cell (hI.st.cell (of_lt j))
    have HTW := Lib.hid (HTB.out.below hI.below htl)
    have htw := HTW.out.lt
    have HIT := Lib.hid fun (x : Lies W) => itoa_any (HV.out _ (of_lt j)) (HTW.out.below x.2 htw)
    have hs1 : (wd j).size ≤ 7 := by have := wdl_len j; simpa [wd, wdl, ByteArray.size] using this
    have hs2 : (⟨(Lib.itoa (v (of_ j))).toArray⟩ : ByteArray).size ≤ 20 := by have := itoa_len (HV.out _ (of_lt j)); simpa [ByteArray.size] using this
    have HLN := Lib.hid (show (wd j ++ ⟨#[32]⟩ ++ ⟨(Lib.itoa (v (of_ j))).toArray⟩ ++ ⟨#[10]⟩ : ByteArray) = ⟨(lineV v j).toArray⟩ by apply ByteArray.ext; simp [lineV, wd, wdl, ByteArray.data_append])
    clear hr hI
    generalize (⟨(Lib.itoa (v (of_ j))).toArray⟩ : ByteArray) = z at *
    generalize wd j = s1 at *
    have q1 : s1.size + 1 ≤ 9223372036854775807 := by omega
    have q2 : s1.size + 1 + z.size ≤ 9223372036854775807 := by omega
    have q3 : s1.size + 1 + z.size + 1 ≤ 9223372036854775807 := by omega
    gi_wp2_with fail
    refine round_lies_tail 10 (by kernel_rfl) (by kernel_rfl) (by kernel_rfl) ?_
    simp only [List.take_succ_cons, List.take_zero, List.drop_succ_cons, List.drop_zero]
    repeat (go_big_quiet_step ((go_at_call 35; exact Lies.call (HIT.out _))))
    refine wpQuiet_nil ?_
    rintro w' ⟨xw, rfl⟩
    obtain ⟨V, hV⟩ := xw
    simp only [] at *
    have hzV := hV.size
    have htl' : (Lib.byteCells (textTo v pre)).length + (s1 ++ ⟨#[32]⟩ ++ z ++ ⟨#[10]⟩ : ByteArray).size ≤ 140737488355328 := by
      have := textTo_len HV.out pre
      rw [Lib.byteCells_length, ByteArray.size_append, ByteArray.size_append, ByteArray.size_append]
      have e1 : (⟨#[32]⟩ : ByteArray).size = 1 := rfl
      have e2 : (⟨#[10]⟩ : ByteArray).size = 1 := rfl
      rw [e1, e2]; omega
    have HW := Lib.hid (write_any (w.heap.size + 1) (w.heap.size + 1) _ (s1 ++ ⟨#[32]⟩ ++ z ++ ⟨#[10]⟩) V (builder_below HI2.out.bld hV) htl' (by omega))
    rw [HLN.out] at HW
    have HVB := Lib.hid hV
    clear F0 F2 F3 hV htl'
    rw [HLN.out]
    gi_wp2_with (refine ⟨trivial, fun _ => (by omega), ?_⟩; gi_at_call 34; refine (CallsIn.inRound l (callsIn_wide.2 HW.out)).mono ?_; rintro e w' ⟨rfl, hb, hB, hO⟩)
    exact TX.step HI2.out HVB.out hb hB hO (textTo_snoc v pre j) (by omega) (by omega) (by omega)
  case done =>
    rintro D ys W hD rfl hI hK
    have HI2 := Lib.hid hI
    have HK := Lib.hid hK
    have hz := hI.size
    have HC := Lib.hid (Tryd.Builder_String_any_k (w.heap.size + 1) (w.heap.size + 1) (textTo v (List.range 17)) W hI.bld (by omega))
    clear hI hK
    gi_wp2_with (refine ⟨trivial, ?_⟩; gi_at_call 36; refine (callsIn_wide.2 HC.out).mono ?_; rintro e w' ⟨rfl, hb, hB, hO⟩)
    have k2 : w'.heap[D]? = some (.deferred (some [])) := hO D _ HK.out (fun e => by have := Option.some.inj e; omega) (fun c fz e => by cases e)
    have hzw := hB.size
    have HBF := Lib.hid ((HI2.out.below.trans (hB.mono (by omega))).trans (belowK_b (w := w) (Nat.le_refl _) w' D _ (.deferred none) (by omega) k2 rfl rfl))
    refine ⟨by simp, .inl ⟨_, _, rfl, run_takeDeferred k2, ?_⟩⟩
    exact ⟨_, results_tmp rfl _ _ _, rfl, HBF.out⟩
  case stop =>
    rintro D c pre W _ _ h _
    exact h.elim
theorem Text_any {v : Nat → Int} (hv : ∀ i, i < 19 → inI (v i)) {w : World} (ht : Tab w) : Calls Tryd.prog 20 #[.agg (stC v)] w fun e W' => e = .returned (.string ⟨(textV v).toArray⟩) ∧ Below w.heap.size w W' :=
  (callsIn_wide (n := 3)).1 (text_in 3 (Nat.le_refl _) v hv w ht)
end Go.Proofs.YtfojhmobnedekaaDoor
