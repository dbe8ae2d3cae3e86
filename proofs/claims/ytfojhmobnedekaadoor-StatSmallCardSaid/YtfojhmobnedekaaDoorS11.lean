/- The walk of the law StatExact. Conditions: the input fits the machine; the table of powers is as the library lays it. -/
import Derived.Test.YtfojhmobnedekaaDoorEq
import Derived.Test.YtfojhmobnedekaaDoorStM
import Derived.Test.YtfojhmobnedekaaDoorSched
import Derived.Test.YtfojhmobnedekaaDoorCnt
namespace Go.Proofs.YtfojhmobnedekaaDoor
open Go.RowKit

set_option maxRecDepth 100000 in
theorem pick_any {k m : Int} (h1 : 1 ≤ m) (h2 : m ≤ 1000) (w : World) :
    Calls Tryd.prog 17 #[.int .i64 k, .int .i64 m] w fun e w' => (∃ r : Nat, e = .returned (.int .i64 (r : Nat)) ∧ (r : Int) < m) ∧ w = w' := by
  have hr1 : k.tmod m < m := Int.tmod_lt_of_pos k (by omega)
  have hr2 : -m < k.tmod m := by have := Int.lt_tmod_of_pos k (b := m) (by omega); omega
  by_cases h : 0 ≤ k.tmod m
  · obtain ⟨r, hr⟩ := Int.eq_ofNat_of_zero_le h
    have H := Lib.hid hr
    have hm : decide (m < 1) = false := by simp; omega
    have hm2 : (m == 0) = false := by simp; omega
    go_enter Tryd.func17, Tryd.ntmps17
    go_wp2_with fail
    go_ret
    exact ⟨⟨r, rfl, by have := H.out; omega⟩, rfl⟩
  · obtain ⟨r, hr⟩ := Int.eq_ofNat_of_zero_le (show 0 ≤ k.tmod m + m by omega)
    have H := Lib.hid hr
    have hm : decide (m < 1) = false := by simp; omega
    have hm2 : (m == 0) = false := by simp; omega
    have hlt : k.tmod m < 0 := by omega
    go_enter Tryd.func17, Tryd.ntmps17
    go_wp2_with fail
    go_ret
    exact ⟨⟨r, rfl, by have := H.out; omega⟩, rfl⟩
/-- The address behind a cut at the front. -/
def adv (a : Option Addr) (r cap : Nat) : Option Addr := match a with
  | none => none
  | some ad => if cap - r = 0 then some ad else some (ad.add (r * 2))
theorem adv_nil {a : Option Addr} {n cap r : Nat} (hn : a = none → cap = 0) (hc : n ≤ cap) (hr : r ≤ n) (h : adv a r cap = none) : n - r = 0 ∧ cap - r = 0 := by
  cases a with
  | none => have := hn rfl; omega
  | some ad => unfold adv at h; simp only [] at h; split at h <;> cases h
theorem slice_from {a : Option Addr} {n cap r : Nat} (h : r ≤ n) (hc : n ≤ cap) (hn : a = none → cap = 0) (hm : cap ≤ 140737488351232) (w : World) :
    (Instr.sliceAt 26 (.slice a n cap) (some (.int .i64 r)) none none).run Tryd.prog w = .ok (.slice (adv a r cap) (n - r) (cap - r)) w := by
  cases a with
  | none =>
    have := hn rfl
    subst this
    obtain rfl : n = 0 := by omega
    obtain rfl : r = 0 := by omega
    show _ = _
    kernel_rfl
  | some ad =>
    unfold adv
    have h1 : (r : Int) ≤ n := by omega
    have h2 : (n : Int) ≤ cap := by omega
    go_simp
    by_cases e : cap = r
    · rw [if_pos e, if_pos (by omega)]
    · rw [if_neg e, if_neg (by omega)]
theorem slice_to {a : Option Addr} {n cap r : Nat} (h : r ≤ n) (hc : n ≤ cap) (hn : a = none → cap = 0) (hm : cap ≤ 140737488351232) (w : World) :
    (Instr.sliceAt 26 (.slice a n cap) none (some (.int .i64 r)) none).run Tryd.prog w = .ok (.slice a r cap) w := by
  cases a with
  | none =>
    have := hn rfl
    subst this
    obtain rfl : n = 0 := by omega
    obtain rfl : r = 0 := by omega
    show _ = _
    kernel_rfl
  | some ad =>
    have h1 : (r : Int) ≤ n := by omega
    have h2 : (n : Int) ≤ cap := by omega
    go_simp
    intro h9
    omega
theorem drop_ecs : ∀ (r : Nat) (l : List (Int × Int)), (ecs l).drop (r * 2) = ecs (l.drop r)
  | 0, l => by simp
  | r + 1, [] => by simp [ecs]
  | r + 1, x :: l => by
    rw [show (r + 1) * 2 = r * 2 + 1 + 1 by omega]
    exact drop_ecs r l
theorem RE.drop {w : World} {a : Option Addr} {n cap r : Nat} {l : List (Int × Int)} (h : RE w a n cap l) (hr : r ≤ n) : RE w (adv a r cap) (n - r) (cap - r) (l.drop r) where
  len := by rw [List.length_drop, h.len]
  le := by have := h.le; omega
  most := by have := h.most; omega
  nil e := by
    cases a with
    | none => have := h.nil rfl; omega
    | some ad => unfold adv at e; simp only [] at e; split at e <;> cases e
  at_ j u hu := by
    have hd : (ecs (l.drop r))[j]? = (ecs l)[r * 2 + j]? := by rw [← drop_ecs, List.getElem?_drop]
    rw [hd] at hu
    obtain ⟨b, off, e, hc⟩ := h.at_ _ _ hu
    subst e
    have hlt := (List.getElem?_eq_some_iff.1 hu).1
    rw [length_ecs, h.len] at hlt
    have := h.le
    refine ⟨b, off + r * 2, ?_, by rw [Nat.add_assoc]; exact hc⟩
    show (if cap - r = 0 then _ else _) = _
    rw [if_neg (by omega), Addr.add_lit]
theorem RE.take {w : World} {a : Option Addr} {n cap r : Nat} {l : List (Int × Int)} (h : RE w a n cap l) (hr : r ≤ n) : RE w a r cap (l.take r) where
  len := by rw [List.length_take, h.len]; omega
  le := by have := h.le; omega
  most := by have := h.most; omega
  nil := h.nil
  at_ j u hu := by
    refine h.at_ j u ?_
    have : ecs l = ecs (l.take r) ++ ecs (l.drop r) := by rw [← ecs_append, List.take_append_drop]
    rw [this, List.getElem?_append_left (List.getElem?_eq_some_iff.1 hu).1]; exact hu
theorem RE.adr {w : World} {a : Option Addr} {n cap : Nat} {l : List (Int × Int)} (h : RE w a n cap l) (hn : 0 < n) : ∀ ad, a = some ad → ∃ b off, ad = ⟨b, off, none⟩ := fun ad e => by
  obtain ⟨b, off, x, y, e2, _⟩ := h.two hn
  rw [e] at e2
  exact ⟨b, off, Option.some.inj e2⟩
theorem RE.of_own {w : World} {base n : Nat} {v : Value} {l : List (Int × Int)} (h : w.ownsRow base 33 2 v n (ecs l)) (hn : n ≤ 140737488351232) : ∃ a cap, v = .slice a n cap ∧ RE w a n cap l := by
  obtain ⟨h1, h2⟩ := h
  rw [length_ecs] at h1
  have hl : l.length = n := by omega
  rcases h2 with ⟨rfl, rfl⟩ | ⟨g, cap, cur, rfl, hb, hg, hle, hm, hs, ht⟩
  · refine ⟨none, 0, rfl, hl, Nat.le_refl _, hn, fun _ => rfl, fun j u hu => ?_⟩
    have : l = [] := List.eq_nil_of_length_eq_zero hl
    subst this
    cases hu
  · refine ⟨_, cap, rfl, hl, hle, hn, fun e => (by cases e), fun j u hu => ⟨g, 0, rfl, ?_⟩⟩
    rw [Nat.zero_add, cell_of_block hg]
    have h3 := (List.getElem?_eq_some_iff.1 hu).1
    rw [← ht, List.getElem?_take] at hu
    split at hu
    · rw [← Array.getElem?_toList]; exact hu
    · cases hu
/-- append, from whatever source, at a step of a region that draws. -/
theorem step_append_any {P : Program} {w : World} {ops : Array Oper} {o : Oper} {a : Act} {K : Act → World → Prop} {Q : Exit → Act → World → Prop} {E : Prop} (hgd : o.guard = none) (s x : Operand) (t : TypeId)
    (ho : o.op = .call { callee := .builtin .append, args := #[s, x], argTypes := #[t, t] })
    (base : Nat) (e : TypeId) (i : TypeInfo) (z : Value) (size bytes : Nat) (ht : P.underlying t = some (.slice e)) (hi : P.info? e = some i) (hz : i.zero = some z)
    (hsize : i.size = size) (hby : i.bytes = bytes) (hzs : z.cells.size = size) (hsz : 0 < size)
    (v : Value) (n : Nat) (xs : List Value) (hs : a.eval s = v) (hown : w.ownsRow base e size v n xs)
    (a' : Option Addr) (m c : Nat) (news : List Value) (hx : a.eval x = .slice a' m c) (hl : news.length = m * size) (hnil : a' = none → m = 0 ∧ c = 0) (hnews : ∀ j u, news[j]? = some u → ∃ b off, a' = some ⟨b, off, none⟩ ∧ w.cell? ⟨b, off + j, none⟩ = some u) (h1 : ∀ u ∈ news, u.oneCell' = true)
    (h63 : n + m ≤ maxLen) (hbytes : (n + m) * bytes ≤ 140737488355328) (hbase : base ≤ w.heap.size)
    (h : ∀ v' w', w'.ownsRow base e size v' (n + m) (xs ++ news) → w.grownBy w' v.ownBlock → K (a.put o.dst v') w') :
    if Region.wanted o (yielded ops a.tmps) = true then Oper.wp P o a w K Q else E := by
  have hw : Region.wanted o (yielded ops a.tmps) = true := by simp [Region.wanted, hgd]
  rw [if_pos hw]
  cases a' with
  | none =>
    obtain ⟨rfl, rfl⟩ := hnil rfl
    have hn0 : news = [] := List.eq_nil_of_length_eq_zero (by rw [hl]; omega)
    subst hn0
    have hrun := run_append_owned_none (P := P) (w := w) base t o.type e i size ht hi v n xs hown
    unfold Oper.wp execOp
    simp only [ho, resolve, invoke, builtin, Sem.run_bind, Sem.run_pure, Result.andThen_ok, List.map_toArray, List.map_cons, List.map_nil, hs, hx, hrun]
    exact h v w (by rw [List.append_nil]; exact hown) (World.grownBy.refl _ _)
  | some ad =>
    obtain ⟨v', w', hr, h2, h3, _, _⟩ := run_append_own_at (P := P) w base t o.type e i z size bytes ht hi hz hsize hby hzs hsz v n xs hown ad m c news hl (fun j u hu => by
      obtain ⟨b2, off2, e2, hc⟩ := hnews j u hu
      injection e2 with e2
      subst e2
      rw [Addr.add_lit]; exact hc) h1 h63 hbytes hbase
    unfold Oper.wp execOp
    simp only [ho, resolve, invoke, builtin, Sem.run_bind, Sem.run_pure, Result.andThen_ok, List.map_toArray, List.map_cons, List.map_nil, hs, hx, hr]
    exact h v' w' h2 h3
theorem right_yes (v : Nat → Int) (h : RightV v) (w : World) : Calls Tryd.prog 18 #[.agg (stC v)] w fun e w' => e = .returned (.bool true) ∧ Below w.heap.size w w' :=
  (Right_any v w).mono fun e w' ⟨⟨t, he, ht⟩, hB⟩ => ⟨by rw [he, ht.2 h], hB⟩
theorem stC_ones (v : Nat → Int) : ∀ x ∈ (stC v).toList, x.oneCell' = true := fun x hx => by
  have := stC_one v
  rw [Array.all_eq_true_iff_forall_mem] at this
  exact this x (by simpa using hx)
def two (u v : Nat → Int) : Nat → Nat → Int := fun k => if k = 0 then u else v
theorem sum_two (l : List (Int × Int)) (r : Nat) : stC (foldV v0 (two (andV v0 (l.take r)) (andV v0 (l.drop r))) 2) = stC (andV v0 l) := by
  refine sameV_C fun i hi => ?_
  have := sum_of (l.take r) (l.drop r) i
  rw [List.take_append_drop] at this
  exact this
theorem info25_ : (Tryd.prog.info? 25).map (fun i => (i.zero, i.size, i.bytes)) = some (some (.agg (stC v0)), 19, 152) := by kernel_rfl
theorem fill0 : ((Array.range (2 * 19)).map ((Value.agg (stC v0)).cells[· % (Value.agg (stC v0)).cells.size]!)) = #[.int .i64 0, .int .i64 0, .int .i64 0, .int .i64 0, .int .i64 0, .int .i64 0, .int .i64 0, .int .i64 0, .int .i64 0, .int .i64 0, .int .i64 0, .int .i64 0, .int .i64 0, .int .i64 0, .int .i64 0, .int .i64 0, .int .i64 0, .int .i64 0, .int .i64 0, .int .i64 0, .int .i64 0, .int .i64 0, .int .i64 0, .int .i64 0, .int .i64 0, .int .i64 0, .int .i64 0, .int .i64 0, .int .i64 0, .int .i64 0, .int .i64 0, .int .i64 0, .int .i64 0, .int .i64 0, .int .i64 0, .int .i64 0, .int .i64 0, .int .i64 0] := by kernel_rfl
set_option maxRecDepth 100000 in
theorem fill2 (u v : Nat → Int) : Instr.fill (fun i => some (i * 19, 19)) ((Array.range (2 * 19)).map ((Value.agg (stC v0)).cells[· % (Value.agg (stC v0)).cells.size]!)) #[(0, Value.agg (stC u)), (1, Value.agg (stC v))].toList = some (stC u ++ stC v) := by
  rw [fill0]
  unfold stC
  simp [Instr.fill, Value.cells]
theorem run_exec_buildSlice {P : Program} {a : Act} {o : Oper} {w w' : World} {v : Value} {t : TypeId} {n : Nat} {parts : List (Nat × Operand)} {pv : List (Nat × Value)} (ho : o.op = .buildSlice t n parts.toArray) (hp : parts.map (fun y => (y.1, a.eval y.2)) = pv) (h : (Instr.buildSlice t n pv.toArray).run P w = .ok v w') : (execOp a.eval o).run P w = .ok (.value v) w' := by
  subst hp
  rw [← List.map_toArray] at h
  unfold execOp
  simp only [ho, Sem.run_bind]
  have : (parts.toArray.map fun x => (x.1, a.eval x.2)) = (parts.toArray.map fun (i, x) => (i, a.eval x)) := rfl
  rw [← this, h]
  rfl
theorem build2 (u v : Nat → Int) (w : World) : (Instr.buildSlice 44 2 #[(0, .agg (stC u)), (1, .agg (stC v))]).run Tryd.prog w = .ok (.slice (some ⟨w.heap.size, 0, none⟩) 2 2) (w.alloc (.cells (stC u ++ stC v) 25)) := by
  obtain ⟨i0, hi, hz0, hz1, hz2⟩ := info_parts info25_
  refine run_buildSlice w 44 25 2 _ _ i0 _ Tryd.underlying44 hi hz0 (by rw [hz1]; decide) (by rw [hz1]; decide) ?_
  rw [hz1]
  exact fill2 u v
theorem rs_two (u v : Nat → Int) (w : World) : RS (w.alloc (.cells (stC u ++ stC v) 25)) (some ⟨w.heap.size, 0, none⟩) 2 2 (two u v) where
  le := Nat.le_refl _
  most := by decide
  at_ k hk := by
    refine ⟨w.heap.size, 0, rfl, fun j x hx => ?_⟩
    rw [cell_of_block (heap_alloc_new w _)]
    have hj : j < 19 := by have := (List.getElem?_eq_some_iff.1 hx).1; simpa [size_stC] using this
    have hx' : (stC (two u v k))[j]? = some x := by simpa using hx
    have : k = 0 ∨ k = 1 := by omega
    rcases this with rfl | rfl
    · rw [Array.getElem?_append_left (by rw [size_stC]; omega)]; simpa [two] using hx'
    · rw [Array.getElem?_append_right (by rw [size_stC]; omega), size_stC, show 0 + 1 * 19 + j - 19 = j by omega]; simpa [two] using hx'
def CntRel (w wc : World) (g n : Nat) (l : List (Int × Int)) (V : Nat → Int) (s8 s9 s10 s11 i : Value) (wr : World) : Prop :=
  ∃ k : Nat, k ≤ n ∧ i = .int .i64 k ∧ s8 = .int .i64 (tot 0 (l.take k)) ∧ s9 = .int .i64 (min (tot 1 (l.take k)) 2147483647) ∧ s10 = .int .i64 (min (tot 18 (l.take k)) 2147483647)
    ∧ s11 = .int .i64 (tot 15 (l.take k) + tot 16 (l.take k) + tot 17 (l.take k)) ∧ StAt 25 wr g V ∧ IntsAt 22 8 wr wc.heap.size (fun j => tot (3 + j) (l.take k)) ∧ IntsAt 23 4 wr (wc.heap.size + 1) (fun j => tot (11 + j) (l.take k)) ∧ Below w.heap.size w wr
theorem tot_bound {i : Nat} (h : i ≠ 1 ∧ i ≠ 18) {l : List (Int × Int)} {k : Nat} : 0 ≤ tot i (l.take k) ∧ tot i (l.take k) ≤ k := by
  have := tot_0 i (l.take k)
  have := tot_le h (l.take k)
  have : (l.take k).length ≤ k := by rw [List.length_take]; omega
  omega
theorem min_snoc {l : List (Int × Int)} {k : Nat} {x y : Int} (h : l[k]? = some (x, y)) (i : Nat) : min (tot i (l.take (k + 1))) 2147483647 = min (min (tot i (l.take k)) 2147483647 + evC i x y) 2147483647 := by
  rw [tot_snoc h]; have := evC_0 i x y; have := tot_0 i (l.take k); omega
theorem st_range {w : World} {b : Nat} {v : Nat → Int} (h : StAt 25 w b v) (o m : Nat) (hm : o + m ≤ 19) (u : Nat → Int) (e : ∀ j, j < m → v (o + j) = u j) : w.rangeAt b o (ilist m u) := fun j x hx => by
  have hj : j < m := by have := (List.getElem?_eq_some_iff.1 hx).1; simpa [ilist] using this
  rw [h.cell (show o + j < 19 by omega), e j hj]
  simpa [ilist, hj] using hx
theorem size_ilist (n : Nat) (u : Nat → Int) : (ilist n u).length = n := by simp [ilist]
theorem info22_ : (Tryd.prog.info? 22).map (·.size) = some 8 := by kernel_rfl
theorem info23_ : (Tryd.prog.info? 23).map (·.size) = some 4 := by kernel_rfl
theorem info22 (u : Nat → Int) : (Tryd.prog.info? 22).map (·.size) = some (ilist 8 u).length := by rw [info22_, size_ilist]
theorem info23 (u : Nat → Int) : (Tryd.prog.info? 23).map (·.size) = some (ilist 4 u).length := by rw [info23_, size_ilist]
theorem info22' (u : Nat → Int) : (Tryd.prog.info? 22).map (·.size) = some (ilist 8 u).toArray.size := by rw [info22_, List.size_toArray, size_ilist]
theorem info23' (u : Nat → Int) : (Tryd.prog.info? 23).map (·.size) = some (ilist 4 u).toArray.size := by rw [info23_, List.size_toArray, size_ilist]
def XPost (w : World) (e : Ending) (w' : World) : Prop := e = .returned (.bool true) ∧ Below w.heap.size w w'
theorem info33 : (Tryd.prog.info? 33).map (fun i => (i.zero, i.size, i.bytes)) = some (some (.agg #[.int .i64 0, .int .i64 0]), 2, 16) := by kernel_rfl
set_option maxRecDepth 100000 in
set_option maxHeartbeats 8000000 in
theorem exact_any {w : World} {a : Option Addr} {n cap : Nat} {l : List (Int × Int)} {k : Int} (h : RE w a n cap l) (hcap : cap ≤ 140737488351232) (hk : inI k) (ht : Tab w) : Calls Tryd.prog 5 #[.slice a n cap, .int .i64 k] w (XPost w) := by
  have hle := h.le
  have hm := h.most
  obtain ⟨i0, hi, hz0, hz1, hz2⟩ := info_parts info33
  have H := Lib.hid h
  have HT := Lib.hid ht
  have HK := Lib.hid hk
  have HW := Lib.hid (awake_any ht)
  clear h ht hk
  go_enter Tryd.func5, Tryd.ntmps5
  go_wp2_with fail
  refine HW.out.mono ?_
  rintro e w1 ⟨rfl, hB1⟩
  have HB1 := Lib.hid hB1
  clear hB1
  by_cases h5 : 500 < n
  · go_wp2_with fail
    go_ret
    exact ⟨rfl, HB1.out⟩
  have h5' : n ≤ 500 := by omega
  clear h5
  have HOF := Lib.hid (Of_any (H.out.below HB1.out))
  go_wp2_with fail
  refine HOF.out.mono ?_
  rintro e w2 ⟨rfl, hB2⟩
  have HB2 := Lib.hid (HB1.out.trans (hB2.mono HB1.out.size))
  clear hB2
  have HN := Lib.hid (StAt.new w2 v0)
  have hS3 : StAt 25 ((w2.alloc (.cells (stC v0) 25)).setRow w2.heap.size (stC (andV v0 l))) w2.heap.size (andV v0 l) := setRow_heap _ _ _ _ _ _ HN.out
  have hB3 : Below w2.heap.size w2 ((w2.alloc (.cells (stC v0) 25)).setRow w2.heap.size (stC (andV v0 l))) := below_setRow ((Below.refl _ _).alloc (Nat.le_refl _) _) (Nat.le_refl _)
  have HS3 := Lib.hid hS3
  have HB3 := Lib.hid (HB2.out.trans (hB3.mono HB2.out.size))
  have HPK := Lib.hid fun w => pick_any (k := k) (m := (n : Int) + 1) (by omega) (by omega) w
  clear hS3 hB3
  go_wp2_with (refine wpList_store_row rfl 25 (.tmp 5) (.tmp 21) rfl w2.heap.size (stC (andV v0 l)) rfl rfl 25 (stC v0) HN.out info25 rfl (stC_one _) ?_)
  refine (HPK.out _).mono ?_
  rintro e w3 ⟨⟨r, rfl, hr⟩, rfl⟩
  have hr' : r ≤ n := by omega
  obtain ⟨W, hW⟩ : ∃ W, W = (w2.alloc (.cells #[.int .i64 0, .int .i64 0, .int .i64 0, .int .i64 0, .int .i64 0, .int .i64 0, .int .i64 0, .int .i64 0, .int .i64 0, .int .i64 0, .int .i64 0, .int .i64 0, .int .i64 0, .int .i64 0, .int .i64 0, .int .i64 0, .int .i64 0, .int .i64 0, .int .i64 0] 25)).setRow w2.heap.size (stC (andV v0 l)) := ⟨_, rfl⟩
  have HSW := Lib.hid (show StAt 25 W w2.heap.size (andV v0 l) by rw [hW]; exact HS3.out)
  have HBW := Lib.hid (show Below w.heap.size w W by rw [hW]; exact HB3.out)
  have hls := HSW.out.lt
  rw [← hW]
  have HRE := Lib.hid (H.out.below HBW.out)
  have hsf := fun w => slice_from hr' hle H.out.nil hcap w
  have hst := fun w => slice_to hr' hle H.out.nil hcap w
  have hsz2 : w.heap.size ≤ W.heap.size := HBW.out.size
  clear hW hr HS3 HB3 HB1 HB2 HOF HPK HN
  have HNA := Lib.hid (adv_nil (r := r) H.out.nil hle hr')
  have HO1 := Lib.hid (show (W.alloc (.cells #[] 33)).drew.ownsRow W.heap.size 33 2 (.slice (some ⟨W.heap.size, 0, none⟩) 0 0) 0 (ecs []) from (ownsRow_new (heap_alloc_new W (.cells #[] 33)) (Nat.le_refl _) rfl rfl (by decide)))
  have HBA := Lib.hid (((Below.refl W.heap.size W).alloc (Nat.le_refl _) (.cells #[] 33)).drew)
  have HD1 := Lib.hid ((HRE.out.drop hr').below HBA.out)
  have HR1 := Lib.hid (HRE.out.drop hr')
  have HR2 := Lib.hid (HRE.out.take hr')
  generalize adv a r cap = a2 at *
  go_upto_region 7 with fail
  go_region_law (first
    | (refine step_append_any (by rfl) (.tmp 27) (.tmp 30) 26 (by rfl) W.heap.size 33 i0 _ 2 16 Tryd.underlying26 hi hz0 hz1 hz2 rfl (by omega) (.slice (some ⟨W.heap.size, 0, none⟩) 0 0) 0 (ecs []) (by rfl) HO1.out a2 (n - r) (cap - r) (ecs (l.drop r)) (by rfl) (by rw [length_ecs, HD1.out.len]) HNA.out HD1.out.at_ (ecs_one _) (by unfold maxLen; omega) (by omega) (by simp) ?_; intro v5 w5 ho5 hg5; have HO5 := Lib.hid ho5; have HB5 := Lib.hid (HBA.out.grown hg5 (by simp) (fun k e => by cases e; exact Nat.le_refl _)); have hz5 := HB5.out.size; clear ho5 hg5)
    | (refine step_append_any (by rfl) (.tmp 31) (.tmp 34) 26 (by rfl) W.heap.size 33 i0 _ 2 16 Tryd.underlying26 hi hz0 hz1 hz2 rfl (by omega) v5 (0 + (n - r)) (ecs [] ++ ecs (l.drop r)) (by rfl) HO5.out a r cap (ecs (l.take r)) (by rfl) (by rw [length_ecs, HR2.out.len]) (fun e => by have := H.out.nil e; omega) (HR2.out.below HB5.out).at_ (ecs_one _) (by unfold maxLen; omega) (by omega) (by omega) ?_; intro v6 w6 ho6 hg6; have HO6 := Lib.hid ho6; have HG6 := Lib.hid hg6; clear ho6 hg6))
  have hb6 : Below W.heap.size W w6 := HB5.out.grown HG6.out HB5.out.size (fun k e => (HO5.out.lt k e).1)
  have HB6 := Lib.hid hb6
  have hz6 := hb6.size
  obtain ⟨a6, cap6, rfl, hre6⟩ := RE.of_own (l := l.drop r ++ l.take r) (by rw [ecs_append]; have := HO6.out; simpa [ecs] using this) (by omega)
  have hnn : n - r + r = n := by omega
  rw [hnn] at hre6
  simp only [hnn, List.getElem_toArray, List.getElem_cons_succ, List.getElem_cons_zero, Act.put, List.setIfInBounds_toArray, List.set_cons_succ, List.set_cons_zero]
  have HS6 := Lib.hid (HSW.out.below hb6 hls)
  have HT6 := Lib.hid hre6
  clear hb6 hre6 HO1 HBA HD1 HO5 HB5 HO6 HG6 hz5
  go_wp2_with fail
  go_upto_region 8 with fail
  go_cut [70] from 36 to 70 (fun s70 wx => s70 = .bool false ∧ Hid (StAt 25 wx w2.heap.size (andV v0 l)) ∧ Hid (Below w6.heap.size w6 wx))
  case first =>
    have HR18 := Lib.hid fun w => right_yes (andV v0 l) (right_of l) w
    have hturn : andV v0 (l.drop r ++ l.take r) = andV v0 l := by rw [of_turned, List.take_append_drop]
    have HT6' := Lib.hid fun (w : World) (hB : Below w6.heap.size w6 w) => hturn ▸ Of_any (HT6.out.below hB)
    have hq := eq_one (andV v0 l)
    have HTK := Lib.hid fun (w : World) (hB : Below w6.heap.size w6 w) => Of_any ((HR2.out.below HB6.out).below hB)
    have HDR := Lib.hid fun (w : World) (hB : Below w6.heap.size w6 w) => Of_any ((HR1.out.below HB6.out).below hB)
    have hand : andV (andV v0 (l.take r)) (l.drop r) = andV v0 l := by rw [← andV_append, List.take_append_drop]
    have HAND := Lib.hid fun (w : World) (hB : Below w6.heap.size w6 w) => hand ▸ And_any (v := andV v0 (l.take r)) ((HR1.out.below HB6.out).below hB)
    have hsum' : stC (foldV v0 (two (andV v0 (l.take r)) (andV v0 (l.drop r))) 2) = stC (andV v0 l) := sum_two l r
    have HBS := Lib.hid (build2 (andV v0 (l.take r)) (andV v0 (l.drop r)))
    clear hturn hand
    refine region_sch (fun w' => ∃ x : Lies w6, w' = x.1) [33, 34] [([0], 1), ([2, 3, 4, 6], 5), ([7, 8, 9, 10, 11, 12, 14, 15, 16, 20], 13), ([], 17), ([], 18), ([], 19), ([21, 22, 23, 24, 25, 26, 28, 29, 30, 32], 27), ([], 31)] (by kernel_rfl) (by kernel_rfl) (lies_start w6) ?_
    have B0 := Lib.hid ((Below.refl w6.heap.size w6).drew)
    unfold schP
    simp only [pickL, List.filterMap_cons, List.filterMap_nil, List.getElem?_toArray, List.getElem?_cons_zero]
    show wpQuiet _ _ _ _ [_] _
    repeat (first | ((refine quiet_load_row (some 36) rfl rfl 25 (.tmp 5) rfl w2.heap.size rfl 25 (stC (andV v0 l)) (0, 0) _ (lies_block HS6.out) Tryd.underlying25 rfl info25 ?_); simp only [Act.put, List.setIfInBounds_toArray, List.set_cons_succ, List.set_cons_zero]) | ((refine quiet_load_row (some 42) rfl rfl 25 (.tmp 5) rfl w2.heap.size rfl 25 (stC (andV v0 l)) (0, 0) _ (lies_block HS6.out) Tryd.underlying25 rfl info25 ?_); simp only [Act.put, List.setIfInBounds_toArray, List.set_cons_succ, List.set_cons_zero]) | ((refine quiet_load_row (some 56) rfl rfl 25 (.tmp 5) rfl w2.heap.size rfl 25 (stC (andV v0 l)) (0, 0) _ (lies_block HS6.out) Tryd.underlying25 rfl info25 ?_); simp only [Act.put, List.setIfInBounds_toArray, List.set_cons_succ, List.set_cons_zero]) | ((refine quiet_load_row (some 68) rfl rfl 25 (.tmp 5) rfl w2.heap.size rfl 25 (stC (andV v0 l)) (0, 0) _ (lies_block HS6.out) Tryd.underlying25 rfl info25 ?_); simp only [Act.put, List.setIfInBounds_toArray, List.set_cons_succ, List.set_cons_zero]) | go_big_quiet_step (fail))
    refine wpQuiet_nil ?_
    refine mv_call (some 37) rfl rfl rfl (by go_simp) (HR18.out _) ?_
    intro x1 hx1
    have B1 := Lib.hid (B0.out.trans (hx1.mono (Below.size B0.out)))
    refine ⟨⟨⟨x1, B1.out⟩, rfl⟩, ?_⟩
    simp only [Act.put, List.setIfInBounds_toArray, List.set_cons_succ, List.set_cons_zero]
    unfold schP
    simp only [pickL, List.filterMap_cons, List.filterMap_nil, List.getElem?_toArray, List.getElem?_cons_zero, List.getElem?_cons_succ]
    show wpQuiet _ _ _ _ [_, _, _, _] _
    repeat (first | ((refine quiet_load_row (some 36) rfl rfl 25 (.tmp 5) rfl w2.heap.size rfl 25 (stC (andV v0 l)) (0, 0) _ (lies_block HS6.out) Tryd.underlying25 rfl info25 ?_); simp only [Act.put, List.setIfInBounds_toArray, List.set_cons_succ, List.set_cons_zero]) | ((refine quiet_load_row (some 42) rfl rfl 25 (.tmp 5) rfl w2.heap.size rfl 25 (stC (andV v0 l)) (0, 0) _ (lies_block HS6.out) Tryd.underlying25 rfl info25 ?_); simp only [Act.put, List.setIfInBounds_toArray, List.set_cons_succ, List.set_cons_zero]) | ((refine quiet_load_row (some 56) rfl rfl 25 (.tmp 5) rfl w2.heap.size rfl 25 (stC (andV v0 l)) (0, 0) _ (lies_block HS6.out) Tryd.underlying25 rfl info25 ?_); simp only [Act.put, List.setIfInBounds_toArray, List.set_cons_succ, List.set_cons_zero]) | ((refine quiet_load_row (some 68) rfl rfl 25 (.tmp 5) rfl w2.heap.size rfl 25 (stC (andV v0 l)) (0, 0) _ (lies_block HS6.out) Tryd.underlying25 rfl info25 ?_); simp only [Act.put, List.setIfInBounds_toArray, List.set_cons_succ, List.set_cons_zero]) | go_big_quiet_step (fail))
    refine wpQuiet_nil ?_
    refine mv_call (some 41) rfl rfl rfl (by go_simp) (HT6'.out _ B1.out) ?_
    intro x2 hx2
    have B2 := Lib.hid (B1.out.trans (hx2.mono (Below.size B1.out)))
    refine ⟨⟨⟨x2, B2.out⟩, rfl⟩, ?_⟩
    simp only [Act.put, List.setIfInBounds_toArray, List.set_cons_succ, List.set_cons_zero]
    unfold schP
    simp only [pickL, List.filterMap_cons, List.filterMap_nil, List.getElem?_toArray, List.getElem?_cons_zero, List.getElem?_cons_succ]
    show wpQuiet _ _ _ _ [_, _, _, _, _, _, _, _, _, _] _
    repeat (first | ((refine quiet_load_row (some 36) rfl rfl 25 (.tmp 5) rfl w2.heap.size rfl 25 (stC (andV v0 l)) (0, 0) _ (lies_block HS6.out) Tryd.underlying25 rfl info25 ?_); simp only [Act.put, List.setIfInBounds_toArray, List.set_cons_succ, List.set_cons_zero]) | ((refine quiet_load_row (some 42) rfl rfl 25 (.tmp 5) rfl w2.heap.size rfl 25 (stC (andV v0 l)) (0, 0) _ (lies_block HS6.out) Tryd.underlying25 rfl info25 ?_); simp only [Act.put, List.setIfInBounds_toArray, List.set_cons_succ, List.set_cons_zero]) | ((refine quiet_load_row (some 56) rfl rfl 25 (.tmp 5) rfl w2.heap.size rfl 25 (stC (andV v0 l)) (0, 0) _ (lies_block HS6.out) Tryd.underlying25 rfl info25 ?_); simp only [Act.put, List.setIfInBounds_toArray, List.set_cons_succ, List.set_cons_zero]) | ((refine quiet_load_row (some 68) rfl rfl 25 (.tmp 5) rfl w2.heap.size rfl 25 (stC (andV v0 l)) (0, 0) _ (lies_block HS6.out) Tryd.underlying25 rfl info25 ?_); simp only [Act.put, List.setIfInBounds_toArray, List.set_cons_succ, List.set_cons_zero]) | go_big_quiet_step (fail))
    refine wpQuiet_nil ?_
    refine mv_call (some 49) rfl rfl rfl (by go_simp) (HTK.out _ B2.out) ?_
    intro x3 hx3
    have B3 := Lib.hid (B2.out.trans (hx3.mono (Below.size B2.out)))
    refine ⟨⟨⟨x3, B3.out⟩, rfl⟩, ?_⟩
    simp only [Act.put, List.setIfInBounds_toArray, List.set_cons_succ, List.set_cons_zero]
    unfold schP
    refine wpQuiet_nil ?_
    refine mv_call (some 53) rfl rfl rfl (by go_simp) (HDR.out _ B3.out) ?_
    intro x4 hx4
    have B4 := Lib.hid (B3.out.trans (hx4.mono (Below.size B3.out)))
    refine ⟨⟨⟨x4, B4.out⟩, rfl⟩, ?_⟩
    simp only [Act.put, List.setIfInBounds_toArray, List.set_cons_succ, List.set_cons_zero]
    unfold schP
    refine wpQuiet_nil ?_
    refine mv_value (some 54) rfl rfl rfl (run_exec_buildSlice (parts := [(0, .tmp 49), (1, .tmp 53)]) (pv := [(0, .agg (stC (andV v0 (l.take r)))), (1, .agg (stC (andV v0 (l.drop r))))]) rfl rfl (HBS.out _)) ?_
    have B5 := Lib.hid (B4.out.alloc (Below.size B4.out) (.cells (stC (andV v0 (l.take r)) ++ stC (andV v0 (l.drop r))) 25))
    have HSUM := Lib.hid (hsum' ▸ Sum_any (rs_two (andV v0 (l.take r)) (andV v0 (l.drop r)) x4))
    refine ⟨⟨⟨_, B5.out⟩, rfl⟩, ?_⟩
    simp only [Act.put, List.setIfInBounds_toArray, List.set_cons_succ, List.set_cons_zero]
    unfold schP
    refine wpQuiet_nil ?_
    refine mv_call (some 55) rfl rfl rfl (by go_simp) (HSUM.out) ?_
    intro x6 hx6
    have B6 := Lib.hid (B5.out.trans (hx6.mono (Below.size B5.out)))
    refine ⟨⟨⟨x6, B6.out⟩, rfl⟩, ?_⟩
    simp only [Act.put, List.setIfInBounds_toArray, List.set_cons_succ, List.set_cons_zero]
    unfold schP
    simp only [pickL, List.filterMap_cons, List.filterMap_nil, List.getElem?_toArray, List.getElem?_cons_zero, List.getElem?_cons_succ]
    show wpQuiet _ _ _ _ [_, _, _, _, _, _, _, _, _, _] _
    repeat (first | ((refine quiet_load_row (some 36) rfl rfl 25 (.tmp 5) rfl w2.heap.size rfl 25 (stC (andV v0 l)) (0, 0) _ (lies_block HS6.out) Tryd.underlying25 rfl info25 ?_); simp only [Act.put, List.setIfInBounds_toArray, List.set_cons_succ, List.set_cons_zero]) | ((refine quiet_load_row (some 42) rfl rfl 25 (.tmp 5) rfl w2.heap.size rfl 25 (stC (andV v0 l)) (0, 0) _ (lies_block HS6.out) Tryd.underlying25 rfl info25 ?_); simp only [Act.put, List.setIfInBounds_toArray, List.set_cons_succ, List.set_cons_zero]) | ((refine quiet_load_row (some 56) rfl rfl 25 (.tmp 5) rfl w2.heap.size rfl 25 (stC (andV v0 l)) (0, 0) _ (lies_block HS6.out) Tryd.underlying25 rfl info25 ?_); simp only [Act.put, List.setIfInBounds_toArray, List.set_cons_succ, List.set_cons_zero]) | ((refine quiet_load_row (some 68) rfl rfl 25 (.tmp 5) rfl w2.heap.size rfl 25 (stC (andV v0 l)) (0, 0) _ (lies_block HS6.out) Tryd.underlying25 rfl info25 ?_); simp only [Act.put, List.setIfInBounds_toArray, List.set_cons_succ, List.set_cons_zero]) | go_big_quiet_step (fail))
    refine wpQuiet_nil ?_
    refine mv_call (some 63) rfl rfl rfl (by go_simp) (HTK.out _ B6.out) ?_
    intro x7 hx7
    have B7 := Lib.hid (B6.out.trans (hx7.mono (Below.size B6.out)))
    refine ⟨⟨⟨x7, B7.out⟩, rfl⟩, ?_⟩
    simp only [Act.put, List.setIfInBounds_toArray, List.set_cons_succ, List.set_cons_zero]
    unfold schP
    refine wpQuiet_nil ?_
    refine mv_call (some 67) rfl rfl rfl (by go_simp) (HAND.out _ B7.out) ?_
    intro x8 hx8
    have B8 := Lib.hid (B7.out.trans (hx8.mono (Below.size B7.out)))
    refine ⟨⟨⟨x8, B8.out⟩, rfl⟩, ?_⟩
    simp only [Act.put, List.setIfInBounds_toArray, List.set_cons_succ, List.set_cons_zero]
    unfold schP
    simp only [pickL, List.filterMap_cons, List.filterMap_nil, List.getElem?_toArray, List.getElem?_cons_zero, List.getElem?_cons_succ]
    show wpQuiet _ _ _ _ [_, _] _
    repeat (first | ((refine quiet_load_row (some 36) rfl rfl 25 (.tmp 5) rfl w2.heap.size rfl 25 (stC (andV v0 l)) (0, 0) _ (lies_block HS6.out) Tryd.underlying25 rfl info25 ?_); simp only [Act.put, List.setIfInBounds_toArray, List.set_cons_succ, List.set_cons_zero]) | ((refine quiet_load_row (some 42) rfl rfl 25 (.tmp 5) rfl w2.heap.size rfl 25 (stC (andV v0 l)) (0, 0) _ (lies_block HS6.out) Tryd.underlying25 rfl info25 ?_); simp only [Act.put, List.setIfInBounds_toArray, List.set_cons_succ, List.set_cons_zero]) | ((refine quiet_load_row (some 56) rfl rfl 25 (.tmp 5) rfl w2.heap.size rfl 25 (stC (andV v0 l)) (0, 0) _ (lies_block HS6.out) Tryd.underlying25 rfl info25 ?_); simp only [Act.put, List.setIfInBounds_toArray, List.set_cons_succ, List.set_cons_zero]) | ((refine quiet_load_row (some 68) rfl rfl 25 (.tmp 5) rfl w2.heap.size rfl 25 (stC (andV v0 l)) (0, 0) _ (lies_block HS6.out) Tryd.underlying25 rfl info25 ?_); simp only [Act.put, List.setIfInBounds_toArray, List.set_cons_succ, List.set_cons_zero]) | go_big_quiet_step (fail))
    refine wpQuiet_nil ?_
    go_wp2_with fail
    go_meet
    exact ⟨rfl, HS6.out.below B8.out HS6.out.lt, B8.out⟩
  obtain ⟨rfl, HS7, HB7⟩ := hcut
  have HBC := Lib.hid (HBW.out.trans ((HB6.out.trans (HB7.out.mono hz6)).mono hsz2))
  have hzc := HB7.out.size
  have hgc := HS7.out.lt
  have hlen := H.out.len
  clear HNA HRE HR1 HR2 HSW HBW HS6 HB6 HT6 HB7 hsf hst HW HT HK
  go_wp2_with fail
  go_loopw [8, 9, 10, 11, 14] (fun s8 s9 s10 s11 i wr => CntRel w wc w2.heap.size n l (andV v0 l) s8 s9 s10 s11 i wr) (fun _ _ _ _ i _ => n - (intOf i).toNat)
  case atStart =>
    have hB0 := (Below.refl wc.heap.size wc).alloc (Nat.le_refl _) (.cells (iarr 8 fun _ => 0) 22)
    have hT0 : IntsAt 22 8 (wc.alloc (.cells (iarr 8 fun _ => 0) 22)) wc.heap.size (fun _ => 0) := heap_alloc_new wc _
    have hC0 : IntsAt 23 4 ((wc.alloc (.cells (iarr 8 fun _ => 0) 22)).alloc (.cells (iarr 4 fun _ => 0) 23)) (wc.alloc (.cells (iarr 8 fun _ => 0) 22)).heap.size (fun _ => 0) := heap_alloc_new _ _
    have hB1 := hB0.alloc (show wc.heap.size ≤ _ by simp) (.cells (iarr 4 fun _ => 0) 23)
    rw [World.size_alloc] at hC0
    exact ⟨0, Nat.zero_le _, rfl, rfl, rfl, rfl, rfl, HS7.out.below hB1 hgc, hT0.below ((Below.refl _ _).alloc (Nat.le_refl _) _) (by simp), hC0, HBC.out.trans (hB1.mono (by omega))⟩
  case round =>
    obtain ⟨k, hk, rfl, rfl, rfl, rfl, rfl, hS, hT, hC, hB⟩ := hrel
    have hzw := HBC.out.size
    have p0 := tot_bound (i := 0) (by omega) (l := l) (k := k)
    have p15 := tot_bound (i := 15) (by omega) (l := l) (k := k)
    have p16 := tot_bound (i := 16) (by omega) (l := l) (k := k)
    have p17 := tot_bound (i := 17) (by omega) (l := l) (k := k)
    have q9 : 0 ≤ min (tot 1 (l.take k)) 2147483647 ∧ min (tot 1 (l.take k)) 2147483647 ≤ 2147483647 := by have := tot_0 1 (l.take k); omega
    have q10 : 0 ≤ min (tot 18 (l.take k)) 2147483647 ∧ min (tot 18 (l.take k)) 2147483647 ≤ 2147483647 := by have := tot_0 18 (l.take k); omega
    have HS := Lib.hid hS
    have HT := Lib.hid hT
    have HC := Lib.hid hC
    have HB := Lib.hid hB
    have hz1 := hC.lt
    clear hS hT hC hB
    by_cases hk1 : k < n
    · obtain ⟨b, off, x, y, rfl, hx, e0, e1⟩ := (H.out.below HB.out).two hk1
      have HX := Lib.hid hx
      have s0 := Lib.hid (tot_snoc hx 0)
      have s15 := Lib.hid (tot_snoc hx 15)
      have s16 := Lib.hid (tot_snoc hx 16)
      have s17 := Lib.hid (tot_snoc hx 17)
      have s1 := Lib.hid (min_snoc hx 1)
      have s18 := Lib.hid (min_snoc hx 18)
      have hb := Lib.hid (may_any x y wr)
      generalize tot 0 (l.take k) = t0 at *
      generalize tot 15 (l.take k) = t15 at *
      generalize tot 16 (l.take k) = t16 at *
      generalize tot 17 (l.take k) = t17 at *
      generalize min (tot 1 (l.take k)) 2147483647 = m9 at *
      generalize min (tot 18 (l.take k)) 2147483647 = m10 at *
      clear hx
      by_cases hm : mayI x y = true
      · rw [hm] at hb
        have HM := Lib.hid hm
        have hmc := may_cases hm
        clear hm
        go_wp2_with fail
        refine hb.out.mono ?_
        rintro e w2' ⟨rfl, hB2⟩
        have HB2 := Lib.hid hB2
        clear hB2
        obtain ⟨b', off', x', y', ea, hx', c0, c1⟩ := (H.out.below (HB.out.trans (HB2.out.mono HB.out.size))).two hk1
        cases ea
        rw [HX.out] at hx'
        cases hx'
        have HS2 := Lib.hid (HS.out.below HB2.out HS.out.lt)
        have HT2 := Lib.hid (HT.out.below HB2.out HT.out.lt)
        have HC2 := Lib.hid (HC.out.below HB2.out HC.out.lt)
        have HBX := Lib.hid (HB.out.trans (HB2.out.mono HB.out.size))
        clear e0 e1 hb HS HT HC HB HB2
        rcases hmc with ⟨rfl | rfl, hy⟩ | ⟨rfl, hy⟩ | ⟨rfl, hy⟩ | ⟨hk456, rfl⟩
        · have EV := Lib.hid fun i => evC_k1 (i := i) HM.out
          go_wp2_with fail
          go_roundw
          case rel =>
            refine ⟨k + 1, by omega, by go_num, ?_, ?_, ?_, ?_, HS2.out, ?_, ?_, HBX.out⟩
            · rw [s0.out, EV.out]; ((congr 1; repeat' split) <;> omega)
            · rw [s1.out, EV.out]; ((congr 1; repeat' split) <;> omega)
            · rw [s18.out, EV.out]; ((congr 1; repeat' split) <;> omega)
            · rw [s15.out, s16.out, s17.out, EV.out, EV.out, EV.out]; ((congr 1; repeat' split) <;> omega)
            · exact HT2.out.congr fun j hj => by rw [tot_snoc HX.out, EV.out]; rw [if_neg (by omega), if_neg (by omega)]; exact (Int.add_zero _).symm
            · exact HC2.out.congr fun j hj => by rw [tot_snoc HX.out, EV.out]; rw [if_neg (by omega), if_neg (by omega)]; exact (Int.add_zero _).symm
          case measure => simp [intOf]; omega
        · have EV := Lib.hid fun i => evC_k7 (i := i) HM.out
          go_wp2_with fail
          go_roundw
          case rel =>
            refine ⟨k + 1, by omega, by go_num, ?_, ?_, ?_, ?_, HS2.out, ?_, ?_, HBX.out⟩
            · rw [s0.out, EV.out]; ((congr 1; repeat' split) <;> omega)
            · rw [s1.out, EV.out]; ((congr 1; repeat' split) <;> omega)
            · rw [s18.out, EV.out]; ((congr 1; repeat' split) <;> omega)
            · rw [s15.out, s16.out, s17.out, EV.out, EV.out, EV.out]; ((congr 1; repeat' split) <;> omega)
            · exact HT2.out.congr fun j hj => by rw [tot_snoc HX.out, EV.out]; rw [if_neg (by omega)]; exact (Int.add_zero _).symm
            · exact HC2.out.congr fun j hj => by rw [tot_snoc HX.out, EV.out]; rw [if_neg (by omega)]; exact (Int.add_zero _).symm
          case measure => simp [intOf]; omega
        · obtain ⟨m, rfl⟩ := Int.eq_ofNat_of_zero_le (show 0 ≤ y by omega)
          have EV := Lib.hid fun i => evC_k2 (i := i) HM.out
          have hm8 : m < 8 := by omega
          have d0 := HT2.out.cell hm8
          have d1 := HT2.out.froz m
          have pm := tot_bound (i := 3 + m) (by omega) (l := l) (k := k)
          go_wp2_with fail
          go_roundw
          case rel =>
            refine ⟨k + 1, by omega, by go_num, ?_, ?_, ?_, ?_, (HS2.out.other (by omega)), ?_, ?_, (HBX.out.setCell (by show w.heap.size ≤ _; omega) _)⟩
            · rw [s0.out, EV.out]; ((congr 1; repeat' split) <;> omega)
            · rw [s1.out, EV.out]; ((congr 1; repeat' split) <;> omega)
            · rw [s18.out, EV.out]; ((congr 1; repeat' split) <;> omega)
            · rw [s15.out, s16.out, s17.out, EV.out, EV.out, EV.out]; ((congr 1; repeat' split) <;> omega)
            · exact (HT2.out.set _ hm8).congr fun j hj => by rw [tot_snoc HX.out, EV.out]; unfold upd; ((repeat' split) <;> first | omega | (subst j; omega) | exact (Int.add_zero _).symm)
            · exact (HC2.out.other (by omega)).congr fun j hj => by rw [tot_snoc HX.out, EV.out]; rw [if_neg (by omega), if_neg (by omega)]; exact (Int.add_zero _).symm
          case measure => simp [intOf]; omega
        · obtain ⟨m, rfl⟩ := Int.eq_ofNat_of_zero_le (show 0 ≤ y by omega)
          have EV := Lib.hid fun i => evC_k3 (i := i) HM.out
          have hm4 : m < 4 := by omega
          have d0 := HC2.out.cell hm4
          have d1 := HC2.out.froz m
          have pm := tot_bound (i := 11 + m) (by omega) (l := l) (k := k)
          go_wp2_with fail
          go_roundw
          case rel =>
            refine ⟨k + 1, by omega, by go_num, ?_, ?_, ?_, ?_, (HS2.out.other (by omega)), ?_, ?_, (HBX.out.setCell (Nat.le_trans hzw (Nat.le_succ _)) _)⟩
            · rw [s0.out, EV.out]; ((congr 1; repeat' split) <;> omega)
            · rw [s1.out, EV.out]; ((congr 1; repeat' split) <;> omega)
            · rw [s18.out, EV.out]; ((congr 1; repeat' split) <;> omega)
            · rw [s15.out, s16.out, s17.out, EV.out, EV.out, EV.out]; ((congr 1; repeat' split) <;> omega)
            · exact (HT2.out.other (by omega)).congr fun j hj => by rw [tot_snoc HX.out, EV.out]; rw [if_neg (by omega)]; exact (Int.add_zero _).symm
            · exact (HC2.out.set _ hm4).congr fun j hj => by rw [tot_snoc HX.out, EV.out]; unfold upd; ((repeat' split) <;> first | omega | (subst j; omega) | exact (Int.add_zero _).symm)
          case measure => simp [intOf]; omega
        · have EV := Lib.hid fun i => evC_k456 (i := i) HM.out hk456
          rcases hk456 with rfl | rfl | rfl
          all_goals
            go_wp2_with fail
            go_roundw
            case rel =>
              refine ⟨k + 1, by omega, by go_num, ?_, ?_, ?_, ?_, HS2.out, ?_, ?_, HBX.out⟩
              · rw [s0.out, EV.out]; ((congr 1; repeat' split) <;> omega)
              · rw [s1.out, EV.out]; ((congr 1; repeat' split) <;> omega)
              · rw [s18.out, EV.out]; ((congr 1; repeat' split) <;> omega)
              · rw [s15.out, s16.out, s17.out, EV.out, EV.out, EV.out]; ((congr 1; repeat' split) <;> omega)
              · exact HT2.out.congr fun j hj => by rw [tot_snoc HX.out, EV.out]; simp; omega
              · exact HC2.out.congr fun j hj => by rw [tot_snoc HX.out, EV.out]; simp; omega
            case measure => simp [intOf]; omega
      · rw [show mayI x y = false by simpa using hm] at hb
        have HM := Lib.hid (show mayI x y = false by simpa using hm)
        clear hm
        go_wp2_with fail
        refine hb.out.mono ?_
        rintro e w3 ⟨rfl, hB2⟩
        have HB2 := Lib.hid hB2
        clear hB2
        go_wp2_with fail
        go_roundw
        case rel =>
          refine ⟨k + 1, by omega, by go_num, ?_, ?_, ?_, ?_, HS.out.below HB2.out HS.out.lt, ?_, ?_, HB.out.trans (HB2.out.mono HB.out.size)⟩
          · rw [s0.out, evC_no HM.out, Int.add_zero]
          · rw [s1.out, evC_no HM.out, Int.add_zero]; congr 1; omega
          · rw [s18.out, evC_no HM.out, Int.add_zero]; congr 1; omega
          · rw [s15.out, s16.out, s17.out, evC_no HM.out, evC_no HM.out, evC_no HM.out]; simp only [Int.add_zero]
          · exact (HT.out.below HB2.out HT.out.lt).congr fun j _ => by rw [tot_snoc HX.out, evC_no HM.out, Int.add_zero]
          · exact (HC.out.below HB2.out HC.out.lt).congr fun j _ => by rw [tot_snoc HX.out, evC_no HM.out, Int.add_zero]
        case measure => simp [intOf]; omega
    · obtain rfl : k = n := by omega
      have hV : l.take k = l := List.take_of_length_le (by rw [hlen]; exact Nat.le_refl _)
      rw [hV] at p0 p15 p16 p17 q9 q10 HT HC
      rw [hV]
      have c0 := HS.out.cell (k := 0) (by omega)
      have c1 := HS.out.cell (k := 1) (by omega)
      have c15 := HS.out.cell (k := 15) (by omega)
      have c16 := HS.out.cell (k := 16) (by omega)
      have c17 := HS.out.cell (k := 17) (by omega)
      have c18 := HS.out.cell (k := 18) (by omega)
      rw [of_min] at c0 c1 c15 c16 c17 c18
      rw [show min (tot 0 l) 2147483647 = tot 0 l by omega] at c0
      rw [show min (tot 15 l) 2147483647 = tot 15 l by omega] at c15
      rw [show min (tot 16 l) 2147483647 = tot 16 l by omega] at c16
      rw [show min (tot 17 l) 2147483647 = tot 17 l by omega] at c17
      have hle2 : l.length ≤ 500 := by omega
      have c3 : wr.cell? ⟨w2.heap.size, 3, none⟩ = some (.int .i64 (tot 3 l)) := by rw [HS.out.cell (k := 3) (by omega), of_min]; have := tot_le (i := 3) (by omega) l; rw [show min (tot 3 l) 2147483647 = tot 3 l by omega]
      have d3 : wr.cell? ⟨wc.heap.size, 0, none⟩ = some (.int .i64 (tot 3 l)) := HT.out.cell (j := 0) (by omega)
      have c4 : wr.cell? ⟨w2.heap.size, 4, none⟩ = some (.int .i64 (tot 4 l)) := by rw [HS.out.cell (k := 4) (by omega), of_min]; have := tot_le (i := 4) (by omega) l; rw [show min (tot 4 l) 2147483647 = tot 4 l by omega]
      have d4 : wr.cell? ⟨wc.heap.size, 1, none⟩ = some (.int .i64 (tot 4 l)) := HT.out.cell (j := 1) (by omega)
      have c5 : wr.cell? ⟨w2.heap.size, 5, none⟩ = some (.int .i64 (tot 5 l)) := by rw [HS.out.cell (k := 5) (by omega), of_min]; have := tot_le (i := 5) (by omega) l; rw [show min (tot 5 l) 2147483647 = tot 5 l by omega]
      have d5 : wr.cell? ⟨wc.heap.size, 2, none⟩ = some (.int .i64 (tot 5 l)) := HT.out.cell (j := 2) (by omega)
      have c6 : wr.cell? ⟨w2.heap.size, 6, none⟩ = some (.int .i64 (tot 6 l)) := by rw [HS.out.cell (k := 6) (by omega), of_min]; have := tot_le (i := 6) (by omega) l; rw [show min (tot 6 l) 2147483647 = tot 6 l by omega]
      have d6 : wr.cell? ⟨wc.heap.size, 3, none⟩ = some (.int .i64 (tot 6 l)) := HT.out.cell (j := 3) (by omega)
      have c7 : wr.cell? ⟨w2.heap.size, 7, none⟩ = some (.int .i64 (tot 7 l)) := by rw [HS.out.cell (k := 7) (by omega), of_min]; have := tot_le (i := 7) (by omega) l; rw [show min (tot 7 l) 2147483647 = tot 7 l by omega]
      have d7 : wr.cell? ⟨wc.heap.size, 4, none⟩ = some (.int .i64 (tot 7 l)) := HT.out.cell (j := 4) (by omega)
      have c8 : wr.cell? ⟨w2.heap.size, 8, none⟩ = some (.int .i64 (tot 8 l)) := by rw [HS.out.cell (k := 8) (by omega), of_min]; have := tot_le (i := 8) (by omega) l; rw [show min (tot 8 l) 2147483647 = tot 8 l by omega]
      have d8 : wr.cell? ⟨wc.heap.size, 5, none⟩ = some (.int .i64 (tot 8 l)) := HT.out.cell (j := 5) (by omega)
      have c9 : wr.cell? ⟨w2.heap.size, 9, none⟩ = some (.int .i64 (tot 9 l)) := by rw [HS.out.cell (k := 9) (by omega), of_min]; have := tot_le (i := 9) (by omega) l; rw [show min (tot 9 l) 2147483647 = tot 9 l by omega]
      have d9 : wr.cell? ⟨wc.heap.size, 6, none⟩ = some (.int .i64 (tot 9 l)) := HT.out.cell (j := 6) (by omega)
      have c10 : wr.cell? ⟨w2.heap.size, 10, none⟩ = some (.int .i64 (tot 10 l)) := by rw [HS.out.cell (k := 10) (by omega), of_min]; have := tot_le (i := 10) (by omega) l; rw [show min (tot 10 l) 2147483647 = tot 10 l by omega]
      have d10 : wr.cell? ⟨wc.heap.size, 7, none⟩ = some (.int .i64 (tot 10 l)) := HT.out.cell (j := 7) (by omega)
      have c11 : wr.cell? ⟨w2.heap.size, 11, none⟩ = some (.int .i64 (tot 11 l)) := by rw [HS.out.cell (k := 11) (by omega), of_min]; have := tot_le (i := 11) (by omega) l; rw [show min (tot 11 l) 2147483647 = tot 11 l by omega]
      have d11 : wr.cell? ⟨wc.heap.size + 1, 0, none⟩ = some (.int .i64 (tot 11 l)) := HC.out.cell (j := 0) (by omega)
      have c12 : wr.cell? ⟨w2.heap.size, 12, none⟩ = some (.int .i64 (tot 12 l)) := by rw [HS.out.cell (k := 12) (by omega), of_min]; have := tot_le (i := 12) (by omega) l; rw [show min (tot 12 l) 2147483647 = tot 12 l by omega]
      have d12 : wr.cell? ⟨wc.heap.size + 1, 1, none⟩ = some (.int .i64 (tot 12 l)) := HC.out.cell (j := 1) (by omega)
      have c13 : wr.cell? ⟨w2.heap.size, 13, none⟩ = some (.int .i64 (tot 13 l)) := by rw [HS.out.cell (k := 13) (by omega), of_min]; have := tot_le (i := 13) (by omega) l; rw [show min (tot 13 l) 2147483647 = tot 13 l by omega]
      have d13 : wr.cell? ⟨wc.heap.size + 1, 2, none⟩ = some (.int .i64 (tot 13 l)) := HC.out.cell (j := 2) (by omega)
      have c14 : wr.cell? ⟨w2.heap.size, 14, none⟩ = some (.int .i64 (tot 14 l)) := by rw [HS.out.cell (k := 14) (by omega), of_min]; have := tot_le (i := 14) (by omega) l; rw [show min (tot 14 l) 2147483647 = tot 14 l by omega]
      have d14 : wr.cell? ⟨wc.heap.size + 1, 3, none⟩ = some (.int .i64 (tot 14 l)) := HC.out.cell (j := 3) (by omega)
      have hq8 : ∀ w, (Op.equalIn 10000 22 (.agg #[.int .i64 (tot 3 l), .int .i64 (tot 4 l), .int .i64 (tot 5 l), .int .i64 (tot 6 l), .int .i64 (tot 7 l), .int .i64 (tot 8 l), .int .i64 (tot 9 l), .int .i64 (tot 10 l)]) (.agg #[.int .i64 (tot 3 l), .int .i64 (tot 4 l), .int .i64 (tot 5 l), .int .i64 (tot 6 l), .int .i64 (tot 7 l), .int .i64 (tot 8 l), .int .i64 (tot 9 l), .int .i64 (tot 10 l)])).run Tryd.prog w = .ok true w := eq_iarr (t := 22) (n := 8) Tryd.underlying22 (fun j => tot (3 + j) l)
      have hq4 : ∀ w, (Op.equalIn 10000 23 (.agg #[.int .i64 (tot 11 l), .int .i64 (tot 12 l), .int .i64 (tot 13 l), .int .i64 (tot 14 l)]) (.agg #[.int .i64 (tot 11 l), .int .i64 (tot 12 l), .int .i64 (tot 13 l), .int .i64 (tot 14 l)])).run Tryd.prog w = .ok true w := eq_iarr (t := 23) (n := 4) Tryd.underlying23 (fun j => tot (11 + j) l)
      clear HT HC
      generalize tot 0 l = t0 at *
      generalize tot 3 l = t3 at *
      generalize tot 4 l = t4 at *
      generalize tot 5 l = t5 at *
      generalize tot 6 l = t6 at *
      generalize tot 7 l = t7 at *
      generalize tot 8 l = t8 at *
      generalize tot 9 l = t9 at *
      generalize tot 10 l = t10 at *
      generalize tot 11 l = t11 at *
      generalize tot 12 l = t12 at *
      generalize tot 13 l = t13 at *
      generalize tot 14 l = t14 at *
      generalize tot 15 l = t15 at *
      generalize tot 16 l = t16 at *
      generalize tot 17 l = t17 at *
      generalize min (tot 1 l) 2147483647 = m9 at *
      generalize min (tot 18 l) 2147483647 = m10 at *
      clear hlen
      go_wp2_with fail
      go_ret
      exact ⟨rfl, HB.out⟩
end Go.Proofs.YtfojhmobnedekaaDoor
