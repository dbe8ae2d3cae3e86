/- The walks of the past's order and of its small functions; a map as a set of numbers. No condition beyond each law's own. -/
import Derived.Maps.OwnSet
import Derived.Test.YtfojhmobnedekaaWire14
import Derived.BigRegion
namespace Go.Proofs.Ytfojhmobnedekaa
open Go.RowKit

/-- A frame: its deadline, its number. -/
structure Fr where
  d : Int
  n : Int
instance : Inhabited Fr := ⟨⟨0, 0⟩⟩
instance : DecidableEq Fr := fun a b => if h : a.d = b.d ∧ a.n = b.n then isTrue (by cases a; cases b; simp at h; simp [h]) else isFalse (fun e => h (by rw [e]; exact ⟨rfl, rfl⟩))
def Fr.v (x : Fr) : Value := .agg #[.int .i64 x.d, .int .i64 x.n]
def Fr.lt (x y : Fr) : Prop := x.d < y.d ∨ (x.d = y.d ∧ x.n < y.n)
instance (x y : Fr) : Decidable (x.lt y) := by unfold Fr.lt; infer_instance
theorem ordI_lt {d q d2 q2 : Int} : ordI d q d2 q2 < 0 ↔ d < d2 ∨ (d = d2 ∧ q < q2) := by
  unfold ordI orI cmpI
  by_cases h1 : d < d2
  · simp [h1]
  · by_cases h2 : d2 < d
    · simp [h1, h2]; omega
    · obtain rfl : d = d2 := by omega
      by_cases h3 : q < q2
      · simp [h3]
      · by_cases h4 : q2 < q
        · simp [h3, h4]
        · simp [h3, h4]

set_option maxHeartbeats 1600000 in
set_option maxRecDepth 100000 in
theorem forder_any {w : World} (x y : Fr) : Calls Try.prog 77 #[x.v, y.v] w fun e w' => e = .returned (.int .i64 (ordI x.d x.n y.d y.n)) ∧ Below w.heap.size w w' := by
  obtain ⟨d, q⟩ := x
  obtain ⟨d2, q2⟩ := y
  have HC := Lib.hid fun (W : World) x y => Compare_any (w := W) x y
  unfold Fr.v ordI
  go_enter Try.func77, Try.ntmps77
  go_wp2_with fail
  refine region_quiet_tail 10 (by rfl) (by decide +kernel) ?_
  simp only [List.take_succ_cons, List.take_zero, List.drop_succ_cons, List.drop_zero]
  repeat (go_big_quiet_step ((go_at_call 106; exact quiet_same (HC.out _ _ _))))
  refine wpQuiet_nil ?_
  intro _ hw'
  obtain ⟨nq, rfl⟩ := hw'
  go_wp2_with fail
  have hn := heap_alloc_new (((w.alloc (.cells #[.int .i64 d, .int .i64 q] 149)).alloc (.cells #[.int .i64 d2, .int .i64 q2] 149)).drewN nq) (.cells #[.int .i64 (cmpI d d2), .int .i64 (cmpI q q2)] 3)
  rw [show (((w.alloc (.cells #[.int .i64 d, .int .i64 q] 149)).alloc (.cells #[.int .i64 d2, .int .i64 q2] 149)).drewN nq).heap.size = w.heap.size + 1 + 1 by simp] at hn
  have hb : Below w.heap.size w ((((w.alloc (.cells #[.int .i64 d, .int .i64 q] 149)).alloc (.cells #[.int .i64 d2, .int .i64 q2] 149)).drewN nq).alloc (.cells #[.int .i64 (cmpI d d2), .int .i64 (cmpI q q2)] 3)) := (below_drewN (((Below.refl _ _).alloc (Nat.le_refl _) _).alloc (by simp) _) nq).alloc (by simp; omega) _
  have hc := Or_two ((cell_of_block hn).trans rfl) ((cell_of_block hn).trans rfl)
  generalize (((w.alloc (.cells #[.int .i64 d, .int .i64 q] 149)).alloc (.cells #[.int .i64 d2, .int .i64 q2] 149)).drewN nq).alloc (.cells #[.int .i64 (cmpI d d2), .int .i64 (cmpI q q2)] 3) = W at *
  refine hc.mono ?_
  rintro e w2 ⟨rfl, rfl⟩
  have HB := Lib.hid hb
  clear hb hn hc
  go_wp2_with fail
  go_ret
  exact ⟨rfl, HB.out⟩
set_option maxHeartbeats 1600000 in
set_option maxRecDepth 100000 in
theorem fless_any {w : World} (x y : Fr) : Calls Try.prog 76 #[x.v, y.v] w fun e w' => e = .returned (.bool (decide (x.lt y))) ∧ Below w.heap.size w w' := by
  obtain ⟨r, hr0⟩ : ∃ r, r = ordI x.d x.n y.d y.n := ⟨_, rfl⟩
  have HO : Hid (∀ W : World, Calls Try.prog 77 #[x.v, y.v] W fun e w' => e = .returned (.int .i64 r) ∧ Below W.heap.size W w') := by
    rw [hr0]; exact fun W => forder_any (w := W) x y
  have HR : Hid (decide (x.lt y) = decide (r < 0)) := by rw [hr0]; exact decide_eq_decide.2 ordI_lt.symm
  have hb : Below w.heap.size w ((w.alloc (.cells #[.int .i64 x.d, .int .i64 x.n] 149)).alloc (.cells #[.int .i64 y.d, .int .i64 y.n] 149)) := ((Below.refl _ _).alloc (Nat.le_refl _) _).alloc (by simp) _
  have HB := Lib.hid hb
  clear hr0 hb
  unfold Fr.v at *
  go_enter Try.func76, Try.ntmps76
  go_wp2_with fail
  refine (HO.out _).mono ?_
  rintro e w2 ⟨rfl, hB2⟩
  have HB2 := Lib.hid (HB.out.trans (hB2.mono HB.out.size))
  clear hB2 HO HB
  go_wp2_with fail
  go_ret
  exact ⟨by rw [HR.out]; rfl, HB2.out⟩
set_option maxRecDepth 100000 in
theorem isfr_any {w : World} (x : Fr) {bn : Nat} {now : Int} (h : w.cell? ⟨bn, 0, none⟩ = some (.int .i64 now)) : Calls Try.prog 85 #[x.v, .pointer (some ⟨bn, 0, none⟩)] w fun e w' => e = .returned (.bool (decide (x.d ≤ now))) ∧ Below w.heap.size w w' := by
  have hb : Below w.heap.size w (w.alloc (.cells #[.int .i64 x.d, .int .i64 x.n] 149)) := (Below.refl _ _).alloc (Nat.le_refl _) _
  have h2 := (hb.cell (block_lt_of_cell h)).trans h
  have HB := Lib.hid hb
  clear hb h
  unfold Fr.v
  go_enter Try.func85, Try.ntmps85
  go_wp2_with fail
  go_ret
  exact ⟨rfl, HB.out⟩
theorem number_any (w : World) (n : Int) (h : -9223372036854775808 ≤ n ∧ n ≤ 9223372036854775807) : Calls Try.prog 79 #[.int .i64 n] w fun e w' => e = .returned (.bool (decide (0 ≤ n ∧ n ≤ 2147483647))) ∧ w = w' := by
  have hw : IntKind.u64.wrap n = if 0 ≤ n then n else n + 18446744073709551616 := by
    have e : IntKind.u64.wrap n = n % 18446744073709551616 := by simp [IntKind.wrap, IntKind.signed, IntKind.bits]
    rw [e]
    split <;> omega
  by_cases h0 : 0 ≤ n
  · rw [if_pos h0] at hw
    go_enter Try.func79, Try.ntmps79
    go_wp2_with fail
    go_ret
    refine ⟨?_, rfl⟩
    congr 2
    simp [h0]
  · rw [if_neg h0] at hw
    go_enter Try.func79, Try.ntmps79
    go_wp2_with fail
    go_ret
    refine ⟨?_, rfl⟩
    have e1 : decide (n + 18446744073709551616 ≤ 2147483647) = false := decide_eq_false (by omega)
    have e3 : decide (0 ≤ n) = false := decide_eq_false (by omega)
    first
      | (rw [show decide (0 ≤ n ∧ n ≤ 2147483647) = false from decide_eq_false (by omega)]
         show Ending.returned (.bool (decide (n + 18446744073709551616 ≤ 2147483647))) = _
         rw [e1])
      | (congr 1
         show Value.bool (decide (n + 18446744073709551616 ≤ 2147483647)) = _
         rw [e1, e3]; rfl)

theorem law3 : Maps.Keyed Try.prog 3 := Maps.int_keyed Try.underlying3
theorem zero3 (w : World) : (zeroValue 3).run Try.prog w = .ok (.int .i64 0) w := by kernel_rfl
/-- A map that holds 1 at each of some numbers, and nothing else. -/
def MapOf (m : Nat) (S : List Int) (w : World) : Prop := S.Nodup ∧ ∃ D : DataW Unit, w.ownsMap Try.prog 3 (plainElem Try.prog 3) m S.length D ∧ Maps.size D = S.length ∧ ∀ x, (Lit.int .i64 x).wf = true → Maps.has D (.int .i64 x) = decide (x ∈ S) ∧ D.atKey (.int .i64 x) (.lit (.int .i64 0)) = .lit (.int .i64 (if x ∈ S then 1 else 0))
theorem MapOf.lt {m : Nat} {S : List Int} {w : World} (h : MapOf m S w) : m < w.heap.size := by
  obtain ⟨_, D, h1, _⟩ := h; exact h1.lt
theorem MapOf.of_block {m : Nat} {S : List Int} {w w' : World} (h : MapOf m S w) (hk : w'.heap[m]? = w.heap[m]?) : MapOf m S w' := by
  obtain ⟨h0, D, ⟨es, clock, hb, r⟩, h2⟩ := h
  exact ⟨h0, D, ⟨es, clock, hk.trans hb, r⟩, h2⟩
theorem MapOf.perm {m : Nat} {S T : List Int} {w : World} (h : MapOf m S w) (hp : S.Perm T) : MapOf m T w := by
  obtain ⟨h0, D, h1, h2, h3⟩ := h
  refine ⟨hp.nodup_iff.1 h0, D, by rw [← hp.length_eq]; exact h1, by rw [← hp.length_eq]; exact h2, fun x hx => ?_⟩
  have e : (x ∈ S) = (x ∈ T) := propext hp.mem_iff
  have := h3 x hx
  rw [← decide_eq_decide.2 (show x ∈ S ↔ x ∈ T from hp.mem_iff)]
  refine ⟨this.1, ?_⟩
  rw [this.2]
  by_cases hm : x ∈ S
  · rw [if_pos hm, if_pos (hp.mem_iff.1 hm)]
  · rw [if_neg hm, if_neg (fun h => hm (hp.mem_iff.2 h))]
theorem own_tight {m n : Nat} {D : DataW Unit} {w : World} (h : w.ownsMap Try.prog 3 (plainElem Try.prog 3) m n D) : w.ownsMap Try.prog 3 (plainElem Try.prog 3) m (Maps.size D) D := by
  obtain ⟨es, clock, hb, F, hs, rfl⟩ := h
  refine ⟨es, clock, hb, F, ?_, rfl⟩
  rw [Maps.size_eq, length_sorted]; simp
theorem MapOf.made (w : World) : MapOf w.heap.size [] (w.alloc (.map #[] 0)) :=
  ⟨List.nodup_nil, .map [], World.ownsMap_made _ _ _ _, rfl, fun _ _ => ⟨rfl, rfl⟩⟩
theorem MapOf.look {m : Nat} {S : List Int} {w : World} (h : MapOf m S w) {x : Int} (hx : (Lit.int .i64 x).wf = true) : (Instr.lookup 155 (.map (some m)) (.int .i64 x) false).run Try.prog w = .ok (.int .i64 (if x ∈ S then 1 else 0)) w := by
  obtain ⟨_, D, h1, _, h3⟩ := h
  obtain ⟨c, hrun, hat, _⟩ := h1.lookup_int law3 Try.underlying155 Try.underlying3 (zero3 w) (Maps.keyOf_int_mk Try.underlying3 hx)
  have he : DataW.lit (H := Unit) (Lit.int .i64 (if x ∈ S then 1 else 0)) = .lit (.int .i64 c) := (h3 x hx).2.symm.trans hat
  have he2 : (if x ∈ S then (1 : Int) else 0) = c := (Lit.int.inj (DataW.lit.inj he)).2
  rw [he2]; exact hrun
theorem MapOf.size {m : Nat} {S : List Int} {w : World} (h : MapOf m S w) (ty : TypeId) : (Builtin.len_ #[155] ty #[.map (some m)]).run Try.prog w = .ok (.int .i64 (S.length : Nat)) w := by
  obtain ⟨_, D, h1, h2, _⟩ := h
  rw [h1.len Try.underlying155 ty, h2]
theorem key_ne {x y : Int} (h : x ≠ y) : (Lit.int .i64 x) ≠ .int .i64 y := fun e => h (by injection e)
theorem MapOf.put {m : Nat} {S : List Int} {w : World} (h : MapOf m S w) {x : Int} (hx : (Lit.int .i64 x).wf = true) (hn : x ∉ S) (hs : S.length ≤ 1000000) : ∃ w', (Instr.mapUpdate 155 (.map (some m)) (.int .i64 x) (.int .i64 1)).run Try.prog w = .ok () w' ∧ MapOf m (x :: S) w' ∧ w.grownBy w' (some m) ∧ w'.heap.size = w.heap.size := by
  obtain ⟨h0, D, h1, h2, h3⟩ := h
  have hkey := Maps.keyOf_int_mk Try.underlying3 hx
  obtain ⟨w', hrun, k1, k2⟩ := h1.store law3 Try.underlying155 (by unfold maxLen; omega) hkey (plainElem_int Try.underlying3 (show (Lit.int .i64 1).wf = true by decide))
  have hk := law3.key hkey
  refine ⟨w', hrun, ⟨List.nodup_cons.2 ⟨hn, h0⟩, D.put (.int .i64 x) (.lit (.int .i64 1)), ?_, ?_, fun y hy => ?_⟩, k2.grown, ?_⟩
  · have hsz := Maps.size_put (k := .int .i64 x) (h1.tidy law3) (.lit (.int .i64 1))
    rw [(h3 x hx).1, decide_eq_false hn] at hsz
    have := own_tight k1
    rw [hsz, h2] at this
    exact this
  · rw [Maps.size_put (h1.tidy law3), (h3 x hx).1, decide_eq_false hn, h2]; rfl
  · by_cases e : y = x
    · subst e
      exact ⟨by rw [Maps.has_put_same h1.isMap hk]; simp, by rw [Maps.atKey_put_same h1.isMap hk]; simp⟩
    · rw [Maps.has_put_other (key_ne e), Maps.atKey_put_other (key_ne e), (h3 y hy).1, (h3 y hy).2]
      simp [e]
  · obtain ⟨_, _, _, _, _, e⟩ := k2
    rw [e]; simp [ChangeMaps.setBlock]
theorem MapOf.del {m : Nat} {S : List Int} {w : World} (h : MapOf m S w) {x : Int} (hx : (Lit.int .i64 x).wf = true) (hn : x ∈ S) (ty : TypeId) : ∃ w', (Builtin.delete_ #[155, 3] ty #[.map (some m), .int .i64 x]).run Try.prog w = .ok (.tuple #[]) w' ∧ MapOf m (S.erase x) w' ∧ w.grownBy w' (some m) ∧ w'.heap.size = w.heap.size := by
  obtain ⟨h0, D, h1, h2, h3⟩ := h
  have hkey := Maps.keyOf_int_mk Try.underlying3 hx
  obtain ⟨w', hrun, k1, k2⟩ := h1.drop law3 Try.underlying155 hkey ty
  have hsz := Maps.size_del (k := .int .i64 x) (h1.tidy law3)
  rw [(h3 x hx).1, decide_eq_true hn, h2] at hsz
  have hel : (S.erase x).length = S.length - 1 := List.length_erase_of_mem hn
  have hpos : 0 < S.length := List.length_pos_of_mem hn
  have hsz2 : Maps.size (D.del (.int .i64 x)) = (S.erase x).length := by rw [hel]; simp at hsz; omega
  refine ⟨w', hrun, ⟨h0.erase x, D.del (.int .i64 x), ?_, hsz2, fun y hy => ?_⟩, k2.grown, ?_⟩
  · have := own_tight k1
    rw [hsz2] at this; exact this
  · by_cases e : y = x
    · subst e
      have hno : y ∉ S.erase y := fun hm => by rw [h0.mem_erase_iff] at hm; exact hm.1 rfl
      exact ⟨by rw [Maps.has_del_same, decide_eq_false hno], by rw [Maps.atKey_del_same, if_neg hno]⟩
    · rw [Maps.has_del_other (key_ne e), Maps.atKey_del_other (key_ne e), (h3 y hy).1, (h3 y hy).2]
      have e2 : y ∈ S.erase x ↔ y ∈ S := List.mem_erase_of_ne e
      rw [decide_eq_decide.2 e2]
      refine ⟨rfl, ?_⟩
      by_cases hm : y ∈ S
      · rw [if_pos hm, if_pos (e2.2 hm)]
      · rw [if_neg hm, if_neg (fun h => hm (e2.1 h))]
  · obtain ⟨_, _, _, _, _, e⟩ := k2
    rw [e]; simp [ChangeMaps.setBlock]
end Go.Proofs.Ytfojhmobnedekaa

/- A heap, plain: what goes up, what goes down; the first one is least. No condition. -/
namespace Go.Proofs.Ytfojhmobnedekaa

def Fr.le (x y : Fr) : Prop := ¬ y.lt x
theorem Fr.le_iff {x y : Fr} : x.le y ↔ x.d < y.d ∨ (x.d = y.d ∧ x.n ≤ y.n) := by unfold Fr.le Fr.lt; omega
theorem Fr.lt_iff {x y : Fr} : x.lt y ↔ x.d < y.d ∨ (x.d = y.d ∧ x.n < y.n) := Iff.rfl
theorem Fr.le_refl (x : Fr) : x.le x := Fr.le_iff.2 (.inr ⟨rfl, Int.le_refl _⟩)
theorem Fr.le_trans {x y z : Fr} (h1 : x.le y) (h2 : y.le z) : x.le z := by rw [Fr.le_iff] at *; omega
theorem Fr.le_of_lt {x y : Fr} (h : x.lt y) : x.le y := by rw [Fr.le_iff]; rw [Fr.lt_iff] at h; omega
theorem Fr.le_antisymm {x y : Fr} (h1 : x.le y) (h2 : y.le x) : x = y := by
  rw [Fr.le_iff] at h1 h2
  obtain ⟨a, b⟩ := x
  obtain ⟨c, d⟩ := y
  simp at h1 h2
  have e1 : a = c := by omega
  have e2 : b = d := by omega
  rw [e1, e2]
def hv (l : List Fr) (i : Nat) : Fr := l.getD i default
theorem hv_get {l : List Fr} {i : Nat} (h : i < l.length) : hv l i = l[i] := by unfold hv; rw [List.getD_eq_getElem?_getD, List.getElem?_eq_getElem h]; rfl
def Heap (l : List Fr) : Prop := ∀ i, 0 < i → i < l.length → (hv l ((i - 1) / 2)).le (hv l i)
def swapL (l : List Fr) (i j : Nat) : List Fr := (l.set i (hv l j)).set j (hv l i)
theorem swapL_len (l : List Fr) (i j : Nat) : (swapL l i j).length = l.length := by simp [swapL]
theorem hv_set {l : List Fr} {i q : Nat} {x : Fr} (hi : i < l.length) : hv (l.set i x) q = if i = q then x else hv l q := by
  unfold hv
  rw [List.getD_eq_getElem?_getD, List.getElem?_set]
  by_cases h : i = q
  · rw [if_pos h, if_pos h, if_pos (by omega)]; rfl
  · rw [if_neg h, if_neg h, ← List.getD_eq_getElem?_getD]
theorem hv_swap {l : List Fr} {i j : Nat} (hi : i < l.length) (hj : j < l.length) (q : Nat) : hv (swapL l i j) q = if j = q then hv l i else if i = q then hv l j else hv l q := by
  unfold swapL
  rw [hv_set (by simpa using hj), hv_set hi]
theorem swapL_perm {l : List Fr} {i j : Nat} (hi : i < l.length) (hj : j < l.length) : (swapL l i j).Perm l := by
  unfold swapL
  rw [hv_get hi, hv_get hj]
  exact List.set_set_perm hi hj
/-- On its way up: all is in order but for the one at k and what stands above it. -/
def UpI (l : List Fr) (k : Nat) : Prop := (∀ i, 0 < i → i < l.length → i ≠ k → (hv l ((i - 1) / 2)).le (hv l i)) ∧ (∀ i, 0 < i → i < l.length → (i - 1) / 2 = k → 0 < k → (hv l ((k - 1) / 2)).le (hv l i))
theorem up_start {h : List Fr} (hh : Heap h) (x : Fr) : UpI (h ++ [x]) h.length := by
  refine ⟨fun i h0 hi hk => ?_, fun i h0 hi hk hk0 => ?_⟩
  · rw [List.length_append, List.length_singleton] at hi
    have h1 : ∀ q, q < h.length → hv (h ++ [x]) q = hv h q := fun q hq => by unfold hv; rw [List.getD_eq_getElem?_getD, List.getElem?_append_left hq, ← List.getD_eq_getElem?_getD]
    rw [h1 _ (by omega), h1 _ (by omega)]
    exact hh i h0 (by omega)
  · rw [List.length_append, List.length_singleton] at hi; omega
theorem up_step {l : List Fr} {k : Nat} (h : UpI l k) (hk : k < l.length) (hk0 : 0 < k) (hlt : (hv l k).lt (hv l ((k - 1) / 2))) : UpI (swapL l k ((k - 1) / 2)) ((k - 1) / 2) := by
  obtain ⟨h1, h2⟩ := h
  have hu : (k - 1) / 2 < k := by omega
  have hs := fun q => hv_swap (l := l) hk (show (k - 1) / 2 < l.length by omega) q
  have hle := Fr.le_of_lt hlt
  refine ⟨fun i h0 hi hne => ?_, fun i h0 hi hp hu0 => ?_⟩
  · rw [swapL_len] at hi
    rw [hs, hs]
    by_cases e1 : i = k
    · subst e1
      rw [if_pos rfl, if_neg (by omega), if_pos rfl]; exact hle
    · rw [if_neg (show ¬ (k - 1) / 2 = i from fun e => hne e.symm), if_neg (show ¬ k = i from fun e => e1 e.symm)]
      by_cases e2 : (k - 1) / 2 = (i - 1) / 2
      · rw [if_pos e2]
        have := h1 i h0 hi e1
        rw [← e2] at this
        exact Fr.le_trans hle this
      · rw [if_neg e2]
        by_cases e3 : k = (i - 1) / 2
        · rw [if_pos e3]; exact h2 i h0 hi e3.symm hk0
        · rw [if_neg e3]; exact h1 i h0 hi e1
  · rw [swapL_len] at hi
    rw [hs, hs, if_neg (show ¬ (k - 1) / 2 = ((k - 1) / 2 - 1) / 2 by omega), if_neg (show ¬ k = ((k - 1) / 2 - 1) / 2 by omega), if_neg (show ¬ (k - 1) / 2 = i by omega)]
    have hup := h1 ((k - 1) / 2) hu0 (by omega) (by omega)
    by_cases e1 : k = i
    · rw [if_pos e1]; exact hup
    · rw [if_neg e1]
      have := h1 i h0 hi (fun e => e1 e.symm)
      rw [hp] at this
      exact Fr.le_trans hup this
theorem up_end {l : List Fr} {k : Nat} (h : UpI l k) (he : k = 0 ∨ ¬ (hv l k).lt (hv l ((k - 1) / 2))) : Heap l := by
  intro i h0 hi
  by_cases e : i = k
  · rcases he with he | he
    · omega
    · rw [e]; exact he
  · exact h.1 i h0 hi e
/-- The first one of a place and those below it. -/
def leastL (l : List Fr) (k : Nat) : Nat :=
  let b := if 2 * k + 1 < l.length ∧ (hv l (2 * k + 1)).lt (hv l k) then 2 * k + 1 else k
  if 2 * k + 2 < l.length ∧ (hv l (2 * k + 2)).lt (hv l b) then 2 * k + 2 else b
def DnI (l : List Fr) (k : Nat) : Prop := (∀ i, 0 < i → i < l.length → (i - 1) / 2 ≠ k → (hv l ((i - 1) / 2)).le (hv l i)) ∧ (0 < k → ∀ i, 0 < i → i < l.length → (i - 1) / 2 = k → (hv l ((k - 1) / 2)).le (hv l i))
theorem least_spec (l : List Fr) (k : Nat) (hk : k < l.length) : (leastL l k = k ∨ (leastL l k < l.length ∧ (leastL l k = 2 * k + 1 ∨ leastL l k = 2 * k + 2))) ∧ (∀ i, 0 < i → i < l.length → (i - 1) / 2 = k → (hv l (leastL l k)).le (hv l i)) ∧ (hv l (leastL l k)).le (hv l k) := by
  obtain ⟨b, hb⟩ : ∃ b, b = if 2 * k + 1 < l.length ∧ (hv l (2 * k + 1)).lt (hv l k) then 2 * k + 1 else k := ⟨_, rfl⟩
  have hL : leastL l k = if 2 * k + 2 < l.length ∧ (hv l (2 * k + 2)).lt (hv l b) then 2 * k + 2 else b := by rw [hb]; rfl
  have hbk : (b = k ∨ (b < l.length ∧ b = 2 * k + 1)) ∧ (2 * k + 1 < l.length → (hv l b).le (hv l (2 * k + 1))) ∧ (hv l b).le (hv l k) := by
    by_cases h : 2 * k + 1 < l.length ∧ (hv l (2 * k + 1)).lt (hv l k)
    · rw [if_pos h] at hb
      subst hb
      exact ⟨.inr ⟨h.1, rfl⟩, fun _ => Fr.le_refl _, Fr.le_of_lt h.2⟩
    · rw [if_neg h] at hb
      subst hb
      exact ⟨.inl rfl, fun h1 h2 => h ⟨h1, h2⟩, Fr.le_refl _⟩
  obtain ⟨h1, h2, h3⟩ := hbk
  by_cases h : 2 * k + 2 < l.length ∧ (hv l (2 * k + 2)).lt (hv l b)
  · rw [if_pos h] at hL
    rw [hL]
    have hle := Fr.le_of_lt h.2
    refine ⟨.inr ⟨h.1, .inr rfl⟩, fun i h0 hi hp => ?_, Fr.le_trans hle h3⟩
    rcases (show i = 2 * k + 1 ∨ i = 2 * k + 2 by omega) with rfl | rfl
    · exact Fr.le_trans hle (h2 hi)
    · exact Fr.le_refl _
  · rw [if_neg h] at hL
    rw [hL]
    refine ⟨by omega, fun i h0 hi hp => ?_, h3⟩
    rcases (show i = 2 * k + 1 ∨ i = 2 * k + 2 by omega) with rfl | rfl
    · exact h2 hi
    · exact fun e => h ⟨hi, e⟩
theorem dn_step {l : List Fr} {k : Nat} (h : DnI l k) (hk : k < l.length) (hne : leastL l k ≠ k) : DnI (swapL l k (leastL l k)) (leastL l k) ∧ k < leastL l k ∧ leastL l k < l.length := by
  obtain ⟨h1, h2⟩ := h
  obtain ⟨s1, s2, s3⟩ := least_spec l k hk
  obtain ⟨b, hb⟩ : ∃ b, b = leastL l k := ⟨_, rfl⟩
  rw [← hb] at s1 s2 s3 hne ⊢
  have hbl : b < l.length ∧ (b - 1) / 2 = k ∧ k < b ∧ 0 < b := by omega
  obtain ⟨hbl, hbp, hkb, hb0⟩ := hbl
  have hs := fun q => hv_swap (l := l) hk hbl q
  refine ⟨⟨fun i h0 hi hp => ?_, fun _ i h0 hi hp => ?_⟩, hkb, hbl⟩
  · rw [swapL_len] at hi
    rw [hs, hs]
    by_cases e1 : i = b
    · subst e1
      rw [if_neg (by omega), if_pos hbp.symm, if_pos rfl]
      exact s3
    · rw [if_neg (show ¬ b = (i - 1) / 2 from fun e => hp e.symm), if_neg (show ¬ b = i from fun e => e1 e.symm)]
      by_cases e2 : k = (i - 1) / 2
      · rw [if_pos e2, if_neg (by omega)]
        exact s2 i h0 hi e2.symm
      · rw [if_neg e2]
        by_cases e3 : k = i
        · rw [if_pos e3]
          subst e3
          exact h2 h0 b hb0 hbl hbp
        · rw [if_neg e3]
          exact h1 i h0 hi (fun e => e2 e.symm)
  · rw [swapL_len] at hi
    rw [hs, hs, hbp, if_neg (by omega), if_pos rfl, if_neg (by omega), if_neg (by omega)]
    have := h1 i h0 hi (by omega)
    rw [hp] at this
    exact this
theorem dn_end {l : List Fr} {k : Nat} (h : DnI l k) (he : l.length ≤ k ∨ leastL l k = k) : Heap l := by
  intro i h0 hi
  by_cases e : (i - 1) / 2 = k
  · rcases he with he | he
    · omega
    · have := (least_spec l k (by omega)).2.1 i h0 hi e
      rw [he] at this
      rw [e]; exact this
  · exact h.1 i h0 hi e
theorem dn_start {h : List Fr} (hh : Heap h) (h0 : 0 < h.length) : DnI ((h.set 0 (hv h (h.length - 1))).take (h.length - 1)) 0 := by
  refine ⟨fun i hi0 hi hp => ?_, fun hk => absurd hk (by omega)⟩
  have hl : ((h.set 0 (hv h (h.length - 1))).take (h.length - 1)).length = h.length - 1 := by simp
  rw [hl] at hi
  have h1 : ∀ q, 0 < q → q < h.length - 1 → hv ((h.set 0 (hv h (h.length - 1))).take (h.length - 1)) q = hv h q := fun q hq0 hq => by
    have e := hv_set (x := hv h (h.length - 1)) (q := q) h0
    rw [if_neg (by omega)] at e
    rw [← e]
    unfold hv
    rw [List.getD_eq_getElem?_getD, List.getElem?_take, if_pos hq, ← List.getD_eq_getElem?_getD]
  rw [h1 _ (by omega) (by omega), h1 _ hi0 hi]
  exact hh i hi0 (by omega)
theorem heap_min {l : List Fr} (h : Heap l) : ∀ i, i < l.length → (hv l 0).le (hv l i) := by
  intro i
  induction i using Nat.strongRecOn with
  | ind i ih =>
    intro hi
    by_cases h0 : i = 0
    · subst h0; exact Fr.le_refl _
    · exact Fr.le_trans (ih ((i - 1) / 2) (by omega) (by omega)) (h i (by omega) hi)
theorem heap_nil : Heap [] := fun i _ hi => absurd hi (by simp)
/-- What the taking leaves, with the one taken, is what there was. -/
theorem pop_perm {h : List Fr} (h0 : 0 < h.length) : (hv h 0 :: (h.set 0 (hv h (h.length - 1))).take (h.length - 1)).Perm h := by
  obtain ⟨x, t, rfl⟩ : ∃ x t, h = x :: t := by
    cases h with
    | nil => simp at h0
    | cons x t => exact ⟨x, t, rfl⟩
  rw [show hv (x :: t) 0 = x from rfl]
  refine List.Perm.cons x ?_
  rcases List.eq_nil_or_concat t with rfl | ⟨t', y, rfl⟩
  all_goals try rw [List.concat_eq_append]
  · simp
  · have e1 : hv (x :: (t' ++ [y])) ((x :: (t' ++ [y])).length - 1) = y := by
      rw [hv_get (by simp)]
      simp
    rw [e1, List.set_cons_zero]
    have e2 : (y :: (t' ++ [y])).take ((x :: (t' ++ [y])).length - 1) = y :: t' := by simp
    rw [e2]
    exact (List.perm_append_singleton _ _).symm
end Go.Proofs.Ytfojhmobnedekaa

/- The walks of the heap's least and push. Conditions: what lies in the heap is short. -/
namespace Go.Proofs.Ytfojhmobnedekaa
open Go.RowKit

theorem own_sl {w : World} {B n s : Nat} {e : TypeId} {v : Value} {xs : List Value} (h : w.ownsRow B e s v n xs) : ∃ a c, v = .slice a n c := by
  rcases h.2 with ⟨rfl, rfl⟩ | ⟨g, cap, cur, rfl, _⟩
  · exact ⟨none, 0, rfl⟩
  · exact ⟨some ⟨g, 0, none⟩, cap, rfl⟩
/-- The cells of frames. -/
def Fr.c (x : Fr) : List Value := [.int .i64 x.d, .int .i64 x.n]
def fcs2 (l : List Fr) : List Value := l.flatMap Fr.c
theorem fcs2_append (a b : List Fr) : fcs2 (a ++ b) = fcs2 a ++ fcs2 b := by simp [fcs2]
theorem fcs2_len : ∀ l : List Fr, (fcs2 l).length = l.length * 2
  | [] => rfl
  | x :: l => by
    show ([_, _] ++ fcs2 l).length = _
    rw [List.length_append, fcs2_len l]; simp; omega
theorem fcs2_get : ∀ (l : List Fr) (k j : Nat) (h : k < l.length), j < 2 → (fcs2 l)[k * 2 + j]? = (l[k]).c[j]?
  | x :: l, 0, j, _, hj => by
    show ([_, _] ++ fcs2 l)[0 * 2 + j]? = _
    rw [List.getElem?_append_left (by simp; omega)]; simp [Fr.c]
  | x :: l, k + 1, j, h, hj => by
    have h1 : (k + 1) * 2 + j = 2 + (k * 2 + j) := by omega
    show ([_, _] ++ fcs2 l)[(k + 1) * 2 + j]? = _
    rw [h1, List.getElem?_append_right (by simp)]
    have := fcs2_get l k j (by simpa using h) hj
    simpa using this
theorem fcs2_set : ∀ (l : List Fr) (k : Nat) (x : Fr), fcs2 (l.set k x) = ((fcs2 l).set (k * 2) (.int .i64 x.d)).set (k * 2 + 1) (.int .i64 x.n)
  | [], k, x => by simp [fcs2]
  | y :: l, 0, x => by
    show [_, _] ++ fcs2 l = (([_, _] ++ fcs2 l).set 0 _).set 1 _
    simp
  | y :: l, k + 1, x => by
    show [_, _] ++ fcs2 (l.set k x) = (([_, _] ++ fcs2 l).set ((k + 1) * 2) _).set ((k + 1) * 2 + 1) _
    rw [fcs2_set l k x, show (k + 1) * 2 = k * 2 + 2 by omega]
    rw [List.set_append_right _ _ (by simp), List.set_append_right _ _ (by simp)]
    simp
theorem fcs2_one (l : List Fr) : ∀ u ∈ fcs2 l, u.oneCell' = true := by
  intro u hu
  obtain ⟨x, _, hx⟩ := List.mem_flatMap.1 hu
  simp [Fr.c] at hx
  rcases hx with rfl | rfl <;> rfl
theorem frow_at {w : World} {B n : Nat} {v : Value} {l : List Fr} (h : w.ownsRow B 149 2 v n (fcs2 l)) {k : Nat} (hk : k < l.length) : ∃ g c, v = .slice (some ⟨g, 0, none⟩) n c ∧ w.cell? ⟨g, k * 2, none⟩ = some (.int .i64 (hv l k).d) ∧ w.cell? ⟨g, k * 2 + 1, none⟩ = some (.int .i64 (hv l k).n) := by
  rw [hv_get hk]
  rcases h.2 with ⟨_, h0⟩ | ⟨g, cap, cur, rfl, _⟩
  · have := h.1
    rw [fcs2_len] at this; omega
  · have hc := fun q (hq : q < 2) u (hu : (l[k]).c[q]? = some u) => h.cells (g := g) rfl (k * 2 + q) u ((fcs2_get l k q hk hq).trans hu)
    have e0 := hc 0 (by omega) _ rfl
    have e1 := hc 1 (by omega) _ rfl
    rw [Addr.add_lit] at e0 e1
    exact ⟨g, cap, rfl, by simpa using e0, by simpa using e1⟩
/-- A cell of a row is written. -/
theorem own_setS {w : World} {B s n g c i : Nat} {e : TypeId} {xs : List Value} (h : w.ownsRow B e s (.slice (some ⟨g, 0, none⟩) n c) n xs) (u : Value) : (w.setCell ⟨g, i, none⟩ u).ownsRow B e s (.slice (some ⟨g, 0, none⟩) n c) n (xs.set i u) := by
  obtain ⟨h1, h2⟩ := h
  refine ⟨by simpa using h1, ?_⟩
  rcases h2 with ⟨e, _⟩ | ⟨g', cap, cur, e, hb, hh, hn, hm, hs, ht⟩
  · cases e
  · injection e with e1 _ e3
    injection e1 with e1
    injection e1 with e1
    subst e1; subst e3
    refine .inr ⟨g, c, cur.setIfInBounds i u, rfl, hb, setCell_of_block u hh, hn, hm, by simpa using hs, ?_⟩
    rw [Array.toList_setIfInBounds, List.take_set, ht]
theorem row_frozen {w : World} {B s n g c i : Nat} {e : TypeId} {xs : List Value} (h : w.ownsRow B e s (.slice (some ⟨g, 0, none⟩) n c) n xs) : w.frozen? ⟨g, i, none⟩ = false := by
  rcases h.2 with ⟨e, _⟩ | ⟨g', cap, cur, e, hb, hh, _⟩
  · cases e
  · injection e with e1 _ _
    injection e1 with e1
    injection e1 with e1
    subst e1
    exact frozen_of_block hh
/-- The cells of the past's box. -/
def pastC (v k h f m : Value) : Array Value := #[v, .func (.func 76) #[] #[], m, k, h, f]
/-- A heap in the past's box. -/
structure HpA (B W : Nat) (l : List Fr) (v k h f m : Value) (w : World) : Prop where
  box : w.heap[W]? = some (.cells (pastC v k h f m) 157 (0, 0))
  row : w.ownsRow B 149 2 v l.length (fcs2 l)
theorem HpA.below {B W : Nat} {l : List Fr} {v k h f m : Value} {w w' : World} (q : HpA B W l v k h f m w) (hB : Below w.heap.size w w') : HpA B W l v k h f m w' :=
  ⟨(hB.block W (lt_of_block q.box)).trans q.box, own_frame3 q.row fun g _ hg => hB.block g hg⟩
theorem HpA.slice {B W : Nat} {l : List Fr} {v k h f m : Value} {w : World} (q : HpA B W l v k h f m w) : ∃ a c, v = .slice a l.length c := own_sl q.row
/-- The first of a place and of q below it. -/
def lsN (l : List Fr) (k : Nat) : Nat → Nat
  | 0 => k
  | q + 1 => if 2 * k + 1 + q < l.length ∧ (hv l (2 * k + 1 + q)).lt (hv l (lsN l k q)) then 2 * k + 1 + q else lsN l k q
theorem lsN_two (l : List Fr) (k : Nat) : lsN l k 2 = leastL l k := rfl
theorem lsN_lt {l : List Fr} {k : Nat} (hk : k < l.length) : ∀ q, lsN l k q < l.length
  | 0 => hk
  | q + 1 => by
    unfold lsN
    split
    · rename_i h; exact h.1
    · exact lsN_lt hk q

theorem info219 : (Try.prog.info? 3).map (·.size) = some 1 := by kernel_rfl
theorem index219_0 (x y : Int) (w : World) : (Instr.index 219 (.agg #[.int .i64 x, .int .i64 y]) (.int .i64 0)).run Try.prog w = .ok (.int .i64 x) w := by
  obtain ⟨i, hi, hs⟩ := Option.map_eq_some_iff.1 info219
  simp [Instr.index, run_underlying Try.underlying219, asIntOf, part, sizeOf, typeInfo, hi, hs]
theorem index219_1 (x y : Int) (w : World) : (Instr.index 219 (.agg #[.int .i64 x, .int .i64 y]) (.int .i64 1)).run Try.prog w = .ok (.int .i64 y) w := by
  obtain ⟨i, hi, hs⟩ := Option.map_eq_some_iff.1 info219
  simp [Instr.index, run_underlying Try.underlying219, asIntOf, part, sizeOf, typeInfo, hi, hs]
set_option maxHeartbeats 1600000 in
set_option maxRecDepth 100000 in
theorem hleast_any {w : World} {B W k : Nat} {l : List Fr} {v kp h f m : Value} (q : HpA B W l v kp h f m w) (_hk : k < l.length ∨ l.length = 0) (hl : l.length ≤ 1000000) (hk2 : k ≤ 1000000) :
    Calls Try.prog 112 #[.pointer (some ⟨W, 0, none⟩), .int .i64 k] w fun e w' => e = .returned (.int .i64 (leastL l k : Nat)) ∧ Below w.heap.size w w' := by
  obtain ⟨a, c, rfl⟩ := q.slice
  have HQ := Lib.hid q
  have c0 : w.cell? ⟨W, 0, none⟩ = some (.slice a l.length c) := (cell_of_block q.box).trans rfl
  have c1 : w.cell? ⟨W, 1, none⟩ = some (.func (.func 76) #[] #[]) := (cell_of_block q.box).trans rfl
  have HC0 := Lib.hid c0
  have HC1 := Lib.hid c1
  clear q c0 c1
  go_enter Try.func112, Try.ntmps112
  go_wp2_with fail
  go_loopw [5, 16] (fun b i wr => ∃ q : Nat, q ≤ 2 ∧ i = .int .i64 q ∧ b = .int .i64 (lsN l k q : Nat) ∧ Hid (Below w.heap.size w wr)) (fun _ i _ => 2 - (intOf i).toNat)
  case atStart => exact ⟨0, by omega, rfl, rfl, Below.refl _ _⟩
  case round =>
    obtain ⟨q, hq, rfl, rfl, HD⟩ := hrel
    have c0 := (HD.out.cell (block_lt_of_cell HC0.out)).trans HC0.out
    have c1 := (HD.out.cell (block_lt_of_cell HC1.out)).trans HC1.out
    have hi0 := index219_0
    have hi1 := index219_1
    rcases (show q = 0 ∨ q = 1 ∨ q = 2 by omega) with rfl | rfl | rfl
    · have hst : lsN l k 1 = if 2 * k + 1 < l.length ∧ (hv l (2 * k + 1)).lt (hv l (lsN l k 0)) then 2 * k + 1 else lsN l k 0 := rfl
      have hbl : 2 * k + 1 < l.length → lsN l k 0 < l.length := fun h => lsN_lt (by omega) 0
      obtain ⟨b, hb⟩ : ∃ b, b = lsN l k 0 := ⟨_, rfl⟩
      rw [← hb] at hst hbl ⊢
      have hcast : 2 * (k : Int) + 1 = ((2 * k + 1 : Nat) : Int) := by omega
      obtain ⟨dn, hdn⟩ : ∃ dn, dn = 2 * k + 1 := ⟨_, rfl⟩
      have hcd : 2 * (k : Int) + 1 = (dn : Int) := by omega
      simp only [show ((0 : Nat) : Int) = 0 from rfl]
      rw [← hdn] at hst hbl
      clear hcast hdn hb
      by_cases hd : dn < l.length
      · have hbl := hbl hd
        obtain ⟨g, c', hv1, x0, x1⟩ := frow_at HQ.out.row hd
        obtain ⟨g', c'', hv2, y0, y1⟩ := frow_at HQ.out.row hbl
        obtain ⟨rfl, rfl⟩ : a = some ⟨g, 0, none⟩ ∧ c = c' := by injection hv1 with h1 _ h2; exact ⟨h1, h2⟩
        obtain rfl : g = g' := by injection hv2 with h1 _ _; injection h1 with h1; injection h1 with h1
        have x0 := (HD.out.cell (block_lt_of_cell x0)).trans x0
        have x1 := (HD.out.cell (block_lt_of_cell x1)).trans x1
        have y0 := (HD.out.cell (block_lt_of_cell y0)).trans y0
        have y1 := (HD.out.cell (block_lt_of_cell y1)).trans y1
        have H76 := Lib.hid fun z : Lies wr => show Calls Try.prog 76 #[.agg #[.int .i64 (hv l dn).d, .int .i64 (hv l dn).n], .agg #[.int .i64 (hv l b).d, .int .i64 (hv l b).n]] z.1 fun e w' => e = .returned (.bool (decide ((hv l dn).lt (hv l b)))) ∧ Below z.1.heap.size z.1 w' from fless_any (w := z.1) (hv l dn) (hv l b)
        have L0 := fun z : Lies wr => lies_cell c0 z
        have L1 := fun z : Lies wr => lies_cell c1 z
        have L2 := fun z : Lies wr => lies_cell x0 z
        have L3 := fun z : Lies wr => lies_cell x1 z
        have L4 := fun z : Lies wr => lies_cell y0 z
        have L5 := fun z : Lies wr => lies_cell y1 z
        have d1 : decide (dn < l.length) = true := decide_eq_true hd
        have d1' : decide ((dn : Int) < (l.length : Int)) = true := decide_eq_true (by omega)
        by_cases hlt : (hv l dn).lt (hv l b)
        · have HN : Hid (lsN l k 1 = dn) := by rw [hst, if_pos ⟨hd, hlt⟩]; rfl
          rw [decide_eq_true hlt] at H76
          clear hv1 hv2 x0 x1 y0 y1 c0 c1 hst hlt
          go_upto_region 5 with fail
          refine region_lies (by rfl) (by decide +kernel) ?_
          repeat (go_big_quiet_step ((go_at_call 76; exact Lies.call (H76.out _))))
          refine wpQuiet_nil ?_
          intro _ hw'
          obtain ⟨z, rfl⟩ := hw'
          have HZ := Lib.hid (HD.out.trans ((show Below wr.heap.size wr z.1 from z.2).mono HD.out.size))
          clear L0 L1 L2 L3 L4 L5 H76
          generalize z.1 = wz at *
          clear z
          go_wp2_with fail
          go_roundw
          case rel => exact ⟨1, by omega, by go_num, by rw [HN.out], HZ⟩
          case measure => simp [intOf]
        · have HN : Hid (lsN l k 1 = b) := by rw [hst, if_neg (fun h => hlt h.2)]; rfl
          rw [decide_eq_false hlt] at H76
          clear hv1 hv2 x0 x1 y0 y1 c0 c1 hst hlt
          go_upto_region 5 with fail
          refine region_lies (by rfl) (by decide +kernel) ?_
          repeat (go_big_quiet_step ((go_at_call 76; exact Lies.call (H76.out _))))
          refine wpQuiet_nil ?_
          intro _ hw'
          obtain ⟨z, rfl⟩ := hw'
          have HZ := Lib.hid (HD.out.trans ((show Below wr.heap.size wr z.1 from z.2).mono HD.out.size))
          clear L0 L1 L2 L3 L4 L5 H76
          generalize z.1 = wz at *
          clear z
          go_wp2_with fail
          go_roundw
          case rel => exact ⟨1, by omega, by go_num, by rw [HN.out], HZ⟩
          case measure => simp [intOf]
      · have d1 : decide (dn < l.length) = false := decide_eq_false hd
        have d1' : decide ((dn : Int) < (l.length : Int)) = false := decide_eq_false (by omega)
        have HN : Hid (lsN l k 1 = b) := by rw [hst, if_neg (fun h => hd h.1)]; rfl
        have L0 := fun z : Lies wr => lies_cell c0 z
        have L1 := fun z : Lies wr => lies_cell c1 z
        clear c0 c1 hst hbl
        go_upto_region 5 with fail
        refine region_lies (by rfl) (by decide +kernel) ?_
        repeat (go_big_quiet_step (fail))
        refine wpQuiet_nil ?_
        intro _ hw'
        obtain ⟨z, rfl⟩ := hw'
        have HZ := Lib.hid (HD.out.trans ((show Below wr.heap.size wr z.1 from z.2).mono HD.out.size))
        clear L0 L1
        generalize z.1 = wz at *
        clear z
        go_wp2_with fail
        go_roundw
        case rel => exact ⟨1, by omega, by go_num, by rw [HN.out], HZ⟩
        case measure => simp [intOf]
    · have hst : lsN l k 2 = if 2 * k + 2 < l.length ∧ (hv l (2 * k + 2)).lt (hv l (lsN l k 1)) then 2 * k + 2 else lsN l k 1 := rfl
      have hbl : 2 * k + 2 < l.length → lsN l k 1 < l.length := fun h => lsN_lt (by omega) 1
      obtain ⟨b, hb⟩ : ∃ b, b = lsN l k 1 := ⟨_, rfl⟩
      rw [← hb] at hst hbl ⊢
      have hcast : 2 * (k : Int) + 2 = ((2 * k + 2 : Nat) : Int) := by omega
      obtain ⟨dn, hdn⟩ : ∃ dn, dn = 2 * k + 2 := ⟨_, rfl⟩
      have hcd : 2 * (k : Int) + 2 = (dn : Int) := by omega
      simp only [show ((1 : Nat) : Int) = 1 from rfl]
      rw [← hdn] at hst hbl
      clear hcast hdn hb
      by_cases hd : dn < l.length
      · have hbl := hbl hd
        obtain ⟨g, c', hv1, x0, x1⟩ := frow_at HQ.out.row hd
        obtain ⟨g', c'', hv2, y0, y1⟩ := frow_at HQ.out.row hbl
        obtain ⟨rfl, rfl⟩ : a = some ⟨g, 0, none⟩ ∧ c = c' := by injection hv1 with h1 _ h2; exact ⟨h1, h2⟩
        obtain rfl : g = g' := by injection hv2 with h1 _ _; injection h1 with h1; injection h1 with h1
        have x0 := (HD.out.cell (block_lt_of_cell x0)).trans x0
        have x1 := (HD.out.cell (block_lt_of_cell x1)).trans x1
        have y0 := (HD.out.cell (block_lt_of_cell y0)).trans y0
        have y1 := (HD.out.cell (block_lt_of_cell y1)).trans y1
        have H76 := Lib.hid fun z : Lies wr => show Calls Try.prog 76 #[.agg #[.int .i64 (hv l dn).d, .int .i64 (hv l dn).n], .agg #[.int .i64 (hv l b).d, .int .i64 (hv l b).n]] z.1 fun e w' => e = .returned (.bool (decide ((hv l dn).lt (hv l b)))) ∧ Below z.1.heap.size z.1 w' from fless_any (w := z.1) (hv l dn) (hv l b)
        have L0 := fun z : Lies wr => lies_cell c0 z
        have L1 := fun z : Lies wr => lies_cell c1 z
        have L2 := fun z : Lies wr => lies_cell x0 z
        have L3 := fun z : Lies wr => lies_cell x1 z
        have L4 := fun z : Lies wr => lies_cell y0 z
        have L5 := fun z : Lies wr => lies_cell y1 z
        have d1 : decide (dn < l.length) = true := decide_eq_true hd
        have d1' : decide ((dn : Int) < (l.length : Int)) = true := decide_eq_true (by omega)
        by_cases hlt : (hv l dn).lt (hv l b)
        · have HN : Hid (lsN l k 2 = dn) := by rw [hst, if_pos ⟨hd, hlt⟩]; rfl
          rw [decide_eq_true hlt] at H76
          clear hv1 hv2 x0 x1 y0 y1 c0 c1 hst hlt
          go_upto_region 5 with fail
          refine region_lies (by rfl) (by decide +kernel) ?_
          repeat (go_big_quiet_step ((go_at_call 76; exact Lies.call (H76.out _))))
          refine wpQuiet_nil ?_
          intro _ hw'
          obtain ⟨z, rfl⟩ := hw'
          have HZ := Lib.hid (HD.out.trans ((show Below wr.heap.size wr z.1 from z.2).mono HD.out.size))
          clear L0 L1 L2 L3 L4 L5 H76
          generalize z.1 = wz at *
          clear z
          go_wp2_with fail
          go_roundw
          case rel => exact ⟨2, by omega, by go_num, by rw [HN.out], HZ⟩
          case measure => simp [intOf]
        · have HN : Hid (lsN l k 2 = b) := by rw [hst, if_neg (fun h => hlt h.2)]; rfl
          rw [decide_eq_false hlt] at H76
          clear hv1 hv2 x0 x1 y0 y1 c0 c1 hst hlt
          go_upto_region 5 with fail
          refine region_lies (by rfl) (by decide +kernel) ?_
          repeat (go_big_quiet_step ((go_at_call 76; exact Lies.call (H76.out _))))
          refine wpQuiet_nil ?_
          intro _ hw'
          obtain ⟨z, rfl⟩ := hw'
          have HZ := Lib.hid (HD.out.trans ((show Below wr.heap.size wr z.1 from z.2).mono HD.out.size))
          clear L0 L1 L2 L3 L4 L5 H76
          generalize z.1 = wz at *
          clear z
          go_wp2_with fail
          go_roundw
          case rel => exact ⟨2, by omega, by go_num, by rw [HN.out], HZ⟩
          case measure => simp [intOf]
      · have d1 : decide (dn < l.length) = false := decide_eq_false hd
        have d1' : decide ((dn : Int) < (l.length : Int)) = false := decide_eq_false (by omega)
        have HN : Hid (lsN l k 2 = b) := by rw [hst, if_neg (fun h => hd h.1)]; rfl
        have L0 := fun z : Lies wr => lies_cell c0 z
        have L1 := fun z : Lies wr => lies_cell c1 z
        clear c0 c1 hst hbl
        go_upto_region 5 with fail
        refine region_lies (by rfl) (by decide +kernel) ?_
        repeat (go_big_quiet_step (fail))
        refine wpQuiet_nil ?_
        intro _ hw'
        obtain ⟨z, rfl⟩ := hw'
        have HZ := Lib.hid (HD.out.trans ((show Below wr.heap.size wr z.1 from z.2).mono HD.out.size))
        clear L0 L1
        generalize z.1 = wz at *
        clear z
        go_wp2_with fail
        go_roundw
        case rel => exact ⟨2, by omega, by go_num, by rw [HN.out], HZ⟩
        case measure => simp [intOf]
    · simp only [show ((2 : Nat) : Int) = 2 from rfl]
      rw [lsN_two]
      go_wp2_with fail
      go_ret
      exact ⟨rfl, HD.out⟩
end Go.Proofs.Ytfojhmobnedekaa

/- The walk of the heap's push. Conditions: what lies in the heap is short. -/
namespace Go.Proofs.Ytfojhmobnedekaa
open Go.RowKit

theorem info149f : (Try.prog.info? 149).map (fun i => (i.zero, i.size, i.bytes)) = some (some (.agg #[.int .i64 0, .int .i64 0]), 2, 16) := by kernel_rfl
theorem swap_row {w : World} {B n g c i j : Nat} {l : List Fr} (h : w.ownsRow B 149 2 (.slice (some ⟨g, 0, none⟩) n c) n (fcs2 l)) :
    ((((w.setCell ⟨g, i * 2, none⟩ (.int .i64 (hv l j).d)).setCell ⟨g, i * 2 + 1, none⟩ (.int .i64 (hv l j).n)).setCell ⟨g, j * 2, none⟩ (.int .i64 (hv l i).d)).setCell ⟨g, j * 2 + 1, none⟩ (.int .i64 (hv l i).n)).ownsRow B 149 2 (.slice (some ⟨g, 0, none⟩) n c) n (fcs2 (swapL l i j)) := by
  unfold swapL
  rw [fcs2_set, fcs2_set]
  exact own_setS (own_setS (own_setS (own_setS h _) _) _) _
theorem swap_heap (w : World) (g a b c d : Nat) (u1 u2 u3 u4 : Value) : ∀ q, q ≠ g → ((((w.setCell ⟨g, a, none⟩ u1).setCell ⟨g, b, none⟩ u2).setCell ⟨g, c, none⟩ u3).setCell ⟨g, d, none⟩ u4).heap[q]? = w.heap[q]? := fun q hq =>
  (Below.heap_setCell _ ⟨g, d, none⟩ _ q hq).trans ((Below.heap_setCell _ ⟨g, c, none⟩ _ q hq).trans ((Below.heap_setCell _ ⟨g, b, none⟩ _ q hq).trans (Below.heap_setCell _ ⟨g, a, none⟩ _ q hq)))
/-- Two of the heap are exchanged. -/
theorem HpA.swap {B W i j g c : Nat} {l : List Fr} {kp h f m : Value} {w : World} (q : HpA B W l (.slice (some ⟨g, 0, none⟩) l.length c) kp h f m w) :
    HpA B W (swapL l i j) (.slice (some ⟨g, 0, none⟩) l.length c) kp h f m ((((w.setCell ⟨g, i * 2, none⟩ (.int .i64 (hv l j).d)).setCell ⟨g, i * 2 + 1, none⟩ (.int .i64 (hv l j).n)).setCell ⟨g, j * 2, none⟩ (.int .i64 (hv l i).d)).setCell ⟨g, j * 2 + 1, none⟩ (.int .i64 (hv l i).n)) :=
  ⟨(swap_heap w g _ _ _ _ _ _ _ _ W (fun e => own_ne_type q.row q.box (by decide) (by rw [e]; rfl))).trans q.box, by rw [swapL_len]; exact swap_row q.row⟩
theorem Keep.swap {W g n c a b d e : Nat} {w0 w : World} {v : Value} {u1 u2 u3 u4 : Value} (h : Keep W v w0 w) (hn : Nxt w0 v (.slice (some ⟨g, 0, none⟩) n c)) : Keep W v w0 ((((w.setCell ⟨g, a, none⟩ u1).setCell ⟨g, b, none⟩ u2).setCell ⟨g, d, none⟩ u3).setCell ⟨g, e, none⟩ u4) :=
  ⟨h.os, h.tape, h.output, by have := h.size; simpa [World.setCell] using this, fun q hq h1 h2 => (swap_heap w g _ _ _ _ _ _ _ _ q (fun e => by
    rcases hn g rfl with e2 | e2
    · exact h2 (by rw [e]; exact e2)
    · omega)).trans (h.block q hq h1 h2)⟩
theorem HpA.swapN {B W i j g c n : Nat} {l : List Fr} {kp h f m : Value} {w : World} (q : HpA B W l (.slice (some ⟨g, 0, none⟩) n c) kp h f m w) (hn : l.length = n) :
    HpA B W (swapL l i j) (.slice (some ⟨g, 0, none⟩) n c) kp h f m ((((w.setCell ⟨g, i * 2, none⟩ (.int .i64 (hv l j).d)).setCell ⟨g, i * 2 + 1, none⟩ (.int .i64 (hv l j).n)).setCell ⟨g, j * 2, none⟩ (.int .i64 (hv l i).d)).setCell ⟨g, j * 2 + 1, none⟩ (.int .i64 (hv l i).n)) := by
  subst hn; exact q.swap
theorem mvP_app {P : Program} {ops : Array Oper} {i : Nat} {o : Oper} {K : Act → World → Prop} {a : Act} {w w' : World} {v sv xv : Value} {t t2 : TypeId} (d : Option Tmp) (ho : ops[i]? = some o) (hd : o.dst = d) (hw : Region.wanted o (yielded ops a.tmps) = true) (s x : Operand)
    (hop : o.op = .call { callee := .builtin .append, args := #[s, x], argTypes := #[t, t2] }) (hs : a.eval s = sv) (hx : a.eval x = xv) (hrun : (Builtin.append_ #[t, t2] o.type #[sv, xv]).run P w = .ok v w') (hK : K (a.put d v) w') : mvP P ops i K a w := by
  refine mvP_value d ho hd hw ?_ hK
  unfold execOp
  simp only [hop, resolve, invoke, builtin, Sem.run_bind, Sem.run_pure, Result.andThen_ok, List.map_toArray, List.map_cons, List.map_nil, hs, hx, hrun]
/-- What push hands on. -/
def PushTo (B W : Nat) (x : Fr) (l : List Fr) (v kp h f m : Value) (w w' : World) : Prop := ∃ v' l', Heap l' ∧ l'.Perm (x :: l) ∧ HpA B W l' v' kp h f m w' ∧ Keep W v w w' ∧ Nxt w v v'
def PuS (W bx : Nat) (v : Value) (x : Fr) (w : World) : Prop := w.cell? ⟨W, 0, none⟩ = some v ∧ w.cell? ⟨bx, 0, none⟩ = some (.int .i64 x.d) ∧ w.cell? ⟨bx, 1, none⟩ = some (.int .i64 x.n)
theorem PuS.of {W bx : Nat} {v : Value} {x : Fr} {w w' : World} (h : PuS W bx v x w) (h1 : w'.heap[W]? = w.heap[W]?) (h2 : w'.heap[bx]? = w.heap[bx]?) : PuS W bx v x w' :=
  ⟨(World.cell?_of_block h1).trans h.1, (World.cell?_of_block h2).trans h.2.1, (World.cell?_of_block h2).trans h.2.2⟩

set_option maxHeartbeats 3200000 in
set_option maxRecDepth 100000 in
theorem hpush_any {w : World} {B W : Nat} {x : Fr} {l : List Fr} {v kp h f m : Value} (q : HpA B W l v kp h f m w) (hl : l.length ≤ 100000) (hh : Heap l) (hB : B ≤ w.heap.size) :
    Calls Try.prog 80 #[.pointer (some ⟨W, 0, none⟩), .agg #[.int .i64 x.d, .int .i64 x.n]] w fun e w' => e = .returned (.tuple #[]) ∧ PushTo B W x l v kp h f m w w' := by
  obtain ⟨i149, hi, hz0, hz1, hz2⟩ := info_parts info149f
  obtain ⟨a, c, rfl⟩ := q.slice
  have hb0 : Below w.heap.size w (w.alloc (.cells #[.int .i64 x.d, .int .i64 x.n] 149)) := (Below.refl _ _).alloc (Nat.le_refl _) _
  have hbx := heap_alloc_new w (.cells #[.int .i64 x.d, .int .i64 x.n] 149)
  have hq1 := q.below hb0
  have hz : (w.alloc (.cells #[.int .i64 x.d, .int .i64 x.n] 149)).heap.size = w.heap.size + 1 := World.size_alloc _ _
  have HQ := Lib.hid q
  clear q
  go_enter Try.func80, Try.ntmps80
  go_upto_region 1 with fail
  generalize w.alloc (.cells #[.int .i64 x.d, .int .i64 x.n] 149) = w1 at *
  have HQ1 := Lib.hid hq1
  have HZ := Lib.hid hz
  have HB0 := Lib.hid hb0
  have hS : PuS W w.heap.size (.slice a l.length c) x w1 := ⟨(cell_of_block hq1.box).trans rfl, (cell_of_block hbx).trans rfl, (cell_of_block hbx).trans rfl⟩
  have HS := Lib.hid hS
  clear hbx hb0 hq1 hz
  haveI : Nonempty (Such (PuS W w.heap.size (.slice a l.length c) x)) := ⟨⟨w1, hS⟩⟩
  haveI : Inhabited (Such (PuS W w.heap.size (.slice a l.length c) x)) := ⟨⟨w1, hS⟩⟩
  have Z0 : ∀ z : Such (PuS W w.heap.size (.slice a l.length c) x), z.1.cell? ⟨W, 0, none⟩ = some (.slice a l.length c) := fun z => z.2.1
  have Z1 : ∀ z : Such (PuS W w.heap.size (.slice a l.length c) x), z.1.cell? ⟨w.heap.size, 0, none⟩ = some (.int .i64 x.d) := fun z => z.2.2.1
  have Z2 : ∀ z : Such (PuS W w.heap.size (.slice a l.length c) x), z.1.cell? ⟨w.heap.size, 1, none⟩ = some (.int .i64 x.n) := fun z => z.2.2.2
  clear hS
  refine region_lsch (fun w' => ∃ z : Such (PuS W w.heap.size (.slice a l.length c) x), w' = z.1) 8 [([0, 1, 2, 3, 4, 5], 6), ([], 7)] (by rfl) (by decide +kernel) ⟨⟨w1.drew, HS.out⟩, rfl⟩ ?_
  unfold lschP
  simp only [pickL, List.filterMap_cons, List.filterMap_nil, List.getElem?_toArray, List.getElem?_cons_zero, List.getElem?_cons_succ]
  show wpQuiet _ _ _ _ [_, _, _, _, _, _] _
  repeat (go_big_quiet_step (fail))
  refine wpQuiet_nil ?_
  have hB2 : Below w1.heap.size w1 (w1.drew.alloc (.cells x.c.toArray 149)) := (Below.refl _ _).drew.alloc (Nat.le_refl _) _
  refine mvP_value (v := .slice (some ⟨w1.heap.size, 0, none⟩) (1 : Nat) (1 : Nat)) (w' := w1.drew.alloc (.cells x.c.toArray 149)) (some 12) rfl rfl rfl (by first | (go_simp; done) | (go_simp; rfl)) ⟨⟨⟨_, HS.out.of (hB2.block _ (block_lt_of_cell HS.out.1)) (hB2.block _ (block_lt_of_cell HS.out.2.1))⟩, rfl⟩, ?_⟩
  simp only [Act.put, List.setIfInBounds_toArray, List.set_cons_succ, List.set_cons_zero]
  unfold lschP
  refine wpQuiet_nil ?_
  have hrow2 : (w1.drew.alloc (.cells x.c.toArray 149)).ownsRow B 149 2 (.slice a l.length c) l.length (fcs2 l) := own_frame3 HQ1.out.row fun g _ hg => hB2.block g hg
  have hz1' := HZ.out
  obtain ⟨v3, w3, hrun, ho3, hg3, hn3⟩ := run_append_ownS (P := Try.prog) (w1.drew.alloc (.cells x.c.toArray 149)) B 152 152 149 i149 _ 2 16 Try.underlying152 hi hz0 hz1 hz2 rfl (by decide) (.slice a l.length c) l.length _ hrow2 ⟨w1.heap.size, 0, none⟩ 1 1 x.c rfl (cells_at_block (heap_alloc_new w1.drew _)) (by simp [Fr.c, Value.oneCell']) (by unfold maxLen; omega) (by omega) (by simp; omega)
  obtain ⟨a3, c3, rfl⟩ := own_sl ho3
  have hks : ∀ g, g < w1.heap.size → (Value.slice a l.length c).ownBlock ≠ some g → w3.heap[g]? = w1.heap[g]? := fun g hg h1 => (hg3.block g (by simp; omega) (fun e => h1 e.symm)).trans (hB2.block g hg)
  have hw3 : w3.heap[W]? = some (.cells (pastC (.slice a l.length c) kp h f m) 157 (0, 0)) := (hks W (lt_of_block HQ1.out.box) (own_ne_type HQ1.out.row HQ1.out.box (by decide))).trans HQ1.out.box
  have hS3 : PuS W w.heap.size (.slice a l.length c) x w3 := HS.out.of (hks W (lt_of_block HQ1.out.box) (own_ne_type HQ1.out.row HQ1.out.box (by decide))) (hks _ (block_lt_of_cell HS.out.2.1) (fun e => by have := (own_lt3 HQ.out.row e).2; omega))
  refine mvP_app (some 13) rfl rfl rfl (.tmp 10) (.tmp 12) rfl rfl rfl hrun ⟨⟨⟨w3, hS3⟩, rfl⟩, ?_⟩
  simp only [Act.put, List.setIfInBounds_toArray, List.set_cons_succ, List.set_cons_zero]
  unfold lschP
  simp only [List.drop_succ_cons, List.drop_zero]
  have hc3 : w3.cell? ⟨W, 0, none⟩ = some (.slice a l.length c) := hS3.1
  have hf3 : w3.frozen? ⟨W, 0, none⟩ = false := frozen_of_block hw3
  have hne3 : (Value.slice a3 (l.length + 1) c3).ownBlock ≠ some W := own_ne_type ho3 hw3 (by decide)
  have hsz3 : w1.heap.size + 1 ≤ w3.heap.size := by have := hg3.size; simpa using this
  have HN : Hid (HpA B W (l ++ [x]) (.slice a3 (l ++ [x]).length c3) kp h f m (w3.setCell ⟨W, 0, none⟩ (.slice a3 (l.length + 1) c3)) ∧ Keep W (.slice a l.length c) w (w3.setCell ⟨W, 0, none⟩ (.slice a3 (l.length + 1) c3)) ∧ Nxt w (.slice a l.length c) (.slice a3 (l ++ [x]).length c3)) := by
    rw [List.length_append, List.length_singleton]
    refine ⟨⟨setCell_of_block _ hw3, ?_⟩, ⟨hg3.os.trans HB0.out.os, hg3.tape.trans HB0.out.tape, hg3.output.trans HB0.out.output, ?_, fun g hg h1 h2 => ?_⟩, fun g e => ?_⟩
    · rw [List.length_append, List.length_singleton, fcs2_append]
      have : fcs2 [x] = x.c := by simp [fcs2]
      rw [this]
      exact own_frame3 ho3 fun g e _ => Below.heap_setCell w3 ⟨W, 0, none⟩ _ g (fun e2 => hne3 (by rw [e, e2]))
    · simp [World.setCell]; omega
    · exact (Below.heap_setCell w3 ⟨W, 0, none⟩ _ g h1).trans ((hks g (by omega) h2).trans (HB0.out.block g hg))
    · rcases hn3 g e with e | e
      · exact .inl e
      · exact .inr (by rw [e]; simp; omega)
  have hL : l.length + 1 = (l ++ [x]).length := by simp
  have hup := up_start hh x
  have HU := Lib.hid hup
  rw [hL] at HN ⊢
  clear hn3 hg3 ho3 hw3 hks hrow2 hB2 hS3 hne3 hrun Z0 Z1 Z2 HS hup hsz3 hz1'
  have hNl : (l ++ [x]).length = l.length + 1 := by simp
  obtain ⟨N, hN⟩ : ∃ N, N = (l ++ [x]).length := ⟨_, rfl⟩
  have hcN : ((N : Int) - 1) = (l.length : Int) := by omega
  have HL0 : Hid (UpI (l ++ [x]) l.length ∧ (l ++ [x]).Perm (x :: l) ∧ (l ++ [x]).length = N) := ⟨HU.out, List.perm_append_singleton _ _, hN.symm⟩
  have hNs : N ≤ 100001 := by omega
  have hNk : l.length < N := by omega
  rw [← hN] at HN ⊢
  clear hL hN hNl HU
  have hc4 : (w3.setCell ⟨W, 0, none⟩ (.slice a3 N c3)).cell? ⟨W, 0, none⟩ = some (.slice a3 N c3) := (cell_of_block HN.out.1.box).trans rfl
  go_wp2_with fail
  generalize w3.setCell ⟨W, 0, none⟩ (.slice a3 N c3) = w4 at *
  have H4 := Lib.hid (And.intro HL0.out HN.out)
  clear hc3 hf3 hc4 HL0 HN HB0 HQ1 HZ
  clear hcN
  go_loopw [4] (fun i wr => ∃ k : Nat, ∃ l', k < N ∧ i = .int .i64 k ∧ Hid ((UpI l' k ∧ l'.Perm (x :: l) ∧ l'.length = N) ∧ HpA B W l' (.slice a3 N c3) kp h f m wr ∧ Keep W (.slice a l.length c) w wr ∧ Nxt w (.slice a l.length c) (.slice a3 N c3))) (fun i _ => (intOf i).toNat)
  case atStart => exact ⟨l.length, l ++ [x], hNk, rfl, H4⟩
  case round =>
    obtain ⟨k, l', hk, rfl, HI⟩ := hrel
    by_cases hk0 : 0 < k
    · have d0 : decide ((0 : Int) < (k : Int)) = true := decide_eq_true (by omega)
      obtain ⟨u, hu⟩ : ∃ u, u = (k - 1) / 2 := ⟨_, rfl⟩
      have hcu : ((k : Int) - 1) / 2 = (u : Int) := by omega
      have huk : u < k := by omega
      have huN : u < N := by omega
      have hI := HI.out
      have hln := hI.1.2.2
      have hbox := hI.2.1.box
      obtain ⟨g, c', hv1, x0, x1⟩ := frow_at hI.2.1.row (k := k) (by omega)
      obtain ⟨g', c'', hv2, y0, y1⟩ := frow_at hI.2.1.row (k := u) (by omega)
      rw [hln] at hv1 hv2
      obtain ⟨rfl, rfl⟩ : a3 = some ⟨g, 0, none⟩ ∧ c3 = c' := by injection hv1 with h1 _ h2; exact ⟨h1, h2⟩
      obtain rfl : g = g' := by injection hv2 with h1 _ _; injection h1 with h1; injection h1 with h1
      have c0 : wr.cell? ⟨W, 0, none⟩ = some (.slice (some ⟨g, 0, none⟩) N c3) := (cell_of_block hbox).trans rfl
      have c1 : wr.cell? ⟨W, 1, none⟩ = some (.func (.func 76) #[] #[]) := (cell_of_block hbox).trans rfl
      have H76 := Lib.hid fun z : Lies wr => show Calls Try.prog 76 #[.agg #[.int .i64 (hv l' k).d, .int .i64 (hv l' k).n], .agg #[.int .i64 (hv l' u).d, .int .i64 (hv l' u).n]] z.1 fun e w' => e = .returned (.bool (decide ((hv l' k).lt (hv l' u)))) ∧ Below z.1.heap.size z.1 w' from fless_any (w := z.1) (hv l' k) (hv l' u)
      have L0 := fun z : Lies wr => lies_cell c0 z
      have L1 := fun z : Lies wr => lies_cell c1 z
      have L2 := fun z : Lies wr => lies_cell x0 z
      have L3 := fun z : Lies wr => lies_cell x1 z
      have L4 := fun z : Lies wr => lies_cell y0 z
      have L5 := fun z : Lies wr => lies_cell y1 z
      have HU := Lib.hid hu
      have HX := Lib.hid (And.intro x0 (And.intro x1 (And.intro y0 (And.intro y1 c0))))
      clear hv1 hv2 x0 x1 y0 y1 c0 c1 hI hbox hu hln
      by_cases hlt : (hv l' k).lt (hv l' u)
      · rw [decide_eq_true hlt] at H76
        go_upto_region 5 with fail
        refine region_lies (by rfl) (by decide +kernel) ?_
        repeat (go_big_quiet_step ((go_at_call 76; exact Lies.call (H76.out _))))
        refine wpQuiet_nil ?_
        intro _ hw'
        obtain ⟨z, rfl⟩ := hw'
        have hz : Below wr.heap.size wr z.1 := z.2
        clear L0 L1 L2 L3 L4 L5 H76
        generalize z.1 = wz at *
        clear z
        obtain ⟨x0, x1, y0, y1, c0⟩ := HX.out
        have x0 := (hz.cell (block_lt_of_cell x0)).trans x0
        have x1 := (hz.cell (block_lt_of_cell x1)).trans x1
        have y0 := (hz.cell (block_lt_of_cell y0)).trans y0
        have y1 := (hz.cell (block_lt_of_cell y1)).trans y1
        have c0 := (hz.cell (block_lt_of_cell c0)).trans c0
        have hqz := HI.out.2.1.below hz
        have hkz := HI.out.2.2.1.then_below hz
        have HZ := Lib.hid (And.intro hqz hkz)
        have HLT := Lib.hid hlt
        clear hqz hkz hz HX hlt
        go_upto_region 6 with fail
        have hrow : wz.ownsRow B 149 2 (.slice (some ⟨g, 0, none⟩) N c3) N (fcs2 l') := by
          have := HZ.out.1.row
          rwa [HI.out.1.2.2] at this
        have z0 : wz.frozen? ⟨g, k * 2, none⟩ = false := row_frozen hrow
        have z1 : wz.frozen? ⟨g, k * 2 + 1, none⟩ = false := row_frozen hrow
        have z2 : wz.frozen? ⟨g, u * 2, none⟩ = false := row_frozen hrow
        have z3 : wz.frozen? ⟨g, u * 2 + 1, none⟩ = false := row_frozen hrow
        have HR := Lib.hid hrow
        clear hrow
        obtain ⟨xd, hxd⟩ : ∃ xd, xd = (hv l' k).d := ⟨_, rfl⟩
        obtain ⟨xn, hxn⟩ : ∃ xn, xn = (hv l' k).n := ⟨_, rfl⟩
        obtain ⟨yd, hyd⟩ : ∃ yd, yd = (hv l' u).d := ⟨_, rfl⟩
        obtain ⟨yn, hyn⟩ : ∃ yn, yn = (hv l' u).n := ⟨_, rfl⟩
        rw [← hxd] at x0
        rw [← hxn] at x1
        rw [← hyd] at y0
        rw [← hyn] at y1
        have HV := Lib.hid (And.intro hxd (And.intro hxn (And.intro hyd hyn)))
        clear hxd hxn hyd hyn
        go_region
        obtain ⟨W2, hW2⟩ : ∃ W2, W2 = ((((wz.setCell ⟨g, k * 2, none⟩ (.int .i64 yd)).setCell ⟨g, k * 2 + 1, none⟩ (.int .i64 yn)).setCell ⟨g, u * 2, none⟩ (.int .i64 xd)).setCell ⟨g, u * 2 + 1, none⟩ (.int .i64 xn)).drew := ⟨_, rfl⟩
        have hq2 : HpA B W (swapL l' k u) (.slice (some ⟨g, 0, none⟩) N c3) kp h f m W2 := by
          obtain ⟨e1, e2, e3, e4⟩ := HV.out
          rw [hW2, e1, e2, e3, e4]
          exact (HZ.out.1.swapN HI.out.1.2.2).below (Below.refl _ _).drew
        have hk2 : Keep W (.slice a l.length c) w W2 := by
          rw [hW2]
          exact (HZ.out.2.swap HI.out.2.2.2).then_below (Below.refl _ _).drew
        rw [← hW2]
        have hu1 : UpI (swapL l' k u) u ∧ (swapL l' k u).Perm (x :: l) ∧ (swapL l' k u).length = N := by
          have hkl : k < l'.length := by rw [HI.out.1.2.2]; exact hk
          have hul : u < l'.length := by rw [HI.out.1.2.2]; exact huN
          have := up_step HI.out.1.1 hkl hk0 (by rw [← HU.out]; exact HLT.out)
          rw [← HU.out] at this
          exact ⟨this, (swapL_perm hkl hul).trans HI.out.1.2.1, by rw [swapL_len]; exact HI.out.1.2.2⟩
        have H2 := Lib.hid (And.intro hu1 (And.intro hq2 (And.intro hk2 HI.out.2.2.2)))
        clear hW2 hq2 hk2 hu1 x0 x1 y0 y1 z0 z1 z2 z3 c0 HV HR HZ HLT HI H4
        rw [hcu]
        go_wp2_with fail
        go_roundw
        case rel => exact ⟨u, _, huN, rfl, H2⟩
        case measure => simp [intOf]; omega
      · have HLT := Lib.hid hlt
        rw [decide_eq_false hlt] at H76
        go_upto_region 5 with fail
        refine region_lies (by rfl) (by decide +kernel) ?_
        repeat (go_big_quiet_step ((go_at_call 76; exact Lies.call (H76.out _))))
        refine wpQuiet_nil ?_
        intro _ hw'
        obtain ⟨z, rfl⟩ := hw'
        have hz : Below wr.heap.size wr z.1 := z.2
        clear L0 L1 L2 L3 L4 L5 H76
        generalize z.1 = wz at *
        clear z
        have HF := Lib.hid (show PushTo B W x l (.slice a l.length c) kp h f m w wz from ⟨_, l', up_end HI.out.1.1 (.inr (by rw [← HU.out]; exact HLT.out)), HI.out.1.2.1, (show HpA B W l' (.slice (some ⟨g, 0, none⟩) N c3) kp h f m wz from HI.out.2.1.below hz), HI.out.2.2.1.then_below hz, HI.out.2.2.2⟩)
        clear HX HI H4 hz hlt HLT
        go_wp2_with fail
        exact bodyPost_ret (v := .tuple #[]) (results_none rfl _ _ _) rfl ⟨rfl, HF.out⟩
    · obtain rfl : k = 0 := by omega
      have HF := Lib.hid (show PushTo B W x l (.slice a l.length c) kp h f m w wr from ⟨_, l', up_end HI.out.1.1 (.inl rfl), HI.out.1.2.1, HI.out.2.1, HI.out.2.2.1, HI.out.2.2.2⟩)
      clear HI
      simp only [show ((0 : Nat) : Int) = 0 from rfl]
      go_wp2_with fail
      exact bodyPost_end (v := .tuple #[]) (results_none rfl _ _ _) rfl ⟨rfl, HF.out⟩
end Go.Proofs.Ytfojhmobnedekaa

/- The walk of the heap's pop. Conditions: the heap is short, not empty. -/
namespace Go.Proofs.Ytfojhmobnedekaa
open Go.RowKit

theorem own_shrink {w : World} {B s n m c : Nat} {a : Option Addr} {e : TypeId} {xs : List Value} (h : w.ownsRow B e s (.slice a n c) n xs) (hm : m ≤ n) : w.ownsRow B e s (.slice a m c) m (xs.take (m * s)) := by
  obtain ⟨h1, h2⟩ := h
  have hms : m * s ≤ n * s := Nat.mul_le_mul_right _ hm
  refine ⟨by rw [List.length_take, h1]; omega, ?_⟩
  rcases h2 with ⟨e, h0⟩ | ⟨g, cap, cur, e, hb, hh, hn, hc, hs, ht⟩
  · injection e with e1 e2 e3
    subst e1; subst e3
    left; exact ⟨by rw [show m = 0 by omega], by omega⟩
  · injection e with e1 e2 e3
    subst e1; subst e3
    exact .inr ⟨g, c, cur, rfl, hb, hh, by omega, hc, hs, by rw [← ht, List.take_take, Nat.min_eq_left hms]⟩
theorem fcs2_take : ∀ (l : List Fr) (k : Nat), (fcs2 l).take (k * 2) = fcs2 (l.take k)
  | [], k => by simp [fcs2]
  | x :: l, 0 => by simp [fcs2]
  | x :: l, k + 1 => by
    show ([_, _] ++ fcs2 l).take ((k + 1) * 2) = [_, _] ++ fcs2 (l.take k)
    rw [show (k + 1) * 2 = 2 + k * 2 by omega, ← fcs2_take l k, List.take_append, List.take_of_length_le (by simp)]
    simp
/-- The first is put in its place, the last goes. -/
def cutL (l : List Fr) : List Fr := (l.set 0 (hv l (l.length - 1))).take (l.length - 1)
theorem cutL_len (l : List Fr) : (cutL l).length = l.length - 1 := by simp [cutL]
theorem HpA.set0 {B W g c n M : Nat} {l : List Fr} {kp h f m : Value} {w : World} (q : HpA B W l (.slice (some ⟨g, 0, none⟩) n c) kp h f m w) (hn : l.length = n) (hM : M = n - 1) :
    HpA B W (cutL l) (.slice (some ⟨g, 0, none⟩) M c) kp h f m (((w.setCell ⟨g, 0, none⟩ (.int .i64 (hv l M).d)).setCell ⟨g, 1, none⟩ (.int .i64 (hv l M).n)).drew.setCell ⟨W, 0, none⟩ (.slice (some ⟨g, 0, none⟩) M c)) := by
  subst hn; subst hM
  have hWg : W ≠ g := fun e => own_ne_type q.row q.box (by decide) (by rw [e]; rfl)
  have hb1 : ((w.setCell ⟨g, 0, none⟩ (.int .i64 (hv l (l.length - 1)).d)).setCell ⟨g, 1, none⟩ (.int .i64 (hv l (l.length - 1)).n)).drew.heap[W]? = some (.cells (pastC (.slice (some ⟨g, 0, none⟩) l.length c) kp h f m) 157 (0, 0)) :=
    (Below.heap_setCell _ ⟨g, 1, none⟩ _ W hWg).trans ((Below.heap_setCell _ ⟨g, 0, none⟩ _ W hWg).trans q.box)
  refine ⟨setCell_of_block _ hb1, ?_⟩
  rw [cutL_len]
  have h1 := own_setS (own_setS (i := 0) q.row (.int .i64 (hv l (l.length - 1)).d)) (i := 1) (.int .i64 (hv l (l.length - 1)).n)
  have e0 := fcs2_set l 0 (hv l (l.length - 1))
  rw [Nat.zero_mul, Nat.zero_add] at e0
  rw [← e0] at h1
  have h2 := own_shrink h1 (Nat.sub_le l.length 1)
  rw [fcs2_take] at h2
  exact own_frame3 (own_frame3 h2 fun g _ _ => rfl) fun g' e _ => Below.heap_setCell _ ⟨W, 0, none⟩ _ g' (fun e2 => hWg (by injection e with e; exact (e.trans e2).symm))
theorem Keep.set0 {W g n c : Nat} {w0 w : World} {v : Value} {u1 u2 u3 : Value} (h : Keep W v w0 w) (hn : Nxt w0 v (.slice (some ⟨g, 0, none⟩) n c)) : Keep W v w0 (((w.setCell ⟨g, 0, none⟩ u1).setCell ⟨g, 1, none⟩ u2).drew.setCell ⟨W, 0, none⟩ u3) :=
  ⟨h.os, h.tape, h.output, by have := h.size; simpa [World.setCell] using this, fun q hq h1 h2 => by
    have hg : q ≠ g := fun e => by
      rcases hn g rfl with e2 | e2
      · exact h2 (by rw [e]; exact e2)
      · omega
    exact (Below.heap_setCell _ ⟨W, 0, none⟩ _ q h1).trans ((Below.heap_setCell _ ⟨g, 1, none⟩ _ q hg).trans ((Below.heap_setCell _ ⟨g, 0, none⟩ _ q hg).trans (h.block q hq h1 h2)))⟩
theorem own_cap {w : World} {B s n c g : Nat} {e : TypeId} {xs : List Value} (h : w.ownsRow B e s (.slice (some ⟨g, 0, none⟩) n c) n xs) : n ≤ c := by
  rcases h.2 with ⟨e, _⟩ | ⟨_, _, _, e, _, _, hn, _⟩
  · cases e
  · injection e with _ _ e3
    subst e3; exact hn
theorem info149s : (Try.prog.info? 149).map (·.size) = some 2 := by kernel_rfl
theorem Keep.set1 {W X : Nat} {w0 w : World} {v : Value} {a : Nat} {u : Value} (h : Keep W v w0 w) (hX : w0.heap.size ≤ X) : Keep W v w0 (w.setCell ⟨X, a, none⟩ u) :=
  ⟨h.os, h.tape, h.output, by have := h.size; simpa [World.setCell] using this, fun q hq h1 h2 => (Below.heap_setCell _ ⟨X, a, none⟩ _ q (by show q ≠ X; omega)).trans (h.block q hq h1 h2)⟩
theorem HpA.off {B W X a : Nat} {l : List Fr} {v kp h f m u : Value} {w : World} (q : HpA B W l v kp h f m w) (h1 : X ≠ W) (h2 : v.ownBlock ≠ some X) : HpA B W l v kp h f m (w.setCell ⟨X, a, none⟩ u) :=
  ⟨(Below.heap_setCell _ ⟨X, a, none⟩ _ W (Ne.symm h1)).trans q.box, own_frame3 q.row fun g e _ => Below.heap_setCell _ ⟨X, a, none⟩ _ g (fun e2 => h2 (by rw [e, e2]))⟩
/-- What pop hands on. -/
def PopTo (B W : Nat) (l : List Fr) (v kp h f m : Value) (w w' : World) : Prop := ∃ v' l', Heap l' ∧ (hv l 0 :: l').Perm l ∧ HpA B W l' v' kp h f m w' ∧ Keep W v w w' ∧ v'.ownBlock = v.ownBlock

set_option maxHeartbeats 3200000 in
set_option maxRecDepth 100000 in
theorem hpop_any {w : World} {B W : Nat} {l : List Fr} {v kp h f m : Value} (q : HpA B W l v kp h f m w) (hl : l.length ≤ 100000) (hh : Heap l) (h0 : 0 < l.length) :
    Calls Try.prog 81 #[.pointer (some ⟨W, 0, none⟩)] w fun e w' => e = .returned (hv l 0).v ∧ PopTo B W l v kp h f m w w' := by
  obtain ⟨N, hN⟩ : ∃ N, N = l.length := ⟨_, rfl⟩
  obtain ⟨M, hM⟩ : ∃ M, M = N - 1 := ⟨_, rfl⟩
  obtain ⟨g, c, rfl, x0, x1⟩ := frow_at q.row (k := 0) h0
  rw [Nat.zero_mul] at x0
  rw [Nat.zero_mul, Nat.zero_add] at x1
  obtain ⟨g', c', e', y0, y1⟩ := frow_at q.row (k := M) (by omega)
  obtain ⟨rfl, rfl⟩ : c = c' ∧ g = g' := by injection e' with h1 _ h2; injection h1 with h1; injection h1 with h1; exact ⟨h2, h1⟩
  clear e'
  have hb0 : Below w.heap.size w (w.alloc (.cells #[.int .i64 0, .int .i64 0] 149)) := (Below.refl _ _).alloc (Nat.le_refl _) _
  have hbr := heap_alloc_new w (.cells #[.int .i64 0, .int .i64 0] 149)
  have hsz : (w.alloc (.cells #[.int .i64 0, .int .i64 0] 149)).heap.size = w.heap.size + 1 := World.size_alloc _ _
  have HQ := Lib.hid q
  have hq1 := q.below hb0
  have x0 := (hb0.cell (block_lt_of_cell x0)).trans x0
  have x1 := (hb0.cell (block_lt_of_cell x1)).trans x1
  have y0 := (hb0.cell (block_lt_of_cell y0)).trans y0
  have y1 := (hb0.cell (block_lt_of_cell y1)).trans y1
  have HNl := Lib.hid hN
  rw [← hN] at hq1
  have c0 : (w.alloc (.cells #[.int .i64 0, .int .i64 0] 149)).cell? ⟨W, 0, none⟩ = some (.slice (some ⟨g, 0, none⟩) N c) := (cell_of_block hq1.box).trans rfl
  have HQ1 := Lib.hid hq1
  have HB0 := Lib.hid hb0
  have HZ := Lib.hid hsz
  have HBR := Lib.hid hbr
  have hN0 : 0 < N := by omega
  have hcM : (N : Int) - 1 = (M : Int) := by omega
  have hNs : N ≤ 100000 := by omega
  have hMc : M ≤ c := by have := own_cap q.row; omega
  have HM := Lib.hid hM
  have hMN : M < N := by omega
  obtain ⟨xd, hxd⟩ : ∃ xd, xd = (hv l 0).d := ⟨_, rfl⟩
  obtain ⟨xn, hxn⟩ : ∃ xn, xn = (hv l 0).n := ⟨_, rfl⟩
  obtain ⟨yd, hyd⟩ : ∃ yd, yd = (hv l M).d := ⟨_, rfl⟩
  obtain ⟨yn, hyn⟩ : ∃ yn, yn = (hv l M).n := ⟨_, rfl⟩
  rw [← hxd] at x0
  rw [← hxn] at x1
  rw [← hyd] at y0
  rw [← hyn] at y1
  have HV := Lib.hid (And.intro hxd (And.intro hxn (And.intro hyd hyn)))
  clear q hq1 hb0 hsz hbr hM h0 hl hxd hxn hyd hyn hN
  go_enter Try.func81, Try.ntmps81
  go_upto_region 1 with fail
  generalize w.alloc (.cells #[.int .i64 0, .int .i64 0] 149) = w1 at *
  go_upto_region 3 with fail
  have hb1 : Below w1.heap.size w1 (w1.alloc (.cells #[.int .i64 xd, .int .i64 xn] 149)) := (Below.refl _ _).alloc (Nat.le_refl _) _
  have hbx := heap_alloc_new w1 (.cells #[.int .i64 xd, .int .i64 xn] 149)
  rw [HZ.out] at hbx
  have HQ2 := Lib.hid (HQ1.out.below hb1)
  have HBR2 := Lib.hid ((hb1.block _ (by rw [HZ.out]; omega)).trans HBR.out)
  have HBX2 := Lib.hid hbx
  have HK2 := Lib.hid ((Keep.of_below (W := W) (v := .slice (some ⟨g, 0, none⟩) N c) HB0.out).then_below hb1)
  have x0 := (hb1.cell (block_lt_of_cell x0)).trans x0
  have x1 := (hb1.cell (block_lt_of_cell x1)).trans x1
  have y0 := (hb1.cell (block_lt_of_cell y0)).trans y0
  have y1 := (hb1.cell (block_lt_of_cell y1)).trans y1
  have c0 := (hb1.cell (block_lt_of_cell c0)).trans c0
  clear hb1 hbx
  rw [HZ.out]
  generalize w1.alloc (.cells #[.int .i64 xd, .int .i64 xn] 149) = w2 at *
  have z0 : w2.frozen? ⟨g, 0, none⟩ = false := row_frozen (n := N) (xs := fcs2 l) (by have := HQ2.out.row; rwa [← HNl.out] at this)
  have z1 : w2.frozen? ⟨g, 1, none⟩ = false := row_frozen (n := N) (xs := fcs2 l) (by have := HQ2.out.row; rwa [← HNl.out] at this)
  go_region
  obtain ⟨W3, hW3⟩ : ∃ W3, W3 = ((w2.setCell ⟨g, 0, none⟩ (.int .i64 yd)).setCell ⟨g, 1, none⟩ (.int .i64 yn)).drew := ⟨_, rfl⟩
  rw [← hW3]
  have hWl : W < w.heap.size := lt_of_block HQ.out.box
  have hgl : g < w.heap.size := (own_lt3 HQ.out.row rfl).2
  have hWg : W ≠ g := fun e => own_ne_type HQ2.out.row HQ2.out.box (by decide) (by rw [e]; rfl)
  have hk3 : ∀ q, q ≠ g → W3.heap[q]? = w2.heap[q]? := fun q hq => by
    rw [hW3]
    exact (Below.heap_setCell _ ⟨g, 1, none⟩ _ q hq).trans (Below.heap_setCell _ ⟨g, 0, none⟩ _ q hq)
  have hb3 := (hk3 W hWg).trans HQ2.out.box
  have c0 : W3.cell? ⟨W, 0, none⟩ = some (.slice (some ⟨g, 0, none⟩) N c) := (cell_of_block hb3).trans rfl
  have f0 : W3.frozen? ⟨W, 0, none⟩ = false := frozen_of_block hb3
  have hq4 : HpA B W (cutL l) (.slice (some ⟨g, 0, none⟩) M c) kp h f m (W3.setCell ⟨W, 0, none⟩ (.slice (some ⟨g, 0, none⟩) M c)) := by
    rw [hW3, HV.out.2.2.1, HV.out.2.2.2]
    exact HQ2.out.set0 HNl.out.symm HM.out
  have hk4 : Keep W (.slice (some ⟨g, 0, none⟩) N c) w (W3.setCell ⟨W, 0, none⟩ (.slice (some ⟨g, 0, none⟩) M c)) := by
    rw [hW3]
    exact HK2.out.set0 (Nxt.refl _ _)
  have hr4 : (W3.setCell ⟨W, 0, none⟩ (.slice (some ⟨g, 0, none⟩) M c)).heap[w.heap.size]? = some (.cells #[.int .i64 0, .int .i64 0] 149 (0, 0)) :=
    (Below.heap_setCell _ ⟨W, 0, none⟩ _ _ (by show w.heap.size ≠ W; omega)).trans ((hk3 _ (by omega)).trans HBR2.out)
  have hx4 : (W3.setCell ⟨W, 0, none⟩ (.slice (some ⟨g, 0, none⟩) M c)).heap[w.heap.size + 1]? = some (.cells #[.int .i64 xd, .int .i64 xn] 149 (0, 0)) :=
    (Below.heap_setCell _ ⟨W, 0, none⟩ _ _ (by show w.heap.size + 1 ≠ W; omega)).trans ((hk3 _ (by omega)).trans HBX2.out)
  have hd4 : DnI (cutL l) 0 ∧ (hv l 0 :: cutL l).Perm l ∧ (cutL l).length = M := by
    have hl0 : 0 < l.length := by rw [← HNl.out]; exact hN0
    exact ⟨dn_start hh hl0, pop_perm hl0, by rw [cutL_len, ← HNl.out, HM.out]⟩
  have H4 := Lib.hid (And.intro hd4 (And.intro hq4 (And.intro hk4 (And.intro hr4 hx4))))
  clear hW3 hk3 hb3 hq4 hk4 hr4 hx4 hd4 x0 x1 y0 y1 z0 z1 HQ2 HBR2 HBX2 HK2 HQ1 HB0 HZ HBR
  go_wp2_with fail
  generalize W3.setCell ⟨W, 0, none⟩ (.slice (some ⟨g, 0, none⟩) M c) = W4 at *
  clear c0 f0
  go_loopw [5] (fun i wr => ∃ k : Nat, ∃ l', (k < M ∨ M = 0) ∧ k ≤ 100000 ∧ i = .int .i64 k ∧ Hid ((DnI l' k ∧ (hv l 0 :: l').Perm l ∧ l'.length = M) ∧ HpA B W l' (.slice (some ⟨g, 0, none⟩) M c) kp h f m wr ∧ Keep W (.slice (some ⟨g, 0, none⟩) N c) w wr ∧ wr.heap[w.heap.size]? = some (.cells #[.int .i64 0, .int .i64 0] 149 (0, 0)) ∧ wr.heap[w.heap.size + 1]? = some (.cells #[.int .i64 xd, .int .i64 xn] 149 (0, 0)))) (fun i _ => M - (intOf i).toNat)
  case atStart => exact ⟨0, _, by omega, by omega, rfl, H4⟩
  case round =>
    obtain ⟨k, l', hk, hk5, rfl, HI⟩ := hrel
    have hI := HI.out
    have H112 := Lib.hid (hleast_any (k := k) hI.2.1 (by rw [hI.1.2.2]; exact hk.imp_right id) (by rw [hI.1.2.2]; omega) (by omega))
    obtain ⟨b, hb⟩ : ∃ b, b = leastL l' k := ⟨_, rfl⟩
    rw [← hb] at H112
    have HB := Lib.hid hb
    clear hb hI
    go_wp2_with fail
    refine H112.out.mono ?_
    rintro e w5 ⟨rfl, hB5⟩
    have hI := HI.out
    have H5 := Lib.hid (And.intro (hI.2.1.below hB5) (And.intro (hI.2.2.1.then_below hB5) (And.intro ((hB5.block _ (lt_of_block hI.2.2.2.1)).trans hI.2.2.2.1) ((hB5.block _ (lt_of_block hI.2.2.2.2)).trans hI.2.2.2.2))))
    clear hI hB5 H112
    by_cases hbk : b = k
    · subst hbk
      have d1 : ((b : Int) == (b : Int)) = true := by simp
      have d2 : decide ((b : Int) = (b : Int)) = true := by simp
      have r0 : w5.cell? ⟨w.heap.size, 0, none⟩ = some (.int .i64 0) := (cell_of_block (j := 0) H5.out.2.2.1).trans rfl
      have r1 : w5.cell? ⟨w.heap.size, 1, none⟩ = some (.int .i64 0) := (cell_of_block (j := 1) H5.out.2.2.1).trans rfl
      have z0 : w5.frozen? ⟨w.heap.size, 0, none⟩ = false := frozen_of_block (j := 0) H5.out.2.2.1
      have z1 : w5.frozen? ⟨w.heap.size, 1, none⟩ = false := frozen_of_block (j := 1) H5.out.2.2.1
      have q0 : w5.cell? ⟨w.heap.size + 1, 0, none⟩ = some (.int .i64 xd) := (cell_of_block (j := 0) H5.out.2.2.2).trans rfl
      have q1 : w5.cell? ⟨w.heap.size + 1, 1, none⟩ = some (.int .i64 xn) := (cell_of_block (j := 1) H5.out.2.2.2).trans rfl
      have hs1 := heap_setCell_same w5 w.heap.size 0 _ 149 (.int .i64 xd) H5.out.2.2.1
      have hs2 := heap_setCell_same _ w.heap.size 1 _ 149 (.int .i64 xn) hs1
      have hfin : PopTo B W l (.slice (some ⟨g, 0, none⟩) l.length c) kp h f m w ((w5.setCell ⟨w.heap.size, 0, none⟩ (.int .i64 xd)).setCell ⟨w.heap.size, 1, none⟩ (.int .i64 xn)) := by
        have hO : (Value.slice (some ⟨g, 0, none⟩) M c).ownBlock ≠ some w.heap.size := fun e => by injection e with e; simp at e; omega
        refine ⟨.slice (some ⟨g, 0, none⟩) M c, l', dn_end HI.out.1.1 (.inr HB.out.symm), HI.out.1.2.1, (H5.out.1.off (by omega) hO).off (by omega) hO, ?_, rfl⟩
        rw [← HNl.out]
        exact (H5.out.2.1.set1 (Nat.le_refl _)).set1 (Nat.le_refl _)
      have HF := Lib.hid (And.intro hs2 hfin)
      have he : (hv l 0).v = .agg #[.int .i64 xd, .int .i64 xn] := by rw [HV.out.1, HV.out.2.1]; rfl
      have HE := Lib.hid he
      clear hs1 hs2 hfin he HI H5 HB H4
      go_wp2_with fail
      exact bodyPost_ret (v := .agg #[.int .i64 xd, .int .i64 xn]) (results_cell_row rfl _ _ _ _ _ _ _ rfl HF.out.1 Try.underlying149 rfl info149s) rfl ⟨by rw [HE.out], HF.out.2⟩
    · have d1 : ((b : Int) == (k : Int)) = false := by simp; omega
      have d2 : decide ((b : Int) = (k : Int)) = false := by simp; omega
      have hM0 : k < M := by
        rcases hk with hk | hk
        · exact hk
        · exfalso
          have h1 := HI.out.1.2.2
          have h2 : leastL l' k = k := by
            unfold leastL
            rw [if_neg (fun h => by omega), if_neg (fun h => by omega)]
          exact hbk (HB.out.trans h2)
      obtain ⟨hd, hkb, hbM⟩ := dn_step HI.out.1.1 (by rw [HI.out.1.2.2]; exact hM0) (by rw [← HB.out]; exact hbk)
      rw [← HB.out] at hd hkb hbM
      rw [HI.out.1.2.2] at hbM
      obtain ⟨g1, c1, hv1, x0, x1⟩ := frow_at H5.out.1.row (k := k) (by rw [HI.out.1.2.2]; exact hM0)
      obtain ⟨g2, c2, hv2, y0, y1⟩ := frow_at H5.out.1.row (k := b) (by rw [HI.out.1.2.2]; exact hbM)
      obtain rfl : g = g1 := by injection hv1 with h1 _ _; injection h1 with h1; injection h1 with h1
      obtain rfl : g = g2 := by injection hv2 with h1 _ _; injection h1 with h1; injection h1 with h1
      clear hv1 hv2
      have c0 : w5.cell? ⟨W, 0, none⟩ = some (.slice (some ⟨g, 0, none⟩) M c) := (cell_of_block H5.out.1.box).trans rfl
      have hrow : w5.ownsRow B 149 2 (.slice (some ⟨g, 0, none⟩) M c) M (fcs2 l') := by
        have := H5.out.1.row
        rwa [HI.out.1.2.2] at this
      have z0 : w5.frozen? ⟨g, k * 2, none⟩ = false := row_frozen hrow
      have z1 : w5.frozen? ⟨g, k * 2 + 1, none⟩ = false := row_frozen hrow
      have z2 : w5.frozen? ⟨g, b * 2, none⟩ = false := row_frozen hrow
      have z3 : w5.frozen? ⟨g, b * 2 + 1, none⟩ = false := row_frozen hrow
      have hd1 : DnI (swapL l' k b) b ∧ (hv l 0 :: swapL l' k b).Perm l ∧ (swapL l' k b).length = M :=
        ⟨hd, ((swapL_perm (by rw [HI.out.1.2.2]; exact hM0) (by rw [HI.out.1.2.2]; exact hbM)).cons _).trans HI.out.1.2.1, by rw [swapL_len]; exact HI.out.1.2.2⟩
      have HD1 := Lib.hid hd1
      obtain ⟨xd', hxd⟩ : ∃ xd', xd' = (hv l' k).d := ⟨_, rfl⟩
      obtain ⟨xn', hxn⟩ : ∃ xn', xn' = (hv l' k).n := ⟨_, rfl⟩
      obtain ⟨yd', hyd⟩ : ∃ yd', yd' = (hv l' b).d := ⟨_, rfl⟩
      obtain ⟨yn', hyn⟩ : ∃ yn', yn' = (hv l' b).n := ⟨_, rfl⟩
      rw [← hxd] at x0
      rw [← hxn] at x1
      rw [← hyd] at y0
      rw [← hyn] at y1
      have HV2 := Lib.hid (And.intro hxd (And.intro hxn (And.intro hyd hyn)))
      clear hxd hxn hyd hyn hd hd1 hrow
      go_upto_region 9 with fail
      go_region
      obtain ⟨W2, hW2⟩ : ∃ W2, W2 = ((((w5.setCell ⟨g, k * 2, none⟩ (.int .i64 yd')).setCell ⟨g, k * 2 + 1, none⟩ (.int .i64 yn')).setCell ⟨g, b * 2, none⟩ (.int .i64 xd')).setCell ⟨g, b * 2 + 1, none⟩ (.int .i64 xn')).drew := ⟨_, rfl⟩
      have hb2 : ∀ q, q ≠ g → W2.heap[q]? = w5.heap[q]? := fun q hq => by rw [hW2]; exact swap_heap w5 g _ _ _ _ _ _ _ _ q hq
      have hq2 : HpA B W (swapL l' k b) (.slice (some ⟨g, 0, none⟩) M c) kp h f m W2 := by
        obtain ⟨e1, e2, e3, e4⟩ := HV2.out
        rw [hW2, e1, e2, e3, e4]
        exact (H5.out.1.swapN HI.out.1.2.2).below (Below.refl _ _).drew
      have hk2 : Keep W (.slice (some ⟨g, 0, none⟩) N c) w W2 := by
        rw [hW2]
        exact (H5.out.2.1.swap (g := g) (n := M) (c := c) (fun q e => .inl e)).then_below (Below.refl _ _).drew
      rw [← hW2]
      have H2 := Lib.hid (And.intro HD1.out (And.intro hq2 (And.intro hk2 (And.intro ((hb2 _ (by omega)).trans H5.out.2.2.1) ((hb2 _ (by omega)).trans H5.out.2.2.2)))))
      clear hW2 hq2 hk2 hb2 x0 x1 y0 y1 z0 z1 z2 z3 c0 HV2 HI H4 H5 HD1 HB
      go_wp2_with fail
      go_roundw
      case rel => exact ⟨b, _, .inl hbM, by omega, rfl, H2⟩
      case measure => simp [intOf]; omega
end Go.Proofs.Ytfojhmobnedekaa

/- The walks of the past's small functions: made, New, Has, Horizon, Forgot, Bars. Conditions: what the past holds reads as one. -/
namespace Go.Proofs.Ytfojhmobnedekaa
open Go.RowKit

/-- A past: its heap, its map of the same numbers. -/
structure PB (B W mb : Nat) (l : List Fr) (kp : Nat) (h : Int) (f : Nat) (v : Value) (w : World) : Prop where
  hp : HpA B W l v (.int .i64 kp) (.int .i64 h) (.int .i64 f) (.map (some mb)) w
  mp : MapOf mb (l.map Fr.n) w
  heap : Heap l
  len : l.length ≤ kp
  top : kp ≤ 1024
  rng : ∀ x ∈ l, (0 ≤ x.d ∧ x.d ≤ 2147483647) ∧ (0 ≤ x.n ∧ x.n ≤ 2147483647)
  hr : 0 ≤ h ∧ h ≤ 2147483647
  lowW : B ≤ W
  lowM : B ≤ mb
theorem PB.below {B W mb kp f : Nat} {l : List Fr} {h : Int} {v : Value} {w w' : World} (p : PB B W mb l kp h f v w) (hB : Below w.heap.size w w') : PB B W mb l kp h f v w' :=
  ⟨p.hp.below hB, p.mp.of_block (hB.block _ p.mp.lt), p.heap, p.len, p.top, p.rng, p.hr, p.lowW, p.lowM⟩
theorem neq_map (m : Nat) (w : World) : (binOp BinOp.neq 155 (.map (some m)) (.map none)).run Try.prog w = .ok (.bool true) w := by kernel_rfl
theorem MapOf.obj {m : Nat} {S : List Int} {w : World} (h : MapOf m S w) : ∃ es c, w.heap[m]? = some (.map es c) := by
  obtain ⟨_, D, ⟨es, clock, hb, _⟩, _⟩ := h
  exact ⟨es, clock, hb⟩
set_option maxHeartbeats 1600000 in
set_option maxRecDepth 100000 in
theorem pmade_any {w : World} {W mb : Nat} {v k h f : Value} (hb : w.heap[W]? = some (.cells (pastC v k h f (.map (some mb))) 157 (0, 0))) : Calls Try.prog 78 #[.pointer (some ⟨W, 0, none⟩)] w fun e w' => e = .returned (.bool true) ∧ w = w' := by
  have h2 : w.cell? ⟨W, 2, none⟩ = some (.map (some mb)) := (cell_of_block hb).trans rfl
  clear hb
  have hne := neq_map mb
  go_enter Try.func78, Try.ntmps78
  go_wp2_with fail
  go_ret
  exact ⟨rfl, rfl⟩
/-- How many of a keep there may be. -/
def keepOK (k : Int) : Bool := decide (0 ≤ k ∧ k ≤ 1024)
set_option maxHeartbeats 1600000 in
set_option maxRecDepth 100000 in
theorem pnew_any (w : World) (k : Nat) (hk : k ≤ 1024) : Calls Try.prog 48 #[.int .i64 k] w fun e w' => ∃ W mb, e = .returned (.tuple #[.pointer (some ⟨W, 0, none⟩), .int .i64 0]) ∧ PB w.heap.size W mb [] k 0 0 (.slice none 0 0) w' ∧ Below w.heap.size w w' := by
  have hw : IntKind.u64.wrap (k : Int) = (k : Int) := by
    have e : IntKind.u64.wrap (k : Int) = (k : Int) % 18446744073709551616 := by simp [IntKind.wrap, IntKind.signed, IntKind.bits]
    rw [e]; omega
  have hmm := @run_makeMap Try.prog
  have d1 : decide ((1024 : Int) < (k : Int)) = false := decide_eq_false (by omega)
  have hm := MapOf.made w
  have hb1 : Below w.heap.size w (w.alloc (.map #[] 0)) := (Below.refl _ _).alloc (Nat.le_refl _) _
  have hz1 : (w.alloc (.map #[] 0)).heap.size = w.heap.size + 1 := World.size_alloc _ _
  have hx : heap_alloc_new (w.alloc (.map #[] 0)) (.cells (pastC (.slice none 0 0) (.int .i64 k) (.int .i64 0) (.int .i64 0) (.map (some w.heap.size))) 157) = heap_alloc_new (w.alloc (.map #[] 0)) (.cells (pastC (.slice none 0 0) (.int .i64 k) (.int .i64 0) (.int .i64 0) (.map (some w.heap.size))) 157) := rfl
  have hb2 : Below (w.alloc (.map #[] 0)).heap.size (w.alloc (.map #[] 0)) ((w.alloc (.map #[] 0)).alloc (.cells (pastC (.slice none 0 0) (.int .i64 k) (.int .i64 0) (.int .i64 0) (.map (some w.heap.size))) 157)) := (Below.refl _ _).alloc (Nat.le_refl _) _
  have HF : Hid (PB w.heap.size (w.heap.size + 1) w.heap.size [] k 0 0 (.slice none 0 0) ((w.alloc (.map #[] 0)).alloc (.cells (pastC (.slice none 0 0) (.int .i64 k) (.int .i64 0) (.int .i64 0) (.map (some w.heap.size))) 157)) ∧ Below w.heap.size w ((w.alloc (.map #[] 0)).alloc (.cells (pastC (.slice none 0 0) (.int .i64 k) (.int .i64 0) (.int .i64 0) (.map (some w.heap.size))) 157))) :=
    ⟨⟨⟨by have := heap_alloc_new (w.alloc (.map #[] 0)) (.cells (pastC (.slice none 0 0) (.int .i64 k) (.int .i64 0) (.int .i64 0) (.map (some w.heap.size))) 157); rw [hz1] at this; exact this, World.ownsRow_nil _ _ _ _⟩, hm.of_block (hb2.block _ (by rw [hz1]; omega)), heap_nil, Nat.zero_le _, hk, (fun x hx => by cases hx), by omega, by omega, by omega⟩, hb1.alloc (by rw [hz1]; omega) _⟩
  clear hm hb1 hz1 hx hb2
  unfold pastC at HF
  go_enter Try.func48, Try.ntmps48
  go_wp2_with fail
  go_ret2
  exact ⟨w.heap.size + 1, w.heap.size, by simp, HF.out.1, HF.out.2⟩
set_option maxHeartbeats 1600000 in
set_option maxRecDepth 100000 in
theorem pnew_not (w : World) (k : Int) (hk : ¬ (0 ≤ k ∧ k ≤ 1024)) (hr : -9223372036854775808 ≤ k ∧ k ≤ 9223372036854775807) : Calls Try.prog 48 #[.int .i64 k] w fun e w' => e = .returned (.tuple #[.pointer none, .int .i64 2]) ∧ w = w' := by
  obtain ⟨u, hu⟩ : ∃ u, u = IntKind.u64.wrap k := ⟨_, rfl⟩
  have hw : IntKind.u64.wrap k = if 0 ≤ k then k else k + 18446744073709551616 := by
    have e : IntKind.u64.wrap k = k % 18446744073709551616 := by simp [IntKind.wrap, IntKind.signed, IntKind.bits]
    rw [e]
    split <;> omega
  have d1 : decide ((1024 : Int) < u) = true := decide_eq_true (by rw [hu, hw]; split <;> omega)
  have hu2 := hu.symm
  clear hu hw hk hr
  go_enter Try.func48, Try.ntmps48
  go_wp2_with fail
  go_ret2
  exact ⟨rfl, rfl⟩
theorem i64_wf {x : Int} (h : -9223372036854775808 ≤ x ∧ x ≤ 9223372036854775807) : (Lit.int .i64 x).wf = true := WalkArith.wf_i64 (by omega)
set_option maxHeartbeats 1600000 in
set_option maxRecDepth 100000 in
theorem phas_any {w : World} {B W mb kp f : Nat} {l : List Fr} {h : Int} {v : Value} (p : PB B W mb l kp h f v w) (n : Int) (hn : (Lit.int .i64 n).wf = true) : Calls Try.prog 57 #[.pointer (some ⟨W, 0, none⟩), .int .i64 n] w fun e w' => e = .returned (.bool (decide (n ∈ l.map Fr.n))) ∧ w = w' := by
  have HM := Lib.hid (pmade_any p.hp.box)
  have h2 : w.cell? ⟨W, 2, none⟩ = some (.map (some mb)) := (cell_of_block p.hp.box).trans rfl
  have hl := p.mp.look hn
  clear p
  by_cases hm : n ∈ l.map Fr.n
  · rw [if_pos hm] at hl
    rw [decide_eq_true hm]
    clear hm
    go_enter Try.func57, Try.ntmps57
    go_wp2_with fail
    refine HM.out.mono ?_
    rintro e w1 ⟨rfl, rfl⟩
    go_wp2_with fail
    go_ret
    exact ⟨rfl, rfl⟩
  · rw [if_neg hm] at hl
    rw [decide_eq_false hm]
    clear hm
    go_enter Try.func57, Try.ntmps57
    go_wp2_with fail
    refine HM.out.mono ?_
    rintro e w1 ⟨rfl, rfl⟩
    go_wp2_with fail
    go_ret
    exact ⟨rfl, rfl⟩
set_option maxHeartbeats 1600000 in
set_option maxRecDepth 100000 in
theorem phorizon_any {w : World} {B W mb kp f : Nat} {l : List Fr} {h : Int} {v : Value} (p : PB B W mb l kp h f v w) : Calls Try.prog 52 #[.pointer (some ⟨W, 0, none⟩)] w fun e w' => e = .returned (.int .i64 h) ∧ w = w' := by
  have HM := Lib.hid (pmade_any p.hp.box)
  have h4 : w.cell? ⟨W, 4, none⟩ = some (.int .i64 h) := (cell_of_block p.hp.box).trans rfl
  clear p
  go_enter Try.func52, Try.ntmps52
  go_wp2_with fail
  refine HM.out.mono ?_
  rintro e w1 ⟨rfl, rfl⟩
  go_wp2_with fail
  go_ret
  exact ⟨rfl, rfl⟩
set_option maxHeartbeats 1600000 in
set_option maxRecDepth 100000 in
theorem pforgot_any {w : World} {B W mb kp f : Nat} {l : List Fr} {h : Int} {v : Value} (p : PB B W mb l kp h f v w) : Calls Try.prog 53 #[.pointer (some ⟨W, 0, none⟩)] w fun e w' => e = .returned (.int .i64 (f : Nat)) ∧ w = w' := by
  have HM := Lib.hid (pmade_any p.hp.box)
  have h4 : w.cell? ⟨W, 5, none⟩ = some (.int .i64 (f : Nat)) := (cell_of_block p.hp.box).trans rfl
  clear p
  go_enter Try.func53, Try.ntmps53
  go_wp2_with fail
  refine HM.out.mono ?_
  rintro e w1 ⟨rfl, rfl⟩
  go_wp2_with fail
  go_ret
  exact ⟨rfl, rfl⟩
set_option maxHeartbeats 1600000 in
set_option maxRecDepth 100000 in
theorem pbars_any {w : World} {B W mb kp f : Nat} {l : List Fr} {h : Int} {v : Value} (p : PB B W mb l kp h f v w) (n d : Int) (hn : (Lit.int .i64 n).wf = true) : Calls Try.prog 56 #[.pointer (some ⟨W, 0, none⟩), .int .i64 n, .int .i64 d] w fun e w' => e = .returned (.bool (decide (n ∈ l.map Fr.n) || decide (d ≤ h))) ∧ w = w' := by
  have HM := Lib.hid (pmade_any p.hp.box)
  have HH := Lib.hid (phas_any p n hn)
  have h4 : w.cell? ⟨W, 4, none⟩ = some (.int .i64 h) := (cell_of_block p.hp.box).trans rfl
  clear p hn
  obtain ⟨b, hb⟩ : ∃ b, b = decide (n ∈ l.map Fr.n) := ⟨_, rfl⟩
  rw [← hb] at HH ⊢
  clear hb
  cases b
  all_goals
    go_enter Try.func56, Try.ntmps56
    go_wp2_with fail
    refine HM.out.mono ?_
    rintro e w1 ⟨rfl, rfl⟩
    go_wp2_with fail
    refine HH.out.mono ?_
    rintro e w1 ⟨rfl, rfl⟩
    go_wp2_with fail
    go_ret
    exact ⟨rfl, rfl⟩
end Go.Proofs.Ytfojhmobnedekaa

/- The walk of the past's Add. Conditions: what the past holds reads as one; numbers are of the machine's. -/
namespace Go.Proofs.Ytfojhmobnedekaa
open Go.RowKit

/-- What a past's step keeps. -/
structure KeepM (W mb : Nat) (v : Value) (w w' : World) : Prop where
  os : w'.os = w.os
  tape : w'.tape = w.tape
  output : w'.output = w.output
  size : w.heap.size ≤ w'.heap.size
  block : ∀ g, g < w.heap.size → g ≠ W → g ≠ mb → v.ownBlock ≠ some g → w'.heap[g]? = w.heap[g]?
theorem KeepM.of_keep {W mb : Nat} {v : Value} {w w' : World} (h : Keep W v w w') : KeepM W mb v w w' := ⟨h.os, h.tape, h.output, h.size, fun g hg h1 _ h2 => h.block g hg h1 h2⟩
theorem KeepM.of_grown {W mb : Nat} {v : Value} {w w' : World} (h : w.grownBy w' (some mb)) : KeepM W mb v w w' := ⟨h.os, h.tape, h.output, h.size, fun g hg _ h1 _ => h.block g hg (fun e => h1 (Option.some.inj e))⟩
theorem KeepM.trans {W mb : Nat} {v v' : Value} {a b c : World} (h : KeepM W mb v a b) (hn : Nxt a v v') (k : KeepM W mb v' b c) : KeepM W mb v a c :=
  ⟨k.os.trans h.os, k.tape.trans h.tape, k.output.trans h.output, Nat.le_trans h.size k.size, fun g hg h1 h2 h3 => (k.block g (Nat.lt_of_lt_of_le hg h.size) h1 h2 (fun e => by
    rcases hn g e with e2 | e2
    · exact h3 e2
    · omega)).trans (h.block g hg h1 h2 h3)⟩
theorem KeepM.of_below {W mb : Nat} {v : Value} {w w' : World} (h : Below w.heap.size w w') : KeepM W mb v w w' := .of_keep (Keep.of_below h)
theorem KeepM.setW {W mb i : Nat} {v u : Value} {a b : World} (h : KeepM W mb v a b) : KeepM W mb v a (b.setCell ⟨W, i, none⟩ u) :=
  ⟨h.os, h.tape, h.output, by have := h.size; simpa [World.setCell] using this, fun g hg h1 h2 h3 => (Below.heap_setCell b ⟨W, i, none⟩ _ g h1).trans (h.block g hg h1 h2 h3)⟩
theorem HpA.setH {B W : Nat} {l : List Fr} {v k h f m : Value} {w : World} (q : HpA B W l v k h f m w) (u : Value) : HpA B W l v k u f m (w.setCell ⟨W, 4, none⟩ u) :=
  ⟨setCell_of_block u q.box, own_frame3 q.row fun g e _ => Below.heap_setCell w ⟨W, 4, none⟩ _ g (fun e2 => own_ne_type q.row q.box (by decide) (by rw [e]; exact congrArg some e2))⟩
theorem HpA.setF {B W : Nat} {l : List Fr} {v k h f m : Value} {w : World} (q : HpA B W l v k h f m w) (u : Value) : HpA B W l v k h u m (w.setCell ⟨W, 5, none⟩ u) :=
  ⟨setCell_of_block u q.box, own_frame3 q.row fun g e _ => Below.heap_setCell w ⟨W, 5, none⟩ _ g (fun e2 => own_ne_type q.row q.box (by decide) (by rw [e]; exact congrArg some e2))⟩
/-- The map's block is neither the past's nor the row's. -/
theorem PB.mW {B W mb kp f : Nat} {l : List Fr} {h : Int} {v : Value} {w : World} (p : PB B W mb l kp h f v w) : mb ≠ W := fun e => by
  obtain ⟨es, c, ho⟩ := p.mp.obj
  rw [e, p.hp.box] at ho; cases ho
theorem PB.mV {B W mb kp f : Nat} {l : List Fr} {h : Int} {v : Value} {w : World} (p : PB B W mb l kp h f v w) : v.ownBlock ≠ some mb := fun e => by
  obtain ⟨es, c, ho⟩ := p.mp.obj
  rcases p.hp.row.2 with ⟨e1, _⟩ | ⟨g, cap, cur, rfl, _, hh, _⟩
  · subst e1; cases e
  · have e2 : g = mb := by injection e
    subst e2; rw [hh] at ho; cases ho
theorem PB.vW {B W mb kp f : Nat} {l : List Fr} {h : Int} {v : Value} {w : World} (p : PB B W mb l kp h f v w) : v.ownBlock ≠ some W := own_ne_type p.hp.row p.hp.box (by decide)
def numOK (n : Int) : Bool := decide (0 ≤ n ∧ n ≤ 2147483647)
/-- What an Add leads to. -/
def AddTo (x : Fr) (kp : Nat) (l : List Fr) (h : Int) (f : Nat) (l' : List Fr) (h' : Int) (f' : Nat) : Prop :=
  (l.length + 1 ≤ kp ∧ l'.Perm (x :: l) ∧ h' = h ∧ f' = f) ∨ (kp < l.length + 1 ∧ ∃ y, (y :: l').Perm (x :: l) ∧ (∀ z ∈ x :: l, y.le z) ∧ h' = max h y.d ∧ f' = f + 1)
/-- What Add hands on. -/
def AddRes (B W mb : Nat) (x : Fr) (kp : Nat) (l : List Fr) (h : Int) (f : Nat) (v : Value) (w w' : World) : Prop := ∃ l' h' f' v', AddTo x kp l h f l' h' f' ∧ PB B W mb l' kp h' f' v' w' ∧ KeepM W mb v w w' ∧ Nxt w v v'
theorem hv_mem {l : List Fr} {i : Nat} (h : i < l.length) : hv l i ∈ l := by rw [hv_get h]; exact List.getElem_mem h
theorem heap_le {l : List Fr} (h : Heap l) : ∀ z ∈ l, (hv l 0).le z := fun z hz => by
  obtain ⟨i, hi, rfl⟩ := List.mem_iff_getElem.1 hz
  have := heap_min h i hi
  rwa [hv_get (l := l) hi] at this
set_option maxHeartbeats 1600000 in
set_option maxRecDepth 100000 in
theorem padd_not {w : World} {B W mb kp f : Nat} {l : List Fr} {h : Int} {v : Value} (p : PB B W mb l kp h f v w) (n d : Int) (hn : -9223372036854775808 ≤ n ∧ n ≤ 9223372036854775807) (hd : -9223372036854775808 ≤ d ∧ d ≤ 9223372036854775807) (hno : numOK n = false ∨ numOK d = false) :
    Calls Try.prog 49 #[.pointer (some ⟨W, 0, none⟩), .int .i64 n, .int .i64 d] w fun e w' => e = .returned (.int .i64 2) ∧ w = w' := by
  have HM := Lib.hid (pmade_any p.hp.box)
  have H1 : Hid (∀ w, Calls Try.prog 79 #[.int .i64 n] w fun e w' => e = .returned (.bool (numOK n)) ∧ w = w') := fun w => number_any w n hn
  have H2 : Hid (∀ w, Calls Try.prog 79 #[.int .i64 d] w fun e w' => e = .returned (.bool (numOK d)) ∧ w = w') := fun w => number_any w d hd
  clear p hn hd
  cases h1 : numOK n
  · rw [h1] at H1
    clear hno h1
    go_enter Try.func49, Try.ntmps49
    go_wp2_with fail
    refine HM.out.mono ?_
    rintro e w1 ⟨rfl, rfl⟩
    go_wp2_with fail
    refine (H1.out _).mono ?_
    rintro e w1 ⟨rfl, rfl⟩
    go_wp2_with fail
    go_ret
    exact ⟨rfl, rfl⟩
  · rw [h1] at H1 hno
    have h2 : numOK d = false := by rcases hno with h | h; cases h; exact h
    rw [h2] at H2
    clear hno h1 h2
    go_enter Try.func49, Try.ntmps49
    go_wp2_with fail
    refine HM.out.mono ?_
    rintro e w1 ⟨rfl, rfl⟩
    go_wp2_with fail
    refine (H1.out _).mono ?_
    rintro e w1 ⟨rfl, rfl⟩
    go_wp2_with fail
    refine (H2.out _).mono ?_
    rintro e w1 ⟨rfl, rfl⟩
    go_wp2_with fail
    go_ret
    exact ⟨rfl, rfl⟩
set_option maxHeartbeats 1600000 in
set_option maxRecDepth 100000 in
theorem padd_twice {w : World} {B W mb kp f : Nat} {l : List Fr} {h : Int} {v : Value} (p : PB B W mb l kp h f v w) (n d : Int) (hn : 0 ≤ n ∧ n ≤ 2147483647) (hd : 0 ≤ d ∧ d ≤ 2147483647) (hm : n ∈ l.map Fr.n) :
    Calls Try.prog 49 #[.pointer (some ⟨W, 0, none⟩), .int .i64 n, .int .i64 d] w fun e w' => e = .returned (.int .i64 9) ∧ w = w' := by
  have HM := Lib.hid (pmade_any p.hp.box)
  have H1 : Hid (∀ w, Calls Try.prog 79 #[.int .i64 n] w fun e w' => e = .returned (.bool true) ∧ w = w') := fun w => by have := number_any w n (by omega); rwa [decide_eq_true hn] at this
  have H2 : Hid (∀ w, Calls Try.prog 79 #[.int .i64 d] w fun e w' => e = .returned (.bool true) ∧ w = w') := fun w => by have := number_any w d (by omega); rwa [decide_eq_true hd] at this
  have H3 := Lib.hid (phas_any p n (i64_wf (by omega)))
  rw [decide_eq_true hm] at H3
  clear p hn hd hm
  go_enter Try.func49, Try.ntmps49
  go_wp2_with fail
  refine HM.out.mono ?_
  rintro e w1 ⟨rfl, rfl⟩
  go_wp2_with fail
  refine (H1.out _).mono ?_
  rintro e w1 ⟨rfl, rfl⟩
  go_wp2_with fail
  refine (H2.out _).mono ?_
  rintro e w1 ⟨rfl, rfl⟩
  go_wp2_with fail
  refine H3.out.mono ?_
  rintro e w1 ⟨rfl, rfl⟩
  go_wp2_with fail
  go_ret
  exact ⟨rfl, rfl⟩
set_option maxHeartbeats 3200000 in
set_option maxRecDepth 100000 in
theorem padd_any {w : World} {B W mb kp f : Nat} {l : List Fr} {h : Int} {v : Value} (p : PB B W mb l kp h f v w) (hB : B ≤ w.heap.size) (hf : f ≤ 1000000) (x : Fr) (hn : 0 ≤ x.n ∧ x.n ≤ 2147483647) (hd : 0 ≤ x.d ∧ x.d ≤ 2147483647) (hm : x.n ∉ l.map Fr.n) :
    Calls Try.prog 49 #[.pointer (some ⟨W, 0, none⟩), .int .i64 x.n, .int .i64 x.d] w fun e w' => e = .returned (.int .i64 0) ∧ AddRes B W mb x kp l h f v w w' := by
  have HM := Lib.hid (pmade_any p.hp.box)
  have H1 : Hid (∀ w, Calls Try.prog 79 #[.int .i64 x.n] w fun e w' => e = .returned (.bool true) ∧ w = w') := fun w => by have := number_any w x.n (by omega); rwa [decide_eq_true hn] at this
  have H2 : Hid (∀ w, Calls Try.prog 79 #[.int .i64 x.d] w fun e w' => e = .returned (.bool true) ∧ w = w') := fun w => by have := number_any w x.d (by omega); rwa [decide_eq_true hd] at this
  have hwf := i64_wf (x := x.n) (by omega)
  have H3 := Lib.hid (phas_any p x.n hwf)
  rw [decide_eq_false hm] at H3
  have h2 : w.cell? ⟨W, 2, none⟩ = some (.map (some mb)) := (cell_of_block p.hp.box).trans rfl
  obtain ⟨w1, hrun, hm1, hg1, hs1⟩ := p.mp.put hwf hm (by rw [List.length_map]; have := p.len; have := p.top; omega)
  have HP := Lib.hid p
  have hq1 : HpA B W l v (.int .i64 kp) (.int .i64 h) (.int .i64 f) (.map (some mb)) w1 :=
    ⟨(hg1.block _ (lt_of_block p.hp.box) (fun e => p.mW (by injection e with e; exact e.symm))).trans p.hp.box, own_frame3 p.hp.row fun g e hg => hg1.block g hg (fun e2 => p.mV (by rw [e, e2]))⟩
  have H4 := Lib.hid (hpush_any (x := x) hq1 (by have := p.len; have := p.top; omega) p.heap (by omega))
  have HM1 := Lib.hid hm1
  have HG1 := Lib.hid (KeepM.of_grown (W := W) (v := v) hg1)
  have HS1 := Lib.hid hs1
  have HQ1 := Lib.hid hq1
  clear p hq1 hm1 hg1 hs1
  go_enter Try.func49, Try.ntmps49
  go_wp2_with fail
  refine HM.out.mono ?_
  rintro e w0 ⟨rfl, rfl⟩
  go_wp2_with fail
  refine (H1.out _).mono ?_
  rintro e w0 ⟨rfl, rfl⟩
  go_wp2_with fail
  refine (H2.out _).mono ?_
  rintro e w0 ⟨rfl, rfl⟩
  go_wp2_with fail
  refine H3.out.mono ?_
  rintro e w0 ⟨rfl, rfl⟩
  go_wp2_with fail
  refine H4.out.mono ?_
  rintro e w2 ⟨rfl, v2, l2, hh2, hp2, hq2, hk2, hn2⟩
  have hK : KeepM W mb v w w2 := HG1.out.trans (Nxt.refl _ _) (KeepM.of_keep hk2)
  have hN : Nxt w v v2 := fun g e => by
    rcases hn2 g e with e2 | e2
    · exact .inl e2
    · exact .inr (by rw [HS1.out] at e2; exact e2)
  have hM2 : MapOf mb (l2.map Fr.n) w2 := (HM1.out.of_block (hk2.block _ HM1.out.lt HP.out.mW HP.out.mV)).perm (by
    have := hp2.map Fr.n
    exact this.symm)
  have hl2 : l2.length = l.length + 1 := by rw [hp2.length_eq]; rfl
  have HR := Lib.hid (And.intro hh2 (And.intro hp2 (And.intro hq2 (And.intro hK (And.intro hN (And.intro hM2 hl2))))))
  have L0 : ∀ z : Lies w2, z.1.cell? ⟨W, 2, none⟩ = some (.map (some mb)) := fun z => lies_cell ((cell_of_block hq2.box).trans rfl) z
  have L1 : ∀ z : Lies w2, z.1.cell? ⟨W, 3, none⟩ = some (.int .i64 kp) := fun z => lies_cell ((cell_of_block hq2.box).trans rfl) z
  have L2 : ∀ z : Lies w2, ∀ ty, (Builtin.len_ #[155] ty #[.map (some mb)]).run Try.prog z.1 = .ok (.int .i64 (l.length + 1 : Nat)) z.1 := fun z ty => by
    have := (hM2.of_block (z.2.block _ hM2.lt)).size ty
    rwa [List.length_map, hl2] at this
  clear hh2 hp2 hq2 hK hN hM2 hl2 hk2 hn2 H1 H2 H3 H4 HM HM1 HG1 HS1 HQ1 hrun
  go_upto_region 10 with fail
  by_cases hk : l.length + 1 ≤ kp
  · have d1 : decide ((kp : Int) < ((l.length + 1 : Nat) : Int)) = false := decide_eq_false (by omega)
    have d2 : decide ((kp : Int) < (l.length : Int) + 1) = false := decide_eq_false (by omega)
    refine region_lies (by rfl) (by decide +kernel) ?_
    repeat (go_big_quiet_step (fail))
    refine wpQuiet_nil ?_
    intro _ hw'
    obtain ⟨z, rfl⟩ := hw'
    have hz : Below w2.heap.size w2 z.1 := z.2
    clear L0 L1 L2
    generalize z.1 = w3 at *
    clear z
    have HF : Hid (AddRes B W mb x kp l h f v w w3) := by
      obtain ⟨hh2, hp2, hq2, hK, hN, hM2, hl2⟩ := HR.out
      exact ⟨l2, h, f, v2, .inl ⟨hk, hp2, rfl, rfl⟩, ⟨hq2.below hz, hM2.of_block (hz.block _ hM2.lt), hh2, by omega, HP.out.top, (fun y hy => by
        rcases List.mem_cons.1 (hp2.mem_iff.1 hy) with e | e
        · rw [e]; exact ⟨hd, hn⟩
        · exact HP.out.rng y e), HP.out.hr, HP.out.lowW, HP.out.lowM⟩, hK.trans hN (KeepM.of_below hz), hN⟩
    clear HR HP hz
    go_wp2_with fail
    go_ret
    exact ⟨rfl, HF.out⟩
  · have d1 : decide ((kp : Int) < ((l.length + 1 : Nat) : Int)) = true := decide_eq_true (by omega)
    have d2 : decide ((kp : Int) < (l.length : Int) + 1) = true := decide_eq_true (by omega)
    refine region_lies (by rfl) (by decide +kernel) ?_
    repeat (go_big_quiet_step (fail))
    refine wpQuiet_nil ?_
    intro _ hw'
    obtain ⟨z, rfl⟩ := hw'
    have hz : Below w2.heap.size w2 z.1 := z.2
    clear L0 L1 L2
    generalize z.1 = w3 at *
    clear z
    have HR3 : Hid (Heap l2 ∧ l2.Perm (x :: l) ∧ HpA B W l2 v2 (.int .i64 kp) (.int .i64 h) (.int .i64 f) (.map (some mb)) w3 ∧ KeepM W mb v w w3 ∧ Nxt w v v2 ∧ MapOf mb (l2.map Fr.n) w3 ∧ l2.length = l.length + 1) := by
      obtain ⟨hh2, hp2, hq2, hK, hN, hM2, hl2⟩ := HR.out
      exact ⟨hh2, hp2, hq2.below hz, hK.trans hN (KeepM.of_below hz), hN, hM2.of_block (hz.block _ hM2.lt), hl2⟩
    have H4 := Lib.hid (hpop_any HR3.out.2.2.1 (by have := HP.out.len; have := HP.out.top; have := HR3.out.2.2.2.2.2.2; omega) HR3.out.1 (by have := HR3.out.2.2.2.2.2.2; omega))
    clear HR hz
    go_wp2_with fail
    refine H4.out.mono ?_
    rintro e w4 ⟨rfl, v4, l4, hh4, hp4, hq4, hk4, ho4⟩
    have hmW : mb ≠ W := HP.out.mW
    have hmV : v2.ownBlock ≠ some mb := fun e => by
      obtain ⟨es, c, ho⟩ := HR3.out.2.2.2.2.2.1.obj
      rcases HR3.out.2.2.1.row.2 with ⟨e1, _⟩ | ⟨g, cap, cur, rfl, _, hh, _⟩
      · subst e1; cases e
      · have e2 : g = mb := by injection e
        subst e2; rw [hh] at ho; cases ho
    have hM4 : MapOf mb (l2.map Fr.n) w4 := HR3.out.2.2.2.2.2.1.of_block (hk4.block _ HR3.out.2.2.2.2.2.1.lt hmW hmV)
    have hK4 : KeepM W mb v w w4 := HR3.out.2.2.2.1.trans HR3.out.2.2.2.2.1 (KeepM.of_keep hk4)
    have hN4 : Nxt w v v4 := fun g e => HR3.out.2.2.2.2.1 g (by rw [← ho4]; exact e)
    obtain ⟨y, hy⟩ : ∃ y, y = hv l2 0 := ⟨_, rfl⟩
    have hl20 : 0 < l2.length := by have := HR3.out.2.2.2.2.2.2; omega
    have hym : y ∈ l2 := by rw [hy]; exact hv_mem hl20
    have hymin : ∀ z ∈ l2, y.le z := by rw [hy]; exact heap_le HR3.out.1
    have hyx : y ∈ x :: l := HR3.out.2.1.mem_iff.1 hym
    have hyr : (0 ≤ y.d ∧ y.d ≤ 2147483647) ∧ (0 ≤ y.n ∧ y.n ≤ 2147483647) := by
      rcases List.mem_cons.1 hyx with e | e
      · rw [e]; exact ⟨hd, hn⟩
      · exact HP.out.rng y e
    rw [← hy] at hp4 ⊢
    have HR4 := Lib.hid (And.intro hh4 (And.intro hp4 (And.intro hq4 (And.intro hM4 (And.intro hK4 (And.intro hN4 (And.intro hym (And.intro hymin hyr))))))))
    clear hh4 hp4 hq4 hM4 hK4 hN4 hym hymin hyx hk4 ho4 H4 hy hmV
    obtain ⟨yd, yn⟩ := y
    unfold Fr.v
    dsimp only at hyr ⊢
    go_upto_region 12 with fail
    have hb5 : Below w4.heap.size w4 (w4.alloc (.cells #[.int .i64 yd, .int .i64 yn] 149)) := (Below.refl _ _).alloc (Nat.le_refl _) _
    have hx5 := heap_alloc_new w4 (.cells #[.int .i64 yd, .int .i64 yn] 149)
    have hz5 : (w4.alloc (.cells #[.int .i64 yd, .int .i64 yn] 149)).heap.size = w4.heap.size + 1 := World.size_alloc _ _
    generalize w4.alloc (.cells #[.int .i64 yd, .int .i64 yn] 149) = w5 at *
    have b0 : w5.cell? ⟨w4.heap.size, 0, none⟩ = some (.int .i64 yd) := (cell_of_block (j := 0) hx5).trans rfl
    have b1 : w5.cell? ⟨w4.heap.size, 1, none⟩ = some (.int .i64 yn) := (cell_of_block (j := 1) hx5).trans rfl
    have c2 : w5.cell? ⟨W, 2, none⟩ = some (.map (some mb)) := (hb5.cell (lt_of_block HR4.out.2.2.1.box)).trans ((cell_of_block HR4.out.2.2.1.box).trans rfl)
    have HX5 := Lib.hid hx5
    have HB5 := Lib.hid hb5
    have HZ5 := Lib.hid hz5
    clear hx5 hb5 hz5
    refine region_quiet_tail 6 (by rfl) (by decide +kernel) ?_
    simp only [List.take_succ_cons, List.take_zero, List.drop_succ_cons, List.drop_zero]
    repeat (go_big_quiet_step (fail))
    refine wpQuiet_nil ?_
    intro _ hw'
    obtain ⟨nq, rfl⟩ := hw'
    have hb6 : Below w4.heap.size w4 (w5.drewN nq) := below_drewN HB5.out nq
    have hx6 : (w5.drewN nq).heap[w4.heap.size]? = some (.cells #[.int .i64 yd, .int .i64 yn] 149 (0, 0)) := by rw [← HX5.out]; simp
    have hz6 : (w5.drewN nq).heap.size = w4.heap.size + 1 := by rw [← HZ5.out]; simp
    generalize w5.drewN nq = w6 at *
    have hM6 : MapOf mb (l2.map Fr.n) w6 := HR4.out.2.2.2.1.of_block (hb6.block _ HR4.out.2.2.2.1.lt)
    obtain ⟨w7, hrun, hm7, hg7, hs7⟩ := hM6.del (x := yn) (i64_wf (by omega)) (by have := List.mem_map_of_mem (f := Fr.n) HR4.out.2.2.2.2.2.2.1; exact this) 0
    have hM7 : MapOf mb (l4.map Fr.n) w7 := hm7.perm (by
      have h1 := (HR4.out.2.1.map Fr.n).symm.erase yn
      rw [List.map_cons, List.erase_cons_head] at h1
      exact h1)
    have hK7 : KeepM W mb v w w7 := (HR4.out.2.2.2.2.1.trans HR4.out.2.2.2.2.2.1 (KeepM.of_below (v := v4) hb6)).trans HR4.out.2.2.2.2.2.1 (KeepM.of_grown hg7)
    have hmV4 : v4.ownBlock ≠ some mb := fun e => by
      obtain ⟨es, c, ho⟩ := HR4.out.2.2.2.1.obj
      rcases HR4.out.2.2.1.row.2 with ⟨e1, _⟩ | ⟨g, cap, cur, rfl, _, hh, _⟩
      · subst e1; cases e
      · have e2 : g = mb := by injection e
        subst e2; rw [hh] at ho; cases ho
    have hq6 := HR4.out.2.2.1.below hb6
    have hq7 : HpA B W l4 v4 (.int .i64 kp) (.int .i64 h) (.int .i64 f) (.map (some mb)) w7 :=
      ⟨(hg7.block _ (lt_of_block hq6.box) (fun e => hmW (Option.some.inj e).symm)).trans hq6.box, own_frame3 hq6.row fun g e hg => hg7.block g hg (fun e2 => hmV4 (by rw [e, e2]))⟩
    have hmx : mb < w4.heap.size := HR4.out.2.2.2.1.lt
    have hx7 := (hg7.block w4.heap.size (by omega) (fun e => by have := Option.some.inj e; omega)).trans hx6
    have b0 : w7.cell? ⟨w4.heap.size, 0, none⟩ = some (.int .i64 yd) := (cell_of_block (j := 0) hx7).trans rfl
    have c4 : w7.cell? ⟨W, 4, none⟩ = some (.int .i64 h) := (cell_of_block (j := 4) hq7.box).trans rfl
    have f4 : w7.frozen? ⟨W, 4, none⟩ = false := frozen_of_block hq7.box
    have HR7 := Lib.hid (And.intro hq7 (And.intro hM7 hK7))
    clear hb6 hx6 hz6 hM6 hm7 hg7 hs7 hM7 hK7 hq6 hq7 hx7 c2 b1 HX5 HB5 HZ5
    go_upto_region 13 with fail
    go_region
    obtain ⟨h8, hh8⟩ : ∃ h8, h8 = if h < yd then yd else h := ⟨_, rfl⟩
    obtain ⟨W8, hW8⟩ : ∃ W8, W8 = (w7.setCell ⟨W, 4, none⟩ (.int .i64 (if h < yd then yd else h))).drew := ⟨_, rfl⟩
    rw [← hW8, ← hh8]
    have hmx8 : h8 = max h yd := by rw [hh8]; split <;> omega
    have hq8 : HpA B W l4 v4 (.int .i64 kp) (.int .i64 h8) (.int .i64 f) (.map (some mb)) W8 := by
      rw [hW8, ← hh8]
      exact (HR7.out.1.setH _).below (Below.refl _ _).drew
    have hM8 : MapOf mb (l4.map Fr.n) W8 := HR7.out.2.1.of_block (by rw [hW8]; exact Below.heap_setCell w7 ⟨W, 4, none⟩ _ mb hmW)
    have hK8 : KeepM W mb v w W8 := by
      rw [hW8]
      exact (HR7.out.2.2.setW).trans HR4.out.2.2.2.2.2.1 (KeepM.of_below (v := v4) (Below.refl _ _).drew)
    have c5 : W8.cell? ⟨W, 5, none⟩ = some (.int .i64 f) := (cell_of_block (j := 5) hq8.box).trans rfl
    have f5 : W8.frozen? ⟨W, 5, none⟩ = false := frozen_of_block hq8.box
    have HR8 := Lib.hid (And.intro hq8 (And.intro hM8 (And.intro hK8 hmx8)))
    clear hq8 hM8 hK8 hmx8 hW8 hh8 b0 c4 f4 HR7 hrun d1 d2
    have HF : Hid (AddRes B W mb x kp l h f v w (W8.setCell ⟨W, 5, none⟩ (.int .i64 ((f : Int) + 1)))) := by
      obtain ⟨hq8, hM8, hK8, hmx8⟩ := HR8.out
      obtain ⟨hh4, hp4, hq4, hM4, hK4, hN4, hym, hymin, _⟩ := HR4.out
      obtain ⟨hh2, hp2, _, _, _, _, hl2⟩ := HR3.out
      refine ⟨l4, h8, f + 1, v4, .inr ⟨by omega, ⟨yd, yn⟩, hp4.trans hp2, fun z hz => hymin z (hp2.mem_iff.2 hz), hmx8, rfl⟩, ⟨?_, hM8.of_block (Below.heap_setCell W8 ⟨W, 5, none⟩ _ mb hmW), hh4, ?_, HP.out.top, fun z hz => ?_, ?_, HP.out.lowW, HP.out.lowM⟩, hK8.setW, hN4⟩
      · have := hq8.setF (.int .i64 ((f : Int) + 1))
        rwa [show ((f + 1 : Nat) : Int) = (f : Int) + 1 by omega]
      · have := hp4.length_eq
        rw [List.length_cons] at this
        have := HP.out.len
        omega
      · have hz2 : z ∈ x :: l := hp2.mem_iff.1 (hp4.mem_iff.1 (List.mem_cons_of_mem _ hz))
        rcases List.mem_cons.1 hz2 with e | e
        · rw [e]; exact ⟨hd, hn⟩
        · exact HP.out.rng z e
      · have := HP.out.hr
        omega
    clear HR8 HR4 HR3 HP
    go_wp2_with fail
    go_ret
    exact ⟨rfl, HF.out⟩
end Go.Proofs.Ytfojhmobnedekaa
