/- Rows that the call owns; an append that says what other rows keep. No condition beyond each law's own. -/
import Derived.Test.YtfojhmobnedekaaBase
namespace Go.Proofs.Ytfojhmobnedekaa
open Go.RowKit

theorem run_append_own2 {P : Program} (w : World) (base : Nat) (t ty e : TypeId) (i : TypeInfo) (z : Value) (bytes : Nat) (ht : P.underlying t = some (.slice e)) (hi : P.info? e = some i) (hz : i.zero = some z)
    (hsize : i.size = 1) (hby : i.bytes = bytes) (hzs : z.cells.size = 1)
    (v : Value) (n : Nat) (xs : List Value) (hown : w.ownsRow base e 1 v n xs)
    (a : Addr) (m c : Nat) (news : List Value) (hl : news.length = m * 1) (hnews : ∀ j u, news[j]? = some u → w.cell? (a.add j) = some u) (h1 : ∀ u ∈ news, u.oneCell' = true)
    (h63 : n + m ≤ maxLen) (hbytes : (n + m) * bytes ≤ 140737488355328) (hbase : base ≤ w.heap.size) :
    ∃ v' w', (Builtin.append_ #[t, t] ty #[v, .slice (some a) m c]).run P w = .ok v' w' ∧ w'.ownsRow base e 1 v' (n + m) (xs ++ news) ∧ w.grownBy w' v.ownBlock ∧
      (∀ g, v'.ownBlock = some g → v.ownBlock = some g ∨ g = w.heap.size) := by
  obtain ⟨v', w', hr, h2, h3, h4⟩ := run_append_own (P := P) w base t ty e i z 1 bytes ht hi hz hsize hby hzs (by omega) v n xs hown a m c news hl hnews h1 h63 hbytes hbase
  refine ⟨v', w', hr, h2, h3, ?_⟩
  have hsmall : n + m ≤ 9223372036854775807 := by simp only [maxLen] at h63; omega
  rw [← hsize] at hl
  rcases hown.2 with ⟨rfl, rfl⟩ | ⟨g, cap, cur, rfl, hbg, hg, hnc, hcm, hcs, htake⟩
  · by_cases hm : m = 0
    · subst hm
      rw [h4.2 ⟨rfl, rfl⟩]
      intro g e; cases e
    · have hr2 := run_append_nil (P := P) w t ty e i z ht hi hz a m c news hl hnews (by omega) (by omega) (by rw [hby]; rw [Nat.zero_add] at hbytes; omega)
      rw [hr] at hr2
      injection hr2 with e1 _
      subst e1
      intro g e
      exact .inr (by injection e with e; exact e.symm)
  · by_cases hroom : n + m ≤ cap
    · have hr2 := run_append_room (P := P) w t ty e i ht hi g n cap cur hg a m c news hl hnews h1 hroom (by rw [hl, hcs, hsize]; omega)
      rw [hr] at hr2
      injection hr2 with e1 _
      subst e1
      intro g' e
      exact .inl e
    · have holds : ∀ j u, xs[j]? = some u → w.cell? ((⟨g, 0, none⟩ : Addr).add j) = some u := hown.cells (g := g) rfl
      have hr2 := run_append_grow (P := P) w t ty e i z ht hi hz ⟨g, 0, none⟩ n cap xs (by rw [hown.1, hsize]) holds a m c news hl hnews (by omega) (by omega) (growslice_fits (by omega) (by rw [hby]; exact hbytes))
      rw [hr] at hr2
      injection hr2 with e1 _
      subst e1
      intro g' e
      exact .inr (by injection e with e; exact e.symm)
theorem wpList_append_own2 {P : Program} (w : World) {ops : Array Oper} {rest : List Oper} {o : Oper} {a : Act} {Q : Exit → Act → World → Prop} (hgd : o.guard = none) (s x : Operand) (t : TypeId)
    (ho : o.op = .call { callee := .builtin .append, args := #[s, x], argTypes := #[t, t] })
    (base : Nat) (e : TypeId) (i : TypeInfo) (z : Value) (bytes : Nat) (ht : P.underlying t = some (.slice e)) (hi : P.info? e = some i) (hz : i.zero = some z)
    (hsize : i.size = 1) (hby : i.bytes = bytes) (hzs : z.cells.size = 1)
    (v : Value) (n : Nat) (xs : List Value) (hs : a.eval s = v) (hown : w.ownsRow base e 1 v n xs)
    (ad : Addr) (m c : Nat) (news : List Value) (hx : a.eval x = .slice (some ad) m c) (hl : news.length = m * 1) (hnews : ∀ j u, news[j]? = some u → w.cell? (ad.add j) = some u) (h1 : ∀ u ∈ news, u.oneCell' = true)
    (h63 : n + m ≤ maxLen) (hbytes : (n + m) * bytes ≤ 140737488355328) (hbase : base ≤ w.heap.size)
    (h : ∀ v' w', w'.ownsRow base e 1 v' (n + m) (xs ++ news) → w.grownBy w' v.ownBlock → (∀ g, v'.ownBlock = some g → v.ownBlock = some g ∨ g = w.heap.size) → wpList P ops Q rest (a.put o.dst v') w') : wpList P ops Q (o :: rest) a w := by
  refine wpList_plain hgd fun K hK => ?_
  obtain ⟨v', w', hr, h2, h3, h4⟩ := run_append_own2 (P := P) w base t o.type e i z bytes ht hi hz hsize hby hzs v n xs hown ad m c news hl hnews h1 h63 hbytes hbase
  unfold Oper.wp execOp
  simp only [ho, resolve, invoke, builtin, Sem.run_bind, Sem.run_pure, Result.andThen_ok, List.map_toArray, List.map_cons, List.map_nil, hs, hx, hr]
  exact hK _ _ (h v' w' h2 h3 h4)
/- An append that also says what becomes of the other rows. -/
/-- Two rows lie in blocks that are not alike. -/
def Unl (v v' : Value) : Prop := ∀ g, v.ownBlock = some g → v'.ownBlock ≠ some g
theorem Unl.symm {v v' : Value} (h : Unl v v') : Unl v' v := fun g h1 h2 => h g h2 h1
theorem unl_nil (v : Value) : Unl (.slice none 0 0) v := fun g h => by cases h
/-- What another row keeps: all, where it lies elsewhere or is no longer than the one that grows. -/
def KeepRows (w w' : World) (v : Value) (n : Nat) : Prop := ∀ B e v2 n2 xs2, w.ownsRow B e 1 v2 n2 xs2 → (n2 ≤ n ∨ Unl v2 v) → w'.ownsRow B e 1 v2 n2 xs2
theorem keep_far {w w' : World} {B n2 : Nat} {e : TypeId} {v v2 : Value} {xs2 : List Value} (hg : w.grownBy w' v.ownBlock) (h : w.ownsRow B e 1 v2 n2 xs2) (hu : Unl v2 v) : w'.ownsRow B e 1 v2 n2 xs2 := by
  obtain ⟨h1, h2⟩ := h
  refine ⟨h1, ?_⟩
  rcases h2 with h2 | ⟨g, cap, cur, rfl, hb, hh, hn⟩
  · exact .inl h2
  · exact .inr ⟨g, cap, cur, rfl, hb, (hg.block g (lt_of_block hh) (fun e => hu g rfl e.symm)).trans hh, hn⟩
theorem run_append_own3 {P : Program} (w : World) (base : Nat) (t ty e : TypeId) (i : TypeInfo) (z : Value) (bytes : Nat) (ht : P.underlying t = some (.slice e)) (hi : P.info? e = some i) (hz : i.zero = some z)
    (hsize : i.size = 1) (hby : i.bytes = bytes) (hzs : z.cells.size = 1)
    (v : Value) (n : Nat) (xs : List Value) (hown : w.ownsRow base e 1 v n xs)
    (a : Addr) (m c : Nat) (news : List Value) (hl : news.length = m * 1) (hnews : ∀ j u, news[j]? = some u → w.cell? (a.add j) = some u) (h1 : ∀ u ∈ news, u.oneCell' = true)
    (h63 : n + m ≤ maxLen) (hbytes : (n + m) * bytes ≤ 140737488355328) (hbase : base ≤ w.heap.size) :
    ∃ v' w', (Builtin.append_ #[t, t] ty #[v, .slice (some a) m c]).run P w = .ok v' w' ∧ w'.ownsRow base e 1 v' (n + m) (xs ++ news) ∧ w.grownBy w' v.ownBlock ∧
      (∀ g, v'.ownBlock = some g → v.ownBlock = some g ∨ g = w.heap.size) ∧ KeepRows w w' v n := by
  obtain ⟨v', w', hr, h2, h3, h4⟩ := run_append_own2 (P := P) w base t ty e i z bytes ht hi hz hsize hby hzs v n xs hown a m c news hl hnews h1 h63 hbytes hbase
  refine ⟨v', w', hr, h2, h3, h4, ?_⟩
  have hsmall : n + m ≤ 9223372036854775807 := by simp only [maxLen] at h63; omega
  intro B e2 v2 n2 xs2 hv2 hor
  by_cases hu : Unl v2 v
  · exact keep_far h3 hv2 hu
  have hn2 : n2 ≤ n := hor.resolve_right hu
  rw [← hsize] at hl
  rcases hown.2 with ⟨rfl, rfl⟩ | ⟨g, cap, cur, rfl, hbg, hg, hnc, hcm, hcs, htake⟩
  · exact absurd (unl_nil v2).symm hu
  · obtain ⟨q1, q2⟩ := hv2
    refine ⟨q1, ?_⟩
    rcases q2 with q2 | ⟨g2, cap2, cur2, rfl, hb2, hh2, hnc2, hcm2, hcs2, ht2⟩
    · exact .inl q2
    · have hgg : g2 = g := by
        by_cases e : g2 = g
        · exact e
        · exact absurd (fun k hk1 hk2 => e (by injection hk1 with hk1; injection hk2 with hk2; exact hk1.trans hk2.symm)) hu
      subst hgg
      have hcur := hh2.symm.trans hg
      injection hcur with hcur
      injection hcur with hc1 hc2 _
      subst hc1; subst hc2
      by_cases hroom : n + m ≤ cap
      · have hr2 := run_append_room (P := P) w t ty e2 i ht hi g2 n cap cur2 hg a m c news hl hnews h1 hroom (by rw [hl, hcs, hsize]; omega)
        rw [hr] at hr2
        injection hr2 with e1 _
        subst e1
        rcases h2.2 with ⟨h2, _⟩ | ⟨g3, cap3, cur3, e3, hb3, hh3, hnc3, hcm3, hcs3, ht3⟩
        · cases h2
        · injection e3 with e31 e32 e33
          injection e31 with e31
          injection e31 with e31 _ _
          subst e31; subst e33
          refine .inr ⟨g2, cap2, cur3, rfl, hb2, hh3, hnc2, hcm2, by omega, ?_⟩
          rw [← ht2]
          have e : (cur3.toList.take ((n + m) * 1)).take (n2 * 1) = (cur2.toList.take (n * 1)).take (n2 * 1) := by
            rw [ht3, htake, List.take_append_of_le_length (by rw [hown.1]; omega)]
          rw [List.take_take, List.take_take, Nat.min_eq_left (by omega), Nat.min_eq_left (by omega)] at e
          exact e
      · have holds : ∀ j u, xs[j]? = some u → w.cell? ((⟨g2, 0, none⟩ : Addr).add j) = some u := hown.cells (g := g2) rfl
        have hr2 := run_append_grow (P := P) w t ty e2 i z ht hi hz ⟨g2, 0, none⟩ n cap xs (by rw [hown.1, hsize]) holds a m c news hl hnews (by omega) (by omega) (growslice_fits (by omega) (by rw [hby]; exact hbytes))
        rw [hr] at hr2
        injection hr2 with e1 e2
        subst e2
        have hlt := lt_of_block hh2
        exact .inr ⟨g2, cap2, cur2, rfl, hb2, ((Below.refl w.heap.size w.drew).alloc (Nat.le_refl _) _).block g2 hlt |>.trans hh2, hnc2, hcm2, hcs2, ht2⟩
theorem wpList_append_own3 {P : Program} (w : World) {ops : Array Oper} {rest : List Oper} {o : Oper} {a : Act} {Q : Exit → Act → World → Prop} (hgd : o.guard = none) (s x : Operand) (t : TypeId)
    (ho : o.op = .call { callee := .builtin .append, args := #[s, x], argTypes := #[t, t] })
    (base : Nat) (e : TypeId) (i : TypeInfo) (z : Value) (bytes : Nat) (ht : P.underlying t = some (.slice e)) (hi : P.info? e = some i) (hz : i.zero = some z)
    (hsize : i.size = 1) (hby : i.bytes = bytes) (hzs : z.cells.size = 1)
    (v : Value) (n : Nat) (xs : List Value) (hs : a.eval s = v) (hown : w.ownsRow base e 1 v n xs)
    (ad : Addr) (m c : Nat) (news : List Value) (hx : a.eval x = .slice (some ad) m c) (hl : news.length = m * 1) (hnews : ∀ j u, news[j]? = some u → w.cell? (ad.add j) = some u) (h1 : ∀ u ∈ news, u.oneCell' = true)
    (h63 : n + m ≤ maxLen) (hbytes : (n + m) * bytes ≤ 140737488355328) (hbase : base ≤ w.heap.size)
    (h : ∀ v' w', w'.ownsRow base e 1 v' (n + m) (xs ++ news) → w.grownBy w' v.ownBlock → (∀ g, v'.ownBlock = some g → v.ownBlock = some g ∨ g = w.heap.size) → KeepRows w w' v n → wpList P ops Q rest (a.put o.dst v') w') : wpList P ops Q (o :: rest) a w := by
  refine wpList_plain hgd fun K hK => ?_
  obtain ⟨v', w', hr, h2, h3, h4, h5⟩ := run_append_own3 (P := P) w base t o.type e i z bytes ht hi hz hsize hby hzs v n xs hown ad m c news hl hnews h1 h63 hbytes hbase
  unfold Oper.wp execOp
  simp only [ho, resolve, invoke, builtin, Sem.run_bind, Sem.run_pure, Result.andThen_ok, List.map_toArray, List.map_cons, List.map_nil, hs, hx, hr]
  exact hK _ _ (h v' w' h2 h3 h4 h5)
theorem own_succ {w : World} {B e k : Nat} {v : Value} {xs : List Value} (h : w.ownsRow B e 1 v (k + 1) xs) : ∃ g cap, v = .slice (some ⟨g, 0, none⟩) (k + 1) cap := by
  obtain ⟨_, h2⟩ := h
  rcases h2 with ⟨_, h2⟩ | ⟨g, cap, cur, rfl, _⟩
  · omega
  · exact ⟨g, cap, rfl⟩
theorem own_other {w : World} {B q k : Nat} {v : Value} {xs : List Value} {cs : Array Value} {t : TypeId} (h : w.ownsRow B 5 1 v k xs) (hq : w.heap[q]? = some (.cells cs t (0, 0))) (ht : t ≠ 5) : v.ownBlock ≠ some q := by
  obtain ⟨_, h2⟩ := h
  rcases h2 with ⟨rfl, _⟩ | ⟨g, cap, cur, rfl, _, hh, _⟩
  · intro e; cases e
  · intro e
    have e : g = q := by injection e
    subst e
    rw [hh] at hq
    injection hq with e2
    injection e2 with _ e3
    exact ht e3.symm
theorem own_below {w w' : World} {B n : Nat} {v : Value} {xs : List Value} (h : w.ownsRow B 5 1 v n xs) (hB : Below w.heap.size w w') : w'.ownsRow B 5 1 v n xs := by
  obtain ⟨h1, h2⟩ := h
  refine ⟨h1, ?_⟩
  rcases h2 with h2 | ⟨g, cap, cur, rfl, hg, hh, hn⟩
  · exact .inl h2
  · exact .inr ⟨g, cap, cur, rfl, hg, (hB.block g (lt_of_block hh)).trans hh, hn⟩
theorem own_mono {w : World} {B B' n : Nat} {v : Value} {xs : List Value} (h : w.ownsRow B 5 1 v n xs) (hb : B' ≤ B) : w.ownsRow B' 5 1 v n xs := by
  obtain ⟨h1, h2⟩ := h
  refine ⟨h1, ?_⟩
  rcases h2 with h2 | ⟨g, cap, cur, rfl, hg, hh, hn⟩
  · exact .inl h2
  · exact .inr ⟨g, cap, cur, rfl, Nat.le_trans hb hg, hh, hn⟩
theorem own_rb {w : World} {B n : Nat} {v : Value} {l : List Nat} (h : w.ownsRow B 5 1 v n (bs l)) (hs : Small l) (hn : n ≤ 140737488351232) : ∃ a cap, v = .slice a n cap ∧ RB w a n cap l := by
  obtain ⟨h1, h2⟩ := h
  rw [length_bs, Nat.mul_one] at h1
  rcases h2 with ⟨rfl, h2⟩ | ⟨g, cap, cur, rfl, hg, hh, hn2, hc, hsz, ht⟩
  · exact ⟨none, 0, by rw [h2], h1, by omega, hn, hs, fun _ => rfl, fun i hi => absurd hi (by omega)⟩
  · refine ⟨_, cap, rfl, h1, hn2, hn, hs, (fun e => by cases e), fun i hi => ⟨g, 0, rfl, ?_⟩⟩
    have e := bs_get l i (by omega)
    rw [cell_of_block hh, ← e, ← ht]
    simp [hi]
theorem own_set {w : World} {B g n c i x : Nat} {l : List Nat} (h : w.ownsRow B 5 1 (.slice (some ⟨g, 0, none⟩) n c) n (bs l)) : (w.setCell ⟨g, i, none⟩ (.int .u8 (x : Nat))).ownsRow B 5 1 (.slice (some ⟨g, 0, none⟩) n c) n (bs (l.set i x)) := by
  obtain ⟨h1, h2⟩ := h
  rw [length_bs, Nat.mul_one] at h1
  rcases h2 with ⟨h2, _⟩ | ⟨g', cap, cur, e, hg, hh, hn2, hc, hsz, ht⟩
  · cases h2
  · injection e with e1 e2 e3
    injection e1 with e1
    injection e1 with e1 _ _
    subst e1; subst e3
    refine ⟨by rw [length_bs, List.length_set]; omega, .inr ⟨g, c, cur.setIfInBounds i (.int .u8 (x : Nat)), rfl, hg, heap_setCell_same w g i cur 5 _ hh, hn2, hc, by simpa using hsz, ?_⟩⟩
    rw [Nat.mul_one] at ht ⊢
    have e : bs (l.set i x) = (bs l).set i (.int .u8 (x : Nat)) := by simp [bs, List.map_set]
    rw [e, ← ht, Array.toList_setIfInBounds, List.take_set]
theorem own_cell {w : World} {B g n c i : Nat} {l : List Nat} (h : w.ownsRow B 5 1 (.slice (some ⟨g, 0, none⟩) n c) n (bs l)) (hi : i < n) : w.cell? ⟨g, i, none⟩ = some (.int .u8 (l.getD i 0 : Nat)) ∧ w.frozen? ⟨g, i, none⟩ = false := by
  obtain ⟨h1, h2⟩ := h
  rw [length_bs, Nat.mul_one] at h1
  rcases h2 with ⟨h2, _⟩ | ⟨g', cap, cur, e, hg, hh, hn2, hc, hsz, ht⟩
  · cases h2
  · injection e with e1 e2 e3
    injection e1 with e1
    injection e1 with e1 _ _
    subst e1
    refine ⟨?_, frozen_of_block hh⟩
    have e := bs_get l i (by omega)
    rw [cell_of_block hh, ← e, ← ht]
    simp [hi]
theorem getD_set (l : List Nat) (i j x : Nat) (hi : i < l.length) : (l.set i x).getD j 0 = if i = j then x else l.getD j 0 := by
  rw [List.getD_eq_getElem?_getD, List.getElem?_set, List.getD_eq_getElem?_getD]
  split
  · rename_i h; subst h; rfl
  · rfl
/-- A row that is filled to k. -/
def upto (f : Nat → Nat) (n k : Nat) : List Nat := (List.range n).map fun i => if i < k then f i else 0
theorem length_upto (f : Nat → Nat) (n k : Nat) : (upto f n k).length = n := by simp [upto]
theorem upto_get (f : Nat → Nat) (n k i : Nat) (h : i < n) : (bs (upto f n k))[i]? = some (.int .u8 ((if i < k then f i else 0 : Nat) : Nat)) := by
  rw [bs_get _ _ (by rw [length_upto]; exact h)]
  unfold upto
  rw [List.getD_eq_getElem?_getD, List.getElem?_map, List.getElem?_range h]; rfl
theorem upto_zero (f : Nat → Nat) (n : Nat) : (madeCells #[Value.int .u8 0] n).toList = bs (upto f n 0) := by
  apply List.ext_getElem?
  intro i
  by_cases hi : i < n
  · rw [upto_get _ _ _ _ hi, if_neg (by omega)]
    simp [madeCells, hi]
    rw [Nat.mod_one]; rfl
  · rw [List.getElem?_eq_none (l := bs (upto f n 0)) (by rw [length_bs, length_upto]; omega)]
    simp [madeCells]; omega
theorem own_zeros {w : World} {B g n : Nat} (h : w.ownsRow B 5 1 (.slice (some ⟨g, 0, none⟩) n n) n (madeCells #[Value.int .u8 0] n).toList) : w.ownsRow B 5 1 (.slice (some ⟨g, 0, none⟩) n n) n (bs (List.replicate n 0)) := by
  have e : (madeCells #[Value.int .u8 0] n).toList = bs (List.replicate n 0) := by
    rw [upto_zero (fun _ => 0)]
    congr 1
    unfold upto
    apply List.ext_getElem
    · simp
    · intro i h1 h2; simp
  rw [← e]; exact h
theorem own_rb2 {w : World} {B n c : Nat} {a : Option Addr} {l : List Nat} (h : w.ownsRow B 5 1 (.slice a n c) n (bs l)) (hs : Small l) (hn : n ≤ 140737488351232) : RB w a n c l := by
  obtain ⟨a', c', e, hr⟩ := own_rb h hs hn
  injection e with e1 e2 e3
  subst e1; subst e3
  exact hr
theorem own_len {w : World} {B n : Nat} {v : Value} {l : List Nat} (h : w.ownsRow B 5 1 v n (bs l)) : l.length = n := by have := h.1; rwa [length_bs, Nat.mul_one] at this
theorem own_slice {w : World} {B n : Nat} {v : Value} {xs : List Value} (h : w.ownsRow B 5 1 v n xs) : ∃ a c, v = .slice a n c := by
  rcases h.2 with ⟨rfl, rfl⟩ | ⟨g, cap, cur, rfl, _⟩
  · exact ⟨_, _, rfl⟩
  · exact ⟨_, _, rfl⟩
theorem own_nil (w : World) (B : Nat) : w.ownsRow B 5 1 (.slice none 0 0) 0 (bs []) := ⟨rfl, .inl ⟨rfl, rfl⟩⟩
theorem rb_nil (w : World) : RB w none 0 0 [] := own_rb2 (own_nil w 0) Small.nil (Nat.zero_le _)
theorem lent_own {w : World} {B g : Nat} {l : List Nat} {n : Nat} (h : LentAt w g l) (hn : l.length = n) (hm : n ≤ 1000000) (hB : B ≤ g) : w.ownsRow B 5 1 (.slice (some ⟨g, 0, none⟩) n (n + 12)) n (bs l) := by
  subst hn
  refine ⟨by rw [length_bs, Nat.mul_one], .inr ⟨g, l.length + 12, _, rfl, hB, h, by omega, by unfold maxLen; omega, by simp [bs, marks], ?_⟩⟩
  simp [bs]
theorem two_rb (w : World) (x y : Nat) (hx : x < 256) (hy : y < 256) : RB (w.alloc (.cells #[.int .u8 (x : Nat), .int .u8 (y : Nat)] 5)) (some ⟨w.heap.size, 0, none⟩) 2 2 [x, y] :=
  RB.of_block (l := [x, y]) (m := []) (heap_alloc_new _ _) (Small.of_mem (by simp; omega)) (Nat.le_refl _) (by omega)
theorem three_rb (w : World) (x y z : Nat) (hx : x < 256) (hy : y < 256) (hz : z < 256) : RB (w.alloc (.cells #[.int .u8 (x : Nat), .int .u8 (y : Nat), .int .u8 (z : Nat)] 5)) (some ⟨w.heap.size, 0, none⟩) 3 3 [x, y, z] :=
  RB.of_block (l := [x, y, z]) (m := []) (heap_alloc_new _ _) (Small.of_mem (by simp; omega)) (Nat.le_refl _) (by omega)
theorem one_rb (w : World) (x : Nat) (hx : x < 256) : RB (w.alloc (.cells #[.int .u8 (x : Nat)] 5)) (some ⟨w.heap.size, 0, none⟩) 1 1 [x] :=
  RB.of_block (l := [x]) (m := []) (heap_alloc_new _ _) (Small.of_mem (by simp; omega)) (Nat.le_refl _) (by omega)
theorem own_cells {w : World} {g n : Nat} {l : List Nat} (h : w.heap[g]? = some (.cells (bs l).toArray 5 (0, 0))) (hn : l.length = n) (hm : n ≤ 1000000) {B : Nat} (hB : B ≤ g) : w.ownsRow B 5 1 (.slice (some ⟨g, 0, none⟩) n n) n (bs l) := by
  subst hn
  refine ⟨by rw [length_bs, Nat.mul_one], .inr ⟨g, l.length, _, rfl, hB, h, Nat.le_refl _, by unfold maxLen; omega, by simp [bs], ?_⟩⟩
  rw [Nat.mul_one]
  exact List.take_of_length_le (by rw [length_bs]; exact Nat.le_refl _)
theorem wpList_taken {P : Program} {w : World} {ops : Array Oper} {rest : List Oper} {o : Oper} {a : Act} {Q : Exit → Act → World → Prop} (hg : Region.wanted o (yielded ops a.tmps) = true)
    (h : ∀ K : Act → World → Prop, (∀ a w, wpList P ops Q rest a w → K a w) → o.wp P a w K Q) : wpList P ops Q (o :: rest) a w :=
  wpList_step fun K hK => by rw [if_pos hg]; exact h K hK
/-- The append's law at a guarded operation. -/
theorem wpList_append_own3g {P : Program} (w : World) {ops : Array Oper} {rest : List Oper} {o : Oper} {a : Act} {Q : Exit → Act → World → Prop} (hgd : Region.wanted o (yielded ops a.tmps) = true) (s x : Operand) (t : TypeId)
    (ho : o.op = .call { callee := .builtin .append, args := #[s, x], argTypes := #[t, t] })
    (base : Nat) (e : TypeId) (i : TypeInfo) (z : Value) (bytes : Nat) (ht : P.underlying t = some (.slice e)) (hi : P.info? e = some i) (hz : i.zero = some z)
    (hsize : i.size = 1) (hby : i.bytes = bytes) (hzs : z.cells.size = 1)
    (v : Value) (n : Nat) (xs : List Value) (hs : a.eval s = v) (hown : w.ownsRow base e 1 v n xs)
    (ad : Addr) (m c : Nat) (news : List Value) (hx : a.eval x = .slice (some ad) m c) (hl : news.length = m * 1) (hnews : ∀ j u, news[j]? = some u → w.cell? (ad.add j) = some u) (h1 : ∀ u ∈ news, u.oneCell' = true)
    (h63 : n + m ≤ maxLen) (hbytes : (n + m) * bytes ≤ 140737488355328) (hbase : base ≤ w.heap.size)
    (h : ∀ v' w', w'.ownsRow base e 1 v' (n + m) (xs ++ news) → w.grownBy w' v.ownBlock → (∀ g, v'.ownBlock = some g → v.ownBlock = some g ∨ g = w.heap.size) → KeepRows w w' v n → wpList P ops Q rest (a.put o.dst v') w') : wpList P ops Q (o :: rest) a w := by
  refine wpList_taken hgd fun K hK => ?_
  obtain ⟨v', w', hr, h2, h3, h4, h5⟩ := run_append_own3 (P := P) w base t o.type e i z bytes ht hi hz hsize hby hzs v n xs hown ad m c news hl hnews h1 h63 hbytes hbase
  unfold Oper.wp execOp
  simp only [ho, resolve, invoke, builtin, Sem.run_bind, Sem.run_pure, Result.andThen_ok, List.map_toArray, List.map_cons, List.map_nil, hs, hx, hr]
  exact hK _ _ (h v' w' h2 h3 h4 h5)
theorem drop_cells {w : World} {B g n c : Nat} {l : List Nat} (h : w.ownsRow B 5 1 (.slice (some ⟨g, 0, none⟩) n c) n (bs l)) : ∀ j u, (bs (l.tail))[j]? = some u → w.cell? ((⟨g, 1, none⟩ : Addr).add j) = some u := by
  intro j u hu
  have e : (bs (l.tail))[j]? = (bs l)[1 + j]? := by unfold bs; rw [← List.drop_one, List.map_drop, List.getElem?_drop]
  rw [e] at hu
  have := h.cells (g := g) rfl (1 + j) u hu
  rw [Addr.add_lit] at this ⊢
  simpa using this
theorem own_empty (w : World) : (w.alloc (.cells #[] 5)).ownsRow w.heap.size 5 1 (.slice (some ⟨w.heap.size, 0, none⟩) 0 0) 0 [] :=
  ⟨rfl, .inr ⟨w.heap.size, 0, #[], rfl, Nat.le_refl _, heap_alloc_new _ _, Nat.le_refl _, by unfold maxLen; omega, rfl, rfl⟩⟩
end Go.Proofs.Ytfojhmobnedekaa
