/- An append onto an owned row of bytes, told where the longer row lies: where it lay, or in a new block. No condition beyond the law's own. -/
import Derived.Test.YtokeoodkioobdaaBytes
namespace Go.Proofs.Ytokeoodkioobdaa
open Go.RowKit

theorem run_append_own2 {P : Program} (w : World) (base : Nat) (t ty e : TypeId) (i : TypeInfo) (z : Value) (bytes : Nat) (ht : P.underlying t = some (.slice e)) (hi : P.info? e = some i) (hz : i.zero = some z)
    (hsize : i.size = 1) (hby : i.bytes = bytes) (hzs : z.cells.size = 1)
    (v : Value) (n : Nat) (xs : List Value) (hown : w.ownsRow base e 1 v n xs)
    (a : Addr) (m c : Nat) (news : List Value) (hl : news.length = m * 1) (hnews : ∀ j u, news[j]? = some u → w.cell? (a.add j) = some u) (h1 : ∀ u ∈ news, u.oneCell' = true)
    (h63 : n + m ≤ maxLen) (hbytes : (n + m) * bytes ≤ 140737488355328) (hbase : base ≤ w.heap.size) :
    ∃ v' w', (Builtin.append_ #[t, t] ty #[v, .slice (some a) m c]).run P w = .ok v' w' ∧ w'.ownsRow base e 1 v' (n + m) (xs ++ news) ∧ w.grownBy w' v.ownBlock ∧
      (∀ g, v'.ownBlock = some g → v.ownBlock = some g ∨ g = w.heap.size) := by
  obtain ⟨v', w', hr, h2, h3, h4⟩ := run_append_own (P := P) w base t ty e i z 1 bytes ht hi hz hsize hby hzs (by omega) v n xs hown a m c news hl hnews h1 h63 hbytes hbase
  refine ⟨v', w', hr, h2, h3, ?_⟩
  have hsmall : n + m ≤ 9223372036854775807 := by simp only [maxLen] at h63; omega
  rw [← hsize] at hl
  rcases hown.2 with ⟨rfl, rfl⟩ | ⟨g, cap, cur, rfl, hbg, hg, hnc, hcm, hcs, htake⟩
  · by_cases hm : m = 0
    · subst hm
      rw [h4.2 ⟨rfl, rfl⟩]
      intro g e; cases e
    · have hr2 := run_append_nil (P := P) w t ty e i z ht hi hz a m c news hl hnews (by omega) (by omega) (by rw [hby]; rw [Nat.zero_add] at hbytes; omega)
      rw [hr] at hr2
      injection hr2 with e1 _
      subst e1
      intro g e
      exact .inr (by injection e with e; exact e.symm)
  · by_cases hroom : n + m ≤ cap
    · have hr2 := run_append_room (P := P) w t ty e i ht hi g n cap cur hg a m c news hl hnews h1 hroom (by rw [hl, hcs, hsize]; omega)
      rw [hr] at hr2
      injection hr2 with e1 _
      subst e1
      intro g' e
      exact .inl e
    · have holds : ∀ j u, xs[j]? = some u → w.cell? ((⟨g, 0, none⟩ : Addr).add j) = some u := hown.cells (g := g) rfl
      have hr2 := run_append_grow (P := P) w t ty e i z ht hi hz ⟨g, 0, none⟩ n cap xs (by rw [hown.1, hsize]) holds a m c news hl hnews (by omega) (by omega) (growslice_fits (by omega) (by rw [hby]; exact hbytes))
      rw [hr] at hr2
      injection hr2 with e1 _
      subst e1
      intro g' e
      exact .inr (by injection e with e; exact e.symm)

theorem wpList_append_own2 {P : Program} (w : World) {ops : Array Oper} {rest : List Oper} {o : Oper} {a : Act} {Q : Exit → Act → World → Prop} (hgd : o.guard = none) (s x : Operand) (t : TypeId)
    (ho : o.op = .call { callee := .builtin .append, args := #[s, x], argTypes := #[t, t] })
    (base : Nat) (e : TypeId) (i : TypeInfo) (z : Value) (bytes : Nat) (ht : P.underlying t = some (.slice e)) (hi : P.info? e = some i) (hz : i.zero = some z)
    (hsize : i.size = 1) (hby : i.bytes = bytes) (hzs : z.cells.size = 1)
    (v : Value) (n : Nat) (xs : List Value) (hs : a.eval s = v) (hown : w.ownsRow base e 1 v n xs)
    (ad : Addr) (m c : Nat) (news : List Value) (hx : a.eval x = .slice (some ad) m c) (hl : news.length = m * 1) (hnews : ∀ j u, news[j]? = some u → w.cell? (ad.add j) = some u) (h1 : ∀ u ∈ news, u.oneCell' = true)
    (h63 : n + m ≤ maxLen) (hbytes : (n + m) * bytes ≤ 140737488355328) (hbase : base ≤ w.heap.size)
    (h : ∀ v' w', w'.ownsRow base e 1 v' (n + m) (xs ++ news) → w.grownBy w' v.ownBlock → (∀ g, v'.ownBlock = some g → v.ownBlock = some g ∨ g = w.heap.size) → wpList P ops Q rest (a.put o.dst v') w') : wpList P ops Q (o :: rest) a w := by
  refine wpList_plain hgd fun K hK => ?_
  obtain ⟨v', w', hr, h2, h3, h4⟩ := run_append_own2 (P := P) w base t o.type e i z bytes ht hi hz hsize hby hzs v n xs hown ad m c news hl hnews h1 h63 hbytes hbase
  unfold Oper.wp execOp
  simp only [ho, resolve, invoke, builtin, Sem.run_bind, Sem.run_pure, Result.andThen_ok, List.map_toArray, List.map_cons, List.map_nil, hs, hx, hr]
  exact hK _ _ (h v' w' h2 h3 h4)
end Go.Proofs.Ytokeoodkioobdaa

/- An append that also says what becomes of the other rows. -/
namespace Go.Proofs.Ytokeoodkioobdaa
open Go.RowKit

/-- Two rows lie in blocks that are not alike. -/
def Unl (v v' : Value) : Prop := ∀ g, v.ownBlock = some g → v'.ownBlock ≠ some g
theorem Unl.symm {v v' : Value} (h : Unl v v') : Unl v' v := fun g h1 h2 => h g h2 h1
theorem unl_nil (v : Value) : Unl (.slice none 0 0) v := fun g h => by cases h

/-- What another row keeps: all, where it lies elsewhere or is no longer than the one that grows. -/
def KeepRows (w w' : World) (v : Value) (n : Nat) : Prop := ∀ B e v2 n2 xs2, w.ownsRow B e 1 v2 n2 xs2 → (n2 ≤ n ∨ Unl v2 v) → w'.ownsRow B e 1 v2 n2 xs2

theorem keep_far {w w' : World} {B n2 : Nat} {e : TypeId} {v v2 : Value} {xs2 : List Value} (hg : w.grownBy w' v.ownBlock) (h : w.ownsRow B e 1 v2 n2 xs2) (hu : Unl v2 v) : w'.ownsRow B e 1 v2 n2 xs2 := by
  obtain ⟨h1, h2⟩ := h
  refine ⟨h1, ?_⟩
  rcases h2 with h2 | ⟨g, cap, cur, rfl, hb, hh, hn⟩
  · exact .inl h2
  · exact .inr ⟨g, cap, cur, rfl, hb, (hg.block g (lt_of_block hh) (fun e => hu g rfl e.symm)).trans hh, hn⟩

theorem run_append_own3 {P : Program} (w : World) (base : Nat) (t ty e : TypeId) (i : TypeInfo) (z : Value) (bytes : Nat) (ht : P.underlying t = some (.slice e)) (hi : P.info? e = some i) (hz : i.zero = some z)
    (hsize : i.size = 1) (hby : i.bytes = bytes) (hzs : z.cells.size = 1)
    (v : Value) (n : Nat) (xs : List Value) (hown : w.ownsRow base e 1 v n xs)
    (a : Addr) (m c : Nat) (news : List Value) (hl : news.length = m * 1) (hnews : ∀ j u, news[j]? = some u → w.cell? (a.add j) = some u) (h1 : ∀ u ∈ news, u.oneCell' = true)
    (h63 : n + m ≤ maxLen) (hbytes : (n + m) * bytes ≤ 140737488355328) (hbase : base ≤ w.heap.size) :
    ∃ v' w', (Builtin.append_ #[t, t] ty #[v, .slice (some a) m c]).run P w = .ok v' w' ∧ w'.ownsRow base e 1 v' (n + m) (xs ++ news) ∧ w.grownBy w' v.ownBlock ∧
      (∀ g, v'.ownBlock = some g → v.ownBlock = some g ∨ g = w.heap.size) ∧ KeepRows w w' v n := by
  obtain ⟨v', w', hr, h2, h3, h4⟩ := run_append_own2 (P := P) w base t ty e i z bytes ht hi hz hsize hby hzs v n xs hown a m c news hl hnews h1 h63 hbytes hbase
  refine ⟨v', w', hr, h2, h3, h4, ?_⟩
  have hsmall : n + m ≤ 9223372036854775807 := by simp only [maxLen] at h63; omega
  intro B e2 v2 n2 xs2 hv2 hor
  by_cases hu : Unl v2 v
  · exact keep_far h3 hv2 hu
  have hn2 : n2 ≤ n := hor.resolve_right hu
  rw [← hsize] at hl
  rcases hown.2 with ⟨rfl, rfl⟩ | ⟨g, cap, cur, rfl, hbg, hg, hnc, hcm, hcs, htake⟩
  · exact absurd (unl_nil v2).symm hu
  · obtain ⟨q1, q2⟩ := hv2
    refine ⟨q1, ?_⟩
    rcases q2 with q2 | ⟨g2, cap2, cur2, rfl, hb2, hh2, hnc2, hcm2, hcs2, ht2⟩
    · exact .inl q2
    · have hgg : g2 = g := by
        by_cases e : g2 = g
        · exact e
        · exact absurd (fun k hk1 hk2 => e (by injection hk1 with hk1; injection hk2 with hk2; exact hk1.trans hk2.symm)) hu
      subst hgg
      have hcur := hh2.symm.trans hg
      injection hcur with hcur
      injection hcur with hc1 hc2 _
      subst hc1; subst hc2
      by_cases hroom : n + m ≤ cap
      · have hr2 := run_append_room (P := P) w t ty e2 i ht hi g2 n cap cur2 hg a m c news hl hnews h1 hroom (by rw [hl, hcs, hsize]; omega)
        rw [hr] at hr2
        injection hr2 with e1 _
        subst e1
        rcases h2.2 with ⟨h2, _⟩ | ⟨g3, cap3, cur3, e3, hb3, hh3, hnc3, hcm3, hcs3, ht3⟩
        · cases h2
        · injection e3 with e31 e32 e33
          injection e31 with e31
          injection e31 with e31 _ _
          subst e31; subst e33
          refine .inr ⟨g2, cap2, cur3, rfl, hb2, hh3, hnc2, hcm2, by omega, ?_⟩
          rw [← ht2]
          have e : (cur3.toList.take ((n + m) * 1)).take (n2 * 1) = (cur2.toList.take (n * 1)).take (n2 * 1) := by
            rw [ht3, htake, List.take_append_of_le_length (by rw [hown.1]; omega)]
          rw [List.take_take, List.take_take, Nat.min_eq_left (by omega), Nat.min_eq_left (by omega)] at e
          exact e
      · have holds : ∀ j u, xs[j]? = some u → w.cell? ((⟨g2, 0, none⟩ : Addr).add j) = some u := hown.cells (g := g2) rfl
        have hr2 := run_append_grow (P := P) w t ty e2 i z ht hi hz ⟨g2, 0, none⟩ n cap xs (by rw [hown.1, hsize]) holds a m c news hl hnews (by omega) (by omega) (growslice_fits (by omega) (by rw [hby]; exact hbytes))
        rw [hr] at hr2
        injection hr2 with e1 e2
        subst e2
        have hlt := lt_of_block hh2
        exact .inr ⟨g2, cap2, cur2, rfl, hb2, ((Below.refl w.heap.size w.drew).alloc (Nat.le_refl _) _).block g2 hlt |>.trans hh2, hnc2, hcm2, hcs2, ht2⟩

theorem wpList_append_own3 {P : Program} (w : World) {ops : Array Oper} {rest : List Oper} {o : Oper} {a : Act} {Q : Exit → Act → World → Prop} (hgd : o.guard = none) (s x : Operand) (t : TypeId)
    (ho : o.op = .call { callee := .builtin .append, args := #[s, x], argTypes := #[t, t] })
    (base : Nat) (e : TypeId) (i : TypeInfo) (z : Value) (bytes : Nat) (ht : P.underlying t = some (.slice e)) (hi : P.info? e = some i) (hz : i.zero = some z)
    (hsize : i.size = 1) (hby : i.bytes = bytes) (hzs : z.cells.size = 1)
    (v : Value) (n : Nat) (xs : List Value) (hs : a.eval s = v) (hown : w.ownsRow base e 1 v n xs)
    (ad : Addr) (m c : Nat) (news : List Value) (hx : a.eval x = .slice (some ad) m c) (hl : news.length = m * 1) (hnews : ∀ j u, news[j]? = some u → w.cell? (ad.add j) = some u) (h1 : ∀ u ∈ news, u.oneCell' = true)
    (h63 : n + m ≤ maxLen) (hbytes : (n + m) * bytes ≤ 140737488355328) (hbase : base ≤ w.heap.size)
    (h : ∀ v' w', w'.ownsRow base e 1 v' (n + m) (xs ++ news) → w.grownBy w' v.ownBlock → (∀ g, v'.ownBlock = some g → v.ownBlock = some g ∨ g = w.heap.size) → KeepRows w w' v n → wpList P ops Q rest (a.put o.dst v') w') : wpList P ops Q (o :: rest) a w := by
  refine wpList_plain hgd fun K hK => ?_
  obtain ⟨v', w', hr, h2, h3, h4, h5⟩ := run_append_own3 (P := P) w base t o.type e i z bytes ht hi hz hsize hby hzs v n xs hown ad m c news hl hnews h1 h63 hbytes hbase
  unfold Oper.wp execOp
  simp only [ho, resolve, invoke, builtin, Sem.run_bind, Sem.run_pure, Result.andThen_ok, List.map_toArray, List.map_cons, List.map_nil, hs, hx, hr]
  exact hK _ _ (h v' w' h2 h3 h4 h5)
end Go.Proofs.Ytokeoodkioobdaa
