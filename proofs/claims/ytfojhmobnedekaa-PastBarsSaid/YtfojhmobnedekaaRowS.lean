/- Rows that the call owns whose elements have several cells: an append that says where it leads, an append of zeros, a copy. No condition beyond each law's own. -/
import Derived.Test.YtfojhmobnedekaaOwn
import Derived.Laws.CopyOwn
import Derived.Lib.AppendZerosOnto
namespace Go.Proofs.Ytfojhmobnedekaa
open Go.RowKit

theorem run_append_ownS {P : Program} (w : World) (base : Nat) (t ty e : TypeId) (i : TypeInfo) (z : Value) (size bytes : Nat) (ht : P.underlying t = some (.slice e)) (hi : P.info? e = some i) (hz : i.zero = some z)
    (hsize : i.size = size) (hby : i.bytes = bytes) (hzs : z.cells.size = size) (hsz : 0 < size)
    (v : Value) (n : Nat) (xs : List Value) (hown : w.ownsRow base e size v n xs)
    (a : Addr) (m c : Nat) (news : List Value) (hl : news.length = m * size) (hnews : ∀ j u, news[j]? = some u → w.cell? (a.add j) = some u) (h1 : ∀ u ∈ news, u.oneCell' = true)
    (h63 : n + m ≤ maxLen) (hbytes : (n + m) * bytes ≤ 140737488355328) (hbase : base ≤ w.heap.size) :
    ∃ v' w', (Builtin.append_ #[t, t] ty #[v, .slice (some a) m c]).run P w = .ok v' w' ∧ w'.ownsRow base e size v' (n + m) (xs ++ news) ∧ w.grownBy w' v.ownBlock ∧
      (∀ g, v'.ownBlock = some g → v.ownBlock = some g ∨ g = w.heap.size) := by
  obtain ⟨v', w', hr, h2, h3, h4⟩ := run_append_own (P := P) w base t ty e i z size bytes ht hi hz hsize hby hzs hsz v n xs hown a m c news hl hnews h1 h63 hbytes hbase
  refine ⟨v', w', hr, h2, h3, ?_⟩
  have hsmall : n + m ≤ 9223372036854775807 := by simp only [maxLen] at h63; omega
  subst hsize
  rcases hown.2 with ⟨rfl, rfl⟩ | ⟨g, cap, cur, rfl, hbg, hg, hnc, hcm, hcs, htake⟩
  · by_cases hm : m = 0
    · subst hm
      rw [h4.2 ⟨rfl, rfl⟩]
      intro g e; cases e
    · have hr2 := run_append_nil (P := P) w t ty e i z ht hi hz a m c news hl hnews (by omega) (by omega) (by rw [hby]; rw [Nat.zero_add] at hbytes; omega)
      rw [hr] at hr2
      injection hr2 with e1 _
      subst e1
      intro g e
      exact .inr (by injection e with e; exact e.symm)
  · by_cases hroom : n + m ≤ cap
    · have hr2 := run_append_room (P := P) w t ty e i ht hi g n cap cur hg a m c news hl hnews h1 hroom (by rw [hl, hcs, ← Nat.add_mul]; exact Nat.mul_le_mul_right _ hroom)
      rw [hr] at hr2
      injection hr2 with e1 _
      subst e1
      intro g' e
      exact .inl e
    · have holds : ∀ j u, xs[j]? = some u → w.cell? ((⟨g, 0, none⟩ : Addr).add j) = some u := hown.cells (g := g) rfl
      have hr2 := run_append_grow (P := P) w t ty e i z ht hi hz ⟨g, 0, none⟩ n cap xs hown.1 holds a m c news hl hnews (by omega) (by omega) (growslice_fits (by omega) (by rw [hby]; exact hbytes))
      rw [hr] at hr2
      injection hr2 with e1 _
      subst e1
      intro g' e
      exact .inr (by injection e with e; exact e.symm)
theorem wpList_append_ownS {P : Program} (w : World) {ops : Array Oper} {rest : List Oper} {o : Oper} {a : Act} {Q : Exit → Act → World → Prop} (hgd : Region.wanted o (yielded ops a.tmps) = true) (s x : Operand) (t : TypeId)
    (ho : o.op = .call { callee := .builtin .append, args := #[s, x], argTypes := #[t, t] })
    (base : Nat) (e : TypeId) (i : TypeInfo) (z : Value) (size bytes : Nat) (ht : P.underlying t = some (.slice e)) (hi : P.info? e = some i) (hz : i.zero = some z)
    (hsize : i.size = size) (hby : i.bytes = bytes) (hzs : z.cells.size = size) (hsz : 0 < size)
    (v : Value) (n : Nat) (xs : List Value) (hs : a.eval s = v) (hown : w.ownsRow base e size v n xs)
    (ad : Addr) (m c : Nat) (news : List Value) (hx : a.eval x = .slice (some ad) m c) (hl : news.length = m * size) (hnews : ∀ j u, news[j]? = some u → w.cell? (ad.add j) = some u) (h1 : ∀ u ∈ news, u.oneCell' = true)
    (h63 : n + m ≤ maxLen) (hbytes : (n + m) * bytes ≤ 140737488355328) (hbase : base ≤ w.heap.size)
    (h : ∀ v' w', w'.ownsRow base e size v' (n + m) (xs ++ news) → w.grownBy w' v.ownBlock → (∀ g, v'.ownBlock = some g → v.ownBlock = some g ∨ g = w.heap.size) → wpList P ops Q rest (a.put o.dst v') w') : wpList P ops Q (o :: rest) a w := by
  refine wpList_taken hgd fun K hK => ?_
  obtain ⟨v', w', hr, h2, h3, h4⟩ := run_append_ownS (P := P) w base t o.type e i z size bytes ht hi hz hsize hby hzs hsz v n xs hown ad m c news hl hnews h1 h63 hbytes hbase
  unfold Oper.wp execOp
  simp only [ho, resolve, invoke, builtin, Sem.run_bind, Sem.run_pure, Result.andThen_ok, List.map_toArray, List.map_cons, List.map_nil, hs, hx, hr]
  exact hK _ _ (h v' w' h2 h3 h4)
/-- What a copy leaves: one row's block turned, the rest as it was. -/
theorem run_copy_rowS {P : Program} (w : World) (dT sT ty elem : TypeId) (size g o dLen dCap : Nat) (a : Addr) (sLen sCap m : Nat) (cur : Array Value) (t : TypeId) (cs : List Value)
    (hu : P.underlying dT = some (.slice elem)) (hs : (P.info? elem).map (·.size) = some size)
    (hg : w.heap[g]? = some (.cells cur t (0, 0))) (hm : Nat.min sLen dLen = m) (hn : cs.length = m * size)
    (hsrc : ∀ j v, cs[j]? = some v → w.cell? (a.add j) = some v) (hfit : o + cs.length ≤ cur.size) (h1 : ∀ v ∈ cs, v.oneCell' = true) :
    (Builtin.copy_ #[dT, sT] ty #[.slice (some ⟨g, o, none⟩) dLen dCap, .slice (some a) sLen sCap]).run P w =
      .ok (goInt m) (w.setRow g (splice cur.toList o cs).toArray) := by
  have hl := run_loadCells_list (P := P) w a cs hsrc
  have hst := run_storeCells_at P g o t cs 0 cur w hg (by simpa using hfit) h1
  cases hq : P.info? elem with
  | none => simp [hq] at hs
  | some i =>
    have hi : i.size = size := by simpa [hq] using hs
    simp [Builtin.copy_, run_underlying hu, Builtin.lenOf, Builtin.firstCells, sizeOf, typeInfo, hq, hi, hm, ← hn, hl, hst, splice]
theorem grownBy_setRow (w : World) (g : Nat) (cs : Array Value) : w.grownBy (w.setRow g cs) (some g) :=
  ⟨rfl, rfl, rfl, by simp [World.setRow], fun k _ hk => setRow_other w g k _ (fun e => hk (by rw [e]))⟩
theorem wpList_copyS {P : Program} {w : World} {ops : Array Oper} {rest : List Oper} {o : Oper} {a : Act} {Q : Exit → Act → World → Prop} (hgd : Region.wanted o (yielded ops a.tmps) = true) (d s : Operand) (dT sT : TypeId)
    (ho : o.op = .call { callee := .builtin .copy, args := #[d, s], argTypes := #[dT, sT] }) (elem : TypeId) (size : Nat) (hu : P.underlying dT = some (.slice elem)) (hsz : (P.info? elem).map (·.size) = some size)
    (g off dLen dCap : Nat) (ad : Addr) (sLen sCap m : Nat) (hd : a.eval d = .slice (some ⟨g, off, none⟩) dLen dCap) (hs : a.eval s = .slice (some ad) sLen sCap)
    (cur : Array Value) (t : TypeId) (hg : w.heap[g]? = some (.cells cur t (0, 0))) (cs : List Value) (hm : Nat.min sLen dLen = m) (hn : cs.length = m * size)
    (hsrc : ∀ j v, cs[j]? = some v → w.cell? (ad.add j) = some v) (hfit : off + cs.length ≤ cur.size) (h1 : ∀ v ∈ cs, v.oneCell' = true)
    (h : ∀ w', w'.heap[g]? = some (.cells (splice cur.toList off cs).toArray t (0, 0)) → w.grownBy w' (some g) → w'.heap.size = w.heap.size → wpList P ops Q rest (a.put o.dst (goInt m)) w') : wpList P ops Q (o :: rest) a w := by
  refine wpList_taken hgd fun K hK => ?_
  have hrun := run_copy_rowS (P := P) w dT sT o.type elem size g off dLen dCap ad sLen sCap m cur t cs hu hsz hg hm hn hsrc hfit h1
  unfold Oper.wp execOp
  simp only [ho, resolve, invoke, builtin, Sem.run_bind, Sem.run_pure, Result.andThen_ok, List.map_toArray, List.map_cons, List.map_nil, hs, hd, hrun]
  exact hK _ _ (h _ (setRow_heap w g _ _ t _ hg) (grownBy_setRow w g _) (by simp [World.setRow]))
/-- An append of zeros that leads to a new row. -/
theorem wpList_append_zerosS {P : Program} {w : World} {ops : Array Oper} {rest : List Oper} {o : Oper} {a : Act} {Q : Exit → Act → World → Prop} (hgd : Region.wanted o (yielded ops a.tmps) = true) (s x : Operand) (t tn : TypeId)
    (ho : o.op = .call { callee := .builtin .append, args := #[s, x], argTypes := #[t, tn] })
    (e : TypeId) (i : TypeInfo) (z : Value) (size bytes : Nat) (ht : P.underlying t = some (.slice e)) (htn : P.underlying tn = some (.int .i64)) (hi : P.info? e = some i) (hz : i.zero = some z)
    (hsize : i.size = size) (hby : i.bytes = bytes) (hzs : z.cells.size = size) (hsz : 0 < size)
    (g n c k m : Nat) (kI : Int) (olds : List Value) (hs : a.eval s = .slice (some ⟨g, 0, none⟩) n c) (hx : a.eval x = .int .i64 kI) (hkI : kI = k) (hnk : n + k = m) (hl : olds.length = n * size) (hold : ∀ j u, olds[j]? = some u → w.cell? (Addr.add ⟨g, 0, none⟩ j) = some u)
    (h0 : 0 < k) (hg : c < n + k) (h63 : n + k ≤ maxLen) (hbytes : (n + k) * bytes ≤ 140737488355328)
    (h : ∀ G (cur : Array Value) w', m ≤ G → G ≤ maxLen → cur.size = G * size → cur.toList.take (n * size) = olds → w'.heap[w.heap.size]? = some (.cells cur e (0, 0)) → Below w.heap.size w w' → w'.heap.size = w.heap.size + 1 → wpList P ops Q rest (a.put o.dst (.slice (some ⟨w.heap.size, 0, none⟩) m G)) w') : wpList P ops Q (o :: rest) a w := by
  refine wpList_taken hgd fun K hK => ?_
  subst hkI
  subst hnk
  have hkb : k * bytes ≤ 140737488355328 := Nat.le_trans (Nat.mul_le_mul_right _ (Nat.le_add_left k n)) hbytes
  have hm : n + k ≤ 9223372036854775807 := by simp only [maxLen] at h63; omega
  have hrun := Lib.run_append_grow_zeros (P := P) w t tn o.type e i z .i64 .i64 ht htn hi hz (some ⟨g, 0, none⟩) n c olds
    (run_firstCells_some w.drew i.size n ⟨g, 0, none⟩ n c olds (by rw [hl, hsize]) (fun j v hj => hold j v hj)) k h0 (by omega) hg (by omega) (by rw [hby]; omega) (growslice_fits hg (by rw [hby]; exact hbytes))
  unfold Oper.wp execOp
  simp only [ho, resolve, invoke, builtin, Sem.run_bind, Sem.run_pure, Result.andThen_ok, List.map_toArray, List.map_cons, List.map_nil, hs, hx, hrun]
  have hge := grownCap_ge w (n + k) c e
  refine hK _ _ (h _ _ _ hge (grownCap_le_maxLen w (n + k) c e h63) ?_ ?_ (heap_alloc_new w.drew _) ((Below.refl _ _).drew.alloc (Nat.le_refl _) _) (by simp))
  · simp only [Array.size_append, List.size_toArray, size_zeroCells, hzs, hl, ← Nat.add_mul]
    congr 1
    omega
  · simp only [Array.toList_append, List.append_assoc]
    rw [← hl]
    exact List.take_left
theorem wpList_append_roomS {P : Program} {w : World} {ops : Array Oper} {rest : List Oper} {o : Oper} {a : Act} {Q : Exit → Act → World → Prop} (hgd : Region.wanted o (yielded ops a.tmps) = true) (s x : Operand) (t : TypeId)
    (ho : o.op = .call { callee := .builtin .append, args := #[s, x], argTypes := #[t, t] }) (e : TypeId) (i : TypeInfo) (size : Nat) (ht : P.underlying t = some (.slice e)) (hi : P.info? e = some i) (hsize : i.size = size)
    (g n c : Nat) (cur : Array Value) (hg : w.heap[g]? = some (.cells cur e (0, 0))) (ad : Addr) (m mc : Nat) (news : List Value) (hs : a.eval s = .slice (some ⟨g, 0, none⟩) n c) (hx : a.eval x = .slice (some ad) m mc)
    (hl : news.length = m * size) (hnews : ∀ j u, news[j]? = some u → w.cell? (ad.add j) = some u) (h1 : ∀ u ∈ news, u.oneCell' = true) (hroom : n + m ≤ c) (hfit : n * size + news.length ≤ cur.size)
    (h : ∀ w', w'.heap[g]? = some (.cells (splice cur.toList (n * size) news).toArray e (0, 0)) → w.grownBy w' (some g) → w'.heap.size = w.heap.size → wpList P ops Q rest (a.put o.dst (.slice (some ⟨g, 0, none⟩) (n + m) c)) w') : wpList P ops Q (o :: rest) a w := by
  refine wpList_taken hgd fun K hK => ?_
  subst hsize
  have hrun := run_append_room (P := P) w t o.type e i ht hi g n c cur hg ad m mc news hl hnews h1 hroom hfit
  rw [List.append_assoc] at hrun
  unfold Oper.wp execOp
  simp only [ho, resolve, invoke, builtin, Sem.run_bind, Sem.run_pure, Result.andThen_ok, List.map_toArray, List.map_cons, List.map_nil, hs, hx, hrun]
  exact hK _ _ (h _ (setRow_heap w g _ _ e _ hg) (grownBy_setRow w g _) (by simp [World.setRow]))
theorem wpList_clearS {P : Program} {w : World} {ops : Array Oper} {rest : List Oper} {o : Oper} {a : Act} {Q : Exit → Act → World → Prop} (hgd : Region.wanted o (yielded ops a.tmps) = true) (s : Operand) (t : TypeId)
    (ho : o.op = .call { callee := .builtin .clear, args := #[s], argTypes := #[t] }) (e : TypeId) (i : TypeInfo) (z : Value) (ht : P.underlying t = some (.slice e)) (hi : P.info? e = some i) (hz : i.zero = some z)
    (g off n c : Nat) (cur : Array Value) (hg : w.heap[g]? = some (.cells cur e (0, 0))) (hs : a.eval s = .slice (some ⟨g, off, none⟩) n c) (hn : 0 < n) (zs : List Value) (hzs : (Builtin.zeroCells z.cells n).toList = zs)
    (h1 : ∀ u ∈ zs, u.oneCell' = true) (hfit : off + zs.length ≤ cur.size)
    (h : ∀ w', w'.heap[g]? = some (.cells (splice cur.toList off zs).toArray e (0, 0)) → w.grownBy w' (some g) → w'.heap.size = w.heap.size → wpList P ops Q rest (a.put o.dst (.tuple #[])) w') : wpList P ops Q (o :: rest) a w := by
  refine wpList_taken hgd fun K hK => ?_
  obtain ⟨m, rfl⟩ : ∃ m, n = m + 1 := ⟨n - 1, by omega⟩
  have hst := run_storeCells_at P g off e zs 0 cur w hg (by simpa using hfit) h1
  have hrun : (Builtin.clear_ #[t] o.type #[.slice (some ⟨g, off, none⟩) (m + 1) c]).run P w = .ok (.tuple #[]) (w.setRow g (splice cur.toList off zs).toArray) := by
    simp only [Nat.add_zero, List.append_assoc] at hst
    simp [Builtin.clear_, run_underlying ht, zeroValue, typeInfo, hi, hz, hzs, hst, splice]
  unfold Oper.wp execOp
  simp only [ho, resolve, invoke, builtin, Sem.run_bind, Sem.run_pure, Result.andThen_ok, List.map_toArray, List.map_cons, List.map_nil, hs, hrun]
  exact hK _ _ (h _ (setRow_heap w g _ _ e _ hg) (grownBy_setRow w g _) (by simp [World.setRow]))
/-- One thing is put into the middle: what is behind it is moved, then it is laid; or the other way round. -/
theorem splice_shift {α : Type} {L A X D : List α} {p q r : Nat} (hA : L.take p = A) (hp : A.length = p) (hX : X.length = q) (hD : D.length = r) (hL : p + q + r ≤ L.length) :
    (splice (splice L (p + q) D) p X).take (p + q + r) = A ++ (X ++ D) ∧ (splice (splice L p X) (p + q) D).take (p + q + r) = A ++ (X ++ D) := by
  subst hX; subst hD; subst hp
  obtain ⟨T, rfl⟩ : ∃ T, L = A ++ T := ⟨L.drop A.length, by
    have := List.take_append_drop A.length L
    rw [hA] at this; exact this.symm⟩
  rw [List.length_append] at hL
  obtain ⟨T1, T2, T3, rfl, h1, h2⟩ : ∃ T1 T2 T3, T = T1 ++ (T2 ++ T3) ∧ T1.length = X.length ∧ T2.length = D.length :=
    ⟨T.take X.length, (T.drop X.length).take D.length, (T.drop X.length).drop D.length, by rw [List.take_append_drop, List.take_append_drop], by simp; omega, by simp; omega⟩
  have s1 : ∀ (P Q R Y : List α) (n : Nat), P.length = n → Q.length = Y.length → splice (P ++ (Q ++ R)) n Y = P ++ (Y ++ R) := by
    intro P Q R Y n hn hq
    unfold splice
    rw [← hq, ← hn, List.take_left, ← List.length_append, ← List.append_assoc P Q R, List.drop_left]
  have e1 : splice (A ++ (T1 ++ (T2 ++ T3))) (A.length + X.length) D = A ++ (T1 ++ (D ++ T3)) := by
    have := s1 (A ++ T1) T2 T3 D (A.length + X.length) (by rw [List.length_append, h1]) h2
    simpa using this
  have e2 : splice (A ++ (T1 ++ (D ++ T3))) A.length X = A ++ (X ++ (D ++ T3)) := s1 A T1 _ X _ rfl h1
  have e3 : splice (A ++ (T1 ++ (T2 ++ T3))) A.length X = A ++ (X ++ (T2 ++ T3)) := s1 A T1 _ X _ rfl h1
  have e4 : splice (A ++ (X ++ (T2 ++ T3))) (A.length + X.length) D = A ++ (X ++ (D ++ T3)) := by
    have := s1 (A ++ X) T2 T3 D (A.length + X.length) (by rw [List.length_append]) h2
    simpa using this
  have e5 : (A ++ (X ++ (D ++ T3))).take (A.length + X.length + D.length) = A ++ (X ++ D) := by
    rw [show A ++ (X ++ (D ++ T3)) = (A ++ (X ++ D)) ++ T3 by simp]
    exact List.take_left' (by simp; omega)
  exact ⟨by rw [e1, e2, e5], by rw [e3, e4, e5]⟩
end Go.Proofs.Ytfojhmobnedekaa
