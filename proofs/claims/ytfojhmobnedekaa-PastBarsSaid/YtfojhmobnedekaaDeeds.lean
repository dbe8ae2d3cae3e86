/- An argument that is a list of deeds, an argument that is a list of numbers: out of how they read as data to how the walks ask them. No condition. -/
import Derived.Test.YtfojhmobnedekaaElems
import Derived.Test.YtfojhmobnedekaaWire12
import Derived.Deep.Matrix
import Derived.SizedLaws
namespace Go.Proofs.Ytfojhmobnedekaa
open Go.RowKit Go.ChangeShapes Go.WideShapes Go.Joins

theorem open_elems2 {P : Program} {H : Type} {enc : TypeId × Value → H} {W : World} {base : Nat} {held : Bool} {t e : TypeId} {a : Option Addr} {len cap : Nat} {d : DataW H} {ps : List MemPlace} (ht : P.underlying t = some (.slice e)) (hpos : 0 < P.cellsOf e)
    (h : DataW.Trod enc P W base (fun _ => true) held t (.slice a len cap) d ps) :
    (a = none ∧ len = 0 ∧ cap = 0) ∨ ∃ b off, (0 < len → a = some ⟨b, off, none⟩) ∧ a ≠ none ∧ len ≤ cap ∧ cap ≤ maxLen ∧ ∃ xs ys, d = .slice xs ys ∧ xs.length + ys.length = cap ∧
      ∀ i, i < len → ∃ cs n y, DataW.trod enc P W base (fun _ => true) held n e cs = some y ∧ cs.length = P.cellsOf e ∧ xs[i]? = some y.1 ∧ ∀ j, j < P.cellsOf e → W.cell? ⟨b, off + i * P.cellsOf e + j, none⟩ = cs[j]? := by
  obtain ⟨fuel, hf⟩ := h
  rcases DataW.trod_slice ht hf with ⟨hcs, _⟩ | ⟨x, l, c, elems, rest, n, _, hcs, hx, hb, hl, hm, hlen, hel, hsp, _⟩
  · simp [Value.cells] at hcs
    exact .inl ⟨hcs.1, hcs.2.1, hcs.2.2⟩
  · simp [Value.cells] at hcs
    obtain ⟨rfl, rfl, rfl⟩ := hcs
    obtain ⟨b, off, spot⟩ := x
    have each : ∀ i, i < len → ∃ cs y, DataW.trod enc P W base (fun _ => true) held n e cs = some y ∧ cs.length = P.cellsOf e ∧ elems[i]? = some y ∧ ∀ j, j < P.cellsOf e → W.cell? (((⟨b, off, spot⟩ : Addr).add (i * P.cellsOf e)).add j) = cs[j]? := fun i hi => by
      have h1 := hel i hi
      rw [List.getElem?_eq_getElem (show i < elems.length by omega), Option.bind_eq_some_iff] at h1
      obtain ⟨cs, hc, hy⟩ := h1
      obtain ⟨_, h2, h3⟩ := World.cells?_some hc
      exact ⟨cs, _, hy, h2, List.getElem?_eq_getElem (show i < elems.length by omega), h3⟩
    have hspot : 0 < len → spot = none := fun h0 => by
      obtain ⟨cs, y, _, h2, _, h3⟩ := each 0 h0
      have h4 := h3 0 hpos
      rw [List.getElem?_eq_getElem (show 0 < cs.length by omega)] at h4
      simpa [Addr.add] using World.cell?_spot h4
    refine .inr ⟨b, off, fun h0 => by rw [hspot h0], Option.some_ne_none _, hl, hm, elems.map (·.1), rest.map (·.1), ?_, ?_, fun i hi => ?_⟩
    · exact (Prod.mk.injEq _ _ _ _ ▸ hx).1
    · rw [List.length_map, List.length_map, hlen, (hsp rfl).1]; omega
    · obtain ⟨cs, y, h1, h2, h4, h3⟩ := each i hi
      obtain rfl := hspot (by omega)
      exact ⟨cs, n, y, h1, h2, by rw [List.getElem?_map, h4]; rfl, fun j hj => by have := h3 j hj; rwa [Addr.add_lit, Addr.add_lit] at this⟩
theorem weightsAll_mem {H : Type} {P : Program} {e : TypeId} : ∀ {ds : List (DataW H)} {i : Nat} {d : DataW H}, ds[i]? = some d → ∀ n ∈ d.weights P e, n ∈ DataW.weightsAll P e ds
  | d0 :: ds, 0, d, hd, n, hn => by
    simp only [List.getElem?_cons_zero, Option.some.injEq] at hd
    subst hd
    simp only [DataW.weightsAll, List.mem_append]
    exact .inl hn
  | d0 :: ds, i + 1, d, hd, n, hn => by
    simp only [List.getElem?_cons_succ] at hd
    simp only [DataW.weightsAll, List.mem_append]
    exact .inr (weightsAll_mem hd n hn)
  | [], _, _, hd, _, _ => by simp at hd
theorem cells59 : Try.prog.cellsOf 59 = 8 := by kernel_rfl
theorem cells25 : Try.prog.cellsOf 25 = 1 := by kernel_rfl
theorem cells5' : Try.prog.cellsOf 5 = 1 := by kernel_rfl
theorem bytes5w : Try.prog.bytesOf 5 = 1 := by kernel_rfl
theorem bytes59 : Try.prog.bytesOf 59 = 80 := by kernel_rfl
theorem list8 {α : Type} {cs : List α} (h : cs.length = 8) : ∃ c0 c1 c2 c3 c4 c5 c6 c7, cs = [c0, c1, c2, c3, c4, c5, c6, c7] := by
  match cs, h with
  | [a, b, c, d, e, f, g, h], _ => exact ⟨a, b, c, d, e, f, g, h, rfl⟩
/-- One deed's cells. -/
theorem open_deed {H : Type} {enc : TypeId × Value → H} {W : World} {base : Nat} {held : Bool} {n : Nat} {cs : List Value} {y : DataW H × List MemPlace} (h : DataW.trod enc Try.prog W base (fun _ => true) held n 59 cs = some y) (hl : cs.length = 8) (hs : ∀ m ∈ y.1.weights Try.prog 59, m ≤ 140737488351232) :
    ∃ x : Dd, cs = [.int .i64 x.wh, .int .i64 x.tt, .int .i64 x.nw, .int .i64 x.k, .int .i64 x.b, .int .i64 x.al, .int .i64 x.pl, .slice x.a x.n x.c] ∧ (Lit.int .i64 x.wh).wf = true ∧ RB W x.a x.n x.c x.l := by
  obtain ⟨c0, c1, c2, c3, c4, c5, c6, c7, rfl⟩ := list8 hl
  obtain ⟨xs, m, _, hy, _, hlen, hf⟩ := DataW.trod_struct Try.underlying59 h
  have hlen : xs.length = 5 := hlen
  obtain ⟨x0, x1, x2, x3, x4, rfl⟩ : ∃ a b c d e, xs = [a, b, c, d, e] := by
    match xs, hlen with
    | [a, b, c, d, e], _ => exact ⟨a, b, c, d, e, rfl⟩
  have h0 := hf 0 _ rfl
  have h1 := hf 1 _ rfl
  have h2 := hf 2 _ rfl
  have h3 := hf 3 _ rfl
  have h4 := hf 4 _ rfl
  simp [cells3, cells24, cells25] at h0 h1 h2 h3 h4
  obtain ⟨n0, e0, _, w0⟩ := DataW.trod_int Try.underlying3 h0
  obtain ⟨n1, e1, _⟩ := DataW.trod_int Try.underlying3 h1
  obtain ⟨n2, e2, _⟩ := DataW.trod_int Try.underlying3 h2
  have e3 := trod_fate h3 rfl
  simp at e0 e1 e2
  subst e0; subst e1; subst e2
  obtain ⟨k, hk⟩ : ∃ k, k = ftOf [c3, c4, c5, c6] := ⟨_, rfl⟩
  rw [← hk] at e3
  have e3 : [c3, c4, c5, c6] = [.int .i64 k.k, .int .i64 k.b, .int .i64 k.a, .int .i64 k.p] := e3
  injection e3 with e30 e3
  injection e3 with e31 e3
  injection e3 with e32 e3
  injection e3 with e33 _
  subst e30; subst e31; subst e32; subst e33
  rcases open_ints Try.underlying25 Try.underlying5 cells5' h4 with ⟨hcs, _⟩ | ⟨a, len, cap, zs, hcs, _, hlc, hm, hz, hx, hcell, hwz⟩
  · injection hcs with hcs _
    subst hcs
    exact ⟨⟨n0, n1, n2, _, _, _, _, none, 0, 0, []⟩, rfl, w0, rb_nil W⟩
  · injection hcs with hcs _
    subst hcs
    have hz : zs.length = cap := by simpa using hz
    have hcap : cap * 1 ≤ 140737488351232 := by
      refine Nat.le_trans (Nat.le_of_eq ?_) (hs (cap * 1) ?_)
      · rfl
      · subst hy
        rw [DataW.weights, Try.underlying59]
        show _ ∈ DataW.weightsEach Try.prog [3, 3, 3, 24, 25] [x0.1, x1.1, x2.1, x3.1, x4.1]
        simp only [DataW.weightsEach, List.mem_append]
        refine .inr (.inr (.inr (.inr (.inl ?_))))
        have hx4 : x4.1 = _ := (Prod.mk.injEq _ _ _ _ ▸ hx).1
        rw [hx4, DataW.weights, Try.underlying25]
        show _ ∈ (_ + _) * Try.prog.bytesOf 5 :: _
        rw [bytes5w]
        simp only [lits, List.length_map, List.length_take, List.length_drop, hz]
        rw [Nat.min_eq_left hlc, Nat.add_sub_cancel' hlc]
        exact List.mem_cons_self
    obtain ⟨l, hr⟩ := rb_of_row (.inr ⟨a, rfl, hlc, hm, hz, hcell, hwz⟩) hcap
    exact ⟨⟨n0, n1, n2, _, _, _, _, some a, len, cap, l⟩, rfl, w0, hr⟩
theorem open_deeds {H : Type} {enc : TypeId × Value → H} {W : World} {base : Nat} {held : Bool} {a : Option Addr} {len cap : Nat} {d : DataW H} {ps : List MemPlace} (h : DataW.Trod enc Try.prog W base (fun _ => true) held 53 (.slice a len cap) d ps)
    (hs : ∀ n ∈ d.weights Try.prog 53, n ≤ 140737488351232) : ∃ L, RD W a len cap L ∧ ∀ x ∈ L, (Lit.int .i64 x.wh).wf = true := by
  rcases open_elems2 Try.underlying53 (by rw [cells59]; omega) h with ⟨rfl, rfl, rfl⟩ | ⟨b, off, h1, h2, h3, _, xs, ys, rfl, h5, h6⟩
  · exact ⟨[], ⟨rfl, Nat.le_refl _, by omega, (fun _ => rfl), fun k x hx => by cases hx⟩, fun x hx => by cases hx⟩
  · rw [cells59] at h6
    have hw : (xs.length + ys.length) * 80 ≤ 140737488351232 := by
      have := hs ((xs.length + ys.length) * Try.prog.bytesOf 59) (by rw [DataW.weights, Try.underlying53]; exact List.mem_cons_self)
      rwa [bytes59] at this
    have h7 : ∀ i, i < len → ∃ x : Dd, (∀ j, j < 8 → W.cell? ⟨b, off + i * 8 + j, none⟩ = [Value.int .i64 x.wh, .int .i64 x.tt, .int .i64 x.nw, .int .i64 x.k, .int .i64 x.b, .int .i64 x.al, .int .i64 x.pl, .slice x.a x.n x.c][j]?) ∧ (Lit.int .i64 x.wh).wf = true ∧ RB W x.a x.n x.c x.l := fun i hi => by
      obtain ⟨cs, n, y, k1, k2, k3, k4⟩ := h6 i hi
      obtain ⟨x, rfl, hx, hr⟩ := open_deed k1 k2 (fun m hm => hs m (by
        rw [DataW.weights, Try.underlying53]
        exact List.mem_cons_of_mem _ (List.mem_append_left _ (weightsAll_mem k3 m hm))))
      exact ⟨x, k4, hx, hr⟩
    have hget : ∀ k x, ((List.range len).map fun i => if hi : i < len then Classical.choose (h7 i hi) else default)[k]? = some x → ∃ hk : k < len, x = Classical.choose (h7 k hk) := fun k x hx => by
      have hk := (List.getElem?_eq_some_iff.1 hx).1
      rw [List.length_map, List.length_range] at hk
      refine ⟨hk, ?_⟩
      rw [List.getElem?_map, List.getElem?_range hk] at hx
      simp only [Option.map_some, dif_pos hk, Option.some.injEq] at hx
      exact hx.symm
    refine ⟨(List.range len).map fun i => if hi : i < len then Classical.choose (h7 i hi) else default, ⟨by simp, h3, by omega, fun h => absurd h h2, fun k x hx => ?_⟩, fun x hx => ?_⟩
    · obtain ⟨hk, rfl⟩ := hget k x hx
      obtain ⟨hc, _, hr⟩ := Classical.choose_spec (h7 k hk)
      exact ⟨b, off, h1 (by omega), by simpa using hc 0 (by omega), by simpa using hc 1 (by omega), by simpa using hc 2 (by omega), by simpa using hc 3 (by omega), by simpa using hc 4 (by omega), by simpa using hc 5 (by omega), by simpa using hc 6 (by omega), by simpa using hc 7 (by omega), hr⟩
    · obtain ⟨k, hk⟩ := List.getElem?_of_mem hx
      obtain ⟨hk2, rfl⟩ := hget k x hk
      exact (Classical.choose_spec (h7 k hk2)).2.1
/-- A row of numbers that came in. -/
theorem ticks_of {w : World} {a : Option Addr} {n cap : Nat} {zs : List Int} (h : IsRow .i64 w a n cap zs) (hs : cap * 8 ≤ 140737488351232) : n ≤ 140737488351232 ∧ (zs.take n).length = n ∧ ∀ k x, (zs.take n)[k]? = some x → (-9223372036854775808 ≤ x ∧ x ≤ 9223372036854775807) ∧ ∃ b off, a = some ⟨b, off, none⟩ ∧ w.cell? ⟨b, off + k, none⟩ = some (.int .i64 x) := by
  rcases h with ⟨rfl, rfl, rfl, rfl⟩ | ⟨⟨b, off, spot⟩, rfl, hl, hm, hz, hcell, hwz⟩
  · exact ⟨by omega, rfl, fun k x hx => by cases hx⟩
  · refine ⟨by omega, by simp; omega, fun k x hx => ?_⟩
    have hk := (List.getElem?_eq_some_iff.1 hx).1
    rw [List.length_take] at hk
    have hspot : spot = none := by
      have h0 := hcell 0 (by omega)
      simpa [Addr.add] using World.cell?_spot h0
    subst hspot
    have hk2 : k < zs.length := by omega
    have hxe : zs.getD k 0 = x := by
      rw [List.getElem?_take, if_pos (by omega)] at hx
      rw [List.getD_eq_getElem?_getD, hx]; rfl
    have hc := hcell k hk2
    rw [Addr.add_lit, hxe] at hc
    refine ⟨bounds_i64 (hwz x ?_), b, off, rfl, hc⟩
    rw [← hxe, List.getD_eq_getElem?_getD, List.getElem?_eq_getElem hk2]
    exact List.getElem_mem hk2
end Go.Proofs.Ytfojhmobnedekaa
