/- An argument that is a list of rows of bytes: out of how it reads as data to how the walks ask it. No condition. -/
import Derived.Test.YtokeoodkioobdaaArgs
import Derived.Test.YtokeoodkioobdaaRRow
import Derived.Deep.Matrix
import Derived.SizedLaws
namespace Go.Proofs.Ytokeoodkioobdaa
open Go.RowKit Go.Deep Go.ChangeShapes Go.WideShapes

theorem weights_all_mem {H : Type} {P : Program} {e : TypeId} : ∀ {ds : List (DataW H)} {i : Nat} {d : DataW H}, ds[i]? = some d → ∀ n ∈ d.weights P e, n ∈ DataW.weightsAll P e ds
  | d0 :: ds, 0, d, hd, n, hn => by
    simp only [List.getElem?_cons_zero, Option.some.injEq] at hd
    subst hd
    simp only [DataW.weightsAll, List.mem_append]
    exact .inl hn
  | d0 :: ds, i + 1, d, hd, n, hn => by
    simp only [List.getElem?_cons_succ] at hd
    simp only [DataW.weightsAll, List.mem_append]
    exact .inr (weights_all_mem hd n hn)
  | [], _, _, hd, _, _ => by simp at hd

theorem cells31 : Try.prog.cellsOf 31 = 1 := by kernel_rfl
theorem cells5 : Try.prog.cellsOf 5 = 1 := by kernel_rfl
theorem bytes5' : Try.prog.bytesOf 5 = 1 := by kernel_rfl
theorem bytes31 : Try.prog.bytesOf 31 = 24 := by kernel_rfl

theorem open_rows {H : Type} {enc : TypeId × Value → H} {W : World} {base : Nat} {held : Bool} {a : Option Addr} {len cap : Nat} {d : DataW H} {ps : List MemPlace} (h : DataW.Trod enc Try.prog W base (fun _ => true) held 51 (.slice a len cap) d ps)
    (hs : ∀ n ∈ d.weights Try.prog 51, n ≤ 140737488351232) : len ≤ 140737488351232 ∧ ∃ X, RR W (.slice a len cap) len X := by
  obtain ⟨fuel, hf⟩ := h
  rcases open_int_rows Try.underlying51 Try.underlying31 Try.underlying5 cells31 cells5 hf with ⟨hcs, _⟩ | ⟨x, l, c, A, L, C, Z, hcs, _, hl, hm, hx, hr⟩
  · simp [Value.cells] at hcs
    obtain ⟨rfl, rfl, rfl⟩ := hcs
    exact ⟨by omega, fun _ => [], ⟨none, 0, rfl, fun k hk => absurd hk (by omega)⟩⟩
  · simp [Value.cells] at hcs
    obtain ⟨rfl, rfl, rfl⟩ := hcs
    have hd := (Prod.mk.injEq _ _ _ _ ▸ hx).1
    subst hd
    have hw1 : cap * 24 ≤ 140737488351232 := by
      have := hs _ (by rw [DataW.weights, Try.underlying51]; exact List.mem_cons_self)
      rw [bytes31] at this
      simp only [List.length_map, List.length_range] at this
      omega
    have hwr : ∀ r, r < len → C r ≤ 140737488351232 := fun r hr1 => by
      obtain ⟨_, h2, _, h4, _, h6, _⟩ := hr r (by omega)
      cases hA : A r with
      | none => rw [h6 hA]; omega
      | some a' =>
        have h9 := hs ((L r + (C r - L r)) * 1) (by
          rw [DataW.weights, Try.underlying51]
          refine List.mem_cons_of_mem _ (List.mem_append_left _ (weights_all_mem (i := r) (d := intRow .u8 (A r) (L r) (Z r)) ?_ _ ?_))
          · rw [List.getElem?_map, List.getElem?_range hr1]; rfl
          · rw [hA]
            unfold intRow
            rw [DataW.weights, Try.underlying31]
            show _ ∈ (_ + _) * Try.prog.bytesOf 5 :: _
            rw [bytes5']
            simp only [lits, List.length_map, List.length_take, List.length_drop, h4]
            rw [Nat.min_eq_left h2]
            exact List.mem_cons_self)
        omega
    have hrow : ∀ r, r < len → ∃ lr : List Nat, ∃ b o, x = ⟨b, o, none⟩ ∧ W.cell? ⟨b, o + r, none⟩ = some (.slice (A r) (L r) (C r)) ∧ RB W (A r) (L r) (C r) lr := fun r hr1 => by
      obtain ⟨h1, h2, h3, h4, h5, h6, h7⟩ := hr r (by omega)
      obtain ⟨b, o, spot⟩ := x
      have hspot : spot = none := by
        have h0 := (hr 0 (by omega)).1
        simpa [Addr.add] using World.cell?_spot h0
      subst hspot
      rw [Addr.add_lit] at h1
      have hir : IsRow .u8 W (A r) (L r) (C r) (Z r) := by
        cases hA : A r with
        | none =>
          have hc0 := h6 hA
          have hz : Z r = [] := List.eq_nil_of_length_eq_zero (by omega)
          exact .inl ⟨rfl, by omega, hc0, hz⟩
        | some a' =>
          refine .inr ⟨a', rfl, h2, h3, h4, fun i hi => (h7 a' hA).2 i (by omega), h5⟩
      obtain ⟨lr, hlr⟩ := rb_of_row hir (by have := hwr r hr1; omega)
      exact ⟨lr, b, o, rfl, h1, hlr⟩
    refine ⟨by omega, fun r => if hr : r < len then Classical.choose (hrow r hr) else [], ⟨some x, cap, rfl, fun k hk => ?_⟩⟩
    obtain ⟨b, o, e, hc, hb⟩ := Classical.choose_spec (hrow k hk)
    refine ⟨b, o, A k, L k, C k, by rw [e], hc, ?_⟩
    simp only [dif_pos hk]
    exact hb
end Go.Proofs.Ytokeoodkioobdaa
