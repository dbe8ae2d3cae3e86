/- Arguments that are rows of bytes: out of how they read as data to how the walks ask it. No condition. -/
import Derived.Test.YtfojhmobnedekaaBase
import Derived.ProofKit
import Derived.OpenShut
namespace Go.Proofs.Ytfojhmobnedekaa
open Go.RowKit

/-- A slice of integers that came in: nil, or a row of cells. -/
def IsRow (k : IntKind) (w : World) (a : Option Addr) (len cap : Nat) (zs : List Int) : Prop :=
  (a = none ∧ len = 0 ∧ cap = 0 ∧ zs = []) ∨
  ∃ x, a = some x ∧ len ≤ cap ∧ cap ≤ maxLen ∧ zs.length = cap ∧ (∀ i, i < zs.length → w.cell? (x.add i) = some (.int k (zs.getD i 0))) ∧ ∀ n ∈ zs, (Lit.int k n).wf = true
theorem rb_of_row {w : World} {a : Option Addr} {n cap : Nat} {zs : List Int} (h : IsRow .u8 w a n cap zs) (hs : cap * 1 ≤ 140737488351232) : ∃ l, RB w a n cap l := by
  rcases h with ⟨rfl, rfl, rfl, rfl⟩ | ⟨⟨b, off, spot⟩, rfl, hl, hm, hz, hcell, hwz⟩
  · exact ⟨[], ⟨rfl, Nat.le_refl _, by omega, Small.nil, fun _ => rfl, fun i hi => absurd hi (by omega)⟩⟩
  · have hw : ∀ i, i < zs.length → ∃ x : Nat, zs.getD i 0 = x ∧ x < 256 := fun i hi => by
      have := bounds_u8 (hwz (zs.getD i 0) (by simp [List.getD, hi]))
      exact ⟨(zs.getD i 0).toNat, by omega, by omega⟩
    have hg : ∀ i, i < n → ((zs.take n).map Int.toNat).getD i 0 = (zs.getD i 0).toNat := fun i hi => by
      simp [List.getD, hi, show i < zs.length by omega]
    refine ⟨(zs.take n).map Int.toNat, ⟨by simp; omega, hl, by omega, fun i => ?_, (fun h => by cases h), fun i hi => ?_⟩⟩
    · by_cases hi : i < n
      · obtain ⟨x, hx, hx2⟩ := hw i (by omega)
        rw [hg i hi, hx]; exact hx2
      · rw [List.getD_eq_getElem?_getD, List.getElem?_eq_none (by simp; omega)]; decide
    · have hc := hcell i (by omega)
      have hspot : spot = none := by
        have h0 := hcell 0 (by omega)
        simpa [Addr.add] using World.cell?_spot h0
      subst hspot
      obtain ⟨x, hx, hx2⟩ := hw i (by omega)
      refine ⟨b, off, rfl, ?_⟩
      rw [Addr.add_lit] at hc
      rw [hc, hg i hi, hx, Int.toNat_natCast]
end Go.Proofs.Ytfojhmobnedekaa
