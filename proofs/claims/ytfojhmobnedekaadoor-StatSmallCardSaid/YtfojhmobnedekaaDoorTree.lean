/- Regions that draw their order, walked along a tree: where two may come up next, both ways are walked. No condition beyond each law's own. -/
import Derived.Test.YtfojhmobnedekaaDoorSched
namespace Go.Proofs.YtfojhmobnedekaaDoor
open Go.RowKit

/-- A schedule that forks. -/
inductive Sch where
  | fin (last : List Nat)
  | one (seg : List Nat) (i : Nat) (t : Sch)
  | two (seg : List Nat) (i j : Nat) (s t : Sch)
section
variable {P : Program} {ops : Array Oper} {md : Region.Mode} {S : World → Prop} {R : Act → World → Prop}
/-- An operation that is passed over. -/
theorem mv_skip {i : Nat} {o : Oper} {K : Act → World → Prop} {a : Act} {w : World} (d : Option Tmp) (ho : ops[i]? = some o) (hd : o.dst = d) (hw : Region.wanted o (yielded ops a.tmps) = false) (hK : K (a.put d undef) w) : mvP P ops i K a w := by
  subst hd
  exact ⟨o, ho, .inr ⟨hw, hK⟩⟩
def treeP (P : Program) (ops : Array Oper) (S : World → Prop) (R : Act → World → Prop) : Sch → Act → World → Prop
  | .fin last, a, w => wpQuiet P ops S (fun a' => R a' w) (pickL ops last) a
  | .one seg i t, a, w => wpQuiet P ops S (fun a' => mvP P ops i (fun a'' w'' => S w'' ∧ treeP P ops S R t a'' w'') a' w) (pickL ops seg) a
  | .two seg i j s t, a, w => wpQuiet P ops S (fun a' => mvP P ops i (fun a'' w'' => S w'' ∧ treeP P ops S R s a'' w'') a' w ∧ mvP P ops j (fun a'' w'' => S w'' ∧ treeP P ops S R t a'' w'') a' w) (pickL ops seg) a
def treeN : Sch → Nat
  | .fin last => last.length
  | .one seg _ t => treeN t + 1 + seg.length
  | .two seg _ _ s _ => treeN s + 1 + seg.length
def treeB (md : Region.Mode) (ops : Array Oper) : Sch → Array Bool → Bool
  | .fin last, listed => segB md ops last listed && (Region.ready md ops (setL listed last)).isEmpty
  | .one seg i t, listed => segB md ops seg listed && decide (Region.ready md ops (setL listed seg) = [i]) && treeB md ops t ((setL listed seg).setIfInBounds i true)
  | .two seg i j s t, listed => segB md ops seg listed && decide (Region.ready md ops (setL listed seg) = [i, j]) && decide (treeN s = treeN t) && treeB md ops s ((setL listed seg).setIfInBounds i true) && treeB md ops t ((setL listed seg).setIfInBounds j true)
theorem tree_any (hsel : Region.noSelect ops = true) : ∀ (σ : Sch) (listed : Array Bool) (a : Act) (w : World), treeB md ops σ listed = true → S w → treeP P ops S R σ a w → anyM P md ops S R (treeN σ) listed a w
  | .fin last, listed, a, w, hB, hS, h => by
    simp only [treeB, Bool.and_eq_true, List.isEmpty_iff] at hB
    have := seg_any (R := R) (Lq := fun a' => R a' w) hsel last 0 listed a w hB.1 hS (fun a' ha => ⟨hB.2, ha⟩) h
    rwa [Nat.zero_add] at this
  | .one seg i t, listed, a, w, hB, hS, h => by
    simp only [treeB, Bool.and_eq_true, decide_eq_true_eq] at hB
    refine seg_any hsel seg (treeN t + 1) listed a w hB.1.1 hS (fun a' ha => ⟨fun h0 => (by rw [hB.1.2] at h0; cases h0), fun j hj => ?_⟩) h
    rw [hB.1.2] at hj
    obtain rfl : j = i := by simpa using hj
    exact mvP_mono (fun a'' w'' h2 => ⟨h2.1, tree_any hsel t _ a'' w'' hB.2 h2.1 h2.2⟩) ha
  | .two seg i j s t, listed, a, w, hB, hS, h => by
    simp only [treeB, Bool.and_eq_true, decide_eq_true_eq] at hB
    obtain ⟨⟨⟨⟨h1, h2⟩, h3⟩, h4⟩, h5⟩ := hB
    refine seg_any hsel seg (treeN s + 1) listed a w h1 hS (fun a' ha => ⟨fun h0 => (by rw [h2] at h0; cases h0), fun k hk => ?_⟩) h
    rw [h2] at hk
    by_cases e : k = i
    · subst e
      exact mvP_mono (fun a'' w'' h6 => ⟨h6.1, tree_any hsel s _ a'' w'' h4 h6.1 h6.2⟩) ha.1
    · obtain rfl : k = j := by simpa [e] using hk
      refine mvP_mono (fun a'' w'' h6 => ⟨h6.1, ?_⟩) ha.2
      rw [h3]
      exact tree_any hsel t _ a'' w'' h5 h6.1 h6.2
def treeAll (ops : Array Oper) (σ : Sch) : Bool := Region.noSelect ops && treeB .any ops σ (Array.replicate ops.size false) && decide (treeN σ = ops.size)
/-- A region that draws its order, along a tree. -/
theorem region_tree {id : Nat} {Q : Exit → Act → World → Prop} {a : Act} {w : World} (S : World → Prop) (σ : Sch) (hm : P.follows .mixedOrders = true) (hB : treeAll ops σ = true) (hS : S w.drew)
    (h : treeP P ops S (fun a w => Q .normal a w) σ a w.drew) : (Code.region id ops true).wp P Q a w := by
  simp only [treeAll, Bool.and_eq_true, decide_eq_true_eq] at hB
  have H := tree_any (md := .any) hB.1.1 σ _ a w.drew hB.1.2 hS h
  rw [hB.2] at H
  exact wp_region_any hm (any_of_M (fun _ _ h => h) _ _ _ _ H)
end
end Go.Proofs.YtfojhmobnedekaaDoor
