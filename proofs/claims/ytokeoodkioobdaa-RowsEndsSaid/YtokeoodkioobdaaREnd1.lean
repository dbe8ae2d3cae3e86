/- The walk of the rows' closed law's wide sizes. No condition. -/
import Derived.Test.YtokeoodkioobdaaRDo2
import Derived.Deep.DeepCutAuto
namespace Go.Proofs.Ytokeoodkioobdaa
open Go.RowKit

section
variable {P : Program} {ops : Array Oper} {md : Region.Mode} {S : World → Prop}
/-- Operation number 'i' yields a value. -/
def stepL (P : Program) (ops : Array Oper) (i : Nat) (K : Act → World → Prop) (a : Act) (w : World) : Prop :=
  ∃ o, ops[i]? = some o ∧ ((Region.wanted o (yielded ops a.tmps) = true ∧ ∃ v w', (execOp a.eval o).run P w = .ok (.value v) w' ∧ K (a.put o.dst v) w') ∨ (Region.wanted o (yielded ops a.tmps) = false ∧ K (a.put o.dst undef) w))
theorem stepL_mono {i : Nat} {K K' : Act → World → Prop} {a : Act} {w : World} (h : ∀ a w, K a w → K' a w) (hh : stepL P ops i K a w) : stepL P ops i K' a w := by
  obtain ⟨o, ho, h1 | h1⟩ := hh
  · obtain ⟨hw, v, w', hr, hK⟩ := h1; exact ⟨o, ho, .inl ⟨hw, v, w', hr, h _ _ hK⟩⟩
  · exact ⟨o, ho, .inr ⟨h1.1, h _ _ h1.2⟩⟩
theorem stepL_of {i : Nat} {o : Oper} {v : Value} {a : Act} {w : World} {K : Act → World → Prop} (hi : ops[i]? = some o) (hy : YieldsIf P ops S o v a) (hS : S w) (h : K (a.put o.dst v) w) : stepL P ops i K a w := by
  rcases hy with ⟨hw, hv⟩ | ⟨hw, rfl⟩
  · exact ⟨o, hi, .inl ⟨hw, v, w, hv w hS, h⟩⟩
  · exact ⟨o, hi, .inr ⟨hw, h⟩⟩
theorem stepL_put {j : Nat} {oi oj : Oper} {v : Value} (hj : ops[j]? = some oj) (hap : oi.apart ops oj = true) (hsi : ∀ cs b, oi.op ≠ .select cs b) (hsj : ∀ cs b, oj.op ≠ .select cs b) {K : Act → World → Prop} {a : Act} {w : World}
    (hy : YieldsIf P ops S oi v a) (h : stepL P ops j K (a.put oi.dst v) w) : stepL P ops j (fun a' w' => YieldsIf P ops S oi v a' ∧ K (a'.put oi.dst v) w') a w := by
  obtain ⟨h1, h2, h3⟩ := Oper.apart_spec hap
  have keep : ∀ (a : Act), YieldsIf P ops S oi v a → ∀ u, YieldsIf P ops S oi v (a.put oj.dst u) := fun a hy u => hy.of_same (execOp_put oi hsi a oj.dst u h3) (wanted_put oi a oj.dst u h3)
  obtain ⟨o, ho, h⟩ := h
  obtain rfl : o = oj := Option.some.inj (ho.symm.trans hj)
  rw [wanted_put o a oi.dst v h1, execOp_put o hsj a oi.dst v h1] at h
  rcases h with ⟨hw, u, w', hr, hK⟩ | ⟨hw, hK⟩
  · exact ⟨o, hj, .inl ⟨hw, u, w', hr, keep a hy u, by rw [← Act.put_comm a v u h2]; exact hK⟩⟩
  · exact ⟨o, hj, .inr ⟨hw, keep a hy _, by rw [← Act.put_comm a v undef h2]; exact hK⟩⟩
/-- f operations below n come up, each yields a value; then L. -/
def lateQ (P : Program) (md : Region.Mode) (ops : Array Oper) (S : World → Prop) (n : Nat) (L : Array Bool → Act → World → Prop) : Nat → Array Bool → Act → World → Prop
  | 0, listed, a, w => L listed a w
  | f + 1, listed, a, w => Region.ready md ops listed ≠ [] ∧ ∀ i ∈ Region.ready md ops listed, i < n ∧ stepL P ops i (fun a' w' => S w' ∧ lateQ P md ops S n L f (listed.setIfInBounds i true) a' w') a w
theorem lateQ_first {n i : Nat} {oi : Oper} {v : Value} {L : Array Bool → Act → World → Prop} (hi : ops[i]? = some oi) (hsel : ∀ (j : Nat) (o : Oper) cs b, ops[j]? = some o → o.op ≠ .select cs b)
    (hs : Region.sinkB md ops n = true) (hc : Region.chainB md ops n = true) (hn : n < ops.size) (hin : i < n)
    (hdone : ∀ listed a w, L listed a w → ∀ j ∈ Region.ready md ops listed, n ≤ j) :
    ∀ (f : Nat) (listed : Array Bool) (a : Act) (w : World), HeadInv md ops n listed →
      (∀ j oj, ops[j]? = some oj → j ≠ i → listed.getD j true = false → (∀ e ∈ oj.after, Region.binds md e = true → e.on ≠ i) → oi.apart ops oj = true) →
      i ∈ Region.ready md ops listed → YieldsIf P ops S oi v a → S w →
      lateQ P md ops S n L f (listed.setIfInBounds i true) (a.put oi.dst v) w → lateQ P md ops S n L (f + 1) listed a w
  | 0, listed, a, w, inv, _, hr, hy, hS, H => by
    have hun := (mem_ready.1 hr).1
    refine ⟨fun h => (by rw [h] at hr; cases hr), fun j hj => ?_⟩
    have hjn := headQ_below hs hc hn inv hin hun hj
    by_cases hji : j = i
    · subst hji; exact ⟨hjn, stepL_of hi hy hS ⟨hS, H⟩⟩
    · exact absurd (hdone _ _ _ H j (ready_mono hj hji)) (by omega)
  | f + 1, listed, a, w, inv, hfree, hr, hy, hS, H => by
    have hun := (mem_ready.1 hr).1
    refine ⟨fun h => (by rw [h] at hr; cases hr), fun j hj => ?_⟩
    have hjn := headQ_below hs hc hn inv hin hun hj
    refine ⟨hjn, ?_⟩
    by_cases hji : j = i
    · subst hji; exact stepL_of hi hy hS ⟨hS, H⟩
    · obtain ⟨hjun, oj, hoj, hall⟩ := mem_ready.1 hj
      have hnot : ∀ e ∈ oj.after, Region.binds md e = true → e.on ≠ i := fun e he hb heq => by
        have h1 := hall e he hb
        rw [heq, getD_both hun] at h1
        cases h1
      have h2 := stepL_put hoj (hfree j oj hoj hji hjun hnot) (fun cs b => hsel i oi cs b hi) (fun cs b => hsel j oj cs b hoj) hy (H.2 j (ready_mono hj hji)).2
      refine stepL_mono (fun a' w' h3 => ⟨h3.2.1, lateQ_first hi hsel hs hc hn hin hdone f (listed.setIfInBounds j true) a' w' (inv.set hj hjn) (fun k ok hk hki hk2 hno => hfree k ok hk hki ?_ hno) (ready_mono hr (Ne.symm hji)) h3.1 h3.2.1 ?_⟩) h2
      · by_cases hjk : j = k
        · subst hjk; exact hjun
        · rw [getD_set_ne true hjk] at hk2; exact hk2
      · rw [Array.setIfInBounds_comm _ _ hji]
        exact h3.2.2
theorem lateQ_lex {n g : Nat} {Lq : Act → Prop} {L : Array Bool → Act → World → Prop} (hsel : Region.noSelect ops = true) (hs : Region.sinkB md ops n = true) (hc : Region.chainB md ops n = true) (hn : n < ops.size) (hdone : ∀ listed a w, L listed a w → ∀ j ∈ Region.ready md ops listed, n ≤ j)
    (hb : ∀ (listed : Array Bool) a w, Region.seqB md ops (g + 1) (n - 1) listed = true → S w → Lq a → lateQ P md ops S n L 1 listed a w) :
    ∀ (l : List Oper) (k : Nat) (listed : Array Bool) (a : Act) (w : World), (∀ j, j < l.length → l[j]? = ops[k + j]?) → (∀ o ∈ l, plainOp o = true) → k + l.length = n - 1 → 1 ≤ n → HeadInv md ops n listed →
    Region.lexHead md ops (g + 1) l.length k listed = true → S w → wpQuiet P ops S Lq l a → lateQ P md ops S n L (l.length + 1) listed a w
  | [], k, listed, a, w, _, _, hk, _, _, hB, hS, h => by
    obtain rfl : k = n - 1 := by simpa using hk
    exact hb listed a w (by simpa [Region.lexHead] using hB) hS h
  | o :: l, k, listed, a, w, hl, hp, hk, h1, inv, hB, hS, h => by
    have h0 : ops[k]? = some o := by simpa using (hl 0 (by simp)).symm
    simp only [List.length_cons, Region.lexHead, Bool.and_eq_true] at hB
    obtain ⟨⟨hr, hf⟩, hB'⟩ := hB
    have hkn : k < n := by simp only [List.length_cons] at hk; omega
    have hr' : k ∈ Region.ready md ops listed := by simpa using hr
    have hst : qOp P ops S k (wpQuiet P ops S Lq l) a := by unfold qOp; simp only [h0]; exact h
    obtain ⟨v, hy, hK⟩ := yieldsIn_of_qOp h0 hst
    exact lateQ_first h0 (Region.noSelect_spec hsel) hs hc hn hkn hdone (l.length + 1) listed a w inv (Region.free_spec h0 hf) hr' (yieldsIf_of (hp o (by simp)) hy) hS
      (lateQ_lex hsel hs hc hn hdone hb l (k + 1) _ _ w (fun j hj => by have := hl (j + 1) (by simp; omega); simpa [Nat.add_assoc, Nat.add_comm 1 j] using this) (fun o' ho' => hp o' (by simp [ho'])) (by simp only [List.length_cons] at hk; omega) h1 (inv.set hr' hkn) hB' hS hK)
theorem op_of_step {i : Nat} {a : Act} {w : World} {K K' : Act → World → Prop} {Q' : Exit → Act → World → Prop} (h : ∀ a w, K a w → K' a w) (hh : stepL P ops i K a w) : wpOp P ops Q' i K' a w := by
  obtain ⟨o, ho, hh⟩ := hh
  unfold wpOp
  simp only [ho]
  rcases hh with ⟨hw, v, w', hr, hK⟩ | ⟨hw, hK⟩
  · simp only [hw, if_true]
    refine .inl ?_
    unfold Oper.wp
    rw [hr]
    exact h _ _ hK
  · simp only [hw]
    exact h _ _ hK
theorem any_of_late {n g : Nat} {L : Array Bool → Act → World → Prop} {Q' : Exit → Act → World → Prop} (hL : ∀ listed a w, L listed a w → wpAny P md ops Q' g listed a w) :
    ∀ (f : Nat) (listed : Array Bool) (a : Act) (w : World), lateQ P md ops S n L f listed a w → wpAny P md ops Q' (f + g) listed a w
  | 0, listed, a, w, h => by rw [Nat.zero_add]; exact hL _ _ _ h
  | f + 1, listed, a, w, h => by
    rw [show f + 1 + g = (f + g) + 1 by omega]
    exact ⟨fun h0 => absurd h0 h.1, fun i hi => op_of_step (fun a' w' h' => any_of_late hL f _ a' w' h'.2) (h.2 i hi).2⟩
/-- What the kernel asks of such a region: n reads, an operation that makes memory, a tail. -/
def lateB (l : List Oper) (n : Nat) : Bool :=
  Region.noSelect l.toArray && decide (n + 1 < l.length) && Region.sinkB .any l.toArray (n + 1) && Region.chainB .any l.toArray (n + 1) && Region.lexHead .any l.toArray (l.length - (n + 1) + 1) n 0 (Array.replicate l.length false) && (l.take n).all plainOp && noDefers l.toArray
/-- Reads (some of which may come late), an operation that makes memory, then a tail. -/
theorem region_late {id : Nat} {Q : Exit → Act → World → Prop} {a : Act} {w : World} {l : List Oper} {o : Oper} (n : Nat) (hm : P.follows .mixedOrders = true) (hB : lateB l n = true) (ho : l[n]? = some o) (hg : o.guard = none)
    (h : wpQuiet P l.toArray (fun w' => ∃ x : Lies w, w' = x.1) (fun a' => ∀ w', (∃ x : Lies w, w' = x.1) → ∃ v w'', (execOp a'.eval o).run P w' = .ok (.value v) w'' ∧ (∃ x : Lies w, w'' = x.1) ∧ wpList P l.toArray Q (l.drop (n + 1)) (a'.put o.dst v) w'') (l.take n) a) : (Code.region id l.toArray true).wp P Q a w := by
  simp only [lateB, Bool.and_eq_true, decide_eq_true_eq] at hB
  obtain ⟨⟨⟨⟨⟨⟨hsel, hn⟩, hs⟩, hc⟩, hlex⟩, hp⟩, hd⟩ := hB
  have htl : (l.take n).length = n := by simp; omega
  have inv0 : HeadInv .any l.toArray (n + 1) (Array.replicate l.length false) :=
    ⟨by simp, fun j oj _ hl => (by rw [getD_replicate_false] at hl; cases hl), fun t _ ht => getD_in (by simpa using ht) (getD_replicate_false _ _)⟩
  have H := lateQ_lex (md := .any) (P := P) (S := fun w' => ∃ x : Lies w, w' = x.1) (g := l.length - (n + 1)) (L := fun listed' a' w' => Region.seqB .any l.toArray (l.length - (n + 1)) (n + 1) listed' = true ∧ wpList P l.toArray Q (l.drop (n + 1)) a' w')
    hsel hs hc (by simpa using hn) (fun listed a w hL => seqB_ready hL.1)
    (fun listed a' w' hsq hS hq => by
      simp only [Region.seqB, Bool.and_eq_true, decide_eq_true_eq, Nat.add_sub_cancel] at hsq
      refine ⟨fun h0 => (by rw [hsq.1] at h0; cases h0), fun i hi => ?_⟩
      rw [hsq.1] at hi
      obtain rfl : i = n := by simpa using hi
      obtain ⟨v, w'', hr, hS2, hK⟩ := hq w' hS
      exact ⟨by omega, o, by simpa using ho, .inl ⟨by simp [Region.wanted, hg], v, w'', hr, hS2, hsq.2, hK⟩⟩)
    (l.take n) 0 (Array.replicate l.length false) a w.drew (fun j hj => by
      have hj' : j < n := by rw [htl] at hj; exact hj
      simp [hj']) (fun o' ho' => List.all_eq_true.1 hp o' ho') (by rw [htl]; simp) (by omega) inv0 (by rw [htl]; exact hlex) ⟨⟨_, below_drewN (Below.refl _ _) 1⟩, rfl⟩ h
  rw [htl] at H
  refine wp_region_any hm ?_
  have := any_of_late (Q' := Q) (g := l.length - (n + 1)) (fun listed a' w' hL => by
    have := wpAny_of_seq (md := .any) (Q' := Q) (l.drop (n + 1)) (n + 1) listed a' w' (fun j => by simp [List.getElem?_drop]) (by rw [List.length_drop]; exact hL.1) hL.2
    rwa [List.length_drop] at this) _ _ _ _ H
  rw [show n + 1 + (l.length - (n + 1)) = l.length by omega] at this
  simpa using this
end

section
variable {P : Program} {ops : Array Oper} {md : Region.Mode} {S : World → Prop}
def lsegB (n : Nat) : List Nat → Bool
  | [] => true
  | i :: seg => decide (i < n) && lsegB n seg
theorem lseg_any {n : Nat} {L : Array Bool → Act → World → Prop} (hsel : Region.noSelect ops = true) (hs : Region.sinkB md ops n = true) (hc : Region.chainB md ops n = true) (hn : n < ops.size)
    (hdone : ∀ listed a w, L listed a w → ∀ j ∈ Region.ready md ops listed, n ≤ j) {Lq : Act → Prop} : ∀ (seg : List Nat) (f : Nat) (listed : Array Bool) (a : Act) (w : World), HeadInv md ops n listed → segB md ops seg listed = true → lsegB n seg = true → S w →
    (HeadInv md ops n (setL listed seg) → ∀ a', Lq a' → lateQ P md ops S n L f (setL listed seg) a' w) → wpQuiet P ops S Lq (pickL ops seg) a → lateQ P md ops S n L (f + seg.length) listed a w
  | [], f, listed, a, w, inv, _, _, _, hk, h => hk inv a h
  | i :: seg, f, listed, a, w, inv, hB, hl, hS, hk, h => by
    simp only [segB, Bool.and_eq_true] at hB
    simp only [lsegB, Bool.and_eq_true, decide_eq_true_eq] at hl
    obtain ⟨⟨⟨hr, hf⟩, hp⟩, hB'⟩ := hB
    have hr' : i ∈ Region.ready md ops listed := by simpa using hr
    unfold plainAt at hp
    cases ho : ops[i]? with
    | none => rw [ho] at hp; cases hp
    | some o =>
      rw [ho] at hp
      have hpk : pickL ops (i :: seg) = o :: pickL ops seg := by simp [pickL, ho]
      rw [hpk] at h
      have hst : qOp P ops S i (wpQuiet P ops S Lq (pickL ops seg)) a := by unfold qOp; simp only [ho]; exact h
      obtain ⟨v, hy, hK⟩ := yieldsIn_of_qOp ho hst
      exact lateQ_first ho (Region.noSelect_spec hsel) hs hc hn hl.1 hdone (f + seg.length) listed a w inv (Region.free_spec ho hf) hr' (yieldsIf_of hp hy) hS (lseg_any hsel hs hc hn hdone seg f _ _ w (inv.set hr' hl.1) hB' hl.2 hS hk hK)
/-- The walk along a schedule that ends in a tail. -/
def lschP (P : Program) (ops : Array Oper) (S : World → Prop) (F : Act → World → Prop) : List (List Nat × Nat) → Act → World → Prop
  | [], a, w => F a w
  | (seg, i) :: σ, a, w => wpQuiet P ops S (fun a' => stepL P ops i (fun a'' w'' => S w'' ∧ lschP P ops S F σ a'' w'') a' w) (pickL ops seg) a
def lschB (md : Region.Mode) (ops : Array Oper) (n g : Nat) : List (List Nat × Nat) → Array Bool → Bool
  | [], listed => Region.seqB md ops g n listed
  | (seg, i) :: σ, listed => segB md ops seg listed && lsegB n seg && decide (i < n) && decide (Region.ready md ops (setL listed seg) = [i]) && lschB md ops n g σ ((setL listed seg).setIfInBounds i true)
def lschN : List (List Nat × Nat) → Nat
  | [] => 0
  | (seg, _) :: σ => lschN σ + 1 + seg.length
theorem lsch_any {n g : Nat} {F : Act → World → Prop} (hsel : Region.noSelect ops = true) (hs : Region.sinkB md ops n = true) (hc : Region.chainB md ops n = true) (hn : n < ops.size) : ∀ (σ : List (List Nat × Nat)) (listed : Array Bool) (a : Act) (w : World), HeadInv md ops n listed → lschB md ops n g σ listed = true → S w → lschP P ops S F σ a w →
    lateQ P md ops S n (fun listed a w => Region.seqB md ops g n listed = true ∧ F a w) (lschN σ) listed a w
  | [], listed, a, w, _, hB, _, h => ⟨hB, h⟩
  | (seg, i) :: σ, listed, a, w, inv, hB, hS, h => by
    simp only [lschB, Bool.and_eq_true, decide_eq_true_eq] at hB
    obtain ⟨⟨⟨⟨h1, h2⟩, h3⟩, h4⟩, h5⟩ := hB
    refine lseg_any hsel hs hc hn (fun listed a w hL => seqB_ready hL.1) seg (lschN σ + 1) listed a w inv h1 h2 hS (fun inv' a' ha => ⟨fun h0 => (by rw [h4] at h0; cases h0), fun j hj => ?_⟩) h
    have hj' := hj
    rw [h4] at hj
    obtain rfl : j = i := by simpa using hj
    exact ⟨h3, stepL_mono (fun a'' w'' h6 => ⟨h6.1, lsch_any hsel hs hc hn σ _ a'' w'' (inv'.set hj' h3) h5 h6.1 h6.2⟩) ha⟩
def lschAll (l : List Oper) (n : Nat) (σ : List (List Nat × Nat)) : Bool :=
  Region.noSelect l.toArray && decide (n < l.length) && Region.sinkB .any l.toArray n && Region.chainB .any l.toArray n && lschB .any l.toArray n (l.length - n) σ (Array.replicate l.length false) && decide (lschN σ = n)
/-- A region that draws its order: along a schedule, then a tail that waits for all. -/
theorem region_lsch {id : Nat} {Q : Exit → Act → World → Prop} {a : Act} {w : World} {l : List Oper} (S : World → Prop) (n : Nat) (σ : List (List Nat × Nat)) (hm : P.follows .mixedOrders = true) (hB : lschAll l n σ = true) (hS : S w.drew)
    (h : lschP P l.toArray S (fun a w => wpList P l.toArray Q (l.drop n) a w) σ a w.drew) : (Code.region id l.toArray true).wp P Q a w := by
  simp only [lschAll, Bool.and_eq_true, decide_eq_true_eq] at hB
  obtain ⟨⟨⟨⟨⟨hsel, hn⟩, hs⟩, hc⟩, hb⟩, hN⟩ := hB
  have inv0 : HeadInv .any l.toArray n (Array.replicate l.length false) :=
    ⟨by simp, fun j oj _ hl => (by rw [getD_replicate_false] at hl; cases hl), fun t _ ht => getD_in (by simpa using ht) (getD_replicate_false _ _)⟩
  have H := lsch_any hsel hs hc (by simpa using hn) σ _ a w.drew inv0 hb hS h
  rw [hN] at H
  refine wp_region_any hm ?_
  have := any_of_late (Q' := Q) (g := l.length - n) (fun listed a' w' hL => by
    have := wpAny_of_seq (md := .any) (Q' := Q) (l.drop n) n listed a' w' (fun j => by simp [List.getElem?_drop]) (by rw [List.length_drop]; exact hL.1) hL.2
    rwa [List.length_drop] at this) _ _ _ _ H
  rw [show n + (l.length - n) = l.length by omega] at this
  simpa using this
theorem stepL_value {i : Nat} {o : Oper} {K : Act → World → Prop} {a : Act} {w w' : World} {v : Value} (d : Option Tmp) (ho : ops[i]? = some o) (hd : o.dst = d) (hw : Region.wanted o (yielded ops a.tmps) = true) (hr : (execOp a.eval o).run P w = .ok (.value v) w') (hK : K (a.put d v) w') : stepL P ops i K a w := by
  subst hd
  exact ⟨o, ho, .inl ⟨hw, v, w', hr, hK⟩⟩
end

theorem rdo_any {w : World} {a b v : Option Addr} {N c M d m e : Nat} {X Y : Nat → List Nat} {l : List Nat} (n : Int) (hN : N ≤ 140737488351232) (hM : M ≤ 140737488351232) (hx : RR w (.slice a N c) N X) (hy : RR w (.slice b M d) M Y) (hv : RB w v m e l) :
    Calls Try.prog 17 #[.slice a N c, .slice b M d, .slice v m e, .int .i64 n] w fun e w' => e = .returned (.bool true) ∧ Below w.heap.size w w' := by
  by_cases h : 900 < szTo N X N + szTo M Y M + m
  · exact rdo_great hN hM hx hy hv h
  · exact rdo_small hx hy hv (by omega)
theorem own_lit {w : World} {g n : Nat} {l : List Nat} (h : w.heap[g]? = some (.cells (bs l).toArray 5 (0, 0))) (hn : l.length = n) (hm : n ≤ 1000000) {B : Nat} (hB : B ≤ g) : w.ownsRow B 5 1 (.slice (some ⟨g, 0, none⟩) n n) n (bs l) := by
  subst hn
  refine ⟨by rw [length_bs, Nat.mul_one], .inr ⟨g, l.length, _, rfl, hB, h, Nat.le_refl _, by unfold maxLen; omega, by simp [bs], ?_⟩⟩
  exact List.take_of_length_le (by simp [bs])
theorem u8_some (x : Int) : ∃ y : Nat, IntKind.u8.wrap x = (y : Int) ∧ y < 256 := by
  refine ⟨(IntKind.u8.wrap x).toNat, ?_, ?_⟩ <;> rw [IntKind.wrap_u8] <;> omega
/-- A list that was built of rows. -/
theorem grid_lit {w : World} {B L N : Nat} {p c : Nat → Nat} {X : Nat → List Nat} (hL : w.heap[L]? = some (.cells ((List.range N).map (hdr p c X)).toArray 31 (0, 0))) (hB : B ≤ L) (hN : N ≤ 1000) (hrow : ∀ i, i < N → w.ownsRow B 5 1 (hdr p c X i) (X i).length (bs (X i))) (hinj : ∀ i j, i < N → j < N → p i = p j → i = j) :
    GridTo w B (.slice (some ⟨L, 0, none⟩) N N) N N p c X := by
  refine ⟨⟨(List.range N).map (hdr p c X), ⟨by simp, .inr ⟨L, N, _, rfl, hB, hL, Nat.le_refl _, by unfold maxLen; omega, by simp, List.take_of_length_le (by simp)⟩⟩, fun i hi => by rw [List.getElem?_map, List.getElem?_range hi]; rfl⟩, hrow, hinj, Nat.le_refl _⟩
/-- A cell of a row of a grid is set. -/
theorem GridTo.cellset {w : World} {B N K i j y : Nat} {v : Value} {p c : Nat → Nat} {X : Nat → List Nat} (h : GridTo w B v N K p c X) (hi : i < K) : GridTo (w.setCell ⟨p i, j, none⟩ (.int .u8 (y : Nat))) B v N K p c fun t => if t = i then (X i).set j y else X t :=
  h.turn hi ((Only.refl _ _).set _ _) (by simp) (own_set (h.row i hi))
theorem set_small {l : List Nat} {j y : Nat} (h : Small l) (hy : y < 256) : Small (l.set j y) := Small.of_mem fun x hx => by
  rcases List.mem_or_eq_of_mem_set hx with h1 | rfl
  · obtain ⟨k, hk, rfl⟩ := List.getElem_of_mem h1
    have := h k
    rwa [List.getD_eq_getElem?_getD, List.getElem?_eq_getElem hk] at this
  · exact hy
theorem zeros_cells (n : Nat) : madeCells #[Value.int .u8 0] n = (bs (List.replicate n 0)).toArray := by
  have e : (madeCells #[Value.int .u8 0] n).toList = bs (List.replicate n 0) := by
    rw [upto_zero (fun _ => 0)]
    congr 1
    unfold upto
    apply List.ext_getElem
    · simp
    · intro i h1 h2; simp
  rw [← e]
theorem make_zeros {n : Nat} (hn : n ≤ 1000000) (W : World) : (Instr.makeSlice 31 (.int .i64 (n : Nat)) (.int .i64 (n : Nat))).run Try.prog W = .ok (.slice (some ⟨W.heap.size, 0, none⟩) n n) (W.alloc (.cells (bs (List.replicate n 0)).toArray 5)) := by
  obtain ⟨i0, hi, hz0, hz1, hz2⟩ := info_parts info5
  have h := run_make (P := Try.prog) (w := W) 31 5 i0 _ Try.underlying31 hi hz0 .i64 .i64 (n : Int) (n : Int) (by omega) (Int.le_refl _) (by rw [hz2]; omega) (by omega)
  rw [hz1, Int.toNat_natCast, Nat.mul_one] at h
  rw [← zeros_cells]
  exact h
theorem zeros_small (n : Nat) : Small (List.replicate n 0) := Small.of_mem fun x hx => by rw [List.eq_of_mem_replicate hx]; omega
theorem lit_rb {w : World} {g : Nat} {l : List Nat} {n : Nat} (h : w.heap[g]? = some (.cells (bs l).toArray 5 (0, 0))) (hn : l.length = n) (hm : n ≤ 1000) (hs : Small l) : RB w (some ⟨g, 0, none⟩) n n l := by
  have := own_rb2 (own_lit (B := 0) h hn (by omega) (Nat.zero_le _)) hs (by omega)
  exact this
theorem blk_alloc {w : World} {b : Nat} {o o' : Obj} (h : w.heap[b]? = some o) : (w.alloc o').heap[b]? = some o :=
  (((Below.refl w.heap.size w).alloc (Nat.le_refl _) o').block b (lt_of_block h)).trans h
theorem new3 (w : World) (o1 o2 o3 : Obj) : (((w.alloc o1).alloc o2).alloc o3).heap[w.heap.size]? = some o1 ∧ (((w.alloc o1).alloc o2).alloc o3).heap[w.heap.size + 1]? = some o2 ∧ (((w.alloc o1).alloc o2).alloc o3).heap[w.heap.size + 1 + 1]? = some o3 := by
  exact ⟨blk_alloc (blk_alloc (heap_alloc_new w o1)), blk_alloc (by have := heap_alloc_new (w.alloc o1) o2; rwa [World.size_alloc] at this), by have := heap_alloc_new ((w.alloc o1).alloc o2) o3; rwa [World.size_alloc, World.size_alloc] at this⟩
theorem new4 (w : World) (o1 o2 o3 o4 : Obj) : ((((w.alloc o1).alloc o2).alloc o3).alloc o4).heap[w.heap.size]? = some o1 ∧ ((((w.alloc o1).alloc o2).alloc o3).alloc o4).heap[w.heap.size + 1]? = some o2 ∧ ((((w.alloc o1).alloc o2).alloc o3).alloc o4).heap[w.heap.size + 1 + 1]? = some o3 ∧ ((((w.alloc o1).alloc o2).alloc o3).alloc o4).heap[w.heap.size + 1 + 1 + 1]? = some o4 := by
  obtain ⟨h1, h2, h3⟩ := new3 w o1 o2 o3
  exact ⟨blk_alloc h1, blk_alloc h2, blk_alloc h3, by have := heap_alloc_new (((w.alloc o1).alloc o2).alloc o3) o4; rwa [World.size_alloc, World.size_alloc, World.size_alloc] at this⟩
theorem below4 (w : World) (o1 o2 o3 o4 : Obj) : Below w.heap.size w ((((w.alloc o1).alloc o2).alloc o3).alloc o4) := (below3 w o1 o2 o3).alloc (by simp; omega) _
theorem rr_lit2 {W : World} {L n1 n2 c1 c2 : Nat} {a1 a2 : Option Addr} {l1 l2 : List Nat} (hL : W.heap[L]? = some (.cells #[.slice a1 n1 c1, .slice a2 n2 c2] 31 (0, 0))) (r1 : RB W a1 n1 c1 l1) (r2 : RB W a2 n2 c2 l2) :
    RR W (.slice (some ⟨L, 0, none⟩) (2 : Nat) (2 : Nat)) 2 (fun i => if i = 0 then l1 else l2) := by
  refine ⟨_, _, rfl, fun k hk => ?_⟩
  match k, hk with
  | 0, _ => exact ⟨_, 0, _, _, _, rfl, (cell_of_block hL).trans rfl, r1⟩
  | 1, _ => exact ⟨_, 0, _, _, _, rfl, (cell_of_block hL).trans rfl, r2⟩

set_option maxHeartbeats 6000000 in
set_option maxRecDepth 100000 in
theorem wide3 (w : World) : Calls Try.prog 84 #[] w fun e w' => e = .returned (.bool true) ∧ Below w.heap.size w w' := by
  obtain ⟨i0, hi, hz0, hz1, hz2⟩ := info_parts info5
  obtain ⟨i31, hj, hy0, hy1, hy2⟩ := info_parts info31
  go_enter Try.func84, Try.ntmps84
  go_wp2_with fail
  go_loopw [1] (fun i wr => ∃ n : Nat, 254 ≤ n ∧ n ≤ 258 ∧ i = .int .i64 n ∧ Hid (Below w.heap.size w wr)) (fun i _ => 258 - (intOf i).toNat)
  case atStart => exact ⟨254, by omega, by omega, rfl, Below.refl _ _⟩
  case round =>
    obtain ⟨n, hn0, hn1, rfl, HB⟩ := hrel
    by_cases hn2 : n < 258
    · have dn : decide ((n : Int) < 258) = true := by simp; omega
      obtain ⟨W0, e⟩ : ∃ W0, W0 = wr := ⟨_, rfl⟩
      subst e
      go_wp2_with (refine wpList_make_full _ rfl (.tmp 9) (.tmp 9) 51 rfl W0.heap.size 31 i31 (.slice none 0 0) 1 Try.underlying51 hj hy0 hy1 .i64 .i64 _ _ n rfl rfl rfl rfl ?_ ?_ (Nat.le_refl _) ?_)
      · rw [hy2]; omega
      · unfold maxLen; omega
      intro w5 hown5 hg5
      have hB5 : Below W0.heap.size W0 w5 := (Below.refl _ _).grown hg5 (Nat.le_refl _) (fun j e => by cases e)
      have HG := Lib.hid (GridTo.start hown5 (fun _ => 0) (fun _ => 0) (fun _ => []))
      have HB5 := Lib.hid hB5
      clear hown5 hg5 hB5
      go_wp2_with fail
      go_loopw [3] (fun i wr => ∃ k : Nat, k ≤ n ∧ i = .int .i64 k ∧ (∃ p c X, Hid (GridTo wr W0.heap.size (.slice (some ⟨W0.heap.size, 0, none⟩) n n) n k p c X) ∧ Hid (∀ j, j < k → Small (X j) ∧ (X j).length = 2)) ∧ Hid (Below W0.heap.size W0 wr)) (fun i _ => n - (intOf i).toNat)
      case atStart => exact ⟨0, Nat.zero_le _, rfl, ⟨_, _, _, HG, fun j hj => absurd hj (Nat.not_lt_zero j)⟩, HB5⟩
      case round =>
        obtain ⟨k, hk, rfl, ⟨p, c, X, HG, HS⟩, HB2⟩ := hrel
        have hsz : W0.heap.size < wr.heap.size := HG.out.gl.2
        by_cases hk1 : k < n
        · obtain ⟨y, hy, hyl⟩ := u8_some (k : Int)
          obtain ⟨⟨u, hcu⟩, hfz, _, _⟩ := HG.out.slot hk1
          have hA : Below wr.heap.size wr (wr.alloc (.cells #[.int .u8 (y : Nat), .int .u8 (1 : Nat)] 5)) := (Below.refl _ _).alloc (Nat.le_refl _) _
          have hput := (HG.out.below hA).put (l := [y, 1]) (q := wr.heap.size) (d := 2) rfl hk1 (Nat.le_refl _) (own_lit (heap_alloc_new _ _) rfl (by show 2 ≤ _; omega) (by omega)) (fun j hj _ e => by have := HG.out.rowlt hj; omega) rfl
          rw [show max k (k + 1) = k + 1 by omega, World.setCell_alloc_past _ _ _ _ hsz] at hput
          have HG2 := Lib.hid hput
          have HS2 := Lib.hid (show ∀ j, j < k + 1 → Small (if j = k then [y, 1] else X j) ∧ (if j = k then [y, 1] else X j).length = 2 from fun j hj => by
            by_cases e : j = k
            · rw [if_pos e]; exact ⟨Small.of_mem (by simp; omega), rfl⟩
            · rw [if_neg e]; exact HS.out j (by omega))
          have hb3 := HB2.out.trans (((Below.refl W0.heap.size wr).alloc (by omega) (.cells #[.int .u8 (y : Nat), .int .u8 (1 : Nat)] 5)).setCell (p := ⟨W0.heap.size, k, none⟩) (Nat.le_refl _) (.slice (some ⟨wr.heap.size, 0, none⟩) (2 : Nat) (2 : Nat)))
          rw [World.setCell_alloc_past _ _ _ _ hsz] at hb3
          have HB3 := Lib.hid hb3
          clear hput hA HG HS hb3
          go_wp2_with fail
          go_roundw
          case rel => exact ⟨k + 1, by omega, by go_num, ⟨_, _, _, HG2, HS2⟩, HB3⟩
          case measure => simp [intOf]; omega
        · obtain rfl : k = n := by omega
          have HR := Lib.hid (HG.out.rr fun i hi => ⟨(HS.out i hi).1, by rw [(HS.out i hi).2]; omega⟩)
          have HXL := Lib.hid (show ∀ i, i < k → (X i).length = 2 from fun i hi => (HS.out i hi).2)
          clear HG HS
          go_wp2_with fail
          go_cut [4] from 22 to 26 (fun s4 wx => ∃ L q1 q2, s4 = .slice (some ⟨L, 0, none⟩) (2 : Nat) (2 : Nat) ∧ Hid (wx.heap[L]? = some (.cells #[.slice (some ⟨q1, 0, none⟩) k k, .slice (some ⟨q2, 0, none⟩) k k] 31 (0, 0))) ∧ Hid (wx.heap[q1]? = some (.cells (bs (List.replicate k 0)).toArray 5 (0, 0))) ∧ Hid (wx.heap[q2]? = some (.cells (bs (List.replicate k 0)).toArray 5 (0, 0))) ∧ Hid (q1 ≠ q2 ∧ wr.heap.size ≤ L ∧ wr.heap.size ≤ q1 ∧ wr.heap.size ≤ q2) ∧ Hid (Below wr.heap.size wr wx))
          case first =>
            have hmk := fun W => make_zeros (n := k) (by omega) W
            generalize (bs (List.replicate k 0)).toArray = zs at *
            go_region
            all_goals go_wp2_with fail
            all_goals go_meet
            · obtain ⟨h1, h2, h3⟩ := new3 wr (.cells zs 5) (.cells zs 5) (.cells #[.slice (some ⟨wr.heap.size, 0, none⟩) k k, .slice (some ⟨wr.heap.size + 1, 0, none⟩) k k] 31)
              exact ⟨_, _, _, rfl, h3, h1, h2, ⟨by omega, by omega, by omega, by omega⟩, (below3 wr _ _ _).drew⟩
            · obtain ⟨h1, h2, h3⟩ := new3 wr (.cells zs 5) (.cells zs 5) (.cells #[.slice (some ⟨wr.heap.size + 1, 0, none⟩) k k, .slice (some ⟨wr.heap.size, 0, none⟩) k k] 31)
              exact ⟨_, _, _, rfl, h3, h2, h1, ⟨by omega, by omega, by omega, by omega⟩, (below3 wr _ _ _).drew⟩
          case rest =>
            obtain ⟨L, q1, q2, rfl, HL, HQ1, HQ2, HN, HBc⟩ := hcut
            have hc1 : wc.cell? ⟨L, 1, none⟩ = some (.slice (some ⟨q2, 0, none⟩) k k) := (cell_of_block HL.out).trans rfl
            have hx1 : IntKind.i64.wrap ((k : Int) - 1) = ((k - 1 : Nat) : Int) := by rw [show (k : Int) - 1 = ((k - 1 : Nat) : Int) by omega]; exact IntWalk.i64_in _ (by omega)
            obtain ⟨hc2, hf2⟩ := own_cell (n := k) (i := k - 1) (own_lit (B := 0) HQ2.out (by simp) (by omega) (Nat.zero_le _)) (by omega)
            generalize (List.replicate k 0).getD (k - 1) 0 = x0 at hc2
            obtain ⟨hn1, hn2, hn3, hn4⟩ := HN.out
            have hl1 := lt_of_block HQ1.out
            have hl2 := lt_of_block HL.out
            have hneL : q2 ≠ L := fun e => by
              have h1 := HL.out
              rw [← e, HQ2.out] at h1
              injection h1 with h1
              injection h1 with _ h3 _
              exact absurd h3 (by decide)
            have r1 : RB (wc.setCell ⟨q2, k - 1, none⟩ (.int .u8 (1 : Nat))) (some ⟨q1, 0, none⟩) k k (List.replicate k 0) := lit_rb ((heap_setCell_other wc ⟨q2, k - 1, none⟩ q1 _ hn1).trans HQ1.out) (by simp) (by omega) (zeros_small k)
            have r2 : RB (wc.setCell ⟨q2, k - 1, none⟩ (.int .u8 (1 : Nat))) (some ⟨q2, 0, none⟩) k k ((List.replicate k 0).set (k - 1) 1) := own_rb2 (own_set (own_lit (B := 0) HQ2.out (by simp) (by omega) (Nat.zero_le _))) (set_small (zeros_small k) (by omega)) (by omega)
            have hRL := rr_lit2 ((heap_setCell_other wc ⟨q2, k - 1, none⟩ L _ hneL.symm).trans HL.out) r1 r2
            have hBW : Below wr.heap.size wr (wc.setCell ⟨q2, k - 1, none⟩ (.int .u8 (1 : Nat))) := HBc.out.setCell (p := ⟨q2, k - 1, none⟩) hn4 _
            clear r1 r2
            go_upto_region 11 with fail
            obtain ⟨W3, hW3⟩ : ∃ W3, W3 = wc.setCell ⟨q2, k - 1, none⟩ (.int .u8 (1 : Nat)) := ⟨_, rfl⟩
            rw [show wc.setCell ⟨q2, k - 1, none⟩ (.int .u8 1) = W3 from hW3.symm]
            rw [← hW3] at hRL hBW
            clear hW3 hc1 hc2 hf2 hx1
            have HRT := Lib.hid (HR.out.below hBW)
            have HRL := Lib.hid hRL
            have HB3 := Lib.hid (HB2.out.trans (hBW.mono (by omega)))
            have hmk := fun W => make_zeros (n := k) (by omega) W
            have HZS := Lib.hid fun (W : World) => lit_rb (n := k) (heap_alloc_new W (.cells (bs (List.replicate k 0)).toArray 5)) (by simp) (by omega) (zeros_small k)
            obtain ⟨bb, hbb⟩ : ∃ bb, bb = decide (k ≤ 255) := ⟨_, rfl⟩
            have q3 : decide ((k : Int) ≤ 255) = bb := by rw [hbb]; simp; omega
            have HRG := Lib.hid fun (W : World) (hW : Below W3.heap.size W3 W) => Right_any (by omega) (HRT.out.below hW)
            clear hRL hBW HL HQ1 HQ2 HN HBc HR HB2
            have k5 := Lib.hid (show Calls Try.prog 17 #[.slice (some ⟨W0.heap.size, 0, none⟩) k k, .slice (some ⟨W3.heap.size + 1 + 1, 0, none⟩) (2 : Nat) (2 : Nat), .slice (some ⟨W3.heap.size + 1 + 1 + 1, 0, none⟩) (2 : Nat) (2 : Nat), .int .i64 k]
              ((((W3.alloc (.cells #[.int .u8 (1 : Nat)] 5)).alloc (.cells #[.int .u8 (2 : Nat)] 5)).alloc (.cells #[.slice (some ⟨W3.heap.size, 0, none⟩) (1 : Nat) (1 : Nat), .slice (some ⟨W3.heap.size + 1, 0, none⟩) (1 : Nat) (1 : Nat)] 31)).alloc (.cells #[.int .u8 (3 : Nat), .int .u8 (4 : Nat)] 5))
              (fun e w' => e = .returned (.bool true) ∧ Below W3.heap.size W3 w') from by
                obtain ⟨h1, h2, h3, h4⟩ := new4 W3 (.cells #[.int .u8 (1 : Nat)] 5) (.cells #[.int .u8 (2 : Nat)] 5) (.cells #[.slice (some ⟨W3.heap.size, 0, none⟩) (1 : Nat) (1 : Nat), .slice (some ⟨W3.heap.size + 1, 0, none⟩) (1 : Nat) (1 : Nat)] 31) (.cells #[.int .u8 (3 : Nat), .int .u8 (4 : Nat)] 5)
                have hb := below4 W3 (.cells #[.int .u8 (1 : Nat)] 5) (.cells #[.int .u8 (2 : Nat)] 5) (.cells #[.slice (some ⟨W3.heap.size, 0, none⟩) (1 : Nat) (1 : Nat), .slice (some ⟨W3.heap.size + 1, 0, none⟩) (1 : Nat) (1 : Nat)] 31) (.cells #[.int .u8 (3 : Nat), .int .u8 (4 : Nat)] 5)
                refine (rdo_any k (by omega) (by omega) (HRT.out.below hb) (rr_lit2 h3 (lit_rb (n := 1) (l := [1]) h1 rfl (by omega) (Small.of_mem (by simp))) (lit_rb (n := 1) (l := [2]) h2 rfl (by omega) (Small.of_mem (by simp)))) (lit_rb (n := 2) (l := [3, 4]) h4 rfl (by omega) (Small.of_mem (by simp)))).mono ?_
                rintro e w' ⟨h5, h6⟩
                exact ⟨h5, hb.trans (h6.mono hb.size)⟩)
            go_wp2_with fail
            refine k5.out.mono ?_
            rintro e w5 ⟨rfl, hB5⟩
            have HB5 := Lib.hid hB5
            clear hB5 k5
            go_wp2_with fail
            have hb6 : Below w5.heap.size w5 (w5.alloc (.cells (bs (List.replicate k 0)).toArray 5)) := (Below.refl _ _).alloc (Nat.le_refl _) _
            refine (rdo_any 0 (by omega) (by omega) ((HRL.out.below HB5.out).below (hb6.mono (Nat.le_refl _))) (rr_none _ (fun _ => [])) (HZS.out w5)).mono ?_
            rintro e w6 ⟨rfl, hB6⟩
            have HB6 := Lib.hid (HB5.out.trans ((hb6.trans (hB6.mono hb6.size)).mono HB5.out.size))
            clear hB6 hb6 HB5 HRL HZS
            have hq4 : decide (isM k X) = bb := by
              rw [hbb]
              by_cases h9 : k ≤ 255
              · rw [decide_eq_true h9]
                exact decide_eq_true (isM_of (W := 2) h9 (by omega) (fun i hi => HXL.out i hi) (by omega)).1
              · rw [decide_eq_false h9]
                exact decide_eq_false fun h => h9 h.1
            have k7 := HRG.out w6 HB6.out
            rw [hq4] at k7
            have HK7 := Lib.hid k7
            have HB7 := Lib.hid (HB.out.trans ((HB3.out.trans (HB6.out.mono (HB3.out.size))).mono HB.out.size))
            clear hq4 k7 HRG hbb
            go_wp2_with fail
            refine HK7.out.mono ?_
            rintro e w7 ⟨rfl, rfl⟩
            clear HK7
            cases bb
            · go_wp2_with fail
              go_roundw
              case rel => exact ⟨k + 1, by omega, by omega, by go_num, HB7⟩
              case measure => simp [intOf]; omega
            · go_wp2_with fail
              go_roundw
              case rel => exact ⟨k + 1, by omega, by omega, by go_num, HB7⟩
              case measure => simp [intOf]; omega
    · obtain rfl : n = 258 := by omega
      go_wp2_with fail
      go_ret
      exact ⟨rfl, HB.out⟩
end Go.Proofs.Ytokeoodkioobdaa
