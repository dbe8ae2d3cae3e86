/- Regions that draw their order: reads that may come late, past an operation that makes memory; then a tail that waits for all. No condition beyond each law's own. -/
import Derived.Test.YtfojhmobnedekaaDoorLies
import Derived.OrdersHeld
namespace Go.Proofs.YtfojhmobnedekaaDoor
open Go.RowKit

section
variable {P : Program} {ops : Array Oper} {md : Region.Mode} {S : World → Prop}
/-- Kinds of operations that read at most. -/
def plainOp (o : Oper) : Bool := match o.op with
  | .move _ | .assign _ | .load _ _ | .build _ _ | .fieldAddr _ _ _ | .indexAddr _ _ _ | .binOp _ _ _ _ _ | .nilCheck _ | .index _ _ _ | .unOp _ _ _ | .field _ _ _ | .slice _ _ _ _ _ | .pick _ _ _ => true
  | _ => false
theorem value_only {α : Type} {s : Sem α} {k : α → Value} {w w' : World} {n : Next} (h : (do pure (Next.value (k (← s))) : Sem Next).run P w = .ok n w') : ∃ u, n = .value u := by
  simp only [Sem.run_bind, Sem.run_pure] at h
  cases hs : s.run P w <;> rw [hs] at h <;> simp [Result.andThen] at h
  exact ⟨_, h.1.symm⟩
theorem pick_only {s : Sem Bool} {a b : Value} {w w' : World} {n : Next} (h : (do pure (Next.value (if ← s then a else b)) : Sem Next).run P w = .ok n w') : ∃ u, n = .value u := by
  simp only [Sem.run_bind, Sem.run_pure] at h
  cases hs : s.run P w <;> rw [hs] at h <;> simp [Result.andThen] at h
  exact ⟨_, h.1.symm⟩
theorem plain_value {ρ : Operand → Value} {o : Oper} {w w' : World} {n : Next} (h : plainOp o = true) (h2 : (execOp ρ o).run P w = .ok n w') : ∃ u, n = .value u := by
  unfold plainOp at h
  unfold execOp at h2
  split at h
  all_goals try (rename_i he; simp only [he] at h2; first | exact value_only (k := id) h2 | exact pick_only h2 | (simp at h2; exact ⟨_, h2.1.symm⟩))
  all_goals try (cases h; done)
  rename_i x he
  simp only [he] at h2
  clear he h
  split at h2
  · simp [runtimePanic, goPanic] at h2
  · simp [runtimePanic, goPanic] at h2
  · simp [runtimePanic, goPanic] at h2
  · split at h2
    · simp [runtimePanic, goPanic] at h2
    · rename_i t v _
      simp only [Sem.run_bind] at h2
      generalize hg : Sem.run P program w = r at h2
      cases r with
      | halt x w1 => simp [Result.andThen] at h2
      | ok p w1 =>
        simp only [Result.andThen] at h2
        generalize hg2 : Sem.run P (nilAhead _ _ _ _) w1 = r2 at h2
        cases r2 with
        | halt x w2 => simp at h2
        | ok q w2 =>
          simp only [] at h2
          split at h2
          · simp [unsupported, Result.andThen] at h2
          · simp at h2; exact ⟨_, h2.1.symm⟩
    · simp at h2; exact ⟨_, h2.1.symm⟩
  · simp at h2; exact ⟨_, h2.1.symm⟩
/-- A plain operation that yields in a class of worlds yields there, and leaves the world alone. -/
theorem yieldsIf_of {o : Oper} {v : Value} {a : Act} (hp : plainOp o = true) (h : YieldsIn P ops S o v a) : YieldsIf P ops S o v a := by
  rcases h with ⟨hw, h⟩ | h
  · refine .inl ⟨hw, fun w hS => ?_⟩
    have h1 := h w hS
    unfold Oper.quietAt at h1
    cases hr : (execOp a.eval o).run P w with
    | halt x w' => rw [hr] at h1; exact h1.elim
    | ok n w' =>
      obtain ⟨u, rfl⟩ := plain_value hp hr
      rw [hr] at h1
      obtain ⟨rfl, rfl⟩ := h1
      rfl
  · exact .inr h
/-- Operation number 'i' yields a value. -/
def stepL (P : Program) (ops : Array Oper) (i : Nat) (K : Act → World → Prop) (a : Act) (w : World) : Prop :=
  ∃ o, ops[i]? = some o ∧ ((Region.wanted o (yielded ops a.tmps) = true ∧ ∃ v w', (execOp a.eval o).run P w = .ok (.value v) w' ∧ K (a.put o.dst v) w') ∨ (Region.wanted o (yielded ops a.tmps) = false ∧ K (a.put o.dst undef) w))
theorem stepL_mono {i : Nat} {K K' : Act → World → Prop} {a : Act} {w : World} (h : ∀ a w, K a w → K' a w) (hh : stepL P ops i K a w) : stepL P ops i K' a w := by
  obtain ⟨o, ho, h1 | h1⟩ := hh
  · obtain ⟨hw, v, w', hr, hK⟩ := h1; exact ⟨o, ho, .inl ⟨hw, v, w', hr, h _ _ hK⟩⟩
  · exact ⟨o, ho, .inr ⟨h1.1, h _ _ h1.2⟩⟩
theorem stepL_of {i : Nat} {o : Oper} {v : Value} {a : Act} {w : World} {K : Act → World → Prop} (hi : ops[i]? = some o) (hy : YieldsIf P ops S o v a) (hS : S w) (h : K (a.put o.dst v) w) : stepL P ops i K a w := by
  rcases hy with ⟨hw, hv⟩ | ⟨hw, rfl⟩
  · exact ⟨o, hi, .inl ⟨hw, v, w, hv w hS, h⟩⟩
  · exact ⟨o, hi, .inr ⟨hw, h⟩⟩
theorem stepL_put {j : Nat} {oi oj : Oper} {v : Value} (hj : ops[j]? = some oj) (hap : oi.apart ops oj = true) (hsi : ∀ cs b, oi.op ≠ .select cs b) (hsj : ∀ cs b, oj.op ≠ .select cs b) {K : Act → World → Prop} {a : Act} {w : World}
    (hy : YieldsIf P ops S oi v a) (h : stepL P ops j K (a.put oi.dst v) w) : stepL P ops j (fun a' w' => YieldsIf P ops S oi v a' ∧ K (a'.put oi.dst v) w') a w := by
  obtain ⟨h1, h2, h3⟩ := Oper.apart_spec hap
  have keep : ∀ (a : Act), YieldsIf P ops S oi v a → ∀ u, YieldsIf P ops S oi v (a.put oj.dst u) := fun a hy u => hy.of_same (execOp_put oi hsi a oj.dst u h3) (wanted_put oi a oj.dst u h3)
  obtain ⟨o, ho, h⟩ := h
  obtain rfl : o = oj := Option.some.inj (ho.symm.trans hj)
  rw [wanted_put o a oi.dst v h1, execOp_put o hsj a oi.dst v h1] at h
  rcases h with ⟨hw, u, w', hr, hK⟩ | ⟨hw, hK⟩
  · exact ⟨o, hj, .inl ⟨hw, u, w', hr, keep a hy u, by rw [← Act.put_comm a v u h2]; exact hK⟩⟩
  · exact ⟨o, hj, .inr ⟨hw, keep a hy _, by rw [← Act.put_comm a v undef h2]; exact hK⟩⟩
/-- f operations below n come up, each yields a value; then L. -/
def lateQ (P : Program) (md : Region.Mode) (ops : Array Oper) (S : World → Prop) (n : Nat) (L : Array Bool → Act → World → Prop) : Nat → Array Bool → Act → World → Prop
  | 0, listed, a, w => L listed a w
  | f + 1, listed, a, w => Region.ready md ops listed ≠ [] ∧ ∀ i ∈ Region.ready md ops listed, i < n ∧ stepL P ops i (fun a' w' => S w' ∧ lateQ P md ops S n L f (listed.setIfInBounds i true) a' w') a w
theorem lateQ_first {n i : Nat} {oi : Oper} {v : Value} {L : Array Bool → Act → World → Prop} (hi : ops[i]? = some oi) (hsel : ∀ (j : Nat) (o : Oper) cs b, ops[j]? = some o → o.op ≠ .select cs b)
    (hs : Region.sinkB md ops n = true) (hc : Region.chainB md ops n = true) (hn : n < ops.size) (hin : i < n)
    (hdone : ∀ listed a w, L listed a w → ∀ j ∈ Region.ready md ops listed, n ≤ j) :
    ∀ (f : Nat) (listed : Array Bool) (a : Act) (w : World), HeadInv md ops n listed →
      (∀ j oj, ops[j]? = some oj → j ≠ i → listed.getD j true = false → (∀ e ∈ oj.after, Region.binds md e = true → e.on ≠ i) → oi.apart ops oj = true) →
      i ∈ Region.ready md ops listed → YieldsIf P ops S oi v a → S w →
      lateQ P md ops S n L f (listed.setIfInBounds i true) (a.put oi.dst v) w → lateQ P md ops S n L (f + 1) listed a w
  | 0, listed, a, w, inv, _, hr, hy, hS, H => by
    have hun := (mem_ready.1 hr).1
    refine ⟨fun h => (by rw [h] at hr; cases hr), fun j hj => ?_⟩
    have hjn := headQ_below hs hc hn inv hin hun hj
    by_cases hji : j = i
    · subst hji; exact ⟨hjn, stepL_of hi hy hS ⟨hS, H⟩⟩
    · exact absurd (hdone _ _ _ H j (ready_mono hj hji)) (by omega)
  | f + 1, listed, a, w, inv, hfree, hr, hy, hS, H => by
    have hun := (mem_ready.1 hr).1
    refine ⟨fun h => (by rw [h] at hr; cases hr), fun j hj => ?_⟩
    have hjn := headQ_below hs hc hn inv hin hun hj
    refine ⟨hjn, ?_⟩
    by_cases hji : j = i
    · subst hji; exact stepL_of hi hy hS ⟨hS, H⟩
    · obtain ⟨hjun, oj, hoj, hall⟩ := mem_ready.1 hj
      have hnot : ∀ e ∈ oj.after, Region.binds md e = true → e.on ≠ i := fun e he hb heq => by
        have h1 := hall e he hb
        rw [heq, getD_both hun] at h1
        cases h1
      have h2 := stepL_put hoj (hfree j oj hoj hji hjun hnot) (fun cs b => hsel i oi cs b hi) (fun cs b => hsel j oj cs b hoj) hy (H.2 j (ready_mono hj hji)).2
      refine stepL_mono (fun a' w' h3 => ⟨h3.2.1, lateQ_first hi hsel hs hc hn hin hdone f (listed.setIfInBounds j true) a' w' (inv.set hj hjn) (fun k ok hk hki hk2 hno => hfree k ok hk hki ?_ hno) (ready_mono hr (Ne.symm hji)) h3.1 h3.2.1 ?_⟩) h2
      · by_cases hjk : j = k
        · subst hjk; exact hjun
        · rw [getD_set_ne true hjk] at hk2; exact hk2
      · rw [Array.setIfInBounds_comm _ _ hji]
        exact h3.2.2
theorem lateQ_lex {n g : Nat} {Lq : Act → Prop} {L : Array Bool → Act → World → Prop} (hsel : Region.noSelect ops = true) (hs : Region.sinkB md ops n = true) (hc : Region.chainB md ops n = true) (hn : n < ops.size) (hdone : ∀ listed a w, L listed a w → ∀ j ∈ Region.ready md ops listed, n ≤ j)
    (hb : ∀ (listed : Array Bool) a w, Region.seqB md ops (g + 1) (n - 1) listed = true → S w → Lq a → lateQ P md ops S n L 1 listed a w) :
    ∀ (l : List Oper) (k : Nat) (listed : Array Bool) (a : Act) (w : World), (∀ j, j < l.length → l[j]? = ops[k + j]?) → (∀ o ∈ l, plainOp o = true) → k + l.length = n - 1 → 1 ≤ n → HeadInv md ops n listed →
    Region.lexHead md ops (g + 1) l.length k listed = true → S w → wpQuiet P ops S Lq l a → lateQ P md ops S n L (l.length + 1) listed a w
  | [], k, listed, a, w, _, _, hk, _, _, hB, hS, h => by
    obtain rfl : k = n - 1 := by simpa using hk
    exact hb listed a w (by simpa [Region.lexHead] using hB) hS h
  | o :: l, k, listed, a, w, hl, hp, hk, h1, inv, hB, hS, h => by
    have h0 : ops[k]? = some o := by simpa using (hl 0 (by simp)).symm
    simp only [List.length_cons, Region.lexHead, Bool.and_eq_true] at hB
    obtain ⟨⟨hr, hf⟩, hB'⟩ := hB
    have hkn : k < n := by simp only [List.length_cons] at hk; omega
    have hr' : k ∈ Region.ready md ops listed := by simpa using hr
    have hst : qOp P ops S k (wpQuiet P ops S Lq l) a := by unfold qOp; simp only [h0]; exact h
    obtain ⟨v, hy, hK⟩ := yieldsIn_of_qOp h0 hst
    exact lateQ_first h0 (Region.noSelect_spec hsel) hs hc hn hkn hdone (l.length + 1) listed a w inv (Region.free_spec h0 hf) hr' (yieldsIf_of (hp o (by simp)) hy) hS
      (lateQ_lex hsel hs hc hn hdone hb l (k + 1) _ _ w (fun j hj => by have := hl (j + 1) (by simp; omega); simpa [Nat.add_assoc, Nat.add_comm 1 j] using this) (fun o' ho' => hp o' (by simp [ho'])) (by simp only [List.length_cons] at hk; omega) h1 (inv.set hr' hkn) hB' hS hK)
variable {r m : Nat}
theorem opIn_of_step {i : Nat} {a : Act} {w : World} {K K' : Act → World → Prop} {Q' : Exit → Act → World → Prop} (hd : noDefers ops = true) (h : ∀ a w, K a w → K' a w) (hh : stepL P ops i K a w) : wpOpIn (Fence.wide.inRound r) m P ops Q' i K' a w := by
  obtain ⟨o, ho, hh⟩ := hh
  unfold wpOpIn
  simp only [ho]
  rcases hh with ⟨hw, v, w', hr, hK⟩ | ⟨hw, hK⟩
  · simp only [hw, if_true]
    refine ⟨fun _ _ => trivial, ?_⟩
    rw [Oper.semAt_eq _ _ _ (noDefers_at hd ho), hr]
    exact h _ _ hK
  · simp only [hw]
    exact ⟨fun _ _ => trivial, h _ _ hK⟩
theorem anyIn_of_late {n g : Nat} {L : Array Bool → Act → World → Prop} {Q' : Exit → Act → World → Prop} (hd : noDefers ops = true) (hL : ∀ listed a w, L listed a w → wpAnyIn (Fence.wide.inRound r) m P md ops Q' g listed a w) :
    ∀ (f : Nat) (listed : Array Bool) (a : Act) (w : World), lateQ P md ops S n L f listed a w → wpAnyIn (Fence.wide.inRound r) m P md ops Q' (f + g) listed a w
  | 0, listed, a, w, h => by rw [Nat.zero_add]; exact hL _ _ _ h
  | f + 1, listed, a, w, h => by
    rw [show f + 1 + g = (f + g) + 1 by omega]
    exact ⟨fun h0 => absurd h0 h.1, fun i hi => opIn_of_step hd (fun a' w' h' => anyIn_of_late hd hL f _ a' w' h'.2) (h.2 i hi).2⟩
/-- What the kernel asks of such a region: n reads, an operation that makes memory, a tail. -/
def lateB (l : List Oper) (n : Nat) : Bool :=
  Region.noSelect l.toArray && decide (n + 1 < l.length) && Region.sinkB .any l.toArray (n + 1) && Region.chainB .any l.toArray (n + 1) && Region.lexHead .any l.toArray (l.length - (n + 1) + 1) n 0 (Array.replicate l.length false) && (l.take n).all plainOp && noDefers l.toArray
/-- Reads (some of which may come late), an operation that makes memory, then a tail: within a round. -/
theorem round_late {id : Nat} {Q : Exit → Act → World → Prop} {a : Act} {w : World} {l : List Oper} {o : Oper} (n : Nat) (hm : P.follows .mixedOrders = true) (hB : lateB l n = true) (ho : l[n]? = some o) (hg : o.guard = none)
    (h : wpQuiet P l.toArray (fun w' => ∃ x : Lies w, w' = x.1) (fun a' => ∀ w', (∃ x : Lies w, w' = x.1) → ∃ v w'', (execOp a'.eval o).run P w' = .ok (.value v) w'' ∧ (∃ x : Lies w, w'' = x.1) ∧ wpListIn (Fence.wide.inRound r) m P l.toArray Q (l.drop (n + 1)) (a'.put o.dst v) w'') (l.take n) a) : (Code.region id l.toArray true).wpIn (Fence.wide.inRound r) m P Q a w := by
  simp only [lateB, Bool.and_eq_true, decide_eq_true_eq] at hB
  obtain ⟨⟨⟨⟨⟨⟨hsel, hn⟩, hs⟩, hc⟩, hlex⟩, hp⟩, hd⟩ := hB
  have htl : (l.take n).length = n := by simp; omega
  have inv0 : HeadInv .any l.toArray (n + 1) (Array.replicate l.length false) :=
    ⟨by simp, fun j oj _ hl => (by rw [getD_replicate_false] at hl; cases hl), fun t _ ht => getD_in (by simpa using ht) (getD_replicate_false _ _)⟩
  have H := lateQ_lex (md := .any) (P := P) (S := fun w' => ∃ x : Lies w, w' = x.1) (g := l.length - (n + 1)) (L := fun listed' a' w' => Region.seqB .any l.toArray (l.length - (n + 1)) (n + 1) listed' = true ∧ wpListIn (Fence.wide.inRound r) m P l.toArray Q (l.drop (n + 1)) a' w')
    hsel hs hc (by simpa using hn) (fun listed a w hL => seqB_ready hL.1)
    (fun listed a' w' hsq hS hq => by
      simp only [Region.seqB, Bool.and_eq_true, decide_eq_true_eq, Nat.add_sub_cancel] at hsq
      refine ⟨fun h0 => (by rw [hsq.1] at h0; cases h0), fun i hi => ?_⟩
      rw [hsq.1] at hi
      obtain rfl : i = n := by simpa using hi
      obtain ⟨v, w'', hr, hS2, hK⟩ := hq w' hS
      exact ⟨by omega, o, by simpa using ho, .inl ⟨by simp [Region.wanted, hg], v, w'', hr, hS2, hsq.2, hK⟩⟩)
    (l.take n) 0 (Array.replicate l.length false) a w.drew (fun j hj => by
      have hj' : j < n := by rw [htl] at hj; exact hj
      simp [hj']) (fun o' ho' => List.all_eq_true.1 hp o' ho') (by rw [htl]; simp) (by omega) inv0 (by rw [htl]; exact hlex) ⟨⟨_, below_drewN (Below.refl _ _) 1⟩, rfl⟩ h
  rw [htl] at H
  refine wpIn_region_any hm ?_
  have := anyIn_of_late (r := r) (m := m) (Q' := Q) (g := l.length - (n + 1)) hd (fun listed a' w' hL => by
    have := anyIn_of_seq (md := .any) (F := Fence.wide.inRound r) (m := m) (Q' := Q) (l.drop (n + 1)) (n + 1) listed a' w' (fun j => by simp [List.getElem?_drop]) (by rw [List.length_drop]; exact hL.1) hL.2
    rwa [List.length_drop] at this) _ _ _ _ H
  rw [show n + 1 + (l.length - (n + 1)) = l.length by omega] at this
  simpa using this
end
end Go.Proofs.YtfojhmobnedekaaDoor
