/- Regions that draw their order, walked in one order: reads first, whenever they may come up; what makes memory or calls, one by one; then a tail that waits for all. No condition beyond each law's own. -/
import Derived.Test.YtfojhmobnedekaaLies
import Derived.OrdersHeld
namespace Go.Proofs.Ytfojhmobnedekaa
open Go.RowKit

section
variable {P : Program} {ops : Array Oper} {md : Region.Mode} {S : World → Prop}
/-- Kinds of operations that read at most. -/
def plainOp (o : Oper) : Bool := match o.op with
  | .move _ | .assign _ | .load _ _ | .build _ _ | .fieldAddr _ _ _ | .indexAddr _ _ _ | .binOp _ _ _ _ _ | .nilCheck _ | .index _ _ _ | .unOp _ _ _ | .field _ _ _ | .slice _ _ _ _ _ | .pick _ _ _ => true
  | _ => false
theorem value_only {α : Type} {s : Sem α} {k : α → Value} {w w' : World} {n : Next} (h : (do pure (Next.value (k (← s))) : Sem Next).run P w = .ok n w') : ∃ u, n = .value u := by
  simp only [Sem.run_bind, Sem.run_pure] at h
  cases hs : s.run P w <;> rw [hs] at h <;> simp [Result.andThen] at h
  exact ⟨_, h.1.symm⟩
theorem pick_only {s : Sem Bool} {a b : Value} {w w' : World} {n : Next} (h : (do pure (Next.value (if ← s then a else b)) : Sem Next).run P w = .ok n w') : ∃ u, n = .value u := by
  simp only [Sem.run_bind, Sem.run_pure] at h
  cases hs : s.run P w <;> rw [hs] at h <;> simp [Result.andThen] at h
  exact ⟨_, h.1.symm⟩
theorem plain_value {ρ : Operand → Value} {o : Oper} {w w' : World} {n : Next} (h : plainOp o = true) (h2 : (execOp ρ o).run P w = .ok n w') : ∃ u, n = .value u := by
  unfold plainOp at h
  unfold execOp at h2
  split at h
  all_goals try (rename_i he; simp only [he] at h2; first | exact value_only (k := id) h2 | exact pick_only h2 | (simp at h2; exact ⟨_, h2.1.symm⟩))
  all_goals try (cases h; done)
  rename_i x he
  simp only [he] at h2
  clear he h
  split at h2
  · simp [runtimePanic, goPanic] at h2
  · simp [runtimePanic, goPanic] at h2
  · simp [runtimePanic, goPanic] at h2
  · split at h2
    · simp [runtimePanic, goPanic] at h2
    · rename_i t v _
      simp only [Sem.run_bind] at h2
      generalize hg : Sem.run P program w = r at h2
      cases r with
      | halt x w1 => simp [Result.andThen] at h2
      | ok p w1 =>
        simp only [Result.andThen] at h2
        generalize hg2 : Sem.run P (nilAhead _ _ _ _) w1 = r2 at h2
        cases r2 with
        | halt x w2 => simp at h2
        | ok q w2 =>
          simp only [] at h2
          split at h2
          · simp [unsupported, Result.andThen] at h2
          · simp at h2; exact ⟨_, h2.1.symm⟩
    · simp at h2; exact ⟨_, h2.1.symm⟩
  · simp at h2; exact ⟨_, h2.1.symm⟩
/-- A plain operation that yields in a class of worlds yields there, and leaves the world alone. -/
theorem yieldsIf_of {o : Oper} {v : Value} {a : Act} (hp : plainOp o = true) (h : YieldsIn P ops S o v a) : YieldsIf P ops S o v a := by
  rcases h with ⟨hw, h⟩ | h
  · refine .inl ⟨hw, fun w hS => ?_⟩
    have h1 := h w hS
    unfold Oper.quietAt at h1
    cases hr : (execOp a.eval o).run P w with
    | halt x w' => rw [hr] at h1; exact h1.elim
    | ok n w' =>
      obtain ⟨u, rfl⟩ := plain_value hp hr
      rw [hr] at h1
      obtain ⟨rfl, rfl⟩ := h1
      rfl
  · exact .inr h
variable {R : Act → World → Prop}
/-- What an operation hands on: a value, or a call's. -/
def mvN (P : Program) (K : Act → World → Prop) (a : Act) (d : Option Tmp) : Next → World → Prop
  | .value v, w => K (a.put d v) w
  | .skip, w => K (a.put d undef) w
  | .enter f args, w => Calls P f args w fun e w' => ∃ v, e = .returned v ∧ K (a.put d v) w'
  | _, _ => False
/-- Number i comes up: it is passed over, or it hands on. -/
def mvP (P : Program) (ops : Array Oper) (i : Nat) (K : Act → World → Prop) (a : Act) (w : World) : Prop :=
  ∃ o, ops[i]? = some o ∧ ((Region.wanted o (yielded ops a.tmps) = true ∧ ∃ nx w', (execOp a.eval o).run P w = .ok nx w' ∧ mvN P K a o.dst nx w') ∨ (Region.wanted o (yielded ops a.tmps) = false ∧ K (a.put o.dst undef) w))
theorem mvN_mono {K K' : Act → World → Prop} {a : Act} {d : Option Tmp} {nx : Next} {w : World} (h : ∀ a w, K a w → K' a w) (hh : mvN P K a d nx w) : mvN P K' a d nx w := by
  cases nx <;> simp only [mvN] at hh ⊢
  case value => exact h _ _ hh
  case skip => exact h _ _ hh
  case enter => exact hh.mono fun e w' ⟨v, he, hK⟩ => ⟨v, he, h _ _ hK⟩
theorem mvP_mono {i : Nat} {K K' : Act → World → Prop} {a : Act} {w : World} (h : ∀ a w, K a w → K' a w) (hh : mvP P ops i K a w) : mvP P ops i K' a w := by
  obtain ⟨o, ho, h1 | h1⟩ := hh
  · obtain ⟨hw, nx, w', hr, hK⟩ := h1; exact ⟨o, ho, .inl ⟨hw, nx, w', hr, mvN_mono h hK⟩⟩
  · exact ⟨o, ho, .inr ⟨h1.1, h _ _ h1.2⟩⟩
theorem mvP_of {i : Nat} {o : Oper} {v : Value} {a : Act} {w : World} {K : Act → World → Prop} (hi : ops[i]? = some o) (hy : YieldsIf P ops S o v a) (hS : S w) (h : K (a.put o.dst v) w) : mvP P ops i K a w := by
  rcases hy with ⟨hw, hv⟩ | ⟨hw, rfl⟩
  · exact ⟨o, hi, .inl ⟨hw, _, w, hv w hS, h⟩⟩
  · exact ⟨o, hi, .inr ⟨hw, h⟩⟩
theorem mvP_put {j : Nat} {oi oj : Oper} {v : Value} (hj : ops[j]? = some oj) (hap : oi.apart ops oj = true) (hsi : ∀ cs b, oi.op ≠ .select cs b) (hsj : ∀ cs b, oj.op ≠ .select cs b) {K : Act → World → Prop} {a : Act} {w : World}
    (hy : YieldsIf P ops S oi v a) (h : mvP P ops j K (a.put oi.dst v) w) : mvP P ops j (fun a' w' => YieldsIf P ops S oi v a' ∧ K (a'.put oi.dst v) w') a w := by
  obtain ⟨h1, h2, h3⟩ := Oper.apart_spec hap
  have keep : ∀ (a : Act), YieldsIf P ops S oi v a → ∀ u, YieldsIf P ops S oi v (a.put oj.dst u) := fun a hy u => hy.of_same (execOp_put oi hsi a oj.dst u h3) (wanted_put oi a oj.dst u h3)
  obtain ⟨o, ho, h⟩ := h
  obtain rfl : o = oj := Option.some.inj (ho.symm.trans hj)
  rw [wanted_put o a oi.dst v h1, execOp_put o hsj a oi.dst v h1] at h
  rcases h with ⟨hw, nx, w', hr, hK⟩ | ⟨hw, hK⟩
  · refine ⟨o, hj, .inl ⟨hw, nx, w', hr, ?_⟩⟩
    cases nx <;> simp only [mvN] at hK ⊢
    case value u => exact ⟨keep a hy u, by rw [← Act.put_comm a v u h2]; exact hK⟩
    case skip => exact ⟨keep a hy _, by rw [← Act.put_comm a v undef h2]; exact hK⟩
    case enter f args => exact hK.mono fun e w'' ⟨u, he, hk⟩ => ⟨u, he, keep a hy u, by rw [← Act.put_comm a v u h2]; exact hk⟩
  · exact ⟨o, hj, .inr ⟨hw, keep a hy _, by rw [← Act.put_comm a v undef h2]; exact hK⟩⟩
/-- Whatever order is picked from here on; S holds behind each. -/
def anyM (P : Program) (md : Region.Mode) (ops : Array Oper) (S : World → Prop) (R : Act → World → Prop) : Nat → Array Bool → Act → World → Prop
  | 0, listed, a, w => Region.ready md ops listed = [] ∧ R a w
  | f + 1, listed, a, w => (Region.ready md ops listed = [] → R a w) ∧ ∀ i ∈ Region.ready md ops listed, mvP P ops i (fun a' w' => S w' ∧ anyM P md ops S R f (listed.setIfInBounds i true) a' w') a w
theorem anyM_first {i : Nat} {oi : Oper} {v : Value} (hi : ops[i]? = some oi) (hsel : ∀ (j : Nat) (o : Oper) cs b, ops[j]? = some o → o.op ≠ .select cs b) :
    ∀ (f : Nat) (listed : Array Bool) (a : Act) (w : World),
      (∀ j oj, ops[j]? = some oj → j ≠ i → listed.getD j true = false → (∀ e ∈ oj.after, Region.binds md e = true → e.on ≠ i) → oi.apart ops oj = true) →
      i ∈ Region.ready md ops listed → YieldsIf P ops S oi v a → S w →
      anyM P md ops S R f (listed.setIfInBounds i true) (a.put oi.dst v) w → anyM P md ops S R (f + 1) listed a w
  | 0, listed, a, w, _, hr, hy, hS, H => by
    refine ⟨fun h => (by rw [h] at hr; cases hr), fun j hj => ?_⟩
    by_cases hji : j = i
    · subst hji; exact mvP_of hi hy hS ⟨hS, H⟩
    · have := ready_mono hj hji
      rw [H.1] at this
      cases this
  | f + 1, listed, a, w, hfree, hr, hy, hS, H => by
    refine ⟨fun h => (by rw [h] at hr; cases hr), fun j hj => ?_⟩
    by_cases hji : j = i
    · subst hji; exact mvP_of hi hy hS ⟨hS, H⟩
    · have h1 := H.2 j (ready_mono hj hji)
      obtain ⟨hjun, oj, hoj, hall⟩ := mem_ready.1 hj
      have hnot : ∀ e ∈ oj.after, Region.binds md e = true → e.on ≠ i := fun e he hb heq => by
        have h1 := hall e he hb
        rw [heq, getD_both (mem_ready.1 hr).1] at h1
        cases h1
      have h2 := mvP_put hoj (hfree j oj hoj hji hjun hnot) (fun cs b => hsel i oi cs b hi) (fun cs b => hsel j oj cs b hoj) hy h1
      refine mvP_mono (fun a' w' h3 => ⟨h3.2.1, anyM_first hi hsel f (listed.setIfInBounds j true) a' w' (fun k ok hk hki hk2 hno => hfree k ok hk hki ?_ hno) (ready_mono hr (Ne.symm hji)) h3.1 h3.2.1 ?_⟩) h2
      · by_cases hjk : j = k
        · subst hjk; exact hjun
        · rw [getD_set_ne true hjk] at hk2; exact hk2
      · rw [Array.setIfInBounds_comm _ _ hji]
        exact h3.2.2
def setL (listed : Array Bool) : List Nat → Array Bool
  | [] => listed
  | i :: seg => setL (listed.setIfInBounds i true) seg
def pickL (ops : Array Oper) (seg : List Nat) : List Oper := seg.filterMap fun i => ops[i]?
def plainAt (ops : Array Oper) (i : Nat) : Bool := match ops[i]? with | some o => plainOp o | none => false
def segB (md : Region.Mode) (ops : Array Oper) : List Nat → Array Bool → Bool
  | [], _ => true
  | i :: seg, listed => (Region.ready md ops listed).contains i && Region.free md ops listed i && plainAt ops i && segB md ops seg (listed.setIfInBounds i true)
theorem seg_any (hsel : Region.noSelect ops = true) {Lq : Act → Prop} : ∀ (seg : List Nat) (f : Nat) (listed : Array Bool) (a : Act) (w : World), segB md ops seg listed = true → S w →
    (∀ a', Lq a' → anyM P md ops S R f (setL listed seg) a' w) → wpQuiet P ops S Lq (pickL ops seg) a → anyM P md ops S R (f + seg.length) listed a w
  | [], f, listed, a, w, _, _, hn, h => hn a h
  | i :: seg, f, listed, a, w, hB, hS, hn, h => by
    simp only [segB, Bool.and_eq_true] at hB
    obtain ⟨⟨⟨hr, hf⟩, hp⟩, hB'⟩ := hB
    unfold plainAt at hp
    cases ho : ops[i]? with
    | none => rw [ho] at hp; cases hp
    | some o =>
      rw [ho] at hp
      have hpk : pickL ops (i :: seg) = o :: pickL ops seg := by simp [pickL, ho]
      rw [hpk] at h
      have hst : qOp P ops S i (wpQuiet P ops S Lq (pickL ops seg)) a := by unfold qOp; simp only [ho]; exact h
      obtain ⟨v, hy, hK⟩ := yieldsIn_of_qOp ho hst
      exact anyM_first ho (Region.noSelect_spec hsel) (f + seg.length) listed a w (Region.free_spec ho hf) (by simpa using hr) (yieldsIf_of hp hy) hS (seg_any hsel seg f _ _ w hB' hS hn hK)
/-- The walk along a schedule: reads, then one that hands on; and so on; then reads. -/
def schP (P : Program) (ops : Array Oper) (S : World → Prop) (R : Act → World → Prop) (last : List Nat) : List (List Nat × Nat) → Act → World → Prop
  | [], a, w => wpQuiet P ops S (fun a' => R a' w) (pickL ops last) a
  | (seg, i) :: σ, a, w => wpQuiet P ops S (fun a' => mvP P ops i (fun a'' w'' => S w'' ∧ schP P ops S R last σ a'' w'') a' w) (pickL ops seg) a
def schB (md : Region.Mode) (ops : Array Oper) (last : List Nat) : List (List Nat × Nat) → Array Bool → Bool
  | [], listed => segB md ops last listed && (Region.ready md ops (setL listed last)).isEmpty
  | (seg, i) :: σ, listed => segB md ops seg listed && decide (Region.ready md ops (setL listed seg) = [i]) && schB md ops last σ ((setL listed seg).setIfInBounds i true)
def schN (last : List Nat) : List (List Nat × Nat) → Nat
  | [] => last.length
  | (seg, _) :: σ => schN last σ + 1 + seg.length
theorem sch_any (hsel : Region.noSelect ops = true) {last : List Nat} : ∀ (σ : List (List Nat × Nat)) (listed : Array Bool) (a : Act) (w : World), schB md ops last σ listed = true → S w → schP P ops S R last σ a w → anyM P md ops S R (schN last σ) listed a w
  | [], listed, a, w, hB, hS, h => by
    simp only [schB, Bool.and_eq_true, List.isEmpty_iff] at hB
    have := seg_any (R := R) (Lq := fun a' => R a' w) hsel last 0 listed a w hB.1 hS (fun a' ha => ⟨hB.2, ha⟩) h
    rwa [Nat.zero_add] at this
  | (seg, i) :: σ, listed, a, w, hB, hS, h => by
    simp only [schB, Bool.and_eq_true, decide_eq_true_eq] at hB
    refine seg_any hsel seg (schN last σ + 1) listed a w hB.1.1 hS (fun a' ha => ⟨fun h0 => (by rw [hB.1.2] at h0; cases h0), fun j hj => ?_⟩) h
    rw [hB.1.2] at hj
    obtain rfl : j = i := by simpa using hj
    exact mvP_mono (fun a'' w'' h2 => ⟨h2.1, sch_any hsel σ _ a'' w'' hB.2 h2.1 h2.2⟩) ha
def schAll (ops : Array Oper) (last : List Nat) (σ : List (List Nat × Nat)) : Bool := Region.noSelect ops && schB .any ops last σ (Array.replicate ops.size false) && decide (schN last σ = ops.size)
theorem op_of_mv {i : Nat} {a : Act} {w : World} {K K' : Act → World → Prop} {Q : Exit → Act → World → Prop} (h : ∀ a w, K a w → K' a w) (hh : mvP P ops i K a w) : wpOp P ops Q i K' a w := by
  obtain ⟨o, ho, hh⟩ := hh
  unfold wpOp
  simp only [ho]
  rcases hh with ⟨hw, nx, w', hr, hK⟩ | ⟨hw, hK⟩
  · simp only [hw, if_true]
    refine .inl ?_
    unfold Oper.wp
    rw [hr]
    cases nx <;> simp only [mvN] at hK <;> simp only [Oper.upon]
    case value => exact h _ _ hK
    case skip => exact h _ _ hK
    case enter =>
      refine hK.mono fun e w'' ⟨v, he, hk⟩ => ?_
      subst he
      exact h _ _ hk
  · simp only [hw]
    exact h _ _ hK
theorem any_of_M {Q : Exit → Act → World → Prop} (hR : ∀ a w, R a w → Q .normal a w) : ∀ (f : Nat) (listed : Array Bool) (a : Act) (w : World), anyM P md ops S R f listed a w → wpAny P md ops Q f listed a w
  | 0, _, _, _, h => ⟨h.1, hR _ _ h.2⟩
  | f + 1, _, _, _, h => ⟨fun h0 => hR _ _ (h.1 h0), fun i hi => op_of_mv (fun a' w' h' => any_of_M hR f _ a' w' h'.2) (h.2 i hi)⟩
/-- A region that draws its order, along a schedule. -/
theorem region_sch {id : Nat} {Q : Exit → Act → World → Prop} {a : Act} {w : World} (S : World → Prop) (last : List Nat) (σ : List (List Nat × Nat)) (hm : P.follows .mixedOrders = true) (hB : schAll ops last σ = true) (hS : S w.drew)
    (h : schP P ops S (fun a w => Q .normal a w) last σ a w.drew) : (Code.region id ops true).wp P Q a w := by
  simp only [schAll, Bool.and_eq_true, decide_eq_true_eq] at hB
  have H := sch_any (md := .any) hB.1.1 σ _ a w.drew hB.1.2 hS h
  rw [hB.2] at H
  exact wp_region_any hm (any_of_M (fun _ _ h => h) _ _ _ _ H)
variable {r m : Nat}
theorem opIn_of_mv {i : Nat} {a : Act} {w : World} {K K' : Act → World → Prop} {Q : Exit → Act → World → Prop} (hd : noDefers ops = true) (h : ∀ a w, K a w → K' a w) (hh : mvP P ops i K a w) : wpOpIn (Fence.wide.inRound r) m P ops Q i K' a w := by
  obtain ⟨o, ho, hh⟩ := hh
  unfold wpOpIn
  simp only [ho]
  rcases hh with ⟨hw, nx, w', hr, hK⟩ | ⟨hw, hK⟩
  · simp only [hw, if_true]
    refine ⟨fun _ _ => trivial, ?_⟩
    rw [Oper.semAt_eq _ _ _ (noDefers_at hd ho), hr]
    cases nx <;> simp only [mvN] at hK <;> simp only [Oper.uponIn]
    case value => exact h _ _ hK
    case skip => exact h _ _ hK
    case enter =>
      refine ⟨(fun hx => by cases hx), CallsIn.inRound r (callsIn_wide.2 (hK.mono fun e w'' ⟨v, he, hk⟩ => ?_))⟩
      subst he
      exact h _ _ hk
  · simp only [hw]
    exact ⟨fun _ _ => trivial, h _ _ hK⟩
theorem anyIn_of_M {Q : Exit → Act → World → Prop} (hd : noDefers ops = true) (hR : ∀ a w, R a w → Q .normal a w) : ∀ (f : Nat) (listed : Array Bool) (a : Act) (w : World), anyM P md ops S R f listed a w → wpAnyIn (Fence.wide.inRound r) m P md ops Q f listed a w
  | 0, _, _, _, h => ⟨h.1, hR _ _ h.2⟩
  | f + 1, _, _, _, h => ⟨fun h0 => hR _ _ (h.1 h0), fun i hi => opIn_of_mv hd (fun a' w' h' => anyIn_of_M hd hR f _ a' w' h'.2) (h.2 i hi)⟩
/-- The same, within a round. -/
theorem round_sch {id : Nat} {Q : Exit → Act → World → Prop} {a : Act} {w : World} (S : World → Prop) (last : List Nat) (σ : List (List Nat × Nat)) (hm : P.follows .mixedOrders = true) (hB : schAll ops last σ = true) (hd : noDefers ops = true) (hS : S w.drew)
    (h : schP P ops S (fun a w => Q .normal a w) last σ a w.drew) : (Code.region id ops true).wpIn (Fence.wide.inRound r) m P Q a w := by
  simp only [schAll, Bool.and_eq_true, decide_eq_true_eq] at hB
  have H := sch_any (md := .any) hB.1.1 σ _ a w.drew hB.1.2 hS h
  rw [hB.2] at H
  exact wpIn_region_any hm (anyIn_of_M hd (fun _ _ h => h) _ _ _ _ H)
/-- A call, by its contract. -/
theorem mv_call {i : Nat} {o : Oper} {K : Act → World → Prop} {a : Act} {w : World} {f : FuncId} {args : Array Value} {v : Value} {T : World → Prop} (d : Option Tmp) (ho : ops[i]? = some o) (hd : o.dst = d) (hw : Region.wanted o (yielded ops a.tmps) = true) (hr : (execOp a.eval o).run P w = .ok (.enter f args) w)
    (hc : Calls P f args w fun e w' => e = .returned v ∧ T w') (hK : ∀ w', T w' → K (a.put d v) w') : mvP P ops i K a w := by
  subst hd
  exact ⟨o, ho, .inl ⟨hw, _, w, hr, hc.mono fun e w' ⟨he, hT⟩ => ⟨v, he, hK w' hT⟩⟩⟩
theorem mv_value {i : Nat} {o : Oper} {K : Act → World → Prop} {a : Act} {w w' : World} {v : Value} (d : Option Tmp) (ho : ops[i]? = some o) (hd : o.dst = d) (hw : Region.wanted o (yielded ops a.tmps) = true) (hr : (execOp a.eval o).run P w = .ok (.value v) w') (hK : K (a.put d v) w') : mvP P ops i K a w := by
  subst hd
  exact ⟨o, ho, .inl ⟨hw, _, w', hr, hK⟩⟩
end

section
variable {P : Program} {ops : Array Oper} {md : Region.Mode} {S : World → Prop}
/-- f operations below n come up, each yields a value; then L. -/
def lateQ (P : Program) (md : Region.Mode) (ops : Array Oper) (S : World → Prop) (n : Nat) (L : Array Bool → Act → World → Prop) : Nat → Array Bool → Act → World → Prop
  | 0, listed, a, w => L listed a w
  | f + 1, listed, a, w => Region.ready md ops listed ≠ [] ∧ ∀ i ∈ Region.ready md ops listed, i < n ∧ mvP P ops i (fun a' w' => S w' ∧ lateQ P md ops S n L f (listed.setIfInBounds i true) a' w') a w
theorem lateQ_first {n i : Nat} {oi : Oper} {v : Value} {L : Array Bool → Act → World → Prop} (hi : ops[i]? = some oi) (hsel : ∀ (j : Nat) (o : Oper) cs b, ops[j]? = some o → o.op ≠ .select cs b)
    (hs : Region.sinkB md ops n = true) (hc : Region.chainB md ops n = true) (hn : n < ops.size) (hin : i < n)
    (hdone : ∀ listed a w, L listed a w → ∀ j ∈ Region.ready md ops listed, n ≤ j) :
    ∀ (f : Nat) (listed : Array Bool) (a : Act) (w : World), HeadInv md ops n listed →
      (∀ j oj, ops[j]? = some oj → j ≠ i → listed.getD j true = false → (∀ e ∈ oj.after, Region.binds md e = true → e.on ≠ i) → oi.apart ops oj = true) →
      i ∈ Region.ready md ops listed → YieldsIf P ops S oi v a → S w →
      lateQ P md ops S n L f (listed.setIfInBounds i true) (a.put oi.dst v) w → lateQ P md ops S n L (f + 1) listed a w
  | 0, listed, a, w, inv, _, hr, hy, hS, H => by
    have hun := (mem_ready.1 hr).1
    refine ⟨fun h => (by rw [h] at hr; cases hr), fun j hj => ?_⟩
    have hjn := headQ_below hs hc hn inv hin hun hj
    by_cases hji : j = i
    · subst hji; exact ⟨hjn, mvP_of hi hy hS ⟨hS, H⟩⟩
    · exact absurd (hdone _ _ _ H j (ready_mono hj hji)) (by omega)
  | f + 1, listed, a, w, inv, hfree, hr, hy, hS, H => by
    have hun := (mem_ready.1 hr).1
    refine ⟨fun h => (by rw [h] at hr; cases hr), fun j hj => ?_⟩
    have hjn := headQ_below hs hc hn inv hin hun hj
    refine ⟨hjn, ?_⟩
    by_cases hji : j = i
    · subst hji; exact mvP_of hi hy hS ⟨hS, H⟩
    · obtain ⟨hjun, oj, hoj, hall⟩ := mem_ready.1 hj
      have hnot : ∀ e ∈ oj.after, Region.binds md e = true → e.on ≠ i := fun e he hb heq => by
        have h1 := hall e he hb
        rw [heq, getD_both hun] at h1
        cases h1
      have h2 := mvP_put hoj (hfree j oj hoj hji hjun hnot) (fun cs b => hsel i oi cs b hi) (fun cs b => hsel j oj cs b hoj) hy (H.2 j (ready_mono hj hji)).2
      refine mvP_mono (fun a' w' h3 => ⟨h3.2.1, lateQ_first hi hsel hs hc hn hin hdone f (listed.setIfInBounds j true) a' w' (inv.set hj hjn) (fun k ok hk hki hk2 hno => hfree k ok hk hki ?_ hno) (ready_mono hr (Ne.symm hji)) h3.1 h3.2.1 ?_⟩) h2
      · by_cases hjk : j = k
        · subst hjk; exact hjun
        · rw [getD_set_ne true hjk] at hk2; exact hk2
      · rw [Array.setIfInBounds_comm _ _ hji]
        exact h3.2.2
theorem any_of_late {n g : Nat} {L : Array Bool → Act → World → Prop} {Q' : Exit → Act → World → Prop} (hL : ∀ listed a w, L listed a w → wpAny P md ops Q' g listed a w) :
    ∀ (f : Nat) (listed : Array Bool) (a : Act) (w : World), lateQ P md ops S n L f listed a w → wpAny P md ops Q' (f + g) listed a w
  | 0, listed, a, w, h => by rw [Nat.zero_add]; exact hL _ _ _ h
  | f + 1, listed, a, w, h => by
    rw [show f + 1 + g = (f + g) + 1 by omega]
    exact ⟨fun h0 => absurd h0 h.1, fun i hi => op_of_mv (fun a' w' h' => any_of_late hL f _ a' w' h'.2) (h.2 i hi).2⟩
def lsegB (n : Nat) : List Nat → Bool
  | [] => true
  | i :: seg => decide (i < n) && lsegB n seg
theorem lseg_any {n : Nat} {L : Array Bool → Act → World → Prop} (hsel : Region.noSelect ops = true) (hs : Region.sinkB md ops n = true) (hc : Region.chainB md ops n = true) (hn : n < ops.size)
    (hdone : ∀ listed a w, L listed a w → ∀ j ∈ Region.ready md ops listed, n ≤ j) {Lq : Act → Prop} : ∀ (seg : List Nat) (f : Nat) (listed : Array Bool) (a : Act) (w : World), HeadInv md ops n listed → segB md ops seg listed = true → lsegB n seg = true → S w →
    (HeadInv md ops n (setL listed seg) → ∀ a', Lq a' → lateQ P md ops S n L f (setL listed seg) a' w) → wpQuiet P ops S Lq (pickL ops seg) a → lateQ P md ops S n L (f + seg.length) listed a w
  | [], f, listed, a, w, inv, _, _, _, hk, h => hk inv a h
  | i :: seg, f, listed, a, w, inv, hB, hl, hS, hk, h => by
    simp only [segB, Bool.and_eq_true] at hB
    simp only [lsegB, Bool.and_eq_true, decide_eq_true_eq] at hl
    obtain ⟨⟨⟨hr, hf⟩, hp⟩, hB'⟩ := hB
    have hr' : i ∈ Region.ready md ops listed := by simpa using hr
    unfold plainAt at hp
    cases ho : ops[i]? with
    | none => rw [ho] at hp; cases hp
    | some o =>
      rw [ho] at hp
      have hpk : pickL ops (i :: seg) = o :: pickL ops seg := by simp [pickL, ho]
      rw [hpk] at h
      have hst : qOp P ops S i (wpQuiet P ops S Lq (pickL ops seg)) a := by unfold qOp; simp only [ho]; exact h
      obtain ⟨v, hy, hK⟩ := yieldsIn_of_qOp ho hst
      exact lateQ_first ho (Region.noSelect_spec hsel) hs hc hn hl.1 hdone (f + seg.length) listed a w inv (Region.free_spec ho hf) hr' (yieldsIf_of hp hy) hS (lseg_any hsel hs hc hn hdone seg f _ _ w (inv.set hr' hl.1) hB' hl.2 hS hk hK)
/-- The walk along a schedule that ends in a tail. -/
def lschP (P : Program) (ops : Array Oper) (S : World → Prop) (F : Act → World → Prop) : List (List Nat × Nat) → Act → World → Prop
  | [], a, w => F a w
  | (seg, i) :: σ, a, w => wpQuiet P ops S (fun a' => mvP P ops i (fun a'' w'' => S w'' ∧ lschP P ops S F σ a'' w'') a' w) (pickL ops seg) a
def lschB (md : Region.Mode) (ops : Array Oper) (n g : Nat) : List (List Nat × Nat) → Array Bool → Bool
  | [], listed => Region.seqB md ops g n listed
  | (seg, i) :: σ, listed => segB md ops seg listed && lsegB n seg && decide (i < n) && decide (Region.ready md ops (setL listed seg) = [i]) && lschB md ops n g σ ((setL listed seg).setIfInBounds i true)
def lschN : List (List Nat × Nat) → Nat
  | [] => 0
  | (seg, _) :: σ => lschN σ + 1 + seg.length
theorem lsch_any {n g : Nat} {F : Act → World → Prop} (hsel : Region.noSelect ops = true) (hs : Region.sinkB md ops n = true) (hc : Region.chainB md ops n = true) (hn : n < ops.size) : ∀ (σ : List (List Nat × Nat)) (listed : Array Bool) (a : Act) (w : World), HeadInv md ops n listed → lschB md ops n g σ listed = true → S w → lschP P ops S F σ a w →
    lateQ P md ops S n (fun listed a w => Region.seqB md ops g n listed = true ∧ F a w) (lschN σ) listed a w
  | [], listed, a, w, _, hB, _, h => ⟨hB, h⟩
  | (seg, i) :: σ, listed, a, w, inv, hB, hS, h => by
    simp only [lschB, Bool.and_eq_true, decide_eq_true_eq] at hB
    obtain ⟨⟨⟨⟨h1, h2⟩, h3⟩, h4⟩, h5⟩ := hB
    refine lseg_any hsel hs hc hn (fun listed a w hL => seqB_ready hL.1) seg (lschN σ + 1) listed a w inv h1 h2 hS (fun inv' a' ha => ⟨fun h0 => (by rw [h4] at h0; cases h0), fun j hj => ?_⟩) h
    have hj' := hj
    rw [h4] at hj
    obtain rfl : j = i := by simpa using hj
    exact ⟨h3, mvP_mono (fun a'' w'' h6 => ⟨h6.1, lsch_any hsel hs hc hn σ _ a'' w'' (inv'.set hj' h3) h5 h6.1 h6.2⟩) ha⟩
def lschAll (l : List Oper) (n : Nat) (σ : List (List Nat × Nat)) : Bool :=
  Region.noSelect l.toArray && decide (n < l.length) && Region.sinkB .any l.toArray n && Region.chainB .any l.toArray n && lschB .any l.toArray n (l.length - n) σ (Array.replicate l.length false) && decide (lschN σ = n)
/-- A region that draws its order: along a schedule, then a tail that waits for all. -/
theorem region_lsch {id : Nat} {Q : Exit → Act → World → Prop} {a : Act} {w : World} {l : List Oper} (S : World → Prop) (n : Nat) (σ : List (List Nat × Nat)) (hm : P.follows .mixedOrders = true) (hB : lschAll l n σ = true) (hS : S w.drew)
    (h : lschP P l.toArray S (fun a w => wpList P l.toArray Q (l.drop n) a w) σ a w.drew) : (Code.region id l.toArray true).wp P Q a w := by
  simp only [lschAll, Bool.and_eq_true, decide_eq_true_eq] at hB
  obtain ⟨⟨⟨⟨⟨hsel, hn⟩, hs⟩, hc⟩, hb⟩, hN⟩ := hB
  have inv0 : HeadInv .any l.toArray n (Array.replicate l.length false) :=
    ⟨by simp, fun j oj _ hl => (by rw [getD_replicate_false] at hl; cases hl), fun t _ ht => getD_in (by simpa using ht) (getD_replicate_false _ _)⟩
  have H := lsch_any hsel hs hc (by simpa using hn) σ _ a w.drew inv0 hb hS h
  rw [hN] at H
  refine wp_region_any hm ?_
  have := any_of_late (Q' := Q) (g := l.length - n) (fun listed a' w' hL => by
    have := wpAny_of_seq (md := .any) (Q' := Q) (l.drop n) n listed a' w' (fun j => by simp [List.getElem?_drop]) (by rw [List.length_drop]; exact hL.1) hL.2
    rwa [List.length_drop] at this) _ _ _ _ H
  rw [show n + (l.length - n) = l.length by omega] at this
  simpa using this
theorem mvP_value {i : Nat} {o : Oper} {K : Act → World → Prop} {a : Act} {w w' : World} {v : Value} (d : Option Tmp) (ho : ops[i]? = some o) (hd : o.dst = d) (hw : Region.wanted o (yielded ops a.tmps) = true) (hr : (execOp a.eval o).run P w = .ok (.value v) w') (hK : K (a.put d v) w') : mvP P ops i K a w := by
  subst hd
  exact ⟨o, ho, .inl ⟨hw, _, w', hr, hK⟩⟩
theorem mvP_call {i : Nat} {o : Oper} {K : Act → World → Prop} {a : Act} {w w' : World} {f : FuncId} {args : Array Value} (d : Option Tmp) (ho : ops[i]? = some o) (hd : o.dst = d) (hw : Region.wanted o (yielded ops a.tmps) = true) (hr : (execOp a.eval o).run P w = .ok (.enter f args) w') (hK : Calls P f args w' fun e w'' => ∃ v, e = .returned v ∧ K (a.put d v) w'') : mvP P ops i K a w := by
  subst hd
  exact ⟨o, ho, .inl ⟨hw, _, w', hr, hK⟩⟩
end
end Go.Proofs.Ytfojhmobnedekaa
