/- Regions that draw their order, in a fence: a head along a schedule, an operation that waits for the head, and what waits for that one, in whatever way it is walked (a round among it). No condition beyond each law's own. -/
import Derived.RangeFuncSeq
import Derived.Test.YtfojhmobnedekaaSch
import Derived.Test.YtfojhmobnedekaaPast13
namespace Go.Proofs.Ytfojhmobnedekaa
open Go.RowKit

section
variable {P : Program} {ops : Array Oper} {md : Region.Mode} {S : World → Prop} {m : Nat}
/-- All behind n wait for n. -/
def starB (md : Region.Mode) (ops : Array Oper) (n : Nat) : Bool := (List.range ops.size).all fun t => decide (t ≤ n) || Region.waitsFor md ops t n
theorem star_below {n : Nat} {listed : Array Bool} (hs : Region.sinkB md ops n = true) (hc : starB md ops n = true) (hn : n < ops.size) (inv : HeadInv md ops n listed) :
    ∀ (d i : Nat), n - i = d → i < n → listed.getD i true = false → ∀ t ∈ Region.ready md ops listed, t < n := by
  intro d
  induction d using Nat.strongRecOn with
  | _ d ih =>
    intro i hd hi hun t hr
    refine Nat.lt_of_not_le fun ht => ?_
    obtain ⟨_, ot, hot, hall⟩ := mem_ready.1 hr
    have htlt : t < ops.size := (Array.getElem?_eq_some_iff.1 hot).1
    by_cases htn : t = n
    · subst htn
      have h1 := List.all_eq_true.1 hs i (List.mem_range.2 hi)
      obtain ⟨j, hj, hj2⟩ := List.any_eq_true.1 h1
      simp only [Bool.and_eq_true, decide_eq_true_eq] at hj2
      obtain ⟨oj, hoj, e, he, hb, hon⟩ := Region.waitsFor_spec hj2.2
      have hjle : j ≤ t := by have := List.mem_range.1 hj; omega
      by_cases hjt : j = t
      · subst hjt
        have : oj = ot := Option.some.inj (hoj.symm.trans hot)
        subst this
        have h2 := hall e he hb
        rw [hon, getD_both hun] at h2
        cases h2
      · cases hl : listed.getD j false with
        | true =>
          have h2 := inv.closed j oj hoj hl e he hb
          rw [hon, getD_both hun] at h2
          cases h2
        | false =>
          have hjs : j < listed.size := by rw [inv.size]; omega
          have := ih (t - j) (by omega) j rfl (by omega) (getD_in hjs hl) t hr
          omega
    · have h1 := List.all_eq_true.1 hc t (List.mem_range.2 htlt)
      simp only [Bool.or_eq_true, decide_eq_true_eq] at h1
      rcases h1 with h1 | h1
      · omega
      · obtain ⟨o', ho', e, he, hb, hon⟩ := Region.waitsFor_spec h1
        have : o' = ot := Option.some.inj (ho'.symm.trans hot)
        subst this
        have h2 := hall e he hb
        rw [hon, getD_both (inv.tail n (Nat.le_refl _) hn)] at h2
        cases h2
theorem lateY_first {n i : Nat} {oi : Oper} {v : Value} {L : Array Bool → Act → World → Prop} (hi : ops[i]? = some oi) (hsel : ∀ (j : Nat) (o : Oper) cs b, ops[j]? = some o → o.op ≠ .select cs b)
    (hs : Region.sinkB md ops n = true) (hc : starB md ops n = true) (hn : n < ops.size) (hin : i < n)
    (hdone : ∀ listed a w, L listed a w → ∀ j ∈ Region.ready md ops listed, n ≤ j) :
    ∀ (f : Nat) (listed : Array Bool) (a : Act) (w : World), HeadInv md ops n listed →
      (∀ j oj, ops[j]? = some oj → j ≠ i → listed.getD j true = false → (∀ e ∈ oj.after, Region.binds md e = true → e.on ≠ i) → oi.apart ops oj = true) →
      i ∈ Region.ready md ops listed → YieldsIf P ops S oi v a → S w →
      lateQ P md ops S n L f (listed.setIfInBounds i true) (a.put oi.dst v) w → lateQ P md ops S n L (f + 1) listed a w
  | 0, listed, a, w, inv, _, hr, hy, hS, H => by
    have hun := (mem_ready.1 hr).1
    refine ⟨fun h => (by rw [h] at hr; cases hr), fun j hj => ?_⟩
    have hjn := star_below hs hc hn inv _ i rfl hin hun j hj
    by_cases hji : j = i
    · subst hji; exact ⟨hjn, mvP_of hi hy hS ⟨hS, H⟩⟩
    · exact absurd (hdone _ _ _ H j (ready_mono hj hji)) (by omega)
  | f + 1, listed, a, w, inv, hfree, hr, hy, hS, H => by
    have hun := (mem_ready.1 hr).1
    refine ⟨fun h => (by rw [h] at hr; cases hr), fun j hj => ?_⟩
    have hjn := star_below hs hc hn inv _ i rfl hin hun j hj
    refine ⟨hjn, ?_⟩
    by_cases hji : j = i
    · subst hji; exact mvP_of hi hy hS ⟨hS, H⟩
    · obtain ⟨hjun, oj, hoj, hall⟩ := mem_ready.1 hj
      have hnot : ∀ e ∈ oj.after, Region.binds md e = true → e.on ≠ i := fun e he hb heq => by
        have h1 := hall e he hb
        rw [heq, getD_both hun] at h1
        cases h1
      have h2 := mvP_put hoj (hfree j oj hoj hji hjun hnot) (fun cs b => hsel i oi cs b hi) (fun cs b => hsel j oj cs b hoj) hy (H.2 j (ready_mono hj hji)).2
      refine mvP_mono (fun a' w' h3 => ⟨h3.2.1, lateY_first hi hsel hs hc hn hin hdone f (listed.setIfInBounds j true) a' w' (inv.set hj hjn) (fun k ok hk hki hk2 hno => hfree k ok hk hki ?_ hno) (ready_mono hr (Ne.symm hji)) h3.1 h3.2.1 ?_⟩) h2
      · by_cases hjk : j = k
        · subst hjk; exact hjun
        · rw [getD_set_ne true hjk] at hk2; exact hk2
      · rw [Array.setIfInBounds_comm _ _ hji]
        exact h3.2.2
theorem opW_of_mv {i : Nat} {a : Act} {w : World} {K K' : Act → World → Prop} {Q : Exit → Act → World → Prop} (hd : noDefers ops = true) (h : ∀ a w, K a w → K' a w) (hh : mvP P ops i K a w) : wpOpIn Fence.wide m P ops Q i K' a w := by
  obtain ⟨o, ho, hh⟩ := hh
  unfold wpOpIn
  simp only [ho]
  rcases hh with ⟨hw, nx, w', hr, hK⟩ | ⟨hw, hK⟩
  · simp only [hw, if_true]
    refine ⟨fun _ _ => trivial, ?_⟩
    rw [Oper.semAt_eq _ _ _ (noDefers_at hd ho), hr]
    cases nx <;> simp only [mvN] at hK <;> simp only [Oper.uponIn]
    case value => exact h _ _ hK
    case skip => exact h _ _ hK
    case enter =>
      refine ⟨(fun hx => by cases hx), callsIn_wide.2 (hK.mono fun e w'' ⟨v, he, hk⟩ => ?_)⟩
      subst he
      exact h _ _ hk
  · simp only [hw]
    exact ⟨fun _ _ => trivial, h _ _ hK⟩
theorem anyW_of_late {n g : Nat} {L : Array Bool → Act → World → Prop} {Q' : Exit → Act → World → Prop} (hd : noDefers ops = true) (hL : ∀ listed a w, L listed a w → wpAnyIn Fence.wide m P md ops Q' g listed a w) :
    ∀ (f : Nat) (listed : Array Bool) (a : Act) (w : World), lateQ P md ops S n L f listed a w → wpAnyIn Fence.wide m P md ops Q' (f + g) listed a w
  | 0, listed, a, w, h => by rw [Nat.zero_add]; exact hL _ _ _ h
  | f + 1, listed, a, w, h => by
    rw [show f + 1 + g = (f + g) + 1 by omega]
    exact ⟨fun h0 => absurd h0 h.1, fun i hi => opW_of_mv hd (fun a' w' h' => anyW_of_late hd hL f _ a' w' h'.2) (h.2 i hi).2⟩
theorem lsegY_any {n : Nat} {L : Array Bool → Act → World → Prop} (hsel : Region.noSelect ops = true) (hs : Region.sinkB md ops n = true) (hc : starB md ops n = true) (hn : n < ops.size)
    (hdone : ∀ listed a w, L listed a w → ∀ j ∈ Region.ready md ops listed, n ≤ j) {Lq : Act → Prop} : ∀ (seg : List Nat) (f : Nat) (listed : Array Bool) (a : Act) (w : World), HeadInv md ops n listed → segB md ops seg listed = true → lsegB n seg = true → S w →
    (HeadInv md ops n (setL listed seg) → ∀ a', Lq a' → lateQ P md ops S n L f (setL listed seg) a' w) → wpQuiet P ops S Lq (pickL ops seg) a → lateQ P md ops S n L (f + seg.length) listed a w
  | [], f, listed, a, w, inv, _, _, _, hk, h => hk inv a h
  | i :: seg, f, listed, a, w, inv, hB, hl, hS, hk, h => by
    simp only [segB, Bool.and_eq_true] at hB
    simp only [lsegB, Bool.and_eq_true, decide_eq_true_eq] at hl
    obtain ⟨⟨⟨hr, hf⟩, hp⟩, hB'⟩ := hB
    have hr' : i ∈ Region.ready md ops listed := by simpa using hr
    unfold plainAt at hp
    cases ho : ops[i]? with
    | none => rw [ho] at hp; cases hp
    | some o =>
      rw [ho] at hp
      have hpk : pickL ops (i :: seg) = o :: pickL ops seg := by simp [pickL, ho]
      rw [hpk] at h
      have hst : qOp P ops S i (wpQuiet P ops S Lq (pickL ops seg)) a := by unfold qOp; simp only [ho]; exact h
      obtain ⟨v, hy, hK⟩ := yieldsIn_of_qOp ho hst
      exact lateY_first ho (Region.noSelect_spec hsel) hs hc hn hl.1 hdone (f + seg.length) listed a w inv (Region.free_spec ho hf) hr' (yieldsIf_of hp hy) hS (lsegY_any hsel hs hc hn hdone seg f _ _ w (inv.set hr' hl.1) hB' hl.2 hS hk hK)
def lschYB (md : Region.Mode) (ops : Array Oper) (n : Nat) (L0 : Array Bool) : List (List Nat × Nat) → Array Bool → Bool
  | [], listed => listed.toList == L0.toList
  | (seg, i) :: σ, listed => segB md ops seg listed && lsegB n seg && decide (i < n) && decide (Region.ready md ops (setL listed seg) = [i]) && lschYB md ops n L0 σ ((setL listed seg).setIfInBounds i true)
theorem lschY_any {n : Nat} {L0 : Array Bool} {F : Act → World → Prop} (hsel : Region.noSelect ops = true) (hs : Region.sinkB md ops n = true) (hc : starB md ops n = true) (hn : n < ops.size) (hd0 : (Region.ready md ops L0).all (fun j => decide (n ≤ j)) = true) : ∀ (σ : List (List Nat × Nat)) (listed : Array Bool) (a : Act) (w : World), HeadInv md ops n listed → lschYB md ops n L0 σ listed = true → S w → lschP P ops S F σ a w →
    lateQ P md ops S n (fun listed a w => listed = L0 ∧ F a w) (lschN σ) listed a w
  | [], listed, a, w, _, hB, _, h => ⟨Array.toList_inj.1 (by simpa [lschYB] using hB), h⟩
  | (seg, i) :: σ, listed, a, w, inv, hB, hS, h => by
    simp only [lschYB, Bool.and_eq_true, decide_eq_true_eq] at hB
    obtain ⟨⟨⟨⟨h1, h2⟩, h3⟩, h4⟩, h5⟩ := hB
    refine lsegY_any hsel hs hc hn (fun listed a w hL j hj => ?_) seg (lschN σ + 1) listed a w inv h1 h2 hS (fun inv' a' ha => ⟨fun h0 => (by rw [h4] at h0; cases h0), fun j hj => ?_⟩) h
    · rw [hL.1] at hj
      exact of_decide_eq_true (List.all_eq_true.1 hd0 j hj)
    · have hj' := hj
      rw [h4] at hj
      obtain rfl : j = i := by simpa using hj
      exact ⟨h3, mvP_mono (fun a'' w'' h6 => ⟨h6.1, lschY_any hsel hs hc hn hd0 σ _ a'' w'' (inv'.set hj' h3) h5 h6.1 h6.2⟩) ha⟩
def lschYAll (l : List Oper) (n : Nat) (L0 : Array Bool) (σ : List (List Nat × Nat)) : Bool :=
  Region.noSelect l.toArray && decide (n < l.length) && Region.sinkB .any l.toArray n && starB .any l.toArray n && lschYB .any l.toArray n L0 σ (Array.replicate l.length false) && decide (lschN σ = n) && (Region.ready .any l.toArray L0).all (fun j => decide (n ≤ j)) && noDefers l.toArray
/-- A region that draws its order, in the widest fence: a head along a schedule, then whatever walk of the rest. -/
theorem region_lschY {id : Nat} {Q : Exit → Act → World → Prop} {a : Act} {w : World} {l : List Oper} (S : World → Prop) (n : Nat) (L0 : Array Bool) (σ : List (List Nat × Nat)) (hm : P.follows .mixedOrders = true) (hB : lschYAll l n L0 σ = true) (hS : S w.drew)
    (h : lschP P l.toArray S (fun a w => wpAnyIn Fence.wide m P .any l.toArray Q (l.length - n) L0 a w) σ a w.drew) : (Code.region id l.toArray true).wpIn Fence.wide m P Q a w := by
  simp only [lschYAll, Bool.and_eq_true, decide_eq_true_eq] at hB
  obtain ⟨⟨⟨⟨⟨⟨⟨hsel, hn⟩, hs⟩, hc⟩, hb⟩, hN⟩, hr0⟩, hnd⟩ := hB
  have inv0 : HeadInv .any l.toArray n (Array.replicate l.length false) :=
    ⟨by simp, fun j oj _ hl => (by rw [getD_replicate_false] at hl; cases hl), fun t _ ht => getD_in (by simpa using ht) (getD_replicate_false _ _)⟩
  have H := lschY_any (F := fun a w => wpAnyIn Fence.wide m P .any l.toArray Q (l.length - n) L0 a w) hsel hs hc (by simpa using hn) hr0 σ _ a w.drew inv0 hb hS h
  rw [hN] at H
  refine wpIn_region_any hm ?_
  have := anyW_of_late (m := m) (Q' := Q) (g := l.length - n) hnd (fun listed a' w' hL => by rw [hL.1]; exact hL.2) _ _ _ _ H
  rw [show n + (l.length - n) = l.length by omega] at this
  simpa using this
theorem anyW_one {i : Nat} {o : Oper} {f : Nat} {listed : Array Bool} {a : Act} {w : World} {Q : Exit → Act → World → Prop} (hr : Region.ready md ops listed = [i]) (ho : ops[i]? = some o) (hw : Region.wanted o (yielded ops a.tmps) = true) (hd : ∀ c, o.op ≠ .defer c) {nx : Next} {w' : World} (hrun : (execOp a.eval o).run P w = .ok nx w')
    (h : o.uponIn Fence.wide m P a (wpAnyIn Fence.wide m P md ops Q f (listed.setIfInBounds i true)) Q (.ok nx w')) : wpAnyIn Fence.wide m P md ops Q (f + 1) listed a w := by
  refine wpAnyIn_all hr (by simp) fun j hj => ?_
  obtain rfl : j = i := by simpa using hj
  unfold wpOpIn
  simp only [ho, hw, if_true]
  refine ⟨fun _ _ => trivial, ?_⟩
  rw [Oper.semAt_eq _ _ _ hd, hrun]
  exact h
theorem anyW_value {i : Nat} {o : Oper} {f : Nat} {listed : Array Bool} {a : Act} {w w' : World} {v : Value} {Q : Exit → Act → World → Prop} (d : Option Tmp) (hr : Region.ready md ops listed = [i]) (ho : ops[i]? = some o) (hdst : o.dst = d) (hw : Region.wanted o (yielded ops a.tmps) = true) (hd : ∀ c, o.op ≠ .defer c) (hrun : (execOp a.eval o).run P w = .ok (.value v) w')
    (h : wpAnyIn Fence.wide m P md ops Q f (listed.setIfInBounds i true) (a.put d v) w') : wpAnyIn Fence.wide m P md ops Q (f + 1) listed a w := by
  subst hdst
  exact anyW_one hr ho hw hd hrun h
theorem anyW_call {i : Nat} {o : Oper} {f g : Nat} {args : Array Value} {listed : Array Bool} {a : Act} {w w' : World} {Q : Exit → Act → World → Prop} (d : Option Tmp) (hr : Region.ready md ops listed = [i]) (ho : ops[i]? = some o) (hdst : o.dst = d) (hw : Region.wanted o (yielded ops a.tmps) = true) (hd : ∀ c, o.op ≠ .defer c) (hrun : (execOp a.eval o).run P w = .ok (.enter g args) w')
    (h : Calls P g args w' fun e w'' => ∃ v, e = .returned v ∧ wpAnyIn Fence.wide m P md ops Q f (listed.setIfInBounds i true) (a.put d v) w'') : wpAnyIn Fence.wide m P md ops Q (f + 1) listed a w := by
  subst hdst
  refine anyW_one hr ho hw hd hrun ⟨(fun hx => by cases hx), callsIn_wide.2 (h.mono fun e w'' ⟨v, he, hk⟩ => ?_)⟩
  subst he
  exact hk
theorem anyW_round {i l : Nat} {o : Oper} {f : Nat} {fn : FuncId} {tmps : Array Value} {assign body : Code} {listed : Array Bool} {a : Act} {w w' : World} {Q : Exit → Act → World → Prop} (d : Option Tmp) (hr : Region.ready md ops listed = [i]) (ho : ops[i]? = some o) (hdst : o.dst = d) (hw : Region.wanted o (yielded ops a.tmps) = true) (hd : ∀ c, o.op ≠ .defer c) (hrun : (execOp a.eval o).run P w = .ok (.round l fn tmps assign body) w')
    (h : RoundIn Fence.wide (m - 1) P l fn tmps assign body w' fun e w'' => ∃ v, e = .returned v ∧ wpAnyIn Fence.wide m P md ops Q f (listed.setIfInBounds i true) (a.put d v) w'') : wpAnyIn Fence.wide m P md ops Q (f + 1) listed a w := by
  subst hdst
  refine anyW_one hr ho hw hd hrun ⟨(fun hx => by cases hx), h.mono fun e w'' ⟨v, he, hk⟩ => ?_⟩
  subst he
  exact hk
theorem anyW_take {i : Nat} {oi : Oper} {v : Value} {f : Nat} {listed : Array Bool} {a : Act} {w : World} {Q : Exit → Act → World → Prop} (d : Option Tmp) (hi : ops[i]? = some oi) (hdst : oi.dst = d)
    (hs : Region.noSelect ops = true) (hf : Region.free md ops listed i = true) (hr : (Region.ready md ops listed).contains i = true)
    (hQ : ∀ c a w, Q (.panic c) (a.put d v) w → Q (.panic c) a w) (hy : YieldsFenced P ops oi v a)
    (h : wpAnyIn Fence.wide m P md ops Q f (listed.setIfInBounds i true) (a.put d v) w) : wpAnyIn Fence.wide m P md ops Q (f + 1) listed a w := by
  subst hdst
  exact wpAnyIn_take rfl hi hs hf hr hQ hy h
end
end Go.Proofs.Ytfojhmobnedekaa

/- The walk of the heap's upTo: an iterator that takes from the heap. Conditions: what lies in the heap is short. -/
namespace Go.Proofs.Ytfojhmobnedekaa
open Go.RowKit

attribute [local go_sem] Oper.semAt_some

/-- A frame within the limits. -/
abbrev FrW := { x : Fr // (0 ≤ x.d ∧ x.d ≤ 2147483647) ∧ (0 ≤ x.n ∧ x.n ≤ 2147483647) }
theorem pupTo_any (w : World) (W bn : Nat) : Calls Try.prog 84 #[.pointer (some ⟨W, 0, none⟩), .func (.func 85) #[] #[.pointer (some ⟨bn, 0, none⟩)]] w fun e w' => e = .returned (.func (.func 116) #[] #[.pointer (some ⟨w.heap.size, 0, none⟩), .pointer (some ⟨w.heap.size + 1, 0, none⟩)]) ∧ w' = (w.alloc (.cells #[.pointer (some ⟨W, 0, none⟩)] 185)).alloc (.cells #[.func (.func 85) #[] #[.pointer (some ⟨bn, 0, none⟩)]] 165) := by
  go_enter Try.func84, Try.ntmps84
  go_wp2_with fail
  go_ret
  exact ⟨rfl, rfl⟩
/-- A heap that is taken from. -/
structure QP (B W bq bi bn : Nat) (now : Int) (kp h f m : Value) (a : Option Addr) (l : List Fr) (w : World) : Prop where
  hp : ∃ v, HpA B W l v kp h f m w ∧ v.ownBlock = oB a
  heap : Heap l
  q : w.cell? ⟨bq, 0, none⟩ = some (.pointer (some ⟨W, 0, none⟩))
  i : w.cell? ⟨bi, 0, none⟩ = some (.func (.func 85) #[] #[.pointer (some ⟨bn, 0, none⟩)])
  n : w.cell? ⟨bn, 0, none⟩ = some (.int .i64 now)
  qW : bq ≠ W
  iW : bi ≠ W
  nW : bn ≠ W
  qO : oB a ≠ some bq
  iO : oB a ≠ some bi
  nO : oB a ≠ some bn
theorem QP.kq {B W bq bi bn : Nat} {now : Int} {kp h f m : Value} {a : Option Addr} {l : List Fr} {A C : World} (p : QP B W bq bi bn now kp h f m a l A) (k : Kq W bq bi bn a A C) : QP B W bq bi bn now kp h f m a l C where
  hp := by
    obtain ⟨v, hv, he⟩ := p.hp
    exact ⟨v, ⟨(k.2 W (.inl rfl) (lt_of_block hv.box)).trans hv.box, own_frame3 hv.row fun g e hg => k.2 g (.inr (.inr (.inr (.inr (by rw [← he]; exact e))))) hg⟩, he⟩
  heap := p.heap
  q := (World.cell?_of_block (w := A) (k.2 bq (.inr (.inl rfl)) (block_lt_of_cell p.q))).trans p.q
  i := (World.cell?_of_block (w := A) (k.2 bi (.inr (.inr (.inl rfl))) (block_lt_of_cell p.i))).trans p.i
  n := (World.cell?_of_block (w := A) (k.2 bn (.inr (.inr (.inr (.inl rfl)))) (block_lt_of_cell p.n))).trans p.n
  qW := p.qW
  iW := p.iW
  nW := p.nW
  qO := p.qO
  iO := p.iO
  nO := p.nO
theorem QP.below {B W bq bi bn : Nat} {now : Int} {kp h f m : Value} {a : Option Addr} {l : List Fr} {A C : World} (p : QP B W bq bi bn now kp h f m a l A) (k : Below A.heap.size A C) : QP B W bq bi bn now kp h f m a l C := p.kq ⟨k.size, fun g _ hg => k.block g hg⟩
theorem HpA.isCells {B W : Nat} {l : List Fr} {v kp h f m : Value} {A : World} (q : HpA B W l v kp h f m A) : (∀ o, A.heap[W]? = some o → o.isCells = true) ∧ ∀ g, v.ownBlock = some g → ∀ o, A.heap[g]? = some o → o.isCells = true := by
  refine ⟨fun o ho => ?_, fun g hg o ho => ?_⟩
  · rw [q.box] at ho; injection ho with ho; subst ho; rfl
  · rcases q.row.2 with ⟨e, _⟩ | ⟨g', cap, cur, e, _, hh, _⟩
    · subst e; cases hg
    · subst e
      have e : g' = g := by injection hg
      subst e
      rw [hh] at ho; injection ho with ho; subst ho; rfl
/-- What the iterator's own steps may do: the map's place stays. -/
def SqM (W : Nat) (a : Option Addr) (A B : World) : Prop := Sq W a A B ∧ B.cell? ⟨W, 2, none⟩ = A.cell? ⟨W, 2, none⟩
theorem HpA.sqm {B W : Nat} {kp h f m v v' : Value} {a : Option Addr} {l l' : List Fr} {A C : World} (q : HpA B W l v kp h f m A) (he : v.ownBlock = oB a) (k : Keep W v A C) (q' : HpA B W l' v' kp h f m C) : SqM W a A C :=
  ⟨⟨⟨k.os, k.tape, k.output, k.size, fun g h1 h2 h3 => k.block g h1 h2 (by rw [he]; rw [own_oB] at h3; exact h3)⟩, q.isCells.1, fun g hg => q.isCells.2 g (by rw [he]; exact hg)⟩, by
    rw [(cell_of_block (j := 2) q.box), (cell_of_block (j := 2) q'.box)]; rfl⟩
/-- How long the heap is. -/
def hpLen (W : Nat) (w : World) : Nat := match w.cell? ⟨W, 0, none⟩ with
  | some (Value.slice _ n _) => n
  | _ => 0
theorem hpLen_eq {B W : Nat} {l : List Fr} {v kp h f m : Value} {w : World} (q : HpA B W l v kp h f m w) : hpLen W w = l.length := by
  obtain ⟨a, c, rfl⟩ := q.slice
  unfold hpLen
  have : w.cell? ⟨W, 0, none⟩ = some (.slice a l.length c) := (cell_of_block q.box).trans rfl
  rw [this]
/-- What has come, what is left. -/
def TakenAt (L : List Fr) (now : Int) (pre : List FrW) (l : List Fr) : Prop := (pre.map Subtype.val ++ l).Perm L ∧ ∀ x ∈ pre, x.1.d ≤ now
theorem TakenAt.step {L l' : List Fr} {now : Int} {pre : List FrW} {l : List Fr} (h : TakenAt L now pre l) (x : FrW) (hx : x.1.d ≤ now) (hp : (x.1 :: l').Perm l) : TakenAt L now (pre ++ [x]) l' := by
  refine ⟨?_, fun y hy => ?_⟩
  · rw [List.map_append, List.append_assoc]
    exact (hp.append_left _).trans h.1
  · rcases List.mem_append.1 hy with hy | hy
    · exact h.2 y hy
    · rw [List.mem_singleton.1 hy]; exact hx

set_option maxHeartbeats 4000000 in
set_option maxRecDepth 100000 in
/-- The iterator itself. -/
theorem pupto_in (nn : Nat) (_hn : 1 ≤ nn) (l B W : Nat) (bq bi bn : Nat) (now : Int) (kp h f m : Value) (a : Option Addr) (L : List Fr) (hLn : L.length ≤ 100000) (hrng : ∀ x ∈ L, (0 ≤ x.d ∧ x.d ≤ 2147483647) ∧ (0 ≤ x.n ∧ x.n ≤ 2147483647)) (J : List FrW → World → Prop) (hJ : ∀ s A B, J s A → SqM W a A B → J s B)
    (hY : ∀ pre x W1, J pre W1 → pre.length < L.length → YieldAt Fence.wide (nn - 1) Try.prog l #[x.1.v] W1 fun e W' => e = .returned (.bool true) ∧ J (pre ++ [x]) W' ∧ Kq W bq bi bn a W1 W')
    (w : World) (hQ : QP B W bq bi bn now kp h f m a L w) (h0 : J [] w) :
    CallsIn Fence.wide nn Try.prog 116 #[.func (.yield l) #[] #[], .pointer (some ⟨bq, 0, none⟩), .pointer (some ⟨bi, 0, none⟩)] w fun e W' => (∃ v, e = .returned v) ∧ ∃ xs, (∃ l', TakenAt L now xs l' ∧ (∀ y ∈ l', ¬ y.d ≤ now) ∧ QP B W bq bi bn now kp h f m a l' W') ∧ J xs W' := by
  have HQ := Lib.hid hQ
  have HJ := Lib.hid hJ
  have HY := Lib.hid hY
  have h0 := Lib.hid h0
  have HR := Lib.hid hrng
  clear hQ hJ hY hrng
  refine callsIn_of_wp Try.func116 rfl trivial ?_ rfl
  simp only [Try.ntmps116, List.size_toArray, List.length_cons, List.length_nil, Nat.reduceAdd, Nat.reduceSub, Array.replicate_succ, Array.replicate_zero, List.push_toArray, List.append_toArray, List.nil_append, List.cons_append]
  gi_wp2
  gi_loopw [4] (fun _ wr => ∃ (pre : List FrW) (rest : List Fr), Hid (TakenAt L now pre rest) ∧ Hid (J pre wr) ∧ Hid (QP B W bq bi bn now kp h f m a rest wr)) (fun _ wr => hpLen W wr)
  case atStart => exact ⟨[], L, ⟨List.Perm.refl _, fun x hx => absurd hx (by simp)⟩, h0, HQ⟩
  case round =>
    obtain ⟨pre, rest, HT, HJ0, HQ0⟩ := hrel
    obtain ⟨v, HV0⟩ : ∃ v, Hid (HpA B W rest v kp h f m wr ∧ v.ownBlock = oB a) := by
      obtain ⟨v, h1⟩ := HQ0.out.hp
      exact ⟨v, h1⟩
    cases rest with
    | nil =>
      obtain ⟨av, cv, rfl⟩ := HV0.out.1.slice
      have L0 := fun z : Lies wr => lies_cell HQ0.out.q z
      have L1 := fun z : Lies wr => lies_cell ((cell_of_block HV0.out.1.box).trans rfl : wr.cell? ⟨W, 0, none⟩ = some (.slice av 0 cv)) z
      refine wpIn_wide.2 ?_
      go_upto_region 0 with fail
      refine region_lies (by rfl) (by decide +kernel) ?_
      repeat (go_big_quiet_step (fail))
      refine wpQuiet_nil ?_
      intro _ hw'
      obtain ⟨z, rfl⟩ := hw'
      have HZ := Lib.hid (show Below wr.heap.size wr z.1 from z.2)
      clear L0 L1
      generalize z.1 = wz at *
      clear z
      have hfin : ∃ xs, (∃ l', TakenAt L now xs l' ∧ (∀ y ∈ l', ¬ y.d ≤ now) ∧ QP B W bq bi bn now kp h f m a l' wz) ∧ J xs wz :=
        ⟨pre, ⟨[], HT.out, (fun y hy => by cases hy), HQ0.out.below HZ.out⟩, HJ.out _ _ _ HJ0.out (HV0.out.1.sqm HV0.out.2 (Keep.of_below HZ.out) (HV0.out.1.below HZ.out))⟩
      have HFIN := Lib.hid hfin
      clear hfin
      go_wp2_with fail
      exact bodyPost_end (v := .tuple #[]) (results_none rfl _ _ _) rfl ⟨⟨_, rfl⟩, HFIN.out⟩
    | cons y rest =>
      obtain ⟨av, cv, rfl⟩ := HV0.out.1.slice
      obtain ⟨g, c', hv1, y0, y1⟩ := frow_at HV0.out.1.row (k := 0) (by simp)
      obtain ⟨rfl, rfl⟩ : av = some ⟨g, 0, none⟩ ∧ cv = c' := by injection hv1 with h1 _ h2; exact ⟨h1, h2⟩
      rw [show hv (y :: rest) 0 = y from rfl, Nat.zero_mul] at y0
      rw [show hv (y :: rest) 0 = y from rfl, Nat.zero_mul, Nat.zero_add] at y1
      obtain ⟨yd, hyd⟩ : ∃ yd, yd = y.d := ⟨_, rfl⟩
      obtain ⟨yn, hyn⟩ : ∃ yn, yn = y.n := ⟨_, rfl⟩
      rw [← hyd] at y0
      rw [← hyn] at y1
      have HYD := Lib.hid (And.intro hyd hyn)
      have c1 : wr.cell? ⟨W, 0, none⟩ = some (.slice (some ⟨g, 0, none⟩) (rest.length + 1) cv) := (cell_of_block HV0.out.1.box).trans rfl
      have L0 := fun z : Lies wr => lies_cell HQ0.out.q z
      have L1 := fun z : Lies wr => lies_cell c1 z
      have L2 := fun z : Lies wr => lies_cell HQ0.out.i z
      have L3 := fun z : Lies wr => lies_cell y0 z
      have L4 := fun z : Lies wr => lies_cell y1 z
      have H85 : Hid (∀ z : Lies wr, Calls Try.prog 85 #[.agg #[.int .i64 yd, .int .i64 yn], .pointer (some ⟨bn, 0, none⟩)] z.1 fun e w' => e = .returned (.bool (decide (yd ≤ now))) ∧ Below z.1.heap.size z.1 w') := fun z => isfr_any ⟨yd, yn⟩ (lies_cell HQ0.out.n z)
      by_cases hd : y.d ≤ now
      · have d1 : decide (yd ≤ now) = true := decide_eq_true (by rw [hyd]; exact hd)
        rw [d1] at H85
        have HD := Lib.hid hd
        clear hv1 y0 y1 hyd hyn c1 hd d1
        refine wpIn_wide.2 ?_
        go_upto_region 0 with fail
        refine (wpIn_wide (n := nn)).1 ?_
        refine region_lschY (fun w' => ∃ z : Lies wr, w' = z.1) 16 #[true, true, true, true, true, true, true, true, true, true, true, true, true, true, true, true, false, false, false, false, false, false] [([0, 1, 2, 3], 4), ([5, 6, 7, 8, 9, 10, 11, 12, 13], 14), ([], 15)] (by rfl) (by decide +kernel) ⟨⟨wr.drew, (Below.refl _ _).drew⟩, rfl⟩ ?_
        unfold lschP
        simp only [pickL, List.filterMap_cons, List.filterMap_nil, List.getElem?_toArray, List.getElem?_cons_zero, List.getElem?_cons_succ]
        show wpQuiet _ _ _ _ [_, _, _, _] _
        repeat (go_big_quiet_step (fail))
        refine wpQuiet_nil ?_
        refine mvP_value (v := .int .i64 ((rest.length + 1 : Nat) : Int)) (w' := wr.drew) (some 8) rfl rfl rfl (by first | (go_simp; done) | (go_simp; rfl)) ⟨⟨⟨wr.drew, (Below.refl _ _).drew⟩, rfl⟩, ?_⟩
        simp only [Act.put, List.setIfInBounds_toArray, List.set_cons_succ, List.set_cons_zero]
        unfold lschP
        simp only [pickL, List.filterMap_cons, List.filterMap_nil, List.getElem?_toArray, List.getElem?_cons_zero, List.getElem?_cons_succ]
        show wpQuiet _ _ _ _ [_, _, _, _, _, _, _, _, _] _
        repeat (go_big_quiet_step (fail))
        refine wpQuiet_nil ?_
        refine mvP_call (f := 85) (args := #[.agg #[.int .i64 yd, .int .i64 yn], .pointer (some ⟨bn, 0, none⟩)]) (w' := wr.drew) (some 18) rfl rfl rfl (by first | (go_simp; done) | (go_simp; rfl)) ((H85.out ⟨wr.drew, (Below.refl _ _).drew⟩).mono ?_)
        rintro e w6 ⟨rfl, hb6⟩
        have hb6 : Below wr.heap.size wr w6 := (Below.refl _ _).drew.trans hb6
        refine ⟨_, rfl, ⟨⟨w6, hb6⟩, rfl⟩, ?_⟩
        simp only [Act.put, List.setIfInBounds_toArray, List.set_cons_succ, List.set_cons_zero]
        unfold lschP
        simp only [pickL, List.filterMap_nil]
        refine wpQuiet_nil ?_
        refine mvP_value (v := .bool true) (w' := w6) (some 19) rfl rfl rfl (by first | (go_simp; done) | (go_simp; rfl)) ⟨⟨⟨w6, hb6⟩, rfl⟩, ?_⟩
        simp only [Act.put, List.setIfInBounds_toArray, List.set_cons_succ, List.set_cons_zero]
        unfold lschP
        have q0 : w6.cell? ⟨bq, 0, none⟩ = some (.pointer (some ⟨W, 0, none⟩)) := L0 ⟨w6, hb6⟩
        have HPOP := Lib.hid (hpop_any (HV0.out.1.below hb6) (by
          have h1 := HT.out.1.length_eq
          rw [List.length_append] at h1; omega) HQ0.out.heap (by simp))
        rw [show (hv (y :: rest) 0).v = .agg #[.int .i64 yd, .int .i64 yn] by rw [HYD.out.1, HYD.out.2]; rfl] at HPOP
        have HB6 := Lib.hid hb6
        clear L0 L1 L2 L3 L4 H85 hb6
        refine anyW_value (i := 16) (v := .bool true) (w' := w6) (some 20) (by kernel_rfl) rfl rfl rfl (fun c e => by cases e) (by first | (go_simp; done) | (go_simp; rfl)) ?_
        simp only [Act.put, List.setIfInBounds_toArray, List.set_cons_succ, List.set_cons_zero]
        refine anyW_take (i := 17) (v := .func (.yield l) #[] #[]) (some 21) rfl rfl (by kernel_rfl) (by kernel_rfl) (by kernel_rfl) (fun _ _ _ h => h) ⟨Or.inl ⟨by rfl, fun w => by first | (go_simp; done) | (go_simp; rfl)⟩, fun _ => rfl⟩ ?_
        simp only [Act.put, List.setIfInBounds_toArray, List.set_cons_succ, List.set_cons_zero]
        refine anyW_value (i := 18) (v := .pointer (some ⟨W, 0, none⟩)) (w' := w6) (some 22) (by kernel_rfl) rfl rfl rfl (fun c e => by cases e) (by first | (go_simp; done) | (go_simp; rfl)) ?_
        simp only [Act.put, List.setIfInBounds_toArray, List.set_cons_succ, List.set_cons_zero]
        refine anyW_call (i := 19) (g := 81) (args := #[.pointer (some ⟨W, 0, none⟩)]) (w' := w6) (some 23) (by kernel_rfl) rfl rfl rfl (fun c e => by cases e) (by first | (go_simp; done) | (go_simp; rfl)) (HPOP.out.mono ?_)
        rintro e w7 ⟨rfl, v7, l7, hh7, hp7, hq7, hk7, ho7⟩
        refine ⟨_, rfl, ?_⟩
        simp only [Act.put, List.setIfInBounds_toArray, List.set_cons_succ, List.set_cons_zero]
        have hkw7 : Keep W (.slice (some ⟨g, 0, none⟩) (rest.length + 1) cv) wr w7 := (Keep.of_below HB6.out).trans (Nxt.refl _ _) hk7
        have hyL : y ∈ L := HT.out.1.mem_iff.1 (List.mem_append_right _ List.mem_cons_self)
        have hgo : oB a = some g := HV0.out.2.symm
        have hc7 : ∀ b, b < wr.heap.size → b ≠ W → oB a ≠ some b → w7.heap[b]? = wr.heap[b]? := fun b h1 h2 h3 => hkw7.block b h1 h2 (fun e => h3 (by rw [hgo]; exact e))
        have hQ7 : QP B W bq bi bn now kp h f m a l7 w7 :=
          ⟨⟨v7, hq7, ho7.trans HV0.out.2⟩, hh7, (World.cell?_of_block (w := wr) (hc7 bq (block_lt_of_cell HQ0.out.q) HQ0.out.qW HQ0.out.qO)).trans HQ0.out.q, (World.cell?_of_block (w := wr) (hc7 bi (block_lt_of_cell HQ0.out.i) HQ0.out.iW HQ0.out.iO)).trans HQ0.out.i, (World.cell?_of_block (w := wr) (hc7 bn (block_lt_of_cell HQ0.out.n) HQ0.out.nW HQ0.out.nO)).trans HQ0.out.n, HQ0.out.qW, HQ0.out.iW, HQ0.out.nW, HQ0.out.qO, HQ0.out.iO, HQ0.out.nO⟩
        have hJ7 := HJ.out _ _ _ HJ0.out (HV0.out.1.sqm HV0.out.2 hkw7 hq7)
        have hlt : pre.length < L.length := by
          have h1 := HT.out.1.length_eq
          rw [List.length_append, List.length_map, List.length_cons] at h1; omega
        have HT7 := Lib.hid (HT.out.step (l' := l7) ⟨y, HR.out y hyL⟩ HD.out hp7)
        obtain ⟨fn, tmps, assign, body, hy, hR⟩ := HY.out pre ⟨y, HR.out y hyL⟩ w7 hJ7 hlt
        have hyv : (⟨y, HR.out y hyL⟩ : FrW).1.v = .agg #[.int .i64 yd, .int .i64 yn] := by rw [HYD.out.1, HYD.out.2]; rfl
        rw [hyv] at hy
        have HQ7 := Lib.hid hQ7
        have HL7 : Hid (l7.length = rest.length) := by
          have := hp7.length_eq
          simp only [List.length_cons, Nat.add_right_cancel_iff] at this
          exact this
        have HQL := Lib.hid (hpLen_eq HV0.out.1)
        clear hq7 hk7 ho7 hh7 hp7 hkw7 hgo hc7 hQ7 hJ7 hlt hyv HPOP HB6 q0
        refine anyW_round (i := 20) (l := l) (fn := fn) (tmps := tmps) (assign := assign) (body := body) (w' := w7) (some 24) (by kernel_rfl) rfl rfl rfl (fun c e => by cases e) (by first | (go_simp; done) | (go_simp; rfl)) (hR.mono ?_)
        rintro e w8 ⟨rfl, hJ8, hk8⟩
        have HQ8 := Lib.hid (HQ7.out.kq hk8)
        have HJ8 := Lib.hid hJ8
        clear hJ8 hk8 hR hy
        refine ⟨_, rfl, ?_⟩
        simp only [Act.put, List.setIfInBounds_toArray, List.set_cons_succ, List.set_cons_zero]
        refine anyW_value (i := 21) (v := .bool true) (w' := w8) (some 25) (by kernel_rfl) rfl rfl rfl (fun c e => by cases e) (by first | (go_simp; done) | (go_simp; rfl)) ?_
        simp only [Act.put, List.setIfInBounds_toArray, List.set_cons_succ, List.set_cons_zero]
        refine wpAnyIn_done (by kernel_rfl) ?_ _
        go_wp2_with fail
        go_roundw
        case rel => exact ⟨_, l7, HT7, HJ8, HQ8⟩
        case measure =>
          obtain ⟨v8, h8, _⟩ := HQ8.out.hp
          rw [hpLen_eq h8, HQL.out, HL7.out]; simp
      · have d1 : decide (yd ≤ now) = false := decide_eq_false (by rw [hyd]; exact hd)
        rw [d1] at H85
        have HD := Lib.hid hd
        clear hv1 y0 y1 hyd hyn c1 hd d1
        refine wpIn_wide.2 ?_
        go_upto_region 0 with fail
        refine region_lies (by rfl) (by decide +kernel) ?_
        repeat (go_big_quiet_step ((go_at_call 85; exact Lies.call (H85.out _))))
        refine wpQuiet_nil ?_
        intro _ hw'
        obtain ⟨z, rfl⟩ := hw'
        have HZ := Lib.hid (show Below wr.heap.size wr z.1 from z.2)
        clear L0 L1 L2 L3 L4 H85
        generalize z.1 = wz at *
        clear z
        have hfin : ∃ xs, (∃ l', TakenAt L now xs l' ∧ (∀ y ∈ l', ¬ y.d ≤ now) ∧ QP B W bq bi bn now kp h f m a l' wz) ∧ J xs wz :=
          ⟨pre, ⟨y :: rest, HT.out, (fun u hu => by
            have := heap_le HQ0.out.heap u hu
            rw [show hv (y :: rest) 0 = y from rfl, Fr.le_iff] at this
            have := HD.out
            omega), HQ0.out.below HZ.out⟩, HJ.out _ _ _ HJ0.out (HV0.out.1.sqm HV0.out.2 (Keep.of_below HZ.out) (HV0.out.1.below HZ.out))⟩
        have HFIN := Lib.hid hfin
        clear hfin
        go_wp2_with fail
        exact bodyPost_end (v := .tuple #[]) (results_none rfl _ _ _) rfl ⟨⟨_, rfl⟩, HFIN.out⟩
end Go.Proofs.Ytfojhmobnedekaa

/- The walk of the past's Expire. Conditions: what the past holds reads as one. -/
namespace Go.Proofs.Ytfojhmobnedekaa
open Go.RowKit

attribute [local go_sem] Oper.semAt_some

theorem MapOf.drop {m : Nat} {S : List Int} {w : World} (h : MapOf m S w) {x : Int} (hx : (Lit.int .i64 x).wf = true) (ty : TypeId) : ∃ w', (Builtin.delete_ #[155, 3] ty #[.map (some m), .int .i64 x]).run Try.prog w = .ok (.tuple #[]) w' ∧ MapOf m (S.filter fun y => decide (y ≠ x)) w' ∧ w.grownBy w' (some m) ∧ w'.heap.size = w.heap.size := by
  by_cases hn : x ∈ S
  · obtain ⟨w', h1, h2, h3, h4⟩ := h.del hx hn ty
    refine ⟨w', h1, ?_, h3, h4⟩
    have e : S.filter (fun y => decide (y ≠ x)) = S.erase x := by
      rw [h.1.erase_eq_filter]
      refine List.filter_congr fun y _ => ?_
      by_cases e : y = x <;> simp [e]
    rw [e]; exact h2
  · have e : S.filter (fun y => decide (y ≠ x)) = S := List.filter_eq_self.2 fun y hy => decide_eq_true fun e => hn (e ▸ hy)
    rw [e]
    obtain ⟨h0, D, h1, h2, h3⟩ := h
    have hkey := Maps.keyOf_int_mk Try.underlying3 hx
    obtain ⟨w', hrun, k1, k2⟩ := h1.drop law3 Try.underlying155 hkey ty
    have hsz := Maps.size_del (k := .int .i64 x) (h1.tidy law3)
    rw [(h3 x hx).1, decide_eq_false hn] at hsz
    have hsz2 : Maps.size (D.del (.int .i64 x)) = S.length := by rw [← h2]; simpa using hsz
    refine ⟨w', hrun, ⟨h0, D.del (.int .i64 x), ?_, hsz2, fun y hy => ?_⟩, k2.grown, ?_⟩
    · have := own_tight k1
      rw [hsz2] at this; exact this
    · by_cases e : y = x
      · subst e
        rw [decide_eq_false hn, if_neg hn]
        exact ⟨Maps.has_del_same, Maps.atKey_del_same _⟩
      · rw [Maps.has_del_other (key_ne e), Maps.atKey_del_other (key_ne e)]
        exact h3 y hy
    · obtain ⟨_, _, _, _, _, e⟩ := k2
      rw [e]; simp [ChangeMaps.setBlock]
/-- The numbers that are left. -/
def leftN (S0 : List Int) (pre : List FrW) : List Int := S0.filter fun n => decide (n ∉ pre.map fun x => x.1.n)
theorem leftN_nil (S0 : List Int) : leftN S0 [] = S0 := List.filter_eq_self.2 fun y _ => by simp
theorem leftN_snoc (S0 : List Int) (pre : List FrW) (x : FrW) : leftN S0 (pre ++ [x]) = (leftN S0 pre).filter fun y => decide (y ≠ x.1.n) := by
  unfold leftN
  rw [List.filter_filter]
  refine List.filter_congr fun y _ => ?_
  rw [← Bool.decide_and]
  refine decide_eq_decide.2 ?_
  rw [List.map_append]
  refine ⟨fun h => ⟨fun e => h (List.mem_append_right _ (by simp [e])), fun hm => h (List.mem_append_left _ hm)⟩, fun ⟨h1, h2⟩ hm => ?_⟩
  rcases List.mem_append.1 hm with a | b
  · exact h2 a
  · exact h1 (by simpa using b)
theorem leftN_perm {l l' : List Fr} {xs : List FrW} (hp : (xs.map Subtype.val ++ l').Perm l) (hn : (l.map Fr.n).Nodup) : (leftN (l.map Fr.n) xs).Perm (l'.map Fr.n) := by
  have hx : (xs.map Subtype.val).map Fr.n = xs.map fun x => x.1.n := by rw [List.map_map]; rfl
  have h1 := (hp.map Fr.n).symm
  have h2 := h1.nodup_iff.1 hn
  rw [List.map_append, hx] at h1 h2
  have h3 := h1.filter fun n => decide (n ∉ xs.map fun x => x.1.n)
  have e1 : (xs.map fun x => x.1.n).filter (fun n => decide (n ∉ xs.map fun x => x.1.n)) = [] := List.filter_eq_nil_iff.2 fun y hy => by
    rw [decide_eq_true_eq]; exact fun h => h hy
  have e2 : (l'.map Fr.n).filter (fun n => decide (n ∉ xs.map fun x => x.1.n)) = l'.map Fr.n := List.filter_eq_self.2 fun y hy => decide_eq_true fun hm => (List.nodup_append.1 h2).2.2 y hm y hy rfl
  rw [List.filter_append, e1, e2, List.nil_append] at h3
  exact h3
/-- Between the rounds. -/
structure ExpI (w0 : World) (n0 W mb bp bm : Nat) (S0 : List Int) (v : Value) (pre : List FrW) (A : World) : Prop where
  many : A.heap[bm]? = some (.cells #[.int .i64 pre.length] 3 (0, 0))
  ptr : A.heap[bp]? = some (.cells #[.pointer (some ⟨W, 0, none⟩)] 94 (0, 0))
  mcell : A.cell? ⟨W, 2, none⟩ = some (.map (some mb))
  mp : MapOf mb (leftN S0 pre) A
  keep : KeepM W mb v w0 A
  low : n0 ≤ A.heap.size
theorem ExpI.own {w0 : World} {n0 W mb bp bm : Nat} {S0 : List Int} {v : Value} (h0 : w0.heap.size ≤ n0) (h1 : W < n0) (h2 : mb < n0) (h3 : bp < n0) (h4 : bm < n0) : OwnFrom n0 (ExpI w0 n0 W mb bp bm S0 v) := fun s A B row h hg hr => by
  have hk : ∀ g, g < n0 → g < A.heap.size → B.heap[g]? = A.heap[g]? := fun g h1 h2 => hg.block g h2 (fun e => by have := (hr g e.symm).1; omega)
  exact ⟨(hk bm h4 (lt_of_block h.many)).trans h.many, (hk bp h3 (lt_of_block h.ptr)).trans h.ptr, (World.cell?_of_block (w := A) (hk W h1 (block_lt_of_cell h.mcell))).trans h.mcell, h.mp.of_block (hk mb h2 h.mp.lt), ⟨hg.os.trans h.keep.os, hg.tape.trans h.keep.tape, hg.output.trans h.keep.output, Nat.le_trans h.keep.size hg.size, fun g a1 a2 a3 a4 => (hk g (by omega) (Nat.lt_of_lt_of_le a1 h.keep.size)).trans (h.keep.block g a1 a2 a3 a4)⟩, Nat.le_trans h.low hg.size⟩
theorem ExpI.sq {w0 A C : World} {n0 W mb bp bm : Nat} {S0 : List Int} {v : Value} {a : Option Addr} {pre : List FrW} (h : ExpI w0 n0 W mb bp bm S0 v pre A) (hv : v.ownBlock = oB a) (h1 : bm ≠ W ∧ oB a ≠ some bm) (h2 : bp ≠ W ∧ oB a ≠ some bp) (h3 : mb ≠ W ∧ oB a ≠ some mb) (k : SqM W a A C) : ExpI w0 n0 W mb bp bm S0 v pre C := by
  have hk : ∀ g, g < A.heap.size → g ≠ W ∧ oB a ≠ some g → C.heap[g]? = A.heap[g]? := fun g h1 h2 => k.1.1.block g h1 h2.1 (by rw [own_oB]; exact h2.2)
  exact ⟨(hk bm (lt_of_block h.many) h1).trans h.many, (hk bp (lt_of_block h.ptr) h2).trans h.ptr, k.2.trans h.mcell, h.mp.of_block (hk mb h.mp.lt h3), h.keep.trans (Nxt.refl _ _) ⟨k.1.1.os, k.1.1.tape, k.1.1.output, k.1.1.size, fun g a1 a2 _ a4 => hk g a1 ⟨a2, by rw [← hv]; exact a4⟩⟩, Nat.le_trans h.low k.1.1.size⟩
/-- A round's own variable. -/
def ExpAx (n0 bp bn bm : Nat) (x : FrW) (a' : Act) (A : World) : Prop := ∃ Bx, n0 ≤ Bx ∧ A.heap[Bx]? = some (.cells #[.int .i64 x.1.d, .int .i64 x.1.n] 149 (0, 0)) ∧
  ∃ t0 t1 t6 t7 t8 t9 t10 t11 t12 t13 : Value, a' = { tmps := #[t0, t1, .pointer (some ⟨bp, 0, none⟩), .pointer (some ⟨bn, 0, none⟩), .pointer (some ⟨bm, 0, none⟩), .pointer (some ⟨Bx, 0, none⟩), t6, t7, t8, t9, t10, t11, t12, t13, .agg #[.int .i64 x.1.d, .int .i64 x.1.n], undef, undef, undef, undef, undef, undef, undef, undef, undef], defers := [] }
theorem ExpAx.own (n0 bp bn bm : Nat) (x : FrW) (a' : Act) : OwnFrom n0 (fun (_ : Unit) A => ExpAx n0 bp bn bm x a' A) := fun _ A B row h hg hr => by
  obtain ⟨Bx, h1, h2, h3⟩ := h
  refine ⟨Bx, h1, (hg.block Bx (lt_of_block h2) (fun e => ?_)).trans h2, h3⟩
  obtain ⟨_, o, ho, hc⟩ := hr Bx e.symm
  rw [h2] at ho; injection ho with ho; subst ho; cases hc
/-- What Expire leads to. -/
def ExpTo (l : List Fr) (now : Int) (l' : List Fr) : Prop := ∃ xs : List Fr, (xs ++ l').Perm l ∧ (∀ x ∈ xs, x.d ≤ now) ∧ ∀ y ∈ l', ¬ y.d ≤ now
def ExpRes (B W mb : Nat) (now : Int) (kp : Nat) (l : List Fr) (h : Int) (f : Nat) (v : Value) (w w' : World) : Prop := ∃ l' v', ExpTo l now l' ∧ PB B W mb l' kp h f v' w' ∧ KeepM W mb v w w' ∧ v'.ownBlock = v.ownBlock
theorem boxes5 (w : World) (o1 o2 o3 o4 o5 : Obj) : Below w.heap.size w (((((w.alloc o1).alloc o2).alloc o3).alloc o4).alloc o5) ∧ (((((w.alloc o1).alloc o2).alloc o3).alloc o4).alloc o5).heap.size = w.heap.size + 5 ∧ (((((w.alloc o1).alloc o2).alloc o3).alloc o4).alloc o5).heap[w.heap.size]? = some o1 ∧ (((((w.alloc o1).alloc o2).alloc o3).alloc o4).alloc o5).heap[w.heap.size + 1]? = some o2 ∧ (((((w.alloc o1).alloc o2).alloc o3).alloc o4).alloc o5).heap[w.heap.size + 2]? = some o3 ∧ (((((w.alloc o1).alloc o2).alloc o3).alloc o4).alloc o5).heap[w.heap.size + 3]? = some o4 ∧ (((((w.alloc o1).alloc o2).alloc o3).alloc o4).alloc o5).heap[w.heap.size + 4]? = some o5 := by
  obtain ⟨h1, h2, h3, h4, h5, h6⟩ := boxes4 w o1 o2 o3 o4
  have hk := fun g (h : g < w.heap.size + 4) => Below.heap_alloc ((((w.alloc o1).alloc o2).alloc o3).alloc o4) o5 g (by rw [h2]; exact h)
  have hn := World.alloc_heap_new ((((w.alloc o1).alloc o2).alloc o3).alloc o4) o5
  rw [h2] at hn
  exact ⟨h1.alloc (by rw [h2]; omega) _, by rw [World.size_alloc, h2], (hk _ (by omega)).trans h3, (hk _ (by omega)).trans h4, (hk _ (by omega)).trans h5, (hk _ (by omega)).trans h6, hn⟩

set_option maxHeartbeats 4000000 in
set_option maxRecDepth 100000 in
theorem pexpire_in (nn : Nat) (hnn : 5 ≤ nn) {w : World} {B W mb kp f : Nat} {l : List Fr} {h : Int} {v : Value} (p : PB B W mb l kp h f v w) (now : Int) :
    CallsIn Fence.wide nn Try.prog 54 #[.pointer (some ⟨W, 0, none⟩), .int .i64 now] w fun e w' => (∃ k : Nat, e = .returned (.int .i64 k)) ∧ ExpRes B W mb now kp l h f v w w' := by
  obtain ⟨hB1, hz, hbp, hbn, hbm, hbq, hbi⟩ := boxes5 w (.cells #[.pointer (some ⟨W, 0, none⟩)] 94) (.cells #[.int .i64 now] 3) (.cells #[.int .i64 0] 3) (.cells #[.pointer (some ⟨W, 0, none⟩)] 185) (.cells #[.func (.func 85) #[] #[.pointer (some ⟨w.heap.size + 1, 0, none⟩)]] 165)
  have HP := Lib.hid p
  have hb3 : Below w.heap.size w (((w.alloc (.cells #[.pointer (some ⟨W, 0, none⟩)] 94)).alloc (.cells #[.int .i64 now] 3)).alloc (.cells #[.int .i64 0] 3)) := (((Below.refl _ _).alloc (Nat.le_refl _) _).alloc (by simp) _).alloc (by simp; omega) _
  have HM := Lib.hid (pmade_any (p.hp.below hb3).box)
  clear p hb3
  refine callsIn_of_wp_marks Try.func54 rfl trivial ?_ rfl
  simp only [Try.ntmps54, List.size_toArray, List.length_cons, List.length_nil, Nat.reduceAdd, Nat.reduceSub, Array.replicate_succ, Array.replicate_zero, List.push_toArray, List.append_toArray, List.nil_append, List.cons_append]
  refine wpIn_wide.2 ?_
  go_wp2_with fail
  refine HM.out.mono ?_
  rintro e w1 ⟨rfl, rfl⟩
  go_wp2_with fail
  refine (pupTo_any _ _ _).mono ?_
  rintro e w1 ⟨rfl, rfl⟩
  clear HM
  go_wp2_with fail
  generalize ((((w.alloc (.cells #[.pointer (some ⟨W, 0, none⟩)] 94)).alloc (.cells #[.int .i64 now] 3)).alloc (.cells #[.int .i64 0] 3)).alloc (.cells #[.pointer (some ⟨W, 0, none⟩)] 185)).alloc (.cells #[.func (.func 85) #[] #[.pointer (some ⟨w.heap.size + 1, 0, none⟩)]] 165) = w5 at *
  obtain ⟨a, c, rfl⟩ := HP.out.hp.slice
  have hWl : W < w.heap.size := lt_of_block HP.out.hp.box
  have hml : mb < w.heap.size := HP.out.mp.lt
  have hal : ∀ g, oB a = some g → g < w.heap.size := fun g e => HP.out.vlt g (by rw [own_oB]; exact e)
  have hmW : mb ≠ W := HP.out.mW
  have hmV : oB a ≠ some mb := by have := HP.out.mV; rwa [own_oB] at this
  have hl : l.length ≤ 100000 := by have := HP.out.len; have := HP.out.top; omega
  have hp5 := HP.out.below hB1
  have hQ5 : QP B W (w.heap.size + 3) (w.heap.size + 4) (w.heap.size + 1) now (.int .i64 kp) (.int .i64 h) (.int .i64 f) (.map (some mb)) a l w5 :=
    ⟨⟨_, hp5.hp, own_oB _ _ _⟩, hp5.heap, (cell_of_block hbq).trans rfl, (cell_of_block hbi).trans rfl, (cell_of_block hbn).trans rfl, by omega, by omega, by omega, fun e => (by have := hal _ e; omega), fun e => (by have := hal _ e; omega), fun e => (by have := hal _ e; omega)⟩
  have hlist : ∀ g, (g = W ∨ g = w.heap.size + 3 ∨ g = w.heap.size + 4 ∨ g = w.heap.size + 1 ∨ oB a = some g) → g < w5.heap.size := fun g h => by
    rcases h with h | h | h | h | h
    all_goals first | omega | (have := hal g h; omega)
  have HI0 : ExpI w w5.heap.size W mb w.heap.size (w.heap.size + 2) (l.map Fr.n) (.slice a l.length c) [] w5 :=
    ⟨hbm, hbp, (cell_of_block hp5.hp.box).trans rfl, by rw [leftN_nil]; exact hp5.mp, KeepM.of_below hB1, Nat.le_refl _⟩
  have hmn : w.heap.size + 2 ≠ W ∧ oB a ≠ some (w.heap.size + 2) := ⟨by omega, fun e => by have := hal _ e; omega⟩
  have hpn : w.heap.size ≠ W ∧ oB a ≠ some w.heap.size := ⟨by omega, fun e => by have := hal _ e; omega⟩
  refine (wpIn_wide (n := nn)).1 ?_
  refine wpIn_rangeCells rfl (by omega) (gf := 116) (lb := #[.pointer (some ⟨w.heap.size + 3, 0, none⟩), .pointer (some ⟨w.heap.size + 4, 0, none⟩)]) rfl trivial (enters_of Try.func116 (by kernel_rfl) rfl)
    (encs := fun x : FrW => #[x.1.v]) (Kp := Kq W (w.heap.size + 3) (w.heap.size + 4) (w.heap.size + 1) a) (St := SqM W a) (S := fun xs A => ∃ l', TakenAt l now xs l' ∧ (∀ y ∈ l', ¬ y.d ≤ now) ∧ QP B W (w.heap.size + 3) (w.heap.size + 4) (w.heap.size + 1) now (.int .i64 kp) (.int .i64 h) (.int .i64 f) (.map (some mb)) a l' A) (N := l.length)
    (fun W1 hB lo J hJ hY h0 => pupto_in (nn - 1) (by omega) lo B W _ _ _ now _ _ _ _ a l hl HP.out.rng J hJ hY W1 (hQ5.below hB) h0)
    (fun A C h k o hk ho => h.1.kept k o hk ho) kq_trans (fun A l o o' h1 h2 h3 => kq_of hlist (grownBy_putObj' A l o') (fun r e => by injection e with e; omega)) (fun _ => rfl)
    (fun s A C row h hg hr => by
      obtain ⟨l', h1, h2, h3⟩ := h
      exact ⟨l', h1, h2, h3.kq (kq_of hlist hg fun r e => (hr r e).1)⟩)
    (ExpI w w5.heap.size W mb w.heap.size (w.heap.size + 2) (l.map Fr.n) (.slice a l.length c)) (ExpI.own (by omega) (by omega) (by omega) (by omega) (by omega))
    (fun s A C h k => h.sq (own_oB _ _ _) hmn hpn ⟨hmW, hmV⟩ k) HI0
    (ExpAx w5.heap.size w.heap.size (w.heap.size + 1) (w.heap.size + 2)) (ExpAx.own _ _ _ _) ?assign ?body ?done
  case assign =>
    intro lo pre x A K hI hK
    unfold Fr.v
    gi_wp2
    exact hK _ _ ((KeepsOthers.alloc _ _).from _) ⟨by rw [World.size_alloc]; omega, fun g _ h => Below.heap_alloc A _ g h⟩ ((ExpI.own (by omega) (by omega) (by omega) (by omega) (by omega)).alloc _ hI) ⟨A.heap.size, hI.low, World.alloc_heap_new A _, _, _, _, _, _, _, _, _, _, _, rfl⟩
  case body =>
    rintro lo pre ⟨x, hxr⟩ a' A hl0 hI ⟨Bx, hBx, hb, t0, t1, t6, t7, t8, t9, t10, t11, t12, t13, rfl⟩ hlen
    obtain ⟨xd, xn⟩ := x
    have hpt : A.cell? ⟨w.heap.size, 0, none⟩ = some (.pointer (some ⟨W, 0, none⟩)) := (cell_of_block hI.ptr).trans rfl
    have x1 : A.cell? ⟨Bx, 1, none⟩ = some (.int .i64 xn) := (cell_of_block hb).trans rfl
    have hmc := hI.mcell
    dsimp only at hxr
    have HI := Lib.hid hI
    obtain ⟨K, hK⟩ : ∃ K, K = pre.length := ⟨_, rfl⟩
    have hKs : K < 100000 := by omega
    have HKL := Lib.hid hK
    have hmany := hI.many
    rw [← hK] at hmany
    have HMANY := Lib.hid hmany
    clear hI hmany hK
    gi_wp2_with fail
    refine round_quiet_tail 6 (by kernel_rfl) (by kernel_rfl) (by kernel_rfl) ?_
    simp only [List.take_succ_cons, List.take_zero, List.drop_succ_cons, List.drop_zero]
    repeat (go_big_quiet_step (fail))
    refine wpQuiet_nil ?_
    intro _ hw'
    obtain ⟨nq, rfl⟩ := hw'
    obtain ⟨w7, hrun, hm7, hg7, hs7⟩ := (HI.out.mp.of_block (w' := A.drewN nq) rfl).drop (x := xn) (i64_wf (by omega)) 0
    have hbmA : w.heap.size + 2 < A.heap.size := lt_of_block HMANY.out
    have hk7 : ∀ g, g ≠ mb → g < A.heap.size → w7.heap[g]? = A.heap[g]? := fun g h1 h2 => (hg7.block g h2 (fun e => h1 (Option.some.inj e))).trans rfl
    have hb7 := (hk7 _ (by omega) hbmA).trans HMANY.out
    have c4 : w7.cell? ⟨w.heap.size + 2, 0, none⟩ = some (.int .i64 K) := (cell_of_block hb7).trans rfl
    have f4 : w7.frozen? ⟨w.heap.size + 2, 0, none⟩ = false := frozen_of_block hb7
    have HF : Hid (KeepsFrom w5.heap.size A (w7.setCell ⟨w.heap.size + 2, 0, none⟩ (.int .i64 ((K : Int) + 1))) ∧ Kq W (w.heap.size + 3) (w.heap.size + 4) (w.heap.size + 1) a A (w7.setCell ⟨w.heap.size + 2, 0, none⟩ (.int .i64 ((K : Int) + 1))) ∧ ExpI w w5.heap.size W mb w.heap.size (w.heap.size + 2) (l.map Fr.n) (.slice a l.length c) (pre ++ [⟨⟨xd, xn⟩, hxr⟩]) (w7.setCell ⟨w.heap.size + 2, 0, none⟩ (.int .i64 ((K : Int) + 1)))) := by
      have hsz : (w7.setCell ⟨w.heap.size + 2, 0, none⟩ (.int .i64 ((K : Int) + 1))).heap.size = A.heap.size := by
        have : (A.drewN nq).heap.size = A.heap.size := rfl
        simp [World.setCell]; omega
      have hk : ∀ g, g ≠ mb → g ≠ w.heap.size + 2 → g < A.heap.size → (w7.setCell ⟨w.heap.size + 2, 0, none⟩ (.int .i64 ((K : Int) + 1))).heap[g]? = A.heap[g]? := fun g h1 h2 h3 => (Below.heap_setCell w7 ⟨w.heap.size + 2, 0, none⟩ _ g h2).trans (hk7 g h1 h3)
      refine ⟨⟨by omega, fun k o hk1 hk2 hk3 => (hk k (by omega) (by omega) (Array.getElem?_eq_some_iff.1 hk2).1).trans hk2⟩, ⟨by omega, fun g hg hgl => hk g ?_ ?_ hgl⟩, ⟨?_, (hk _ (by omega) (by omega) (lt_of_block HI.out.ptr)).trans HI.out.ptr, (World.cell?_of_block (w := A) (hk W (Ne.symm hmW) (by omega) (block_lt_of_cell HI.out.mcell))).trans HI.out.mcell, ?_, ?_, by have := HI.out.low; omega⟩⟩
      · rcases hg with hg | hg | hg | hg | hg
        all_goals first | omega | (intro e; rw [e] at hg; exact hmV hg)
      · rcases hg with hg | hg | hg | hg | hg
        all_goals first | omega | (have := hal g hg; omega)
      · have := setCell_of_block (i := 0) (.int .i64 ((K : Int) + 1)) hb7
        rw [List.length_append, List.length_singleton, ← HKL.out]
        exact this
      · rw [leftN_snoc]
        exact hm7.of_block (Below.heap_setCell w7 ⟨w.heap.size + 2, 0, none⟩ _ mb (by show mb ≠ w.heap.size + 2; omega))
      · have k1 := HI.out.keep.trans (Nxt.refl _ _) (KeepM.of_below (W := W) (mb := mb) (v := .slice a l.length c) (below_drewN (Below.refl A.heap.size A) nq))
        have k2 := k1.trans (Nxt.refl _ _) (KeepM.of_grown hg7)
        exact ⟨k2.os, k2.tape, k2.output, by have := k2.size; simpa [World.setCell] using this, fun g a1 a2 a3 a4 => (Below.heap_setCell w7 ⟨w.heap.size + 2, 0, none⟩ _ g (by show g ≠ w.heap.size + 2; omega)).trans (k2.block g a1 a2 a3 a4)⟩
    clear hm7 hg7 hs7 hk7 hb7 HI HMANY HKL
    gi_wp2
    have HF' := HF.out
    rw [hz] at HF'
    exact HF'
  case done =>
    rintro D xs A hD ⟨l', hT, hl', hQ⟩ hI hK
    have HK := Lib.hid hK
    have HI := Lib.hid hI
    have HT := Lib.hid (And.intro hT (And.intro hl' hQ))
    have cm : A.cell? ⟨w.heap.size + 2, 0, none⟩ = some (.int .i64 xs.length) := (cell_of_block hI.many).trans rfl
    have fm : A.frozen? ⟨w.heap.size + 2, 0, none⟩ = false := frozen_of_block hI.many
    clear hQ5 HI0 hQ hT hl' hI hp5
    gi_wp2
    go_wp2_with fail
    have hbmA : w.heap.size + 2 < A.heap.size := lt_of_block HI.out.many
    have hK' := (KeepsOthers.setCell A ⟨w.heap.size + 2, 0, none⟩ (.int .i64 (xs.length : Int))).same D _ HK.out rfl
    have hk : ∀ g, g ≠ w.heap.size + 2 → g ≠ D → ((A.setCell ⟨w.heap.size + 2, 0, none⟩ (.int .i64 (xs.length : Int))).putObj D (.deferred none)).heap[g]? = A.heap[g]? := fun g h1 h2 => (World.putObj_heap_other h2).trans (Below.heap_setCell A ⟨w.heap.size + 2, 0, none⟩ _ g h1)
    have hbox : ((A.setCell ⟨w.heap.size + 2, 0, none⟩ (.int .i64 (xs.length : Int))).putObj D (.deferred none)).cell? ⟨w.heap.size + 1 + 1, 0, none⟩ = some (.int .i64 (xs.length : Int)) := by
      refine (World.cell?_of_block (w := A.setCell ⟨w.heap.size + 2, 0, none⟩ (.int .i64 (xs.length : Int))) (World.putObj_heap_other (by show w.heap.size + 2 ≠ D; omega))).trans ?_
      exact World.cell?_setCell_same' _ _ _ (by rw [cm]; rfl)
    refine ⟨by simp, .inl ⟨_, _, rfl, run_takeDeferred hK', ?_⟩⟩
    refine ⟨.int .i64 (xs.length : Int), ?_, ?_⟩
    · simp [results, Try.f54, go_sem, hbox]
    · obtain ⟨hT, hl', hQ⟩ := HT.out
      obtain ⟨v', hq', he'⟩ := hQ.hp
      have hv' : ∀ g, v'.ownBlock = some g → g < w.heap.size := fun g e => hal g (by rw [← he']; exact e)
      refine ⟨⟨xs.length, rfl⟩, l', v', ⟨xs.map Subtype.val, hT.1, fun x hx => ?_, fun y hy => by have := hl' y hy; omega⟩, ⟨⟨(hk W (by omega) (by omega)).trans hq'.box, own_frame3 hq'.row fun g e _ => hk g (by have := hv' g e; omega) (by have := hv' g e; omega)⟩, ?_, hQ.heap, ?_, HP.out.top, fun x hx => HP.out.rng x (hT.1.mem_iff.1 (List.mem_append_right _ hx)), HP.out.hr, HP.out.lowW, HP.out.lowM⟩, ?_, he'.trans (own_oB _ _ _).symm⟩
      · obtain ⟨u, hu, rfl⟩ := List.mem_map.1 hx
        exact hT.2 u hu
      · exact (HI.out.mp.perm (leftN_perm hT.1 HP.out.mp.1)).of_block (hk mb (by omega) (by omega))
      · have h1 := hT.1.length_eq
        rw [List.length_append] at h1
        have := HP.out.len; omega
      · have k := HI.out.keep
        exact ⟨k.os, k.tape, k.output, by have := k.size; simpa [World.setCell] using this, fun g a1 a2 a3 a4 => (hk g (by omega) (by omega)).trans (k.block g a1 a2 a3 a4)⟩
theorem pexpire_any {w : World} {B W mb kp f : Nat} {l : List Fr} {h : Int} {v : Value} (p : PB B W mb l kp h f v w) (now : Int) :
    Calls Try.prog 54 #[.pointer (some ⟨W, 0, none⟩), .int .i64 now] w fun e w' => (∃ k : Nat, e = .returned (.int .i64 k)) ∧ ExpRes B W mb now kp l h f v w w' :=
  callsIn_wide.1 (pexpire_in 5 (Nat.le_refl _) p now)
end Go.Proofs.Ytfojhmobnedekaa
