/- The walks of LentRows and KeptRows. Conditions: there are at most 100000 rows, each of at most 100000 places. -/
import Derived.Test.YtokeoodkioobdaaRRef5
import Derived.Test.YtokeoodkioobdaaQt
import Derived.Below
import Derived.Deep.Quiet
import Derived.BigQuiet
import Derived.WalkSmall
import Derived.OrdersHeld
import Derived.Test.YtokeoodkioobdaaRows10
namespace Go.Proofs.Ytokeoodkioobdaa
open Go.RowKit

/-- A row is appended: which block it lies in. -/
theorem GridTo.push2 {w w' : World} {B N q n d : Nat} {v v' : Value} {p c : Nat → Nat} {X : Nat → List Nat} {vs : List Value} {z : List Nat} (h : GridTo w B v N N p c X) (hvs : w.ownsRow B 31 1 v N vs) (hv : ∀ i, i < N → vs[i]? = some (hdr p c X i)) (hz : w.ownsRow B 5 1 (.slice (some ⟨q, 0, none⟩) n d) n (bs z))
    (hq : ∀ i, i < N → p i ≠ q) (ho : w'.ownsRow B 31 1 v' (N + 1) (vs ++ [.slice (some ⟨q, 0, none⟩) n d])) (hk : KeepRows w w' v N) (he : X N = z) :
    ∃ p' c', GridTo w' B v' (N + 1) (N + 1) p' c' X ∧ (∀ i, i < N → c' i = c i ∧ p' i = p i) ∧ c' N = d ∧ p' N = q := by
  have hvl : vs.length = N := by have := hvs.1; rwa [Nat.mul_one] at this
  have hzl := own_len hz
  refine ⟨fun j => if j = N then q else p j, fun j => if j = N then d else c j, ⟨⟨_, ho, fun i hi => ?_⟩, fun i hi => ?_, fun i j hi hj e => ?_, Nat.le_refl _⟩, fun i hi => ⟨if_neg (by omega), if_neg (by omega)⟩, if_pos rfl, if_pos rfl⟩
  · by_cases e : i = N
    · subst e
      rw [List.getElem?_append_right (by omega), hvl, Nat.sub_self]
      unfold hdr
      simp only [if_pos]
      rw [he, hzl]
      rfl
    · rw [List.getElem?_append_left (by omega), hv i (by omega)]
      unfold hdr
      simp only [if_neg e]
  · by_cases e : i = N
    · subst e
      unfold hdr
      simp only [if_pos]
      rw [he, hzl]
      exact hk _ _ _ _ _ hz (.inr (unl_types (by decide) hz hvs))
    · unfold hdr
      simp only [if_neg e]
      have := h.row i (by omega)
      unfold hdr at this
      exact hk _ _ _ _ _ this (.inr (unl_types (by decide) this hvs))
  · by_cases ei : i = N
    · by_cases ej : j = N
      · omega
      · rw [if_pos ei, if_neg ej] at e
        exact absurd e.symm (hq j (by omega))
    · by_cases ej : j = N
      · rw [if_neg ei, if_pos ej] at e
        exact absurd e (hq i (by omega))
      · rw [if_neg ei, if_neg ej] at e
        exact h.inj i j (by omega) (by omega) e

theorem lent_row {w : World} {g n B : Nat} {l : List Nat} (h : LentAt w g l) (hl : l.length = n) (hn : n ≤ 100000) (hB : B ≤ g) : w.ownsRow B 5 1 (.slice (some ⟨g, 0, none⟩) n (n + 12)) n (bs l) := by
  subst hl
  refine ⟨by rw [length_bs, Nat.mul_one], .inr ⟨g, l.length + 12, _, rfl, hB, h, by omega, by unfold maxLen; omega, by simp [bs, marks], ?_⟩⟩
  simp [bs]

theorem lent_not31 {w : World} {B b n : Nat} {v : Value} {xs : List Value} {l : List Nat} (h : w.ownsRow B 31 1 v n xs) (hb : LentAt w b l) : ¬ some b = v.ownBlock := fun e => by
  rcases h.2 with ⟨rfl, _⟩ | ⟨g, cap, cur, rfl, _, hh, _⟩
  · cases e
  · have e : some b = some g := e
    injection e with e
    subst e
    have := hh.symm.trans hb
    injection this with this
    injection this with _ h3 _
    exact absurd h3 (by decide)
/-- Rows that were lent: a grid, and marks behind each row. -/
structure LentG (w : World) (B : Nat) (v : Value) (N : Nat) (p c : Nat → Nat) (X : Nat → List Nat) : Prop where
  grid : GridTo w B v N N p c X
  cap : ∀ i, i < N → c i = (X i).length + 12
  lent : ∀ i, i < N → LentAt w (p i) (X i)
theorem LentG.below {w w' : World} {B N : Nat} {v : Value} {p c : Nat → Nat} {X : Nat → List Nat} (h : LentG w B v N p c X) (hB : Below w.heap.size w w') : LentG w' B v N p c X :=
  ⟨h.grid.below hB, h.cap, fun i hi => (h.lent i hi).below hB (h.lent i hi).lt⟩

set_option maxHeartbeats 3200000 in
set_option maxRecDepth 100000 in
theorem lentRows_any {w : World} {a : Option Addr} {N c : Nat} {X : Nat → List Nat} (hN : N ≤ 100000) (hX : ∀ i, i < N → (X i).length ≤ 100000) (h : RR w (.slice a N c) N X) :
    Calls Try.prog 72 #[.slice a N c] w fun e w' => ∃ va vd p d, e = .returned (.slice va N vd) ∧ LentG w' w.heap.size (.slice va N vd) N p d X ∧ Below w.heap.size w w' := by
  obtain ⟨i31, hj, hy0, hy1, hy2⟩ := info_parts info31
  have H := Lib.hid h
  have HXL := Lib.hid hX
  clear h hX
  go_enter Try.func72, Try.ntmps72
  go_wp2_with fail
  go_loopw [3, 4] (fun v i wr => ∃ k : Nat, k ≤ N ∧ i = .int .i64 k ∧ (∃ p d, Hid (LentG wr w.heap.size v k p d X)) ∧ Hid (Below w.heap.size w wr)) (fun _ i _ => N - (intOf i).toNat)
  case atStart => exact ⟨0, Nat.zero_le _, rfl, ⟨fun _ => 0, fun _ => 0, grid_empty w w.heap.size _ _ _, fun i hi => absurd hi (Nat.not_lt_zero i), fun i hi => absurd hi (Nat.not_lt_zero i)⟩, Below.refl _ _⟩
  case round =>
    obtain ⟨k, hk, rfl, ⟨p, d, HG⟩, HB⟩ := hrel
    by_cases hk1 : k < N
    · obtain ⟨a', c', e, hXs⟩ := (H.out.below HB.out).shape
      injection e with e1 e2 e3
      subst e1; subst e3; clear e2
      obtain ⟨b1, o1, a1, n1, c1, rfl, hc1, hr1⟩ := hXs k hk1
      have hl1 := hr1.len
      have hm1 : n1 ≤ 100000 := by rw [← hl1]; exact HXL.out k hk1
      have HLT := Lib.hid (lent_any hr1)
      have HL1 := Lib.hid hl1
      have hsw : w.heap.size ≤ wr.heap.size := HB.out.size
      clear hXs hr1 hl1
      go_wp2_with fail
      refine HLT.out.mono ?_
      rintro e w5 ⟨q, rfl, hq, hL5, hB5⟩
      have hB6 : Below wr.heap.size wr (w5.alloc (.cells #[.slice (some ⟨q, 0, none⟩) n1 (n1 + 12)] 31)) := hB5.alloc hB5.size _
      have hL5' : LentAt w5 q (X k) := hL5
      have HG6 := Lib.hid (HG.out.below hB6)
      have hL6 : LentAt (w5.alloc (.cells #[.slice (some ⟨q, 0, none⟩) n1 (n1 + 12)] 31)) q (X k) := hL5'.below ((Below.refl _ _).alloc (Nat.le_refl _) _) hL5'.lt
      have HL6 := Lib.hid hL6
      have HZ6 := Lib.hid (lent_row (B := w.heap.size) hL6 HL1.out hm1 (by omega))
      have HB6 := Lib.hid (HB.out.trans (hB6.mono hsw))
      have HQ := Lib.hid (show ∀ i, i < k → p i ≠ q from fun i hi e => by
        have := HG.out.grid.rowlt hi
        omega)
      obtain ⟨vs, hvs, hvr⟩ := HG6.out.grid.own
      have HVS := Lib.hid hvs
      have HVR := Lib.hid hvr
      have hs5 : wr.heap.size ≤ w5.heap.size := hB5.size
      clear hL5 hL5' hB5 hB6 hvs hvr HG hL6 HLT
      go_wp2_with (at_builtin; refine wpList_append_own3 _ rfl (.tmp 11) (.tmp 17) 51 rfl w.heap.size 31 i31 (.slice none 0 0) 24 Try.underlying51 hj hy0 hy1 hy2 rfl _ k vs rfl HVS.out ⟨w5.heap.size, 0, none⟩ 1 1 [.slice (some ⟨q, 0, none⟩) n1 (n1 + 12)] rfl rfl (cell_new31 _ _) (one_sl _ _ _) (by unfold maxLen; omega) (by omega) (by simp; omega) ?_)
      intro v7 w7 ho7 hg7 hb7 hk7
      obtain ⟨p7, d7, hG7, hd7, hd8, hp8⟩ := HG6.out.grid.push2 HVS.out HVR.out HZ6.out HQ.out ho7 hk7 rfl
      have hblk : ∀ b l, LentAt (w5.alloc (.cells #[.slice (some ⟨q, 0, none⟩) n1 (n1 + 12)] 31)) b l → LentAt w7 b l := fun b l hb => by
        refine (hg7.block b hb.lt fun e => ?_).trans hb
        exact lent_not31 HVS.out hb e
      have HG7 := Lib.hid (LentG.mk hG7 (fun i hi => by
        by_cases e : i = k
        · subst e; rw [hd8, HL1.out]
        · rw [(hd7 i (by omega)).1]; exact HG6.out.cap i (by omega)) (fun i hi => by
        by_cases e : i = k
        · subst e; rw [hp8]; exact hblk _ _ HL6.out
        · rw [(hd7 i (by omega)).2]; exact hblk _ _ (HG6.out.lent i (by omega))))
      have HB7 := Lib.hid (HB6.out.grown hg7 (by simp; omega) (fun g e => by have := (own_lt HVS.out e).1; omega))
      clear ho7 hg7 hb7 hk7 hG7 hd7 hd8 hp8 hblk HG6 HZ6 HB6 HVS HVR HQ HL6
      go_wp2_with fail
      go_roundw
      case rel => exact ⟨k + 1, by omega, by go_num, ⟨p7, d7, HG7⟩, HB7⟩
      case measure => simp [intOf]; omega
    · obtain rfl : k = N := by omega
      obtain ⟨va, vd, hv⟩ := HG.out.grid.slice
      subst hv
      go_wp2_with fail
      go_ret
      exact ⟨_, _, _, _, rfl, HG.out, HB.out⟩

set_option maxHeartbeats 1600000 in
set_option maxRecDepth 100000 in
theorem keptRows_any {w : World} {a va : Option Addr} {N c vd B : Nat} {p d : Nat → Nat} {X : Nat → List Nat} (hN : N ≤ 100000) (h : RR w (.slice a N c) N X) (hl : LentG w B (.slice va N vd) N p d X) :
    Calls Try.prog 79 #[.slice va N vd, .slice a N c] w fun e w' => e = .returned (.bool true) ∧ Below w.heap.size w w' := by
  have H := Lib.hid h
  have HL := Lib.hid hl
  clear h hl
  have qq : ((N : Int) != (N : Int)) = false := by simp
  go_enter Try.func79, Try.ntmps79
  go_wp2_with fail
  go_loopw [5] (fun i wr => ∃ k : Nat, k ≤ N ∧ i = .int .i64 k ∧ Hid (Drawn w wr)) (fun i _ => N - (intOf i).toNat)
  case atStart => exact ⟨0, Nat.zero_le _, rfl, Drawn.refl _⟩
  case round =>
    obtain ⟨k, hk, rfl, HD⟩ := hrel
    by_cases hk1 : k < N
    · obtain ⟨a', c', e, hX⟩ := (H.out.drawn HD.out).shape
      injection e with e1 e2 e3
      subst e1; subst e3; clear e2
      obtain ⟨b1, o1, a1, n1, c1, rfl, hc1, hr1⟩ := hX k hk1
      obtain ⟨g, rfl⟩ := HL.out.grid.head (by omega)
      have hl1 := hr1.len
      obtain ⟨hc2, _, _, _⟩ := HL.out.grid.line1 (W := n1) hl1 hk1
      rw [HL.out.cap k hk1, hl1] at hc2
      have hc3 := (HD.out.cell ⟨g, k, none⟩).trans hc2
      have hlk : ∀ q, LentAt (wr.drewN q) (p k) (X k) := fun q => by
        have := HL.out.lent k hk1
        unfold LentAt at this ⊢
        show wr.heap[p k]? = _
        rw [HD.out.heap]
        exact this
      have HK := Lib.hid fun q => Lib.hid (kept_any (hr1.drewN q) (hlk q))
      clear hX hr1 hc2 hlk hl1
      go_wp2_with fail
      go_quiet ((go_at_call 30; exact Calls.quiet_of (HK.out _).out))
      go_wp2_with fail
      go_roundw
      case rel => exact ⟨k + 1, by omega, by go_num, HD.out.more _⟩
      case measure => simp [intOf]; omega
    · obtain rfl : k = N := by omega
      go_wp2_with fail
      go_ret
      exact ⟨rfl, by obtain ⟨q, rfl⟩ := HD.out; exact below_drewN (Below.refl _ _) q⟩
end Go.Proofs.Ytokeoodkioobdaa

/- Drawn regions along one schedule: reads first, then what makes memory or calls, one by one. No condition beyond each law's own. -/
namespace Go.Proofs.Ytokeoodkioobdaa
open Go.RowKit

/-- The worlds in which what lay in 'w' lies still. -/
def Lies (w : World) : Type := { w' : World // Below w.heap.size w w' }
instance (w : World) : Nonempty (Lies w) := ⟨⟨w, Below.refl _ _⟩⟩
instance (w : World) : Inhabited (Lies w) := ⟨⟨w, Below.refl _ _⟩⟩
theorem Lies.below {w : World} (x : Lies w) : Below w.heap.size w x.1 := x.2
theorem lies_cell {w : World} {p : Addr} {v : Value} (h : w.cell? p = some v) (x : Lies w) : x.1.cell? p = some v := (x.2.cell (block_lt_of_cell h)).trans h
theorem region_lies {P : Program} {id : Nat} {Q : Exit → Act → World → Prop} {a : Act} {w : World} {l : List Oper} (hm : P.follows .mixedOrders = true) (hB : Region.lexB .any l.toArray = true)
    (h : wpQuiet P l.toArray (fun w' => ∃ x : Lies w, w' = x.1) (fun a' => ∀ w', (∃ x : Lies w, w' = x.1) → Q .normal a' w') l a) : (Code.region id l.toArray true).wp P Q a w :=
  wp_region_quiet (C := fun w' => ∃ x : Lies w, w' = x.1) hm hB ⟨⟨_, below_drewN (Below.refl _ _) 1⟩, rfl⟩ (by simpa using h)
/-- A callee that leaves alone what lay there. -/
theorem Lies.call {P : Program} {f : FuncId} {args : Array Value} {w : World} {x : Lies w} {v : Value} (h : Calls P f args x.1 fun e w' => e = .returned v ∧ Below x.1.heap.size x.1 w') :
    Calls P f args x.1 fun e w'' => e = .returned v ∧ ∃ y : Lies w, w'' = y.1 :=
  h.mono fun _ w' ⟨he, hB⟩ => ⟨he, ⟨w', x.2.trans (hB.mono x.2.size)⟩, rfl⟩

section
variable {P : Program} {ops : Array Oper} {md : Region.Mode} {S : World → Prop}
/-- Kinds of operations that read at most. -/
def plainOp (o : Oper) : Bool := match o.op with
  | .move _ | .assign _ | .load _ _ | .build _ _ | .fieldAddr _ _ _ | .indexAddr _ _ _ | .binOp _ _ _ _ _ | .nilCheck _ | .index _ _ _ | .unOp _ _ _ | .field _ _ _ | .slice _ _ _ _ _ | .pick _ _ _ => true
  | _ => false
theorem value_only {α : Type} {s : Sem α} {k : α → Value} {w w' : World} {n : Next} (h : (do pure (Next.value (k (← s))) : Sem Next).run P w = .ok n w') : ∃ u, n = .value u := by
  simp only [Sem.run_bind, Sem.run_pure] at h
  cases hs : s.run P w <;> rw [hs] at h <;> simp [Result.andThen] at h
  exact ⟨_, h.1.symm⟩
theorem pick_only {s : Sem Bool} {a b : Value} {w w' : World} {n : Next} (h : (do pure (Next.value (if ← s then a else b)) : Sem Next).run P w = .ok n w') : ∃ u, n = .value u := by
  simp only [Sem.run_bind, Sem.run_pure] at h
  cases hs : s.run P w <;> rw [hs] at h <;> simp [Result.andThen] at h
  exact ⟨_, h.1.symm⟩
theorem plain_value {ρ : Operand → Value} {o : Oper} {w w' : World} {n : Next} (h : plainOp o = true) (h2 : (execOp ρ o).run P w = .ok n w') : ∃ u, n = .value u := by
  unfold plainOp at h
  unfold execOp at h2
  split at h
  all_goals try (rename_i he; simp only [he] at h2; first | exact value_only (k := id) h2 | exact pick_only h2 | (simp at h2; exact ⟨_, h2.1.symm⟩))
  all_goals try (cases h; done)
  rename_i x he
  simp only [he] at h2
  clear he h
  split at h2
  · simp [runtimePanic, goPanic] at h2
  · simp [runtimePanic, goPanic] at h2
  · simp [runtimePanic, goPanic] at h2
  · split at h2
    · simp [runtimePanic, goPanic] at h2
    · rename_i t v _
      simp only [Sem.run_bind] at h2
      generalize hg : Sem.run P program w = r at h2
      cases r with
      | halt x w1 => simp [Result.andThen] at h2
      | ok p w1 =>
        simp only [Result.andThen] at h2
        generalize hg2 : Sem.run P (nilAhead _ _ _ _) w1 = r2 at h2
        cases r2 with
        | halt x w2 => simp at h2
        | ok q w2 =>
          simp only [] at h2
          split at h2
          · simp [unsupported, Result.andThen] at h2
          · simp at h2; exact ⟨_, h2.1.symm⟩
    · simp at h2; exact ⟨_, h2.1.symm⟩
  · simp at h2; exact ⟨_, h2.1.symm⟩
/-- A plain operation that yields in a class of worlds yields there, and leaves the world alone. -/
theorem yieldsIf_of {o : Oper} {v : Value} {a : Act} (hp : plainOp o = true) (h : YieldsIn P ops S o v a) : YieldsIf P ops S o v a := by
  rcases h with ⟨hw, h⟩ | h
  · refine .inl ⟨hw, fun w hS => ?_⟩
    have h1 := h w hS
    unfold Oper.quietAt at h1
    cases hr : (execOp a.eval o).run P w with
    | halt x w' => rw [hr] at h1; exact h1.elim
    | ok n w' =>
      obtain ⟨u, rfl⟩ := plain_value hp hr
      rw [hr] at h1
      obtain ⟨rfl, rfl⟩ := h1
      rfl
  · exact .inr h
end

section
variable {P : Program} {ops : Array Oper} {md : Region.Mode} {S : World → Prop} {R : Act → World → Prop}
/-- What an operation hands on: a value, or a call's. -/
def mvN (P : Program) (K : Act → World → Prop) (a : Act) (d : Option Tmp) : Next → World → Prop
  | .value v, w => K (a.put d v) w
  | .skip, w => K (a.put d undef) w
  | .enter f args, w => Calls P f args w fun e w' => ∃ v, e = .returned v ∧ K (a.put d v) w'
  | _, _ => False
/-- Number i comes up: it is passed over, or it hands on. -/
def mvP (P : Program) (ops : Array Oper) (i : Nat) (K : Act → World → Prop) (a : Act) (w : World) : Prop :=
  ∃ o, ops[i]? = some o ∧ ((Region.wanted o (yielded ops a.tmps) = true ∧ ∃ nx w', (execOp a.eval o).run P w = .ok nx w' ∧ mvN P K a o.dst nx w') ∨ (Region.wanted o (yielded ops a.tmps) = false ∧ K (a.put o.dst undef) w))
theorem mvN_mono {K K' : Act → World → Prop} {a : Act} {d : Option Tmp} {nx : Next} {w : World} (h : ∀ a w, K a w → K' a w) (hh : mvN P K a d nx w) : mvN P K' a d nx w := by
  cases nx <;> simp only [mvN] at hh ⊢
  case value => exact h _ _ hh
  case skip => exact h _ _ hh
  case enter => exact hh.mono fun e w' ⟨v, he, hK⟩ => ⟨v, he, h _ _ hK⟩
theorem mvP_mono {i : Nat} {K K' : Act → World → Prop} {a : Act} {w : World} (h : ∀ a w, K a w → K' a w) (hh : mvP P ops i K a w) : mvP P ops i K' a w := by
  obtain ⟨o, ho, h1 | h1⟩ := hh
  · obtain ⟨hw, nx, w', hr, hK⟩ := h1; exact ⟨o, ho, .inl ⟨hw, nx, w', hr, mvN_mono h hK⟩⟩
  · exact ⟨o, ho, .inr ⟨h1.1, h _ _ h1.2⟩⟩
theorem mvP_of {i : Nat} {o : Oper} {v : Value} {a : Act} {w : World} {K : Act → World → Prop} (hi : ops[i]? = some o) (hy : YieldsIf P ops S o v a) (hS : S w) (h : K (a.put o.dst v) w) : mvP P ops i K a w := by
  rcases hy with ⟨hw, hv⟩ | ⟨hw, rfl⟩
  · exact ⟨o, hi, .inl ⟨hw, _, w, hv w hS, h⟩⟩
  · exact ⟨o, hi, .inr ⟨hw, h⟩⟩
theorem mvP_put {j : Nat} {oi oj : Oper} {v : Value} (hj : ops[j]? = some oj) (hap : oi.apart ops oj = true) (hsi : ∀ cs b, oi.op ≠ .select cs b) (hsj : ∀ cs b, oj.op ≠ .select cs b) {K : Act → World → Prop} {a : Act} {w : World}
    (hy : YieldsIf P ops S oi v a) (h : mvP P ops j K (a.put oi.dst v) w) : mvP P ops j (fun a' w' => YieldsIf P ops S oi v a' ∧ K (a'.put oi.dst v) w') a w := by
  obtain ⟨h1, h2, h3⟩ := Oper.apart_spec hap
  have keep : ∀ (a : Act), YieldsIf P ops S oi v a → ∀ u, YieldsIf P ops S oi v (a.put oj.dst u) := fun a hy u => hy.of_same (execOp_put oi hsi a oj.dst u h3) (wanted_put oi a oj.dst u h3)
  obtain ⟨o, ho, h⟩ := h
  obtain rfl : o = oj := Option.some.inj (ho.symm.trans hj)
  rw [wanted_put o a oi.dst v h1, execOp_put o hsj a oi.dst v h1] at h
  rcases h with ⟨hw, nx, w', hr, hK⟩ | ⟨hw, hK⟩
  · refine ⟨o, hj, .inl ⟨hw, nx, w', hr, ?_⟩⟩
    cases nx <;> simp only [mvN] at hK ⊢
    case value u => exact ⟨keep a hy u, by rw [← Act.put_comm a v u h2]; exact hK⟩
    case skip => exact ⟨keep a hy _, by rw [← Act.put_comm a v undef h2]; exact hK⟩
    case enter f args => exact hK.mono fun e w'' ⟨u, he, hk⟩ => ⟨u, he, keep a hy u, by rw [← Act.put_comm a v u h2]; exact hk⟩
  · exact ⟨o, hj, .inr ⟨hw, keep a hy _, by rw [← Act.put_comm a v undef h2]; exact hK⟩⟩
/-- Whatever order is picked from here on; S holds behind each. -/
def anyM (P : Program) (md : Region.Mode) (ops : Array Oper) (S : World → Prop) (R : Act → World → Prop) : Nat → Array Bool → Act → World → Prop
  | 0, listed, a, w => Region.ready md ops listed = [] ∧ R a w
  | f + 1, listed, a, w => (Region.ready md ops listed = [] → R a w) ∧ ∀ i ∈ Region.ready md ops listed, mvP P ops i (fun a' w' => S w' ∧ anyM P md ops S R f (listed.setIfInBounds i true) a' w') a w
theorem anyM_first {i : Nat} {oi : Oper} {v : Value} (hi : ops[i]? = some oi) (hsel : ∀ (j : Nat) (o : Oper) cs b, ops[j]? = some o → o.op ≠ .select cs b) :
    ∀ (f : Nat) (listed : Array Bool) (a : Act) (w : World),
      (∀ j oj, ops[j]? = some oj → j ≠ i → listed.getD j true = false → (∀ e ∈ oj.after, Region.binds md e = true → e.on ≠ i) → oi.apart ops oj = true) →
      i ∈ Region.ready md ops listed → YieldsIf P ops S oi v a → S w →
      anyM P md ops S R f (listed.setIfInBounds i true) (a.put oi.dst v) w → anyM P md ops S R (f + 1) listed a w
  | 0, listed, a, w, _, hr, hy, hS, H => by
    refine ⟨fun h => (by rw [h] at hr; cases hr), fun j hj => ?_⟩
    by_cases hji : j = i
    · subst hji; exact mvP_of hi hy hS ⟨hS, H⟩
    · have := ready_mono hj hji
      rw [H.1] at this
      cases this
  | f + 1, listed, a, w, hfree, hr, hy, hS, H => by
    refine ⟨fun h => (by rw [h] at hr; cases hr), fun j hj => ?_⟩
    by_cases hji : j = i
    · subst hji; exact mvP_of hi hy hS ⟨hS, H⟩
    · have h1 := H.2 j (ready_mono hj hji)
      obtain ⟨hjun, oj, hoj, hall⟩ := mem_ready.1 hj
      have hnot : ∀ e ∈ oj.after, Region.binds md e = true → e.on ≠ i := fun e he hb heq => by
        have h1 := hall e he hb
        rw [heq, getD_both (mem_ready.1 hr).1] at h1
        cases h1
      have h2 := mvP_put hoj (hfree j oj hoj hji hjun hnot) (fun cs b => hsel i oi cs b hi) (fun cs b => hsel j oj cs b hoj) hy h1
      refine mvP_mono (fun a' w' h3 => ⟨h3.2.1, anyM_first hi hsel f (listed.setIfInBounds j true) a' w' (fun k ok hk hki hk2 hno => hfree k ok hk hki ?_ hno) (ready_mono hr (Ne.symm hji)) h3.1 h3.2.1 ?_⟩) h2
      · by_cases hjk : j = k
        · subst hjk; exact hjun
        · rw [getD_set_ne true hjk] at hk2; exact hk2
      · rw [Array.setIfInBounds_comm _ _ hji]
        exact h3.2.2
def setL (listed : Array Bool) : List Nat → Array Bool
  | [] => listed
  | i :: seg => setL (listed.setIfInBounds i true) seg
def pickL (ops : Array Oper) (seg : List Nat) : List Oper := seg.filterMap fun i => ops[i]?
def plainAt (ops : Array Oper) (i : Nat) : Bool := match ops[i]? with | some o => plainOp o | none => false
def segB (md : Region.Mode) (ops : Array Oper) : List Nat → Array Bool → Bool
  | [], _ => true
  | i :: seg, listed => (Region.ready md ops listed).contains i && Region.free md ops listed i && plainAt ops i && segB md ops seg (listed.setIfInBounds i true)
theorem seg_any (hsel : Region.noSelect ops = true) {Lq : Act → Prop} : ∀ (seg : List Nat) (f : Nat) (listed : Array Bool) (a : Act) (w : World), segB md ops seg listed = true → S w →
    (∀ a', Lq a' → anyM P md ops S R f (setL listed seg) a' w) → wpQuiet P ops S Lq (pickL ops seg) a → anyM P md ops S R (f + seg.length) listed a w
  | [], f, listed, a, w, _, _, hn, h => hn a h
  | i :: seg, f, listed, a, w, hB, hS, hn, h => by
    simp only [segB, Bool.and_eq_true] at hB
    obtain ⟨⟨⟨hr, hf⟩, hp⟩, hB'⟩ := hB
    unfold plainAt at hp
    cases ho : ops[i]? with
    | none => rw [ho] at hp; cases hp
    | some o =>
      rw [ho] at hp
      have hpk : pickL ops (i :: seg) = o :: pickL ops seg := by simp [pickL, ho]
      rw [hpk] at h
      have hst : qOp P ops S i (wpQuiet P ops S Lq (pickL ops seg)) a := by unfold qOp; simp only [ho]; exact h
      obtain ⟨v, hy, hK⟩ := yieldsIn_of_qOp ho hst
      exact anyM_first ho (Region.noSelect_spec hsel) (f + seg.length) listed a w (Region.free_spec ho hf) (by simpa using hr) (yieldsIf_of hp hy) hS (seg_any hsel seg f _ _ w hB' hS hn hK)
/-- The walk along a schedule: reads, then one that hands on; and so on; then reads. -/
def schP (P : Program) (ops : Array Oper) (S : World → Prop) (R : Act → World → Prop) (last : List Nat) : List (List Nat × Nat) → Act → World → Prop
  | [], a, w => wpQuiet P ops S (fun a' => R a' w) (pickL ops last) a
  | (seg, i) :: σ, a, w => wpQuiet P ops S (fun a' => mvP P ops i (fun a'' w'' => S w'' ∧ schP P ops S R last σ a'' w'') a' w) (pickL ops seg) a
def schB (md : Region.Mode) (ops : Array Oper) (last : List Nat) : List (List Nat × Nat) → Array Bool → Bool
  | [], listed => segB md ops last listed && (Region.ready md ops (setL listed last)).isEmpty
  | (seg, i) :: σ, listed => segB md ops seg listed && decide (Region.ready md ops (setL listed seg) = [i]) && schB md ops last σ ((setL listed seg).setIfInBounds i true)
def schN (last : List Nat) : List (List Nat × Nat) → Nat
  | [] => last.length
  | (seg, _) :: σ => schN last σ + 1 + seg.length
theorem sch_any (hsel : Region.noSelect ops = true) {last : List Nat} : ∀ (σ : List (List Nat × Nat)) (listed : Array Bool) (a : Act) (w : World), schB md ops last σ listed = true → S w → schP P ops S R last σ a w → anyM P md ops S R (schN last σ) listed a w
  | [], listed, a, w, hB, hS, h => by
    simp only [schB, Bool.and_eq_true, List.isEmpty_iff] at hB
    have := seg_any (R := R) (Lq := fun a' => R a' w) hsel last 0 listed a w hB.1 hS (fun a' ha => ⟨hB.2, ha⟩) h
    rwa [Nat.zero_add] at this
  | (seg, i) :: σ, listed, a, w, hB, hS, h => by
    simp only [schB, Bool.and_eq_true, decide_eq_true_eq] at hB
    refine seg_any hsel seg (schN last σ + 1) listed a w hB.1.1 hS (fun a' ha => ⟨fun h0 => (by rw [hB.1.2] at h0; cases h0), fun j hj => ?_⟩) h
    rw [hB.1.2] at hj
    obtain rfl : j = i := by simpa using hj
    exact mvP_mono (fun a'' w'' h2 => ⟨h2.1, sch_any hsel σ _ a'' w'' hB.2 h2.1 h2.2⟩) ha
def schAll (ops : Array Oper) (last : List Nat) (σ : List (List Nat × Nat)) : Bool := Region.noSelect ops && schB .any ops last σ (Array.replicate ops.size false) && decide (schN last σ = ops.size)
theorem op_of_mv {i : Nat} {a : Act} {w : World} {K K' : Act → World → Prop} {Q : Exit → Act → World → Prop} (h : ∀ a w, K a w → K' a w) (hh : mvP P ops i K a w) : wpOp P ops Q i K' a w := by
  obtain ⟨o, ho, hh⟩ := hh
  unfold wpOp
  simp only [ho]
  rcases hh with ⟨hw, nx, w', hr, hK⟩ | ⟨hw, hK⟩
  · simp only [hw, if_true]
    refine .inl ?_
    unfold Oper.wp
    rw [hr]
    cases nx <;> simp only [mvN] at hK <;> simp only [Oper.upon]
    case value => exact h _ _ hK
    case skip => exact h _ _ hK
    case enter =>
      refine hK.mono fun e w'' ⟨v, he, hk⟩ => ?_
      subst he
      exact h _ _ hk
  · simp only [hw]
    exact h _ _ hK
theorem any_of_M {Q : Exit → Act → World → Prop} (hR : ∀ a w, R a w → Q .normal a w) : ∀ (f : Nat) (listed : Array Bool) (a : Act) (w : World), anyM P md ops S R f listed a w → wpAny P md ops Q f listed a w
  | 0, _, _, _, h => ⟨h.1, hR _ _ h.2⟩
  | f + 1, _, _, _, h => ⟨fun h0 => hR _ _ (h.1 h0), fun i hi => op_of_mv (fun a' w' h' => any_of_M hR f _ a' w' h'.2) (h.2 i hi)⟩
/-- A region that draws its order, along a schedule. -/
theorem region_sch {id : Nat} {Q : Exit → Act → World → Prop} {a : Act} {w : World} (S : World → Prop) (last : List Nat) (σ : List (List Nat × Nat)) (hm : P.follows .mixedOrders = true) (hB : schAll ops last σ = true) (hS : S w.drew)
    (h : schP P ops S (fun a w => Q .normal a w) last σ a w.drew) : (Code.region id ops true).wp P Q a w := by
  simp only [schAll, Bool.and_eq_true, decide_eq_true_eq] at hB
  have H := sch_any (md := .any) hB.1.1 σ _ a w.drew hB.1.2 hS h
  rw [hB.2] at H
  exact wp_region_any hm (any_of_M (fun _ _ h => h) _ _ _ _ H)
variable {r m : Nat}
theorem opIn_of_mv {i : Nat} {a : Act} {w : World} {K K' : Act → World → Prop} {Q : Exit → Act → World → Prop} (hd : noDefers ops = true) (h : ∀ a w, K a w → K' a w) (hh : mvP P ops i K a w) : wpOpIn (Fence.wide.inRound r) m P ops Q i K' a w := by
  obtain ⟨o, ho, hh⟩ := hh
  unfold wpOpIn
  simp only [ho]
  rcases hh with ⟨hw, nx, w', hr, hK⟩ | ⟨hw, hK⟩
  · simp only [hw, if_true]
    refine ⟨fun _ _ => trivial, ?_⟩
    rw [Oper.semAt_eq _ _ _ (noDefers_at hd ho), hr]
    cases nx <;> simp only [mvN] at hK <;> simp only [Oper.uponIn]
    case value => exact h _ _ hK
    case skip => exact h _ _ hK
    case enter =>
      refine ⟨(fun hx => by cases hx), CallsIn.inRound r (callsIn_wide.2 (hK.mono fun e w'' ⟨v, he, hk⟩ => ?_))⟩
      subst he
      exact h _ _ hk
  · simp only [hw]
    exact ⟨fun _ _ => trivial, h _ _ hK⟩
theorem anyIn_of_M {Q : Exit → Act → World → Prop} (hd : noDefers ops = true) (hR : ∀ a w, R a w → Q .normal a w) : ∀ (f : Nat) (listed : Array Bool) (a : Act) (w : World), anyM P md ops S R f listed a w → wpAnyIn (Fence.wide.inRound r) m P md ops Q f listed a w
  | 0, _, _, _, h => ⟨h.1, hR _ _ h.2⟩
  | f + 1, _, _, _, h => ⟨fun h0 => hR _ _ (h.1 h0), fun i hi => opIn_of_mv hd (fun a' w' h' => anyIn_of_M hd hR f _ a' w' h'.2) (h.2 i hi)⟩
/-- The same, within a round. -/
theorem round_sch {id : Nat} {Q : Exit → Act → World → Prop} {a : Act} {w : World} (S : World → Prop) (last : List Nat) (σ : List (List Nat × Nat)) (hm : P.follows .mixedOrders = true) (hB : schAll ops last σ = true) (hd : noDefers ops = true) (hS : S w.drew)
    (h : schP P ops S (fun a w => Q .normal a w) last σ a w.drew) : (Code.region id ops true).wpIn (Fence.wide.inRound r) m P Q a w := by
  simp only [schAll, Bool.and_eq_true, decide_eq_true_eq] at hB
  have H := sch_any (md := .any) hB.1.1 σ _ a w.drew hB.1.2 hS h
  rw [hB.2] at H
  exact wpIn_region_any hm (anyIn_of_M hd (fun _ _ h => h) _ _ _ _ H)
/-- A call, by its contract. -/
theorem mv_call {i : Nat} {o : Oper} {K : Act → World → Prop} {a : Act} {w : World} {f : FuncId} {args : Array Value} {v : Value} {T : World → Prop} (d : Option Tmp) (ho : ops[i]? = some o) (hd : o.dst = d) (hw : Region.wanted o (yielded ops a.tmps) = true) (hr : (execOp a.eval o).run P w = .ok (.enter f args) w)
    (hc : Calls P f args w fun e w' => e = .returned v ∧ T w') (hK : ∀ w', T w' → K (a.put d v) w') : mvP P ops i K a w := by
  subst hd
  exact ⟨o, ho, .inl ⟨hw, _, w, hr, hc.mono fun e w' ⟨he, hT⟩ => ⟨v, he, hK w' hT⟩⟩⟩
theorem mv_value {i : Nat} {o : Oper} {K : Act → World → Prop} {a : Act} {w w' : World} {v : Value} (d : Option Tmp) (ho : ops[i]? = some o) (hd : o.dst = d) (hw : Region.wanted o (yielded ops a.tmps) = true) (hr : (execOp a.eval o).run P w = .ok (.value v) w') (hK : K (a.put d v) w') : mvP P ops i K a w := by
  subst hd
  exact ⟨o, ho, .inl ⟨hw, _, w', hr, hK⟩⟩
/-- A row that is loaded, in whatever world of the class. -/
theorem quiet_load_row {C : World → Prop} {Lq : Act → Prop} {rest : List Oper} {o : Oper} {a : Act} (dst : Option Tmp) (hdst : o.dst = dst) (hgd : Region.wanted o (yielded ops a.tmps) = true) (ty : TypeId) (x : Operand) (ho : o.op = .load ty x)
    (g : Nat) (hx : a.eval x = .pointer (some ⟨g, 0, none⟩)) (t : TypeId) (cs : Array Value) (fr : Nat × Nat) (d : TypeDesc) (hg : ∀ w, C w → w.heap[g]? = some (.cells cs t fr))
    (hu : P.underlying ty = some d) (hd : (match d with | .struct _ | .array _ _ => true | _ => false) = true) (hi : (P.info? ty).map (·.size) = some cs.size)
    (h : wpQuiet P ops C Lq rest (a.put dst (.agg cs))) : wpQuiet P ops C Lq (o :: rest) a := by
  subst hdst
  unfold wpQuiet
  rw [if_pos hgd]
  refine ⟨.agg cs, fun w hC => ?_, h⟩
  unfold Oper.quietAt execOp
  simp only [ho, hx, Instr.loadAt, Instr.sureAddr, Sem.run_bind, Sem.run_pure, Result.andThen_ok, run_loadVar_row w g t ty cs fr d (hg w hC) hu hd hi]
  exact ⟨rfl, rfl⟩
end
theorem lies_block {w : World} {g : Nat} {o : Obj} (h : w.heap[g]? = some o) : ∀ w', (∃ x : Lies w, w' = x.1) → w'.heap[g]? = some o := by
  rintro w' ⟨x, rfl⟩
  exact (x.2.block g (Array.getElem?_eq_some_iff.1 h).1).trans h
theorem lies_start (w : World) : ∃ x : Lies w, w.drew = x.1 := ⟨⟨_, below_drewN (Below.refl _ _) 1⟩, rfl⟩
end Go.Proofs.Ytokeoodkioobdaa

/- The walk of ApartRows at five lists of rows. Conditions: together they have at most 1000000 rows. -/
namespace Go.Proofs.Ytokeoodkioobdaa
open Go.RowKit

/-- An append of a list of rows, nil or not, onto a list that the call owns. -/
theorem wpList_append_src {w : World} {ops : Array Oper} {rest : List Oper} {o : Oper} {a : Act} {Q : Exit → Act → World → Prop} (hgd : o.guard = none) (s x : Operand)
    (ho : o.op = .call { callee := .builtin .append, args := #[s, x], argTypes := #[51, 51] }) (base : Nat) (v : Value) (n : Nat) (xs : List Value) (hs : a.eval s = v) (hown : w.ownsRow base 31 1 v n xs)
    (ad : Option Addr) (m c : Nat) (news : List Value) (hx : a.eval x = .slice ad m c) (hl : news.length = m) (hnews : ∀ ad', ad = some ad' → ∀ j u, news[j]? = some u → w.cell? (ad'.add j) = some u) (hnone : ad = none → m = 0 ∧ c = 0)
    (h1 : ∀ u ∈ news, u.oneCell' = true) (hlen : n + m ≤ 1000000) (hbase : base ≤ w.heap.size)
    (h : ∀ v' w', w'.ownsRow base 31 1 v' (n + m) (xs ++ news) → Below base w w' → wpList Try.prog ops Q rest (a.put o.dst v') w') : wpList Try.prog ops Q (o :: rest) a w := by
  obtain ⟨i31, hj, hy0, hy1, hy2⟩ := info_parts info31
  cases ad with
  | none =>
    obtain ⟨rfl, rfl⟩ := hnone rfl
    have hn0 : news = [] := List.eq_nil_of_length_eq_zero hl
    subst hn0
    refine wpList_plain hgd fun K hK => ?_
    have hrun := run_append_owned_none (P := Try.prog) (w := w) base 51 o.type 31 i31 1 Try.underlying51 hj v n xs hown
    unfold Oper.wp execOp
    simp only [ho, resolve, invoke, builtin, Sem.run_bind, Sem.run_pure, Result.andThen_ok, List.map_toArray, List.map_cons, List.map_nil, hs, hx, hrun]
    exact hK _ _ (h _ _ (by simpa using hown) (Below.refl base w))
  | some ad =>
    refine wpList_append_own3 _ hgd s x 51 ho base 31 i31 (.slice none 0 0) 24 Try.underlying51 hj hy0 hy1 hy2 rfl v n xs hs hown ad m c news hx (by omega) (hnews ad rfl) h1 (by unfold maxLen; omega) (by omega) hbase ?_
    intro v' w' h2 h3 _ _
    exact h v' w' h2 ((Below.refl base w).grown h3 hbase fun g e => (own_lt hown e).1)

section
variable (va : Nat → Option Addr) (N vd : Nat → Nat) (p c : Nat → Nat → Nat) (X : Nat → Nat → List Nat)
/-- The k-th list. -/
def vl5 (k : Nat) : Value := .slice (va k) (N k) (vd k)
/-- Five lists of rows that share no block. -/
structure Fam5 (w : World) (B : Nat) : Prop where
  grid : ∀ k, k < 5 → GridTo w B (vl5 va N vd k) (N k) (N k) (p k) (c k) (X k)
  rows : ∀ k l i j, k < 5 → l < 5 → k ≠ l → i < N k → j < N l → p k i ≠ p l j
  lists : ∀ k l, k < 5 → l < 5 → k ≠ l → Unl (vl5 va N vd k) (vl5 va N vd l)
/-- The rows of one list, of the first k lists. -/
def rsOf (k : Nat) : List R1 := (List.range (N k)).map fun i => ⟨some ⟨p k i, 0, none⟩, (X k i).length, c k i, X k i⟩
def rsTo : Nat → List R1
  | 0 => []
  | k + 1 => rsTo k ++ rsOf N p c X k
end
section
variable {va : Nat → Option Addr} {N vd : Nat → Nat} {p c : Nat → Nat → Nat} {X : Nat → Nat → List Nat} {w w' : World} {B : Nat}
theorem rsOf_len (k : Nat) : (rsOf N p c X k).length = N k := by simp [rsOf]
theorem mem_rsTo : ∀ {k : Nat} {r : R1}, r ∈ rsTo N p c X k → ∃ j i, j < k ∧ i < N j ∧ r = ⟨some ⟨p j i, 0, none⟩, (X j i).length, c j i, X j i⟩
  | 0, r, h => absurd h (by simp [rsTo])
  | k + 1, r, h => by
    rcases List.mem_append.1 h with h | h
    · obtain ⟨j, i, h1, h2, h3⟩ := mem_rsTo h
      exact ⟨j, i, by omega, h2, h3⟩
    · obtain ⟨i, hi, rfl⟩ := List.mem_map.1 h
      exact ⟨k, i, by omega, List.mem_range.1 hi, rfl⟩
theorem Fam5.made (h : Fam5 va N vd p c X w B) : ∀ k, k ≤ 5 → Made B (rsTo N p c X k) w
  | 0, _ => Made.nil B w
  | k + 1, hk => by
    have h1 := Fam5.made h k (by omega)
    have hrow : ∀ j i, j < 5 → i < N j → w.ownsRow B 5 1 (.slice (some ⟨p j i, 0, none⟩) (X j i).length (c j i)) (X j i).length (bs (X j i)) := fun j i hj hi => (h.grid j hj).row i hi
    refine ⟨fun r hr => ?_, List.pairwise_append.2 ⟨h1.unl, ?_, fun r hr s hs => ?_⟩⟩
    · obtain ⟨j, i, h2, h3, rfl⟩ := mem_rsTo (k := k + 1) hr
      exact hrow j i (by omega) h3
    · unfold rsOf
      rw [List.pairwise_map]
      refine List.Pairwise.imp_of_mem (fun {i j} hi hj hne => ?_) List.nodup_range
      intro g e1 e2
      have e1 : some (p k i) = some g := e1
      have e2 : some (p k j) = some g := e2
      injection e1 with e1
      injection e2 with e2
      exact hne ((h.grid k (by omega)).inj i j (List.mem_range.1 hi) (List.mem_range.1 hj) (by rw [e1, e2]))
    · obtain ⟨j, i, h2, h3, rfl⟩ := mem_rsTo hr
      obtain ⟨t, ht, rfl⟩ := List.mem_map.1 hs
      intro g e1 e2
      have e1 : some (p j i) = some g := e1
      have e2 : some (p k t) = some g := e2
      injection e1 with e1
      injection e2 with e2
      exact h.rows j k i t (by omega) (by omega) (by omega) h3 (List.mem_range.1 ht) (by rw [e1, e2])
theorem Fam5.below (h : Fam5 va N vd p c X w B) (hB : Below w.heap.size w w') : Fam5 va N vd p c X w' B := ⟨fun k hk => (h.grid k hk).below hB, h.rows, h.lists⟩
theorem Fam5.heads (h : Fam5 va N vd p c X w B) {k : Nat} (hk : k < 5) : ((rsOf N p c X k).map R1.v).length = N k ∧ (∀ ad, va k = some ad → ∀ j u, ((rsOf N p c X k).map R1.v)[j]? = some u → w.cell? (ad.add j) = some u) ∧ (va k = none → N k = 0 ∧ vd k = 0) ∧ ∀ u ∈ (rsOf N p c X k).map R1.v, u.oneCell' = true := by
  refine ⟨by rw [List.length_map, rsOf_len], fun ad had j u hu => ?_, fun hn => ?_, fun u hu => ?_⟩
  · have hj : j < N k := by have := (List.getElem?_eq_some_iff.1 hu).1; rwa [List.length_map, rsOf_len] at this
    obtain ⟨g, d, e, _, _, hc, _⟩ := (h.grid k hk).cell hj
    unfold vl5 at e
    injection e with e _ _
    rw [had] at e
    injection e with e
    subst e
    rw [Addr.add_lit, Nat.zero_add, hc, ← hu]
    unfold rsOf
    rw [List.map_map, List.getElem?_map, List.getElem?_range hj]
    rfl
  · obtain ⟨vs, hv, _⟩ := (h.grid k hk).own
    unfold vl5 at hv
    rw [hn] at hv
    rcases hv.2 with ⟨h2, h3⟩ | ⟨g, cap, cur, h2, _⟩
    · injection h2 with _ h4 h5
      exact ⟨h4, h5⟩
    · cases h2
  · obtain ⟨r, hr, rfl⟩ := List.mem_map.1 hu
    rfl
end

/-- Rows that were made, in a list that the call owns: ApartBytes tells true; what else lay stays. -/
theorem rows_apart2 {B B2 C : Nat} {la : Option Addr} {rs : List R1} {w : World} (h : Made B rs w) (hB : B ≤ w.heap.size) (hn : ∀ r ∈ rs, r.n ≤ 1000000) (hr : rs.length ≤ 1000000) (ho : w.ownsRow B2 31 1 (.slice la rs.length C) rs.length (rs.map R1.v)) :
    Calls Try.prog 55 #[.slice la rs.length C] w fun e w' => e = .returned (.bool true) ∧ Kpt (fun x => x < w.heap.size ∧ ∀ r ∈ rs, r.v.ownBlock ≠ some x) w w' := by
  have hmem : ∀ k (hk : k < rs.length), rs[k] ∈ rs := fun k hk => List.getElem_mem hk
  have hS : Sep la rs.length (ra rs) (rn rs) (rc rs) := by
    refine ⟨fun i j hi hj hne => ?_, fun b o k e hk => ?_, fun k hk => ?_, hr⟩
    · rw [at_get hi, at_get hj]
      rcases Nat.lt_or_gt_of_ne hne with hlt | hlt
      · exact List.pairwise_iff_getElem.1 h.unl i j hi hj hlt
      · exact (List.pairwise_iff_getElem.1 h.unl j i hj hi hlt).symm
    · rw [at_get hk]
      obtain ⟨g, cc, e2⟩ := own_some ho (by omega)
      injection e2 with e2 _ _
      rw [e] at e2
      injection e2 with e2
      injection e2 with e2 _ _
      intro e3
      have hu := unl_types (by decide) (h.own _ (hmem k hk)) ho
      exact hu b e3 (by rw [e, e2]; rfl)
    · have := hn _ (hmem k hk)
      unfold rn
      rwa [List.getD_eq_getElem?_getD, List.getElem?_eq_getElem hk]
  have hF : Fam B la rs.length (ra rs) (rn rs) (rc rs) (fun k i => ((rs.getD k default).l).getD i 0) w := by
    refine ⟨fun k hk => ?_, fun k hk => ?_⟩
    · obtain ⟨g, cc, e2⟩ := own_some ho (by omega)
      injection e2 with e2 _ _
      refine ⟨g, 0, e2, ?_⟩
      have hc := ho.cells (g := g) (by rw [e2]; rfl) k (rs[k]).v (by rw [List.getElem?_map, List.getElem?_eq_getElem hk]; rfl)
      rw [Addr.add_lit] at hc
      rw [hc, at_get hk]
    · have h1 := own_rowf (h.own _ (hmem k hk))
      rw [at_get hk]
      have e1 : rn rs k = (rs[k]).n := by unfold rn; rw [List.getD_eq_getElem?_getD, List.getElem?_eq_getElem hk]; rfl
      have e2 : rs.getD k default = rs[k] := by rw [List.getD_eq_getElem?_getD, List.getElem?_eq_getElem hk]; rfl
      rw [e1, e2]; exact h1
  refine (apart_bytes hB hS hF).mono fun e w' ⟨h1, h2⟩ => ⟨h1, h2.os, h2.tape, h2.output, h2.size, fun g hg => h2.block g ⟨hg.1, fun k hk e => ?_⟩⟩
  rw [at_get hk] at e
  exact hg.2 _ (hmem k hk) e

section
variable {va : Nat → Option Addr} {N vd : Nat → Nat} {p c : Nat → Nat → Nat} {X : Nat → Nat → List Nat}
/-- The list of the lists. -/
def five (va : Nat → Option Addr) (N vd : Nat → Nat) : Array Value := #[vl5 va N vd 0, vl5 va N vd 1, vl5 va N vd 2, vl5 va N vd 3, vl5 va N vd 4]
theorem five_cell {w : World} {Lb k : Nat} (h : w.heap[Lb]? = some (.cells (five va N vd) 51 (0, 0))) (hk : k < 5) : w.cell? ⟨Lb, k, none⟩ = some (.slice (va k) (N k) (vd k)) := by
  rw [cell_of_block h]
  match k, hk with
  | 0, _ => rfl
  | 1, _ => rfl
  | 2, _ => rfl
  | 3, _ => rfl
  | 4, _ => rfl
/-- The lists while their rows are made anew: those told so far have the lengths that they are given. -/
structure Fill5 (va : Nat → Option Addr) (N vd : Nat → Nat) (w0 : World) (B Lb : Nat) (k i : Nat) (w : World) : Prop where
  lb : w.heap[Lb]? = some (.cells (five va N vd) 51 (0, 0))
  own : ∀ j, j < 5 → ∃ vs, w.ownsRow B 31 1 (vl5 va N vd j) (N j) vs ∧ (∀ t, t < N j → ∃ a n c, vs[t]? = some (.slice a n c)) ∧ ∀ t, t < N j → (j < k ∨ (j = k ∧ t < i)) → ∃ a c, vs[t]? = some (.slice a (1 + (j * 31 + t) % 97) c)
  lists : ∀ k l, k < 5 → l < 5 → k ≠ l → Unl (vl5 va N vd k) (vl5 va N vd l)
  low : Below B w0 w
  big : B ≤ w.heap.size
theorem Fill5.below {w0 w w' : World} {B Lb k i : Nat} (h : Fill5 va N vd w0 B Lb k i w) (hB : Below w.heap.size w w') : Fill5 va N vd w0 B Lb k i w' :=
  ⟨(hB.block _ (lt_of_block h.lb)).trans h.lb, fun j hj => by
    obtain ⟨vs, h1, h2, h3⟩ := h.own j hj
    exact ⟨vs, own_below' h1 hB, h2, h3⟩, h.lists, h.low.trans (hB.mono h.big), Nat.le_trans h.big hB.size⟩
theorem Fill5.next {w0 w : World} {B Lb k : Nat} (h : Fill5 va N vd w0 B Lb k (N k) w) : Fill5 va N vd w0 B Lb (k + 1) 0 w :=
  ⟨h.lb, fun j hj => by
    obtain ⟨vs, h1, h2, h3⟩ := h.own j hj
    exact ⟨vs, h1, h2, fun t ht hor => h3 t ht (by
      rcases hor with hor | ⟨_, hor⟩
      · by_cases e : j = k
        · subst e; exact .inr ⟨rfl, ht⟩
        · exact .inl (by omega)
      · exact absurd hor (Nat.not_lt_zero t))⟩, h.lists, h.low, h.big⟩
theorem Fill5.put {w0 w : World} {B Lb k i g : Nat} {a : Option Addr} {c : Nat} (h : Fill5 va N vd w0 B Lb k i w) (hk : k < 5) (hi : i < N k) (hg : va k = some ⟨g, 0, none⟩) :
    Fill5 va N vd w0 B Lb k (i + 1) (w.setCell ⟨g, i, none⟩ (.slice a (1 + (k * 31 + i) % 97) c)) := by
  obtain ⟨vs0, h01, h02, h03⟩ := h.own k hk
  have hv : vl5 va N vd k = .slice (some ⟨g, 0, none⟩) (N k) (vd k) := by unfold vl5; rw [hg]
  rw [hv] at h01
  obtain ⟨hBg, _, cur, hcur, _⟩ := own_blk h01
  have hlen : vs0.length = N k := by have := h01.1; rwa [Nat.mul_one] at this
  have hne : Lb ≠ g := fun e => by
    have h1 := h.lb
    rw [e, hcur] at h1
    injection h1 with h1
    injection h1 with _ h3 _
    exact absurd h3 (by decide)
  refine ⟨(heap_setCell_other w ⟨g, i, none⟩ Lb _ hne).trans h.lb, fun j hj => ?_, h.lists, h.low.setCell hBg _, by simpa using h.big⟩
  by_cases e : j = k
  · subst e
    refine ⟨_, by rw [hv]; exact own_setV _ h01, fun t ht => ?_, fun t ht hor => ?_⟩
    · by_cases e2 : i = t
      · subst e2
        exact ⟨_, _, _, by rw [List.getElem?_set, if_pos rfl, if_pos (by omega)]⟩
      · obtain ⟨a1, n1, c1, h4⟩ := h02 t ht
        exact ⟨a1, n1, c1, by rw [List.getElem?_set, if_neg e2]; exact h4⟩
    · by_cases e2 : i = t
      · subst e2
        exact ⟨_, _, by rw [List.getElem?_set, if_pos rfl, if_pos (by omega)]⟩
      · obtain ⟨a1, c1, h4⟩ := h03 t ht (by omega)
        exact ⟨a1, c1, by rw [List.getElem?_set, if_neg e2]; exact h4⟩
  · obtain ⟨vs, h1, h2, h3⟩ := h.own j hj
    refine ⟨vs, own_frame h1 fun b hb _ => Below.heap_setCell w ⟨g, i, none⟩ _ b fun eb => ?_, h2, fun t ht hor => h3 t ht (by omega)⟩
    have eb : b = g := eb
    exact h.lists j k hj hk e b hb (by rw [hv, eb]; rfl)
theorem Fill5.head {w0 w : World} {B Lb k i : Nat} (h : Fill5 va N vd w0 B Lb k i w) {j t : Nat} (hj : j < 5) (ht : t < N j) : ∃ g, va j = some ⟨g, 0, none⟩ ∧ (∃ a n c, w.cell? ⟨g, t, none⟩ = some (.slice a n c)) ∧ w.frozen? ⟨g, t, none⟩ = false ∧ g < w.heap.size := by
  obtain ⟨vs, h1, h2, _⟩ := h.own j hj
  obtain ⟨a, n, c, h4⟩ := h2 t ht
  obtain ⟨g, c', e, _, h5, h6, h7, _⟩ := own_cellV h1 h4
  unfold vl5 at e
  injection e with e _ _
  exact ⟨g, e, ⟨a, n, c, h6⟩, h7, h5⟩
theorem Fill5.told {w0 w : World} {B Lb : Nat} (h : Fill5 va N vd w0 B Lb 5 0 w) {j t : Nat} (hj : j < 5) (ht : t < N j) : ∃ g, va j = some ⟨g, 0, none⟩ ∧ ∃ a c, w.cell? ⟨g, t, none⟩ = some (.slice a (1 + (j * 31 + t) % 97) c) := by
  obtain ⟨vs, h1, _, h3⟩ := h.own j hj
  obtain ⟨a, c, h4⟩ := h3 t ht (.inl hj)
  obtain ⟨g, c', e, _, h5, h6, h7, _⟩ := own_cellV h1 h4
  unfold vl5 at e
  injection e with e _ _
  exact ⟨g, e, a, c, h6⟩
end
theorem own_slice31 {w : World} {B n : Nat} {v : Value} {xs : List Value} (h : w.ownsRow B 31 1 v n xs) : ∃ a c, v = .slice a n c := by
  rcases h.2 with ⟨rfl, rfl⟩ | ⟨g, cap, cur, rfl, _⟩
  · exact ⟨_, _, rfl⟩
  · exact ⟨_, _, rfl⟩
/-- The worlds in which one block lies as it lay. -/
def LiesAt (w : World) (b : Nat) : Type := { w' : World // w'.heap[b]? = w.heap[b]? }
instance (w : World) (b : Nat) : Nonempty (LiesAt w b) := ⟨⟨w, rfl⟩⟩
instance (w : World) (b : Nat) : Inhabited (LiesAt w b) := ⟨⟨w, rfl⟩⟩
theorem Fill5.at {va : Nat → Option Addr} {N vd : Nat → Nat} {w0 w : World} {B Lb k i j : Nat} (h : Fill5 va N vd w0 B Lb k i w) (hj : j < 5) (x : LiesAt w Lb) : x.1.cell? ⟨Lb, j, none⟩ = some (.slice (va j) (N j) (vd j)) := five_cell (x.2.trans h.lb) hj
/-- How many rows the first k lists have. -/
def cnt (N : Nat → Nat) : Nat → Nat
  | 0 => 0
  | k + 1 => cnt N k + N k
theorem rsTo_len {N : Nat → Nat} {p c : Nat → Nat → Nat} {X : Nat → Nat → List Nat} : ∀ k, (rsTo N p c X k).length = cnt N k
  | 0 => rfl
  | k + 1 => by show (List.length (_ ++ _)) = _ + _; rw [List.length_append, rsTo_len k, rsOf_len]

set_option maxHeartbeats 6000000 in
set_option maxRecDepth 100000 in
theorem apartRows_any {w : World} {B Lb : Nat} {va : Nat → Option Addr} {N vd : Nat → Nat} {p c : Nat → Nat → Nat} {X : Nat → Nat → List Nat} (h : Fam5 va N vd p c X w B) (hB : B ≤ Lb) (hlb : w.heap[Lb]? = some (.cells (five va N vd) 51 (0, 0)))
    (hN : ∀ k, k < 5 → N k ≤ 1000) (hX : ∀ k i, k < 5 → i < N k → (X k i).length ≤ 1000000) :
    Calls Try.prog 83 #[.slice (some ⟨Lb, 0, none⟩) (5 : Nat) (5 : Nat)] w fun e w' => e = .returned (.bool true) ∧ Below B w w' := by
  obtain ⟨i0, hi, hz0, hz1, hz2⟩ := info_parts info5
  have hcnt : ∀ k, k ≤ 5 → cnt N k ≤ k * 1000 := fun k => by
    induction k with
    | zero => intro _; exact Nat.le_refl _
    | succ k ih =>
      intro hk
      have := ih (by omega)
      have := hN k (by omega)
      show cnt N k + N k ≤ _
      omega
  have HF := Lib.hid h
  have HLB := Lib.hid hlb
  have HN := Lib.hid hN
  have HX := Lib.hid hX
  have HC := Lib.hid hcnt
  have hlt := lt_of_block hlb
  clear h hlb hN hX hcnt
  go_enter Try.func83, Try.ntmps83
  go_wp2_with fail
  go_loopw [3, 4] (fun s i wr => ∃ k : Nat, k ≤ 5 ∧ i = .int .i64 k ∧ Hid (wr.ownsRow w.heap.size 31 1 s (cnt N k) ((rsTo N p c X k).map R1.v)) ∧ Hid (Below w.heap.size w wr)) (fun _ i _ => 5 - (intOf i).toNat)
  case atStart => exact ⟨0, by omega, rfl, World.ownsRow_nil _ _ _ _, Below.refl _ _⟩
  case round =>
    obtain ⟨k, hk, rfl, HO, HB⟩ := hrel
    by_cases hk1 : k < 5
    · have hc1 := (HB.out.cell (p := ⟨Lb, k, none⟩) hlt).trans (five_cell HLB.out hk1)
      obtain ⟨g1, g2, g3, g4⟩ := (HF.out.below HB.out).heads hk1
      have G1 := Lib.hid g1
      have G2 := Lib.hid g2
      have G3 := Lib.hid g3
      have G4 := Lib.hid g4
      have hn1 := HN.out k hk1
      have hn2 := HC.out k (by omega)
      have hsz : w.heap.size ≤ wr.heap.size := HB.out.size
      have dk : decide ((k : Int) < 5) = true := by simp; omega
      clear g1 g2 g3 g4
      obtain ⟨n, hne⟩ : ∃ n, n = N k := ⟨_, rfl⟩
      obtain ⟨m, hme⟩ : ∃ m, m = cnt N k := ⟨_, rfl⟩
      rw [← hne] at hc1 G1 G3 hn1
      rw [← hme] at HO hn2
      have HE := Lib.hid (show cnt N (k + 1) = m + n by rw [hne, hme]; rfl)
      clear hne hme
      go_wp2_with (refine wpList_append_src rfl (.tmp 15) (.tmp 19) rfl w.heap.size _ m _ rfl HO.out (va k) n (vd k) _ rfl G1.out G2.out G3.out G4.out (by omega) hsz ?_)
      intro v7 w7 ho7 hB7
      have HO7 := Lib.hid (show w7.ownsRow w.heap.size 31 1 v7 (cnt N (k + 1)) ((rsTo N p c X (k + 1)).map R1.v) by
        rw [HE.out]
        show w7.ownsRow _ _ _ _ _ ((rsTo N p c X k ++ rsOf N p c X k).map R1.v)
        rw [List.map_append]; exact ho7)
      have HB7 := Lib.hid (HB.out.trans hB7)
      clear ho7 hB7
      go_wp2_with fail
      go_roundw
      case rel => exact ⟨k + 1, by omega, by go_num, HO7, HB7⟩
      case measure => simp [intOf]; omega
    · obtain rfl : k = 5 := by omega
      obtain ⟨la, C, hs⟩ := own_slice31 HO.out
      subst hs
      have hm := (HF.out.below HB.out).made 5 (by omega)
      have hap := rows_apart2 hm (Nat.le_trans hB (Nat.le_trans (Nat.le_of_lt hlt) HB.out.size)) (fun r hr => by
        obtain ⟨j, i, h1, h2, rfl⟩ := mem_rsTo hr
        exact HX.out j i h1 h2) (by rw [rsTo_len]; have := HC.out 5 (by omega); omega) (by rw [rsTo_len]; exact HO.out)
      rw [rsTo_len] at hap
      have HAP := Lib.hid hap
      clear hm hap
      go_wp2_with fail
      refine HAP.out.mono ?_
      rintro e w2 ⟨rfl, hK⟩
      have hl2 : w2.heap[Lb]? = some (.cells (five va N vd) 51 (0, 0)) := by
        have h1 := (HB.out.block Lb hlt).trans HLB.out
        refine (hK.block Lb ⟨lt_of_block h1, fun r hr e => ?_⟩).trans h1
        obtain ⟨j, i, h2, h3, rfl⟩ := mem_rsTo hr
        have e : some (p j i) = some Lb := e
        injection e with e
        obtain ⟨_, _, cur, hcur, _⟩ := own_blk (((HF.out.below HB.out).grid j h2).row i h3)
        rw [e, h1] at hcur
        injection hcur with hcur
        injection hcur with _ h4 _
        exact absurd h4 (by decide)
      have HFL := Lib.hid (show Fill5 va N vd w B Lb 0 0 w2 from ⟨hl2, fun j hj => by
        obtain ⟨vs, h1, h2⟩ := ((HF.out.below HB.out).grid j hj).own
        refine ⟨vs, own_frame h1 fun b hb hbl => hK.block b ⟨hbl, fun r hr e => ?_⟩, fun t ht => ⟨_, _, _, h2 t ht⟩, fun t _ hor => by omega⟩
        obtain ⟨j2, i2, h3, h4, rfl⟩ := mem_rsTo hr
        have e : some (p j2 i2) = some b := e
        injection e with e
        exact ((HF.out.below HB.out).grid j2 h3).rowne ((HF.out.below HB.out).grid j hj) h4 hb e, HF.out.lists, (HB.out.mono (by omega)).trans (hK.low fun x hx => ⟨by have := HB.out.size; omega, fun r hr e => by
        obtain ⟨j2, i2, h3, h4, rfl⟩ := mem_rsTo hr
        have e : some (p j2 i2) = some x := e
        injection e with e
        have := (own_blk (((HF.out.below HB.out).grid j2 h3).row i2 h4)).1
        omega⟩), by have := hK.size; have := HB.out.size; omega⟩)
      clear hK hl2 HF HLB HO HAP HX HC
      go_wp2_with fail
      go_loopw [5] (fun i wr => ∃ k : Nat, k ≤ 5 ∧ i = .int .i64 k ∧ Hid (Fill5 va N vd w B Lb k 0 wr)) (fun i _ => 5 - (intOf i).toNat)
      case atStart => exact ⟨0, by omega, rfl, HFL⟩
      case round =>
        clear HFL
        obtain ⟨k, hk, rfl, HFL⟩ := hrel
        by_cases hk1 : k < 5
        · have dk : decide ((k : Int) < 5) = true := by simp; omega
          have hn1 := HN.out k hk1
          go_wp2_with fail
          go_loopw [6] (fun i wr => ∃ t : Nat, t ≤ N k ∧ i = .int .i64 t ∧ Hid (Fill5 va N vd w B Lb k t wr)) (fun i _ => N k - (intOf i).toNat)
          case atStart => exact ⟨0, by omega, rfl, HFL⟩
          case round =>
            clear HFL
            obtain ⟨t, ht, rfl, HFL⟩ := hrel
            have hc1 := five_cell HFL.out.lb hk1
            by_cases ht1 : t < N k
            · obtain ⟨g, hg, ⟨a1, m1, c1, hc2⟩, hfz, hgl⟩ := HFL.out.head hk1 ht1
              have hx1 : IntKind.i64.wrap ((k : Int) * 31) = ((k * 31 : Nat) : Int) := by rw [show (k : Int) * 31 = ((k * 31 : Nat) : Int) by omega]; exact IntWalk.i64_in _ (by omega)
              have hx2 : IntKind.i64.wrap (((k * 31 : Nat) : Int) + (t : Int)) = ((k * 31 + t : Nat) : Int) := by rw [show ((k * 31 : Nat) : Int) + (t : Int) = ((k * 31 + t : Nat) : Int) by omega]; exact IntWalk.i64_in _ (by omega)
              have hx3 : ((k * 31 + t : Nat) : Int).tmod 97 = (((k * 31 + t) % 97 : Nat) : Int) := by rw [Int.tmod_eq_emod_of_nonneg (by omega)]; omega
              have hx4 : IntKind.i64.wrap (1 + (((k * 31 + t) % 97 : Nat) : Int)) = ((1 + (k * 31 + t) % 97 : Nat) : Int) := by rw [show (1 : Int) + (((k * 31 + t) % 97 : Nat) : Int) = ((1 + (k * 31 + t) % 97 : Nat) : Int) by omega]; exact IntWalk.i64_in _ (by omega)
              rw [hg] at hc1
              have hx5 : 1 + (k * 31 + t) % 97 ≤ 97 := by omega
              have HPUT := Lib.hid fun W (hW : Below wr.heap.size wr W) a c => (HFL.out.below hW).put (a := a) (c := c) hk1 ht1 hg
              have HT1 := Lib.hid ht1
              obtain ⟨n, hne⟩ : ∃ n, n = N k := ⟨_, rfl⟩
              have L1 := HFL.out.at hk1
              rw [hg, ← hne] at L1
              rw [← hne] at hc1 ht ht1 hn1
              clear hne
              have hz4 : i0.bytes = 1 := hz2
              generalize 1 + (k * 31 + t) % 97 = x4 at *
              generalize (k * 31 + t) % 97 = x3 at *
              generalize k * 31 + t = x2 at *
              generalize k * 31 = x1 at *
              go_wp2_with fail
              obtain ⟨W, hmk, _, hgw⟩ := run_make_full (P := Try.prog) (w := wr.drew) wr.drew.heap.size 31 5 i0 _ 1 Try.underlying31 hi hz0 hz1 .i64 .i64 x4 (by rw [hz4]; omega) (by unfold maxLen; omega) (Nat.le_refl _)
              have hBW : Below wr.heap.size wr W := (Below.refl _ wr).drew.grown hgw (Nat.le_refl _) fun g e => by cases e
              refine region_sch (fun w' => ∃ x : LiesAt wr Lb, w' = x.1) [] [([0, 1, 2, 3, 4, 5, 6, 7, 8, 9, 10], 11), ([12], 13)] (by kernel_rfl) (by kernel_rfl) ⟨⟨wr.drew, rfl⟩, rfl⟩ ?_
              unfold schP
              simp only [pickL, List.filterMap_cons, List.filterMap_nil, List.getElem?_toArray, List.getElem?_cons_zero, List.getElem?_cons_succ]
              show wpQuiet _ _ _ _ [_, _, _, _, _, _, _, _, _, _, _] _
              repeat (go_big_quiet_step (fail))
              refine wpQuiet_nil ?_
              refine mv_value (v := .slice (some ⟨wr.heap.size, 0, none⟩) x4 x4) (w' := W) (some 50) rfl rfl rfl ?_ ⟨⟨⟨W, (hBW.block Lb (lt_of_block HFL.out.lb))⟩, rfl⟩, ?_⟩
              · show (bind (Instr.makeSlice 31 (.int .i64 x4) (.int .i64 x4)) fun v => pure (Next.value v)).run Try.prog wr.drew = _
                rw [Sem.run_bind, hmk]
                rfl
              simp only [Act.put, List.setIfInBounds_toArray, List.set_cons_succ, List.set_cons_zero]
              unfold schP
              simp only [pickL, List.filterMap_cons, List.filterMap_nil, List.getElem?_toArray, List.getElem?_cons_zero, List.getElem?_cons_succ]
              show wpQuiet _ _ _ _ [_] _
              repeat (go_big_quiet_step (fail))
              refine wpQuiet_nil ?_
              obtain ⟨g2, hg2, ⟨a2, m2, c2, hc3⟩, hfz2, _⟩ := (HFL.out.below hBW).head hk1 HT1.out
              obtain rfl : g2 = g := by rw [hg] at hg2; injection hg2 with e; injection e with e _ _; exact e.symm
              refine ⟨_, rfl, .inl ⟨rfl, .skip, W.setCell ⟨g2, t, none⟩ (.slice (some ⟨wr.heap.size, 0, none⟩) x4 x4), ?_, ?_⟩⟩
              · go_simp
              have HF2 := Lib.hid (HPUT.out W hBW (some ⟨wr.heap.size, 0, none⟩) x4)
              refine ⟨⟨⟨_, HF2.out.lb.trans HFL.out.lb.symm⟩, rfl⟩, ?_⟩
              simp only [Act.put, List.setIfInBounds_toArray]
              unfold schP
              refine wpQuiet_nil ?_
              clear HPUT HFL hBW hmk hgw L1 hc3 hfz2
              go_wp2_with fail
              go_roundw
              case rel => exact ⟨t + 1, by have := HT1.out; omega, by go_num, HF2⟩
              case measure => have := HT1.out; simp [intOf]; omega
            · obtain rfl : t = N k := by omega
              have HF3 := Lib.hid HFL.out.next
              clear HFL
              go_wp2_with fail
              go_roundw
              case rel => exact ⟨k + 1, by omega, by go_num, HF3⟩
              case measure => simp [intOf]; omega
        · obtain rfl : k = 5 := by omega
          go_wp2_with fail
          go_loopw [7] (fun i wr => ∃ k : Nat, k ≤ 5 ∧ i = .int .i64 k ∧ Hid (Fill5 va N vd w B Lb 5 0 wr)) (fun i _ => 5 - (intOf i).toNat)
          case atStart => exact ⟨0, by omega, rfl, HFL⟩
          case round =>
            clear HFL
            obtain ⟨k, hk, rfl, HFL⟩ := hrel
            by_cases hk1 : k < 5
            · have dk : decide ((k : Int) < 5) = true := by simp; omega
              have hn1 := HN.out k hk1
              go_wp2_with fail
              go_loopw [8] (fun i wr => ∃ t : Nat, t ≤ N k ∧ i = .int .i64 t ∧ Hid (Fill5 va N vd w B Lb 5 0 wr)) (fun i _ => N k - (intOf i).toNat)
              case atStart => exact ⟨0, by omega, rfl, HFL⟩
              case round =>
                clear HFL
                obtain ⟨t, ht, rfl, HFL⟩ := hrel
                have hc1 := five_cell HFL.out.lb hk1
                by_cases ht1 : t < N k
                · obtain ⟨g, hg, a1, c1, hc2⟩ := HFL.out.told hk1 ht1
                  have hx1 : IntKind.i64.wrap ((k : Int) * 31) = ((k * 31 : Nat) : Int) := by rw [show (k : Int) * 31 = ((k * 31 : Nat) : Int) by omega]; exact IntWalk.i64_in _ (by omega)
                  have hx2 : IntKind.i64.wrap (((k * 31 : Nat) : Int) + (t : Int)) = ((k * 31 + t : Nat) : Int) := by rw [show ((k * 31 : Nat) : Int) + (t : Int) = ((k * 31 + t : Nat) : Int) by omega]; exact IntWalk.i64_in _ (by omega)
                  have hx3 : ((k * 31 + t : Nat) : Int).tmod 97 = (((k * 31 + t) % 97 : Nat) : Int) := by rw [Int.tmod_eq_emod_of_nonneg (by omega)]; omega
                  have hx4 : IntKind.i64.wrap (1 + (((k * 31 + t) % 97 : Nat) : Int)) = ((1 + (k * 31 + t) % 97 : Nat) : Int) := by rw [show (1 : Int) + (((k * 31 + t) % 97 : Nat) : Int) = ((1 + (k * 31 + t) % 97 : Nat) : Int) by omega]; exact IntWalk.i64_in _ (by omega)
                  rw [hg] at hc1
                  have HT1 := Lib.hid ht1
                  obtain ⟨n, hne⟩ : ∃ n, n = N k := ⟨_, rfl⟩
                  rw [← hne] at hc1 ht ht1 hn1
                  clear hne
                  generalize 1 + (k * 31 + t) % 97 = x4 at *
                  generalize (k * 31 + t) % 97 = x3 at *
                  generalize k * 31 + t = x2 at *
                  generalize k * 31 = x1 at *
                  go_wp2_with fail
                  go_roundw
                  case rel => exact ⟨t + 1, by have := HT1.out; omega, by go_num, HFL⟩
                  case measure => have := HT1.out; simp [intOf]; omega
                · obtain rfl : t = N k := by omega
                  go_wp2_with fail
                  go_roundw
                  case rel => exact ⟨k + 1, by omega, by go_num, HFL⟩
                  case measure => simp [intOf]; omega
            · obtain rfl : k = 5 := by omega
              go_wp2_with fail
              go_ret
              exact ⟨rfl, HFL.out.low⟩
end Go.Proofs.Ytokeoodkioobdaa

/- The calls of the law RowsDo in pairs: the program's and the reference's tell the same; grids that were made one after another lie apart. Conditions: rows of at most 900 places, at most 900 of them. -/
namespace Go.Proofs.Ytokeoodkioobdaa
open Go.RowKit

/-- A grid whose blocks lie between two heap sizes. -/
structure Gr (w : World) (lo hi : Nat) (va : Option Addr) (N vd : Nat) (p c : Nat → Nat) (X : Nat → List Nat) : Prop where
  grid : GridTo w lo (.slice va N vd) N N p c X
  rows : ∀ i, i < N → p i < hi
  list : ∀ g, (Value.slice va N vd).ownBlock = some g → g < hi
  le : lo ≤ hi
theorem Gr.below {w w' : World} {lo hi N vd : Nat} {va : Option Addr} {p c : Nat → Nat} {X : Nat → List Nat} (h : Gr w lo hi va N vd p c X) (hB : Below w.heap.size w w') : Gr w' lo hi va N vd p c X := ⟨h.grid.below hB, h.rows, h.list, h.le⟩
theorem Gr.of {w : World} {lo N vd : Nat} {va : Option Addr} {p c : Nat → Nat} {X : Nat → List Nat} (h : GridTo w lo (.slice va N vd) N N p c X) (hle : lo ≤ w.heap.size) : Gr w lo w.heap.size va N vd p c X := by
  obtain ⟨vs, h1, _⟩ := h.own
  exact ⟨h, fun i hi => h.rowlt hi, fun g hg => (own_lt h1 hg).2, hle⟩
def sel5 {α : Type} (a0 a1 a2 a3 a4 : α) : Nat → α
  | 0 => a0
  | 1 => a1
  | 2 => a2
  | 3 => a3
  | _ => a4
theorem fam5_of {w : World} {B : Nat} {lo hi : Nat → Nat} {va : Nat → Option Addr} {N vd : Nat → Nat} {p c : Nat → Nat → Nat} {X : Nat → Nat → List Nat} (h : ∀ k, k < 5 → Gr w (lo k) (hi k) (va k) (N k) (vd k) (p k) (c k) (X k)) (hs : ∀ k, k < 4 → hi k ≤ lo (k + 1)) (hB : B ≤ lo 0) :
    Fam5 va N vd p c X w B := by
  have hl : ∀ k l, k < l → l < 5 → hi k ≤ lo l := fun k l hkl => by
    induction l with
    | zero => omega
    | succ l ih =>
      intro hl
      rcases Nat.lt_or_ge k l with h1 | h1
      · have := ih h1 (by omega)
        have := (h l (by omega)).le
        have := hs l (by omega)
        omega
      · obtain rfl : k = l := by omega
        exact hs k (by omega)
  have h0 : ∀ k, k < 5 → B ≤ lo k := fun k hk => by
    rcases Nat.eq_zero_or_pos k with rfl | h1
    · exact hB
    · have := hl 0 k h1 hk
      have := (h 0 (by omega)).le
      omega
  have low : ∀ k i, k < 5 → i < N k → lo k ≤ p k i := fun k i hk hi => by
    obtain ⟨g, d, _, _, _, _, _, _, h1, _⟩ := (h k hk).grid.cell hi
    exact h1
  have lowl : ∀ k g, k < 5 → (vl5 va N vd k).ownBlock = some g → lo k ≤ g := fun k g hk hg => by
    obtain ⟨vs, h1, _⟩ := (h k hk).grid.own
    exact (own_lt h1 hg).1
  refine ⟨fun k hk => (h k hk).grid.mono (h0 k hk), fun k l i j hk hl1 hne hi hj e => ?_, fun k l hk hl1 hne g e1 e2 => ?_⟩
  · rcases Nat.lt_or_gt_of_ne hne with h1 | h1
    · have := hl k l h1 hl1
      have := (h k hk).rows i hi
      have := low l j hl1 hj
      omega
    · have := hl l k h1 hk
      have := (h l hl1).rows j hj
      have := low k i hk hi
      omega
  · rcases Nat.lt_or_gt_of_ne hne with h1 | h1
    · have := hl k l h1 hl1
      have := (h k hk).list g e1
      have := lowl l g hl1 e2
      omega
    · have := hl l k h1 hk
      have := (h l hl1).list g e2
      have := lowl k g hk e1
      omega

/-- A matrix that was made, and an error's number. -/
def GGive (w w' : World) (N : Nat) (X : Nat → List Nat) (er : Int) (e : Ending) : Prop := ∃ va vd p c, e = .returned (.tuple #[.slice va N vd, .int .i64 er]) ∧ Hid (Gr w' w.heap.size w'.heap.size va N vd p c X) ∧ Hid (Below w.heap.size w w')
def RGive (w w' : World) (N : Nat) (X : Nat → List Nat) (er : Int) (e : Ending) : Prop := ∃ va vd, e = .returned (.tuple #[.slice va N vd, .int .i64 er]) ∧ Hid (RR w' (.slice va N vd) N X) ∧ Hid (Below w.heap.size w w')
def BGive (w w' : World) (l : List Nat) (er : Int) (e : Ending) : Prop := ∃ va c, e = .returned (.tuple #[.slice va l.length c, .int .i64 er]) ∧ Hid (RB w' va l.length c l) ∧ Hid (Below w.heap.size w w')
/-- Rows that are small and not long. -/
def Fine (N : Nat) (X : Nat → List Nat) : Prop := N ≤ 900 ∧ ∀ i, i < N → Small (X i) ∧ (X i).length ≤ 900
theorem Fine.rr {w : World} {B N vd : Nat} {va : Option Addr} {p c : Nat → Nat} {X : Nat → List Nat} (h : Fine N X) (hG : GridTo w B (.slice va N vd) N N p c X) : RR w (.slice va N vd) N X := hG.rr fun i hi => ⟨(h.2 i hi).1, by have := (h.2 i hi).2; omega⟩
theorem fine_none (X : Nat → List Nat) : Fine 0 X := ⟨Nat.zero_le _, fun i hi => absurd hi (Nat.not_lt_zero i)⟩
theorem rr_none (w : World) (X : Nat → List Nat) : RR w (.slice none 0 0) 0 X := ⟨_, _, rfl, fun k hk => absurd hk (Nat.not_lt_zero k)⟩
theorem ggive {w w' : World} {e : Ending} {N vd : Nat} {va : Option Addr} {p c : Nat → Nat} {X : Nat → List Nat} {er : Int} (he : e = .returned (.tuple #[.slice va N vd, .int .i64 er])) (hG : GridTo w' w.heap.size (.slice va N vd) N N p c X) (hB : Below w.heap.size w w') : GGive w w' N X er e :=
  ⟨va, vd, p, c, he, Gr.of hG hB.size, hB⟩
theorem ggive_none {w w' : World} {e : Ending} {er : Int} (he : e = .returned (.tuple #[.slice none 0 0, .int .i64 er])) (hB : Below w.heap.size w w') : GGive w w' 0 (fun _ => []) er e := ggive he (grid_empty w' _ (fun _ => 0) (fun _ => 0) _) hB
theorem rgive_none {w w' : World} {e : Ending} {er : Int} (he : e = .returned (.tuple #[.slice none 0 0, .int .i64 er])) (hB : Below w.heap.size w w') : RGive w w' 0 (fun _ => []) er e := ⟨_, _, he, rr_none _ _, hB⟩
theorem rb_empty0 (w : World) : RB w none 0 0 [] := own_rb2 (B := 0) ⟨rfl, .inl ⟨rfl, rfl⟩⟩ Small.nil (Nat.zero_le _)
theorem bgive_none {w w' : World} {e : Ending} {er : Int} (he : e = .returned (.tuple #[.slice none 0 0, .int .i64 er])) (hB : Below w.heap.size w w') : BGive w w' [] er e := ⟨_, _, he, rb_empty0 _, hB⟩
theorem bgive {w w' : World} {e : Ending} {v : Value} {n : Nat} {l : List Nat} {er : Int} (he : e = .returned (.tuple #[v, .int .i64 er])) (ho : w'.ownsRow w.heap.size 5 1 v n (bs l)) (hs : Small l) (hl : l.length = n) (hn : n ≤ 100000) (hB : Below w.heap.size w w') : BGive w w' l er e := by
  subst hl
  rcases ho.2 with ⟨rfl, e2⟩ | ⟨g, cap, cur, rfl, _⟩
  · have : l = [] := List.eq_nil_of_length_eq_zero e2
    subst this
    exact bgive_none he hB
  · exact ⟨_, _, he, own_rb2 ho hs (by omega), hB⟩
theorem same_below {w w' : World} {e : Ending} {R : Ending → Prop} (h : R e ∧ w = w') : R e ∧ Below w.heap.size w w' := ⟨h.1, by rw [← h.2]; exact Below.refl _ _⟩

theorem mulM_both {N M : Nat} {X Y : Nat → List Nat} (hX : Fine N X) (hY : Fine M Y) : ∃ K Z, ∃ er : Int, Fine K Z ∧
    (∀ w a b c d, RR w (.slice a N c) N X → RR w (.slice b M d) M Y → Calls Try.prog 69 #[.slice a N c, .slice b M d] w fun e w' => GGive w w' K Z er e) ∧
    (∀ w a b c d, RR w (.slice a N c) N X → RR w (.slice b M d) M Y → Calls Try.prog 73 #[.slice a N c, .slice b M d] w fun e w' => RGive w w' K Z er e) := by
  have hN := hX.1
  have hM := hY.1
  by_cases hok : mulOk N M X Y
  · have hf : Fine N (mulX X Y M (colsX M Y)) := ⟨hN, fun i hi => ⟨mulX_small (hX.2 i hi).1, by rw [mulX_len]; have := hok.2.1.2.1; omega⟩⟩
    refine ⟨N, mulX X Y M (colsX M Y), 0, hf, fun w a b c d h1 h2 => (Mul_ok h1 h2 hok).mono ?_, fun w a b c d h1 h2 => (rMul_ok h1 h2 hok).mono ?_⟩
    · rintro e w' ⟨g, p, q, rfl, hG, hB⟩
      exact ggive rfl hG hB
    · rintro e w' ⟨va, vd, p, q, rfl, hG, hB⟩
      exact ⟨_, _, rfl, hf.rr hG, hB⟩
  · refine ⟨0, fun _ => [], 2, fine_none _, fun w a b c d h1 h2 => (Mul_bad (by omega) (by omega) h1 h2 hok).mono ?_, fun w a b c d h1 h2 => (rMul_bad (by omega) (by omega) h1 h2 hok).mono ?_⟩
    · rintro e w' ⟨rfl, rfl⟩
      exact ggive_none rfl (Below.refl _ _)
    · rintro e w' ⟨rfl, hB⟩
      exact rgive_none rfl hB
theorem invM_both {N : Nat} {X : Nat → List Nat} (hX : Fine N X) : ∃ K Z, ∃ er : Int, Fine K Z ∧
    (∀ w a c, RR w (.slice a N c) N X → Calls Try.prog 74 #[.slice a N c] w fun e w' => GGive w w' K Z er e) ∧
    (∀ w a c, RR w (.slice a N c) N X → Calls Try.prog 75 #[.slice a N c] w fun e w' => RGive w w' K Z er e) := by
  have hN := hX.1
  by_cases hok : isM N X ∧ colsX N X = N
  · obtain ⟨hx, hxy⟩ := hok
    by_cases hr : Gf.rdN (cut N X N) N N < N
    · refine ⟨0, fun _ => [], 7, fine_none _, fun w a c h1 => (Inverse_any h1 hx hxy).mono ?_, fun w a c h1 => (rInverse_any h1 hx hxy).mono ?_⟩
      · rintro e w' ⟨hB, ⟨_, rfl⟩ | ⟨h2, _⟩⟩
        · exact ggive_none rfl hB
        · omega
      · rintro e w' ⟨hB, ⟨_, rfl⟩ | ⟨h2, _⟩⟩
        · exact rgive_none rfl hB
        · omega
    · refine ⟨N, Gf.invX (cut N X N) N, 0, ⟨hN, fun i _ => ⟨byt_small (Gf.invX_byt _ _) i, by rw [Gf.invX_long]; omega⟩⟩, fun w a c h1 => (Inverse_any h1 hx hxy).mono ?_, fun w a c h1 => (rInverse_any h1 hx hxy).mono ?_⟩
      · rintro e w' ⟨hB, ⟨h2, _⟩ | ⟨_, g, p, d, rfl, hG⟩⟩
        · omega
        · exact ggive rfl hG hB
      · rintro e w' ⟨hB, ⟨h2, _⟩ | ⟨_, va, vd, rfl, hR⟩⟩
        · omega
        · exact ⟨_, _, rfl, hR, hB⟩
  · refine ⟨0, fun _ => [], 2, fine_none _, fun w a c h1 => (Inverse_bad (by omega) h1 hok).mono ?_, fun w a c h1 => (rInverse_bad (by omega) h1 hok).mono ?_⟩
    · rintro e w' ⟨rfl, rfl⟩
      exact ggive_none rfl (Below.refl _ _)
    · rintro e w' ⟨rfl, hB⟩
      exact rgive_none rfl hB
theorem applyM_both {N M : Nat} {X : Nat → List Nat} {v : List Nat} (hX : Fine N X) : ∃ l, ∃ er : Int,
    (∀ w a b c d, RR w (.slice a N c) N X → RB w b M d v → Calls Try.prog 76 #[.slice a N c, .slice b M d] w fun e w' => BGive w w' l er e) ∧
    (∀ w a b c d, RR w (.slice a N c) N X → RB w b M d v → Calls Try.prog 77 #[.slice a N c, .slice b M d] w fun e w' => BGive w w' l er e) := by
  have hN := hX.1
  by_cases hok : isM N X ∧ colsX N X = M
  · obtain ⟨hx, hxy⟩ := hok
    have hs : Small (applyTo X v M N) := applyTo_small fun i hi => (hX.2 i hi).1
    refine ⟨applyTo X v M N, 0, fun w a b c d h1 h2 => (Apply_ok h1 h2 hx hxy).mono ?_, fun w a b c d h1 h2 => (rApply_ok h1 h2 hx hxy).mono ?_⟩
    · rintro e w' ⟨u, rfl, ho, hB⟩
      exact bgive rfl ho hs (applyTo_len _ _ _ _) (by omega) hB
    · rintro e w' ⟨u, rfl, ho, hB⟩
      exact bgive rfl ho hs (applyTo_len _ _ _ _) (by omega) hB
  · refine ⟨[], 2, fun w a b c d h1 h2 => (Apply_bad (by omega) h1 h2 hok).mono ?_, fun w a b c d h1 h2 => (rApply_bad (by omega) h1 h2 hok).mono ?_⟩
    · rintro e w' ⟨rfl, rfl⟩
      exact bgive_none rfl (Below.refl _ _)
    · rintro e w' ⟨rfl, hB⟩
      exact bgive_none rfl hB
theorem unitM_both (n : Int) : ∃ K Z, ∃ er : Int, Fine K Z ∧ (∀ w, Calls Try.prog 70 #[.int .i64 n] w fun e w' => GGive w w' K Z er e) ∧ (∀ w, Calls Try.prog 78 #[.int .i64 n] w fun e w' => RGive w w' K Z er e) := by
  by_cases hbad : n < 0 ∨ 255 < n
  · refine ⟨0, fun _ => [], 2, fine_none _, fun w => (Unit_bad hbad).mono ?_, fun w => (rUnit_bad hbad).mono ?_⟩
    · rintro e w' ⟨rfl, rfl⟩
      exact ggive_none rfl (Below.refl _ _)
    · rintro e w' ⟨rfl, rfl⟩
      exact rgive_none rfl (Below.refl _ _)
  · obtain ⟨m, rfl⟩ : ∃ m : Nat, n = (m : Int) := ⟨n.toNat, by omega⟩
    have hm : m ≤ 255 := by omega
    have hf : Fine m (Gf.unitX m) := ⟨by omega, fun i _ => ⟨unitX_small m i, by rw [Gf.unitX_len]; omega⟩⟩
    refine ⟨m, Gf.unitX m, 0, hf, fun w => (Unit_ok hm).mono ?_, fun w => (rUnit_ok hm).mono ?_⟩
    · rintro e w' ⟨g, p, d, rfl, hG, hB⟩
      exact ggive rfl hG hB
    · rintro e w' ⟨va, vd, p, d, rfl, hG, hB⟩
      exact ⟨_, _, rfl, hf.rr hG, hB⟩
theorem right_both {N : Nat} {X : Nat → List Nat} (hX : Fine N X) : ∃ b : Bool, (∀ w a c, RR w (.slice a N c) N X → Calls Try.prog 80 #[.slice a N c] w fun e w' => e = .returned (.bool b) ∧ Below w.heap.size w w') ∧
    (∀ w a c, RR w (.slice a N c) N X → Calls Try.prog 81 #[.slice a N c] w fun e w' => e = .returned (.bool b) ∧ Below w.heap.size w w') := by
  have hN := hX.1
  refine ⟨decide (isM N X), fun w a c h => (Right_any (by omega) h).mono fun e w' ⟨h1, h2⟩ => ⟨h1, by rw [← h2]; exact Below.refl _ _⟩, fun w a c h => (rRight_any (by omega) h).mono fun e w' ⟨h1, h2⟩ => ⟨h1, by obtain ⟨q, rfl⟩ := h2; exact below_drewN (Below.refl _ _) q⟩⟩

/-- What holds between the law's calls: what came in, and what was lent. -/
structure DoSt (w0 : World) (a b v : Option Addr) (N c M d m e : Nat) (X Y : Nat → List Nat) (l : List Nat) (la lb : Option Addr) (lc ld : Nat) (p q s t : Nat → Nat) (g lo1 hi1 lo2 hi2 : Nat) (w : World) : Prop where
  A : RR w (.slice a N c) N X
  B : RR w (.slice b M d) M Y
  V : RB w v m e l
  LX : LentG w lo1 (.slice la N lc) N p s X
  LY : LentG w lo2 (.slice lb M ld) M q t Y
  GX : Gr w lo1 hi1 la N lc p s X
  GY : Gr w lo2 hi2 lb M ld q t Y
  LV : LentAt w g l
  bel : Below w0.heap.size w0 w
theorem DoSt.below {w0 w w' : World} {a b v la lb : Option Addr} {N c M d m e lc ld g lo1 hi1 lo2 hi2 : Nat} {X Y : Nat → List Nat} {l : List Nat} {p q s t : Nat → Nat} (h : DoSt w0 a b v N c M d m e X Y l la lb lc ld p q s t g lo1 hi1 lo2 hi2 w) (hB : Below w.heap.size w w') :
    DoSt w0 a b v N c M d m e X Y l la lb lc ld p q s t g lo1 hi1 lo2 hi2 w' :=
  ⟨h.A.below hB, h.B.below hB, h.V.below hB, h.LX.below hB, h.LY.below hB, h.GX.below hB, h.GY.below hB, h.LV.below hB h.LV.lt, h.bel.trans (hB.mono h.bel.size)⟩
theorem lentM_give {w : World} {a : Option Addr} {N c : Nat} {X : Nat → List Nat} (hX : Fine N X) (h : RR w (.slice a N c) N X) :
    Calls Try.prog 72 #[.slice a N c] w fun e w' => ∃ va vd p d, e = .returned (.slice va N vd) ∧ Hid (LentG w' w.heap.size (.slice va N vd) N p d X) ∧ Hid (Gr w' w.heap.size w'.heap.size va N vd p d X) ∧ Hid (Below w.heap.size w w') := by
  have hN := hX.1
  refine (lentRows_any (by omega) (fun i hi => by have := (hX.2 i hi).2; omega) h).mono ?_
  rintro e w' ⟨va, vd, p, d, rfl, hL, hB⟩
  exact ⟨va, vd, p, d, rfl, hL, Gr.of hL.grid hB.size, hB⟩
end Go.Proofs.Ytokeoodkioobdaa
