/- The walk of fate.Lands. Conditions: rows are shorter than 2 to the 40. -/
import Derived.Test.YtfojhmobnedekaaFate7
namespace Go.Proofs.Ytfojhmobnedekaa
open Go.RowKit Go.Conc

theorem info39 : (Try.prog.info? 39).map (fun i => (i.zero, i.size, i.bytes)) = some (some (.agg #[.int .i64 0, .int .i64 0, .slice none 0 0]), 3, 40) := by kernel_rfl
theorem mk2 (w : World) : (Instr.makeChan 110 (.int .i64 2)).run Try.prog w = .ok (.chan (some w.heap.size)) (w.alloc (.chan 2 #[] false 0 0 false)) := by
  obtain ⟨i0, hi, hz0, hz1, hz2⟩ := info_parts info39
  simpa using run_makeChan (P := Try.prog) (w := w) Try.underlying110 hi .i64 2 (by omega) (by rw [hz2]; omega)

theorem info113 : (Try.prog.info? 113).map (·.size) = some 2 := by kernel_rfl
theorem index_rules0 (w : World) : (Instr.index 114 (.agg #[.int .i64 0, .func (.func 87) #[] #[], .int .i64 0, .func (.func 88) #[] #[], .int .i64 2000, .func (.func 89) #[] #[], .int .i64 2147483647, .func (.func 90) #[] #[]]) (.int .i64 0)).run Try.prog w = .ok (.agg #[.int .i64 0, .func (.func 87) #[] #[]]) w := by
  obtain ⟨i, hi, hs⟩ := Option.map_eq_some_iff.1 info113
  simp [Instr.index, run_underlying Try.underlying114, asIntOf, part, sizeOf, typeInfo, hi, hs]
theorem index_rules1 (w : World) : (Instr.index 114 (.agg #[.int .i64 0, .func (.func 87) #[] #[], .int .i64 0, .func (.func 88) #[] #[], .int .i64 2000, .func (.func 89) #[] #[], .int .i64 2147483647, .func (.func 90) #[] #[]]) (.int .i64 1)).run Try.prog w = .ok (.agg #[.int .i64 0, .func (.func 88) #[] #[]]) w := by
  obtain ⟨i, hi, hs⟩ := Option.map_eq_some_iff.1 info113
  simp [Instr.index, run_underlying Try.underlying114, asIntOf, part, sizeOf, typeInfo, hi, hs]
theorem index_rules2 (w : World) : (Instr.index 114 (.agg #[.int .i64 0, .func (.func 87) #[] #[], .int .i64 0, .func (.func 88) #[] #[], .int .i64 2000, .func (.func 89) #[] #[], .int .i64 2147483647, .func (.func 90) #[] #[]]) (.int .i64 2)).run Try.prog w = .ok (.agg #[.int .i64 2000, .func (.func 89) #[] #[]]) w := by
  obtain ⟨i, hi, hs⟩ := Option.map_eq_some_iff.1 info113
  simp [Instr.index, run_underlying Try.underlying114, asIntOf, part, sizeOf, typeInfo, hi, hs]
theorem index_rules3 (w : World) : (Instr.index 114 (.agg #[.int .i64 0, .func (.func 87) #[] #[], .int .i64 0, .func (.func 88) #[] #[], .int .i64 2000, .func (.func 89) #[] #[], .int .i64 2147483647, .func (.func 90) #[] #[]]) (.int .i64 3)).run Try.prog w = .ok (.agg #[.int .i64 2147483647, .func (.func 90) #[] #[]]) w := by
  obtain ⟨i, hi, hs⟩ := Option.map_eq_some_iff.1 info113
  simp [Instr.index, run_underlying Try.underlying114, asIntOf, part, sizeOf, typeInfo, hi, hs]

theorem field_rule (w : World) (m : Int) (f : FuncId) : (Instr.field 113 (.agg #[.int .i64 m, .func (.func f) #[] #[]]) 1).run Try.prog w = .ok (.func (.func f) #[] #[]) w := by
  simp [Instr.field, run_underlying Try.underlying113, run_underlying Try.underlying111, part, isAgg, asAgg, sizeOf, typeInfo]
/-- A landing, where its bytes lie. -/
structure Ld where
  due : Int
  place : Int
  r : R1
def Ld.cells (x : Ld) : List Value := [.int .i64 x.due, .int .i64 x.place, x.r.v]
def Ld.v (x : Ld) : Value := .agg #[.int .i64 x.due, .int .i64 x.place, x.r.v]

/-- What is told of it. -/
def Ld.tell (x : Ld) : Int × Int × List Nat := (x.due, x.place, x.r.l)
def landsOf (k b al pl now : Int) (l : List Nat) : List (Int × Int × List Nat) :=
  if k = 0 then [(now + b, pl, l)] else if k = 2 then [(now + b, pl, l), (now + al, pl, l)] else if k = 3 then [(now + b, pl, Fm.turnI l al)] else []
/-- What a rule leaves. -/
structure Put (B p ch n : Nat) (L : List (Int × Int × List Nat)) (ls : List Ld) (w w' : World) : Prop where
  tell : ls.map Ld.tell = L
  len : ∀ x ∈ ls, x.r.n = n
  box : Box p ch ls.length (ls.map Ld.v).toArray w'
  made : Made B (ls.map Ld.r) w'
  kb : Kb ch w w'
theorem made_one {B n c : Nat} {a : Option Addr} {l : List Nat} {w : World} (h : w.ownsRow B 5 1 (.slice a n c) n (bs l)) : Made B [⟨a, n, c, l⟩] w :=
  ⟨fun r hr => by rw [List.mem_singleton.1 hr]; exact h, List.pairwise_singleton _ _⟩
theorem rule0 {w : World} {b al pl now : Int} {a : Option Addr} {n c p ch : Nat} {l : List Nat} (h : RB w a n c l) (hx : Box p ch 0 #[] w) (h1 : 0 ≤ now ∧ now ≤ 2147483647) (h2 : 0 ≤ b ∧ b ≤ 2000) :
    Calls Try.prog 87 #[.agg #[.int .i64 0, .int .i64 b, .int .i64 al, .int .i64 pl], .slice a n c, .int .i64 now, .func (.func 61) #[] #[.pointer (some ⟨p, 0, none⟩)]] w fun e w' => e = .returned (.tuple #[]) ∧ ∃ ls, Put w.heap.size p ch n (landsOf 0 b al pl now l) ls w w' := by
  refine (first_any h hx (by decide) h1 h2).mono ?_
  rintro e w' ⟨rfl, a', c', hX, ho, hK⟩
  exact ⟨rfl, [⟨now + b, pl, ⟨a', n, c', l⟩⟩], rfl, fun x hx => by rw [List.mem_singleton.1 hx], hX, made_one ho, hK⟩
theorem rule1 {w : World} {b al pl now : Int} {a : Option Addr} {n c p ch : Nat} {l : List Nat} (hx : Box p ch 0 #[] w) :
    Calls Try.prog 88 #[.agg #[.int .i64 1, .int .i64 b, .int .i64 al, .int .i64 pl], .slice a n c, .int .i64 now, .func (.func 61) #[] #[.pointer (some ⟨p, 0, none⟩)]] w fun e w' => e = .returned (.tuple #[]) ∧ ∃ ls, Put w.heap.size p ch n (landsOf 1 b al pl now l) ls w w' := by
  refine (drop_any w 1 b al pl now a n c _).mono ?_
  rintro e w' ⟨rfl, hB⟩
  exact ⟨rfl, [], rfl, fun x hx => absurd hx (by simp), hx.below hB, Made.nil _ _, Kb.of_below hB⟩
theorem rule2 {w : World} {b al pl now : Int} {a : Option Addr} {n c p ch : Nat} {l : List Nat} (h : RB w a n c l) (hx : Box p ch 0 #[] w) (h1 : 0 ≤ now ∧ now ≤ 2147483647) (h2 : 0 ≤ b ∧ b ≤ 2000) (h3 : 0 ≤ al ∧ al ≤ 2000) :
    Calls Try.prog 89 #[.agg #[.int .i64 2, .int .i64 b, .int .i64 al, .int .i64 pl], .slice a n c, .int .i64 now, .func (.func 61) #[] #[.pointer (some ⟨p, 0, none⟩)]] w fun e w' => e = .returned (.tuple #[]) ∧ ∃ ls, Put w.heap.size p ch n (landsOf 2 b al pl now l) ls w w' := by
  refine (both_any h hx h1 h2 h3).mono ?_
  rintro e w' ⟨rfl, a', c', a2, c2, hX, ho, ho2, hu, hK⟩
  refine ⟨rfl, [⟨now + b, pl, ⟨a', n, c', l⟩⟩, ⟨now + al, pl, ⟨a2, n, c2, l⟩⟩], rfl, fun x hx => ?_, hX, ⟨fun r hr => ?_, ?_⟩, hK⟩
  · simp at hx; rcases hx with rfl | rfl <;> rfl
  · simp at hr; rcases hr with rfl | rfl
    · exact ho
    · exact ho2
  · exact List.pairwise_cons.2 ⟨fun s hs => by rw [List.mem_singleton.1 hs]; exact hu, List.pairwise_singleton _ _⟩
theorem rule3 {w : World} {b al pl now : Int} {a : Option Addr} {n c p ch : Nat} {l : List Nat} (h : RB w a n c l) (hx : Box p ch 0 #[] w) (h1 : 0 ≤ now ∧ now ≤ 2147483647) (h2 : 0 ≤ b ∧ b ≤ 2000) (h3 : 0 ≤ al ∧ al ≤ 2147483647) :
    Calls Try.prog 90 #[.agg #[.int .i64 3, .int .i64 b, .int .i64 al, .int .i64 pl], .slice a n c, .int .i64 now, .func (.func 61) #[] #[.pointer (some ⟨p, 0, none⟩)]] w fun e w' => e = .returned (.tuple #[]) ∧ ∃ ls, Put w.heap.size p ch n (landsOf 3 b al pl now l) ls w w' := by
  refine (flip_any h hx h1 h2 h3).mono ?_
  rintro e w' ⟨rfl, a', c', hX, ho, hK⟩
  exact ⟨rfl, [⟨now + b, pl, ⟨a', n, c', Fm.turnI l al⟩⟩], rfl, fun x hx => by rw [List.mem_singleton.1 hx], hX, made_one ho, hK⟩

/-- The four cells of a fate. -/
def FateAt (g : Nat) (k b al pl : Int) (w : World) : Prop := w.cell? ⟨g, 0, none⟩ = some (.int .i64 k) ∧ w.cell? ⟨g, 1, none⟩ = some (.int .i64 b) ∧ w.cell? ⟨g, 2, none⟩ = some (.int .i64 al) ∧ w.cell? ⟨g, 3, none⟩ = some (.int .i64 pl)
theorem FateAt.below {g : Nat} {k b al pl : Int} {w w' : World} (h : FateAt g k b al pl w) (hB : Below w.heap.size w w') : FateAt g k b al pl w' :=
  ⟨(hB.cell (block_lt_of_cell h.1)).trans h.1, (hB.cell (block_lt_of_cell h.2.1)).trans h.2.1, (hB.cell (block_lt_of_cell h.2.2.1)).trans h.2.2.1, (hB.cell (block_lt_of_cell h.2.2.2)).trans h.2.2.2⟩
theorem FateAt.kb {g p ch s : Nat} {buf : Array Value} {k b al pl : Int} {w w' : World} (h : FateAt g k b al pl w) (hK : Kb ch w w') (hx : Box p ch s buf w) : FateAt g k b al pl w' :=
  ⟨(hK.cell (block_lt_of_cell h.1) (not_chan hx.chan h.1)).trans h.1, (hK.cell (block_lt_of_cell h.2.1) (not_chan hx.chan h.2.1)).trans h.2.1, (hK.cell (block_lt_of_cell h.2.2.1) (not_chan hx.chan h.2.2.1)).trans h.2.2.1, (hK.cell (block_lt_of_cell h.2.2.2) (not_chan hx.chan h.2.2.2)).trans h.2.2.2⟩
theorem rules_keep {g : Nat} {k b al pl : Int} {W2 : World} (h : FateAt g k b al pl W2) (W : World) (hW : Below W2.heap.size W2 W) :
    Calls Try.prog 60 #[] W fun e w' => e = .returned (.agg #[.int .i64 0, .func (.func 87) #[] #[], .int .i64 0, .func (.func 88) #[] #[], .int .i64 2000, .func (.func 89) #[] #[], .int .i64 2147483647, .func (.func 90) #[] #[]]) ∧ w'.cell? ⟨g, 0, none⟩ = some (.int .i64 k) ∧ w'.cell? ⟨g, 1, none⟩ = some (.int .i64 b) ∧ w'.cell? ⟨g, 2, none⟩ = some (.int .i64 al) ∧ w'.cell? ⟨g, 3, none⟩ = some (.int .i64 pl) ∧ Hid (Below W2.heap.size W2 w') := by
  refine (rules_any W).mono ?_
  rintro e w' ⟨rfl, hB⟩
  have hB2 := hW.trans (hB.mono hW.size)
  have h2 := h.below hB2
  exact ⟨rfl, h2.1, h2.2.1, h2.2.2.1, h2.2.2.2, hB2⟩
theorem rule_keep {f : Nat} {g p ch n B : Nat} {k b al pl now : Int} {a : Option Addr} {c : Nat} {L : List (Int × Int × List Nat)} {W2 : World} (h : FateAt g k b al pl W2) (hx : Box p ch 0 #[] W2) (hBs : B = W2.heap.size) (W : World) (hW : Below W2.heap.size W2 W)
    (hc : Calls Try.prog f #[.agg #[.int .i64 k, .int .i64 b, .int .i64 al, .int .i64 pl], .slice a n c, .int .i64 now, .func (.func 61) #[] #[.pointer (some ⟨p, 0, none⟩)]] W fun e w' => e = .returned (.tuple #[]) ∧ ∃ ls, Put W.heap.size p ch n L ls W w') :
    Calls Try.prog f #[.agg #[.int .i64 k, .int .i64 b, .int .i64 al, .int .i64 pl], .slice a n c, .int .i64 now, .func (.func 61) #[] #[.pointer (some ⟨p, 0, none⟩)]] W fun e w' => e = .returned (.tuple #[]) ∧ w'.cell? ⟨g, 0, none⟩ = some (.int .i64 k) ∧ w'.cell? ⟨g, 1, none⟩ = some (.int .i64 b) ∧ w'.cell? ⟨g, 2, none⟩ = some (.int .i64 al) ∧ w'.cell? ⟨g, 3, none⟩ = some (.int .i64 pl) ∧ Hid (∃ ls, Put B p ch n L ls W2 w') := by
  refine hc.mono ?_
  rintro e w' ⟨rfl, ls, hp⟩
  have h2 := (h.below hW).kb hp.kb (hx.below hW)
  exact ⟨rfl, h2.1, h2.2.1, h2.2.2.1, h2.2.2.2, ls, hp.tell, hp.len, hp.box, ⟨fun r hr => own_mono (hp.made.own r hr) (by rw [hBs]; exact hW.size), hp.made.unl⟩, (Kb.of_below hW).trans hp.kb⟩

/-- What Lands hands back: the landings, and their bytes, in memory of its own. -/
def LandAt (B : Nat) (v : Value) (n : Nat) (L : List (Int × Int × List Nat)) (w : World) : Prop :=
  ∃ ls : List Ld, ls.map Ld.tell = L ∧ (∀ x ∈ ls, x.r.n = n) ∧ w.ownsRow B 39 3 v ls.length (ls.flatMap Ld.cells) ∧ Made B (ls.map Ld.r) w
/-- How many lie in the channel. -/
def chanLeft (ch : Nat) (w : World) : Nat := match w.heap[ch]? with
  | some (.chan _ buf _ _ _ _) => buf.size
  | _ => 0
theorem chanLeft_eq {ch cap s r : Nat} {buf : Array Value} {cl tm : Bool} {w : World} (h : w.heap[ch]? = some (.chan cap buf cl s r tm)) : chanLeft ch w = buf.size := by
  unfold chanLeft; rw [h]
theorem own_frame3 {w w' : World} {B n size : Nat} {e : TypeId} {v : Value} {xs : List Value} (h : w.ownsRow B e size v n xs) (hk : ∀ g, v.ownBlock = some g → g < w.heap.size → w'.heap[g]? = w.heap[g]?) : w'.ownsRow B e size v n xs := by
  obtain ⟨h1, h2⟩ := h
  refine ⟨h1, ?_⟩
  rcases h2 with h2 | ⟨g, cap, cur, rfl, hb, hh, hn⟩
  · exact .inl h2
  · exact .inr ⟨g, cap, cur, rfl, hb, (hk g rfl (lt_of_block hh)).trans hh, hn⟩
theorem own_lt3 {w : World} {B n g size : Nat} {e : TypeId} {v : Value} {xs : List Value} (h : w.ownsRow B e size v n xs) (hg : v.ownBlock = some g) : B ≤ g ∧ g < w.heap.size := by
  rcases h.2 with ⟨rfl, _⟩ | ⟨g', cap, cur, rfl, hb, hh, hn⟩
  · cases hg
  · injection hg with hg; subst hg; exact ⟨hb, lt_of_block hh⟩
/-- Rows lie elsewhere than a list of another element type. -/
theorem unl_types3 {w : World} {B B' n n' size : Nat} {e e' : TypeId} {v v' : Value} {xs xs' : List Value} (hne : e ≠ e') (h : w.ownsRow B e 1 v n xs) (h' : w.ownsRow B' e' size v' n' xs') : Unl v v' := by
  intro g e1 e2
  rcases h.2 with ⟨rfl, _⟩ | ⟨g1, cap, cur, rfl, hb, hh, _⟩
  · cases e1
  · rcases h'.2 with ⟨rfl, _⟩ | ⟨g2, cap2, cur2, rfl, hb2, hh2, _⟩
    · cases e2
    · injection e1 with e1
      injection e2 with e2
      subst e1; subst e2
      rw [hh] at hh2
      injection hh2 with hh2
      injection hh2 with _ h3 _
      exact hne h3
theorem made_grown {B B' n : Nat} {rs : List R1} {w w' : World} {v : Value} {xs : List Value} (h : Made B rs w) (ho : w.ownsRow B' 39 3 v n xs) (hg : w.grownBy w' v.ownBlock) : Made B rs w' :=
  ⟨fun r hr => own_frame (h.own r hr) fun g e1 hl => hg.block g hl fun e2 => unl_types3 (by decide) (h.own r hr) ho g e1 e2.symm, h.unl⟩
theorem Kb.grown {ch n : Nat} {w0 w w' : World} {v : Value} {xs : List Value} (h : Kb ch w0 w) (ho : w.ownsRow w0.heap.size 39 3 v n xs) (hg : w.grownBy w' v.ownBlock) : Kb ch w0 w' :=
  ⟨hg.os.trans h.os, hg.tape.trans h.tape, hg.output.trans h.output, Nat.le_trans h.size hg.size, fun g hl hn => (hg.block g (Nat.lt_of_lt_of_le hl h.size) fun e => by have := (own_lt3 ho e.symm).1; omega).trans (h.block g hl hn)⟩
theorem Kb.made {ch B cap s r : Nat} {buf : Array Value} {cl tm : Bool} {rs : List R1} {w w' : World} (h : Kb ch w w') (hm : Made B rs w) (hc : w.heap[ch]? = some (.chan cap buf cl s r tm)) : Made B rs w' :=
  ⟨fun r hr => h.own (hm.own r hr) hc, hm.unl⟩
theorem Kb.own3 {ch B n size : Nat} {e : TypeId} {v : Value} {xs : List Value} {a b : World} (h : Kb ch a b) (ho : a.ownsRow B e size v n xs) {cap s r : Nat} {buf : Array Value} {cl tm : Bool} (hc : a.heap[ch]? = some (.chan cap buf cl s r tm)) : b.ownsRow B e size v n xs := by
  refine own_frame3 ho fun g hg hl => h.block g hl fun e => ?_
  rcases ho.2 with ⟨rfl, _⟩ | ⟨g', cap', cur, rfl, hb, hh, _⟩
  · cases hg
  · injection hg with hg
    subst hg; subst e
    rw [hc] at hh
    cases hh
theorem own_mono3 {w : World} {B B' n size : Nat} {e : TypeId} {v : Value} {xs : List Value} (h : w.ownsRow B e size v n xs) (hb : B' ≤ B) : w.ownsRow B' e size v n xs := by
  obtain ⟨h1, h2⟩ := h
  refine ⟨h1, ?_⟩
  rcases h2 with h2 | ⟨g, cap, cur, rfl, hg, hh, hn⟩
  · exact .inl h2
  · exact .inr ⟨g, cap, cur, rfl, Nat.le_trans hb hg, hh, hn⟩
theorem landsOf_len (k b al pl now : Int) (l : List Nat) : (landsOf k b al pl now l).length ≤ 2 := by
  unfold landsOf
  split
  · simp
  · split
    · simp
    · split <;> simp
theorem cell_new3 (w : World) (u v x : Value) : ∀ j y, [u, v, x][j]? = some y → (w.alloc (.cells #[u, v, x] 39)).cell? ((⟨w.heap.size, 0, none⟩ : Addr).add j) = some y := by
  intro j y hy
  rw [Addr.add_lit, Nat.zero_add, cell_of_block (heap_alloc_new _ _)]
  simpa using hy

set_option maxHeartbeats 1600000 in
set_option maxRecDepth 100000 in
theorem lands_ok {w : World} {k b al pl now : Int} {a : Option Addr} {n c : Nat} {l : List Nat} (h : RB w a n c l) (hr : RightF k b al pl) (hn : 0 ≤ now ∧ now ≤ 2147483647) :
    Calls Try.prog 16 #[.agg #[.int .i64 k, .int .i64 b, .int .i64 al, .int .i64 pl], .slice a n c, .int .i64 now] w fun e w' => ∃ v, e = .returned (.tuple #[v, .int .i64 0]) ∧ LandAt w.heap.size v n (landsOf k b al pl now l) w' ∧ Below w.heap.size w w' := by
  have hB0 : Below w.heap.size w (w.alloc (.cells #[.int .i64 k, .int .i64 b, .int .i64 al, .int .i64 pl] 24)) := (Below.refl _ _).alloc (Nat.le_refl _) _
  have hbl := heap_alloc_new w (.cells #[.int .i64 k, .int .i64 b, .int .i64 al, .int .i64 pl] 24)
  have c0 : (w.alloc (.cells #[.int .i64 k, .int .i64 b, .int .i64 al, .int .i64 pl] 24)).cell? ⟨w.heap.size, 0, none⟩ = some (.int .i64 k) := (cell_of_block (j := 0) hbl).trans rfl
  have c1 : (w.alloc (.cells #[.int .i64 k, .int .i64 b, .int .i64 al, .int .i64 pl] 24)).cell? ⟨w.heap.size, 1, none⟩ = some (.int .i64 b) := (cell_of_block (j := 1) hbl).trans rfl
  have c2 : (w.alloc (.cells #[.int .i64 k, .int .i64 b, .int .i64 al, .int .i64 pl] 24)).cell? ⟨w.heap.size, 2, none⟩ = some (.int .i64 al) := (cell_of_block (j := 2) hbl).trans rfl
  have c3 : (w.alloc (.cells #[.int .i64 k, .int .i64 b, .int .i64 al, .int .i64 pl] 24)).cell? ⟨w.heap.size, 3, none⟩ = some (.int .i64 pl) := (cell_of_block (j := 3) hbl).trans rfl
  have H23 := Lib.hid fun W => (show Calls Try.prog 23 #[.agg #[.int .i64 k, .int .i64 b, .int .i64 al, .int .i64 pl]] W fun e w' => e = .returned (.bool true) ∧ Below W.heap.size W w' from decide_eq_true hr ▸ right_any k b al pl W)
  have H59 := Lib.hid fun W => within_is (n := now) (l := 0) (m := 2147483647) (t := true) (decide_eq_true hn) W
  have HA := Lib.hid (And.intro hB0 (And.intro hbl h))
  go_enter Try.func16, Try.ntmps16
  go_wp2_with fail
  refine (H23.out _).mono ?_
  rintro e w1 ⟨rfl, hB1⟩
  go_wp2_with fail
  refine (H59.out _).mono ?_
  rintro e w2 ⟨rfl, rfl⟩
  have hmc := mk2
  go_upto_region 4 with fail
  have hBw : Below w.heap.size w w1 := hB0.trans (hB1.mono hB0.size)
  have hb1 : Below w.heap.size w ((w1.alloc (.chan 2 #[] false 0 0 false)).alloc (.cells #[.chan (some w1.heap.size)] 110)) := (hBw.alloc hBw.size _).alloc (by simp; have := hBw.size; omega) _
  have hwl : w.heap.size < w1.heap.size := by have := hB1.size; simp at this; omega
  have hbl2 := ((Below.refl w1.heap.size w1).alloc (Nat.le_refl _) (.chan 2 #[] false 0 0 false) |>.alloc (by simp) (.cells #[.chan (some w1.heap.size)] 110)).block w.heap.size hwl |>.trans ((hB1.block w.heap.size (by simp)).trans hbl)
  have hX : Box (w1.heap.size + 1) w1.heap.size 0 #[] ((w1.alloc (.chan 2 #[] false 0 0 false)).alloc (.cells #[.chan (some w1.heap.size)] 110)) := by
    have h1 := heap_alloc_new (w1.alloc (.chan 2 #[] false 0 0 false)) (.cells #[.chan (some w1.heap.size)] 110)
    rw [World.size_alloc] at h1
    exact ⟨(cell_of_block h1).trans rfl, (Below.heap_alloc _ _ _ (by simp)).trans (heap_alloc_new _ _)⟩
  have hR := h.below (hb1.mono (Nat.le_refl _))
  have hsz : ((w1.alloc (.chan 2 #[] false 0 0 false)).alloc (.cells #[.chan (some w1.heap.size)] 110)).heap.size = w1.heap.size + 2 := by simp
  generalize (w1.alloc (.chan 2 #[] false 0 0 false)).alloc (.cells #[.chan (some w1.heap.size)] 110) = W2 at *
  have e0 : W2.cell? ⟨w.heap.size, 0, none⟩ = some (.int .i64 k) := (cell_of_block (j := 0) hbl2).trans rfl
  have e1 : W2.cell? ⟨w.heap.size, 1, none⟩ = some (.int .i64 b) := (cell_of_block (j := 1) hbl2).trans rfl
  have e2 : W2.cell? ⟨w.heap.size, 2, none⟩ = some (.int .i64 al) := (cell_of_block (j := 2) hbl2).trans rfl
  have e3 : W2.cell? ⟨w.heap.size, 3, none⟩ = some (.int .i64 pl) := (cell_of_block (j := 3) hbl2).trans rfl
  have HA2 := Lib.hid (And.intro hb1 (And.intro hX (And.intro hR (And.intro hsz hwl))))
  clear hB0 hbl c0 c1 c2 c3 H23 H59 HA hB1 hmc hBw hb1 hbl2 hX hR hsz h
  go_cut [] from 19 to 28 (fun wx => ∃ ls, (Put (w1.heap.size + 2) (w1.heap.size + 1) w1.heap.size n (landsOf k b al pl now l) ls W2 wx))
  case first =>
    have hF : FateAt w.heap.size k b al pl W2 := ⟨e0, e1, e2, e3⟩
    obtain ⟨hb1, hX, hR, hsz, hwl2⟩ := HA2.out
    obtain ⟨hk, hb, ha, hp⟩ := hr
    rcases (show k = 0 ∨ k = 1 ∨ k = 2 ∨ k = 3 by omega) with rfl | rfl | rfl | rfl
    · have H60 := Lib.hid fun W hW => rules_keep hF W hW
      have HR := Lib.hid fun W hW => rule_keep (now := now) (a := a) (n := n) (c := c) (B := w1.heap.size + 2) (L := landsOf 0 b al pl now l) hF hX hsz.symm W hW (rule0 (hR.below hW) (hX.below hW) hn hb)
      clear hF hb1 hX hR hsz hwl2 HA2 hk hb ha hp hn
      have hix := index_rules0
      have hfr := field_rule
      go_region_held3 (fun w' => w'.cell? ⟨w.heap.size, 0, none⟩ = some (.int .i64 0) ∧ w'.cell? ⟨w.heap.size, 1, none⟩ = some (.int .i64 b) ∧ w'.cell? ⟨w.heap.size, 2, none⟩ = some (.int .i64 al) ∧ w'.cell? ⟨w.heap.size, 3, none⟩ = some (.int .i64 pl))
        (first | go_keep)
        (first
          | (go_at_call 60; ((with_reducible refine (H60.out _ ?_).mono ?_); (exact below_drewN (Below.refl _ _) _); rintro e w5 ⟨rfl, hk1, hk2, hk3, hk4, HB5⟩))
          | (go_at_call 87; ((with_reducible refine (HR.out _ ?_).mono ?_); (first | exact HB5.out | exact below_drewN HB5.out _); rintro e w6 ⟨rfl, hk5, hk6, hk7, hk8, HP⟩)))
      all_goals
        go_wp2_with fail
        go_meet
        exact HP.out
    · have H60 := Lib.hid fun W hW => rules_keep hF W hW
      have HR := Lib.hid fun W hW => rule_keep (now := now) (a := a) (n := n) (c := c) (B := w1.heap.size + 2) (L := landsOf 1 b al pl now l) hF hX hsz.symm W hW (rule1 (l := l) (hX.below hW))
      clear hF hb1 hX hR hsz hwl2 HA2 hk hb ha hp hn
      have hix := index_rules1
      have hfr := field_rule
      go_region_held3 (fun w' => w'.cell? ⟨w.heap.size, 0, none⟩ = some (.int .i64 1) ∧ w'.cell? ⟨w.heap.size, 1, none⟩ = some (.int .i64 b) ∧ w'.cell? ⟨w.heap.size, 2, none⟩ = some (.int .i64 al) ∧ w'.cell? ⟨w.heap.size, 3, none⟩ = some (.int .i64 pl))
        (first | go_keep)
        (first
          | (go_at_call 60; ((with_reducible refine (H60.out _ ?_).mono ?_); (exact below_drewN (Below.refl _ _) _); rintro e w5 ⟨rfl, hk1, hk2, hk3, hk4, HB5⟩))
          | (go_at_call 88; ((with_reducible refine (HR.out _ ?_).mono ?_); (first | exact HB5.out | exact below_drewN HB5.out _); rintro e w6 ⟨rfl, hk5, hk6, hk7, hk8, HP⟩)))
      all_goals
        go_wp2_with fail
        go_meet
        exact HP.out
    · have H60 := Lib.hid fun W hW => rules_keep hF W hW
      have HR := Lib.hid fun W hW => rule_keep (now := now) (a := a) (n := n) (c := c) (B := w1.heap.size + 2) (L := landsOf 2 b al pl now l) hF hX hsz.symm W hW (rule2 (hR.below hW) (hX.below hW) hn hb ha)
      clear hF hb1 hX hR hsz hwl2 HA2 hk hb ha hp hn
      have hix := index_rules2
      have hfr := field_rule
      go_region_held3 (fun w' => w'.cell? ⟨w.heap.size, 0, none⟩ = some (.int .i64 2) ∧ w'.cell? ⟨w.heap.size, 1, none⟩ = some (.int .i64 b) ∧ w'.cell? ⟨w.heap.size, 2, none⟩ = some (.int .i64 al) ∧ w'.cell? ⟨w.heap.size, 3, none⟩ = some (.int .i64 pl))
        (first | go_keep)
        (first
          | (go_at_call 60; ((with_reducible refine (H60.out _ ?_).mono ?_); (exact below_drewN (Below.refl _ _) _); rintro e w5 ⟨rfl, hk1, hk2, hk3, hk4, HB5⟩))
          | (go_at_call 89; ((with_reducible refine (HR.out _ ?_).mono ?_); (first | exact HB5.out | exact below_drewN HB5.out _); rintro e w6 ⟨rfl, hk5, hk6, hk7, hk8, HP⟩)))
      all_goals
        go_wp2_with fail
        go_meet
        exact HP.out
    · have H60 := Lib.hid fun W hW => rules_keep hF W hW
      have HR := Lib.hid fun W hW => rule_keep (now := now) (a := a) (n := n) (c := c) (B := w1.heap.size + 2) (L := landsOf 3 b al pl now l) hF hX hsz.symm W hW (rule3 (hR.below hW) (hX.below hW) hn hb ha)
      clear hF hb1 hX hR hsz hwl2 HA2 hk hb ha hp hn
      have hix := index_rules3
      have hfr := field_rule
      go_region_held3 (fun w' => w'.cell? ⟨w.heap.size, 0, none⟩ = some (.int .i64 3) ∧ w'.cell? ⟨w.heap.size, 1, none⟩ = some (.int .i64 b) ∧ w'.cell? ⟨w.heap.size, 2, none⟩ = some (.int .i64 al) ∧ w'.cell? ⟨w.heap.size, 3, none⟩ = some (.int .i64 pl))
        (first | go_keep)
        (first
          | (go_at_call 60; ((with_reducible refine (H60.out _ ?_).mono ?_); (exact below_drewN (Below.refl _ _) _); rintro e w5 ⟨rfl, hk1, hk2, hk3, hk4, HB5⟩))
          | (go_at_call 90; ((with_reducible refine (HR.out _ ?_).mono ?_); (first | exact HB5.out | exact below_drewN HB5.out _); rintro e w6 ⟨rfl, hk5, hk6, hk7, hk8, HP⟩)))
      all_goals
        go_wp2_with fail
        go_meet
        exact HP.out
  obtain ⟨ls, hP⟩ := hcut
  have hcl : ∀ ats ty, (Builtin.close_ ats ty #[.chan (some w1.heap.size)]).run Try.prog wc = .ok (.tuple #[]) (wc.setChan w1.heap.size 2 (ls.map Ld.v).toArray true ls.length 0 false) := fun ats ty => run_close_open (P := Try.prog) (w := wc) ats ty hP.box.chan
  have hK3 := Kb.setChan wc w1.heap.size 2 (ls.map Ld.v).toArray true ls.length 0 false
  have hat := hP.box.at_
  have hat2 := (hK3.cell (block_lt_of_cell hat) hP.box.ne).trans hat
  have hch2 := heap_setChan wc w1.heap.size 2 (ls.map Ld.v).toArray true ls.length 0 false hP.box.lt
  have hM3 := hK3.made hP.made hP.box.chan
  have hB3 : Below w.heap.size w (wc.setChan w1.heap.size 2 (ls.map Ld.v).toArray true ls.length 0 false) := Kb.below HA2.out.1 (hP.kb.trans hK3) (Nat.le_of_lt hwl) HA2.out.1.size
  have HT := Lib.hid (And.intro hP.tell (And.intro hP.len (And.intro hB3 HA2.out.2.2.2.1)))
  have HM3 := Lib.hid hM3
  have HC3 := Lib.hid hch2
  generalize hW3 : wc.setChan w1.heap.size 2 (ls.map Ld.v).toArray true ls.length 0 false = W3 at *
  have hchl : w1.heap.size < W3.heap.size := (Array.getElem?_eq_some_iff.1 hch2).1
  clear hP hr hn e0 e1 e2 e3 hK3 hM3 hch2 hB3 HA2
  go_wp2_with fail
  clear hat hcl
  go_loopw [6] (fun s wr => ∃ dn rest : List Ld, Hid (ls = dn ++ rest) ∧ Hid (wr.heap[w1.heap.size]? = some (.chan 2 (rest.map Ld.v).toArray true ls.length dn.length false)) ∧ Hid (wr.ownsRow W3.heap.size 39 3 s dn.length (dn.flatMap Ld.cells)) ∧ Hid (Made (w1.heap.size + 2) (ls.map Ld.r) wr) ∧ Hid (Kb w1.heap.size W3 wr)) (fun _ wr => chanLeft w1.heap.size wr)
  case atStart => exact ⟨[], ls, rfl, HC3, World.ownsRow_nil _ _ _ _, HM3, ⟨rfl, rfl, rfl, Nat.le_refl _, fun _ _ _ => rfl⟩⟩
  case round =>
    obtain ⟨dn, rest, HE, HC, HO, HM, HK⟩ := hrel
    cases rest with
    | nil =>
      go_upto_region 7 with fail
      refine RunsAt.region ?_
      show RunsAt _ _ _ [0, 1] _ _
      refine RunsAt.recv_shut true (z := .agg #[.int .i64 0, .int .i64 0, .slice none 0 0]) rfl rfl (by simp [go_sem, execOp, rcase, Act.eval]) HC.out ?_
      refine RunsAt.value (v := .bool false) (w' := _) rfl rfl (by simp [go_sem, execOp, Act.eval, Act.put, got]; rfl) ?_
      refine RunsAt.nil ?_
      go_wp2_with fail
      have he : ls = dn := by rw [HE.out, List.append_nil]
      subst he
      have hB := HT.out.2.2.1
      have hb4 : Below w.heap.size w wr := Kb.below hB HK.out (Nat.le_of_lt hwl) hB.size
      have hl : LandAt w.heap.size u6 n (landsOf k b al pl now l) wr := ⟨ls, HT.out.1, HT.out.2.1, own_mono3 HO.out hB.size, ⟨fun r hr => own_mono (HM.out.own r hr) (by omega), HM.out.unl⟩⟩
      go_ret2
      exact ⟨_, rfl, hl, hb4⟩
    | cons x rest =>
      obtain ⟨i39, hi, hz0, hz1, hz2⟩ := info_parts info39
      have hs := HT.out.2.2.2
      have hln : dn.length ≤ 2 := by
        have h1 := landsOf_len k b al pl now l
        rw [← HT.out.1, List.length_map, HE.out, List.length_append] at h1
        omega
      have hX : (((x :: rest).map Ld.v).toArray).getD 0 undef = .agg #[.int .i64 x.due, .int .i64 x.place, .slice x.r.a x.r.n x.r.c] := rfl
      have hXr : (((x :: rest).map Ld.v).toArray).extract 1 (((x :: rest).map Ld.v).toArray).size = (rest.map Ld.v).toArray := by simp; exact List.take_of_length_le (by simp)
      go_upto_region 7 with fail
      refine RunsAt.region ?_
      show RunsAt _ _ _ [0, 1] _ _
      refine RunsAt.recv_buf true (z := .agg #[.int .i64 0, .int .i64 0, .slice none 0 0]) rfl rfl (by simp [go_sem, execOp, rcase, Act.eval]) HC.out (by simp) ?_
      rw [hX, hXr, show ∀ v, got true v true = .tuple #[v, .bool true] from fun _ => rfl]
      refine RunsAt.value (v := .bool true) (w' := _) rfl rfl (by simp [go_sem, execOp, Act.eval, Act.put]; rfl) ?_
      refine RunsAt.nil ?_
      have hk5 := Kb.setChan wr w1.heap.size 2 (rest.map Ld.v).toArray true ls.length (dn.length + 1) false
      have hc5 := heap_setChan wr w1.heap.size 2 (rest.map Ld.v).toArray true ls.length (dn.length + 1) false (Array.getElem?_eq_some_iff.1 HC.out).1
      have ho5 := hk5.own3 HO.out HC.out
      have hm5 := hk5.made HM.out HC.out
      have hk6 := HK.out.trans hk5
      have HA5 := Lib.hid (And.intro hc5 (And.intro ho5 (And.intro hm5 hk6)))
      clear hk5 hc5 ho5 hm5 hk6 hX hXr
      generalize wr.setChan w1.heap.size 2 (rest.map Ld.v).toArray true ls.length (dn.length + 1) false = W5 at *
      have hcn := cell_new3 (W5.alloc (.cells #[.int .i64 x.due, .int .i64 x.place, .slice x.r.a x.r.n x.r.c] 39)) (.int .i64 x.due) (.int .i64 x.place) (.slice x.r.a x.r.n x.r.c)
      rw [World.size_alloc] at hcn
      have HCN := Lib.hid hcn
      have HAL := Lib.hid ((HA5.out.2.1.alloc (.cells #[.int .i64 x.due, .int .i64 x.place, .slice x.r.a x.r.n x.r.c] 39)).alloc (.cells #[.int .i64 x.due, .int .i64 x.place, .slice x.r.a x.r.n x.r.c] 39))
      have hsz5 : W3.heap.size ≤ W5.heap.size := HA5.out.2.2.2.size
      have hcl1 := chanLeft_eq HC.out
      have HCL := Lib.hid hcl1
      clear hcn HO HM HK HC hcl1
      go_wp2_with (at_builtin; refine wpList_append_own _ rfl (.tmp 34) (.tmp 36) 28 rfl W3.heap.size 39 i39 (.agg #[.int .i64 0, .int .i64 0, .slice none 0 0]) 3 40 Try.underlying28 hi hz0 hz1 hz2 rfl (by decide) u6 dn.length (dn.flatMap Ld.cells) rfl HAL.out ⟨W5.heap.size + 1, 0, none⟩ 1 1 [.int .i64 x.due, .int .i64 x.place, .slice x.r.a x.r.n x.r.c] rfl rfl HCN.out (by simp [Value.oneCell']) (by unfold maxLen; omega) (by omega) (by simp; omega) ?_)
      intro v7 w7 ho7 hg7 _
      have hBa : Below W5.heap.size W5 ((W5.alloc (.cells #[.int .i64 x.due, .int .i64 x.place, .slice x.r.a x.r.n x.r.c] 39)).alloc (.cells #[.int .i64 x.due, .int .i64 x.place, .slice x.r.a x.r.n x.r.c] 39)) := ((Below.refl _ _).alloc (Nat.le_refl _) _).alloc (by simp) _
      have hc7 : w7.heap[w1.heap.size]? = some (.chan 2 (rest.map Ld.v).toArray true ls.length (dn.length + 1) false) :=
        (hg7.block _ (by simp; omega) (fun e => by have := (own_lt3 HAL.out e.symm).1; omega)).trans ((hBa.block _ (by omega)).trans HA5.out.1)
      have hm7 := made_grown (HA5.out.2.2.1.below hBa) HAL.out hg7
      have hk7 := (HA5.out.2.2.2.trans (Kb.of_below hBa)).grown HAL.out hg7
      have ho8 : w7.ownsRow W3.heap.size 39 3 v7 (dn ++ [x]).length ((dn ++ [x]).flatMap Ld.cells) := by
        simpa [List.flatMap_append, Ld.cells, R1.v] using ho7
      have HR := Lib.hid (And.intro hc7 (And.intro ho8 (And.intro hm7 hk7)))
      clear ho7 hg7 hBa hc7 hm7 hk7 ho8 HAL HCN HA5
      go_wp2_with fail
      go_roundw
      case rel => exact ⟨dn ++ [x], rest, Lib.hid (by rw [HE.out]; simp), Lib.hid (by simpa using HR.out.1), HR.out.2.1, HR.out.2.2.1, HR.out.2.2.2⟩
      case measure =>
        rw [chanLeft_eq HR.out.1, HCL.out]
        simp
end Go.Proofs.Ytfojhmobnedekaa
