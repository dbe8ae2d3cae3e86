/- Rows that are apart, and what a store or an append makes of them: the plain part of flatBytes. -/
import Derived.Test.YtokeoodkioobdaaOwn3
import Derived.Test.YtokeoodkioobdaaQt
import Derived.Test.YtokeoodkioobdaaPoly8
namespace Go.Proofs.Ytokeoodkioobdaa
open Go.RowKit

def rowf (f : Nat → Nat) (n : Nat) : List Nat := (List.range n).map f
theorem length_rowf (f : Nat → Nat) (n : Nat) : (rowf f n).length = n := by simp [rowf]
theorem rowf_get {f : Nat → Nat} {n i : Nat} (h : i < n) : (rowf f n).getD i 0 = f i := by simp [rowf, List.getD_eq_getElem?_getD, h]
theorem rowf_ext {l : List Nat} {f : Nat → Nat} {n : Nat} (hl : l.length = n) (h : ∀ i, i < n → l.getD i 0 = f i) : l = rowf f n := by
  apply List.ext_getElem
  · rw [hl, length_rowf]
  · intro i h1 h2
    have := h i (by omega)
    rw [List.getD_eq_getElem?_getD, List.getElem?_eq_getElem h1] at this
    simp only [rowf, List.getElem_map, List.getElem_range]
    exact this
theorem rowf_set {f : Nat → Nat} {n i x : Nat} (h : i < n) : (rowf f n).set i x = rowf (fun j => if j = i then x else f j) n := rowf_ext (by rw [List.length_set, length_rowf]) fun j hj => by
  rw [getD_set _ _ _ _ (by rw [length_rowf]; exact h), rowf_get hj]
  by_cases e : i = j
  · rw [if_pos e, if_pos e.symm]
  · rw [if_neg e, if_neg (fun h => e h.symm)]
theorem rowf_app {f g : Nat → Nat} {n m : Nat} : rowf f n ++ rowf g m = rowf (fun j => if j < n then f j else g (j - n)) (n + m) := rowf_ext (by rw [List.length_append, length_rowf, length_rowf]) fun j hj => by
  rw [List.getD_eq_getElem?_getD]
  by_cases e : j < n
  · rw [List.getElem?_append_left (by rw [length_rowf]; exact e), if_pos e, ← List.getD_eq_getElem?_getD, rowf_get e]
  · rw [List.getElem?_append_right (by rw [length_rowf]; omega), length_rowf, if_neg e, ← List.getD_eq_getElem?_getD, rowf_get (by omega)]

theorem own_frame {w w' : World} {B n : Nat} {e : TypeId} {v : Value} {xs : List Value} (h : w.ownsRow B e 1 v n xs) (hk : ∀ g, v.ownBlock = some g → g < w.heap.size → w'.heap[g]? = w.heap[g]?) : w'.ownsRow B e 1 v n xs := by
  obtain ⟨h1, h2⟩ := h
  refine ⟨h1, ?_⟩
  rcases h2 with h2 | ⟨g, cap, cur, rfl, hb, hh, hn⟩
  · exact .inl h2
  · exact .inr ⟨g, cap, cur, rfl, hb, (hk g rfl (lt_of_block hh)).trans hh, hn⟩
theorem own_at {w : World} {B n c i : Nat} {a : Option Addr} {f : Nat → Nat} (h : w.ownsRow B 5 1 (.slice a n c) n (bs (rowf f n))) (hi : i < n) :
    ∃ g, a = some ⟨g, 0, none⟩ ∧ B ≤ g ∧ g < w.heap.size ∧ w.cell? ⟨g, i, none⟩ = some (.int .u8 (f i : Nat)) ∧ w.frozen? ⟨g, i, none⟩ = false := by
  have h0 := h
  obtain ⟨h1, h2⟩ := h
  rcases h2 with ⟨h2, hn⟩ | ⟨g, cap, cur, e, hb, hh, hn⟩
  · omega
  · injection e with e1 e2 e3
    subst e1
    have := own_cell h0 hi
    rw [rowf_get hi] at this
    exact ⟨g, rfl, hb, lt_of_block hh, this.1, this.2⟩
theorem own_put {w : World} {B g n c i x : Nat} {f : Nat → Nat} (h : w.ownsRow B 5 1 (.slice (some ⟨g, 0, none⟩) n c) n (bs (rowf f n))) (hi : i < n) :
    (w.setCell ⟨g, i, none⟩ (.int .u8 (x : Nat))).ownsRow B 5 1 (.slice (some ⟨g, 0, none⟩) n c) n (bs (rowf (fun j => if j = i then x else f j) n)) := by
  have := own_set (i := i) (x := x) h
  rwa [rowf_set hi] at this
theorem own_rowf {w : World} {B n : Nat} {v : Value} {l : List Nat} (h : w.ownsRow B 5 1 v n (bs l)) : w.ownsRow B 5 1 v n (bs (rowf (fun i => l.getD i 0) n)) := by
  have e : l = rowf (fun i => l.getD i 0) n := rowf_ext (by have := h.1; rwa [length_bs, Nat.mul_one] at this) fun _ _ => rfl
  rw [← e]; exact h

/-- The list of rows: no two of one block, none in the list's own. -/
structure Sep (la : Option Addr) (N : Nat) (a : Nat → Option Addr) (n c : Nat → Nat) : Prop where
  unl : ∀ i j, i < N → j < N → i ≠ j → Unl (.slice (a i) (n i) (c i)) (.slice (a j) (n j) (c j))
  lb : ∀ b o k, la = some ⟨b, o, none⟩ → k < N → (Value.slice (a k) (n k) (c k)).ownBlock ≠ some b
  most : ∀ k, k < N → n k ≤ 1000000
  count : N ≤ 1000000
structure Fam (B : Nat) (la : Option Addr) (N : Nat) (a : Nat → Option Addr) (n c : Nat → Nat) (F : Nat → Nat → Nat) (w : World) : Prop where
  cell : ∀ k, k < N → ∃ b o, la = some ⟨b, o, none⟩ ∧ w.cell? ⟨b, o + k, none⟩ = some (.slice (a k) (n k) (c k))
  own : ∀ k, k < N → w.ownsRow B 5 1 (.slice (a k) (n k) (c k)) (n k) (bs (rowf (F k) (n k)))

section
variable {B : Nat} {la : Option Addr} {N : Nat} {a : Nat → Option Addr} {n c : Nat → Nat} {F : Nat → Nat → Nat} {w w' : World}
theorem Fam.drewN (h : Fam B la N a n c F w) (q : Nat) : Fam B la N a n c F (w.drewN q) := ⟨h.cell, h.own⟩
theorem Fam.frame (h : Fam B la N a n c F w) (hk : ∀ g, g < w.heap.size → (∀ b o, la = some ⟨b, o, none⟩ → g = b → w'.heap[g]? = w.heap[g]?) ∧ (∀ k, k < N → (Value.slice (a k) (n k) (c k)).ownBlock = some g → w'.heap[g]? = w.heap[g]?)) : Fam B la N a n c F w' where
  cell k hlt := by
    obtain ⟨b, o, e, hc⟩ := h.cell k hlt
    exact ⟨b, o, e, (World.cell?_of_block ((hk b (block_lt_of_cell hc)).1 b o e rfl)).trans hc⟩
  own k hlt := own_frame (h.own k hlt) fun g hg hl => (hk g hl).2 k hlt hg
theorem Fam.fill (h : Fam B la N a n c F w) (hs : Sep la N a n c) {k i g x : Nat} (hk : k < N) (hi : i < n k) (ha : a k = some ⟨g, 0, none⟩) :
    Fam B la N a n c (fun k' j => if k' = k ∧ j = i then x else F k' j) (w.setCell ⟨g, i, none⟩ (.int .u8 (x : Nat))) where
  cell k' hlt := by
    obtain ⟨b, o, e, hc⟩ := h.cell k' hlt
    have hne : b ≠ g := fun he => hs.lb b o k e hk (by rw [ha, he]; rfl)
    exact ⟨b, o, e, (World.cell?_of_block (Below.heap_setCell w ⟨g, i, none⟩ _ b hne)).trans hc⟩
  own k' hlt := by
    by_cases e : k' = k
    · subst e
      have h0 := h.own k' hlt
      rw [ha] at h0 ⊢
      have := own_put (i := i) (x := x) h0 hi
      have e2 : (fun j => if k' = k' ∧ j = i then x else F k' j) = fun j => if j = i then x else F k' j := by funext j; simp
      rw [e2]; exact this
    · have e2 : (fun j => if k' = k ∧ j = i then x else F k' j) = F k' := by funext j; rw [if_neg (fun h => e h.1)]
      rw [e2]
      refine own_frame (h.own k' hlt) fun g' hg' _ => Below.heap_setCell w ⟨g, i, none⟩ _ g' ?_
      intro he
      exact hs.unl k' k hlt hk e g' hg' (by rw [ha]; exact congrArg some (show g = g' from he.symm))
end
end Go.Proofs.Ytokeoodkioobdaa

/- The rows and what was appended to them: the plain part of flatBytes, more. -/
namespace Go.Proofs.Ytokeoodkioobdaa
open Go.RowKit

def upd {α : Type} (f : Nat → α) (k : Nat) (x : α) : Nat → α := fun i => if i = k then x else f i
theorem upd_same {α : Type} (f : Nat → α) (k : Nat) (x : α) : upd f k x k = x := if_pos rfl
theorem upd_other {α : Type} (f : Nat → α) {k i : Nat} (x : α) (h : i ≠ k) : upd f k x i = f i := if_neg h

/-- The blocks S are as they were. -/
structure Kpt (S : Nat → Prop) (w w' : World) : Prop where
  os : w'.os = w.os
  tape : w'.tape = w.tape
  output : w'.output = w.output
  size : w.heap.size ≤ w'.heap.size
  block : ∀ k, S k → w'.heap[k]? = w.heap[k]?
theorem Kpt.refl (S : Nat → Prop) (w : World) : Kpt S w w := ⟨rfl, rfl, rfl, Nat.le_refl _, fun _ _ => rfl⟩
theorem Kpt.drewN {S : Nat → Prop} {w w' : World} (h : Kpt S w w') (q : Nat) : Kpt S w (w'.drewN q) := by
  have hb := below_drewN (Below.refl w'.heap.size w') q
  exact ⟨hb.os.trans h.os, hb.tape.trans h.tape, hb.output.trans h.output, Nat.le_trans h.size hb.size, fun k hk => h.block k hk⟩
theorem Kpt.then {S : Nat → Prop} {w w' w2 : World} (h : Kpt S w w') (hb : Below 0 w' w2) (hk : ∀ k, S k → w2.heap[k]? = w'.heap[k]?) : Kpt S w w2 :=
  ⟨hb.os.trans h.os, hb.tape.trans h.tape, hb.output.trans h.output, Nat.le_trans h.size hb.size, fun k hS => (hk k hS).trans (h.block k hS)⟩
theorem Kpt.alloc {S : Nat → Prop} {w w' : World} (h : Kpt S w w') (hl : ∀ k, S k → k < w.heap.size) (o : Obj) : Kpt S w (w'.alloc o) :=
  h.then ((Below.refl _ _).alloc (Nat.zero_le _) o) fun k hk => Below.heap_alloc w' o k (Nat.lt_of_lt_of_le (hl k hk) h.size)
theorem Kpt.setCell {S : Nat → Prop} {w w' : World} (h : Kpt S w w') {p : Addr} (hp : ¬ S p.block) (u : Value) : Kpt S w (w'.setCell p u) :=
  h.then ((Below.refl _ _).setCell (Nat.zero_le _) u) fun k hk => Below.heap_setCell w' p u k (fun e => hp (by rw [← e]; exact hk))
theorem Kpt.grown {S : Nat → Prop} {w w' w2 : World} {row : Option Nat} (h : Kpt S w w') (hg : w'.grownBy w2 row) (hl : ∀ k, S k → k < w.heap.size) (hr : ∀ k, row = some k → ¬ S k) : Kpt S w w2 :=
  h.then ((Below.refl _ _).grown hg (Nat.zero_le _) (fun k _ => Nat.zero_le k)) fun k hk => hg.block k (Nat.lt_of_lt_of_le (hl k hk) h.size) (fun e => hr k e.symm hk)

/-- What the value g may not share. -/
structure Free (S : Nat → Prop) (la : Option Addr) (N : Nat) (a : Nat → Option Addr) (n c : Nat → Nat) (Gb K : Nat) (ga : Nat → Option Addr) (gc : Nat → Nat) (g : Value) : Prop where
  ls : ∀ j, j < N → j ≠ K → Unl g (.slice (a j) (n j) (c j))
  gs : ∀ j, j < K → Unl g (.slice (ga j) (n j + 64) (gc j))
  gb : g.ownBlock ≠ some Gb
  lb : ∀ b o, la = some ⟨b, o, none⟩ → g.ownBlock ≠ some b
  new : ∀ x, g.ownBlock = some x → ¬ S x
/-- The first K rows have been appended to. -/
structure Two (S : Nat → Prop) (B : Nat) (la : Option Addr) (N : Nat) (a : Nat → Option Addr) (n c : Nat → Nat) (Gb K : Nat) (ga : Nat → Option Addr) (gc : Nat → Nat) (G : Nat → Nat → Nat) (w : World) : Prop where
  fam : Fam B la N a n c (fun k i => mk k i) w
  gl : ∃ gl : List Value, w.heap[Gb]? = some (.cells gl.toArray 31 (0, 0)) ∧ gl.length = N ∧ ∀ k, k < K → gl[k]? = some (.slice (ga k) (n k + 64) (gc k))
  own : ∀ k, k < K → w.ownsRow B 5 1 (.slice (ga k) (n k + 64) (gc k)) (n k + 64) (bs (rowf (G k) (n k + 64)))
  free : ∀ k, k < K → Free S la N a n c Gb k ga gc (.slice (ga k) (n k + 64) (gc k))
  gun : ∀ i j, i < K → j < K → i ≠ j → Unl (.slice (ga i) (n i + 64) (gc i)) (.slice (ga j) (n j + 64) (gc j))
  lsg : ∀ k, k < N → (Value.slice (a k) (n k) (c k)).ownBlock ≠ some Gb
  lag : ∀ b o, la = some ⟨b, o, none⟩ → 0 < N → b ≠ Gb
  big : B ≤ Gb

theorem own_lt {w : World} {B n g : Nat} {e : TypeId} {v : Value} {xs : List Value} (h : w.ownsRow B e 1 v n xs) (hg : v.ownBlock = some g) : B ≤ g ∧ g < w.heap.size := by
  rcases h.2 with ⟨rfl, _⟩ | ⟨g', cap, cur, rfl, hb, hh, hn⟩
  · cases hg
  · injection hg with hg; subst hg; exact ⟨hb, lt_of_block hh⟩

section
variable {S : Nat → Prop} {B : Nat} {la : Option Addr} {N : Nat} {a : Nat → Option Addr} {n c : Nat → Nat} {Gb K : Nat} {ga : Nat → Option Addr} {gc : Nat → Nat} {G : Nat → Nat → Nat} {w w' : World}
theorem Two.gb_lt (h : Two S B la N a n c Gb K ga gc G w) : Gb < w.heap.size := by obtain ⟨gl, h1, _⟩ := h.gl; exact lt_of_block h1
/-- Nothing that was there has turned. -/
theorem Two.frame (h : Two S B la N a n c Gb K ga gc G w) (hk : ∀ g, g < w.heap.size → w'.heap[g]? = w.heap[g]?) : Two S B la N a n c Gb K ga gc G w' where
  fam := h.fam.frame fun g hg => ⟨fun _ _ _ _ => hk g hg, fun _ _ _ => hk g hg⟩
  gl := by obtain ⟨gl, h1, h2⟩ := h.gl; exact ⟨gl, (hk Gb (lt_of_block h1)).trans h1, h2⟩
  own k hlt := own_frame (h.own k hlt) fun g _ hg => hk g hg
  free := h.free
  gun := h.gun
  lsg := h.lsg
  lag := h.lag
  big := h.big
theorem Two.free_ls (h : Two S B la N a n c Gb K ga gc G w) (hs : Sep la N a n c) (hK : K < N) (hS : ∀ x, (Value.slice (a K) (n K) (c K)).ownBlock = some x → ¬ S x) : Free S la N a n c Gb K ga gc (.slice (a K) (n K) (c K)) where
  ls j hj hne := hs.unl K j hK hj (fun e => hne e.symm)
  gs j hj := ((h.free j hj).ls K hK (by omega)).symm
  gb := h.lsg K hK
  lb b o e := hs.lb b o K e hK
  new := hS
/-- A row that grows. -/
theorem Two.grow (h : Two S B la N a n c Gb K ga gc G w) (hK : K < N) (hSl : ∀ x, S x → x < w.heap.size) {g v' : Value} {m : Nat} (hf : Free S la N a n c Gb K ga gc g) (hm : n K ≤ m) (hg : w.grownBy w' g.ownBlock)
    (hb : ∀ x, v'.ownBlock = some x → g.ownBlock = some x ∨ x = w.heap.size) (hk : KeepRows w w' g m) : Two S B la N a n c Gb K ga gc G w' ∧ Free S la N a n c Gb K ga gc v' := by
  constructor
  · refine ⟨⟨fun k hlt => ?_, fun k hlt => ?_⟩, ?_, fun k hlt => ?_, h.free, h.gun, h.lsg, h.lag, h.big⟩
    · obtain ⟨b, o, e, hc⟩ := h.fam.cell k hlt
      exact ⟨b, o, e, hg.cell hc (fun e2 => hf.lb b o e e2.symm)⟩
    · by_cases e : k = K
      · subst e; exact hk _ _ _ _ _ (h.fam.own k hlt) (.inl hm)
      · exact hk _ _ _ _ _ (h.fam.own k hlt) (.inr (hf.ls k hlt e).symm)
    · obtain ⟨gl, h1, h2⟩ := h.gl
      exact ⟨gl, (hg.block Gb (lt_of_block h1) (fun e => hf.gb e.symm)).trans h1, h2⟩
    · exact hk _ _ _ _ _ (h.own k hlt) (.inr (hf.gs k hlt).symm)
  · refine ⟨fun j hj hne x hx hx2 => ?_, fun j hj x hx hx2 => ?_, fun hx => ?_, fun b o e hx => ?_, fun x hx hx2 => ?_⟩
    · rcases hb x hx with h3 | h3
      · exact hf.ls j hj hne x h3 hx2
      · have := (own_lt (h.fam.own j hj) hx2).2; omega
    · rcases hb x hx with h3 | h3
      · exact hf.gs j hj x h3 hx2
      · have := (own_lt (h.own j hj) hx2).2; omega
    · rcases hb _ hx with h3 | h3
      · exact hf.gb h3
      · have := h.gb_lt; omega
    · rcases hb _ hx with h3 | h3
      · exact hf.lb b o e h3
      · obtain ⟨b', o', e', hc⟩ := h.fam.cell K hK
        have hlt : b' < w.heap.size := block_lt_of_cell hc
        rw [e] at e'
        injection e' with e'
        injection e' with e'
        omega
    · rcases hb x hx with h3 | h3
      · exact hf.new x h3 hx2
      · have := hSl x hx2; omega
/-- The grown row is put into the list of the grown. -/
theorem Two.put (h : Two S B la N a n c Gb K ga gc G w) (hK : K < N) {x : Option Addr} {cx : Nat} {f : Nat → Nat} (hf : Free S la N a n c Gb K ga gc (.slice x (n K + 64) cx)) (ho : w.ownsRow B 5 1 (.slice x (n K + 64) cx) (n K + 64) (bs (rowf f (n K + 64)))) :
    Two S B la N a n c Gb (K + 1) (upd ga K x) (upd gc K cx) (upd G K f) (w.setCell ⟨Gb, K, none⟩ (.slice x (n K + 64) cx)) := by
  have hh : ∀ g, g ≠ Gb → (w.setCell ⟨Gb, K, none⟩ (.slice x (n K + 64) cx)).heap[g]? = w.heap[g]? := fun g hg => Below.heap_setCell w ⟨Gb, K, none⟩ _ g hg
  have hfr : ∀ i, i ≠ K → ∀ v, Free S la N a n c Gb i ga gc v → (i < K → Free S la N a n c Gb i (upd ga K x) (upd gc K cx) v) := fun i _ v hv hi => ⟨hv.ls, fun j hj => by rw [upd_other _ _ (by omega), upd_other _ _ (by omega)]; exact hv.gs j hj, hv.gb, hv.lb, hv.new⟩
  refine ⟨⟨fun k hlt => ?_, fun k hlt => own_frame (h.fam.own k hlt) fun g hg _ => hh g (fun e => h.lsg k hlt (by rw [hg, e]))⟩, ?_, fun k hlt => ?_, fun k hlt => ?_, fun i j hi hj hne => ?_, h.lsg, h.lag, h.big⟩
  · obtain ⟨b, o, e, hc⟩ := h.fam.cell k hlt
    exact ⟨b, o, e, (World.cell?_of_block (hh b (h.lag b o e (by omega)))).trans hc⟩
  · obtain ⟨gl, h1, h2, h3⟩ := h.gl
    refine ⟨gl.set K (.slice x (n K + 64) cx), ?_, by rw [List.length_set, h2], fun k hlt => ?_⟩
    · have := heap_setCell_same w Gb K gl.toArray 31 (.slice x (n K + 64) cx) h1
      rw [this]
      congr 2
      simp
    · rw [List.getElem?_set]
      by_cases e : K = k
      · subst e; rw [if_pos rfl, if_pos (by omega), upd_same, upd_same]
      · rw [if_neg e, upd_other _ _ (fun h => e h.symm), upd_other _ _ (fun h => e h.symm)]; exact h3 k (by omega)
  · by_cases e : k = K
    · subst e; rw [upd_same, upd_same, upd_same]; exact own_frame ho fun g hg _ => hh g (fun e => hf.gb (by rw [hg, e]))
    · rw [upd_other _ _ e, upd_other _ _ e, upd_other _ _ e]; exact own_frame (h.own k (by omega)) fun g hg _ => hh g (fun e2 => (h.free k (by omega)).gb (by rw [hg, e2]))
  · by_cases e : k = K
    · subst e; rw [upd_same, upd_same]; exact ⟨hf.ls, fun j hj => by rw [upd_other _ _ (by omega), upd_other _ _ (by omega)]; exact hf.gs j hj, hf.gb, hf.lb, hf.new⟩
    · rw [upd_other _ _ e, upd_other _ _ e]; exact hfr k e _ (h.free k (by omega)) (by omega)
  · by_cases e : i = K
    · subst e; rw [upd_same, upd_same, upd_other _ _ (fun h => hne h.symm), upd_other _ _ (fun h => hne h.symm)]; exact hf.gs j (by omega)
    · by_cases e2 : j = K
      · subst e2; rw [upd_same, upd_same, upd_other _ _ e, upd_other _ _ e]; exact (hf.gs i (by omega)).symm
      · rw [upd_other _ _ e, upd_other _ _ e, upd_other _ _ e2, upd_other _ _ e2]; exact h.gun i j (by omega) (by omega) hne
/-- A block of none of them. -/
structure Far (la : Option Addr) (N : Nat) (a : Nat → Option Addr) (n c : Nat → Nat) (Gb K : Nat) (ga : Nat → Option Addr) (gc : Nat → Nat) (X : Nat) : Prop where
  ls : ∀ j, j < N → (Value.slice (a j) (n j) (c j)).ownBlock ≠ some X
  gs : ∀ j, j < K → (Value.slice (ga j) (n j + 64) (gc j)).ownBlock ≠ some X
  gb : Gb ≠ X
  lb : ∀ b o, la = some ⟨b, o, none⟩ → b ≠ X
theorem Two.far (h : Two S B la N a n c Gb K ga gc G w) (h0 : 0 < N) : Far la N a n c Gb K ga gc w.heap.size where
  ls j hj e := by have := (own_lt (h.fam.own j hj) e).2; omega
  gs j hj e := by have := (own_lt (h.own j hj) e).2; omega
  gb := by have := h.gb_lt; omega
  lb b o e := by
    obtain ⟨b', o', e', hc⟩ := h.fam.cell 0 h0
    have hlt : b' < w.heap.size := block_lt_of_cell hc
    rw [e] at e'
    injection e' with e'
    injection e' with e'
    omega
theorem Two.write {X : Nat} (h : Two S B la N a n c Gb K ga gc G w) (hf : Far la N a n c Gb K ga gc X) (hk : ∀ g, g ≠ X → g < w.heap.size → w'.heap[g]? = w.heap[g]?) : Two S B la N a n c Gb K ga gc G w' where
  fam := h.fam.frame fun g hg => ⟨fun b o e e2 => hk g (by rw [e2]; exact hf.lb b o e) hg, fun k hlt e => hk g (fun e2 => hf.ls k hlt (by rw [e, e2])) hg⟩
  gl := by obtain ⟨gl, h1, h2⟩ := h.gl; exact ⟨gl, (hk Gb hf.gb (lt_of_block h1)).trans h1, h2⟩
  own k hlt := own_frame (h.own k hlt) fun g e hg => hk g (fun e2 => hf.gs k hlt (by rw [e, e2])) hg
  free := h.free
  gun := h.gun
  lsg := h.lsg
  lag := h.lag
  big := h.big
theorem Two.zero (h : Two S B la N a n c Gb K ga gc G w) : Two S B la N a n c Gb 0 ga gc G w where
  fam := h.fam
  gl := by obtain ⟨gl, h1, h2, _⟩ := h.gl; exact ⟨gl, h1, h2, fun k h => absurd h (Nat.not_lt_zero _)⟩
  own k h := absurd h (Nat.not_lt_zero _)
  free k h := absurd h (Nat.not_lt_zero _)
  gun i j h := absurd h (Nat.not_lt_zero _)
  lsg := h.lsg
  lag := h.lag
  big := h.big
theorem Two.at_ (h : Two S B la N a n c Gb K ga gc G w) {k : Nat} (hk : k < K) : w.cell? ⟨Gb, k, none⟩ = some (.slice (ga k) (n k + 64) (gc k)) := by
  obtain ⟨gl, h1, h2, h3⟩ := h.gl
  rw [cell_of_block h1]
  simpa using h3 k hk
theorem Two.slot (h : Two S B la N a n c Gb K ga gc G w) {k : Nat} (hk : k < N) : (∃ u, w.cell? ⟨Gb, k, none⟩ = some u) ∧ w.frozen? ⟨Gb, k, none⟩ = false := by
  obtain ⟨gl, h1, h2, h3⟩ := h.gl
  refine ⟨⟨gl[k]'(by omega), ?_⟩, frozen_of_block h1⟩
  rw [cell_of_block h1]
  simp [h2, hk]
/-- At the start none has been appended to. -/
theorem two_start {F : Nat → Nat → Nat} {xs : List Value} (hF : Fam B la N a n c F w) (hD : ∀ k, k < N → ∀ i, i < n k → F k i = mk k i) (ho : w'.ownsRow w.heap.size 31 1 (.slice (some ⟨w.heap.size, 0, none⟩) N N) N xs) (hg : w.grownBy w' none) (hB : B ≤ w.heap.size) :
    Two S B la N a n c w.heap.size 0 (fun _ => none) (fun _ => 0) (fun _ _ => 0) w' := by
  have hz : ∀ k : Nat, ¬ k < 0 := Nat.not_lt_zero
  have hk : ∀ g, g < w.heap.size → w'.heap[g]? = w.heap[g]? := fun g hl => hg.block g hl (fun e => by cases e)
  refine ⟨⟨fun k hlt => ?_, fun k hlt => ?_⟩, ?_, fun k h => absurd h (hz k), fun k h => absurd h (hz k), fun i j h => absurd h (hz i), fun k hlt e => ?_, fun b o e h0 => ?_, hB⟩
  · obtain ⟨b, o, e, hc⟩ := hF.cell k hlt
    exact ⟨b, o, e, (World.cell?_of_block (hk b (block_lt_of_cell hc))).trans hc⟩
  · have e : rowf (fun i => mk k i) (n k) = rowf (F k) (n k) := (rowf_ext (length_rowf _ _) fun i hi => by rw [rowf_get hi]; exact hD k hlt i hi).symm
    rw [e]
    exact own_frame (hF.own k hlt) fun g _ hl => hk g hl
  · rcases ho.2 with ⟨h2, _⟩ | ⟨g, cap, cur, e, hb, hh, hn, hc, hsz, ht⟩
    · cases h2
    · injection e with e1 e2 e3
      injection e1 with e1
      injection e1 with e1 _ _
      subst e1; subst e3
      exact ⟨cur.toList, by rw [Array.toArray_toList]; exact hh, by rw [Array.length_toList, hsz, Nat.mul_one], fun k h => absurd h (hz k)⟩
  · have := (own_lt (hF.own k hlt) e).2; omega
  · obtain ⟨b', o', e', hc⟩ := hF.cell 0 h0
    have hlt : b' < w.heap.size := block_lt_of_cell hc
    rw [e] at e'
    injection e' with e'
    injection e' with e'
    omega
end
end Go.Proofs.Ytokeoodkioobdaa
