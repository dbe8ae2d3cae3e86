/- Rows that are apart; the walks of flatBytes, of the other flats at empty lists, of ApartBytes. Conditions: at most 1000000 rows of at most 1000000 bytes. -/
import Derived.Test.YtfojhmobnedekaaOwn
import Derived.Test.YtfojhmobnedekaaQt
import Derived.LoopN
import Derived.Handy
import Derived.Laws.CopyOwn
namespace Go.Proofs.Ytfojhmobnedekaa
open Go.RowKit

def rowf (f : Nat → Nat) (n : Nat) : List Nat := (List.range n).map f
theorem length_rowf (f : Nat → Nat) (n : Nat) : (rowf f n).length = n := by simp [rowf]
theorem rowf_get {f : Nat → Nat} {n i : Nat} (h : i < n) : (rowf f n).getD i 0 = f i := by simp [rowf, List.getD_eq_getElem?_getD, h]
theorem rowf_ext {l : List Nat} {f : Nat → Nat} {n : Nat} (hl : l.length = n) (h : ∀ i, i < n → l.getD i 0 = f i) : l = rowf f n := by
  apply List.ext_getElem
  · rw [hl, length_rowf]
  · intro i h1 h2
    have := h i (by omega)
    rw [List.getD_eq_getElem?_getD, List.getElem?_eq_getElem h1] at this
    simp only [rowf, List.getElem_map, List.getElem_range]
    exact this
theorem rowf_set {f : Nat → Nat} {n i x : Nat} (h : i < n) : (rowf f n).set i x = rowf (fun j => if j = i then x else f j) n := rowf_ext (by rw [List.length_set, length_rowf]) fun j hj => by
  rw [getD_set _ _ _ _ (by rw [length_rowf]; exact h), rowf_get hj]
  by_cases e : i = j
  · rw [if_pos e, if_pos e.symm]
  · rw [if_neg e, if_neg (fun h => e h.symm)]
theorem rowf_app {f g : Nat → Nat} {n m : Nat} : rowf f n ++ rowf g m = rowf (fun j => if j < n then f j else g (j - n)) (n + m) := rowf_ext (by rw [List.length_append, length_rowf, length_rowf]) fun j hj => by
  rw [List.getD_eq_getElem?_getD]
  by_cases e : j < n
  · rw [List.getElem?_append_left (by rw [length_rowf]; exact e), if_pos e, ← List.getD_eq_getElem?_getD, rowf_get e]
  · rw [List.getElem?_append_right (by rw [length_rowf]; omega), length_rowf, if_neg e, ← List.getD_eq_getElem?_getD, rowf_get (by omega)]
theorem own_frame {w w' : World} {B n : Nat} {e : TypeId} {v : Value} {xs : List Value} (h : w.ownsRow B e 1 v n xs) (hk : ∀ g, v.ownBlock = some g → g < w.heap.size → w'.heap[g]? = w.heap[g]?) : w'.ownsRow B e 1 v n xs := by
  obtain ⟨h1, h2⟩ := h
  refine ⟨h1, ?_⟩
  rcases h2 with h2 | ⟨g, cap, cur, rfl, hb, hh, hn⟩
  · exact .inl h2
  · exact .inr ⟨g, cap, cur, rfl, hb, (hk g rfl (lt_of_block hh)).trans hh, hn⟩
theorem own_at {w : World} {B n c i : Nat} {a : Option Addr} {f : Nat → Nat} (h : w.ownsRow B 5 1 (.slice a n c) n (bs (rowf f n))) (hi : i < n) :
    ∃ g, a = some ⟨g, 0, none⟩ ∧ B ≤ g ∧ g < w.heap.size ∧ w.cell? ⟨g, i, none⟩ = some (.int .u8 (f i : Nat)) ∧ w.frozen? ⟨g, i, none⟩ = false := by
  have h0 := h
  obtain ⟨h1, h2⟩ := h
  rcases h2 with ⟨h2, hn⟩ | ⟨g, cap, cur, e, hb, hh, hn⟩
  · omega
  · injection e with e1 e2 e3
    subst e1
    have := own_cell h0 hi
    rw [rowf_get hi] at this
    exact ⟨g, rfl, hb, lt_of_block hh, this.1, this.2⟩
theorem own_put {w : World} {B g n c i x : Nat} {f : Nat → Nat} (h : w.ownsRow B 5 1 (.slice (some ⟨g, 0, none⟩) n c) n (bs (rowf f n))) (hi : i < n) :
    (w.setCell ⟨g, i, none⟩ (.int .u8 (x : Nat))).ownsRow B 5 1 (.slice (some ⟨g, 0, none⟩) n c) n (bs (rowf (fun j => if j = i then x else f j) n)) := by
  have := own_set (i := i) (x := x) h
  rwa [rowf_set hi] at this
theorem own_rowf {w : World} {B n : Nat} {v : Value} {l : List Nat} (h : w.ownsRow B 5 1 v n (bs l)) : w.ownsRow B 5 1 v n (bs (rowf (fun i => l.getD i 0) n)) := by
  have e : l = rowf (fun i => l.getD i 0) n := rowf_ext (by have := h.1; rwa [length_bs, Nat.mul_one] at this) fun _ _ => rfl
  rw [← e]; exact h
/-- The list of rows: no two of one block, none in the list's own. -/
structure Sep (la : Option Addr) (N : Nat) (a : Nat → Option Addr) (n c : Nat → Nat) : Prop where
  unl : ∀ i j, i < N → j < N → i ≠ j → Unl (.slice (a i) (n i) (c i)) (.slice (a j) (n j) (c j))
  lb : ∀ b o k, la = some ⟨b, o, none⟩ → k < N → (Value.slice (a k) (n k) (c k)).ownBlock ≠ some b
  most : ∀ k, k < N → n k ≤ 1000000
  count : N ≤ 1000000
structure Fam (B : Nat) (la : Option Addr) (N : Nat) (a : Nat → Option Addr) (n c : Nat → Nat) (F : Nat → Nat → Nat) (w : World) : Prop where
  cell : ∀ k, k < N → ∃ b o, la = some ⟨b, o, none⟩ ∧ w.cell? ⟨b, o + k, none⟩ = some (.slice (a k) (n k) (c k))
  own : ∀ k, k < N → w.ownsRow B 5 1 (.slice (a k) (n k) (c k)) (n k) (bs (rowf (F k) (n k)))
section
variable {B : Nat} {la : Option Addr} {N : Nat} {a : Nat → Option Addr} {n c : Nat → Nat} {F : Nat → Nat → Nat} {w w' : World}
theorem Fam.drewN (h : Fam B la N a n c F w) (q : Nat) : Fam B la N a n c F (w.drewN q) := ⟨h.cell, h.own⟩
theorem Fam.frame (h : Fam B la N a n c F w) (hk : ∀ g, g < w.heap.size → (∀ b o, la = some ⟨b, o, none⟩ → g = b → w'.heap[g]? = w.heap[g]?) ∧ (∀ k, k < N → (Value.slice (a k) (n k) (c k)).ownBlock = some g → w'.heap[g]? = w.heap[g]?)) : Fam B la N a n c F w' where
  cell k hlt := by
    obtain ⟨b, o, e, hc⟩ := h.cell k hlt
    exact ⟨b, o, e, (World.cell?_of_block ((hk b (block_lt_of_cell hc)).1 b o e rfl)).trans hc⟩
  own k hlt := own_frame (h.own k hlt) fun g hg hl => (hk g hl).2 k hlt hg
theorem Fam.fill (h : Fam B la N a n c F w) (hs : Sep la N a n c) {k i g x : Nat} (hk : k < N) (hi : i < n k) (ha : a k = some ⟨g, 0, none⟩) :
    Fam B la N a n c (fun k' j => if k' = k ∧ j = i then x else F k' j) (w.setCell ⟨g, i, none⟩ (.int .u8 (x : Nat))) where
  cell k' hlt := by
    obtain ⟨b, o, e, hc⟩ := h.cell k' hlt
    have hne : b ≠ g := fun he => hs.lb b o k e hk (by rw [ha, he]; rfl)
    exact ⟨b, o, e, (World.cell?_of_block (Below.heap_setCell w ⟨g, i, none⟩ _ b hne)).trans hc⟩
  own k' hlt := by
    by_cases e : k' = k
    · subst e
      have h0 := h.own k' hlt
      rw [ha] at h0 ⊢
      have := own_put (i := i) (x := x) h0 hi
      have e2 : (fun j => if k' = k' ∧ j = i then x else F k' j) = fun j => if j = i then x else F k' j := by funext j; simp
      rw [e2]; exact this
    · have e2 : (fun j => if k' = k ∧ j = i then x else F k' j) = F k' := by funext j; rw [if_neg (fun h => e h.1)]
      rw [e2]
      refine own_frame (h.own k' hlt) fun g' hg' _ => Below.heap_setCell w ⟨g, i, none⟩ _ g' ?_
      intro he
      exact hs.unl k' k hlt hk e g' hg' (by rw [ha]; exact congrArg some (show g = g' from he.symm))
end
/- The rows and what was appended to them: the plain part of flatBytes, more. -/
def upd {α : Type} (f : Nat → α) (k : Nat) (x : α) : Nat → α := fun i => if i = k then x else f i
theorem upd_same {α : Type} (f : Nat → α) (k : Nat) (x : α) : upd f k x k = x := if_pos rfl
theorem upd_other {α : Type} (f : Nat → α) {k i : Nat} (x : α) (h : i ≠ k) : upd f k x i = f i := if_neg h
/-- The blocks S are as they were. -/
structure Kpt (S : Nat → Prop) (w w' : World) : Prop where
  os : w'.os = w.os
  tape : w'.tape = w.tape
  output : w'.output = w.output
  size : w.heap.size ≤ w'.heap.size
  block : ∀ k, S k → w'.heap[k]? = w.heap[k]?
theorem Kpt.refl (S : Nat → Prop) (w : World) : Kpt S w w := ⟨rfl, rfl, rfl, Nat.le_refl _, fun _ _ => rfl⟩
theorem Kpt.drewN {S : Nat → Prop} {w w' : World} (h : Kpt S w w') (q : Nat) : Kpt S w (w'.drewN q) := by
  have hb := below_drewN (Below.refl w'.heap.size w') q
  exact ⟨hb.os.trans h.os, hb.tape.trans h.tape, hb.output.trans h.output, Nat.le_trans h.size hb.size, fun k hk => h.block k hk⟩
theorem Kpt.then {S : Nat → Prop} {w w' w2 : World} (h : Kpt S w w') (hb : Below 0 w' w2) (hk : ∀ k, S k → w2.heap[k]? = w'.heap[k]?) : Kpt S w w2 :=
  ⟨hb.os.trans h.os, hb.tape.trans h.tape, hb.output.trans h.output, Nat.le_trans h.size hb.size, fun k hS => (hk k hS).trans (h.block k hS)⟩
theorem Kpt.alloc {S : Nat → Prop} {w w' : World} (h : Kpt S w w') (hl : ∀ k, S k → k < w.heap.size) (o : Obj) : Kpt S w (w'.alloc o) :=
  h.then ((Below.refl _ _).alloc (Nat.zero_le _) o) fun k hk => Below.heap_alloc w' o k (Nat.lt_of_lt_of_le (hl k hk) h.size)
theorem Kpt.setCell {S : Nat → Prop} {w w' : World} (h : Kpt S w w') {p : Addr} (hp : ¬ S p.block) (u : Value) : Kpt S w (w'.setCell p u) :=
  h.then ((Below.refl _ _).setCell (Nat.zero_le _) u) fun k hk => Below.heap_setCell w' p u k (fun e => hp (by rw [← e]; exact hk))
theorem Kpt.grown {S : Nat → Prop} {w w' w2 : World} {row : Option Nat} (h : Kpt S w w') (hg : w'.grownBy w2 row) (hl : ∀ k, S k → k < w.heap.size) (hr : ∀ k, row = some k → ¬ S k) : Kpt S w w2 :=
  h.then ((Below.refl _ _).grown hg (Nat.zero_le _) (fun k _ => Nat.zero_le k)) fun k hk => hg.block k (Nat.lt_of_lt_of_le (hl k hk) h.size) (fun e => hr k e.symm hk)
/-- What the value g may not share. -/
structure Free (S : Nat → Prop) (la : Option Addr) (N : Nat) (a : Nat → Option Addr) (n c : Nat → Nat) (Gb K : Nat) (ga : Nat → Option Addr) (gc : Nat → Nat) (g : Value) : Prop where
  ls : ∀ j, j < N → j ≠ K → Unl g (.slice (a j) (n j) (c j))
  gs : ∀ j, j < K → Unl g (.slice (ga j) (n j + 64) (gc j))
  gb : g.ownBlock ≠ some Gb
  lb : ∀ b o, la = some ⟨b, o, none⟩ → g.ownBlock ≠ some b
  new : ∀ x, g.ownBlock = some x → ¬ S x
/-- The first K rows have been appended to. -/
structure Two (S : Nat → Prop) (B : Nat) (la : Option Addr) (N : Nat) (a : Nat → Option Addr) (n c : Nat → Nat) (Gb K : Nat) (ga : Nat → Option Addr) (gc : Nat → Nat) (G : Nat → Nat → Nat) (w : World) : Prop where
  fam : Fam B la N a n c (fun k i => mk k i) w
  gl : ∃ gl : List Value, w.heap[Gb]? = some (.cells gl.toArray 25 (0, 0)) ∧ gl.length = N ∧ ∀ k, k < K → gl[k]? = some (.slice (ga k) (n k + 64) (gc k))
  own : ∀ k, k < K → w.ownsRow B 5 1 (.slice (ga k) (n k + 64) (gc k)) (n k + 64) (bs (rowf (G k) (n k + 64)))
  free : ∀ k, k < K → Free S la N a n c Gb k ga gc (.slice (ga k) (n k + 64) (gc k))
  gun : ∀ i j, i < K → j < K → i ≠ j → Unl (.slice (ga i) (n i + 64) (gc i)) (.slice (ga j) (n j + 64) (gc j))
  lsg : ∀ k, k < N → (Value.slice (a k) (n k) (c k)).ownBlock ≠ some Gb
  lag : ∀ b o, la = some ⟨b, o, none⟩ → 0 < N → b ≠ Gb
  big : B ≤ Gb
theorem own_lt {w : World} {B n g : Nat} {e : TypeId} {v : Value} {xs : List Value} (h : w.ownsRow B e 1 v n xs) (hg : v.ownBlock = some g) : B ≤ g ∧ g < w.heap.size := by
  rcases h.2 with ⟨rfl, _⟩ | ⟨g', cap, cur, rfl, hb, hh, hn⟩
  · cases hg
  · injection hg with hg; subst hg; exact ⟨hb, lt_of_block hh⟩
section
variable {S : Nat → Prop} {B : Nat} {la : Option Addr} {N : Nat} {a : Nat → Option Addr} {n c : Nat → Nat} {Gb K : Nat} {ga : Nat → Option Addr} {gc : Nat → Nat} {G : Nat → Nat → Nat} {w w' : World}
theorem Two.gb_lt (h : Two S B la N a n c Gb K ga gc G w) : Gb < w.heap.size := by obtain ⟨gl, h1, _⟩ := h.gl; exact lt_of_block h1
/-- Nothing that was there has turned. -/
theorem Two.frame (h : Two S B la N a n c Gb K ga gc G w) (hk : ∀ g, g < w.heap.size → w'.heap[g]? = w.heap[g]?) : Two S B la N a n c Gb K ga gc G w' where
  fam := h.fam.frame fun g hg => ⟨fun _ _ _ _ => hk g hg, fun _ _ _ => hk g hg⟩
  gl := by obtain ⟨gl, h1, h2⟩ := h.gl; exact ⟨gl, (hk Gb (lt_of_block h1)).trans h1, h2⟩
  own k hlt := own_frame (h.own k hlt) fun g _ hg => hk g hg
  free := h.free
  gun := h.gun
  lsg := h.lsg
  lag := h.lag
  big := h.big
theorem Two.free_ls (h : Two S B la N a n c Gb K ga gc G w) (hs : Sep la N a n c) (hK : K < N) (hS : ∀ x, (Value.slice (a K) (n K) (c K)).ownBlock = some x → ¬ S x) : Free S la N a n c Gb K ga gc (.slice (a K) (n K) (c K)) where
  ls j hj hne := hs.unl K j hK hj (fun e => hne e.symm)
  gs j hj := ((h.free j hj).ls K hK (by omega)).symm
  gb := h.lsg K hK
  lb b o e := hs.lb b o K e hK
  new := hS
/-- A row that grows. -/
theorem Two.grow (h : Two S B la N a n c Gb K ga gc G w) (hK : K < N) (hSl : ∀ x, S x → x < w.heap.size) {g v' : Value} {m : Nat} (hf : Free S la N a n c Gb K ga gc g) (hm : n K ≤ m) (hg : w.grownBy w' g.ownBlock)
    (hb : ∀ x, v'.ownBlock = some x → g.ownBlock = some x ∨ x = w.heap.size) (hk : KeepRows w w' g m) : Two S B la N a n c Gb K ga gc G w' ∧ Free S la N a n c Gb K ga gc v' := by
  constructor
  · refine ⟨⟨fun k hlt => ?_, fun k hlt => ?_⟩, ?_, fun k hlt => ?_, h.free, h.gun, h.lsg, h.lag, h.big⟩
    · obtain ⟨b, o, e, hc⟩ := h.fam.cell k hlt
      exact ⟨b, o, e, hg.cell hc (fun e2 => hf.lb b o e e2.symm)⟩
    · by_cases e : k = K
      · subst e; exact hk _ _ _ _ _ (h.fam.own k hlt) (.inl hm)
      · exact hk _ _ _ _ _ (h.fam.own k hlt) (.inr (hf.ls k hlt e).symm)
    · obtain ⟨gl, h1, h2⟩ := h.gl
      exact ⟨gl, (hg.block Gb (lt_of_block h1) (fun e => hf.gb e.symm)).trans h1, h2⟩
    · exact hk _ _ _ _ _ (h.own k hlt) (.inr (hf.gs k hlt).symm)
  · refine ⟨fun j hj hne x hx hx2 => ?_, fun j hj x hx hx2 => ?_, fun hx => ?_, fun b o e hx => ?_, fun x hx hx2 => ?_⟩
    · rcases hb x hx with h3 | h3
      · exact hf.ls j hj hne x h3 hx2
      · have := (own_lt (h.fam.own j hj) hx2).2; omega
    · rcases hb x hx with h3 | h3
      · exact hf.gs j hj x h3 hx2
      · have := (own_lt (h.own j hj) hx2).2; omega
    · rcases hb _ hx with h3 | h3
      · exact hf.gb h3
      · have := h.gb_lt; omega
    · rcases hb _ hx with h3 | h3
      · exact hf.lb b o e h3
      · obtain ⟨b', o', e', hc⟩ := h.fam.cell K hK
        have hlt : b' < w.heap.size := block_lt_of_cell hc
        rw [e] at e'
        injection e' with e'
        injection e' with e'
        omega
    · rcases hb x hx with h3 | h3
      · exact hf.new x h3 hx2
      · have := hSl x hx2; omega
/-- The grown row is put into the list of the grown. -/
theorem Two.put (h : Two S B la N a n c Gb K ga gc G w) (hK : K < N) {x : Option Addr} {cx : Nat} {f : Nat → Nat} (hf : Free S la N a n c Gb K ga gc (.slice x (n K + 64) cx)) (ho : w.ownsRow B 5 1 (.slice x (n K + 64) cx) (n K + 64) (bs (rowf f (n K + 64)))) :
    Two S B la N a n c Gb (K + 1) (upd ga K x) (upd gc K cx) (upd G K f) (w.setCell ⟨Gb, K, none⟩ (.slice x (n K + 64) cx)) := by
  have hh : ∀ g, g ≠ Gb → (w.setCell ⟨Gb, K, none⟩ (.slice x (n K + 64) cx)).heap[g]? = w.heap[g]? := fun g hg => Below.heap_setCell w ⟨Gb, K, none⟩ _ g hg
  have hfr : ∀ i, i ≠ K → ∀ v, Free S la N a n c Gb i ga gc v → (i < K → Free S la N a n c Gb i (upd ga K x) (upd gc K cx) v) := fun i _ v hv hi => ⟨hv.ls, fun j hj => by rw [upd_other _ _ (by omega), upd_other _ _ (by omega)]; exact hv.gs j hj, hv.gb, hv.lb, hv.new⟩
  refine ⟨⟨fun k hlt => ?_, fun k hlt => own_frame (h.fam.own k hlt) fun g hg _ => hh g (fun e => h.lsg k hlt (by rw [hg, e]))⟩, ?_, fun k hlt => ?_, fun k hlt => ?_, fun i j hi hj hne => ?_, h.lsg, h.lag, h.big⟩
  · obtain ⟨b, o, e, hc⟩ := h.fam.cell k hlt
    exact ⟨b, o, e, (World.cell?_of_block (hh b (h.lag b o e (by omega)))).trans hc⟩
  · obtain ⟨gl, h1, h2, h3⟩ := h.gl
    refine ⟨gl.set K (.slice x (n K + 64) cx), ?_, by rw [List.length_set, h2], fun k hlt => ?_⟩
    · have := heap_setCell_same w Gb K gl.toArray 25 (.slice x (n K + 64) cx) h1
      rw [this]
      congr 2
      simp
    · rw [List.getElem?_set]
      by_cases e : K = k
      · subst e; rw [if_pos rfl, if_pos (by omega), upd_same, upd_same]
      · rw [if_neg e, upd_other _ _ (fun h => e h.symm), upd_other _ _ (fun h => e h.symm)]; exact h3 k (by omega)
  · by_cases e : k = K
    · subst e; rw [upd_same, upd_same, upd_same]; exact own_frame ho fun g hg _ => hh g (fun e => hf.gb (by rw [hg, e]))
    · rw [upd_other _ _ e, upd_other _ _ e, upd_other _ _ e]; exact own_frame (h.own k (by omega)) fun g hg _ => hh g (fun e2 => (h.free k (by omega)).gb (by rw [hg, e2]))
  · by_cases e : k = K
    · subst e; rw [upd_same, upd_same]; exact ⟨hf.ls, fun j hj => by rw [upd_other _ _ (by omega), upd_other _ _ (by omega)]; exact hf.gs j hj, hf.gb, hf.lb, hf.new⟩
    · rw [upd_other _ _ e, upd_other _ _ e]; exact hfr k e _ (h.free k (by omega)) (by omega)
  · by_cases e : i = K
    · subst e; rw [upd_same, upd_same, upd_other _ _ (fun h => hne h.symm), upd_other _ _ (fun h => hne h.symm)]; exact hf.gs j (by omega)
    · by_cases e2 : j = K
      · subst e2; rw [upd_same, upd_same, upd_other _ _ e, upd_other _ _ e]; exact (hf.gs i (by omega)).symm
      · rw [upd_other _ _ e, upd_other _ _ e, upd_other _ _ e2, upd_other _ _ e2]; exact h.gun i j (by omega) (by omega) hne
/-- A block of none of them. -/
structure Far (la : Option Addr) (N : Nat) (a : Nat → Option Addr) (n c : Nat → Nat) (Gb K : Nat) (ga : Nat → Option Addr) (gc : Nat → Nat) (X : Nat) : Prop where
  ls : ∀ j, j < N → (Value.slice (a j) (n j) (c j)).ownBlock ≠ some X
  gs : ∀ j, j < K → (Value.slice (ga j) (n j + 64) (gc j)).ownBlock ≠ some X
  gb : Gb ≠ X
  lb : ∀ b o, la = some ⟨b, o, none⟩ → b ≠ X
theorem Two.far (h : Two S B la N a n c Gb K ga gc G w) (h0 : 0 < N) : Far la N a n c Gb K ga gc w.heap.size where
  ls j hj e := by have := (own_lt (h.fam.own j hj) e).2; omega
  gs j hj e := by have := (own_lt (h.own j hj) e).2; omega
  gb := by have := h.gb_lt; omega
  lb b o e := by
    obtain ⟨b', o', e', hc⟩ := h.fam.cell 0 h0
    have hlt : b' < w.heap.size := block_lt_of_cell hc
    rw [e] at e'
    injection e' with e'
    injection e' with e'
    omega
theorem Two.write {X : Nat} (h : Two S B la N a n c Gb K ga gc G w) (hf : Far la N a n c Gb K ga gc X) (hk : ∀ g, g ≠ X → g < w.heap.size → w'.heap[g]? = w.heap[g]?) : Two S B la N a n c Gb K ga gc G w' where
  fam := h.fam.frame fun g hg => ⟨fun b o e e2 => hk g (by rw [e2]; exact hf.lb b o e) hg, fun k hlt e => hk g (fun e2 => hf.ls k hlt (by rw [e, e2])) hg⟩
  gl := by obtain ⟨gl, h1, h2⟩ := h.gl; exact ⟨gl, (hk Gb hf.gb (lt_of_block h1)).trans h1, h2⟩
  own k hlt := own_frame (h.own k hlt) fun g e hg => hk g (fun e2 => hf.gs k hlt (by rw [e, e2])) hg
  free := h.free
  gun := h.gun
  lsg := h.lsg
  lag := h.lag
  big := h.big
theorem Two.zero (h : Two S B la N a n c Gb K ga gc G w) : Two S B la N a n c Gb 0 ga gc G w where
  fam := h.fam
  gl := by obtain ⟨gl, h1, h2, _⟩ := h.gl; exact ⟨gl, h1, h2, fun k h => absurd h (Nat.not_lt_zero _)⟩
  own k h := absurd h (Nat.not_lt_zero _)
  free k h := absurd h (Nat.not_lt_zero _)
  gun i j h := absurd h (Nat.not_lt_zero _)
  lsg := h.lsg
  lag := h.lag
  big := h.big
theorem Two.at_ (h : Two S B la N a n c Gb K ga gc G w) {k : Nat} (hk : k < K) : w.cell? ⟨Gb, k, none⟩ = some (.slice (ga k) (n k + 64) (gc k)) := by
  obtain ⟨gl, h1, h2, h3⟩ := h.gl
  rw [cell_of_block h1]
  simpa using h3 k hk
theorem Two.slot (h : Two S B la N a n c Gb K ga gc G w) {k : Nat} (hk : k < N) : (∃ u, w.cell? ⟨Gb, k, none⟩ = some u) ∧ w.frozen? ⟨Gb, k, none⟩ = false := by
  obtain ⟨gl, h1, h2, h3⟩ := h.gl
  refine ⟨⟨gl[k]'(by omega), ?_⟩, frozen_of_block h1⟩
  rw [cell_of_block h1]
  simp [h2, hk]
/-- At the start none has been appended to. -/
theorem two_start {F : Nat → Nat → Nat} {xs : List Value} (hF : Fam B la N a n c F w) (hD : ∀ k, k < N → ∀ i, i < n k → F k i = mk k i) (ho : w'.ownsRow w.heap.size 25 1 (.slice (some ⟨w.heap.size, 0, none⟩) N N) N xs) (hg : w.grownBy w' none) (hB : B ≤ w.heap.size) :
    Two S B la N a n c w.heap.size 0 (fun _ => none) (fun _ => 0) (fun _ _ => 0) w' := by
  have hz : ∀ k : Nat, ¬ k < 0 := Nat.not_lt_zero
  have hk : ∀ g, g < w.heap.size → w'.heap[g]? = w.heap[g]? := fun g hl => hg.block g hl (fun e => by cases e)
  refine ⟨⟨fun k hlt => ?_, fun k hlt => ?_⟩, ?_, fun k h => absurd h (hz k), fun k h => absurd h (hz k), fun i j h => absurd h (hz i), fun k hlt e => ?_, fun b o e h0 => ?_, hB⟩
  · obtain ⟨b, o, e, hc⟩ := hF.cell k hlt
    exact ⟨b, o, e, (World.cell?_of_block (hk b (block_lt_of_cell hc))).trans hc⟩
  · have e : rowf (fun i => mk k i) (n k) = rowf (F k) (n k) := (rowf_ext (length_rowf _ _) fun i hi => by rw [rowf_get hi]; exact hD k hlt i hi).symm
    rw [e]
    exact own_frame (hF.own k hlt) fun g _ hl => hk g hl
  · rcases ho.2 with ⟨h2, _⟩ | ⟨g, cap, cur, e, hb, hh, hn, hc, hsz, ht⟩
    · cases h2
    · injection e with e1 e2 e3
      injection e1 with e1
      injection e1 with e1 _ _
      subst e1; subst e3
      exact ⟨cur.toList, by rw [Array.toArray_toList]; exact hh, by rw [Array.length_toList, hsz, Nat.mul_one], fun k h => absurd h (hz k)⟩
  · have := (own_lt (hF.own k hlt) e).2; omega
  · obtain ⟨b', o', e', hc⟩ := hF.cell 0 h0
    have hlt : b' < w.heap.size := block_lt_of_cell hc
    rw [e] at e'
    injection e' with e'
    injection e' with e'
    omega
end
def Done (n : Nat → Nat) (F : Nat → Nat → Nat) (K I : Nat) : Prop := (∀ k, k < K → ∀ i, i < n k → F k i = mk k i) ∧ ∀ i, i < I → F K i = mk K i
theorem Done.zero (n : Nat → Nat) (F : Nat → Nat → Nat) : Done n F 0 0 := ⟨fun _ h => absurd h (Nat.not_lt_zero _), fun _ h => absurd h (Nat.not_lt_zero _)⟩
theorem Done.row {n : Nat → Nat} {F : Nat → Nat → Nat} {K : Nat} (h : Done n F K (n K)) : Done n F (K + 1) 0 := ⟨fun k hk i hi => by
  by_cases e : k = K
  · subst e; exact h.2 i hi
  · exact h.1 k (by omega) i hi, fun _ h => absurd h (Nat.not_lt_zero _)⟩
theorem Done.step {n : Nat → Nat} {F : Nat → Nat → Nat} {K I : Nat} (h : Done n F K I) : Done n (fun k' j => if k' = K ∧ j = I then mk K I else F k' j) K (I + 1) := ⟨fun k hk i hi => by
  show (if _ then _ else _) = _
  rw [if_neg (fun h => by omega)]; exact h.1 k hk i hi, fun i hi => by
  show (if _ then _ else _) = _
  by_cases e : i = I
  · subst e; rw [if_pos ⟨rfl, rfl⟩]
  · rw [if_neg (fun h => e h.2)]; exact h.2 i (by omega)⟩
theorem upd_id {α : Type} (f : Nat → α) (k : Nat) : upd f k (f k) = f := by funext i; unfold upd; split <;> simp_all
theorem info31 : (Try.prog.info? 25).map (fun i => (i.zero, i.size, i.bytes)) = some (some (.slice none 0 0), 1, 24) := by kernel_rfl
/-- What a round of the appends holds. -/
structure Cur (S : Nat → Prop) (B : Nat) (la : Option Addr) (N : Nat) (a : Nat → Option Addr) (n c : Nat → Nat) (Gb K : Nat) (ga : Nat → Option Addr) (gc : Nat → Nat) (G : Nat → Nat → Nat) (x : Option Addr) (cx I : Nat) (w : World) : Prop where
  two : Two S B la N a n c Gb K ga gc G w
  free : Free S la N a n c Gb K ga gc (.slice x (n K + I) cx)
  own : w.ownsRow B 5 1 (.slice x (n K + I) cx) (n K + I) (bs (rowf (fun j => mk K j) (n K + I)))
theorem cur_alloc {S : Nat → Prop} {B : Nat} {la : Option Addr} {N : Nat} {a : Nat → Option Addr} {n c : Nat → Nat} {Gb K : Nat} {ga : Nat → Option Addr} {gc : Nat → Nat} {G : Nat → Nat → Nat} {x : Option Addr} {cx I : Nat} {w : World} (h : Cur S B la N a n c Gb K ga gc G x cx I w) (o : Obj) : Cur S B la N a n c Gb K ga gc G x cx I (w.alloc o) :=
  ⟨h.two.frame fun g hg => Below.heap_alloc w o g hg, h.free, own_frame h.own fun g _ hg => Below.heap_alloc w o g hg⟩
theorem cur_step {S : Nat → Prop} {B : Nat} {la : Option Addr} {N : Nat} {a : Nat → Option Addr} {n c : Nat → Nat} {Gb K : Nat} {ga : Nat → Option Addr} {gc : Nat → Nat} {G : Nat → Nat → Nat} {x : Option Addr} {cx I : Nat} {w w' : World} {v' : Value} (h : Cur S B la N a n c Gb K ga gc G x cx I w) (hK : K < N) (hSl : ∀ x, S x → x < w.heap.size)
    (ho : w'.ownsRow B 5 1 v' (n K + I + 1) (bs (rowf (fun j => mk K j) (n K + I)) ++ [.int .u8 (mk K ((n K + I : Nat) : Int) : Nat)])) (hg : w.grownBy w' (Value.slice x (n K + I) cx).ownBlock)
    (hb : ∀ g, v'.ownBlock = some g → (Value.slice x (n K + I) cx).ownBlock = some g ∨ g = w.heap.size) (hk : KeepRows w w' (.slice x (n K + I) cx) (n K + I)) :
    ∃ x' cx', v' = .slice x' (n K + (I + 1)) cx' ∧ Cur S B la N a n c Gb K ga gc G x' cx' (I + 1) w' := by
  obtain ⟨g, cap, rfl⟩ := own_succ ho
  obtain ⟨h1, h2⟩ := h.two.grow hK hSl h.free (Nat.le_add_right _ _) hg hb hk
  have e : bs (rowf (fun j => mk K j) (n K + I)) ++ [.int .u8 (mk K ((n K + I : Nat) : Int) : Nat)] = bs (rowf (fun j => mk K j) (n K + (I + 1))) := by
    have : rowf (fun j => mk K j) (n K + (I + 1)) = rowf (fun j => mk K j) (n K + I) ++ [mk K ((n K + I : Nat) : Int)] := by
      unfold rowf; rw [show n K + (I + 1) = n K + I + 1 by omega, List.range_succ, List.map_append]; rfl
    rw [this, bs_append]; rfl
  rw [e] at ho
  exact ⟨_, _, rfl, h1, h2, ho⟩
set_option maxHeartbeats 6000000 in
set_option maxRecDepth 100000 in
theorem flat_bytes {S : Nat → Prop} {w : World} {B C : Nat} {la : Option Addr} {N : Nat} {a : Nat → Option Addr} {n c : Nat → Nat} {F : Nat → Nat → Nat} (hB : B ≤ w.heap.size) (hS : Sep la N a n c) (hF : Fam B la N a n c F w) (hSl : ∀ x, S x → x < w.heap.size) (hSr : ∀ k, k < N → ∀ x, (Value.slice (a k) (n k) (c k)).ownBlock = some x → ¬ S x) :
    Calls Try.prog 96 #[.slice la N C] w fun e w' => e = .returned (.bool true) ∧ Kpt S w w' := by
  have HS := Lib.hid hS
  have HF := Lib.hid hF
  have hNm := hS.count
  obtain ⟨i31, hj, hy0, hy1, hy2⟩ := info_parts info31
  obtain ⟨i0, hi, hz0, hz1, hz2⟩ := info_parts info5
  have HSl := Lib.hid hSl
  have HSr := Lib.hid hSr
  clear hS hF hSl hSr
  go_enter Try.func96, Try.ntmps96
  go_wp2_with fail
  go_loopw [3] (fun i wr => ∃ K : Nat, K ≤ N ∧ i = .int .i64 K ∧ (∃ F, Hid (Fam B la N a n c F wr) ∧ Hid (Done n F K 0)) ∧ Hid (Kpt S w wr)) (fun i _ => N - (intOf i).toNat)
  case atStart => exact ⟨0, by omega, rfl, ⟨F, HF, Lib.hid (Done.zero _ _)⟩, Lib.hid (Kpt.refl _ _)⟩
  case round =>
    obtain ⟨K, hK, rfl, ⟨F1, HF1, HD1⟩, HB1⟩ := hrel
    by_cases hK1 : K < N
    · go_wp2_with fail
      go_loopw [4] (fun i wr => ∃ I : Nat, I ≤ n K ∧ i = .int .i64 I ∧ (∃ F, Hid (Fam B la N a n c F wr) ∧ Hid (Done n F K I)) ∧ Hid (Kpt S w wr)) (fun i _ => n K - (intOf i).toNat)
      case atStart => exact ⟨0, Nat.zero_le _, rfl, ⟨F1, HF1, HD1⟩, HB1⟩
      case round =>
        obtain ⟨I, hI, rfl, ⟨F2, HF2, HD2⟩, HB2⟩ := hrel
        obtain ⟨b1, o1, e1, hc1⟩ := HF2.out.cell K hK1
        subst e1
        have hnm := HS.out.most K hK1
        by_cases hI1 : I < n K
        · obtain ⟨g, hg, hBg, hgl, hc2, hf2⟩ := own_at (HF2.out.own K hK1) hI1
          rw [hg] at hc1
          have hc2i := hc2
          have h88 := markByte_any (K : Int) (I : Int)
          have H88 := Lib.hid h88
          have hst := fun q => (HF2.out.drewN q).fill HS.out (x := mk K I) hK1 hI1 hg
          have HST := Lib.hid hst
          have HG := Lib.hid hg
          clear h88 hst hg
          go_wp2_with fail
          refine region_quiet_tail 9 (by kernel_rfl) (by kernel_rfl) ?_
          simp only [List.take_succ_cons, List.take_zero, List.drop_succ_cons, List.drop_zero]
          repeat (go_big_quiet_step ((go_at_call 58; exact quiet_same (H88.out _))))
          refine wpQuiet_nil ?_
          intro _ hw'
          obtain ⟨nq, rfl⟩ := hw'
          go_wp2_with fail
          go_roundw
          case rel => exact ⟨I + 1, by omega, by go_num, ⟨_, Lib.hid (HST.out nq), Lib.hid HD2.out.step⟩, Lib.hid ((HB2.out.drewN _).setCell (HSr.out K hK1 g (by rw [HG.out]; rfl)) _)⟩
          case measure => simp [intOf]; omega
        · obtain rfl : I = n K := by omega
          have HD3 := Lib.hid HD2.out.row
          clear HD2
          go_wp2_with fail
          go_roundw
          case rel => exact ⟨K + 1, by omega, by go_num, ⟨_, HF2, HD3⟩, HB2⟩
          case measure => simp [intOf]; omega
    · have e : N = K := by omega
      subst e
      clear hK hK1
      go_wp2_with (refine wpList_make_full _ rfl (.tmp 41) (.tmp 41) 37 rfl wr.heap.size 25 i31 (.slice none 0 0) 1 Try.underlying37 hj hy0 hy1 .i64 .i64 _ _ N rfl rfl rfl rfl ?_ ?_ (Nat.le_refl _) ?_)
      · rw [hy2]; omega
      · unfold maxLen; omega
      intro w1 hown hg1
      have hsz1 : w.heap.size ≤ wr.heap.size := HB1.out.size
      have HT1 := Lib.hid (two_start (S := S) HF1.out HD1.out.1 hown hg1 (by omega))
      have HB2 := Lib.hid (HB1.out.grown hg1 HSl.out (fun j e => by cases e))
      have HGS : Hid (¬ S wr.heap.size) := fun h => by have := HSl.out _ h; omega
      generalize wr.heap.size = Gb at *
      clear hown hg1 HF1 HD1 HB1
      go_wp2_with fail
      go_loopw [6] (fun i wr => ∃ K : Nat, K ≤ N ∧ i = .int .i64 K ∧ (∃ ga gc, Hid (Two S B la N a n c Gb K ga gc (fun k i => mk k i) wr)) ∧ Hid (Kpt S w wr)) (fun i _ => N - (intOf i).toNat)
      case atStart => exact ⟨0, Nat.zero_le _, rfl, ⟨_, _, ⟨HT1.out.fam, HT1.out.gl, fun k h => absurd h (Nat.not_lt_zero _), HT1.out.free, HT1.out.gun, HT1.out.lsg, HT1.out.lag, HT1.out.big⟩⟩, HB2⟩
      case round =>
        clear HT1 HB2
        obtain ⟨K, hK, rfl, ⟨ga, gc, HT⟩, HB3⟩ := hrel
        by_cases hK1 : K < N
        · obtain ⟨b1, o1, e1, hc1⟩ := HT.out.fam.cell K hK1
          subst e1
          have hnm := HS.out.most K hK1
          have HC := Lib.hid (Cur.mk (x := a K) (cx := c K) (I := 0) HT.out (HT.out.free_ls HS.out hK1 (HSr.out K hK1)) (HT.out.fam.own K hK1))
          go_wp2_with fail
          go_loopw [7, 8] (fun g i wr => ∃ I : Nat, I ≤ 64 ∧ i = .int .i64 I ∧ (∃ x cx, g = .slice x (n K + I) cx ∧ Hid (Cur S B (some ⟨b1, o1, none⟩) N a n c Gb K ga gc (fun k i => mk k i) x cx I wr)) ∧ Hid (Kpt S w wr)) (fun _ i _ => 64 - (intOf i).toNat)
          case atStart => exact ⟨0, Nat.zero_le _, rfl, ⟨_, _, rfl, HC⟩, HB3⟩
          case round =>
            clear HT HB3 HC hc1
            obtain ⟨I, hI, rfl, ⟨x, cx, rfl, HC⟩, HB4⟩ := hrel
            by_cases hI1 : I < 64
            · obtain ⟨b1', o1', e, hc1⟩ := HC.out.two.fam.cell K hK1
              injection e with e; injection e with e1 e2; subst e1; subst e2
              have h88 : Calls Try.prog 58 #[.int .i64 (K : Int), .int .i64 ((n K : Int) + (I : Int))] wr fun e w' => e = .returned (.int .u8 (mk K ((n K + I : Nat) : Int) : Nat)) ∧ wr = w' := markByte_any (K : Int) ((n K + I : Nat) : Int) wr
              have H88 := Lib.hid h88
              have hszr : w.heap.size ≤ wr.heap.size := HB4.out.size
              obtain ⟨mv, hmv⟩ : ∃ mv, mv = mk K ((n K + I : Nat) : Int) := ⟨_, rfl⟩
              rw [← hmv] at H88
              have HMV := Lib.hid hmv
              have HCA := Lib.hid (cur_alloc HC.out (.cells #[.int .u8 (mv : Nat)] 5))
              clear h88 hmv
              go_wp2_with fail
              refine H88.out.mono ?_
              rintro e w5 ⟨rfl, rfl⟩
              go_wp2_with (at_builtin; refine wpList_append_own3 _ rfl (.tmp 57) (.tmp 67) 25 rfl B 5 i0 (.int .u8 0) 1 Try.underlying25 hi hz0 hz1 hz2 rfl _ (n K + I) (bs (rowf (fun j => mk K j) (n K + I))) rfl HCA.out.own ⟨wr.heap.size, 0, none⟩ 1 1 [.int .u8 (mv : Nat)] rfl rfl (cell_new _ _) (one_u8 _) (by unfold maxLen; omega) (by omega) (by simp; omega) ?_)
              intro v7 w7 ho7 hg7 hb7 hk7
              rw [HMV.out] at ho7
              obtain ⟨x', cx', rfl, hC7⟩ := cur_step HCA.out hK1 (fun x hx => Nat.lt_of_lt_of_le (HSl.out x hx) (by simp; omega)) ho7 hg7 (fun g e => by simpa using hb7 g e) hk7
              have HC7 := Lib.hid hC7
              have HB7 := Lib.hid ((HB4.out.alloc HSl.out (.cells #[.int .u8 (mv : Nat)] 5)).grown hg7 HSl.out HCA.out.free.new)
              clear ho7 hg7 hb7 hk7 hC7 HCA HC
              go_wp2_with fail
              go_roundw
              case rel => exact ⟨I + 1, by omega, by go_num, ⟨_, _, rfl, HC7⟩, HB7⟩
              case measure => simp [intOf]; omega
            · obtain rfl : I = 64 := by omega
              have hsl := HC.out.two.slot hK1
              obtain ⟨⟨u, hu⟩, hfz⟩ := hsl
              have htp := HC.out.two.put hK1 HC.out.free HC.out.own
              rw [upd_id (fun k i : Nat => mk (k : Int) (i : Int)) K] at htp
              have HTP := Lib.hid htp
              clear htp
              have HB8 := Lib.hid (HB4.out.setCell (p := ⟨Gb, K, none⟩) HGS.out (.slice x (n K + 64) cx))
              go_wp2_with fail
              go_roundw
              case rel => exact ⟨K + 1, by omega, by go_num, ⟨_, _, HTP⟩, HB8⟩
              case measure => simp [intOf]; omega
        · have e : N = K := by omega
          subst e
          clear hK hK1
          have HTN := HT
          clear HT
          go_wp2_with fail
          go_loopw [9] (fun i wr => ∃ K : Nat, K ≤ N ∧ i = .int .i64 K ∧ Hid (Two S B la N a n c Gb N ga gc (fun k i => mk k i) wr) ∧ Hid (Kpt S w wr)) (fun i _ => N - (intOf i).toNat)
          case atStart => exact ⟨0, Nat.zero_le _, rfl, HTN, HB3⟩
          case round =>
            clear HTN HB3
            obtain ⟨K, hK, rfl, HT, HB4⟩ := hrel
            by_cases hK1 : K < N
            · go_wp2_with fail
              go_loopw [10] (fun i wr => ∃ I : Nat, I ≤ n K + 64 ∧ i = .int .i64 I ∧ Hid (Two S B la N a n c Gb N ga gc (fun k i => mk k i) wr) ∧ Hid (Kpt S w wr)) (fun i _ => n K + 64 - (intOf i).toNat)
              case atStart => exact ⟨0, Nat.zero_le _, rfl, HT, HB4⟩
              case round =>
                clear HT HB4
                obtain ⟨I, hI, rfl, HT, HB4⟩ := hrel
                have hc0 := HT.out.at_ hK1
                have hnm := HS.out.most K hK1
                by_cases hI1 : I < n K + 64
                · obtain ⟨b1, o1, e1, hc1⟩ := HT.out.fam.cell K hK1
                  subst e1
                  have h88 := markByte_any (K : Int) (I : Int)
                  have H88 := Lib.hid h88
                  obtain ⟨mv, hmv⟩ : ∃ mv, mv = mk (K : Int) (I : Int) := ⟨_, rfl⟩
                  obtain ⟨g, hg, hBg, hgl, hc2, hf2⟩ := own_at (HT.out.own K hK1) hI1
                  rw [← hmv] at H88 hc2
                  rw [hg] at hc0
                  have HQ := fun q => Lib.hid (HT.out.frame (w' := wr.drewN q) fun _ _ => rfl)
                  clear h88 hg hf2
                  by_cases hI2 : I < n K
                  · obtain ⟨g2, hg2, hBg2, hgl2, hc3, hf3⟩ := own_at (HT.out.fam.own K hK1) hI2
                    rw [hg2] at hc1
                    rw [← hmv] at hc3
                    clear hg2 hf3 hmv
                    go_wp2_with fail
                    go_quiet ((go_at_call 58; exact quiet_same (H88.out _)))
                    go_wp2_with fail
                    go_roundw
                    case rel => exact ⟨I + 1, by omega, by go_num, HQ _, Lib.hid (HB4.out.drewN _)⟩
                    case measure => simp [intOf]; omega
                  · clear hmv
                    go_wp2_with fail
                    go_quiet ((go_at_call 58; exact quiet_same (H88.out _)))
                    go_wp2_with fail
                    go_roundw
                    case rel => exact ⟨I + 1, by omega, by go_num, HQ _, Lib.hid (HB4.out.drewN _)⟩
                    case measure => simp [intOf]; omega
                · obtain rfl : I = n K + 64 := by omega
                  go_wp2_with fail
                  go_roundw
                  case rel => exact ⟨K + 1, by omega, by go_num, HT, HB4⟩
                  case measure => simp [intOf]; omega
            · have e : N = K := by omega
              subst e
              clear hK hK1
              have HT0 := Lib.hid HT.out.zero
              clear HT
              go_wp2_with fail
              go_loopw [11] (fun i wr => ∃ K : Nat, K ≤ N ∧ i = .int .i64 K ∧ (∃ ga gc G, Hid (Two S B la N a n c Gb K ga gc G wr) ∧ Hid (∀ k, k < K → ∀ i, i < n k → G k i = mk k i)) ∧ Hid (Kpt S w wr)) (fun i _ => N - (intOf i).toNat)
              case atStart => exact ⟨0, Nat.zero_le _, rfl, ⟨_, _, _, HT0, fun k h => absurd h (Nat.not_lt_zero _)⟩, HB4⟩
              case round =>
                clear HT0 HB4
                obtain ⟨K, hK, rfl, ⟨ga2, gc2, G, HT, HG⟩, HB5⟩ := hrel
                by_cases hK1 : K < N
                · have hszr : w.heap.size ≤ wr.heap.size := HB5.out.size
                  go_wp2_with (refine wpList_make_full _ rfl (.const (.int .i64 64)) (.const (.int .i64 64)) 25 rfl wr.heap.size 5 i0 (.int .u8 0) 1 Try.underlying25 hi hz0 hz1 .i64 .i64 _ _ 64 rfl rfl rfl rfl ?_ ?_ (Nat.le_refl _) ?_)
                  · rw [hz2]; omega
                  · unfold maxLen; omega
                  intro w1 hown hg1
                  have HFar := Lib.hid (HT.out.far (by omega))
                  have HT1 := Lib.hid (HT.out.frame (w' := w1) fun g hg => hg1.block g hg (fun e => by cases e))
                  have HB6 := Lib.hid (HB5.out.grown hg1 HSl.out (fun j e => by cases e))
                  have HX := Lib.hid (own_mono (own_rowf (own_zeros hown)) (show B ≤ _ by omega))
                  have hBX : B ≤ wr.heap.size := by omega
                  clear hown hg1 HT HB5
                  have HXS : Hid (¬ S wr.heap.size) := fun h => by have := HSl.out _ h; omega
                  generalize wr.heap.size = X at *
                  go_wp2_with fail
                  go_loopw [13] (fun i wr => ∃ I : Nat, I ≤ 64 ∧ i = .int .i64 I ∧ (∃ f, Hid (wr.ownsRow B 5 1 (.slice (some ⟨X, 0, none⟩) 64 64) 64 (bs (rowf f 64)))) ∧ Hid (Two S B la N a n c Gb K ga2 gc2 G wr) ∧ Hid (Kpt S w wr)) (fun i _ => 64 - (intOf i).toNat)
                  case atStart => exact ⟨0, Nat.zero_le _, rfl, ⟨_, HX⟩, HT1, HB6⟩
                  case round =>
                    clear HX HT1 HB6
                    obtain ⟨I, hI, rfl, ⟨f, HX⟩, HT, HB6⟩ := hrel
                    by_cases hI1 : I < 64
                    · have hw1 : IntKind.i64.wrap ((K : Int) + (N : Int)) = (K : Int) + (N : Int) := IntWalk.i64_in _ (by omega)
                      have h88 := markByte_any ((K : Int) + (N : Int)) (I : Int)
                      have H88 := Lib.hid h88
                      generalize mk ((K : Int) + (N : Int)) (I : Int) = mv at *
                      obtain ⟨g, hg, hBg, hgl, hc2, hf2⟩ := own_at HX.out hI1
                      injection hg with hg
                      injection hg with hg
                      subst hg
                      have HX2 := Lib.hid (own_put (x := mv) HX.out hI1)
                      have HT2 := Lib.hid (HT.out.write (w' := wr.setCell ⟨X, I, none⟩ (.int .u8 (mv : Nat))) HFar.out fun g hg _ => Below.heap_setCell wr ⟨X, I, none⟩ _ g hg)
                      clear h88 HX HT
                      go_wp2_with fail
                      refine (H88.out _).mono ?_
                      rintro e w5 ⟨rfl, rfl⟩
                      go_wp2_with fail
                      go_roundw
                      case rel => exact ⟨I + 1, by omega, by go_num, ⟨_, HX2⟩, HT2, Lib.hid (HB6.out.setCell HXS.out _)⟩
                      case measure => simp [intOf]; omega
                    · obtain rfl : I = 64 := by omega
                      obtain ⟨b1, o1, e1, hc1⟩ := HT.out.fam.cell K hK1
                      subst e1
                      have hsl := HT.out.slot hK1
                      have hnm := HS.out.most K hK1
                      have hszr : w.heap.size ≤ wr.heap.size := HB6.out.size
                      have hone : ∀ u ∈ bs (rowf f 64), u.oneCell' = true := fun u hu => by
                        simp only [bs, List.mem_map] at hu
                        obtain ⟨q, _, rfl⟩ := hu
                        rfl
                      go_wp2_with (at_builtin; refine wpList_append_own3 _ rfl (.tmp 148) (.tmp 149) 25 rfl B 5 i0 (.int .u8 0) 1 Try.underlying25 hi hz0 hz1 hz2 rfl _ (n K) (bs (rowf (fun j => mk K j) (n K))) rfl (HT.out.fam.own K hK1) ⟨X, 0, none⟩ 64 64 (bs (rowf f 64)) rfl (by rw [length_bs, length_rowf]) (HX.out.cells (g := X) rfl) hone (by unfold maxLen; omega) (by omega) (by omega) ?_)
                      intro v7 w7 ho7 hg7 hb7 hk7
                      obtain ⟨g7, c7, rfl⟩ := own_succ (k := n K + 63) ho7
                      have hgr := HT.out.grow hK1 (fun x hx => Nat.lt_of_lt_of_le (HSl.out x hx) hszr) (HT.out.free_ls HS.out hK1 (HSr.out K hK1)) (Nat.le_refl _) hg7 hb7 hk7
                      rw [← bs_append, rowf_app] at ho7
                      have hsl7 := hgr.1.slot hK1
                      obtain ⟨⟨u, hu⟩, hfz⟩ := hsl7
                      have HTP := Lib.hid (hgr.1.put hK1 hgr.2 ho7)
                      have HBP := Lib.hid ((HB6.out.grown hg7 HSl.out (HSr.out K hK1)).setCell (p := ⟨Gb, K, none⟩) HGS.out (.slice (some ⟨g7, 0, none⟩) (n K + 64) c7))
                      have HG7 : Hid (∀ k, k < K + 1 → ∀ i, i < n k → upd G K (fun j => if j < n K then mk K j else f (j - n K)) k i = mk k i) := fun k hk i hi => by
                        by_cases e : k = K
                        · subst e; rw [upd_same, if_pos hi]
                        · rw [upd_other _ _ e]; exact HG.out k (by omega) i hi
                      clear ho7 hg7 hb7 hk7 hgr hsl hc1 hone HX HT
                      go_wp2_with fail
                      go_roundw
                      case rel => exact ⟨K + 1, by omega, by go_num, ⟨_, _, _, HTP, HG7⟩, HBP⟩
                      case measure => simp [intOf]; omega
                · have e : N = K := by omega
                  subst e
                  clear hK hK1
                  go_wp2_with fail
                  go_loopw [14] (fun i wr => ∃ K : Nat, K ≤ N ∧ i = .int .i64 K ∧ Hid (Two S B la N a n c Gb N ga2 gc2 G wr) ∧ Hid (Kpt S w wr)) (fun i _ => N - (intOf i).toNat)
                  case atStart => exact ⟨0, Nat.zero_le _, rfl, HT, HB5⟩
                  case round =>
                    clear HT HB5
                    obtain ⟨K, hK, rfl, HT, HB4⟩ := hrel
                    by_cases hK1 : K < N
                    · go_wp2_with fail
                      go_loopw [15] (fun i wr => ∃ I : Nat, I ≤ n K ∧ i = .int .i64 I ∧ Hid (Two S B la N a n c Gb N ga2 gc2 G wr) ∧ Hid (Kpt S w wr)) (fun i _ => n K - (intOf i).toNat)
                      case atStart => exact ⟨0, Nat.zero_le _, rfl, HT, HB4⟩
                      case round =>
                        clear HT HB4
                        obtain ⟨I, hI, rfl, HT, HB4⟩ := hrel
                        have hnm := HS.out.most K hK1
                        obtain ⟨b1, o1, e1, hc1⟩ := HT.out.fam.cell K hK1
                        subst e1
                        by_cases hI1 : I < n K
                        · have hc0 := HT.out.at_ hK1
                          have h88 := markByte_any (K : Int) (I : Int)
                          have H88 := Lib.hid h88
                          have hgi := HG.out K hK1 I hI1
                          obtain ⟨mv, hmv⟩ : ∃ mv, mv = mk (K : Int) (I : Int) := ⟨_, rfl⟩
                          obtain ⟨g, hg, hBg, hgl, hc2, hf2⟩ := own_at (HT.out.own K hK1) (show I < n K + 64 by omega)
                          obtain ⟨g2, hg2, hBg2, hgl2, hc3, hf3⟩ := own_at (HT.out.fam.own K hK1) hI1
                          rw [hgi] at hc2
                          rw [← hmv] at H88 hc2 hc3
                          rw [hg] at hc0
                          rw [hg2] at hc1
                          have hI64 : I < n K + 64 := by omega
                          have HQ := fun q => Lib.hid (HT.out.frame (w' := wr.drewN q) fun _ _ => rfl)
                          clear h88 hg hf2 hg2 hf3 hmv hgi
                          go_wp2_with fail
                          go_quiet ((go_at_call 58; exact quiet_same (H88.out _)))
                          go_wp2_with fail
                          go_roundw
                          case rel => exact ⟨I + 1, by omega, by go_num, HQ _, Lib.hid (HB4.out.drewN _)⟩
                          case measure => simp [intOf]; omega
                        · obtain rfl : I = n K := by omega
                          go_wp2_with fail
                          go_roundw
                          case rel => exact ⟨K + 1, by omega, by go_num, HT, HB4⟩
                          case measure => simp [intOf]; omega
                    · have e : N = K := by omega
                      subst e
                      go_wp2_with fail
                      go_ret
                      exact ⟨rfl, HB4.out⟩
theorem info143_ : (Try.prog.info? 188).map (fun i => (i.zero, i.size, i.bytes)) = some (some (.slice none 0 0), 1, 24) := by kernel_rfl
set_option maxHeartbeats 1600000 in
set_option maxRecDepth 100000 in
theorem flat_none113 (w : World) : Calls Try.prog 91 #[.slice none 0 0] w fun e w' => e = .returned (.bool true) ∧ Below w.heap.size w w' := by
  obtain ⟨i31, hj, hy0, hy1, hy2⟩ := info_parts info143_
  go_enter Try.func91, Try.ntmps91
  go_wp2_with fail
  refine wp_loop_rounds 1 ?_
  rw [rounds_succ]
  go_wp2_with (refine wpList_make_full _ rfl (.tmp 42) (.tmp 42) 119 rfl w.heap.size 188 i31 (.slice none 0 0) 1 Try.underlying119 hj hy0 hy1 .i64 .i64 _ _ 0 rfl rfl rfl rfl ?_ ?_ (Nat.le_refl _) ?_)
  · omega
  · unfold maxLen; omega
  intro w1 hown hg1
  have HB := Lib.hid ((Below.refl w.heap.size w).grown hg1 (Nat.le_refl _) (fun j e => by cases e))
  clear hown hg1
  go_wp2_with fail
  refine wp_loop_rounds 1 ?_
  rw [rounds_succ]
  go_wp2_with fail
  refine wp_loop_rounds 1 ?_
  rw [rounds_succ]
  go_wp2_with fail
  refine wp_loop_rounds 1 ?_
  rw [rounds_succ]
  go_wp2_with fail
  refine wp_loop_rounds 1 ?_
  rw [rounds_succ]
  go_wp2_with fail
  go_ret
  exact ⟨rfl, HB.out⟩
theorem info145_ : (Try.prog.info? 190).map (fun i => (i.zero, i.size, i.bytes)) = some (some (.slice none 0 0), 1, 24) := by kernel_rfl
set_option maxHeartbeats 1600000 in
set_option maxRecDepth 100000 in
theorem flat_none114 (w : World) : Calls Try.prog 92 #[.slice none 0 0] w fun e w' => e = .returned (.bool true) ∧ Below w.heap.size w w' := by
  obtain ⟨i31, hj, hy0, hy1, hy2⟩ := info_parts info145_
  go_enter Try.func92, Try.ntmps92
  go_wp2_with fail
  refine wp_loop_rounds 1 ?_
  rw [rounds_succ]
  go_wp2_with (refine wpList_make_full _ rfl (.tmp 42) (.tmp 42) 120 rfl w.heap.size 190 i31 (.slice none 0 0) 1 Try.underlying120 hj hy0 hy1 .i64 .i64 _ _ 0 rfl rfl rfl rfl ?_ ?_ (Nat.le_refl _) ?_)
  · omega
  · unfold maxLen; omega
  intro w1 hown hg1
  have HB := Lib.hid ((Below.refl w.heap.size w).grown hg1 (Nat.le_refl _) (fun j e => by cases e))
  clear hown hg1
  go_wp2_with fail
  refine wp_loop_rounds 1 ?_
  rw [rounds_succ]
  go_wp2_with fail
  refine wp_loop_rounds 1 ?_
  rw [rounds_succ]
  go_wp2_with fail
  refine wp_loop_rounds 1 ?_
  rw [rounds_succ]
  go_wp2_with fail
  refine wp_loop_rounds 1 ?_
  rw [rounds_succ]
  go_wp2_with fail
  go_ret
  exact ⟨rfl, HB.out⟩
theorem info41_ : (Try.prog.info? 52).map (fun i => (i.zero, i.size, i.bytes)) = some (some (.slice none 0 0), 1, 24) := by kernel_rfl
set_option maxHeartbeats 1600000 in
set_option maxRecDepth 100000 in
theorem flat_none115 (w : World) : Calls Try.prog 93 #[.slice none 0 0] w fun e w' => e = .returned (.bool true) ∧ Below w.heap.size w w' := by
  obtain ⟨i31, hj, hy0, hy1, hy2⟩ := info_parts info41_
  go_enter Try.func93, Try.ntmps93
  go_wp2_with fail
  refine wp_loop_rounds 1 ?_
  rw [rounds_succ]
  go_wp2_with (refine wpList_make_full _ rfl (.tmp 41) (.tmp 41) 121 rfl w.heap.size 52 i31 (.slice none 0 0) 1 Try.underlying121 hj hy0 hy1 .i64 .i64 _ _ 0 rfl rfl rfl rfl ?_ ?_ (Nat.le_refl _) ?_)
  · omega
  · unfold maxLen; omega
  intro w1 hown hg1
  have HB := Lib.hid ((Below.refl w.heap.size w).grown hg1 (Nat.le_refl _) (fun j e => by cases e))
  clear hown hg1
  go_wp2_with fail
  refine wp_loop_rounds 1 ?_
  rw [rounds_succ]
  go_wp2_with fail
  refine wp_loop_rounds 1 ?_
  rw [rounds_succ]
  go_wp2_with fail
  refine wp_loop_rounds 1 ?_
  rw [rounds_succ]
  go_wp2_with fail
  refine wp_loop_rounds 1 ?_
  rw [rounds_succ]
  go_wp2_with fail
  go_ret
  exact ⟨rfl, HB.out⟩
theorem info146_ : (Try.prog.info? 191).map (fun i => (i.zero, i.size, i.bytes)) = some (some (.slice none 0 0), 1, 24) := by kernel_rfl
set_option maxHeartbeats 1600000 in
set_option maxRecDepth 100000 in
theorem flat_none116 (w : World) : Calls Try.prog 94 #[.slice none 0 0] w fun e w' => e = .returned (.bool true) ∧ Below w.heap.size w w' := by
  obtain ⟨i31, hj, hy0, hy1, hy2⟩ := info_parts info146_
  go_enter Try.func94, Try.ntmps94
  go_wp2_with fail
  refine wp_loop_rounds 1 ?_
  rw [rounds_succ]
  go_wp2_with (refine wpList_make_full _ rfl (.tmp 41) (.tmp 41) 122 rfl w.heap.size 191 i31 (.slice none 0 0) 1 Try.underlying122 hj hy0 hy1 .i64 .i64 _ _ 0 rfl rfl rfl rfl ?_ ?_ (Nat.le_refl _) ?_)
  · omega
  · unfold maxLen; omega
  intro w1 hown hg1
  have HB := Lib.hid ((Below.refl w.heap.size w).grown hg1 (Nat.le_refl _) (fun j e => by cases e))
  clear hown hg1
  go_wp2_with fail
  refine wp_loop_rounds 1 ?_
  rw [rounds_succ]
  go_wp2_with fail
  refine wp_loop_rounds 1 ?_
  rw [rounds_succ]
  go_wp2_with fail
  refine wp_loop_rounds 1 ?_
  rw [rounds_succ]
  go_wp2_with fail
  refine wp_loop_rounds 1 ?_
  rw [rounds_succ]
  go_wp2_with fail
  go_ret
  exact ⟨rfl, HB.out⟩
theorem info147_ : (Try.prog.info? 192).map (fun i => (i.zero, i.size, i.bytes)) = some (some (.slice none 0 0), 1, 24) := by kernel_rfl
set_option maxHeartbeats 1600000 in
set_option maxRecDepth 100000 in
theorem flat_none117 (w : World) : Calls Try.prog 95 #[.slice none 0 0] w fun e w' => e = .returned (.bool true) ∧ Below w.heap.size w w' := by
  obtain ⟨i31, hj, hy0, hy1, hy2⟩ := info_parts info147_
  go_enter Try.func95, Try.ntmps95
  go_wp2_with fail
  refine wp_loop_rounds 1 ?_
  rw [rounds_succ]
  go_wp2_with (refine wpList_make_full _ rfl (.tmp 41) (.tmp 41) 123 rfl w.heap.size 192 i31 (.slice none 0 0) 1 Try.underlying123 hj hy0 hy1 .i64 .i64 _ _ 0 rfl rfl rfl rfl ?_ ?_ (Nat.le_refl _) ?_)
  · omega
  · unfold maxLen; omega
  intro w1 hown hg1
  have HB := Lib.hid ((Below.refl w.heap.size w).grown hg1 (Nat.le_refl _) (fun j e => by cases e))
  clear hown hg1
  go_wp2_with fail
  refine wp_loop_rounds 1 ?_
  rw [rounds_succ]
  go_wp2_with fail
  refine wp_loop_rounds 1 ?_
  rw [rounds_succ]
  go_wp2_with fail
  refine wp_loop_rounds 1 ?_
  rw [rounds_succ]
  go_wp2_with fail
  refine wp_loop_rounds 1 ?_
  rw [rounds_succ]
  go_wp2_with fail
  go_ret
  exact ⟨rfl, HB.out⟩
theorem info149_ : (Try.prog.info? 67).map (fun i => (i.zero, i.size, i.bytes)) = some (some (.slice none 0 0), 1, 24) := by kernel_rfl
set_option maxHeartbeats 1600000 in
set_option maxRecDepth 100000 in
theorem flat_none119 (w : World) : Calls Try.prog 97 #[.slice none 0 0] w fun e w' => e = .returned (.bool true) ∧ Below w.heap.size w w' := by
  obtain ⟨i31, hj, hy0, hy1, hy2⟩ := info_parts info149_
  go_enter Try.func97, Try.ntmps97
  go_wp2_with fail
  refine wp_loop_rounds 1 ?_
  rw [rounds_succ]
  go_wp2_with (refine wpList_make_full _ rfl (.tmp 43) (.tmp 43) 124 rfl w.heap.size 67 i31 (.slice none 0 0) 1 Try.underlying124 hj hy0 hy1 .i64 .i64 _ _ 0 rfl rfl rfl rfl ?_ ?_ (Nat.le_refl _) ?_)
  · omega
  · unfold maxLen; omega
  intro w1 hown hg1
  have HB := Lib.hid ((Below.refl w.heap.size w).grown hg1 (Nat.le_refl _) (fun j e => by cases e))
  clear hown hg1
  go_wp2_with fail
  refine wp_loop_rounds 1 ?_
  rw [rounds_succ]
  go_wp2_with fail
  refine wp_loop_rounds 1 ?_
  rw [rounds_succ]
  go_wp2_with fail
  refine wp_loop_rounds 1 ?_
  rw [rounds_succ]
  go_wp2_with fail
  refine wp_loop_rounds 1 ?_
  rw [rounds_succ]
  go_wp2_with fail
  go_ret
  exact ⟨rfl, HB.out⟩
theorem info150_ : (Try.prog.info? 194).map (fun i => (i.zero, i.size, i.bytes)) = some (some (.slice none 0 0), 1, 24) := by kernel_rfl
set_option maxHeartbeats 1600000 in
set_option maxRecDepth 100000 in
theorem flat_none120 (w : World) : Calls Try.prog 98 #[.slice none 0 0] w fun e w' => e = .returned (.bool true) ∧ Below w.heap.size w w' := by
  obtain ⟨i31, hj, hy0, hy1, hy2⟩ := info_parts info150_
  go_enter Try.func98, Try.ntmps98
  go_wp2_with fail
  refine wp_loop_rounds 1 ?_
  rw [rounds_succ]
  go_wp2_with (refine wpList_make_full _ rfl (.tmp 41) (.tmp 41) 125 rfl w.heap.size 194 i31 (.slice none 0 0) 1 Try.underlying125 hj hy0 hy1 .i64 .i64 _ _ 0 rfl rfl rfl rfl ?_ ?_ (Nat.le_refl _) ?_)
  · omega
  · unfold maxLen; omega
  intro w1 hown hg1
  have HB := Lib.hid ((Below.refl w.heap.size w).grown hg1 (Nat.le_refl _) (fun j e => by cases e))
  clear hown hg1
  go_wp2_with fail
  refine wp_loop_rounds 1 ?_
  rw [rounds_succ]
  go_wp2_with fail
  refine wp_loop_rounds 1 ?_
  rw [rounds_succ]
  go_wp2_with fail
  refine wp_loop_rounds 1 ?_
  rw [rounds_succ]
  go_wp2_with fail
  refine wp_loop_rounds 1 ?_
  rw [rounds_succ]
  go_wp2_with fail
  go_ret
  exact ⟨rfl, HB.out⟩
theorem info155_ : (Try.prog.info? 199).map (fun i => (i.zero, i.size, i.bytes)) = some (some (.slice none 0 0), 1, 24) := by kernel_rfl
set_option maxHeartbeats 1600000 in
set_option maxRecDepth 100000 in
theorem flat_none121 (w : World) : Calls Try.prog 99 #[.slice none 0 0] w fun e w' => e = .returned (.bool true) ∧ Below w.heap.size w w' := by
  obtain ⟨i31, hj, hy0, hy1, hy2⟩ := info_parts info155_
  go_enter Try.func99, Try.ntmps99
  go_wp2_with fail
  refine wp_loop_rounds 1 ?_
  rw [rounds_succ]
  go_wp2_with (refine wpList_make_full _ rfl (.tmp 41) (.tmp 41) 126 rfl w.heap.size 199 i31 (.slice none 0 0) 1 Try.underlying126 hj hy0 hy1 .i64 .i64 _ _ 0 rfl rfl rfl rfl ?_ ?_ (Nat.le_refl _) ?_)
  · omega
  · unfold maxLen; omega
  intro w1 hown hg1
  have HB := Lib.hid ((Below.refl w.heap.size w).grown hg1 (Nat.le_refl _) (fun j e => by cases e))
  clear hown hg1
  go_wp2_with fail
  refine wp_loop_rounds 1 ?_
  rw [rounds_succ]
  go_wp2_with fail
  refine wp_loop_rounds 1 ?_
  rw [rounds_succ]
  go_wp2_with fail
  refine wp_loop_rounds 1 ?_
  rw [rounds_succ]
  go_wp2_with fail
  refine wp_loop_rounds 1 ?_
  rw [rounds_succ]
  go_wp2_with fail
  go_ret
  exact ⟨rfl, HB.out⟩
theorem info159_ : (Try.prog.info? 203).map (fun i => (i.zero, i.size, i.bytes)) = some (some (.slice none 0 0), 1, 24) := by kernel_rfl
set_option maxHeartbeats 1600000 in
set_option maxRecDepth 100000 in
theorem flat_none122 (w : World) : Calls Try.prog 100 #[.slice none 0 0] w fun e w' => e = .returned (.bool true) ∧ Below w.heap.size w w' := by
  obtain ⟨i31, hj, hy0, hy1, hy2⟩ := info_parts info159_
  go_enter Try.func100, Try.ntmps100
  go_wp2_with fail
  refine wp_loop_rounds 1 ?_
  rw [rounds_succ]
  go_wp2_with (refine wpList_make_full _ rfl (.tmp 41) (.tmp 41) 127 rfl w.heap.size 203 i31 (.slice none 0 0) 1 Try.underlying127 hj hy0 hy1 .i64 .i64 _ _ 0 rfl rfl rfl rfl ?_ ?_ (Nat.le_refl _) ?_)
  · omega
  · unfold maxLen; omega
  intro w1 hown hg1
  have HB := Lib.hid ((Below.refl w.heap.size w).grown hg1 (Nat.le_refl _) (fun j e => by cases e))
  clear hown hg1
  go_wp2_with fail
  refine wp_loop_rounds 1 ?_
  rw [rounds_succ]
  go_wp2_with fail
  refine wp_loop_rounds 1 ?_
  rw [rounds_succ]
  go_wp2_with fail
  refine wp_loop_rounds 1 ?_
  rw [rounds_succ]
  go_wp2_with fail
  refine wp_loop_rounds 1 ?_
  rw [rounds_succ]
  go_wp2_with fail
  go_ret
  exact ⟨rfl, HB.out⟩
theorem info164_ : (Try.prog.info? 208).map (fun i => (i.zero, i.size, i.bytes)) = some (some (.slice none 0 0), 1, 24) := by kernel_rfl
set_option maxHeartbeats 1600000 in
set_option maxRecDepth 100000 in
theorem flat_none123 (w : World) : Calls Try.prog 101 #[.slice none 0 0] w fun e w' => e = .returned (.bool true) ∧ Below w.heap.size w w' := by
  obtain ⟨i31, hj, hy0, hy1, hy2⟩ := info_parts info164_
  go_enter Try.func101, Try.ntmps101
  go_wp2_with fail
  refine wp_loop_rounds 1 ?_
  rw [rounds_succ]
  go_wp2_with (refine wpList_make_full _ rfl (.tmp 41) (.tmp 41) 128 rfl w.heap.size 208 i31 (.slice none 0 0) 1 Try.underlying128 hj hy0 hy1 .i64 .i64 _ _ 0 rfl rfl rfl rfl ?_ ?_ (Nat.le_refl _) ?_)
  · omega
  · unfold maxLen; omega
  intro w1 hown hg1
  have HB := Lib.hid ((Below.refl w.heap.size w).grown hg1 (Nat.le_refl _) (fun j e => by cases e))
  clear hown hg1
  go_wp2_with fail
  refine wp_loop_rounds 1 ?_
  rw [rounds_succ]
  go_wp2_with fail
  refine wp_loop_rounds 1 ?_
  rw [rounds_succ]
  go_wp2_with fail
  refine wp_loop_rounds 1 ?_
  rw [rounds_succ]
  go_wp2_with fail
  refine wp_loop_rounds 1 ?_
  rw [rounds_succ]
  go_wp2_with fail
  go_ret
  exact ⟨rfl, HB.out⟩
theorem info168_ : (Try.prog.info? 212).map (fun i => (i.zero, i.size, i.bytes)) = some (some (.slice none 0 0), 1, 24) := by kernel_rfl
set_option maxHeartbeats 1600000 in
set_option maxRecDepth 100000 in
theorem flat_none124 (w : World) : Calls Try.prog 102 #[.slice none 0 0] w fun e w' => e = .returned (.bool true) ∧ Below w.heap.size w w' := by
  obtain ⟨i31, hj, hy0, hy1, hy2⟩ := info_parts info168_
  go_enter Try.func102, Try.ntmps102
  go_wp2_with fail
  refine wp_loop_rounds 1 ?_
  rw [rounds_succ]
  go_wp2_with (refine wpList_make_full _ rfl (.tmp 41) (.tmp 41) 129 rfl w.heap.size 212 i31 (.slice none 0 0) 1 Try.underlying129 hj hy0 hy1 .i64 .i64 _ _ 0 rfl rfl rfl rfl ?_ ?_ (Nat.le_refl _) ?_)
  · omega
  · unfold maxLen; omega
  intro w1 hown hg1
  have HB := Lib.hid ((Below.refl w.heap.size w).grown hg1 (Nat.le_refl _) (fun j e => by cases e))
  clear hown hg1
  go_wp2_with fail
  refine wp_loop_rounds 1 ?_
  rw [rounds_succ]
  go_wp2_with fail
  refine wp_loop_rounds 1 ?_
  rw [rounds_succ]
  go_wp2_with fail
  refine wp_loop_rounds 1 ?_
  rw [rounds_succ]
  go_wp2_with fail
  refine wp_loop_rounds 1 ?_
  rw [rounds_succ]
  go_wp2_with fail
  go_ret
  exact ⟨rfl, HB.out⟩
theorem info173_ : (Try.prog.info? 46).map (fun i => (i.zero, i.size, i.bytes)) = some (some (.slice none 0 0), 1, 24) := by kernel_rfl
set_option maxHeartbeats 1600000 in
set_option maxRecDepth 100000 in
theorem flat_none125 (w : World) : Calls Try.prog 103 #[.slice none 0 0] w fun e w' => e = .returned (.bool true) ∧ Below w.heap.size w w' := by
  obtain ⟨i31, hj, hy0, hy1, hy2⟩ := info_parts info173_
  go_enter Try.func103, Try.ntmps103
  go_wp2_with fail
  refine wp_loop_rounds 1 ?_
  rw [rounds_succ]
  go_wp2_with (refine wpList_make_full _ rfl (.tmp 41) (.tmp 41) 130 rfl w.heap.size 46 i31 (.slice none 0 0) 1 Try.underlying130 hj hy0 hy1 .i64 .i64 _ _ 0 rfl rfl rfl rfl ?_ ?_ (Nat.le_refl _) ?_)
  · omega
  · unfold maxLen; omega
  intro w1 hown hg1
  have HB := Lib.hid ((Below.refl w.heap.size w).grown hg1 (Nat.le_refl _) (fun j e => by cases e))
  clear hown hg1
  go_wp2_with fail
  refine wp_loop_rounds 1 ?_
  rw [rounds_succ]
  go_wp2_with fail
  refine wp_loop_rounds 1 ?_
  rw [rounds_succ]
  go_wp2_with fail
  refine wp_loop_rounds 1 ?_
  rw [rounds_succ]
  go_wp2_with fail
  refine wp_loop_rounds 1 ?_
  rw [rounds_succ]
  go_wp2_with fail
  go_ret
  exact ⟨rfl, HB.out⟩
/- The walk of the bag's question: are all its lists apart. -/
theorem Kpt.below {S : Nat → Prop} {w w' w2 : World} (h : Kpt S w w') (hl : ∀ k, S k → k < w.heap.size) (hb : Below w'.heap.size w' w2) : Kpt S w w2 :=
  h.then (hb.mono (Nat.zero_le _)) fun k hk => hb.block k (Nat.lt_of_lt_of_le (hl k hk) h.size)
theorem Kpt.trans {S : Nat → Prop} {w w' w2 : World} (h : Kpt S w w') (h2 : Kpt S w' w2) : Kpt S w w2 :=
  ⟨h2.os.trans h.os, h2.tape.trans h.tape, h2.output.trans h.output, Nat.le_trans h.size h2.size, fun k hk => (h2.block k hk).trans (h.block k hk)⟩
/-- A bag that holds lists of bytes alone. -/
structure Bag (Bg : Nat) (la : Option Addr) (N C : Nat) (w : World) : Prop where
  nil : ∀ k, k < 13 → k ≠ 5 → w.cell? ⟨Bg, k, none⟩ = some (.slice none 0 0)
  five : w.cell? ⟨Bg, 5, none⟩ = some (.slice la N C)
theorem Bag.keep {Bg : Nat} {la : Option Addr} {N C : Nat} {w w' : World} (h : Bag Bg la N C w) (hk : w'.heap[Bg]? = w.heap[Bg]?) : Bag Bg la N C w' :=
  ⟨fun k h1 h2 => (World.cell?_of_block (a := ⟨Bg, k, none⟩) hk).trans (h.nil k h1 h2), (World.cell?_of_block (a := ⟨Bg, 5, none⟩) hk).trans h.five⟩
theorem Bag.below {Bg : Nat} {la : Option Addr} {N C : Nat} {w w' : World} (h : Bag Bg la N C w) (hB : Below w.heap.size w w') : Bag Bg la N C w' :=
  h.keep (hB.block Bg (block_lt_of_cell h.five))
set_option maxHeartbeats 3200000 in
set_option maxRecDepth 100000 in
theorem apart_97 {S : Nat → Prop} {w : World} {B Bg C : Nat} {la : Option Addr} {N : Nat} {a : Nat → Option Addr} {n c : Nat → Nat} {F : Nat → Nat → Nat} (hB : B ≤ w.heap.size) (hS : Sep la N a n c) (hF : Fam B la N a n c F w) (hSl : ∀ x, S x → x < w.heap.size) (hSr : ∀ k, k < N → ∀ x, (Value.slice (a k) (n k) (c k)).ownBlock = some x → ¬ S x) (hbag : Bag Bg la N C w) (hSb : S Bg) :
    Calls Try.prog 65 #[.pointer (some ⟨Bg, 0, none⟩)] w fun e w' => e = .returned (.bool true) ∧ Kpt S w w' := by
  have HS := Lib.hid hS
  have HF0 := Lib.hid hF
  have HSl := Lib.hid hSl
  have HSr := Lib.hid hSr
  have HSb := Lib.hid hSb
  have HB0 := Lib.hid hbag
  have HK0 := Lib.hid (Kpt.refl S w)
  clear hS hF hSl hSr hSb hbag
  go_enter Try.func65, Try.ntmps65
  have k0 := HB0.out.nil 0 (by decide) (by decide)
  go_wp2_with fail
  refine (flat_none113 _).mono ?_
  rintro e w1 ⟨rfl, hb⟩
  have HB1 := Lib.hid (HB0.out.below hb)
  have HK1 := Lib.hid (HK0.out.below HSl.out hb)
  have HF1 := Lib.hid (HF0.out.frame fun g hg => ⟨fun _ _ _ _ => hb.block g hg, fun _ _ _ => hb.block g hg⟩)
  clear hb k0 HB0 HK0 HF0
  have HB0 := HB1
  have HK0 := HK1
  have HF0 := HF1
  clear HB1 HK1 HF1
  have k1 := HB0.out.nil 1 (by decide) (by decide)
  go_wp2_with fail
  refine (flat_none114 _).mono ?_
  rintro e w2 ⟨rfl, hb⟩
  have HB1 := Lib.hid (HB0.out.below hb)
  have HK1 := Lib.hid (HK0.out.below HSl.out hb)
  have HF1 := Lib.hid (HF0.out.frame fun g hg => ⟨fun _ _ _ _ => hb.block g hg, fun _ _ _ => hb.block g hg⟩)
  clear hb k1 HB0 HK0 HF0
  have HB0 := HB1
  have HK0 := HK1
  have HF0 := HF1
  clear HB1 HK1 HF1
  have k2 := HB0.out.nil 2 (by decide) (by decide)
  go_wp2_with fail
  refine (flat_none115 _).mono ?_
  rintro e w3 ⟨rfl, hb⟩
  have HB1 := Lib.hid (HB0.out.below hb)
  have HK1 := Lib.hid (HK0.out.below HSl.out hb)
  have HF1 := Lib.hid (HF0.out.frame fun g hg => ⟨fun _ _ _ _ => hb.block g hg, fun _ _ _ => hb.block g hg⟩)
  clear hb k2 HB0 HK0 HF0
  have HB0 := HB1
  have HK0 := HK1
  have HF0 := HF1
  clear HB1 HK1 HF1
  have k3 := HB0.out.nil 3 (by decide) (by decide)
  go_wp2_with fail
  refine (flat_none116 _).mono ?_
  rintro e w4 ⟨rfl, hb⟩
  have HB1 := Lib.hid (HB0.out.below hb)
  have HK1 := Lib.hid (HK0.out.below HSl.out hb)
  have HF1 := Lib.hid (HF0.out.frame fun g hg => ⟨fun _ _ _ _ => hb.block g hg, fun _ _ _ => hb.block g hg⟩)
  clear hb k3 HB0 HK0 HF0
  have HB0 := HB1
  have HK0 := HK1
  have HF0 := HF1
  clear HB1 HK1 HF1
  have k4 := HB0.out.nil 4 (by decide) (by decide)
  go_wp2_with fail
  refine (flat_none117 _).mono ?_
  rintro e w5 ⟨rfl, hb⟩
  have HB1 := Lib.hid (HB0.out.below hb)
  have HK1 := Lib.hid (HK0.out.below HSl.out hb)
  have HF1 := Lib.hid (HF0.out.frame fun g hg => ⟨fun _ _ _ _ => hb.block g hg, fun _ _ _ => hb.block g hg⟩)
  clear hb k4 HB0 HK0 HF0
  have HB0 := HB1
  have HK0 := HK1
  have HF0 := HF1
  clear HB1 HK1 HF1
  have k5 := HB0.out.five
  have hs5 : w.heap.size ≤ w5.heap.size := HK0.out.size
  go_wp2_with fail
  refine (flat_bytes (S := S) (w := w5) (by omega) HS.out HF0.out (fun x hx => Nat.lt_of_lt_of_le (HSl.out x hx) hs5) HSr.out).mono ?_
  rintro e w6 ⟨rfl, hb⟩
  have HB1 := Lib.hid (HB0.out.keep (hb.block Bg HSb.out))
  have HK1 := Lib.hid (HK0.out.trans hb)
  clear hb k5 HB0 HK0 HF0 hs5
  have HB0 := HB1
  have HK0 := HK1
  clear HB1 HK1
  have k6 := HB0.out.nil 6 (by decide) (by decide)
  go_wp2_with fail
  refine (flat_none119 _).mono ?_
  rintro e w7 ⟨rfl, hb⟩
  have HB1 := Lib.hid (HB0.out.below hb)
  have HK1 := Lib.hid (HK0.out.below HSl.out hb)
  clear hb k6 HB0 HK0
  have HB0 := HB1
  have HK0 := HK1
  clear HB1 HK1
  have k7 := HB0.out.nil 7 (by decide) (by decide)
  go_wp2_with fail
  refine (flat_none120 _).mono ?_
  rintro e w8 ⟨rfl, hb⟩
  have HB1 := Lib.hid (HB0.out.below hb)
  have HK1 := Lib.hid (HK0.out.below HSl.out hb)
  clear hb k7 HB0 HK0
  have HB0 := HB1
  have HK0 := HK1
  clear HB1 HK1
  have k8 := HB0.out.nil 8 (by decide) (by decide)
  go_wp2_with fail
  refine (flat_none121 _).mono ?_
  rintro e w9 ⟨rfl, hb⟩
  have HB1 := Lib.hid (HB0.out.below hb)
  have HK1 := Lib.hid (HK0.out.below HSl.out hb)
  clear hb k8 HB0 HK0
  have HB0 := HB1
  have HK0 := HK1
  clear HB1 HK1
  have k9 := HB0.out.nil 9 (by decide) (by decide)
  go_wp2_with fail
  refine (flat_none122 _).mono ?_
  rintro e w10 ⟨rfl, hb⟩
  have HB1 := Lib.hid (HB0.out.below hb)
  have HK1 := Lib.hid (HK0.out.below HSl.out hb)
  clear hb k9 HB0 HK0
  have HB0 := HB1
  have HK0 := HK1
  clear HB1 HK1
  have k10 := HB0.out.nil 10 (by decide) (by decide)
  go_wp2_with fail
  refine (flat_none123 _).mono ?_
  rintro e w11 ⟨rfl, hb⟩
  have HB1 := Lib.hid (HB0.out.below hb)
  have HK1 := Lib.hid (HK0.out.below HSl.out hb)
  clear hb k10 HB0 HK0
  have HB0 := HB1
  have HK0 := HK1
  clear HB1 HK1
  have k11 := HB0.out.nil 11 (by decide) (by decide)
  go_wp2_with fail
  refine (flat_none124 _).mono ?_
  rintro e w12 ⟨rfl, hb⟩
  have HB1 := Lib.hid (HB0.out.below hb)
  have HK1 := Lib.hid (HK0.out.below HSl.out hb)
  clear hb k11 HB0 HK0
  have HB0 := HB1
  have HK0 := HK1
  clear HB1 HK1
  have k12 := HB0.out.nil 12 (by decide) (by decide)
  go_wp2_with fail
  refine (flat_none125 _).mono ?_
  rintro e w13 ⟨rfl, hb⟩
  have HB1 := Lib.hid (HB0.out.below hb)
  have HK1 := Lib.hid (HK0.out.below HSl.out hb)
  clear hb k12 HB0 HK0
  have HB0 := HB1
  have HK0 := HK1
  clear HB1 HK1
  go_wp2_with fail
  go_ret
  exact ⟨rfl, HK0.out⟩
/- The walk of ApartBytes: rows that are apart answer true. -/
def bagc (x : Value) : Array Value := #[.slice none 0 0, .slice none 0 0, .slice none 0 0, .slice none 0 0, .slice none 0 0, x, .slice none 0 0, .slice none 0 0, .slice none 0 0, .slice none 0 0, .slice none 0 0, .slice none 0 0, .slice none 0 0]
theorem cell_new31 (w : World) (v : Value) : ∀ j u, [v][j]? = some u → (w.alloc (.cells #[v] 25)).cell? ((⟨w.heap.size, 0, none⟩ : Addr).add j) = some u := by
  intro j u hu
  match j, hu with
  | 0, hu => simp at hu; subst hu; exact (cell_of_block (heap_alloc_new _ _)).trans rfl
theorem one_sl (a : Option Addr) (n c : Nat) : ∀ u ∈ [Value.slice a n c], u.oneCell' = true := by intro u hu; simp at hu; subst hu; rfl
set_option maxHeartbeats 3200000 in
set_option maxRecDepth 100000 in
theorem put_bytes {w : World} {Bg k bc n c : Nat} {ba a : Option Addr} {vs : List Value} (hb : w.heap[Bg]? = some (.cells (bagc (.slice ba k bc)) 132 (0, 0))) (ho : w.ownsRow (Bg + 1) 25 1 (.slice ba k bc) k vs) (hk : k ≤ 1000000) :
    Calls Try.prog 64 #[.pointer (some ⟨Bg, 0, none⟩), .slice a n c] w fun e w' => (∃ v, e = .returned v) ∧ ∃ ba' bc', Hid (w'.heap[Bg]? = some (.cells (bagc (.slice ba' (k + 1) bc')) 132 (0, 0))) ∧ Hid (w'.ownsRow (Bg + 1) 25 1 (.slice ba' (k + 1) bc') (k + 1) (vs ++ [.slice a n c])) ∧ Hid (Below Bg w w') := by
  obtain ⟨i31, hj, hy0, hy1, hy2⟩ := info_parts info31
  have hlt := lt_of_block hb
  have c5 : w.cell? ⟨Bg, 5, none⟩ = some (.slice ba k bc) := (cell_of_block hb).trans rfl
  have HO := Lib.hid (own_frame (w' := w.alloc (.cells #[.slice a n c] 25)) ho fun g _ hg => Below.heap_alloc w _ g hg)
  have HB := Lib.hid ((Below.heap_alloc w (.cells #[.slice a n c] 25) Bg hlt).trans hb)
  clear ho hb
  go_enter Try.func64, Try.ntmps64
  go_wp2_with (at_builtin; refine wpList_append_own3 _ rfl (.tmp 8) (.tmp 10) 37 rfl (Bg + 1) 25 i31 (.slice none 0 0) 24 Try.underlying37 hj hy0 hy1 hy2 rfl _ k vs rfl HO.out ⟨w.heap.size, 0, none⟩ 1 1 [.slice a n c] rfl rfl (cell_new31 _ _) (one_sl _ _ _) (by unfold maxLen; omega) (by omega) (by simp; omega) ?_)
  intro v7 w7 ho7 hg7 hb7 hk7
  obtain ⟨g7, c7, rfl⟩ := own_succ ho7
  have hbl := (hg7.block Bg (by simp; omega) (fun e => by have := (own_lt HO.out e.symm).1; omega)).trans HB.out
  have hfz : w7.frozen? ⟨Bg, 5, none⟩ = false := frozen_of_block hbl
  have c57 : w7.cell? ⟨Bg, 5, none⟩ = some (.slice ba k bc) := (cell_of_block hbl).trans rfl
  have HN := Lib.hid (heap_setCell_same w7 Bg 5 _ 132 (.slice (some ⟨g7, 0, none⟩) (k + 1) c7) hbl)
  have HO7 := Lib.hid (ownsRow_setCell_below (a := ⟨Bg, 5, none⟩) ho7 (Nat.lt_succ_self Bg) (.slice (some ⟨g7, 0, none⟩) (k + 1) c7))
  have HB7 := Lib.hid ((((Below.refl Bg w).alloc (by omega) (.cells #[.slice a n c] 25)).grown hg7 (by simp; omega) (fun g e => by have := (own_lt HO.out e).1; omega)).setCell (p := ⟨Bg, 5, none⟩) (Nat.le_refl _) (.slice (some ⟨g7, 0, none⟩) (k + 1) c7))
  clear ho7 hg7 hb7 hk7 hbl
  go_wp2_with fail
  go_end0
  exact ⟨⟨_, rfl⟩, _, _, HN, HO7, HB7⟩
/-- What a list of rows may keep. -/
def Old (w : World) (N : Nat) (a : Nat → Option Addr) (n c : Nat → Nat) (x : Nat) : Prop := x < w.heap.size ∧ ∀ k, k < N → (Value.slice (a k) (n k) (c k)).ownBlock ≠ some x
def rowsOf (a : Nat → Option Addr) (n c : Nat → Nat) (k : Nat) : List Value := (List.range k).map fun i => .slice (a i) (n i) (c i)
theorem rowsOf_succ (a : Nat → Option Addr) (n c : Nat → Nat) (k : Nat) : rowsOf a n c (k + 1) = rowsOf a n c k ++ [.slice (a k) (n k) (c k)] := by unfold rowsOf; rw [List.range_succ, List.map_append]; rfl
theorem bag_of {w : World} {Bg N C : Nat} {la : Option Addr} (h : w.heap[Bg]? = some (.cells (bagc (.slice la N C)) 132 (0, 0))) : Bag Bg la N C w where
  nil k h1 h2 := by
    rw [cell_of_block h]
    rcases k with _ | _ | _ | _ | _ | _ | _ | _ | _ | _ | _ | _ | _ | k
    all_goals first | rfl | exact absurd rfl h2 | omega
  five := (cell_of_block h).trans rfl
theorem fam_list {w w' : World} {B Bg N C : Nat} {la lb : Option Addr} {a : Nat → Option Addr} {n c : Nat → Nat} {F : Nat → Nat → Nat} (hF : Fam B la N a n c F w) (hk : ∀ g, g < w.heap.size → w'.heap[g]? = w.heap[g]?) (ho : w'.ownsRow (Bg + 1) 25 1 (.slice lb N C) N (rowsOf a n c N)) : Fam B lb N a n c F w' where
  cell k hlt := by
    rcases ho.2 with ⟨_, h2⟩ | ⟨g, cap, cur, e, _⟩
    · omega
    · injection e with e1 e2 e3
      subst e1
      have := ho.cells (g := g) rfl k (.slice (a k) (n k) (c k)) (by simp [rowsOf, hlt])
      exact ⟨g, 0, rfl, by rwa [Addr.add_lit] at this⟩
  own k hlt := own_frame (hF.own k hlt) fun g _ hl => hk g hl
set_option maxHeartbeats 3200000 in
set_option maxRecDepth 100000 in
theorem apart_bytes {w : World} {B C : Nat} {la : Option Addr} {N : Nat} {a : Nat → Option Addr} {n c : Nat → Nat} {F : Nat → Nat → Nat} (hB : B ≤ w.heap.size) (hS : Sep la N a n c) (hF : Fam B la N a n c F w) :
    Calls Try.prog 22 #[.slice la N C] w fun e w' => e = .returned (.bool true) ∧ Kpt (Old w N a n c) w w' := by
  have HS := Lib.hid hS
  have HF := Lib.hid hF
  have hNm := hS.count
  clear hS hF
  go_enter Try.func22, Try.ntmps22
  go_wp2_with fail
  go_loopw [4] (fun i wr => ∃ K : Nat, K ≤ N ∧ i = .int .i64 K ∧ (∃ ba bc, Hid (wr.heap[w.heap.size]? = some (.cells (bagc (.slice ba K bc)) 132 (0, 0))) ∧ Hid (wr.ownsRow (w.heap.size + 1) 25 1 (.slice ba K bc) K (rowsOf a n c K))) ∧ Hid (Below w.heap.size w wr)) (fun i _ => N - (intOf i).toNat)
  case atStart => exact ⟨0, Nat.zero_le _, rfl, ⟨none, 0, heap_alloc_new _ _, ⟨rfl, .inl ⟨rfl, rfl⟩⟩⟩, (Below.refl _ _).alloc (Nat.le_refl _) _⟩
  case round =>
    obtain ⟨K, hK, rfl, ⟨ba, bc, HB, HO⟩, HB1⟩ := hrel
    by_cases hK1 : K < N
    · obtain ⟨b1, o1, e1, hc1⟩ := (HF.out.frame (w' := wr) fun g hg => ⟨fun _ _ _ _ => HB1.out.block g hg, fun _ _ _ => HB1.out.block g hg⟩).cell K hK1
      subst e1
      have h96 := put_bytes (a := a K) (n := n K) (c := c K) HB.out HO.out (by omega)
      have H96 := Lib.hid h96
      clear h96
      go_wp2_with fail
      refine H96.out.mono ?_
      rintro e w2 ⟨⟨v2, rfl⟩, ba2, bc2, HB2, HO2, HBl2⟩
      rw [← rowsOf_succ] at HO2
      go_wp2_with fail
      go_roundw
      case rel => exact ⟨K + 1, by omega, by go_num, ⟨_, _, HB2, HO2⟩, HB1.out.trans HBl2.out⟩
      case measure => simp [intOf]; omega
    · have e : N = K := by omega
      subst e
      have hszr : w.heap.size ≤ wr.heap.size := HB1.out.size
      have hbg := lt_of_block HB.out
      have hf := fam_list HF.out (fun g hg => HB1.out.block g hg) HO.out
      have hs : Sep ba N a n c := ⟨HS.out.unl, fun b o k e hk he => by
        subst e
        have h1 : w.heap.size + 1 ≤ b := (own_lt HO.out rfl).1
        have h2 := (own_lt (HF.out.own k hk) he).2
        omega, HS.out.most, HS.out.count⟩
      have h97 := apart_97 (S := fun x => Old w N a n c x ∨ x = w.heap.size) (Bg := w.heap.size) (by omega) hs hf
        (fun x hx => hx.elim (fun hx => Nat.lt_of_lt_of_le hx.1 hszr) (fun hx => by omega))
        (fun k hk x hx hS => hS.elim (fun hS => hS.2 k hk hx) (fun hS => by have := (own_lt (HF.out.own k hk) hx).2; omega)) (bag_of HB.out) (.inr rfl)
      have H97 := Lib.hid h97
      clear h97 hs hf
      go_wp2_with fail
      refine H97.out.mono ?_
      rintro e w2 ⟨rfl, hk⟩
      have HK := Lib.hid hk
      clear hk
      go_wp2_with fail
      go_ret
      exact ⟨rfl, ⟨HK.out.os.trans HB1.out.os, HK.out.tape.trans HB1.out.tape, HK.out.output.trans HB1.out.output, Nat.le_trans hszr HK.out.size, fun x hx => (HK.out.block x (.inl hx)).trans (HB1.out.block x hx.1)⟩⟩
structure R1 where
  a : Option Addr
  n : Nat
  c : Nat
  l : List Nat
def R1.v (r : R1) : Value := .slice r.a r.n r.c
instance : Inhabited R1 := ⟨⟨none, 0, 0, []⟩⟩
/-- The rows are owned and lie apart. -/
structure Made (B : Nat) (rs : List R1) (w : World) : Prop where
  own : ∀ r ∈ rs, w.ownsRow B 5 1 r.v r.n (bs r.l)
  unl : rs.Pairwise fun r s => Unl r.v s.v
theorem Made.nil (B : Nat) (w : World) : Made B [] w := ⟨fun r h => absurd h (by simp), List.Pairwise.nil⟩
theorem Made.keep {B : Nat} {rs : List R1} {w w' : World} (h : Made B rs w) (hk : ∀ g, g < w.heap.size → w'.heap[g]? = w.heap[g]?) : Made B rs w' :=
  ⟨fun r hr => own_frame (h.own r hr) fun g _ hg => hk g hg, h.unl⟩
theorem Made.below {B : Nat} {rs : List R1} {w w' : World} (h : Made B rs w) (hB : Below w.heap.size w w') : Made B rs w' := h.keep hB.block
theorem Made.drewN {B : Nat} {rs : List R1} {w : World} (h : Made B rs w) (q : Nat) : Made B rs (w.drewN q) := h.keep fun _ _ => rfl
theorem Made.add {B n c : Nat} {rs : List R1} {w w' : World} {a : Option Addr} {l : List Nat} (h : Made B rs w) (hB : Below w.heap.size w w') (hs : B ≤ w.heap.size) (ho : w'.ownsRow w.heap.size 5 1 (.slice a n c) n (bs l)) : Made B (rs ++ [⟨a, n, c, l⟩]) w' := by
  have h1 := h.below hB
  refine ⟨fun r hr => ?_, List.pairwise_append.2 ⟨h.unl, List.pairwise_singleton _ _, fun r hr s hs2 g h2 h3 => ?_⟩⟩
  · rcases List.mem_append.1 hr with hr | hr
    · exact h1.own r hr
    · rw [List.mem_singleton.1 hr]; exact own_mono ho hs
  · rw [List.mem_singleton.1 hs2] at h3
    have := (own_lt (h.own r hr) h2).2
    have := (own_lt ho h3).1
    omega
theorem Made.add2 {B n c n2 c2 : Nat} {rs : List R1} {w w' : World} {a a2 : Option Addr} {l l2 : List Nat} (h : Made B rs w) (hB : Below w.heap.size w w') (hs : B ≤ w.heap.size) (ho : w'.ownsRow w.heap.size 5 1 (.slice a n c) n (bs l)) (ho2 : w'.ownsRow w.heap.size 5 1 (.slice a2 n2 c2) n2 (bs l2))
    (hu : Unl (.slice a n c) (.slice a2 n2 c2)) : Made B (rs ++ [⟨a, n, c, l⟩, ⟨a2, n2, c2, l2⟩]) w' := by
  have h1 := h.below hB
  refine ⟨fun r hr => ?_, List.pairwise_append.2 ⟨h.unl, List.pairwise_cons.2 ⟨fun s hs2 => by rw [List.mem_singleton.1 hs2]; exact hu, List.pairwise_singleton _ _⟩, fun r hr s hs2 g h2 h3 => ?_⟩⟩
  · rcases List.mem_append.1 hr with hr | hr
    · exact h1.own r hr
    · rcases List.mem_cons.1 hr with rfl | hr
      · exact own_mono ho hs
      · rw [List.mem_singleton.1 hr]; exact own_mono ho2 hs
  · have hlt := (own_lt (h.own r hr) h2).2
    rcases List.mem_cons.1 hs2 with rfl | hs2
    · have := (own_lt ho h3).1; omega
    · rw [List.mem_singleton.1 hs2] at h3
      have := (own_lt ho2 h3).1; omega
def ra (rs : List R1) (k : Nat) : Option Addr := (rs.getD k default).a
def rn (rs : List R1) (k : Nat) : Nat := (rs.getD k default).n
def rc (rs : List R1) (k : Nat) : Nat := (rs.getD k default).c
theorem at_get {rs : List R1} {k : Nat} (h : k < rs.length) : Value.slice (ra rs k) (rn rs k) (rc rs k) = (rs[k]).v := by
  unfold ra rn rc R1.v
  rw [List.getD_eq_getElem?_getD, List.getElem?_eq_getElem h]
  rfl
/-- Rows that were made, in a list of their own: ApartBytes tells true. -/
theorem rows_apart {B Lb C : Nat} {rs : List R1} {w : World} (h : Made B rs w) (hB : B ≤ w.heap.size) (hn : ∀ r ∈ rs, r.n ≤ 1000000) (hr : rs.length ≤ 1000000)
    (hL : w.heap[Lb]? = some (.cells (rs.map R1.v).toArray 25 (0, 0))) (hne : ∀ r ∈ rs, r.v.ownBlock ≠ some Lb) :
    Calls Try.prog 22 #[.slice (some ⟨Lb, 0, none⟩) rs.length C] w fun e w' => e = .returned (.bool true) ∧ Below B w w' := by
  have hmem : ∀ k (hk : k < rs.length), rs[k] ∈ rs := fun k hk => List.getElem_mem hk
  have hS : Sep (some ⟨Lb, 0, none⟩) rs.length (ra rs) (rn rs) (rc rs) := by
    refine ⟨fun i j hi hj hne => ?_, fun b o k e hk => ?_, fun k hk => ?_, hr⟩
    · rw [at_get hi, at_get hj]
      rcases Nat.lt_or_gt_of_ne hne with hlt | hlt
      · exact List.pairwise_iff_getElem.1 h.unl i j hi hj hlt
      · exact (List.pairwise_iff_getElem.1 h.unl j i hj hi hlt).symm
    · injection e with e; injection e with e; subst e
      rw [at_get hk]; exact hne _ (hmem k hk)
    · have := hn _ (hmem k hk)
      unfold rn
      rwa [List.getD_eq_getElem?_getD, List.getElem?_eq_getElem hk]
  have hF : Fam B (some ⟨Lb, 0, none⟩) rs.length (ra rs) (rn rs) (rc rs) (fun k i => ((rs.getD k default).l).getD i 0) w := by
    refine ⟨fun k hk => ⟨Lb, 0, rfl, ?_⟩, fun k hk => ?_⟩
    · rw [cell_of_block hL, at_get hk]; simp [hk]
    · have h1 := own_rowf (h.own _ (hmem k hk))
      rw [at_get hk]
      have e1 : rn rs k = (rs[k]).n := by unfold rn; rw [List.getD_eq_getElem?_getD, List.getElem?_eq_getElem hk]; rfl
      have e2 : rs.getD k default = rs[k] := by rw [List.getD_eq_getElem?_getD, List.getElem?_eq_getElem hk]; rfl
      rw [e1, e2]; exact h1
  refine (apart_bytes hB hS hF).mono fun e w' ⟨h1, h2⟩ => ⟨h1, h2.os, h2.tape, h2.output, h2.size, fun g hg => h2.block g ⟨by omega, fun k hk e => ?_⟩⟩
  rw [at_get hk] at e
  have := (own_lt (h.own _ (hmem k hk)) e).1
  omega
/-- The list of the rows is made where they are asked. -/
theorem rows_apart_new {B C : Nat} {rs : List R1} {w : World} (h : Made B rs w) (hB : B ≤ w.heap.size) (hn : ∀ r ∈ rs, r.n ≤ 100000) (hr : rs.length ≤ 1000000) :
    Calls Try.prog 22 #[.slice (some ⟨w.heap.size, 0, none⟩) rs.length C] (w.alloc (.cells (rs.map R1.v).toArray 25)) fun e w' => e = .returned (.bool true) ∧ Below B w w' := by
  have h1 := h.keep (w' := w.alloc (.cells (rs.map R1.v).toArray 25)) fun g hg => Below.heap_alloc w _ g hg
  refine (rows_apart (Lb := w.heap.size) (C := C) h1 (by simp; omega) (fun r hr => by have := hn r hr; omega) hr (heap_alloc_new _ _) fun r hr e => ?_).mono fun e w' ⟨h2, h3⟩ => ⟨h2, ((Below.refl B w).alloc hB _).trans h3⟩
  have := (own_lt (h.own r hr) e).2
  omega
end Go.Proofs.Ytfojhmobnedekaa
