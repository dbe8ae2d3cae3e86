/- Small laws that all walks of this seat share; rows of bytes; what is lent; SameBytes. Conditions: rows are shorter than 2 to the 47. -/
import Derived.Test.YtfojhmobnedekaaProg
import Derived.WalkKit
import Derived.WalkSpells
import Derived.WalkLawsBesides
import Derived.Outline
import Derived.Handy
import Derived.Great.BuildSlice
import Derived.RegionTactic
import Derived.BigRegion
import Derived.Lib.Hide
import Derived.Deep.QuietTactic
import Derived.BigQuiet
namespace Go.Proofs.Ytfojhmobnedekaa
open Go.RowKit

theorem ofInt_i64 (a : Nat) (ha : a < 9223372036854775808) : (BitVec.ofInt 64 (a : Int)).toNat = a := by
  rw [BitVec.ofInt_natCast, BitVec.toNat_ofNat]; exact Nat.mod_eq_of_lt (by omega)
theorem wrap_i64_nat (a : Nat) (ha : a < 9223372036854775808) : IntKind.i64.wrap (a : Int) = a := IntWalk.i64_in _ (by omega)
theorem i64_xor_nat (a b : Nat) (ha : a < 9223372036854775808) (hb : b < 9223372036854775808) : bits .xor .i64 (a : Int) (b : Int) = ((a ^^^ b : Nat) : Int) := by
  have hx : a ^^^ b < 2 ^ 63 := Nat.xor_lt_two_pow (by omega) (by omega)
  show IntKind.i64.wrap ((BitVec.ofInt 64 (a : Int) ^^^ BitVec.ofInt 64 (b : Int)).toNat : Int) = _
  rw [BitVec.toNat_xor, ofInt_i64 a ha, ofInt_i64 b hb]
  exact wrap_i64_nat _ (by omega)
theorem i64_and_nat (a b : Nat) (ha : a < 9223372036854775808) (hb : b < 9223372036854775808) : bits .and .i64 (a : Int) (b : Int) = ((a &&& b : Nat) : Int) := by
  have hx : a &&& b < 2 ^ 63 := Nat.and_lt_two_pow _ (by omega)
  show IntKind.i64.wrap ((BitVec.ofInt 64 (a : Int) &&& BitVec.ofInt 64 (b : Int)).toNat : Int) = _
  rw [BitVec.toNat_and, ofInt_i64 a ha, ofInt_i64 b hb]
  exact wrap_i64_nat _ (by omega)
/-- A byte of a bit pattern, whatever: bits lie between 0 and 255. -/
theorem bits_u8 (op : BinOp) (a b : Int) : 0 ≤ bits op .u8 a b ∧ bits op .u8 a b < 256 := by
  unfold bits; rw [IntKind.wrap_u8]; omega
/-- A callee that leaves the world alone, within a region that draws. -/
theorem quiet_same {P : Program} {f : FuncId} {args : Array Value} {w : World} {n : Nat} {v : Value}
    (h : Calls P f args (w.drewN n) fun e w' => e = .returned v ∧ w.drewN n = w') : Calls P f args (w.drewN n) fun e w'' => e = .returned v ∧ ∃ m, w'' = w.drewN m :=
  h.mono fun _ _ ⟨he, hm⟩ => ⟨he, n, hm.symm⟩
theorem frozen_of_block {w : World} {g j : Nat} {cs : Array Value} {t : TypeId} (hg : w.heap[g]? = some (.cells cs t (0, 0))) : w.frozen? ⟨g, j, none⟩ = false := frozen_of_row w g j cs t hg
theorem cell_of_block {w : World} {g j : Nat} {cs : Array Value} {t : TypeId} {fr : Nat × Nat} (hg : w.heap[g]? = some (.cells cs t fr)) : w.cell? ⟨g, j, none⟩ = cs[j]? := cell_of_row w g j cs t fr hg
/-- Bytes as values. -/
def bs (l : List Nat) : List Value := l.map fun x => .int .u8 (x : Nat)
theorem length_bs (l : List Nat) : (bs l).length = l.length := by simp [bs]
theorem bs_get (l : List Nat) (i : Nat) (h : i < l.length) : (bs l)[i]? = some (.int .u8 (l.getD i 0 : Nat)) := by
  simp [bs, List.getD, h]
theorem bs_append (a b : List Nat) : bs (a ++ b) = bs a ++ bs b := by simp [bs]
theorem bs_one (l : List Nat) : ∀ u ∈ bs l, u.oneCell' = true := by
  intro u hu; obtain ⟨_, _, rfl⟩ := List.mem_map.1 hu; rfl
/-- The numbers of a list are bytes. -/
def Small (l : List Nat) : Prop := ∀ i, l.getD i 0 < 256
theorem Small.nil : Small [] := fun i => by simp
theorem Small.mem {l : List Nat} (h : Small l) {x : Nat} (hx : x ∈ l) : x < 256 := by
  obtain ⟨i, hi, rfl⟩ := List.getElem_of_mem hx
  have := h i
  simpa [List.getD, hi] using this
theorem Small.of_mem {l : List Nat} (h : ∀ x ∈ l, x < 256) : Small l := fun i => by
  by_cases hi : i < l.length
  · simpa [List.getD, hi] using h l[i] (List.getElem_mem hi)
  · simp [List.getD, List.getElem?_eq_none (Nat.le_of_not_lt hi)]
/-- A slice value reads as the bytes l. -/
structure RB (w : World) (a : Option Addr) (n cap : Nat) (l : List Nat) : Prop where
  len : l.length = n
  le : n ≤ cap
  most : n ≤ 140737488351232
  small : Small l
  nil : a = none → cap = 0
  at_ : ∀ i, i < n → ∃ b off, a = some ⟨b, off, none⟩ ∧ w.cell? ⟨b, off + i, none⟩ = some (.int .u8 (l.getD i 0 : Nat))
theorem RB.frame {w w' : World} {a : Option Addr} {n cap : Nat} {l : List Nat} (h : RB w a n cap l) (hk : ∀ b o v, w.cell? ⟨b, o, none⟩ = some v → a.map (·.block) = some b → w'.cell? ⟨b, o, none⟩ = some v) : RB w' a n cap l :=
  ⟨h.len, h.le, h.most, h.small, h.nil, fun i hi => by obtain ⟨b, off, ha, hc⟩ := h.at_ i hi; exact ⟨b, off, ha, hk _ _ _ hc (by rw [ha]; rfl)⟩⟩
theorem RB.below {w w' : World} {a : Option Addr} {n cap : Nat} {l : List Nat} (h : RB w a n cap l) (hB : Below w.heap.size w w') : RB w' a n cap l :=
  h.frame fun _ _ _ hc _ => by rw [hB.cell (block_lt_of_cell hc)]; exact hc
theorem RB.alloc {w : World} {a : Option Addr} {n cap : Nat} {l : List Nat} (h : RB w a n cap l) (o : Obj) : RB (w.alloc o) a n cap l := h.below ((Below.refl _ _).alloc (Nat.le_refl _) o)
theorem RB.drewN {w : World} {a : Option Addr} {n cap : Nat} {l : List Nat} (h : RB w a n cap l) (k : Nat) : RB (w.drewN k) a n cap l := h.frame fun _ _ _ hc _ => hc
/-- Out of a whole block. -/
theorem RB.of_block {w : World} {g cap : Nat} {l m : List Nat} {t : TypeId} {fr : Nat × Nat} (hg : w.heap[g]? = some (.cells (bs (l ++ m)).toArray t fr)) (hs : Small l) (hc : l.length ≤ cap) (hm : cap ≤ 140737488351232) : RB w (some ⟨g, 0, none⟩) l.length cap l :=
  ⟨rfl, hc, Nat.le_trans hc hm, hs, fun h => (Option.some_ne_none _ h).elim, fun i hi => ⟨g, 0, rfl, by
    rw [cell_of_block hg, Nat.zero_add, List.getElem?_toArray, bs_get _ _ (by simp; omega), List.getD_eq_getElem?_getD, List.getElem?_append_left hi, ← List.getD_eq_getElem?_getD]⟩⟩
theorem mark_any (k i : Int) (w : World) : Calls Try.prog 86 #[.int .i64 k, .int .i64 i] w fun e w' => e = .returned (.int .i64 (wrap64 (wrap64 (1000003 * wrap64 (k + 7)) + i))) ∧ w = w' := by
  go_enter Try.func86, Try.ntmps86
  go_wp2_with fail
  go_ret
  exact ⟨rfl, rfl⟩
/-- A mark, as the code reckons it; which byte it is, nothing here asks. -/
def mkI (k i : Int) : Int := IntKind.u64.wrap (IntKind.u64.wrap (wrap64 (wrap64 (1000003 * wrap64 (k + 7)) + i)) * 11400714819323198485) / 72057594037927936 % 256
theorem mkI_eq (k i : Int) : mkI k i = ((mkI k i).toNat : Nat) := by unfold mkI; omega
theorem markByte_mkI (k i : Int) (w : World) : Calls Try.prog 58 #[.int .i64 k, .int .i64 i] w fun e w' => e = .returned (.int .u8 ((mkI k i).toNat : Nat)) ∧ w = w' := by
  rw [← mkI_eq]
  go_enter Try.func58, Try.ntmps58
  go_wp2_with (go_at_call 86; refine (mark_any _ _ _).mono ?_; rintro e w' ⟨rfl, rfl⟩)
  go_ret
  exact ⟨rfl, rfl⟩
theorem mark_exists : ∃ f : Int → Int → Nat, ∀ k i, f k i < 256 ∧ ∀ w, Calls Try.prog 58 #[.int .i64 k, .int .i64 i] w fun e w' => e = .returned (.int .u8 (f k i : Nat)) ∧ w = w' :=
  ⟨fun k i => (mkI k i).toNat, fun k i => ⟨by show (mkI k i).toNat < 256; unfold mkI; omega, markByte_mkI k i⟩⟩
noncomputable def mk : Int → Int → Nat := Classical.choose mark_exists
theorem mk_lt (k i : Int) : mk k i < 256 := (Classical.choose_spec mark_exists k i).1
theorem markByte_any (k i : Int) (w : World) : Calls Try.prog 58 #[.int .i64 k, .int .i64 i] w fun e w' => e = .returned (.int .u8 (mk k i : Nat)) ∧ w = w' := (Classical.choose_spec mark_exists k i).2 w
/-- The marks behind what is lent. -/
noncomputable def mkN (i : Nat) : Nat := mk 1 (i : Int)
noncomputable def marks (k : Nat) : List Nat := (List.range k).map mkN
theorem length_marks (k : Nat) : (marks k).length = k := by simp [marks]
theorem marks_succ (k : Nat) : marks (k + 1) = marks k ++ [mkN k] := by unfold marks; rw [List.range_succ, List.map_append]; rfl
theorem marks_get (k i : Nat) (h : i < k) : (marks k).getD i 0 = mkN i := by
  unfold marks
  rw [List.getD_eq_getElem?_getD, List.getElem?_map, List.getElem?_range h]
  rfl
theorem info5 : (Try.prog.info? 5).map (fun i => (i.zero, i.size, i.bytes)) = some (some (.int .u8 0), 1, 1) := by kernel_rfl
theorem cell_new (w : World) (v : Value) : ∀ j u, [v][j]? = some u → (w.alloc (.cells #[v] 5)).cell? ((⟨w.heap.size, 0, none⟩ : Addr).add j) = some u := by
  intro j u hu
  match j, hu with
  | 0, hu => simp at hu; subst hu; exact (cell_of_block (heap_alloc_new _ _)).trans rfl
theorem one_u8 (x : Int) : ∀ u ∈ [Value.int .u8 x], u.oneCell' = true := by intro u hu; simp at hu; subst hu; rfl
/-- A row that is full: its whole block is known. -/
theorem full_row {w : World} {B g n : Nat} {xs : List Value} (h : w.ownsRow B 5 1 (.slice (some ⟨g, 0, none⟩) n n) n xs) : w.heap[g]? = some (.cells xs.toArray 5 (0, 0)) := by
  obtain ⟨_, h2⟩ := h
  rcases h2 with ⟨h2, _⟩ | ⟨g', cap, cur, hv, hg, hh, hn, hc, hs, ht⟩
  · cases h2
  · obtain ⟨rfl, rfl⟩ : g = g' ∧ n = cap := by injection hv with e1 e2 e3; injection e1 with e1; injection e1 with e1; exact ⟨e1, e3⟩
    rw [hh, ← ht, List.take_of_length_le (by simp [hs])]
def LRel (w : World) (n : Nat) (l : List Nat) (v i : Value) (wr : World) : Prop := ∃ k : Nat, k ≤ 12 ∧ i = .int .i64 k ∧ v = .slice (some ⟨w.heap.size, 0, none⟩) (n + k) (n + 12) ∧ wr.ownsRow w.heap.size 5 1 (.slice (some ⟨w.heap.size, 0, none⟩) (n + k) (n + 12)) (n + k) (bs (l ++ marks k)) ∧ Below w.heap.size w wr
set_option maxHeartbeats 800000 in
set_option maxRecDepth 100000 in
/-- LentBytes: a copy in a block of its own, with marks behind. -/
theorem lent_any {w : World} {a : Option Addr} {n cap : Nat} {l : List Nat} (h : RB w a n cap l) :
    Calls Try.prog 15 #[.slice a n cap] w fun e w' => ∃ g, e = .returned (.slice (some ⟨g, 0, none⟩) n (n + 12)) ∧ w.heap.size ≤ g ∧ w'.heap[g]? = some (.cells (bs (l ++ marks 12)).toArray 5 (0, 0)) ∧ Below w.heap.size w w' := by
  obtain ⟨i0, hi, hz0, hz1, hz2⟩ := info_parts info5
  have hmost := h.most
  have hle := h.le
  have hnone := h.nil
  have H := Lib.hid h
  clear h
  go_enter Try.func15, Try.ntmps15
  go_wp2_with (refine wpList_make_own _ rfl (.const (.int .i64 0)) (.tmp 7) 25 rfl w.heap.size 5 i0 (.int .u8 0) 1 Try.underlying25 hi hz0 hz1 .i64 .i64 _ (n + 12) rfl rfl ?_ ?_ ?_ ?_ ?_)
  · omega
  · rw [hz2]; omega
  · unfold maxLen; omega
  · exact Nat.le_refl _
  intro w1 hown hg1
  have HG1 := Lib.hid hg1
  have HO := Lib.hid hown
  clear hown hg1
  go_wp2_with (refine wpList_append_fits_any _ rfl (.tmp 9) (.tmp 10) 25 rfl w.heap.size 5 i0 1 Try.underlying25 hi hz1 w.heap.size 0 (n + 12) [] rfl HO.out a n cap (bs l) rfl ?_ ?_ ?_ (bs_one l) ?_ ?_)
  · rw [length_bs, H.out.len, Nat.mul_one]
  · intro ha; have := hnone ha; omega
  · intro ad had j u hu
    have hj : j < n := by have := (List.getElem?_eq_some_iff.1 hu).1; rw [length_bs, H.out.len] at this; exact this
    obtain ⟨b, off, hb, hc⟩ := H.out.at_ j hj
    rw [had] at hb
    obtain rfl := Option.some.inj hb
    rw [bs_get l j (by rw [H.out.len]; exact hj)] at hu
    rw [← hu, Addr.add_lit]
    exact (HG1.out.cell hc (by simp))
  · omega
  intro w2 hown2 hg2
  have HG2 := Lib.hid hg2
  have HO2 := Lib.hid hown2
  clear hown2 hg2
  go_wp2_with fail
  go_loopw [3, 4] (fun v i wr => LRel w n l v i wr) (fun _ i _ => 12 - (intOf i).toNat)
  case atStart => exact ⟨0, by omega, rfl, rfl, by rw [show marks 0 = [] from rfl, List.append_nil]; exact HO2.out, ((Below.refl _ _).grown HG1.out (Nat.le_refl _) (fun k e => by cases e)).grown HG2.out HG1.out.size (fun k e => by cases e; exact Nat.le_refl _)⟩
  case round =>
    obtain ⟨k, hk, rfl, rfl, hown, hB⟩ := hrel
    have HO3 := Lib.hid hown
    have HB := Lib.hid hB
    have hsz := hB.size
    clear hown hB
    by_cases hk2 : k < 12
    · have hal : (wr.alloc (.cells #[.int .u8 (mk 1 k : Nat)] 5)).ownsRow w.heap.size 5 1 (.slice (some ⟨w.heap.size, 0, none⟩) (n + k) (n + 12)) (n + k) (bs (l ++ marks k)) := HO3.out.alloc _
      have HA := Lib.hid hal
      clear hal
      go_wp2_with (first
        | (go_at_call 58; refine (markByte_any _ _ _).mono ?_; rintro e w' ⟨rfl, rfl⟩)
        | (at_builtin; refine wpList_append_fits _ rfl (.tmp 16) (.tmp 19) 25 rfl w.heap.size 5 i0 1 Try.underlying25 hi hz1 w.heap.size (n + k) (n + 12) (bs (l ++ marks k)) rfl HA.out ⟨wr.heap.size, 0, none⟩ 1 1 [.int .u8 (mk 1 k : Nat)] rfl rfl (cell_new _ _) (one_u8 _) (by omega) ?_; intro w4 hown4 hg4; have HO4 := Lib.hid hown4; have HG4 := Lib.hid hg4; clear hown4 hg4))
      go_roundw
      case rel => exact ⟨k + 1, by omega, by go_num, rfl, by rw [marks_succ, ← List.append_assoc, bs_append]; exact HO4.out, (HB.out.alloc hsz _).grown HG4.out (by simp; omega) (fun j e => by cases e; exact Nat.le_refl _)⟩
      case measure => simp [intOf]; omega
    · obtain rfl : k = 12 := by omega
      have hf := full_row HO3.out
      have HF := Lib.hid hf
      clear hf
      go_wp2_with fail
      go_ret
      exact ⟨_, rfl, Nat.le_refl _, HF.out, HB.out⟩
/-- A world that parts from another one in draws alone. -/
def Drawn (w wr : World) : Prop := ∃ q, wr = w.drewN q
theorem Drawn.refl (w : World) : Drawn w w := ⟨0, rfl⟩
theorem Drawn.more {w wr : World} (h : Drawn w wr) (q : Nat) : Drawn w (wr.drewN q) := by
  obtain ⟨p, rfl⟩ := h; exact ⟨p + q, by simp⟩
theorem Drawn.cell {w wr : World} (h : Drawn w wr) (p : Addr) : wr.cell? p = w.cell? p := by obtain ⟨q, rfl⟩ := h; rfl
theorem Drawn.heap {w wr : World} (h : Drawn w wr) : wr.heap = w.heap := by obtain ⟨q, rfl⟩ := h; rfl
/-- What was lent stands at block g: the bytes, with marks behind. -/
def LentAt (w : World) (g : Nat) (l : List Nat) : Prop := w.heap[g]? = some (.cells (bs (l ++ marks 12)).toArray 5 (0, 0))
theorem LentAt.lt {w : World} {g : Nat} {l : List Nat} (h : LentAt w g l) : g < w.heap.size := lt_of_block h
theorem LentAt.below {w w' : World} {g B : Nat} {l : List Nat} (h : LentAt w g l) (hB : Below B w w') (hg : g < B) : LentAt w' g l := (hB.block g hg).trans h
theorem LentAt.first {w : World} {g : Nat} {l : List Nat} (h : LentAt w g l) (i : Nat) (hi : i < l.length) : w.cell? ⟨g, i, none⟩ = some (.int .u8 (l.getD i 0 : Nat)) := by
  rw [cell_of_block h, List.getElem?_toArray, bs_get _ _ (by simp; omega), List.getD_eq_getElem?_getD, List.getElem?_append_left hi, ← List.getD_eq_getElem?_getD]
theorem LentAt.behind {w : World} {g : Nat} {l : List Nat} (h : LentAt w g l) (i : Nat) (hi : l.length ≤ i) (hi2 : i < l.length + 12) : w.cell? ⟨g, i, none⟩ = some (.int .u8 (mk 1 ((i - l.length : Nat) : Int) : Nat)) := by
  rw [cell_of_block h, List.getElem?_toArray, bs_get _ _ (by simp [length_marks]; omega), List.getD_eq_getElem?_getD, List.getElem?_append_right hi, ← List.getD_eq_getElem?_getD, marks_get _ _ (by omega)]
  rw [mkN]
theorem LentAt.rb {w : World} {g : Nat} {l : List Nat} (h : LentAt w g l) (hs : Small l) (hm : l.length + 12 ≤ 140737488351232) : RB w (some ⟨g, 0, none⟩) l.length (l.length + 12) l := RB.of_block h hs (by omega) hm
set_option maxHeartbeats 800000 in
set_option maxRecDepth 100000 in
/-- KeptBytes: what was lent is as it was. -/
theorem kept_any {w : World} {a : Option Addr} {n cap g : Nat} {l : List Nat} (h : RB w a n cap l) (hl : LentAt w g l) :
    Calls Try.prog 21 #[.slice (some ⟨g, 0, none⟩) n (n + 12), .slice a n cap] w fun e w' => e = .returned (.bool true) ∧ Drawn w w' := by
  have hlen := h.len
  have hmost := h.most
  have hle := h.le
  have H := Lib.hid h
  have HL := Lib.hid hl
  have HN := Lib.hid hlen
  clear h hl hlen
  go_enter Try.func21, Try.ntmps21
  go_wp2_with fail
  go_loopw [6] (fun i wr => ∃ k : Nat, k ≤ n + 12 ∧ i = .int .i64 k ∧ Drawn w wr) (fun i _ => n + 12 - (intOf i).toNat)
  case atStart => exact ⟨0, by omega, rfl, Drawn.refl _⟩
  case round =>
    obtain ⟨k, hk, rfl, hD⟩ := hrel
    have HD := Lib.hid hD
    by_cases hk1 : k < n
    · obtain ⟨b, off, rfl, hc⟩ := H.out.at_ k hk1
      have c1 := (hD.cell _).trans hc
      have c2 := (hD.cell _).trans (HL.out.first k (by rw [HN.out]; exact hk1))
      clear hD hc
      generalize l.getD k 0 = x at *
      have d1 : decide ((k : Int) < (n : Int)) = true := by simp; omega
      have d2 : decide ((k : Int) < (n : Int) + 12) = true := by simp; omega
      have d3 : ((k : Int) < (n : Int)) := by omega
      have d4 : decide (n ≤ k) = false := by simp; omega
      have d5 : decide (k < n) = true := by simp; omega
      go_wp2_with fail
      go_quiet (fail)
      go_wp2_with fail
      go_roundw
      case rel => exact ⟨k + 1, by omega, by go_num, HD.out.more _⟩
      case measure => simp [intOf]; omega
    · by_cases hk2 : k < n + 12
      · have c2 := (hD.cell _).trans (HL.out.behind k (by rw [HN.out]; omega) (by rw [HN.out]; exact hk2))
        rw [HN.out] at c2
        have hm := fun w => markByte_any 1 ((k - n : Nat) : Int) w
        have HM := Lib.hid hm
        have hs : (k : Int) - (n : Int) = ((k - n : Nat) : Int) := by omega
        clear hD hm
        generalize mk 1 ((k - n : Nat) : Int) = x at *
        generalize k - n = j at *
        have d1 : decide ((k : Int) < (n : Int)) = false := by simp; omega
        have d2 : decide ((k : Int) < (n : Int) + 12) = true := by simp; omega
        have d3 : ((k : Int) < (n : Int) + 12) := by omega
        have d4 : decide (n ≤ k) = true := by simp; omega
        have d5 : decide (k < n) = false := by simp; omega
        go_wp2_with fail
        go_quiet ((go_at_call 58; exact quiet_same (HM.out _)))
        go_wp2_with fail
        go_roundw
        case rel => exact ⟨k + 1, by omega, by go_num, HD.out.more _⟩
        case measure => simp [intOf]; omega
      · obtain rfl : k = n + 12 := by omega
        go_wp2_with fail
        go_ret
        exact ⟨rfl, HD.out⟩
theorem take_step {l : List Nat} {k : Nat} (h : k < l.length) : l.take (k + 1) = l.take k ++ [l.getD k 0] := by
  rw [List.take_succ_eq_append_getElem h]; simp [List.getD, h]
theorem ret_bool {a b : Bool} (h : a = b) : Ending.returned (.bool a) = .returned (.bool b) := by rw [h]
theorem not_same {x y : List Nat} {k u v : Nat} (hu : u = x.getD k 0) (hv : v = y.getD k 0) (h : (((u : Nat) : Int) != ((v : Nat) : Int)) = true) : false = decide (x = y) := by
  symm; rw [decide_eq_false_iff_not]; intro e; subst e; subst hu; subst hv; simp at h
theorem same_on {x y : List Nat} {k u v : Nat} (hp : x.take k = y.take k) (hx : k < x.length) (hy : k < y.length) (hu : u = x.getD k 0) (hv : v = y.getD k 0) (h : (((u : Nat) : Int) != ((v : Nat) : Int)) = false) : x.take (k + 1) = y.take (k + 1) := by
  rw [take_step hx, take_step hy, hp, ← hu, ← hv]
  have : u = v := by simp at h; omega
  rw [this]
theorem not_long {x y : List Nat} {n m : Nat} (hx : x.length = n) (hy : y.length = m) (h : n ≠ m) : false = decide (x = y) := by
  symm; rw [decide_eq_false_iff_not]; intro e; subst e; omega
set_option maxHeartbeats 800000 in
set_option maxRecDepth 100000 in
/-- SameBytes: are two rows the same bytes? -/
theorem same_any {w : World} {a b : Option Addr} {n m c d : Nat} {x y : List Nat} (hx : RB w a n c x) (hy : RB w b m d y) :
    Calls Try.prog 19 #[.slice a n c, .slice b m d] w fun e w' => e = .returned (.bool (decide (x = y))) ∧ Drawn w w' := by
  have hm1 := hx.most
  have hm2 := hy.most
  have hl1 := hx.le
  have hl2 := hy.le
  by_cases hnm : n = m
  · subst hnm
    have HX := Lib.hid hx
    have HY := Lib.hid hy
    have hpre : (fun (k : Nat) => x.take k = y.take k) 0 := rfl
    have HP := Lib.hid hpre
    clear hx hy hpre
    go_enter Try.func19, Try.ntmps19
    go_wp2_with fail
    go_loopw [5] (fun i wr => ∃ k : Nat, k ≤ n ∧ i = .int .i64 k ∧ Hid (x.take k = y.take k) ∧ Drawn w wr) (fun i _ => n - (intOf i).toNat)
    case atStart => exact ⟨0, by omega, rfl, rfl, Drawn.refl _⟩
    case round =>
      obtain ⟨k, hk, rfl, hpk, hD⟩ := hrel
      have HD := Lib.hid hD
      by_cases hk1 : k < n
      · obtain ⟨b1, o1, rfl, hc1⟩ := HX.out.at_ k hk1
        obtain ⟨b2, o2, rfl, hc2⟩ := HY.out.at_ k hk1
        have c1 := (hD.cell _).trans hc1
        have c2 := (hD.cell _).trans hc2
        clear hD hc1 hc2
        obtain ⟨u, hu⟩ : ∃ u, u = x.getD k 0 := ⟨_, rfl⟩
        obtain ⟨v, hv⟩ : ∃ v, v = y.getD k 0 := ⟨_, rfl⟩
        rw [← hu] at c1
        rw [← hv] at c2
        have HU := Lib.hid hu
        have HV := Lib.hid hv
        clear hu hv
        have d3 : ((k : Int) < (n : Int)) := by omega
        go_wp2_with fail
        go_quiet (fail)
        go_wp2_with fail
        · go_ret
          exact ⟨ret_bool (not_same HU.out HV.out (by assumption)), HD.out.more _⟩
        · go_roundw
          case rel => exact ⟨k + 1, by omega, by go_num, same_on hpk.out (by rw [HX.out.len]; exact hk1) (by rw [HY.out.len]; exact hk1) HU.out HV.out (by assumption), HD.out.more _⟩
          case measure => simp [intOf]; omega
      · obtain rfl : k = n := by omega
        have he : true = decide (x = y) := by
          symm; rw [decide_eq_true_iff]
          have := hpk.out
          rw [List.take_of_length_le (by rw [HX.out.len]; exact Nat.le_refl _), List.take_of_length_le (by rw [HY.out.len]; exact Nat.le_refl _)] at this
          exact this
        have HE := Lib.hid he
        clear he hpk
        go_wp2_with fail
        go_ret
        exact ⟨ret_bool HE.out, HD.out⟩
  · have he := not_long hx.len hy.len hnm
    have HE := Lib.hid he
    clear he hx hy
    have hne : ((n : Int) == (m : Int)) = false := by simp; omega
    go_enter Try.func19, Try.ntmps19
    go_wp2_with fail
    go_ret
    exact ⟨ret_bool HE.out, Drawn.refl _⟩
end Go.Proofs.Ytfojhmobnedekaa
