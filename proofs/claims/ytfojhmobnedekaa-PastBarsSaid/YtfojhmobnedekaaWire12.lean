/- The walks of the law's awake, size and next. Conditions: lists are shorter than 2 to the 40. -/
import Derived.Test.YtfojhmobnedekaaWire11
namespace Go.Proofs.Ytfojhmobnedekaa
open Go.RowKit

theorem PW.ownB {B W : Nat} {zs : List Zl} {ld dr : Int} {v : Value} {w : World} (h : PW B W zs ld dr v w) {g : Nat} (e : v.ownBlock = some g) : B ≤ g ∧ g < w.heap.size := by
  obtain ⟨ms, h1, _⟩ := h; exact own_lt3 h1.row e
theorem Keep.low {W n0 : Nat} {v : Value} {w w' : World} (h : Keep W v w w') (hW : n0 ≤ W) (hv : ∀ g, v.ownBlock = some g → n0 ≤ g) (hn : n0 ≤ w.heap.size) : Below n0 w w' :=
  ⟨h.os, h.tape, h.output, h.size, fun g hg => h.block g (by omega) (by omega) (fun e => by have := hv g e; omega)⟩
/-- A new wire. -/
theorem PW.new (w : World) : PW (w.heap.size + 1) w.heap.size [] 0 0 (.slice none 0 0) (w.alloc (.cells (wireC (.slice none 0 0) 0 0) 91)) :=
  ⟨[], ⟨World.alloc_heap_new w _, World.ownsRow_nil _ _ _ _, List.Pairwise.nil, Made.nil _ _⟩, rfl, fun z hz => absurd hz (by simp), none, 0, rfl⟩
/-- Send, with what lies below the wire. -/
theorem sendB {w : World} {W B n c n0 : Nat} {a : Option Addr} {l : List Nat} {k b al pl now ld dr t : Int} {v : Value} {zs : List Zl} (hq : PW B W zs ld dr v w) (hr : RB w a n c l) (hn : n ≤ 1000) (hm : zs.length ≤ 10000) (hB : B ≤ w.heap.size) (hld : 0 ≤ ld ∧ ld ≤ 1000000) (hdr : 0 ≤ dr ∧ dr ≤ 1000000) (hW : n0 ≤ W) (hWB : W < B) (hg : Goes t k b al pl now) :
    Calls Try.prog 35 #[.pointer (some ⟨W, 0, none⟩), .int .i64 t, .agg #[.int .i64 k, .int .i64 b, .int .i64 al, .int .i64 pl], .slice a n c, .int .i64 now] w fun e w' => e = .returned (.int .i64 0) ∧ ∃ v', PW B W (sendZ t (landsOf k b al pl now l) zs) (ld + ((landsOf k b al pl now l).length : Nat)) (if (landsOf k b al pl now l).length = 0 then dr + 1 else dr) v' w' ∧ Below n0 w w' := by
  refine (sendP hq hr hn hm hB hld hdr hg).mono ?_
  rintro e w' ⟨rfl, v', h1, h2, _⟩
  exact ⟨rfl, v', h1, h2.low hW (fun g e => by have := (hq.ownB e).1; omega) (by have := lt_of_block hq.wire; omega)⟩
theorem dueB {w : World} {W B n0 : Nat} {ld dr : Int} {v : Value} {zs : List Zl} (now : Int) (hq : PW B W zs ld dr v w) (hm : zs.length ≤ 10000) (hW : n0 ≤ W) (hWB : W < B) :
    Calls Try.prog 38 #[.pointer (some ⟨W, 0, none⟩), .int .i64 now] w fun e w' => ∃ a c v', e = .returned (.slice a (dueZ now zs).length c) ∧ MailR w' (.slice a (dueZ now zs).length c) (dueZ now zs) ∧ PW B W (zs.drop (dueZ now zs).length) ld dr v' w' ∧ Below n0 w w' := by
  refine (dueP now hq hm).mono ?_
  rintro e w' ⟨vm, v', xs, rfl, hx, hm, h1, h2, _⟩
  have hr := hm.rd (by rw [hx]; exact sm_due hq.sm)
  rw [hx] at hr
  have hr2 := hr
  obtain ⟨a, c, rfl, _⟩ := hr
  exact ⟨a, c, v', rfl, hr2, h1, h2.low hW (fun g e => by have := (hq.ownB e).1; omega) (by have := lt_of_block hq.wire; omega)⟩
theorem openP {w : World} {W B : Nat} {ld dr : Int} {v : Value} {zs : List Zl} (hq : PW B W zs ld dr v w) : Calls Try.prog 37 #[.pointer (some ⟨W, 0, none⟩)] w fun e w' => e = .returned (.int .i64 (zs.length : Nat)) ∧ w = w' := by
  obtain ⟨a, c, rfl⟩ := hq.len
  exact Open_any hq.wire

set_option maxHeartbeats 4000000 in
set_option maxRecDepth 100000 in
theorem awake28 (w : World) : Calls Try.prog 32 #[] w fun e w' => e = .returned (.bool true) ∧ Below w.heap.size w w' := by
  have hW := lt_of_block (World.alloc_heap_new w (.cells (wireC (.slice none 0 0) 0 0) 91))
  have HP1 := Lib.hid (PW.new w)
  have HB1 := Lib.hid (show Below w.heap.size w (w.alloc (.cells (wireC (.slice none 0 0) 0 0) 91)) from (Below.refl _ _).alloc (Nat.le_refl _) _)
  have H34 := Lib.hid (New_any w)
  go_enter Try.func32, Try.ntmps32
  go_wp2_with fail
  refine H34.out.mono ?_
  rintro e w1 ⟨rfl, rfl⟩
  clear H34
  generalize w.alloc (.cells (wireC (.slice none 0 0) 0 0) 91) = w1 at *
  have hW1 := hW
  have hr2 : RB (w1.alloc (.cells #[.int .u8 5] 5)) (some ⟨w1.heap.size, 0, none⟩) 1 1 [5] := one_rb w1 5 (by omega)
  have h2 := sendB (n0 := w.heap.size) (t := 1) (k := 0) (b := 2) (al := 0) (pl := 0) (now := 1) (HP1.out.below ((Below.refl _ _).alloc (Nat.le_refl _) (.cells #[.int .u8 5] 5))) hr2 (by omega) (by decide) (by rw [World.size_alloc]; omega) (by decide) (by decide) (Nat.le_refl _) (Nat.lt_succ_self _) ⟨.inl rfl, by decide, by decide⟩
  rw [show sendZ 1 (landsOf 0 2 0 0 1 [5]) [] = [⟨3, 0, 1, [5]⟩] from rfl] at h2
  have H2 := Lib.hid h2
  have HA2 := Lib.hid (HB1.out.trans (show Below w.heap.size w1 (w1.alloc (.cells #[.int .u8 5] 5)) from (Below.refl _ _).alloc (by omega) _))
  clear hr2 h2
  go_wp2_with fail
  refine H2.out.mono ?_
  rintro e w2 ⟨rfl, v2, hp2, hb2⟩
  have HP2 : Hid (PW (w.heap.size + 1) w.heap.size [⟨3, 0, 1, [5]⟩] 1 0 v2 w2) := hp2
  have HB2 := Lib.hid (HA2.out.trans hb2)
  have hW2 : w.heap.size < w2.heap.size := lt_of_block HP2.out.wire
  clear hp2 hb2 H2 HA2 HP1 HB1
  have hr3 : RB (w2.alloc (.cells #[.int .u8 6] 5)) (some ⟨w2.heap.size, 0, none⟩) 1 1 [6] := one_rb w2 6 (by omega)
  have h3 := sendB (n0 := w.heap.size) (t := 1) (k := 0) (b := 2) (al := 0) (pl := -1) (now := 1) (HP2.out.below ((Below.refl _ _).alloc (Nat.le_refl _) (.cells #[.int .u8 6] 5))) hr3 (by omega) (by decide) (by rw [World.size_alloc]; omega) (by decide) (by decide) (Nat.le_refl _) (Nat.lt_succ_self _) ⟨.inl rfl, by decide, by decide⟩
  rw [show sendZ 1 (landsOf 0 2 0 (-1) 1 [6]) [⟨3, 0, 1, [5]⟩] = [⟨3, -1, 1, [6]⟩, ⟨3, 0, 1, [5]⟩] from rfl] at h3
  have H3 := Lib.hid h3
  have HA3 := Lib.hid (HB2.out.trans (show Below w.heap.size w2 (w2.alloc (.cells #[.int .u8 6] 5)) from (Below.refl _ _).alloc (by omega) _))
  clear hr3 h3
  go_wp2_with fail
  refine H3.out.mono ?_
  rintro e w3 ⟨rfl, v3, hp3, hb3⟩
  have HP3 : Hid (PW (w.heap.size + 1) w.heap.size [⟨3, -1, 1, [6]⟩, ⟨3, 0, 1, [5]⟩] 2 0 v3 w3) := hp3
  have HB3 := Lib.hid (HA3.out.trans hb3)
  have hW3 : w.heap.size < w3.heap.size := lt_of_block HP3.out.wire
  clear hp3 hb3 H3 HA3 HP2 HB2
  have hr4 : RB (w3.alloc (.cells #[.int .u8 7] 5)) (some ⟨w3.heap.size, 0, none⟩) 1 1 [7] := one_rb w3 7 (by omega)
  have h4 := sendB (n0 := w.heap.size) (t := 1) (k := 1) (b := 0) (al := 0) (pl := 0) (now := 1) (HP3.out.below ((Below.refl _ _).alloc (Nat.le_refl _) (.cells #[.int .u8 7] 5))) hr4 (by omega) (by decide) (by rw [World.size_alloc]; omega) (by decide) (by decide) (Nat.le_refl _) (Nat.lt_succ_self _) ⟨.inl rfl, by decide, by decide⟩
  rw [show sendZ 1 (landsOf 1 0 0 0 1 [7]) [⟨3, -1, 1, [6]⟩, ⟨3, 0, 1, [5]⟩] = [⟨3, -1, 1, [6]⟩, ⟨3, 0, 1, [5]⟩] from rfl] at h4
  have H4 := Lib.hid h4
  have HA4 := Lib.hid (HB3.out.trans (show Below w.heap.size w3 (w3.alloc (.cells #[.int .u8 7] 5)) from (Below.refl _ _).alloc (by omega) _))
  clear hr4 h4
  go_wp2_with fail
  refine H4.out.mono ?_
  rintro e w4 ⟨rfl, v4, hp4, hb4⟩
  have HP4 : Hid (PW (w.heap.size + 1) w.heap.size [⟨3, -1, 1, [6]⟩, ⟨3, 0, 1, [5]⟩] 2 1 v4 w4) := hp4
  have HB4 := Lib.hid (HA4.out.trans hb4)
  have hW4 : w.heap.size < w4.heap.size := lt_of_block HP4.out.wire
  clear hp4 hb4 H4 HA4 HP3 HB3
  have H5 := Lib.hid (dueB (n0 := w.heap.size) 2 HP4.out (by decide) (Nat.le_refl _) (Nat.lt_succ_self _))
  go_wp2_with fail
  refine H5.out.mono ?_
  rintro e w5 ⟨a5, c5, v5, rfl, _, hp5, hb5⟩
  have HP5 : Hid (PW (w.heap.size + 1) w.heap.size [⟨3, -1, 1, [6]⟩, ⟨3, 0, 1, [5]⟩] 2 1 v5 w5) := hp5
  have HB5 := Lib.hid (HB4.out.trans hb5)
  rw [show (dueZ 2 [⟨3, -1, 1, [6]⟩, ⟨3, 0, 1, [5]⟩]).length = 0 from rfl]
  have H6 := Lib.hid (dueB (n0 := w.heap.size) 3 HP5.out (by decide) (Nat.le_refl _) (Nat.lt_succ_self _))
  clear hp5 hb5 H5 HP4 HB4
  go_wp2_with fail
  refine H6.out.mono ?_
  rintro e w6 ⟨a6, c6, v6, rfl, hm6, hp6, hb6⟩
  have HP6 : Hid (PW (w.heap.size + 1) w.heap.size [] 2 1 v6 w6) := hp6
  have HB6 := Lib.hid (HB5.out.trans hb6)
  rw [show (dueZ 3 [⟨3, -1, 1, [6]⟩, ⟨3, 0, 1, [5]⟩]).length = 2 from rfl] at hm6 ⊢
  rw [show dueZ 3 [⟨3, -1, 1, [6]⟩, ⟨3, 0, 1, [5]⟩] = [⟨3, -1, 1, [6]⟩, ⟨3, 0, 1, [5]⟩] from rfl] at hm6
  obtain ⟨_, _, e6, hk6⟩ := hm6
  injection e6 with e6 _ e7
  subst e6; subst e7
  obtain ⟨b, o, a0, n0, c0, rfl, k1, k2, k3⟩ := hk6 0 _ rfl
  obtain ⟨b', o', a1, n1, c1, e8, k4, k5, k6⟩ := hk6 1 _ rfl
  obtain ⟨rfl, rfl⟩ : b = b' ∧ o = o' := by injection e8 with e8; injection e8 with e9 e10; exact ⟨e9, e10⟩
  have t0 : w6.cell? ⟨b, o, none⟩ = some (.int .i64 1) := by simpa using k1
  have t1 : w6.cell? ⟨b, o + 1, none⟩ = some (.slice a0 n0 c0) := by simpa using k2
  have t2 : w6.cell? ⟨b, o + 2 + 1, none⟩ = some (.slice a1 n1 c1) := by simpa using k5
  have hr6 : RB (w6.alloc (.cells #[.int .u8 6] 5)) (some ⟨w6.heap.size, 0, none⟩) 1 1 [6] := one_rb w6 6 (by omega)
  have h7 : Calls Try.prog 19 #[.slice a0 n0 c0, .slice (some ⟨w6.heap.size, 0, none⟩) 1 1] (w6.alloc (.cells #[.int .u8 6] 5)) fun e w' => e = .returned (.bool true) ∧ Below w6.heap.size w6 w' := by
    refine (same_any (k3.alloc _) hr6).mono ?_
    rintro e w' ⟨rfl, q, rfl⟩
    exact ⟨rfl, below_drewN ((Below.refl _ _).alloc (Nat.le_refl _) _) _⟩
  have H7 := Lib.hid h7
  have HR6 := Lib.hid k6
  clear k1 k2 k3 k4 k5 k6 hr6 h7 H6 HP5 HB5
  go_wp2_with fail
  refine H7.out.mono ?_
  rintro e w7 ⟨rfl, hb7⟩
  have u2 := (hb7.cell (block_lt_of_cell t2)).trans t2
  have hr7 : RB (w7.alloc (.cells #[.int .u8 5] 5)) (some ⟨w7.heap.size, 0, none⟩) 1 1 [5] := one_rb w7 5 (by omega)
  have h8 : Calls Try.prog 19 #[.slice a1 n1 c1, .slice (some ⟨w7.heap.size, 0, none⟩) 1 1] (w7.alloc (.cells #[.int .u8 5] 5)) fun e w' => e = .returned (.bool true) ∧ Below w6.heap.size w6 w' := by
    refine (same_any ((HR6.out.below hb7).alloc _) hr7).mono ?_
    rintro e w' ⟨rfl, q, rfl⟩
    exact ⟨rfl, hb7.trans (below_drewN ((Below.refl _ _).alloc hb7.size _) _)⟩
  have H8 := Lib.hid h8
  clear t0 t1 t2 hr7 h8 hb7 H7 HR6
  go_wp2_with fail
  refine H8.out.mono ?_
  rintro e w8 ⟨rfl, hb8⟩
  have H9 := Lib.hid (openP (HP6.out.below hb8))
  have HB8 := Lib.hid (HB6.out.trans (hb8.mono (by have := HB6.out.size; omega)))
  clear u2 hb8 H8 HP6 HB6
  go_wp2_with fail
  refine H9.out.mono ?_
  rintro e w9 ⟨rfl, rfl⟩
  go_wp2_with fail
  go_ret
  exact ⟨rfl, HB8.out⟩
/-- A deed, where its bytes lie. -/
structure Dd where
  wh : Int
  tt : Int
  nw : Int
  k : Int
  b : Int
  al : Int
  pl : Int
  a : Option Addr
  n : Nat
  c : Nat
  l : List Nat
instance : Inhabited Dd := ⟨⟨0, 0, 0, 0, 0, 0, 0, none, 0, 0, []⟩⟩
/-- A list of deeds that can be read. -/
structure RD (w : World) (a : Option Addr) (N cap : Nat) (L : List Dd) : Prop where
  len : L.length = N
  le : N ≤ cap
  most : N ≤ 140737488351232
  nil : a = none → cap = 0
  at_ : ∀ k x, L[k]? = some x → ∃ b off, a = some ⟨b, off, none⟩ ∧ w.cell? ⟨b, off + k * 8, none⟩ = some (.int .i64 x.wh) ∧ w.cell? ⟨b, off + k * 8 + 1, none⟩ = some (.int .i64 x.tt) ∧ w.cell? ⟨b, off + k * 8 + 2, none⟩ = some (.int .i64 x.nw) ∧ w.cell? ⟨b, off + k * 8 + 3, none⟩ = some (.int .i64 x.k) ∧ w.cell? ⟨b, off + k * 8 + 4, none⟩ = some (.int .i64 x.b) ∧ w.cell? ⟨b, off + k * 8 + 5, none⟩ = some (.int .i64 x.al) ∧ w.cell? ⟨b, off + k * 8 + 6, none⟩ = some (.int .i64 x.pl) ∧ w.cell? ⟨b, off + k * 8 + 7, none⟩ = some (.slice x.a x.n x.c) ∧ RB w x.a x.n x.c x.l
theorem RD.below {w w' : World} {a : Option Addr} {len cap : Nat} {L : List Dd} (h : RD w a len cap L) (hB : Below w.heap.size w w') : RD w' a len cap L :=
  ⟨h.len, h.le, h.most, h.nil, fun k x hx => by
    obtain ⟨b, off, e, h0, h1, h2, h3, h4, h5, h6, h7, hr⟩ := h.at_ k x hx
    have g := fun {i : Nat} {v : Value} (hc : w.cell? ⟨b, i, none⟩ = some v) => (hB.cell (block_lt_of_cell hc)).trans hc
    exact ⟨b, off, e, g h0, g h1, g h2, g h3, g h4, g h5, g h6, g h7, hr.below hB⟩⟩
/-- How many bytes. -/
def sumD (L : List Dd) : Nat := (L.map (·.n)).foldl (· + ·) 0
theorem foldl_add (l : List Nat) : ∀ s, l.foldl (· + ·) s = s + l.foldl (· + ·) 0 := by
  induction l with
  | nil => intro s; simp
  | cons x l ih => intro s; rw [List.foldl_cons, ih, List.foldl_cons, ih (0 + x)]; omega
theorem sumD_snoc (L : List Dd) (x : Dd) : sumD (L ++ [x]) = sumD L + x.n := by simp [sumD]
theorem sumD_take {L : List Dd} {k : Nat} {x : Dd} (h : L[k]? = some x) : sumD (L.take (k + 1)) = sumD (L.take k) + x.n := by
  rw [List.take_add_one, h]; exact sumD_snoc _ _
theorem sumD_mem {L : List Dd} {x : Dd} (h : x ∈ L) : x.n ≤ sumD L := by
  obtain ⟨a, b, rfl⟩ := List.append_of_mem h
  have : sumD (a ++ x :: b) = sumD (a ++ [x]) + (b.map (·.n)).foldl (· + ·) 0 := by
    unfold sumD
    rw [List.map_append, List.foldl_append, List.map_cons, List.foldl_cons, foldl_add, List.map_append, List.foldl_append]; rfl
  rw [this, sumD_snoc]; omega

set_option maxHeartbeats 4000000 in
set_option maxRecDepth 100000 in
theorem size_any {w : World} {a : Option Addr} {len cap : Nat} {L : List Dd} (h : RD w a len cap L) : Calls Try.prog 33 #[.slice a len cap] w fun e w' => (∃ r : Nat, e = .returned (.int .i64 r) ∧ r ≤ 281474976702464 ∧ (r ≤ 400 → L.length + sumD L = r)) ∧ w = w' := by
  have hm := h.most
  have hl := h.len
  have H := Lib.hid h
  clear h
  go_enter Try.func33, Try.ntmps33
  go_wp2_with fail
  go_loopw [3, 4] (fun s i wr => ∃ k m : Nat, k ≤ len ∧ m ≤ 281474976702464 ∧ i = .int .i64 k ∧ s = .int .i64 m ∧ Hid (m = len + sumD (L.take k)) ∧ w = wr) (fun _ i _ => len - (intOf i).toNat)
  case atStart => exact ⟨0, len, Nat.zero_le _, by omega, rfl, rfl, by simp [sumD, Hid], rfl⟩
  case round =>
    obtain ⟨k, m, hk, hm2, rfl, rfl, HE, rfl⟩ := hrel
    by_cases hlt : k < len
    · by_cases h400 : m ≤ 400
      · obtain ⟨x, hx⟩ : ∃ x, L[k]? = some x := ⟨_, List.getElem?_eq_getElem (by omega)⟩
        obtain ⟨b, off, rfl, _, _, _, _, _, _, _, h7, hr⟩ := H.out.at_ k x hx
        have hxn := hr.most
        have HX := Lib.hid hx
        clear hx hr
        go_wp2_with fail
        go_roundw
        case rel => exact ⟨k + 1, m + x.n, by omega, by omega, by go_num, by go_num, by rw [sumD_take HX.out, HE.out]; exact Nat.add_assoc _ _ _, trivial⟩
        case measure => simp [intOf]; omega
      · go_wp2_with fail
        go_ret
        exact ⟨⟨m, rfl, hm2, fun h => absurd h h400⟩, rfl⟩
    · obtain rfl : k = len := by omega
      go_wp2_with fail
      go_ret
      exact ⟨⟨m, rfl, hm2, fun _ => by rw [HE.out, List.take_of_length_le (by omega), hl]⟩, rfl⟩
end Go.Proofs.Ytfojhmobnedekaa
