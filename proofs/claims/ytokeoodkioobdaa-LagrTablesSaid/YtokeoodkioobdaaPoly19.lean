/- The law PolyDoes: what its callees hand back. Conditions: both rows together have at most 700 bytes. -/
import Derived.Test.YtokeoodkioobdaaFlat6
namespace Go.Proofs.Ytokeoodkioobdaa
open Go.RowKit

def OwnGive (w w' : World) (res : List Nat) (e : Ending) : Prop := ∃ a n c, e = .returned (.slice a n c) ∧ Hid (w'.ownsRow w.heap.size 5 1 (.slice a n c) n (bs res)) ∧ Hid (Below w.heap.size w w') ∧ Hid (n ≤ 100000)
def OwnGive1 (w w' : World) (res : List Nat) (er : Int) (e : Ending) : Prop := ∃ a n c, e = .returned (.tuple #[.slice a n c, .int .i64 er]) ∧ Hid (w'.ownsRow w.heap.size 5 1 (.slice a n c) n (bs res)) ∧ Hid (Below w.heap.size w w') ∧ Hid (n ≤ 100000)
def OwnGive2 (w w' : World) (r1 r2 : List Nat) (er : Int) (e : Ending) : Prop := ∃ a n c a' n' c', e = .returned (.tuple #[.slice a n c, .slice a' n' c', .int .i64 er]) ∧ Hid (w'.ownsRow w.heap.size 5 1 (.slice a n c) n (bs r1)) ∧ Hid (w'.ownsRow w.heap.size 5 1 (.slice a' n' c') n' (bs r2)) ∧ Hid (Unl (.slice a n c) (.slice a' n' c')) ∧ Hid (Below w.heap.size w w') ∧ Hid (n ≤ 100000 ∧ n' ≤ 100000)
def RdGive2 (w w' : World) (r1 r2 : List Nat) (er : Int) (e : Ending) : Prop := ∃ a n c a' n' c', e = .returned (.tuple #[.slice a n c, .slice a' n' c', .int .i64 er]) ∧ Hid (RB w' a n c r1) ∧ Hid (RB w' a' n' c' r2) ∧ Hid (Below w.heap.size w w')

theorem own_rb2 {w : World} {B n c : Nat} {a : Option Addr} {l : List Nat} (h : w.ownsRow B 5 1 (.slice a n c) n (bs l)) (hs : Small l) (hn : n ≤ 140737488351232) : RB w a n c l := by
  obtain ⟨a', c', e, hr⟩ := own_rb h hs hn
  injection e with e1 e2 e3
  subst e1; subst e3
  exact hr
theorem own_len {w : World} {B n : Nat} {v : Value} {l : List Nat} (h : w.ownsRow B 5 1 v n (bs l)) : l.length = n := by have := h.1; rwa [length_bs, Nat.mul_one] at this
theorem own_slice {w : World} {B n : Nat} {v : Value} {xs : List Value} (h : w.ownsRow B 5 1 v n xs) : ∃ a c, v = .slice a n c := by
  rcases h.2 with ⟨rfl, rfl⟩ | ⟨g, cap, cur, rfl, _⟩
  · exact ⟨_, _, rfl⟩
  · exact ⟨_, _, rfl⟩
theorem own_nil (w : World) (B : Nat) : w.ownsRow B 5 1 (.slice none 0 0) 0 (bs []) := ⟨rfl, .inl ⟨rfl, rfl⟩⟩
theorem give_row {w w' : World} {e : Ending} {v : Value} {res : List Nat} (he : e = .returned v) (ho : w'.ownsRow w.heap.size 5 1 v res.length (bs res)) (hl : res.length ≤ 100000) (hB : Below w.heap.size w w') : OwnGive w w' res e := by
  obtain ⟨a, c, rfl⟩ := own_slice ho
  exact ⟨_, _, _, he, ho, hB, hl⟩
theorem give_row1 {w w' : World} {e : Ending} {v : Value} {res : List Nat} {er : Int} (he : e = .returned (.tuple #[v, .int .i64 er])) (ho : w'.ownsRow w.heap.size 5 1 v res.length (bs res)) (hl : res.length ≤ 100000) (hB : Below w.heap.size w w') : OwnGive1 w w' res er e := by
  obtain ⟨a, c, rfl⟩ := own_slice ho
  exact ⟨_, _, _, he, ho, hB, hl⟩
theorem give_none1 {w w' : World} {e : Ending} {er : Int} (he : e = .returned (.tuple #[.slice none 0 0, .int .i64 er])) (hB : Below w.heap.size w w') : OwnGive1 w w' [] er e := ⟨_, _, _, he, own_nil _ _, hB, Nat.zero_le _⟩
theorem give_none2 {w w' : World} {e : Ending} {er : Int} (he : e = .returned (.tuple #[.slice none 0 0, .slice none 0 0, .int .i64 er])) (hB : Below w.heap.size w w') : OwnGive2 w w' [] [] er e :=
  ⟨_, _, _, _, _, _, he, own_nil _ _, own_nil _ _, unl_nil _, hB, Nat.zero_le _, Nat.zero_le _⟩
theorem rb_nil (w : World) : RB w none 0 0 [] := own_rb2 (own_nil w 0) Small.nil (Nat.zero_le _)
theorem read_none2 {w w' : World} {e : Ending} {er : Int} (he : e = .returned (.tuple #[.slice none 0 0, .slice none 0 0, .int .i64 er])) (hB : Below w.heap.size w w') : RdGive2 w w' [] [] er e := ⟨_, _, _, _, _, _, he, rb_nil _, rb_nil _, hB⟩

theorem mul_both {n m : Nat} {x y : List Nat} (hxs : Small x) (hys : Small y) (hx : x.length = n) (hy : y.length = m) (hnm : n + m ≤ 700) : ∃ res : List Nat, ∃ er : Int, Small res ∧
    (∀ w a b c d, RB w a n c x → RB w b m d y → Calls Try.prog 57 #[.slice a n c, .slice b m d] w fun e w' => OwnGive1 w w' res er e) ∧
    (∀ w a b c d, RB w a n c x → RB w b m d y → Calls Try.prog 59 #[.slice a n c, .slice b m d] w fun e w' => OwnGive1 w w' res er e) := by
  by_cases h : 600 < ln x n ∨ 600 < ln y m
  · exact ⟨[], 3, Small.nil, fun w a b c d h1 h2 => (Mul_long h1 h2 h).mono fun e w' ⟨he, hB⟩ => give_none1 he hB, fun w a b c d h1 h2 => (rMul_long h1 h2 h).mono fun e w' ⟨he, hB⟩ => give_none1 he hB⟩
  · have h1 : ln x n ≤ 600 := by omega
    have h2 : ln y m ≤ 600 := by omega
    have hl : (conv (lean y) (lean x)).length ≤ 100000 := by
      have := length_conv (lean y) (lean x)
      have := lean_le x
      have := lean_le y
      omega
    refine ⟨conv (lean y) (lean x), 0, conv_small (lean_small hys), fun w a b c d h3 h4 => (Mul_ok h3 h4 h1 h2).mono fun e w' ⟨v, he, ho, hB⟩ => ?_, fun w a b c d h3 h4 => (rMul_ok h3 h4 h1 h2).mono fun e w' ⟨v, he, ho, hB⟩ => give_row1 he ho hl hB⟩
    rw [mul_ref hxs hys] at ho
    exact give_row1 he ho hl hB
theorem div_both {n m : Nat} {x y : List Nat} (hxs : Small x) (hys : Small y) (hx : x.length = n) (hy : y.length = m) (hnm : n + m ≤ 700) : ∃ r1 r2 : List Nat, ∃ er : Int, Small r1 ∧ Small r2 ∧
    (∀ w a b c d, RB w a n c x → RB w b m d y → Calls Try.prog 58 #[.slice a n c, .slice b m d] w fun e w' => OwnGive2 w w' r1 r2 er e) ∧
    (∀ w a b c d, RB w a n c x → RB w b m d y → Calls Try.prog 60 #[.slice a n c, .slice b m d] w fun e w' => RdGive2 w w' r1 r2 er e) := by
  by_cases h : 600 < ln x n ∨ 600 < ln y m
  · exact ⟨[], [], 3, Small.nil, Small.nil, fun w a b c d h1 h2 => (Div_long h1 h2 h).mono fun e w' ⟨he, hB⟩ => give_none2 he hB, fun w a b c d h1 h2 => (rDiv_early h1 h2 (.inl ⟨rfl, h⟩)).mono fun e w' ⟨he, hB⟩ => read_none2 he hB⟩
  · have h1 : ln x n ≤ 600 := by omega
    have h2 : ln y m ≤ 600 := by omega
    by_cases h0 : ln y m = 0
    · exact ⟨[], [], 6, Small.nil, Small.nil, fun w a b c d h3 h4 => (Div_zero h3 h4 h1 h0).mono fun e w' ⟨he, hB⟩ => give_none2 he hB, fun w a b c d h3 h4 => (rDiv_early h3 h4 (.inr ⟨rfl, h1, h0⟩)).mono fun e w' ⟨he, hB⟩ => read_none2 he hB⟩
    · have h0 : 0 < ln y m := by omega
      have hd := dvAll_ok hxs hys (by rw [hy]; exact h0)
      rw [hy] at hd
      have hl := dvAll_len x y m
      have l1 := lean_le (dvAll x y m).1
      have l2 := lean_le (dvAll x y m).2
      refine ⟨lean (dvAll x y m).1, lean (dvAll x y m).2, 0, lean_small hd.1, lean_small hd.2.1, fun w a b c d h3 h4 => (Div_ok h3 h4 h1 h2 h0).mono fun e w' ⟨u, v, he, hu, hv, hne, hB⟩ => ?_, fun w a b c d h3 h4 => (rDiv_ok h3 h4 h1 h2 h0).mono fun e w' ⟨a1, n1, c1, a2, n2, c2, he, r1, r2, hB⟩ => ⟨a1, n1, c1, a2, n2, c2, he, r1, r2, hB⟩⟩
      obtain ⟨a1, c1, rfl⟩ := own_slice hu
      obtain ⟨a2, c2, rfl⟩ := own_slice hv
      exact ⟨_, _, _, _, _, _, he, hu, hv, hne, hB, (by show (lean (dvAll x y m).1).length ≤ _; omega), (by show (lean (dvAll x y m).2).length ≤ _; omega)⟩
theorem lean_both {n : Nat} {x : List Nat} (hx : x.length = n) (hn : n ≤ 700) :
    (∀ w a c, RB w a n c x → Calls Try.prog 47 #[.slice a n c] w fun e w' => OwnGive w w' (lean x) e) ∧ (∀ w a c, RB w a n c x → Calls Try.prog 62 #[.slice a n c] w fun e w' => OwnGive w w' (lean x) e) := by
  have hl : (lean x).length ≤ 100000 := by have := lean_le x; omega
  exact ⟨fun w a c h => (Lean_any h).mono fun e w' ⟨v, he, ho, hB⟩ => give_row he ho hl hB, fun w a c h => (rLean_any h).mono fun e w' ⟨v, he, ho, hB⟩ => give_row he ho hl hB⟩
theorem add_both {n m : Nat} {x y : List Nat} (hxs : Small x) (hys : Small y) (hx : x.length = n) (hy : y.length = m) (hnm : n + m ≤ 700) : ∃ res : List Nat, Small res ∧
    (∀ w a b c d, RB w a n c x → RB w b m d y → Calls Try.prog 56 #[.slice a n c, .slice b m d] w fun e w' => OwnGive w w' res e) ∧
    (∀ w a b c d, RB w a n c x → RB w b m d y → Calls Try.prog 61 #[.slice a n c, .slice b m d] w fun e w' => OwnGive w w' res e) := by
  have hl : (lean (sumTo x y (max n m) m)).length ≤ 100000 := by
    have := lean_le (sumTo x y (max n m) m)
    rw [length_sumTo (by omega)] at this
    omega
  exact ⟨lean (sumTo x y (max n m) m), lean_small (sumTo_small hxs hys (by omega) _ (by omega)), fun w a b c d h1 h2 => (Add_any (N := max n m) h1 h2 (by omega) (by omega) (by omega) (by omega)).mono fun e w' ⟨v, he, ho, hB⟩ => give_row he ho hl hB,
    fun w a b c d h1 h2 => (rAdd_any (N := max n m) h1 h2 (by omega) (by omega) (by omega) (by omega)).mono fun e w' ⟨v, he, ho, hB⟩ => give_row he ho hl hB⟩
end Go.Proofs.Ytokeoodkioobdaa

/- The walk of the law PolyDoes. No condition but the rows' places. -/
namespace Go.Proofs.Ytokeoodkioobdaa
open Go.RowKit

/-- What holds between the law's calls. -/
structure DoesSt (w0 : World) (a b : Option Addr) (n m c d : Nat) (x y : List Nat) (g1 g2 : Nat) (rs : List R1) (w : World) : Prop where
  made : Made w0.heap.size rs w
  l1 : LentAt w g1 x
  l2 : LentAt w g2 y
  p : RB w a n c x
  q : RB w b m d y
  bel : Below w0.heap.size w0 w
section
variable {w0 w w' : World} {a b : Option Addr} {n m c d : Nat} {x y : List Nat} {g1 g2 : Nat} {rs : List R1}
theorem DoesSt.below (h : DoesSt w0 a b n m c d x y g1 g2 rs w) (hB : Below w.heap.size w w') : DoesSt w0 a b n m c d x y g1 g2 rs w' :=
  ⟨h.made.below hB, h.l1.below hB h.l1.lt, h.l2.below hB h.l2.lt, h.p.below hB, h.q.below hB, h.bel.trans (hB.mono h.bel.size)⟩
theorem DoesSt.drewN (h : DoesSt w0 a b n m c d x y g1 g2 rs w) (q : Nat) : DoesSt w0 a b n m c d x y g1 g2 rs (w.drewN q) := h.below (below_drewN (Below.refl _ _) q)
theorem DoesSt.add {k e : Nat} {f : Option Addr} {l : List Nat} (h : DoesSt w0 a b n m c d x y g1 g2 rs w) (hB : Below w.heap.size w w') (ho : w'.ownsRow w.heap.size 5 1 (.slice f k e) k (bs l)) : DoesSt w0 a b n m c d x y g1 g2 (rs ++ [⟨f, k, e, l⟩]) w' :=
  { h.below hB with made := h.made.add hB h.bel.size ho }
theorem DoesSt.add2 {k e k2 e2 : Nat} {f f2 : Option Addr} {l l2 : List Nat} (h : DoesSt w0 a b n m c d x y g1 g2 rs w) (hB : Below w.heap.size w w') (ho : w'.ownsRow w.heap.size 5 1 (.slice f k e) k (bs l)) (ho2 : w'.ownsRow w.heap.size 5 1 (.slice f2 k2 e2) k2 (bs l2)) (hu : Unl (.slice f k e) (.slice f2 k2 e2)) :
    DoesSt w0 a b n m c d x y g1 g2 (rs ++ [⟨f, k, e, l⟩, ⟨f2, k2, e2, l2⟩]) w' :=
  { h.below hB with made := h.made.add2 hB h.bel.size ho ho2 hu }
theorem DoesSt.row {k e : Nat} {f : Option Addr} {l : List Nat} (h : DoesSt w0 a b n m c d x y g1 g2 rs w) (hr : (⟨f, k, e, l⟩ : R1) ∈ rs) (hs : Small l) (hk : k ≤ 100000) : RB w f k e l := own_rb2 (h.made.own _ hr) hs (by omega)
end
theorem lent_own {w : World} {B g : Nat} {l : List Nat} {n : Nat} (h : LentAt w g l) (hn : l.length = n) (hm : n ≤ 1000000) (hB : B ≤ g) : w.ownsRow B 5 1 (.slice (some ⟨g, 0, none⟩) n (n + 12)) n (bs l) := by
  subst hn
  refine ⟨by rw [length_bs, Nat.mul_one], .inr ⟨g, l.length + 12, _, rfl, hB, h, by omega, by unfold maxLen; omega, by simp [bs, marks], ?_⟩⟩
  simp [bs]

set_option maxHeartbeats 1600000 in
set_option maxRecDepth 100000 in
theorem does_great {w : World} {a b : Option Addr} {n m c d t : Nat} {x y : List Nat} (hx : RB w a n c x) (hy : RB w b m d y) (h : 700 < n + m) :
    Calls Try.prog 12 #[.slice a n c, .slice b m d, .int .u8 (t : Nat)] w fun e w' => e = .returned (.bool true) ∧ Below w.heap.size w w' := by
  have hm1 := hx.most
  have hm2 := hy.most
  have hd : decide ((700 : Int) < (n : Int) + (m : Int)) = true := by simp; omega
  clear hx hy
  go_enter Try.func12, Try.ntmps12
  go_wp2_with (go_at_call 41; ((with_reducible refine (awake2 _).mono ?_); rintro e w3 ⟨rfl, hB3⟩; have HB3 := Lib.hid hB3; clear hB3))
  go_ret
  exact ⟨rfl, HB3.out⟩

set_option maxHeartbeats 6000000 in
set_option maxRecDepth 100000 in
theorem does_small {w : World} {a b : Option Addr} {n m c d t : Nat} {x y : List Nat} (ht : t < 256) (hx : RB w a n c x) (hy : RB w b m d y) (h : n + m ≤ 700) :
    Calls Try.prog 12 #[.slice a n c, .slice b m d, .int .u8 (t : Nat)] w fun e w' => e = .returned (.bool true) ∧ Below w.heap.size w w' := by
  have hd : decide ((700 : Int) < (n : Int) + (m : Int)) = false := by simp; omega
  obtain ⟨rs, hss, hs1, hs2⟩ := add_both hx.small hy.small hx.len hy.len h
  obtain ⟨rm, em, hms, hm1, hm2⟩ := mul_both hx.small hy.small hx.len hy.len h
  obtain ⟨rd, rr, ed, hds, hrs, hd1, hd2⟩ := div_both hx.small hy.small hx.len hy.len h
  obtain ⟨hl1, hl2⟩ := lean_both hx.len (by omega : n ≤ 700)
  have HS1 := Lib.hid hs1
  have HS2 := Lib.hid hs2
  have HM1 := Lib.hid hm1
  have HM2 := Lib.hid hm2
  have HD1 := Lib.hid hd1
  have HD2 := Lib.hid hd2
  have HL1 := Lib.hid hl1
  have HL2 := Lib.hid hl2
  have HSm := Lib.hid (And.intro hss (And.intro hms (And.intro hds (And.intro hrs (lean_small hx.small)))))
  have hxl := hx.len
  have hyl := hy.len
  have HLen := Lib.hid (And.intro hxl hyl)
  have HXY := Lib.hid (And.intro hx.small hy.small)
  have HX := Lib.hid hx
  have HY := Lib.hid hy
  clear hx hy hs1 hs2 hm1 hm2 hd1 hd2 hl1 hl2 hss hms hds hrs hxl hyl
  go_enter Try.func12, Try.ntmps12
  go_wp2_with fail
  refine (lent_any HX.out).mono ?_
  rintro e w1 ⟨g1, rfl, hg1, hL1, hB1⟩
  have HB1 := Lib.hid hB1
  have HK1 := Lib.hid hL1
  clear hB1 hL1
  go_wp2_with fail
  refine (lent_any (HY.out.below HB1.out)).mono ?_
  rintro e w2 ⟨g2, rfl, hg2, hL2, hB2⟩
  have HS := Lib.hid (DoesSt.mk (w0 := w) (rs := [⟨some ⟨g1, 0, none⟩, n, n + 12, x⟩, ⟨some ⟨g2, 0, none⟩, m, m + 12, y⟩])
    (((Made.nil w.heap.size w).add HB1.out (Nat.le_refl _) (lent_own (HK1.out : LentAt w1 g1 x) HLen.out.1 (by omega) hg1)).add hB2 HB1.out.size (lent_own (hL2 : LentAt w2 g2 y) HLen.out.2 (by omega) hg2))
    (LentAt.below HK1.out hB2 (LentAt.lt HK1.out)) hL2 ((HX.out.below HB1.out).below hB2) ((HY.out.below HB1.out).below hB2) (HB1.out.trans (hB2.mono HB1.out.size)))
  clear hB2 hL2 HB1 HK1 hg1 hg2 HX HY
  have k3 := Lib.hid (HS1.out w2 _ _ _ _ (HS.out.row (f := some ⟨g1, 0, none⟩) (k := n) (e := n + 12) (by simp) HXY.out.1 (by omega)) (HS.out.row (f := some ⟨g2, 0, none⟩) (k := m) (e := m + 12) (by simp) HXY.out.2 (by omega)))
  go_wp2_with fail
  refine k3.out.mono ?_
  rintro e w3 ⟨as_, ns, cs, rfl, ho3, hB3, hn3⟩
  have HS3 := Lib.hid (HS.out.add hB3.out ho3.out)
  clear k3 ho3 hB3 HS
  have k4 := Lib.hid (HM1.out w3 _ _ _ _ (HS3.out.row (f := some ⟨g1, 0, none⟩) (k := n) (e := n + 12) (by simp) HXY.out.1 (by omega)) (HS3.out.row (f := some ⟨g2, 0, none⟩) (k := m) (e := m + 12) (by simp) HXY.out.2 (by omega)))
  go_wp2_with fail
  refine k4.out.mono ?_
  rintro e w4 ⟨am, nm, cm, rfl, ho4, hB4, hn4⟩
  have HS4 := Lib.hid (HS3.out.add hB4.out ho4.out)
  clear k4 ho4 hB4 HS3
  have k5 := Lib.hid (HD1.out w4 _ _ _ _ (HS4.out.row (f := some ⟨g1, 0, none⟩) (k := n) (e := n + 12) (by simp) HXY.out.1 (by omega)) (HS4.out.row (f := some ⟨g2, 0, none⟩) (k := m) (e := m + 12) (by simp) HXY.out.2 (by omega)))
  go_wp2_with fail
  refine k5.out.mono ?_
  rintro e w5 ⟨ad, nd, cd, ar, nr, cr, rfl, ho5, hp5, hu5, hB5, hn5⟩
  have HS5 := Lib.hid (HS4.out.add2 hB5.out ho5.out hp5.out hu5.out)
  clear k5 ho5 hp5 hu5 hB5 HS4
  have k6 := Lib.hid (HL1.out w5 _ _ (HS5.out.row (f := some ⟨g1, 0, none⟩) (k := n) (e := n + 12) (by simp) HXY.out.1 (by omega)))
  go_wp2_with fail
  refine k6.out.mono ?_
  rintro e w6 ⟨al, nl, cl, rfl, ho6, hB6, hn6⟩
  have HS6 := Lib.hid (HS5.out.add hB6.out ho6.out)
  clear k6 ho6 hB6 HS5
  have k7 := Lib.hid (HM2.out w6 _ _ _ _ HS6.out.p HS6.out.q)
  go_wp2_with fail
  refine k7.out.mono ?_
  rintro e w7 ⟨am2, nm2, cm2, rfl, ho7, hB7, hn7⟩
  have HS7 := Lib.hid (HS6.out.below hB7.out)
  have HM7 := Lib.hid (own_rb2 ho7.out HSm.out.2.1 (by have := hn7.out; omega))
  clear k7 ho7 hB7 HS6 hn7
  have k8 := Lib.hid (HD2.out w7 _ _ _ _ HS7.out.p HS7.out.q)
  go_wp2_with fail
  refine k8.out.mono ?_
  rintro e w8 ⟨ad2, nd2, cd2, ar2, nr2, cr2, rfl, hp8, hq8, hB8⟩
  have HS8 := Lib.hid (HS7.out.below hB8.out)
  have HM8 := Lib.hid (HM7.out.below hB8.out)
  clear k8 hB8 HS7 HM7
  have k9 : Hid (Calls Try.prog 44 #[.slice am nm cm, .slice am2 nm2 cm2] w8 fun e w' => e = .returned (.bool true) ∧ Drawn w8 w') := (same_any (HS8.out.row (f := am) (k := nm) (e := cm) (l := rm) (by simp) HSm.out.2.1 hn4.out) HM8.out).mono fun e w' ⟨h1, h2⟩ => ⟨by rw [h1]; simp, h2⟩
  go_wp2_with fail
  refine k9.out.mono ?_
  rintro e w9 ⟨rfl, q9, rfl⟩
  have HS9 := Lib.hid (HS8.out.drewN q9)
  have HD9 := Lib.hid (hp8.out.drewN q9)
  have HR9 := Lib.hid (hq8.out.drewN q9)
  clear k9 HS8 hp8 hq8 HM8
  generalize w8.drewN q9 = v9 at *
  have k10 : Hid (Calls Try.prog 44 #[.slice ad nd cd, .slice ad2 nd2 cd2] v9 fun e w' => e = .returned (.bool true) ∧ Drawn v9 w') := (same_any (HS9.out.row (f := ad) (k := nd) (e := cd) (l := rd) (by simp) HSm.out.2.2.1 hn5.out.1) HD9.out).mono fun e w' ⟨h1, h2⟩ => ⟨by rw [h1]; simp, h2⟩
  go_wp2_with fail
  refine k10.out.mono ?_
  rintro e w10 ⟨rfl, q10, rfl⟩
  have HS10 := Lib.hid (HS9.out.drewN q10)
  have HR10 := Lib.hid (HR9.out.drewN q10)
  clear k10 HS9 HR9 HD9
  generalize v9.drewN q10 = v10 at *
  have k11 : Hid (Calls Try.prog 44 #[.slice ar nr cr, .slice ar2 nr2 cr2] v10 fun e w' => e = .returned (.bool true) ∧ Drawn v10 w') := (same_any (HS10.out.row (f := ar) (k := nr) (e := cr) (l := rr) (by simp) HSm.out.2.2.2.1 hn5.out.2) HR10.out).mono fun e w' ⟨h1, h2⟩ => ⟨by rw [h1]; simp, h2⟩
  go_wp2_with fail
  refine k11.out.mono ?_
  rintro e w11 ⟨rfl, q11, rfl⟩
  have HS11 := Lib.hid (HS10.out.drewN q11)
  clear k11 HS10 HR10
  generalize v10.drewN q11 = v11 at *
  have k12 := Lib.hid (HS2.out v11 _ _ _ _ HS11.out.p HS11.out.q)
  go_wp2_with fail
  refine k12.out.mono ?_
  rintro e w12 ⟨as2, ns2, cs2, rfl, ho12, hB12, hn12⟩
  have HS12 := Lib.hid (HS11.out.below hB12.out)
  have HT12 := Lib.hid (own_rb2 ho12.out HSm.out.1 (by have := hn12.out; omega))
  clear k12 ho12 hB12 HS11 hn12
  have k13 : Hid (Calls Try.prog 44 #[.slice as_ ns cs, .slice as2 ns2 cs2] w12 fun e w' => e = .returned (.bool true) ∧ Drawn w12 w') := (same_any (HS12.out.row (f := as_) (k := ns) (e := cs) (l := rs) (by simp) HSm.out.1 hn3.out) HT12.out).mono fun e w' ⟨h1, h2⟩ => ⟨by rw [h1]; simp, h2⟩
  go_wp2_with fail
  refine k13.out.mono ?_
  rintro e w13 ⟨rfl, q13, rfl⟩
  have HS13 := Lib.hid (HS12.out.drewN q13)
  clear k13 HS12 HT12
  generalize w12.drewN q13 = v13 at *
  have k14 := Lib.hid (HL2.out v13 _ _ HS13.out.p)
  go_wp2_with fail
  refine k14.out.mono ?_
  rintro e w14 ⟨al2, nl2, cl2, rfl, ho14, hB14, hn14⟩
  have HS14 := Lib.hid (HS13.out.below hB14.out)
  have HT14 := Lib.hid (own_rb2 ho14.out HSm.out.2.2.2.2 (by have := hn14.out; omega))
  clear k14 ho14 hB14 HS13 hn14
  have k15 : Hid (Calls Try.prog 44 #[.slice al nl cl, .slice al2 nl2 cl2] w14 fun e w' => e = .returned (.bool true) ∧ Drawn w14 w') := (same_any (HS14.out.row (f := al) (k := nl) (e := cl) (l := lean x) (by simp) HSm.out.2.2.2.2 hn6.out) HT14.out).mono fun e w' ⟨h1, h2⟩ => ⟨by rw [h1]; simp, h2⟩
  go_wp2_with fail
  refine k15.out.mono ?_
  rintro e w15 ⟨rfl, q15, rfl⟩
  have HS15 := Lib.hid (HS14.out.drewN q15)
  clear k15 HS14 HT14
  generalize w14.drewN q15 = v15 at *
  have hva : vl x t = sval x t n := by rw [vl_ev ht HXY.out.1, ← sval_ev ht HXY.out.1, HLen.out.1]
  have k16 := Lib.hid (Value_give ht (HS15.out.row (f := some ⟨g1, 0, none⟩) (k := n) (e := n + 12) (by simp) HXY.out.1 (by omega)))
  rw [hva] at k16
  clear hva
  go_wp2_with fail
  refine k16.out.mono ?_
  rintro e w16 ⟨rfl, hB16⟩
  have HS16 := Lib.hid (HS15.out.below hB16)
  clear k16 hB16 HS15
  have k17 := Lib.hid (rValue_any ht HS16.out.p)
  generalize sval x t n = va at *
  go_wp2_with fail
  refine k17.out.mono ?_
  rintro e w17 ⟨rfl, rfl⟩
  clear k17
  have k18 := Lib.hid (kept_any HS16.out.p HS16.out.l1)
  go_wp2_with fail
  refine k18.out.mono ?_
  rintro e w18 ⟨rfl, q18, rfl⟩
  have HS18 := Lib.hid (HS16.out.drewN q18)
  clear k18 HS16
  generalize w16.drewN q18 = v18 at *
  have k19 := Lib.hid (kept_any HS18.out.q HS18.out.l2)
  go_wp2_with fail
  refine k19.out.mono ?_
  rintro e w19 ⟨rfl, q19, rfl⟩
  have HS19 := Lib.hid (HS18.out.drewN q19)
  clear k19 HS18
  generalize v18.drewN q19 = v19 at *
  have k20 := Lib.hid (rows_apart_new (C := 7) HS19.out.made HS19.out.bel.size (by
    intro r hr
    simp only [List.cons_append, List.nil_append, List.mem_cons, List.not_mem_nil, or_false] at hr
    have h3 := hn3.out
    have h4 := hn4.out
    have h5 := hn5.out
    have h6 := hn6.out
    rcases hr with rfl | rfl | rfl | rfl | rfl | rfl | rfl <;> simp only <;> omega) (by simp))
  go_wp2_with fail
  refine k20.out.mono ?_
  rintro e w20 ⟨rfl, hB20⟩
  have HB20 := Lib.hid (HS19.out.bel.trans hB20)
  clear k20 hB20 HS19
  go_wp2_with fail
  refine (awake2 _).mono ?_
  rintro e w21 ⟨rfl, hB21⟩
  have HB21 := Lib.hid (HB20.out.trans (hB21.mono HB20.out.size))
  clear hB21 HB20
  go_wp2_with fail
  go_ret
  exact ⟨rfl, HB21.out⟩
end Go.Proofs.Ytokeoodkioobdaa
