/- The walk of the law LagrDoes. Conditions: the rows' places; rows of at most 24 bytes are gone through. -/
import Derived.Test.YtokeoodkioobdaaLr1
namespace Go.Proofs.Ytokeoodkioobdaa
open Go.RowKit

theorem own_cells {w : World} {g n : Nat} {l : List Nat} (h : w.heap[g]? = some (.cells (bs l).toArray 5 (0, 0))) (hn : l.length = n) (hm : n ≤ 1000000) {B : Nat} (hB : B ≤ g) : w.ownsRow B 5 1 (.slice (some ⟨g, 0, none⟩) n n) n (bs l) := by
  subst hn
  refine ⟨by rw [length_bs, Nat.mul_one], .inr ⟨g, l.length, _, rfl, hB, h, Nat.le_refl _, by unfold maxLen; omega, by simp [bs], ?_⟩⟩
  rw [Nat.mul_one]
  exact List.take_of_length_le (by rw [length_bs]; exact Nat.le_refl _)
theorem weights_both {n t : Nat} {l : List Nat} (ht : t < 256) (hl : l.length = n) (hn : n ≤ 24) : ∃ res : List Nat, ∃ er : Int, Small res ∧
    (∀ w a c, RB w a n c l → Calls Try.prog 49 #[.slice a n c, .int .u8 (t : Nat)] w fun e w' => OwnGive1 w w' res er e) ∧
    (∀ w a c, RB w a n c l → Calls Try.prog 50 #[.slice a n c, .int .u8 (t : Nat)] w fun e w' => OwnGive1 w w' res er e) := by
  by_cases h : l.Nodup
  · refine ⟨wts l n t, 0, wts_small _ _ _, fun w a c h1 => (Weights_ok ht h1 h).mono fun e w' ⟨g, he, hg, hh, hB⟩ => ⟨_, _, _, he, own_cells hh (length_wts _ _ _) (by omega) hg, hB, (by show n ≤ 100000; omega)⟩, fun w a c h1 => (rwts_ok ht h1 h (by omega)).mono fun e w' ⟨v, he, ho, hB⟩ => ?_⟩
    obtain ⟨a1, c1, rfl⟩ := own_slice ho
    exact ⟨_, _, _, he, ho, hB, (by show n ≤ 100000; omega)⟩
  · exact ⟨[], 9, Small.nil, fun w a c h1 => (Weights_twice h1 h).mono fun e w' ⟨he, hB⟩ => give_none1 he hB, fun w a c h1 => (rwts_twice h1 h (by omega)).mono fun e w' ⟨he, hB⟩ => give_none1 he hB⟩
theorem values_both {n m k : Nat} {l v xs : List Nat} (hl : l.length = n) (hx : xs.length = k) (hn : n ≤ 24) (hk : k ≤ 24) : ∃ res : List Nat, ∃ er : Int, Small res ∧
    (∀ w a b d c c2 c3, RB w a n c l → RB w b m c2 v → RB w d k c3 xs → Calls Try.prog 51 #[.slice a n c, .slice b m c2, .slice d k c3] w fun e w' => OwnGive1 w w' res er e) ∧
    (∀ w a b d c c2 c3, RB w a n c l → RB w b m c2 v → RB w d k c3 xs → Calls Try.prog 52 #[.slice a n c, .slice b m c2, .slice d k c3] w fun e w' => OwnGive1 w w' res er e) := by
  by_cases e : n = m
  · subst e
    by_cases h : l.Nodup
    · refine ⟨lvals l v n xs, 0, lvals_small _ _ _ _, fun w a b d c c2 c3 h1 h2 h3 => (Values_ok h1 h2 h3 h).mono fun e w' ⟨u, he, ho, hB⟩ => ?_, fun w a b d c c2 c3 h1 h2 h3 => (rvals_ok h1 h2 h3 h (by omega)).mono fun e w' ⟨u, he, ho, hB⟩ => ?_⟩
      · obtain ⟨a1, c1, rfl⟩ := own_slice ho
        exact ⟨_, _, _, he, ho, hB, (by show k ≤ 100000; omega)⟩
      · obtain ⟨a1, c1, rfl⟩ := own_slice ho
        exact ⟨_, _, _, he, ho, hB, (by show k ≤ 100000; omega)⟩
    · exact ⟨[], 9, Small.nil, fun w a b d c c2 c3 h1 _ _ => (Values_twice h1 h).mono fun e w' ⟨he, hB⟩ => give_none1 he hB, fun w a b d c c2 c3 h1 _ _ => (rvals_twice h1 h).mono fun e w' ⟨he, hB⟩ => give_none1 he hB⟩
  · exact ⟨[], 2, Small.nil, fun w a b d c c2 c3 _ _ _ => (Values_arg e).mono fun e w' ⟨he, hB⟩ => give_none1 he hB, fun w a b d c c2 c3 _ _ _ => (rvals_arg e).mono fun e w' ⟨he, hB⟩ => give_none1 he hB⟩
theorem value_both {n m t : Nat} {l v : List Nat} (ht : t < 256) (hn : n ≤ 24) : ∃ res : Nat, ∃ er : Int,
    (∀ w a b c c2, RB w a n c l → RB w b m c2 v → Calls Try.prog 53 #[.slice a n c, .slice b m c2, .int .u8 (t : Nat)] w fun e w' => e = .returned (.tuple #[.int .u8 (res : Nat), .int .i64 er]) ∧ Below w.heap.size w w') ∧
    (∀ w a b c c2, RB w a n c l → RB w b m c2 v → Calls Try.prog 54 #[.slice a n c, .slice b m c2, .int .u8 (t : Nat)] w fun e w' => e = .returned (.tuple #[.int .u8 (res : Nat), .int .i64 er]) ∧ Below w.heap.size w w') := by
  by_cases e : n = m
  · subst e
    by_cases h : l.Nodup
    · exact ⟨lval l v n t, 0, fun w a b c c2 h1 h2 => Value_ok ht h1 h2 h, fun w a b c c2 h1 h2 => rval_ok ht h1 h2 h (by omega)⟩
    · exact ⟨0, 9, fun w a b c c2 h1 _ => Value_twice h1 h, fun w a b c c2 h1 _ => rval_twice h1 h⟩
  · exact ⟨0, 2, fun w a b c c2 _ _ => Value_arg e, fun w a b c c2 _ _ => rval_arg e⟩

/-- What holds between the law's calls. -/
structure LDoes (w0 : World) (a b d : Option Addr) (n m k ca cb cd : Nat) (x y z : List Nat) (g1 g2 g3 : Nat) (rs : List R1) (w : World) : Prop where
  made : Made w0.heap.size rs w
  l1 : LentAt w g1 x
  l2 : LentAt w g2 y
  l3 : LentAt w g3 z
  p : RB w a n ca x
  q : RB w b m cb y
  r : RB w d k cd z
  bel : Below w0.heap.size w0 w
section
variable {w0 w w' : World} {a b d : Option Addr} {n m k ca cb cd : Nat} {x y z : List Nat} {g1 g2 g3 : Nat} {rs : List R1}
theorem LDoes.below (h : LDoes w0 a b d n m k ca cb cd x y z g1 g2 g3 rs w) (hB : Below w.heap.size w w') : LDoes w0 a b d n m k ca cb cd x y z g1 g2 g3 rs w' :=
  ⟨h.made.below hB, h.l1.below hB h.l1.lt, h.l2.below hB h.l2.lt, h.l3.below hB h.l3.lt, h.p.below hB, h.q.below hB, h.r.below hB, h.bel.trans (hB.mono h.bel.size)⟩
theorem LDoes.drewN (h : LDoes w0 a b d n m k ca cb cd x y z g1 g2 g3 rs w) (q : Nat) : LDoes w0 a b d n m k ca cb cd x y z g1 g2 g3 rs (w.drewN q) := h.below (below_drewN (Below.refl _ _) q)
theorem LDoes.add {j e : Nat} {f : Option Addr} {l : List Nat} (h : LDoes w0 a b d n m k ca cb cd x y z g1 g2 g3 rs w) (hB : Below w.heap.size w w') (ho : w'.ownsRow w.heap.size 5 1 (.slice f j e) j (bs l)) : LDoes w0 a b d n m k ca cb cd x y z g1 g2 g3 (rs ++ [⟨f, j, e, l⟩]) w' :=
  { h.below hB with made := h.made.add hB h.bel.size ho }
theorem LDoes.row {j e : Nat} {f : Option Addr} {l : List Nat} (h : LDoes w0 a b d n m k ca cb cd x y z g1 g2 g3 rs w) (hr : (⟨f, j, e, l⟩ : R1) ∈ rs) (hs : Small l) (hk : j ≤ 100000) : RB w f j e l := own_rb2 (h.made.own _ hr) hs (by omega)
end

set_option maxHeartbeats 1600000 in
set_option maxRecDepth 100000 in
theorem ldoes_great {w : World} {a b d : Option Addr} {n m k ca cb cd t : Nat} (h1 : n ≤ 140737488351232) (h2 : m ≤ 140737488351232) (h3 : k ≤ 140737488351232) (h : 24 < n ∨ 24 < m ∨ 24 < k) :
    Calls Try.prog 10 #[.slice a n ca, .slice b m cb, .slice d k cd, .int .u8 (t : Nat)] w fun e w' => e = .returned (.bool true) ∧ Below w.heap.size w w' := by
  by_cases e1 : 24 < n
  · have d1 : decide ((24 : Int) < (n : Int)) = true := by simp; omega
    clear h e1
    go_enter Try.func10, Try.ntmps10
    go_wp2_with (go_at_call 48; ((with_reducible refine (awake4 _).mono ?_); rintro e w3 ⟨rfl, hB3⟩; have HB3 := Lib.hid hB3; clear hB3))
    go_ret
    exact ⟨rfl, HB3.out⟩
  · have d1 : decide ((24 : Int) < (n : Int)) = false := by simp; omega
    by_cases e2 : 24 < m
    · have d2 : decide ((24 : Int) < (m : Int)) = true := by simp; omega
      clear h e1 e2
      go_enter Try.func10, Try.ntmps10
      go_wp2_with (go_at_call 48; ((with_reducible refine (awake4 _).mono ?_); rintro e w3 ⟨rfl, hB3⟩; have HB3 := Lib.hid hB3; clear hB3))
      go_ret
      exact ⟨rfl, HB3.out⟩
    · have d2 : decide ((24 : Int) < (m : Int)) = false := by simp; omega
      have d3 : decide ((24 : Int) < (k : Int)) = true := by simp; omega
      clear h e1 e2
      go_enter Try.func10, Try.ntmps10
      go_wp2_with (go_at_call 48; ((with_reducible refine (awake4 _).mono ?_); rintro e w3 ⟨rfl, hB3⟩; have HB3 := Lib.hid hB3; clear hB3))
      go_ret
      exact ⟨rfl, HB3.out⟩

set_option maxHeartbeats 6000000 in
set_option maxRecDepth 100000 in
theorem ldoes_small {w : World} {a b d : Option Addr} {n m k ca cb cd t : Nat} {x y z : List Nat} (ht : t < 256) (hx : RB w a n ca x) (hy : RB w b m cb y) (hz : RB w d k cd z) (h1 : n ≤ 24) (h2 : m ≤ 24) (h3 : k ≤ 24) :
    Calls Try.prog 10 #[.slice a n ca, .slice b m cb, .slice d k cd, .int .u8 (t : Nat)] w fun e w' => e = .returned (.bool true) ∧ Below w.heap.size w w' := by
  have d1 : decide ((24 : Int) < (n : Int)) = false := by simp; omega
  have d2 : decide ((24 : Int) < (m : Int)) = false := by simp; omega
  have d3 : decide ((24 : Int) < (k : Int)) = false := by simp; omega
  have d1' : decide (24 < n) = false := by simp; omega
  have d2' : decide (24 < m) = false := by simp; omega
  have d3' : decide (24 < k) = false := by simp; omega
  obtain ⟨rw_, ew, hws, hw1, hw2⟩ := weights_both ht hx.len h1
  obtain ⟨rv, ev_, hvs, hv1, hv2⟩ := values_both (m := m) (v := y) hx.len hz.len h1 h3
  obtain ⟨ru, eu, hu1, hu2⟩ := value_both (l := x) (v := y) (m := m) ht h1
  have HW1 := Lib.hid hw1
  have HW2 := Lib.hid hw2
  have HV1 := Lib.hid hv1
  have HV2 := Lib.hid hv2
  have HU1 := Lib.hid hu1
  have HU2 := Lib.hid hu2
  have HSm := Lib.hid (And.intro hws hvs)
  have hxl := hx.len
  have hyl := hy.len
  have hzl := hz.len
  have HLen := Lib.hid (And.intro hxl (And.intro hyl hzl))
  have HXY := Lib.hid (And.intro hx.small (And.intro hy.small hz.small))
  have HX := Lib.hid hx
  have HY := Lib.hid hy
  have HZ := Lib.hid hz
  clear hx hy hz hw1 hw2 hv1 hv2 hu1 hu2 hws hvs hxl hyl hzl
  go_enter Try.func10, Try.ntmps10
  go_wp2_with fail
  refine (lent_any HX.out).mono ?_
  rintro e w1 ⟨g1, rfl, hg1, hL1, hB1⟩
  have HB1 := Lib.hid hB1
  have HK1 := Lib.hid hL1
  clear hB1 hL1
  go_wp2_with fail
  refine (lent_any (HY.out.below HB1.out)).mono ?_
  rintro e w2 ⟨g2, rfl, hg2, hL2, hB2⟩
  have HB2 := Lib.hid hB2
  have HK2 := Lib.hid hL2
  clear hB2 hL2
  go_wp2_with fail
  refine (lent_any ((HZ.out.below HB1.out).below HB2.out)).mono ?_
  rintro e w3 ⟨g3, rfl, hg3, hL3, hB3⟩
  have HB12 := Lib.hid (HB1.out.trans (HB2.out.mono HB1.out.size))
  have HS := Lib.hid (LDoes.mk (w0 := w) (rs := [⟨some ⟨g1, 0, none⟩, n, n + 12, x⟩, ⟨some ⟨g2, 0, none⟩, m, m + 12, y⟩, ⟨some ⟨g3, 0, none⟩, k, k + 12, z⟩])
    ((((Made.nil w.heap.size w).add HB1.out (Nat.le_refl _) (lent_own (HK1.out : LentAt w1 g1 x) HLen.out.1 (by omega) hg1)).add HB2.out HB1.out.size (lent_own (HK2.out : LentAt w2 g2 y) HLen.out.2.1 (by omega) hg2)).add hB3 HB12.out.size (lent_own (hL3 : LentAt w3 g3 z) HLen.out.2.2 (by omega) hg3))
    (LentAt.below (LentAt.below HK1.out HB2.out (LentAt.lt HK1.out)) hB3 (Nat.lt_of_lt_of_le (LentAt.lt HK1.out) HB2.out.size)) (LentAt.below HK2.out hB3 (LentAt.lt HK2.out)) hL3
    ((HX.out.below HB12.out).below hB3) ((HY.out.below HB12.out).below hB3) ((HZ.out.below HB12.out).below hB3) (HB12.out.trans (hB3.mono HB12.out.size)))
  clear hB3 hL3 HB1 HB2 HB12 HK1 HK2 hg1 hg2 hg3 HX HY HZ
  have k4 := Lib.hid (HW1.out w3 _ _ (HS.out.row (f := some ⟨g1, 0, none⟩) (j := n) (e := n + 12) (by simp) HXY.out.1 (by omega)))
  go_wp2_with fail
  refine k4.out.mono ?_
  rintro e w4 ⟨aw, nw, cw, rfl, ho4, hB4, hn4⟩
  have HS4 := Lib.hid (HS.out.add hB4.out ho4.out)
  clear k4 ho4 hB4 HS
  have k5 := Lib.hid (HW2.out w4 _ _ HS4.out.p)
  go_wp2_with fail
  refine k5.out.mono ?_
  rintro e w5 ⟨aw2, nw2, cw2, rfl, ho5, hB5, hn5⟩
  have HS5 := Lib.hid (HS4.out.below hB5.out)
  have HM5 := Lib.hid (own_rb2 ho5.out HSm.out.1 (by have := hn5.out; omega))
  clear k5 ho5 hB5 HS4 hn5
  have k6 := Lib.hid (HV1.out w5 _ _ _ _ _ _ (HS5.out.row (f := some ⟨g1, 0, none⟩) (j := n) (e := n + 12) (by simp) HXY.out.1 (by omega)) (HS5.out.row (f := some ⟨g2, 0, none⟩) (j := m) (e := m + 12) (by simp) HXY.out.2.1 (by omega)) (HS5.out.row (f := some ⟨g3, 0, none⟩) (j := k) (e := k + 12) (by simp) HXY.out.2.2 (by omega)))
  go_wp2_with fail
  refine k6.out.mono ?_
  rintro e w6 ⟨av, nv, cv_, rfl, ho6, hB6, hn6⟩
  have HS6 := Lib.hid (HS5.out.add hB6.out ho6.out)
  have HM6 := Lib.hid (HM5.out.below hB6.out)
  clear k6 ho6 hB6 HS5 HM5
  have k7 := Lib.hid (HV2.out w6 _ _ _ _ _ _ HS6.out.p HS6.out.q HS6.out.r)
  go_wp2_with fail
  refine k7.out.mono ?_
  rintro e w7 ⟨av2, nv2, cv2, rfl, ho7, hB7, hn7⟩
  have HS7 := Lib.hid (HS6.out.below hB7.out)
  have HM7 := Lib.hid (HM6.out.below hB7.out)
  have HN7 := Lib.hid (own_rb2 ho7.out HSm.out.2 (by have := hn7.out; omega))
  clear k7 ho7 hB7 HS6 HM6 hn7
  have k8 := Lib.hid (HU1.out w7 _ _ _ _ (HS7.out.row (f := some ⟨g1, 0, none⟩) (j := n) (e := n + 12) (by simp) HXY.out.1 (by omega)) (HS7.out.row (f := some ⟨g2, 0, none⟩) (j := m) (e := m + 12) (by simp) HXY.out.2.1 (by omega)))
  go_wp2_with fail
  refine k8.out.mono ?_
  rintro e w8 ⟨rfl, hB8⟩
  have HS8 := Lib.hid (HS7.out.below hB8)
  have HM8 := Lib.hid (HM7.out.below hB8)
  have HN8 := Lib.hid (HN7.out.below hB8)
  clear k8 hB8 HS7 HM7 HN7
  have k9 := Lib.hid (HU2.out w8 _ _ _ _ HS8.out.p HS8.out.q)
  go_wp2_with fail
  refine k9.out.mono ?_
  rintro e w9 ⟨rfl, hB9⟩
  have HS9 := Lib.hid (HS8.out.below hB9)
  have HM9 := Lib.hid (HM8.out.below hB9)
  have HN9 := Lib.hid (HN8.out.below hB9)
  clear k9 hB9 HS8 HM8 HN8
  have k10 : Hid (Calls Try.prog 44 #[.slice aw nw cw, .slice aw2 nw2 cw2] w9 fun e w' => e = .returned (.bool true) ∧ Drawn w9 w') := (same_any (HS9.out.row (f := aw) (j := nw) (e := cw) (l := rw_) (by simp) HSm.out.1 hn4.out) HM9.out).mono fun e w' ⟨h1, h2⟩ => ⟨by rw [h1]; simp, h2⟩
  go_wp2_with fail
  refine k10.out.mono ?_
  rintro e w10 ⟨rfl, q10, rfl⟩
  have HS10 := Lib.hid (HS9.out.drewN q10)
  have HN10 := Lib.hid (HN9.out.drewN q10)
  clear k10 HS9 HM9 HN9
  generalize w9.drewN q10 = v10 at *
  have k11 : Hid (Calls Try.prog 44 #[.slice av nv cv_, .slice av2 nv2 cv2] v10 fun e w' => e = .returned (.bool true) ∧ Drawn v10 w') := (same_any (HS10.out.row (f := av) (j := nv) (e := cv_) (l := rv) (by simp) HSm.out.2 hn6.out) HN10.out).mono fun e w' ⟨h1, h2⟩ => ⟨by rw [h1]; simp, h2⟩
  go_wp2_with fail
  refine k11.out.mono ?_
  rintro e w11 ⟨rfl, q11, rfl⟩
  have HS11 := Lib.hid (HS10.out.drewN q11)
  clear k11 HS10 HN10
  generalize v10.drewN q11 = v11 at *
  have k18 := Lib.hid (kept_any HS11.out.p HS11.out.l1)
  go_wp2_with fail
  refine k18.out.mono ?_
  rintro e w18 ⟨rfl, q18, rfl⟩
  have HS18 := Lib.hid (HS11.out.drewN q18)
  clear k18 HS11
  generalize v11.drewN q18 = v18 at *
  have k19 := Lib.hid (kept_any HS18.out.q HS18.out.l2)
  go_wp2_with fail
  refine k19.out.mono ?_
  rintro e w19 ⟨rfl, q19, rfl⟩
  have HS19 := Lib.hid (HS18.out.drewN q19)
  clear k19 HS18
  generalize v18.drewN q19 = v19 at *
  have k20 := Lib.hid (kept_any HS19.out.r HS19.out.l3)
  go_wp2_with fail
  refine k20.out.mono ?_
  rintro e w20 ⟨rfl, q20, rfl⟩
  have HS20 := Lib.hid (HS19.out.drewN q20)
  clear k20 HS19
  generalize v19.drewN q20 = v20 at *
  have k21 := Lib.hid (rows_apart_new (C := 5) HS20.out.made HS20.out.bel.size (by
    intro r hr
    simp only [List.cons_append, List.nil_append, List.mem_cons, List.not_mem_nil, or_false] at hr
    have h4 := hn4.out
    have h6 := hn6.out
    rcases hr with rfl | rfl | rfl | rfl | rfl <;> simp only <;> omega) (by simp))
  go_wp2_with fail
  refine k21.out.mono ?_
  rintro e w21 ⟨rfl, hB21⟩
  have HB21 := Lib.hid (HS20.out.bel.trans hB21)
  clear k21 hB21 HS20
  go_wp2_with fail
  refine (awake4 _).mono ?_
  rintro e w22 ⟨rfl, hB22⟩
  have HB22 := Lib.hid (HB21.out.trans (hB22.mono HB21.out.size))
  clear hB22 HB21
  go_wp2_with fail
  go_ret
  exact ⟨rfl, HB22.out⟩
end Go.Proofs.Ytokeoodkioobdaa
