/- Plain: the program's interpolation and division do what they should. Conditions: rows hold bytes. -/
import Derived.Test.YtokeoodkioobdaaPm2
namespace Go.Proofs.Ytokeoodkioobdaa

theorem ev_single (b z : Nat) : Gf.ev [b] z = b := by show b ^^^ Gf.mul z 0 = b; rw [Gf.mul_zero, Nat.xor_zero]
theorem ev_two {z : Nat} (hz : z < 256) (x : Nat) : Gf.ev [x, 1] z = x ^^^ z := by
  show x ^^^ Gf.mul z (1 ^^^ Gf.mul z 0) = _
  rw [Gf.mul_zero, Nat.xor_zero, Gf.mul_one hz]
theorem small1 {b : Nat} (h : b < 256) : Small [b] := Small.of_mem (by simp; exact h)
theorem small2 {b c : Nat} (h : b < 256) (h2 : c < 256) : Small [b, c] := Small.of_mem (by simp; exact ⟨h, h2⟩)
theorem thrBy_lt {s : List Nat × List Nat} {x y : Nat} (h1 : Small s.1) (hy : y < 256) : thrBy s x y < 256 := Gf.mul_lt (Gf.xor_lt hy (vl_lt h1 x))

structure ThrOk (l ys : List Nat) (k : Nat) (s : List Nat × List Nat) : Prop where
  o : Small s.1
  a : Small s.2
  of : ∀ j, k ≤ j → s.1.getD j 0 = 0
  af : ∀ j, k < j → s.2.getD j 0 = 0
  at_ : ∀ i, i < k → Gf.ev s.1 (l.getD i 0) = ys.getD i 0
  zero : ∀ i, i < k → Gf.ev s.2 (l.getD i 0) = 0
  ne : ∀ z, z < 256 → (∀ i, i < k → l.getD i 0 ≠ z) → Gf.ev s.2 z ≠ 0
theorem nodup_getD {l : List Nat} (hn : l.Nodup) {i j : Nat} (hi : i < j) (hj : j < l.length) : l.getD i 0 ≠ l.getD j 0 := fun e => by
  have h := (List.nodup_iff_pairwise_ne.1 hn)
  have := List.pairwise_iff_getElem.1 h i j (by omega) hj hi
  apply this
  simpa [List.getD_eq_getElem?_getD, show i < l.length by omega, hj] using e
theorem thr_ok {l ys : List Nat} (hl : Small l) (hy : Small ys) (hn : l.Nodup) : ∀ k, k ≤ l.length → ThrOk l ys k (thr l ys k)
  | 0, _ => ⟨Small.nil, one_small, fun j _ => getD_far (Nat.zero_le _), fun j hj => getD_far (by show 1 ≤ j; omega), fun i h => absurd h (by omega), fun i h => absurd h (by omega), fun z _ _ => by show Gf.ev [1] z ≠ 0; rw [ev_one]; decide⟩
  | k + 1, hk => by
    have ih := thr_ok hl hy hn k (by omega)
    have hs := thr_small (xs := l) hy (k + 1)
    have hx := hl k
    have hyk := hy k
    have e1 : (thr l ys (k + 1)).1 = thrOut (thr l ys k) (l.getD k 0) (ys.getD k 0) := rfl
    have e2 : (thr l ys (k + 1)).2 = conv (thr l ys k).2 [l.getD k 0, 1] := by show mul2 _ _ 2 = _; exact mul2_conv ih.a
    have hnek : ∀ i, i < k → l.getD i 0 ≠ l.getD k 0 := fun i hi => nodup_getD hn hi (by omega)
    have hbl := thrBy_lt (s := thr l ys k) (x := l.getD k 0) ih.o hyk
    have hne := ih.ne (l.getD k 0) hx hnek
    have hby : thrBy (thr l ys k) (l.getD k 0) (ys.getD k 0) = Gf.mul (ys.getD k 0 ^^^ Gf.ev (thr l ys k).1 (l.getD k 0)) (Gf.inv (Gf.ev (thr l ys k).2 (l.getD k 0))) := by
      unfold thrBy; rw [vl_ev hx ih.o, vl_ev hx ih.a]
    generalize thr l ys (k + 1) = s' at *
    have hm : mul2 (thr l ys k).2 [thrBy (thr l ys k) (l.getD k 0) (ys.getD k 0)] 2 = conv (thr l ys k).2 [thrBy (thr l ys k) (l.getD k 0) (ys.getD k 0)] := mul2_conv ih.a
    have hco : ∀ j, s'.1.getD j 0 = (thr l ys k).1.getD j 0 ^^^ (conv (thr l ys k).2 [thrBy (thr l ys k) (l.getD k 0) (ys.getD k 0)]).getD j 0 := fun j => by
      rw [e1]; unfold thrOut
      rw [lean_get, sumTo_all (by omega) (by omega), hm]
    have hev : ∀ z, z < 256 → Gf.ev s'.1 z = Gf.ev (thr l ys k).1 z ^^^ Gf.mul (Gf.ev (thr l ys k).2 z) (thrBy (thr l ys k) (l.getD k 0) (ys.getD k 0)) := fun z hz => by
      rw [ev_xor hz hs.1 ih.o (conv_small ih.a) hco, ev_conv hz ih.a (small1 hbl), ev_single]
    have hev2 : ∀ z, z < 256 → Gf.ev s'.2 z = Gf.mul (Gf.ev (thr l ys k).2 z) (l.getD k 0 ^^^ z) := fun z hz => by
      rw [e2, ev_conv hz ih.a (small2 hx (by omega)), ev_two hz]
    generalize thrBy (thr l ys k) (l.getD k 0) (ys.getD k 0) = b at *
    generalize thr l ys k = s at *
    refine ⟨hs.1, hs.2, fun j hj => ?_, fun j hj => ?_, fun i hi => ?_, fun i hi => ?_, fun z hz h => ?_⟩
    · rw [hco, ih.of j (by omega), conv_get, cv_far (a := k) (b := 0) ih.af (fun j hj => getD_far (by simp; exact hj)) j (by omega)]; rfl
    · rw [e2, conv_get]
      exact cv_far (a := k) (b := 1) ih.af (fun j hj => getD_far (by simp; omega)) j (by omega)
    · rw [hev _ (hl i)]
      by_cases h : i = k
      · subst h
        have hel := Gf.ev_lt ih.a.sm hx
        have hol := Gf.ev_lt ih.o.sm hx
        rw [hby, Gf.mul_comm hel (Gf.mul_lt (Gf.xor_lt hyk hol)), Gf.mul_div_cancel (Gf.xor_lt hyk hol) hel hne, Nat.xor_comm (ys.getD i 0), ← Nat.xor_assoc, Nat.xor_self, Nat.zero_xor]
      · rw [ih.zero i (by omega), Gf.zero_mul, Nat.xor_zero, ih.at_ i (by omega)]
    · rw [hev2 _ (hl i)]
      by_cases h : i = k
      · subst h; rw [Nat.xor_self, Gf.mul_zero]
      · rw [ih.zero i (by omega), Gf.zero_mul]
    · rw [hev2 z hz]
      refine Gf.mul_ne (Gf.ev_lt ih.a.sm hz) (Gf.xor_lt hx hz) (ih.ne z hz fun i hi => h i (by omega)) (Gf.xor_ne (h k (by omega)))

/-- A product with one term. -/
theorem cv_term {g : Nat → Nat} (p c : Nat) (j : Nat) : cv (fun i => if i = p then c else 0) g j = if p ≤ j then Gf.mul c (g (j - p)) else 0 := by
  unfold cv
  by_cases h : p ≤ j
  · rw [if_pos h, sm_congr (g := fun i => if i = j - p then Gf.mul c (g (j - p)) else 0) _ fun i hi => by
      show Gf.mul (if j - i = p then c else 0) (g i) = if i = j - p then Gf.mul c (g (j - p)) else 0
      by_cases e : i = j - p
      · subst e; rw [if_pos (by omega), if_pos rfl]
      · rw [if_neg (by omega), if_neg e, Gf.zero_mul]]
    exact sm_one (by omega)
  · rw [if_neg h]
    exact sm_zero _ fun i hi => by
      show Gf.mul (if j - i = p then c else 0) (g i) = 0
      rw [if_neg (by omega), Gf.zero_mul]
/-- One term more of a quotient. -/
theorem cv_more {q q' : Nat → Nat} {g : Nat → Nat} {p c : Nat} (hq : ∀ i, q i < 256) (hc : c < 256) (h : ∀ i, q' i = q i ^^^ (if i = p then c else 0)) (j : Nat) : cv q' g j = cv q g j ^^^ (if p ≤ j then Gf.mul c (g (j - p)) else 0) := by
  rw [cv_congr (g' := g) h (fun _ => rfl), cv_xor hq (fun i => by split <;> omega), cv_term]
theorem cancel {r b : Nat} (hr : r < 256) (hb : b < 256) (h0 : b ≠ 0) : r ^^^ Gf.mul (Gf.mul r (Gf.inv b)) b = 0 := by rw [Gf.mul_div_cancel hr hb h0, Nat.xor_self]

structure DvOk (x y : List Nat) (top N k : Nat) (s : List Nat × List Nat) : Prop where
  q : Small s.1
  r : Small s.2
  ql : s.1.length = N
  rl : s.2.length = x.length
  low : ∀ j, j < N - k → s.1.getD j 0 = 0
  div : ∀ j, x.getD j 0 = cv (cf s.1) (cf y) j ^^^ s.2.getD j 0
  far : ∀ j, N - k + top ≤ j → s.2.getD j 0 = 0
theorem dv_ok {x y : List Nat} {top N : Nat} (hx : Small x) (hy : Small y) (hN : N = x.length - top) (ht : y.getD top 0 ≠ 0) (hf : ∀ j, top < j → y.getD j 0 = 0) : ∀ k, k ≤ N → DvOk x y top N k (dvTo x y top (Gf.inv (y.getD top 0)) N (dn N k))
  | 0, _ => by
    refine ⟨Small.of_mem fun z hz => by rw [List.eq_of_mem_replicate hz]; omega, hx, by simp [dvTo, dn], rfl, fun j _ => ?_, fun j => ?_, fun j hj => getD_far (by show x.length ≤ j; omega)⟩
    · show (List.replicate N 0).getD j 0 = 0
      rw [List.getD_eq_getElem?_getD, List.getElem?_replicate]; split <;> rfl
    · show _ = cv (cf (List.replicate N 0)) _ j ^^^ x.getD j 0
      rw [show cv (cf (List.replicate N 0)) (cf y) j = 0 from sm_zero _ fun i _ => by
        show Gf.mul ((List.replicate N 0).getD (j - i) 0) _ = 0
        rw [List.getD_eq_getElem?_getD, List.getElem?_replicate]
        split <;> exact Gf.zero_mul _, Nat.zero_xor]
  | k + 1, hk => by
    have ih := dv_ok hx hy hN ht hf k (by omega)
    rw [dn_succ, dvTo_snoc]
    generalize dvTo x y top (Gf.inv (y.getD top 0)) N (dn N k) = s at *
    obtain ⟨Q, R⟩ := s
    obtain ⟨p, hp⟩ : ∃ p, p = N - 1 - k := ⟨_, rfl⟩
    rw [← hp]
    have h1 := ih.q
    have h2 := ih.r
    have h3 := ih.ql
    have h4 := ih.rl
    have h5 := ih.low
    have h6 := ih.div
    have h7 := ih.far
    dsimp only at h1 h2 h3 h4 h5 h6 h7
    have hc : Gf.mul (R.getD (p + top) 0) (Gf.inv (y.getD top 0)) < 256 := Gf.mul_lt (h2 _)
    have hcc := cancel (h2 (p + top)) (hy top) ht
    obtain ⟨c, hce⟩ : ∃ c, c = Gf.mul (R.getD (p + top) 0) (Gf.inv (y.getD top 0)) := ⟨_, rfl⟩
    have hst : dvStep y top (Gf.inv (y.getD top 0)) (Q, R) p = (Q.set p c, xadd R p (y.take (top + 1)) c (top + 1)) := by simp only [dvStep]; rw [← hce]
    rw [← hce] at hc hcc
    rw [hst]
    have hQ : ∀ i, (Q.set p c).getD i 0 = Q.getD i 0 ^^^ (if i = p then c else 0) := fun i => by
      rw [getD_set _ _ _ _ (by omega)]
      by_cases e : p = i
      · subst e; rw [if_pos rfl, if_pos rfl, h5 p (by omega), Nat.zero_xor]
      · rw [if_neg e, if_neg (fun h => e h.symm), Nat.xor_zero]
    have hR : ∀ j, (xadd R p (y.take (top + 1)) c (top + 1)).getD j 0 = R.getD j 0 ^^^ (if p ≤ j then Gf.mul c (y.getD (j - p) 0) else 0) := fun j => by
      rw [xadd_get (by omega)]
      by_cases hpj : p ≤ j
      · rw [if_pos hpj]
        by_cases h8 : j < p + (top + 1)
        · rw [if_pos ⟨hpj, h8⟩, List.getD_eq_getElem?_getD (l := y.take _), List.getElem?_take_of_lt (by omega), ← List.getD_eq_getElem?_getD, Gf.mul_comm (hy _) hc]
        · rw [if_neg (by omega), hf (j - p) (by omega), Gf.mul_zero, Nat.xor_zero]
      · rw [if_neg (by omega), if_neg hpj, Nat.xor_zero]
    have hsQ : Small (Q.set p c) := fun i => by rw [hQ]; exact Gf.xor_lt (h1 i) (by split <;> omega)
    refine ⟨hsQ, xadd_small h2 (hy.take _) (by omega), by show (Q.set p c).length = N; rw [List.length_set, h3], by show (xadd R p (y.take (top + 1)) c (top + 1)).length = _; rw [length_xadd, h4], fun j hj => ?_, fun j => ?_, fun j hj => ?_⟩
    · show (Q.set p c).getD j 0 = 0
      rw [hQ, h5 j (by omega), if_neg (by omega)]; rfl
    · show _ = cv (cf (Q.set p c)) (cf y) j ^^^ (xadd R p (y.take (top + 1)) c (top + 1)).getD j 0
      rw [hR, cv_more h1 hc hQ, h6 j, Gf.xor4, Nat.xor_self, Nat.xor_zero]
    · show (xadd R p (y.take (top + 1)) c (top + 1)).getD j 0 = 0
      rw [hR, if_pos (by omega)]
      by_cases e : j = p + top
      · subst e
        rw [Nat.add_sub_cancel_left]; exact hcc
      · rw [h7 j (by omega), hf (j - p) (by omega), Gf.mul_zero]; rfl
/-- The program's quotient and rest are such. -/
theorem dvAll_ok {x y : List Nat} (hx : Small x) (hy : Small y) (h0 : 0 < ln y y.length) : Small (dvAll x y y.length).1 ∧ Small (dvAll x y y.length).2 ∧ DivOf x y (lean (dvAll x y y.length).1) (lean (dvAll x y y.length).2) ∧ ∀ j, ln y y.length - 1 ≤ j → (dvAll x y y.length).2.getD j 0 = 0 := by
  have h := dv_ok (x := lean x) (y := y) (top := ln y y.length - 1) (N := (lean x).length - (ln y y.length - 1)) (lean_small hx) hy rfl (ln_last y _ h0) (fun j hj => by
    by_cases h : j < y.length
    · exact ln_above y _ j (by omega) h
    · exact getD_far (by omega)) _ (Nat.le_refl _)
  refine ⟨h.q, h.r, fun j => ?_, fun j hj => h.far j (by omega)⟩
  have := h.div j
  rw [lean_get] at this
  rw [this, lean_get]
  congr 1
  exact cv_congr (fun i => (lean_get _ i).symm) (fun _ => rfl) j
end Go.Proofs.Ytokeoodkioobdaa
