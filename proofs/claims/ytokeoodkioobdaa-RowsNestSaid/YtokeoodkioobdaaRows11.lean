/- The walk of the law RowsNest. Conditions: none. -/
import Derived.Test.YtokeoodkioobdaaRows10
namespace Go.Proofs.Ytokeoodkioobdaa
open Go.RowKit

/-- Three lists of rows that came in. -/
structure NSt (w0 : World) (a b c : Value) (N M L : Nat) (X Y Z : Nat → List Nat) (w : World) : Prop where
  A : RR w a N X
  B : RR w b M Y
  C : RR w c L Z
  low : Below w0.heap.size w0 w
theorem NSt.step {w0 w w' : World} {a b c : Value} {N M L : Nat} {X Y Z : Nat → List Nat} (h : NSt w0 a b c N M L X Y Z w) (hB : Below w.heap.size w w') : NSt w0 a b c N M L X Y Z w' :=
  ⟨h.A.below hB, h.B.below hB, h.C.below hB, h.low.trans (hB.mono h.low.size)⟩

theorem nest_eq {X Y Z : Nat → List Nat} {M L K i : Nat} (hx : Small (X i)) (hy : ∀ j, j < M → Small (Y j)) (hz : ∀ j, j < L → Small (Z j)) :
    mulX (mulX X Y M L) Z L K i = mulX X (mulX Y Z L K) M K i := by
  unfold mulX
  have e1 : Gf.mmr (X i) Y L M = Gf.mmr (X i) (cut M Y L) L M := Gf.mmr_congr fun j hj => (cut_at hj).symm
  have e2 : ∀ A : List Nat, Gf.mmr A Z K L = Gf.mmr A (cut L Z K) K L := fun A => Gf.mmr_congr fun j hj => (cut_at hj).symm
  rw [e1, e2, Gf.mmr_assoc (small_at0.1 hx) (cut_byt hy) (cut_byt hz)]
  refine Gf.mmr_congr fun j hj => ?_
  rw [cut_at hj, e2]
theorem unit_mul {X : Nat → List Nat} {N M i : Nat} (hs : ∀ j, j < N → Small (X j)) (hl : ∀ j, j < N → (X j).length = M) (hi : i < N) : mulX (Gf.unitX N) X N M i = X i := by
  unfold mulX
  rw [Gf.mmr_congr (B' := cut N X M) fun j hj => (cut_at hj).symm, Gf.unit_mmr hi (cut_long hl i) (cut_byt hs), cut_at hi]
theorem rank_is {N W : Nat} {X : Nat → List Nat} (h : isM N X) (hc : colsX N X = W) : rankX N X = Gf.rdN (cut N X W) N W := by
  subst hc; exact if_pos h
theorem rank_of_mul {N M L : Nat} {X Y : Nat → List Nat} (hN0 : 0 < N) (hx : isM N X) (hy : isM M Y) (hxy : colsX N X = M) (hc : colsX M Y = L) (hsx : ∀ i, i < N → Small (X i)) (hsy : ∀ i, i < M → Small (Y i)) :
    rankX N (mulX X Y M L) ≤ rankX N X ∧ rankX N (mulX X Y M L) ≤ rankX M Y := by
  have hL5 : L ≤ 255 := by have := hy.2.1; omega
  obtain ⟨h1, h2⟩ := isM_of (N := N) (W := L) (X := mulX X Y M L) hx.1 hL5 (fun i _ => mulX_len X Y M L i) (fun e => by omega)
  rw [rank_is h1 h2, rank_is hx hxy, rank_is hy hc]
  have hlx := isM_len hx
  have hly := isM_len hy
  rw [hxy] at hlx
  rw [hc] at hly
  have h3 := Gf.rank_mul (A := cut N X M) (B := cut M Y L) (R := N) (cut_long hlx) (cut_byt hsx) (cut_long hly) (cut_byt hsy)
  have e : Gf.rdN (cut N (mulX X Y M L) L) N L = Gf.rdN (fun r => Gf.mmr (cut N X M r) (cut M Y L) L M) N L := (Gf.rd_congr (fun i hi => by
    rw [cut_at hi, cut_at hi]
    exact Gf.mmr_congr fun j hj => (cut_at hj).symm) L).1
  rw [e]
  exact h3
/-- The rows, and one more. -/
def moreX (N : Nat) (X : Nat → List Nat) (s : List Nat) : Nat → List Nat := fun k => if k < N then X k else s
theorem rank_more_is {N W : Nat} {X : Nat → List Nat} {s : List Nat} (h0 : 0 < N) (hN : N ≤ 200) (h : isM N X) (hc : colsX N X = W) (hsx : ∀ i, i < N → Small (X i)) (hs : Small s) (hl : s.length = W) (he : ∀ c, Gf.at0 s c = Gf.at0 (X 0) c ^^^ Gf.at0 (X (N - 1)) c) :
    rankX (N + 1) (moreX N X s) = rankX N X := by
  have hW : W ≤ 255 := by have := h.2.1; omega
  have hlx := isM_len h
  rw [hc] at hlx
  have hml : ∀ i, i < N + 1 → (moreX N X s i).length = W := fun i _ => by
    unfold moreX; split
    · exact hlx i (by assumption)
    · exact hl
  have hms : ∀ i, i < N + 1 → Small (moreX N X s i) := fun i _ => by
    unfold moreX; split
    · exact hsx i (by assumption)
    · exact hs
  obtain ⟨h1, h2⟩ := isM_of (N := N + 1) (W := W) (X := moreX N X s) (by omega) hW hml (by omega)
  rw [rank_is h1 h2, rank_is h hc]
  refine Gf.rank_more (i := 0) (j := N - 1) (cut_long hlx) (cut_byt hsx) (cut_long hml) (cut_byt hms) h0 (by omega) (fun r hr => ?_) fun c => ?_
  · rw [cut_at (by omega), cut_at hr]; exact if_pos hr
  · rw [cut_at (by omega), cut_at h0, cut_at (by omega)]
    unfold moreX
    rw [if_neg (Nat.lt_irrefl N)]
    exact he c
/-- The headers of rows that can be read. -/
theorem RR.heads {w : World} {a : Option Addr} {N c : Nat} {X : Nat → List Nat} (h : RR w (.slice a N c) N X) (h0 : 0 < N) : ∃ (ad : Addr) (vs : List Value), a = some ad ∧ vs.length = N ∧ (∀ j u, vs[j]? = some u → w.cell? (ad.add j) = some u) ∧ (∀ u ∈ vs, u.oneCell' = true) ∧
    ∀ k, k < N → ∃ a1 n1 c1, vs[k]? = some (.slice a1 n1 c1) ∧ RB w a1 n1 c1 (X k) := by
  obtain ⟨a', c', e, hX⟩ := h.shape
  injection e with e1 e2 e3
  subst e1; subst e3
  obtain ⟨b, o, _, _, _, rfl, _⟩ := hX 0 h0
  have hk : ∀ k, k < N → ∃ y : Option Addr × Nat × Nat, w.cell? ⟨b, o + k, none⟩ = some (.slice y.1 y.2.1 y.2.2) ∧ RB w y.1 y.2.1 y.2.2 (X k) := fun k hk => by
    obtain ⟨b', o', a1, n1, c1, e, h1, h2⟩ := hX k hk
    injection e with e
    injection e with e1 e2
    subst e1; subst e2
    exact ⟨(a1, n1, c1), h1, h2⟩
  let F : Nat → Value := fun k => if hk1 : k < N then .slice (Classical.choose (hk k hk1)).1 (Classical.choose (hk k hk1)).2.1 (Classical.choose (hk k hk1)).2.2 else .slice none 0 0
  refine ⟨⟨b, o, none⟩, (List.range N).map F, rfl, by simp, fun j u hu => ?_, fun u hu => ?_, fun k hk1 => ?_⟩
  · have hj : j < N := by have := (List.getElem?_eq_some_iff.1 hu).1; simpa using this
    rw [List.getElem?_map, List.getElem?_range hj] at hu
    have hu : F j = u := by simpa using hu
    rw [← hu, Addr.add_lit]
    have := (Classical.choose_spec (hk j hj)).1
    simp only [F, dif_pos hj]
    exact this
  · obtain ⟨j, hj, rfl⟩ := List.mem_map.1 hu
    have hj := List.mem_range.1 hj
    simp only [F, dif_pos hj]
    rfl
  · refine ⟨_, _, _, ?_, (Classical.choose_spec (hk k hk1)).2⟩
    rw [List.getElem?_map, List.getElem?_range hk1]
    simp only [F, Option.map_some, dif_pos hk1]
/-- A list that the call owns, of headers of rows that can be read. -/
theorem rr_of_own {w : World} {B N : Nat} {v : Value} {vs : List Value} {X : Nat → List Nat} (h : w.ownsRow B 31 1 v N vs) (h0 : 0 < N) (hr : ∀ k, k < N → ∃ a1 n1 c1, vs[k]? = some (.slice a1 n1 c1) ∧ RB w a1 n1 c1 (X k)) : RR w v N X := by
  obtain ⟨g, c, rfl⟩ := own_some h h0
  refine ⟨_, c, rfl, fun k hk => ?_⟩
  obtain ⟨a1, n1, c1, e, hb⟩ := hr k hk
  have := h.cells (g := g) rfl k _ e
  rw [Addr.add_lit] at this
  exact ⟨g, 0, a1, n1, c1, rfl, this, hb⟩
theorem own_empty31 (w : World) : (w.alloc (.cells #[] 31)).ownsRow w.heap.size 31 1 (.slice (some ⟨w.heap.size, 0, none⟩) 0 0) 0 [] :=
  ⟨rfl, .inr ⟨w.heap.size, 0, #[], rfl, Nat.le_refl _, heap_alloc_new _ _, Nat.le_refl _, by unfold maxLen; omega, rfl, rfl⟩⟩
theorem own_mono' {w : World} {B B' n : Nat} {e : TypeId} {v : Value} {xs : List Value} (h : w.ownsRow B e 1 v n xs) (hb : B' ≤ B) : w.ownsRow B' e 1 v n xs := by
  obtain ⟨h1, h2⟩ := h
  refine ⟨h1, ?_⟩
  rcases h2 with h2 | ⟨g, cap, cur, rfl, hg, hh, hn⟩
  · exact .inl h2
  · exact .inr ⟨g, cap, cur, rfl, Nat.le_trans hb hg, hh, hn⟩
/-- A sum, its first k places. -/
theorem upto_at (f : Nat → Nat) {n k i : Nat} (h : i < n) : (upto f n k)[i]? = some (if i < k then f i else 0) := by
  unfold upto
  rw [List.getElem?_map, List.getElem?_range h]; rfl
theorem upto_set {f : Nat → Nat} {n k : Nat} (h : k < n) : (upto f n k).set k (f k) = upto f n (k + 1) := by
  apply List.ext_getElem?
  intro i
  rw [List.getElem?_set, length_upto]
  by_cases hi : i < n
  · rw [upto_at f hi, upto_at f hi]
    by_cases e : k = i
    · subst e; rw [if_pos rfl, if_pos h, if_pos (by omega)]
    · rw [if_neg e]
      by_cases e2 : i < k
      · rw [if_pos e2, if_pos (by omega)]
      · rw [if_neg e2, if_neg (by omega)]
  · rw [if_neg (by omega), List.getElem?_eq_none (by rw [length_upto]; omega), List.getElem?_eq_none (by rw [length_upto]; omega)]
theorem upto_small {f : Nat → Nat} {n k : Nat} (h : ∀ i, i < n → f i < 256) : Small (upto f n k) := Small.of_mem fun x hx => by
  obtain ⟨i, hi, rfl⟩ := List.mem_map.1 hx
  split
  · exact h i (List.mem_range.1 hi)
  · omega
theorem upto_start (f : Nat → Nat) (n : Nat) : upto f n 0 = List.replicate n 0 := by
  apply List.ext_getElem (by simp [upto])
  intro i h1 h2
  simp [upto]

set_option maxHeartbeats 3200000 in
set_option maxRecDepth 100000 in
theorem nest_great {w : World} {a b c : Option Addr} {N M L ca cb cc : Nat} {X Y Z : Nat → List Nat} (hN : N ≤ 140737488351232) (hM : M ≤ 140737488351232) (hL : L ≤ 140737488351232) (ha : RR w (.slice a N ca) N X) (hb : RR w (.slice b M cb) M Y) (hc : RR w (.slice c L cc) L Z)
    (hz : 900 < szTo N X N + szTo M Y M + szTo L Z L) : Calls Try.prog 16 #[.slice a N ca, .slice b M cb, .slice c L cc] w fun e w' => e = .returned (.bool true) ∧ Below w.heap.size w w' := by
  have H0 := Lib.hid (NSt.mk (w0 := w) ha hb hc (Below.refl _ _))
  have HZ := Lib.hid hz
  clear ha hb hc hz
  go_enter Try.func16, Try.ntmps16
  go_wp2_with fail
  refine (awake3 w).mono ?_
  rintro e w1 ⟨rfl, hB1⟩
  have H1 := Lib.hid (H0.out.step hB1)
  have S1 := Lib.hid (size_any hN H1.out.A)
  have S2 := Lib.hid (size_any hM H1.out.B)
  have S3 := Lib.hid (size_any hL H1.out.C)
  clear hB1 H0
  go_wp2_with fail
  refine S1.out.mono ?_
  rintro e w2 ⟨⟨s1, rfl, hs1⟩, rfl⟩
  have hb1 := hs1.out.1
  clear S1
  go_wp2_with fail
  refine S2.out.mono ?_
  rintro e w2 ⟨⟨s2, rfl, hs2⟩, rfl⟩
  have hb2 := hs2.out.1
  clear S2
  go_wp2_with fail
  refine S3.out.mono ?_
  rintro e w2 ⟨⟨s3, rfl, hs3⟩, rfl⟩
  have hb3 := hs3.out.1
  clear S3
  have h3 : 900 < s1 + s2 + s3 := by
    have := HZ.out
    have f1 := hs1.out.2.2
    have f2 := hs2.out.2.2
    have f3 := hs3.out.2.2
    by_cases h1 : s1 ≤ 900
    · by_cases h2 : s2 ≤ 900
      · by_cases h3 : s3 ≤ 900
        · rw [f1 h1, f2 h2, f3 h3] at this; exact this
        · omega
      · omega
    · omega
  have q : decide ((900 : Int) < (s1 : Int) + (s2 : Int) + (s3 : Int)) = true := by simp; omega
  clear hs1 hs2 hs3
  go_wp2_with fail
  go_ret
  exact ⟨rfl, H1.out.low⟩

set_option maxHeartbeats 6000000 in
set_option maxRecDepth 100000 in
theorem nest_small {w : World} {a b c : Option Addr} {N M L ca cb cc : Nat} {X Y Z : Nat → List Nat} (ha : RR w (.slice a N ca) N X) (hb : RR w (.slice b M cb) M Y) (hc : RR w (.slice c L cc) L Z)
    (hz : szTo N X N + szTo M Y M + szTo L Z L ≤ 900) : Calls Try.prog 16 #[.slice a N ca, .slice b M cb, .slice c L cc] w fun e w' => e = .returned (.bool true) ∧ Below w.heap.size w w' := by
  have hN : N ≤ 900 := by have := szTo_ge N X N; omega
  have hM : M ≤ 900 := by have := szTo_ge M Y M; omega
  have hL : L ≤ 900 := by have := szTo_ge L Z L; omega
  have H0 := Lib.hid (NSt.mk (w0 := w) ha hb hc (Below.refl _ _))
  have HZ := Lib.hid hz
  clear ha hb hc hz
  go_enter Try.func16, Try.ntmps16
  go_wp2_with fail
  refine (awake3 w).mono ?_
  rintro e w1 ⟨rfl, hB1⟩
  have H1 := Lib.hid (H0.out.step hB1)
  have S1 := Lib.hid (size_any (by omega) H1.out.A)
  have S2 := Lib.hid (size_any (by omega) H1.out.B)
  have S3 := Lib.hid (size_any (by omega) H1.out.C)
  clear hB1 H0
  go_wp2_with fail
  refine S1.out.mono ?_
  rintro e w2 ⟨⟨s1, rfl, hs1⟩, rfl⟩
  have hb1 := hs1.out.1
  clear S1
  go_wp2_with fail
  refine S2.out.mono ?_
  rintro e w2 ⟨⟨s2, rfl, hs2⟩, rfl⟩
  have hb2 := hs2.out.1
  clear S2
  go_wp2_with fail
  refine S3.out.mono ?_
  rintro e w2 ⟨⟨s3, rfl, hs3⟩, rfl⟩
  clear S3
  have h3 : s1 + s2 + s3 ≤ 900 := by
    have := HZ.out
    have f1 := hs1.out.2.1
    have f2 := hs2.out.2.1
    have f3 := hs3.out.2.1
    omega
  have q : decide ((900 : Int) < (s1 : Int) + (s2 : Int) + (s3 : Int)) = false := by simp; omega
  clear hs1 hs2 hs3 HZ
  by_cases hab : mulOk N M X Y
  · by_cases hbc : mulOk M L Y Z
    · obtain ⟨hx, hy, hxy⟩ := hab
      obtain ⟨_, hzz, hyz⟩ := hbc
      have hC : colsX L Z = colsX L Z := rfl
      have hm1 := mul_give H1.out.A H1.out.B hx hy hxy hyz
      have HM1 := Lib.hid hm1
      have HM2 := Lib.hid fun W (hW : NSt w (.slice a N ca) (.slice b M cb) (.slice c L cc) N M L X Y Z W) => mul_give hW.B hW.C hy hzz hyz hC
      clear hm1 hC
      have HXM := Lib.hid hx
      have HYM := Lib.hid hy
      have HZM := Lib.hid hzz
      have HXY := Lib.hid hxy
      have HYZ := Lib.hid hyz
      have hK := hzz.2.1
      have hN5 := hx.1
      have hM5 := hy.1
      have hL5 := hzz.1
      clear hx hy hzz hxy hyz
      generalize hKe : colsX L Z = K at *
      have HK := Lib.hid hKe
      clear hKe
      go_wp2_with fail
      refine HM1.out.mono ?_
      rintro e w2 ⟨g2, rfl, hx2, hB2⟩
      have H2 := Lib.hid (H1.out.step hB2.out)
      clear hB2 HM1 H1
      go_wp2_with fail
      refine (HM2.out w2 H2.out).mono ?_
      rintro e w3 ⟨g3, rfl, hy3, hB3⟩
      have H3 := Lib.hid (H2.out.step hB3.out)
      have hx3 := Lib.hid (hx2.out.below hB3.out)
      clear hB3 HM2 H2 hx2
      by_cases h0 : N = 0 ∨ M = 0 ∨ L = 0
      · by_cases n0 : N = 0
        · have q1 : ((N : Int) == 0) = true := by simp; omega
          go_wp2_with fail
          go_ret
          exact ⟨rfl, H3.out.low⟩
        · have q1 : ((N : Int) == 0) = false := by simp; omega
          by_cases m0 : M = 0
          · have q2 : ((M : Int) == 0) = true := by simp; omega
            go_wp2_with fail
            go_ret
            exact ⟨rfl, H3.out.low⟩
          · have q2 : ((M : Int) == 0) = false := by simp; omega
            have q3 : ((L : Int) == 0) = true := by simp; omega
            go_wp2_with fail
            go_ret
            exact ⟨rfl, H3.out.low⟩
      · have n0 : ((N : Int) == 0) = false := by simp; omega
        have m0 : ((M : Int) == 0) = false := by simp; omega
        have l0 : ((L : Int) == 0) = false := by simp; omega
        have N0 : 0 < N := by omega
        have hsx := H3.out.A.small
        have hsy := H3.out.B.small
        have hsz := H3.out.C.small
        have hlx := isM_len HXM.out
        have hly := isM_len HYM.out
        have hlz := isM_len HZM.out
        rw [HXY.out] at hlx
        rw [HYZ.out] at hly
        rw [HK.out] at hlz
        have HPQ := Lib.hid fun i (hi : i < N) => nest_eq (X := X) (Y := Y) (Z := Z) (M := M) (L := L) (K := K) (hsx i hi) hsy hsz
        have HZA := Lib.hid fun i (hi : i < N) => unit_mul (X := X) (N := N) (M := M) hsx hlx hi
        have HR := Lib.hid (rank_of_mul (L := L) N0 HXM.out HYM.out HXY.out HYZ.out hsx hsy)
        have hrl := Gf.rdN_le (cut N X M) N M
        rw [← rank_is HXM.out HXY.out] at hrl
        have HSX := Lib.hid hsx
        have HX0 := Lib.hid (hlx 0 N0)
        have HXL := Lib.hid (hlx (N - 1) (by omega))
        have hxm := isM_of (N := N) (W := L) (X := mulX X Y M L) hN5 hL5 (fun i _ => mulX_len X Y M L i) (by omega)
        have hym := isM_of (N := M) (W := K) (X := mulX Y Z L K) hM5 hK (fun i _ => mulX_len Y Z L K i) (by omega)
        have hum := isM_of (N := N) (W := N) (X := Gf.unitX N) hN5 hN5 (fun i _ => Gf.unitX_len N i) (by omega)
        have HPm := Lib.hid (mul_give hx3.out H3.out.C hxm.1 HZM.out hxm.2 HK.out)
        have HQm := Lib.hid fun W (hW : Below w3.heap.size w3 W) => mul_give (H3.out.A.below hW) (hy3.out.below hW) HXM.out hym.1 HXY.out hym.2
        have HZm := Lib.hid fun W u uc (hu : RR W (.slice u N uc) N (Gf.unitX N)) (hA : RR W (.slice a N ca) N X) => mul_give hu hA hum.1 HXM.out hum.2 HXY.out
        have HRA := Lib.hid fun W (hW : RR W (.slice a N ca) N X) => Rank_any (by omega) hW
        have HRX := Lib.hid fun W g (hW : RR W (.slice (some ⟨g, 0, none⟩) N N) N (mulX X Y M L)) => Rank_any (by omega) hW
        have HRB := Lib.hid fun W (hW : RR W (.slice b M cb) M Y) => Rank_any (by omega) hW
        have HMR := Lib.hid fun (s : List Nat) hN2 hs hl he => rank_more_is (s := s) N0 hN2 HXM.out HXY.out hsx hs hl he
        clear hsx hsy hsz hlx hly hlz hxm hym hum h0
        go_wp2_with fail
        refine HPm.out.mono ?_
        rintro e w4 ⟨gp, rfl, hp4, hB4⟩
        have H4 := Lib.hid (H3.out.step hB4.out)
        have HB34 := Lib.hid hB4.out
        have hx4 := Lib.hid (hx3.out.below hB4.out)
        clear hB4 HPm H3 hx3
        go_wp2_with fail
        refine (HQm.out w4 HB34.out).mono ?_
        rintro e w5 ⟨gq, rfl, hq5, hB5⟩
        have H5 := Lib.hid (H4.out.step hB5.out)
        have hx5 := Lib.hid (hx4.out.below hB5.out)
        have hp5 := Lib.hid (hp4.out.below hB5.out)
        clear hB5 HQm H4 hx4 hp4 HB34 hy3
        go_wp2_with fail
        refine (unit_give hN5).mono ?_
        rintro e w6 ⟨gu, rfl, hu6, hB6⟩
        have H6 := Lib.hid (H5.out.step hB6.out)
        have hx6 := Lib.hid (hx5.out.below hB6.out)
        have hp6 := Lib.hid (hp5.out.below hB6.out)
        have hq6 := Lib.hid (hq5.out.below hB6.out)
        clear hB6 H5 hx5 hp5 hq5
        go_wp2_with fail
        refine (HZm.out w6 _ _ hu6.out H6.out.A).mono ?_
        rintro e w7 ⟨gz, rfl, hz7, hB7⟩
        have H7 := Lib.hid (H6.out.step hB7.out)
        have hx7 := Lib.hid (hx6.out.below hB7.out)
        have hp7 := Lib.hid (hp6.out.below hB7.out)
        have hq7 := Lib.hid (hq6.out.below hB7.out)
        clear hB7 H6 hx6 hp6 hq6 hu6 HZm
        go_wp2_with fail
        refine (same_give (by omega) hp7.out hq7.out HPQ.out).mono ?_
        rintro e w8 ⟨rfl, hB8⟩
        have H8 := Lib.hid (H7.out.step hB8)
        have hx8 := Lib.hid (hx7.out.below hB8)
        have hz8 := Lib.hid (hz7.out.below hB8)
        clear hB8 H7 hx7 hz7 hp7 hq7 HPQ
        go_wp2_with fail
        refine (same_give (by omega) hz8.out H8.out.A HZA.out).mono ?_
        rintro e w9 ⟨rfl, hB9⟩
        have H9 := Lib.hid (H8.out.step hB9)
        have hx9 := Lib.hid (hx8.out.below hB9)
        clear hB9 H8 hx8 hz8 HZA
        generalize rankX N X = rn at *
        generalize rankX N (mulX X Y M L) = rx at *
        generalize rankX M Y = rb at *
        have hr1 := HR.out.1
        have hr2 := HR.out.2
        obtain ⟨hrl1, hrl2⟩ := hrl
        have d1 : decide ((N : Int) < (rn : Int)) = false := by simp; omega
        have d1' : decide (N < rn) = false := by simp; omega
        have d2 : decide ((M : Int) < (rn : Int)) = false := by simp; omega
        have d2' : decide (M < rn) = false := by simp; omega
        have d3 : decide ((rn : Int) < (rx : Int)) = false := by simp; omega
        have d3' : decide (rn < rx) = false := by simp; omega
        have d4 : decide ((rb : Int) < (rx : Int)) = false := by simp; omega
        have d4' : decide (rb < rx) = false := by simp; omega
        clear HR
        go_wp2_with fail
        refine (HRA.out w9 H9.out.A).mono ?_
        rintro e w10 ⟨rfl, hB10⟩
        have H10 := Lib.hid (H9.out.step hB10)
        have hx10 := Lib.hid (hx9.out.below hB10)
        clear hB10 H9 hx9
        obtain ⟨b1, o1, a1, c1, rfl, hc1, hl1⟩ := rr_first H10.out.A N0
        rw [HX0.out] at hc1
        go_wp2_with fail
        refine (HRX.out w10 _ hx10.out).mono ?_
        rintro e w11 ⟨rfl, hB11⟩
        have H11 := Lib.hid (H10.out.step hB11)
        have hx11 := Lib.hid (hx10.out.below hB11)
        clear hB11 H10 hx10
        go_wp2_with fail
        refine (HRX.out w11 _ hx11.out).mono ?_
        rintro e w12 ⟨rfl, hB12⟩
        have H12 := Lib.hid (H11.out.step hB12)
        clear hB12 H11 hx11
        go_wp2_with fail
        refine (HRB.out w12 H12.out.B).mono ?_
        rintro e w13 ⟨rfl, hB13⟩
        have H13 := Lib.hid (H12.out.step hB13)
        clear hB13 H12 HRX HRB hc1
        by_cases h200 : 200 < N
        · have t1 : decide ((200 : Int) < (N : Int)) = true := by simp; omega
          have t2 : decide (200 < N) = true := by simp; omega
          go_wp2_with fail
          go_ret
          exact ⟨rfl, H13.out.low⟩
        · have t1 : decide ((200 : Int) < (N : Int)) = false := by simp; omega
          have t2 : decide (200 < N) = false := by simp; omega
          obtain ⟨i0, hi, hz0, hz1, hz2⟩ := info_parts info5
          obtain ⟨i31, hj, hy0, hy1, hy2⟩ := info_parts info31
          have hM255 := hM5
          obtain ⟨b2, o2, a2, c2, e2, hc2, _⟩ := rr_first H13.out.A N0
          injection e2 with e2
          injection e2 with e2 e3
          subst e2; subst e3
          rw [HX0.out] at hc2
          go_wp2_with (refine wpList_make_full _ rfl (.tmp 151) (.tmp 151) 31 rfl w13.heap.size 5 i0 (.int .u8 0) 1 Try.underlying31 hi hz0 hz1 .i64 .i64 _ _ M rfl rfl (by omega) (by omega) ?_ ?_ (Nat.le_refl _) ?_)
          · rw [hz2]; omega
          · unfold maxLen; omega
          intro w14 hown14 hg14
          have hB14 : Below w13.heap.size w13 w14 := (Below.refl _ _).grown hg14 (Nat.le_refl _) (fun j e => by cases e)
          have hz14 := own_zeros hown14
          rw [← upto_start (fun i => (X 0).getD i 0 ^^^ (X (N - 1)).getD i 0)] at hz14
          have HZ14 := Lib.hid hz14
          have HB14 := Lib.hid hB14
          have hq : w13.heap.size < w14.heap.size := own_block hz14
          clear hown14 hg14 hB14 hc2 hz14
          go_wp2_with fail
          go_loopw [21] (fun i wr => ∃ k : Nat, k ≤ M ∧ i = .int .i64 k ∧ Hid (wr.ownsRow w13.heap.size 5 1 (.slice (some ⟨w13.heap.size, 0, none⟩) M M) M (bs (upto (fun i => (X 0).getD i 0 ^^^ (X (N - 1)).getD i 0) M k))) ∧ Hid (Below w13.heap.size w13 wr)) (fun i _ => M - (intOf i).toNat)
          case atStart => exact ⟨0, Nat.zero_le _, rfl, HZ14, HB14⟩
          case round =>
            clear HZ14 HB14
            obtain ⟨k, hk, rfl, HO, HB⟩ := hrel
            by_cases hk1 : k < M
            · obtain ⟨a', c', e, hX⟩ := (H13.out.A.below HB.out).shape
              injection e with e1 e2 e3
              subst e1; subst e3; clear e2
              obtain ⟨b3, o3, a3, n3, c3, e3, hc3, hr3⟩ := hX 0 N0
              injection e3 with e3
              injection e3 with e3 e4
              subst e3; subst e4
              obtain ⟨b4, o4, a4, n4, c4, e4, hc4, hr4⟩ := hX (N - 1) (by omega)
              injection e4 with e4
              injection e4 with e4 e5
              subst e4; subst e5
              rw [Nat.add_zero] at hc3
              have hn3 : n3 = M := by rw [← hr3.len]; exact HX0.out
              have hn4 : n4 = M := by rw [← hr4.len]; exact HXL.out
              subst hn3
              subst hn4
              obtain ⟨b5, o5, rfl, hx5⟩ := hr3.at_ k hk1
              obtain ⟨b6, o6, rfl, hx6⟩ := hr4.at_ k hk1
              have hu := hr3.small k
              have hv := hr4.small k
              obtain ⟨hc7, hf7⟩ := own_cell HO.out (i := k) hk1
              have hxo := u8_xor_nat ((X 0).getD k 0) ((X (N - 1)).getD k 0) hu hv
              have hw : IntKind.i64.wrap ((N : Int) - 1) = ((N - 1 : Nat) : Int) := by rw [show (N : Int) - 1 = ((N - 1 : Nat) : Int) by omega]; exact IntWalk.i64_in _ (by omega)
              have hlt : N - 1 < N := by omega
              have hst : ∀ q, ((wr.drewN q).setCell ⟨w13.heap.size, k, none⟩ (.int .u8 ((X 0).getD k 0 ^^^ (X (N - 1)).getD k 0 : Nat))).ownsRow w13.heap.size 5 1 (.slice (some ⟨w13.heap.size, 0, none⟩) n4 n4) n4 (bs (upto (fun i => (X 0).getD i 0 ^^^ (X (N - 1)).getD i 0) n4 (k + 1))) := fun q => by
                have := own_set (i := k) (x := (X 0).getD k 0 ^^^ (X (N - 1)).getD k 0) HO.out
                rw [upto_set (f := fun i => (X 0).getD i 0 ^^^ (X (N - 1)).getD i 0) hk1] at this
                exact this
              have HST := Lib.hid hst
              clear hX hr3 hr4 hst HO
              generalize (upto (fun i => (X 0).getD i 0 ^^^ (X (N - 1)).getD i 0) n4 k).getD k 0 = z at *
              generalize (X 0).getD k 0 ^^^ (X (N - 1)).getD k 0 = t at *
              generalize (X 0).getD k 0 = u at *
              generalize (X (N - 1)).getD k 0 = v at *
              generalize N - 1 = e1 at *
              go_wp2_with fail
              refine region_quiet_tail 19 (by kernel_rfl) (by kernel_rfl) ?_
              simp only [List.take_succ_cons, List.take_zero, List.drop_succ_cons, List.drop_zero]
              repeat (go_big_quiet_step (fail))
              refine wpQuiet_nil ?_
              intro _ hw'
              obtain ⟨nq, rfl⟩ := hw'
              go_wp2_with fail
              go_roundw
              case rel => exact ⟨k + 1, by omega, by go_num, HST.out nq, (below_drewN HB.out nq).setCell (p := ⟨w13.heap.size, k, none⟩) (Nat.le_refl _) _⟩
              case measure => simp [intOf]; omega
            · obtain rfl : k = M := by omega
              have H15 := Lib.hid (H13.out.step HB.out)
              have hsm : Small (upto (fun i => (X 0).getD i 0 ^^^ (X (N - 1)).getD i 0) k k) := upto_small fun i _ => Gf.xor_lt (HSX.out 0 N0 i) (HSX.out (N - 1) (by omega) i)
              have hmr := HMR.out _ (by omega) hsm (length_upto _ _ _) fun c => by
                rw [at0_getD, at0_getD, at0_getD]
                by_cases hc : c < k
                · rw [List.getD_eq_getElem?_getD, upto_at _ hc, if_pos hc]; rfl
                · rw [List.getD_eq_getElem?_getD, List.getElem?_eq_none (by rw [length_upto]; omega), List.getD_eq_getElem?_getD, List.getD_eq_getElem?_getD, List.getElem?_eq_none (by have := HX0.out; omega), List.getElem?_eq_none (by have := HXL.out; omega)]; rfl
              have hrs := own_rb2 HO.out hsm (by omega)
              have HMR2 := Lib.hid hmr
              have HRS := Lib.hid hrs
              clear hmr hrs hsm HMR HO HSX HX0 HXL
              generalize upto (fun i => (X 0).getD i 0 ^^^ (X (N - 1)).getD i 0) k k = s at *
              have hal := (Below.refl wr.heap.size wr).alloc (Nat.le_refl _) (.cells #[] 31)
              obtain ⟨ad, vs, had, hvl, hvc0, hv1, hvr⟩ := H15.out.A.heads N0
              injection had with had
              subst had
              have hvc : ∀ j u, vs[j]? = some u → (wr.alloc (.cells #[] 31)).cell? ((⟨b1, o1, none⟩ : Addr).add j) = some u := fun j u hu => by
                have h1 := hvc0 j u hu
                rw [Addr.add_lit] at h1 ⊢
                exact (hal.cell (p := ⟨b1, o1 + j, none⟩) (block_lt_of_cell h1)).trans h1
              have HVC := Lib.hid hvc
              have HV1 := Lib.hid hv1
              have HVR := Lib.hid hvr
              have HVL := Lib.hid (show vs.length = N * 1 by omega)
              have HE := Lib.hid (own_empty31 wr)
              have HSW := Lib.hid (show (0 + N) * 24 ≤ 140737488355328 ∧ 0 + N ≤ maxLen by unfold maxLen; omega)
              have hqw : w13.heap.size ≤ wr.heap.size := HB.out.size
              clear hvc hvc0 hv1 hvr hvl hal
              go_wp2_with (at_builtin; refine wpList_append_own3 _ rfl (.tmp 178) (.tmp 179) 51 rfl wr.heap.size 31 i31 (.slice none 0 0) 24 Try.underlying51 hj hy0 hy1 hy2 rfl (.slice (some ⟨wr.heap.size, 0, none⟩) 0 0) 0 [] rfl HE.out ⟨b1, o1, none⟩ N ca vs rfl HVL.out HVC.out HV1.out HSW.out.2 HSW.out.1 (by simp) ?_)
              intro v1 w16 ho16 hg16 hb16 hk16
              have hB16 : Below wr.heap.size wr w16 := ((Below.refl wr.heap.size wr).alloc (Nat.le_refl _) (.cells #[] 31)).grown hg16 (by simp) (fun j e => (own_lt HE.out e).1)
              obtain ⟨g16, c16, rfl⟩ := own_some ho16 N0
              have HO16 := Lib.hid ho16
              have HG16 := Lib.hid hg16
              have HB16 := Lib.hid hB16
              have HAL := Lib.hid (ho16.alloc (.cells #[.slice (some ⟨w13.heap.size, 0, none⟩) k k] 31))
              have hs16 : wr.heap.size ≤ w16.heap.size := hB16.size
              have HSW2 := Lib.hid (show (N + 1) * 24 ≤ 140737488355328 ∧ N + 1 ≤ maxLen by unfold maxLen; omega)
              clear ho16 hg16 hb16 hk16 hB16 HSW
              go_wp2_with (at_builtin; refine wpList_append_own3 _ rfl (.tmp 180) (.tmp 182) 51 rfl wr.heap.size 31 i31 (.slice none 0 0) 24 Try.underlying51 hj hy0 hy1 hy2 rfl (.slice (some ⟨g16, 0, none⟩) N c16) N vs rfl HAL.out ⟨w16.heap.size, 0, none⟩ 1 1 [.slice (some ⟨w13.heap.size, 0, none⟩) k k] rfl rfl (cell_new31 _ _) (one_sl _ _ _) HSW2.out.2 HSW2.out.1 (by simp; omega) ?_)
              intro v2 w17 ho17 hg17 hb17 hk17
              have hB17 : Below wr.heap.size wr w17 := (HB16.out.alloc hs16 (.cells #[.slice (some ⟨w13.heap.size, 0, none⟩) k k] 31)).grown hg17 (by simp; omega) (fun j e => (own_lt HO16.out e).1)
              have hrr : RR w17 v2 (N + 1) (moreX N X s) := rr_of_own ho17 (by omega) fun j hj => by
                by_cases e : j < N
                · obtain ⟨a1, n1, c1, e1, hrb⟩ := HVR.out j e
                  refine ⟨a1, n1, c1, by rw [List.getElem?_append_left (by have := HVL.out; omega)]; exact e1, ?_⟩
                  unfold moreX
                  rw [if_pos e]
                  exact hrb.below hB17
                · obtain rfl : j = N := by omega
                  refine ⟨_, _, _, by rw [List.getElem?_append_right (by have := HVL.out; omega)]; rw [show j - vs.length = 0 by have := HVL.out; omega]; rfl, ?_⟩
                  unfold moreX
                  rw [if_neg (Nat.lt_irrefl j)]
                  exact HRS.out.below hB17
              obtain ⟨g17, c17, rfl⟩ := own_some ho17 (by omega)
              have hrk := Rank_any (by omega) hrr
              rw [HMR2.out] at hrk
              have HRK := Lib.hid hrk
              have HF := Lib.hid (H15.out.step hB17)
              clear ho17 hg17 hb17 hk17 hB17 hrr hrk HAL HO16 HG16 HB16 HSW2 HVR HVL HV1 HVC HE HRS
              go_wp2_with fail
              refine HRK.out.mono ?_
              rintro e w18 ⟨rfl, hB18⟩
              have HB18 := Lib.hid (HF.out.step hB18)
              clear hB18 HRK
              go_wp2_with fail
              go_ret
              exact ⟨rfl, HB18.out.low⟩
    · have HM1 := Lib.hid (Mul_ok H1.out.A H1.out.B hab)
      have HM2 := Lib.hid fun W (hW : RR W (.slice b M cb) M Y) (hW2 : RR W (.slice c L cc) L Z) => Mul_bad (by omega) (by omega) hW hW2 hbc
      clear hab hbc
      go_wp2_with fail
      refine HM1.out.mono ?_
      rintro e w2 ⟨g2, p2, q2, rfl, _, hB2⟩
      have H2 := Lib.hid (H1.out.step hB2)
      clear hB2 H1 HM1
      go_wp2_with fail
      refine (HM2.out w2 H2.out.B H2.out.C).mono ?_
      rintro e w3 ⟨rfl, rfl⟩
      go_wp2_with fail
      go_ret
      exact ⟨rfl, H2.out.low⟩
  · have HM1 := Lib.hid (Mul_bad (by omega) (by omega) H1.out.A H1.out.B hab)
    clear hab
    by_cases hbc : mulOk M L Y Z
    · have HM2 := Lib.hid (Mul_ok H1.out.B H1.out.C hbc)
      clear hbc
      go_wp2_with fail
      refine HM1.out.mono ?_
      rintro e w2 ⟨rfl, rfl⟩
      go_wp2_with fail
      refine HM2.out.mono ?_
      rintro e w2 ⟨g2, p2, q2, rfl, _, hB2⟩
      have H2 := Lib.hid (H1.out.step hB2)
      clear hB2 H1 HM1 HM2
      go_wp2_with fail
      go_ret
      exact ⟨rfl, H2.out.low⟩
    · have HM2 := Lib.hid (Mul_bad (by omega) (by omega) H1.out.B H1.out.C hbc)
      clear hbc
      go_wp2_with fail
      refine HM1.out.mono ?_
      rintro e w2 ⟨rfl, rfl⟩
      go_wp2_with fail
      refine HM2.out.mono ?_
      rintro e w2 ⟨rfl, rfl⟩
      go_wp2_with fail
      go_ret
      exact ⟨rfl, H1.out.low⟩
end Go.Proofs.Ytokeoodkioobdaa
