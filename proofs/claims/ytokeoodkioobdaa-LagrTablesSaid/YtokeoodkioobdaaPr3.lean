/- The walks of the reference's Lean and Value of polynomials. Conditions: rows are shorter than 2 to the 47. -/
import Derived.Test.YtokeoodkioobdaaPoly4
import Derived.Test.YtokeoodkioobdaaPoly8
import Derived.Test.YtokeoodkioobdaaQt
import Derived.Test.YtokeoodkioobdaaPoly6
namespace Go.Proofs.Ytokeoodkioobdaa
open Go.RowKit

/-- Where the walk back stands. -/
def RLn (zs : List Nat) (len : Nat) (v : Value) : Prop := ∃ m : Nat, m ≤ len ∧ v = .int .i64 m ∧ Hid (ln zs len = ln zs m)
theorem own_new2 (w : World) : (w.alloc (.cells #[] 5)).ownsRow w.heap.size 5 1 (.slice (some ⟨w.heap.size, 0, none⟩) 0 0) 0 [] := own_new w

set_option maxHeartbeats 1600000 in
set_option maxRecDepth 100000 in
theorem rLean_some {w : World} {b off len cap : Nat} {zs : List Nat} (hI : RB w (some ⟨b, off, none⟩) len cap zs) :
    Calls Try.prog 62 #[.slice (some ⟨b, off, none⟩) len cap] w fun e W' => ∃ v, e = .returned v ∧ W'.ownsRow w.heap.size 5 1 v (ln zs len) (bs (zs.take (ln zs len))) ∧ Below w.heap.size w W' := by
  obtain ⟨i0, hi, hz0, hz1, hz2⟩ := info_parts info5
  have hm := hI.most
  have hle := hI.le
  have hlen := hI.len
  have HI := Lib.hid hI
  have HL := Lib.hid hlen
  clear hI hlen
  go_enter Try.func62, Try.ntmps62
  go_wp2_with fail
  go_loop [3] (fun v => RLn zs len v) (fun v => (intOf v).toNat)
  case atStart => exact ⟨len, Nat.le_refl _, rfl, rfl⟩
  case round =>
    obtain ⟨m, hm2, rfl, hln⟩ := hrel
    have hfin : ∀ k, k = ln zs len → k ≤ len → Hid (∀ (W2 : World) (v' : Value), W2.ownsRow w.heap.size 5 1 v' k (bs (zs.take k)) → W2.ownsRow w.heap.size 5 1 v' (ln zs len) (bs (zs.take (ln zs len)))) := fun k hk _ W2 v' h => by rw [← hk]; exact h
    by_cases h0 : m = 0
    · subst h0
      have hk : 0 = ln zs len := by rw [hln.out]; rfl
      have HF := hfin 0 hk (by omega)
      clear hfin hk hln
      have hO := own_new2 w
      have HO := Lib.hid hO
      clear hO
      go_wp2_with (at_builtin; refine wpList_append_fits_any _ rfl (.tmp 18) (.tmp 21) 31 rfl w.heap.size 5 i0 1 Try.underlying31 hi hz1 w.heap.size 0 0 [] rfl HO.out _ 0 _ [] rfl rfl (fun h => by cases h) (fun _ _ j u h => by cases h) (fun _ h => by cases h) (by omega) ?_; intro w2 hown2 hg2; have HO2 := Lib.hid hown2; have HG2 := Lib.hid hg2; clear hown2 hg2)
      go_ret
      exact ⟨_, rfl, HF.out _ _ HO2.out, ((Below.refl _ _).alloc (Nat.le_refl _) _).grown HG2.out (by simp) (fun j e => by cases e; exact Nat.le_refl _)⟩
    · obtain ⟨j, rfl⟩ : ∃ j, m = j + 1 := ⟨m - 1, by omega⟩
      obtain ⟨b', off', e, hc⟩ := HI.out.at_ j (by omega)
      injection e with e; injection e with e1 e2; subst e1; subst e2
      have hln2 : ln zs (j + 1) = if zs[j]?.getD 0 = 0 then ln zs j else j + 1 := rfl
      rw [← List.getD_eq_getElem?_getD] at hln2
      have hsub : ((j + 1 : Nat) : Int) - 1 = (j : Int) := by omega
      have hpos : (0 : Int) < ((j + 1 : Nat) : Int) := by omega
      by_cases hz : zs.getD j 0 = 0
      · rw [hz] at hc
        have hn : ln zs len = ln zs j := by rw [hln.out, hln2, if_pos hz]
        have HN := Lib.hid hn
        clear hn hln hln2 hfin hz
        go_wp2_with fail
        go_round
        case rel => exact ⟨j, by omega, by go_num, HN⟩
        case measure => simp [intOf]
      · have hn : j + 1 = ln zs len := by rw [hln.out, hln2, if_neg hz]
        have HF := hfin (j + 1) hn (by omega)
        have hne : ((zs.getD j 0 : Nat) : Int) ≠ 0 := by omega
        clear hn hln hln2 hfin hz
        generalize zs.getD j 0 = v at *
        have hO := own_new2 w
        have HO := Lib.hid hO
        clear hO
        have hk2 : j + 1 ≤ cap := by omega
        go_wp2_with (at_builtin; refine wpList_append_own _ rfl (.tmp 18) (.tmp 21) 31 rfl w.heap.size 5 i0 (.int .u8 0) 1 1 Try.underlying31 hi hz0 hz1 hz2 rfl (by decide) _ 0 [] rfl HO.out ⟨b, off, none⟩ (j + 1) cap (bs (zs.take (j + 1))) rfl (by rw [length_bs, List.length_take, HL.out]; omega) ?_ (bs_one _) (by unfold maxLen; omega) (by omega) (by simp) ?_)
        · intro i u hu
          have hj : i < j + 1 := by have := (List.getElem?_eq_some_iff.1 hu).1; rw [length_bs, List.length_take] at this; omega
          obtain ⟨b', off', e, hc⟩ := (HI.out.alloc (.cells #[] 5)).at_ i (by omega)
          injection e with e; injection e with e1 e2; subst e1; subst e2
          rw [bs_get _ _ (by rw [List.length_take, HL.out]; omega), List.getD_eq_getElem?_getD, List.getElem?_take_of_lt hj, ← List.getD_eq_getElem?_getD] at hu
          rw [hc, hu]
        · intro v' w2 hown2 hg2 _
          have HO2 := Lib.hid hown2
          have HG2 := Lib.hid hg2
          clear hown2 hg2
          go_wp2_with fail
          go_ret
          exact ⟨_, rfl, HF.out _ _ (by simpa using HO2.out), ((Below.refl _ _).alloc (Nat.le_refl _) _).grown HG2.out (by simp) (fun j e => by cases e; exact Nat.le_refl _)⟩

set_option maxHeartbeats 800000 in
set_option maxRecDepth 100000 in
theorem rLean_nil {w : World} :
    Calls Try.prog 62 #[.slice none 0 0] w fun e W' => ∃ v, e = .returned v ∧ W'.ownsRow w.heap.size 5 1 v 0 [] ∧ Below w.heap.size w W' := by
  obtain ⟨i0, hi, hz0, hz1, hz2⟩ := info_parts info5
  have HO := Lib.hid (own_new2 w)
  go_enter Try.func62, Try.ntmps62
  go_wp2_with fail
  go_loop [3] (fun v => v = .int .i64 0) (fun _ => 0)
  case atStart => rfl
  case round =>
    subst hrel
    go_wp2_with (at_builtin; refine wpList_append_fits_any _ rfl (.tmp 18) (.tmp 21) 31 rfl w.heap.size 5 i0 1 Try.underlying31 hi hz1 w.heap.size 0 0 [] rfl HO.out none 0 0 [] rfl rfl (fun _ => ⟨rfl, rfl⟩) (fun _ h => by cases h) (fun _ h => by cases h) (by omega) ?_; intro w2 hown2 hg2; have HO2 := Lib.hid hown2; have HG2 := Lib.hid hg2; clear hown2 hg2)
    go_ret
    exact ⟨_, rfl, HO2.out, ((Below.refl _ _).alloc (Nat.le_refl _) _).grown HG2.out (by simp) (fun j e => by cases e; exact Nat.le_refl _)⟩

set_option maxHeartbeats 800000 in
set_option maxRecDepth 100000 in
theorem rLean_zero {w : World} {ad : Addr} {cap : Nat} :
    Calls Try.prog 62 #[.slice (some ad) 0 cap] w fun e W' => ∃ v, e = .returned v ∧ W'.ownsRow w.heap.size 5 1 v 0 [] ∧ Below w.heap.size w W' := by
  obtain ⟨i0, hi, hz0, hz1, hz2⟩ := info_parts info5
  have HO := Lib.hid (own_new2 w)
  go_enter Try.func62, Try.ntmps62
  go_wp2_with fail
  go_loop [3] (fun v => v = .int .i64 0) (fun _ => 0)
  case atStart => rfl
  case round =>
    subst hrel
    go_wp2_with (at_builtin; refine wpList_append_fits_any _ rfl (.tmp 18) (.tmp 21) 31 rfl w.heap.size 5 i0 1 Try.underlying31 hi hz1 w.heap.size 0 0 [] rfl HO.out _ 0 _ [] rfl rfl (fun h => by cases h) (fun _ _ j u h => by cases h) (fun _ h => by cases h) (by omega) ?_; intro w2 hown2 hg2; have HO2 := Lib.hid hown2; have HG2 := Lib.hid hg2; clear hown2 hg2)
    go_ret
    exact ⟨_, rfl, HO2.out, ((Below.refl _ _).alloc (Nat.le_refl _) _).grown HG2.out (by simp) (fun j e => by cases e; exact Nat.le_refl _)⟩

theorem rLean_any {w : World} {a : Option Addr} {len cap : Nat} {zs : List Nat} (hI : RB w a len cap zs) :
    Calls Try.prog 62 #[.slice a len cap] w fun e W' => ∃ v, e = .returned v ∧ W'.ownsRow w.heap.size 5 1 v (lean zs).length (bs (lean zs)) ∧ Below w.heap.size w W' := by
  have hlen : (lean zs).length = ln zs len := by rw [length_lean, hI.len]
  have hle2 : lean zs = zs.take (ln zs len) := by unfold lean; rw [hI.len]
  rw [hlen, hle2]
  cases a with
  | none =>
    have hc := hI.nil rfl
    have hl := hI.le
    obtain rfl : cap = 0 := hc
    obtain rfl : len = 0 := by omega
    exact rLean_nil
  | some ad =>
    by_cases h0 : len = 0
    · subst h0
      exact rLean_zero
    · obtain ⟨b, off, e, _⟩ := hI.at_ 0 (by omega)
      injection e with e
      subst e
      exact rLean_some hI

/-- Powers, and the sum of coefficients by powers. -/
def pw (x : Nat) : Nat → Nat
  | 0 => 1
  | k + 1 => Gf.mul (pw x k) x
theorem pw_lt (x : Nat) : ∀ k, pw x k < 256
  | 0 => by show 1 < 256; decide
  | k + 1 => Gf.mul_lt (pw_lt x k)
def sval (zs : List Nat) (x : Nat) : Nat → Nat
  | 0 => 0
  | k + 1 => sval zs x k ^^^ Gf.mul (zs.getD k 0) (pw x k)
theorem sval_lt {zs : List Nat} (h : Small zs) (x : Nat) : ∀ k, sval zs x k < 256
  | 0 => by show 0 < 256; decide
  | k + 1 => Gf.xor_lt (sval_lt h x k) (Gf.mul_lt (h k))

set_option maxHeartbeats 1600000 in
set_option maxRecDepth 100000 in
theorem rValue_any {w : World} {a : Option Addr} {len cap x : Nat} {zs : List Nat} (hx : x < 256) (hI : RB w a len cap zs) :
    Calls Try.prog 63 #[.slice a len cap, .int .u8 (x : Nat)] w fun e W' => e = .returned (.int .u8 (sval zs x len : Nat)) ∧ w = W' := by
  have hm := hI.most
  have hle := hI.le
  have HI := Lib.hid hI
  clear hI
  go_enter Try.func63, Try.ntmps63
  go_wp2_with fail
  go_loop [5, 6, 7] (fun s p i => ∃ k t q : Nat, k ≤ len ∧ i = .int .i64 k ∧ s = .int .u8 t ∧ p = .int .u8 q ∧ t < 256 ∧ q < 256 ∧ Hid (t = sval zs x k) ∧ Hid (q = pw x k)) (fun _ _ i => len - (intOf i).toNat)
  case atStart => exact ⟨0, 0, 1, by omega, rfl, rfl, rfl, by omega, by omega, rfl, rfl⟩
  case round =>
    obtain ⟨k, t, q, hk, rfl, rfl, rfl, ht, hq, hts, hqs⟩ := hrel
    by_cases hk1 : k < len
    · obtain ⟨b, off, rfl, hc⟩ := HI.out.at_ k hk1
      have hz := HI.out.small k
      have hmz : Gf.mul (zs.getD k 0) q < 256 := Gf.mul_lt hz
      have hmq : Gf.mul q x < 256 := Gf.mul_lt hq
      have hxo := u8_xor_nat t (Gf.mul (zs.getD k 0) q) ht hmz
      have h1 : ∀ W, Hid (Calls Try.prog 38 #[.int .u8 (zs.getD k 0 : Nat), .int .u8 (q : Nat)] W fun e w' => e = .returned (.int .u8 (Gf.mul (zs.getD k 0) q : Nat)) ∧ W = w') := fun W => rmul_any _ _ hz hq W
      have h2 : ∀ W, Hid (Calls Try.prog 38 #[.int .u8 (q : Nat), .int .u8 (x : Nat)] W fun e w' => e = .returned (.int .u8 (Gf.mul q x : Nat)) ∧ W = w') := fun W => rmul_any _ _ hq hx W
      have HS := Lib.hid (show t ^^^ Gf.mul (zs.getD k 0) q = sval zs x (k + 1) by rw [hts.out, hqs.out]; rfl)
      have HP := Lib.hid (show Gf.mul q x = pw x (k + 1) by rw [hqs.out]; rfl)
      have hxl := Gf.xor_lt ht hmz
      have H1 := Lib.hid h1
      have H2 := Lib.hid h2
      clear h1 h2 hts hqs
      generalize t ^^^ Gf.mul (zs.getD k 0) q = r at *
      generalize Gf.mul (zs.getD k 0) q = m1 at *
      generalize Gf.mul q x = m2 at *
      generalize zs.getD k 0 = z at *
      go_wp2_with (first
        | (go_at_call 38; ((with_reducible refine (H1.out _).out.mono ?_); rintro e w' ⟨rfl, rfl⟩))
        | (go_at_call 38; ((with_reducible refine (H2.out _).out.mono ?_); rintro e w' ⟨rfl, rfl⟩)))
      go_round
      case rel => exact ⟨k + 1, r, m2, by omega, by go_num, rfl, rfl, hxl, hmq, HS, HP⟩
      case measure => simp [intOf]; omega
    · obtain rfl : k = len := by omega
      have HT := hts
      clear hts hqs
      go_wp2_with fail
      go_ret
      exact ⟨ret_u8 (show ((t : Nat) : Int) = _ by rw [HT.out]), rfl⟩
end Go.Proofs.Ytokeoodkioobdaa

/- The walks of the reference's Add and product of polynomials. Conditions: rows are shorter than 2 to the 46. -/
namespace Go.Proofs.Ytokeoodkioobdaa
open Go.RowKit

/-- x's first k, noughts up to N. -/
def cpTo (x : List Nat) (N : Nat) : Nat → List Nat
  | 0 => List.replicate N 0
  | k + 1 => (cpTo x N k).set k (x.getD k 0)
theorem length_cpTo (x : List Nat) (N : Nat) : ∀ k, (cpTo x N k).length = N
  | 0 => by simp [cpTo]
  | k + 1 => by show (List.set _ _ _).length = _; rw [List.length_set, length_cpTo x N k]
theorem cpTo_get (x : List Nat) (N : Nat) : ∀ k, k ≤ N → ∀ j, (cpTo x N k).getD j 0 = if j < k then x.getD j 0 else 0
  | 0, _, j => by rw [if_neg (by omega)]; simp [cpTo, List.getD_eq_getElem?_getD, List.getElem?_replicate]; split <;> rfl
  | k + 1, h, j => by
    show (List.set _ _ _).getD j 0 = _
    rw [getD_set _ _ _ _ (by rw [length_cpTo]; omega), cpTo_get x N k (by omega)]
    by_cases e : k = j
    · subst e; rw [if_pos rfl, if_pos (by omega)]
    · rw [if_neg e]
      by_cases h2 : j < k
      · rw [if_pos h2, if_pos (by omega)]
      · rw [if_neg h2, if_neg (by omega)]
theorem ext_getD {a b : List Nat} (hl : a.length = b.length) (h : ∀ j, a.getD j 0 = b.getD j 0) : a = b := by
  apply List.ext_getElem hl
  intro i h1 h2
  have := h i
  simpa [List.getD_eq_getElem?_getD, h1, h2] using this
theorem padd_get (x : List Nat) (N j : Nat) : (padd x N).getD j 0 = x.getD j 0 := by
  unfold padd
  rw [List.getD_eq_getElem?_getD, List.getElem?_append, List.getD_eq_getElem?_getD]
  split
  · rfl
  · rw [List.getElem?_eq_none (by omega : x.length ≤ j), List.getElem?_replicate]; split <;> rfl
theorem cpTo_all {x : List Nat} {N : Nat} (h : x.length ≤ N) : cpTo x N x.length = padd x N :=
  ext_getD (by rw [length_cpTo]; simp [padd]; omega) fun j => by
    rw [cpTo_get x N _ h, padd_get]
    split
    · rfl
    · rw [List.getD_eq_getElem?_getD, List.getElem?_eq_none (by omega)]; rfl
theorem cpTo_small {x : List Nat} {N : Nat} (hx : Small x) (k : Nat) (hk : k ≤ N) : Small (cpTo x N k) := fun j => by
  rw [cpTo_get x N k hk]
  split
  · exact hx j
  · omega

set_option maxHeartbeats 3200000 in
set_option maxRecDepth 100000 in
theorem rAdd_any {w : World} {a b : Option Addr} {n c m d N : Nat} {x y : List Nat} (hx : RB w a n c x) (hy : RB w b m d y) (hN : max (n : Int) (m : Int) = (N : Int)) (hnN : n ≤ N) (hmN : m ≤ N) (hN2 : N ≤ 140737488351232) :
    Calls Try.prog 61 #[.slice a n c, .slice b m d] w fun e w' => ∃ v, e = .returned v ∧ w'.ownsRow w.heap.size 5 1 v (lean (sumTo x y N m)).length (bs (lean (sumTo x y N m))) ∧ Below w.heap.size w w' := by
  obtain ⟨i0, hi, hz0, hz1, hz2⟩ := info_parts info5
  have hm1 := hx.most
  have hm2 := hy.most
  have HX := Lib.hid hx
  have HY := Lib.hid hy
  clear hx hy
  go_enter Try.func61, Try.ntmps61
  go_wp2_with (refine wpList_make_full _ rfl (.tmp 12) (.tmp 12) 31 rfl w.heap.size 5 i0 (.int .u8 0) 1 Try.underlying31 hi hz0 hz1 .i64 .i64 _ _ N rfl rfl (by omega) (by omega) ?_ ?_ (Nat.le_refl _) ?_)
  · rw [hz2]; omega
  · unfold maxLen; omega
  all_goals
    intro w1 hown hg1
    have hB1 : Below w.heap.size w w1 := (Below.refl _ _).grown hg1 (Nat.le_refl _) (fun j e => by cases e)
    have HO := Lib.hid (own_zeros hown)
    have HB1 := Lib.hid hB1
    clear hB1 hown hg1
    go_wp2_with fail
    go_loopw [6] (fun i wr => ∃ k : Nat, k ≤ n ∧ i = .int .i64 k ∧ Hid (wr.ownsRow w.heap.size 5 1 (.slice (some ⟨w.heap.size, 0, none⟩) N N) N (bs (cpTo x N k))) ∧ Below w.heap.size w wr) (fun i _ => n - (intOf i).toNat)
    case atStart => exact ⟨0, by omega, rfl, HO.out, HB1.out⟩
    case round =>
      obtain ⟨k, hk, rfl, hown, hB⟩ := hrel
      have HB := Lib.hid hB
      by_cases hk1 : k < n
      · obtain ⟨b1, o1, rfl, hc1⟩ := (HX.out.below hB).at_ k hk1
        have hc2 := own_cell hown.out (i := k) (by omega)
        have hfr := hc2.2
        have hc3 := hc2.1
        have hst := own_set (i := k) (x := x.getD k 0) hown.out
        have HST := Lib.hid (show World.ownsRow _ _ 5 1 _ _ (bs (cpTo x N (k + 1))) from hst)
        have hkN : k < N := by omega
        clear hst hc2 hown hB
        generalize x.getD k 0 = u at *
        generalize (cpTo x N k).getD k 0 = v at *
        go_wp2_with fail
        go_roundw
        case rel => exact ⟨k + 1, by omega, by go_num, HST, HB.out.setCell (Nat.le_refl _) _⟩
        case measure => simp [intOf]; omega
      · obtain rfl : k = n := by omega
        have hs0 := hown.out
        have hxl := HX.out.len
        rw [show cpTo x N k = sumTo x y N 0 from by rw [← hxl]; exact cpTo_all (by omega)] at hs0
        have HS0 := Lib.hid hs0
        clear hs0 hown hB hxl
        go_wp2_with fail
        go_loopw [7] (fun i wr => ∃ j : Nat, j ≤ m ∧ i = .int .i64 j ∧ Hid (wr.ownsRow w.heap.size 5 1 (.slice (some ⟨w.heap.size, 0, none⟩) N N) N (bs (sumTo x y N j))) ∧ Below w.heap.size w wr) (fun i _ => m - (intOf i).toNat)
        case atStart => exact ⟨0, by omega, rfl, HS0.out, HB.out⟩
        case round =>
          obtain ⟨j, hj, rfl, hown, hB⟩ := hrel
          have HB := Lib.hid hB
          by_cases hj1 : j < m
          · obtain ⟨b1, o1, rfl, hc1⟩ := (HY.out.below hB).at_ j hj1
            have hy1 := HY.out.small j
            have hc2 := own_cell hown.out (i := j) (by omega)
            have hfr := hc2.2
            have hc3 := hc2.1
            have hst := own_set (i := j) (x := (sumTo x y N j).getD j 0 ^^^ y.getD j 0) hown.out
            have hs := sumTo_small HX.out.small HY.out.small (by rw [HX.out.len]; exact hnN) j (by omega) j
            have HST := Lib.hid (show World.ownsRow _ _ 5 1 _ _ (bs (sumTo x y N (j + 1))) from hst)
            have hxo := u8_xor_nat ((sumTo x y N j).getD j 0) (y.getD j 0) hs hy1
            have hjN : j < N := by omega
            have h1j : (0 : Int) ≤ (j : Int) := by omega
            have h2j : (j : Int) < (N : Int) := by omega
            have h3j : (j : Int) < (m : Int) := by omega
            clear hst hc2 hown hB
            generalize (sumTo x y N j).getD j 0 ^^^ y.getD j 0 = r at *
            generalize (sumTo x y N j).getD j 0 = u at *
            generalize y.getD j 0 = v at *
            go_wp2_with fail
            refine region_quiet_tail 12 (by kernel_rfl) (by kernel_rfl) ?_
            simp only [List.take_succ_cons, List.take_zero, List.drop_succ_cons, List.drop_zero]
            repeat (go_big_quiet_step (fail))
            refine wpQuiet_nil ?_
            intro _ hw'
            obtain ⟨nq, rfl⟩ := hw'
            go_wp2_with fail
            go_roundw
            case rel => exact ⟨j + 1, by omega, by go_num, HST, (below_drewN HB.out _).setCell (Nat.le_refl _) _⟩
            case measure => simp [intOf]; omega
          · obtain rfl : j = m := by omega
            obtain ⟨na, nc, he, hnr⟩ := own_rb hown.out (sumTo_small HX.out.small HY.out.small (by rw [HX.out.len]; exact hnN) j (by omega)) hN2
            injection he with e1 e2 e3
            subst e1; subst e3
            have hsz := own_block hown.out
            have HLN := Lib.hid (rLean_any hnr)
            clear hnr hown hB
            go_wp2_with (go_at_call 62; ((with_reducible refine HLN.out.mono ?_); rintro e w6 ⟨v6, rfl, hown6, hB6⟩; have HOW6 := Lib.hid hown6; have HB6 := Lib.hid hB6; clear hown6 hB6))
            go_ret
            exact ⟨_, rfl, own_mono HOW6.out (by omega), HB.out.trans (HB6.out.mono (by omega))⟩
end Go.Proofs.Ytokeoodkioobdaa

/- The walks of the reference's product and Mul of polynomials. Conditions: rows are shorter than 2 to the 46. -/
namespace Go.Proofs.Ytokeoodkioobdaa
open Go.RowKit

set_option maxHeartbeats 3200000 in
set_option maxRecDepth 100000 in
/-- The product of p (first) and q. -/
theorem product_any {w : World} {a b : Option Addr} {n c m d : Nat} {p q : List Nat} (hp : RB w a n c p) (hq : RB w b m d q) (hs : n + m ≤ 1000000) :
    Calls Try.prog 91 #[.slice a n c, .slice b m d] w fun e w' => ∃ v, e = .returned v ∧ w'.ownsRow w.heap.size 5 1 v (conv q p).length (bs (conv q p)) ∧ Below w.heap.size w w' := by
  obtain ⟨i0, hi, hz0, hz1, hz2⟩ := info_parts info5
  have hm1 := hp.most
  have hm2 := hq.most
  have HP := Lib.hid hp
  have HQ := Lib.hid hq
  clear hp hq
  obtain ⟨N, hN⟩ : ∃ N, N = n + m := ⟨_, rfl⟩
  have hNi : (n : Int) + (m : Int) = (N : Int) := by omega
  have hN1 : n ≤ N := by omega
  have hN2 : N ≤ 1000000 := by omega
  have HN := Lib.hid hN
  clear hN hs
  go_enter Try.func91, Try.ntmps91
  go_wp2_with (refine wpList_make_full _ rfl (.tmp 12) (.tmp 12) 31 rfl w.heap.size 5 i0 (.int .u8 0) 1 Try.underlying31 hi hz0 hz1 .i64 .i64 _ _ N rfl rfl (by omega) (by omega) ?_ ?_ (Nat.le_refl _) ?_)
  · rw [hz2]; omega
  · unfold maxLen; omega
  intro w1 hown hg1
  have hB1 : Below w.heap.size w w1 := (Below.refl _ _).grown hg1 (Nat.le_refl _) (fun j e => by cases e)
  have HO := Lib.hid (own_zeros hown)
  have HB1 := Lib.hid hB1
  clear hB1 hown hg1
  clear hNi
  go_wp2_with fail
  go_loopw [6] (fun i wr => ∃ k : Nat, k ≤ n ∧ i = .int .i64 k ∧ Hid (wr.ownsRow w.heap.size 5 1 (.slice (some ⟨w.heap.size, 0, none⟩) N N) N (bs (convTo q p k))) ∧ Below w.heap.size w wr) (fun i _ => n - (intOf i).toNat)
  case atStart => exact ⟨0, by omega, rfl, (by show _ = _ ∧ _; rw [show convTo q p 0 = List.replicate N 0 from by rw [HN.out, ← HP.out.len, ← HQ.out.len, Nat.add_comm]; rfl]; exact HO.out), HB1.out⟩
  case round =>
    obtain ⟨k, hk, rfl, hown, hB⟩ := hrel
    have HB := Lib.hid hB
    by_cases hk1 : k < n
    · obtain ⟨b1, o1, rfl, hc1⟩ := (HP.out.below hB).at_ k hk1
      have hpk := HP.out.small k
      have hst0 : convTo q p (k + 1) = xadd (convTo q p k) k q (p.getD k 0) m := by show xadd _ _ _ _ _ = _; rw [HQ.out.len]
      have hsm0 := convTo_small (out := q) (p := p) HQ.out.small k (by rw [HP.out.len]; omega)
      have hlen0 : (convTo q p k).length = N := by rw [length_convTo, HP.out.len, HQ.out.len, HN.out, Nat.add_comm]
      have HST0 := Lib.hid hst0
      have HSM0 := Lib.hid hsm0
      have HL0 := Lib.hid hlen0
      have HOW := hown
      have hkm : k + m ≤ N := by have := HN.out; omega
      clear hst0 hsm0 hlen0 hown hc1 hB
      go_wp2_with fail
      obtain ⟨wo, rfl⟩ : ∃ wo : World, wo = wr := ⟨_, rfl⟩
      go_loopw [7] (fun i wr => ∃ j : Nat, j ≤ m ∧ i = .int .i64 j ∧ Hid (wr.ownsRow w.heap.size 5 1 (.slice (some ⟨w.heap.size, 0, none⟩) N N) N (bs (xadd (convTo q p k) k q (p.getD k 0) j))) ∧ Below w.heap.size w wr) (fun i _ => m - (intOf i).toNat)
      case atStart => exact ⟨0, by omega, rfl, HOW, HB.out⟩
      case round =>
        obtain ⟨j, hj, rfl, hown, hB⟩ := hrel
        have HB2 := Lib.hid hB
        by_cases hj1 : j < m
        · obtain ⟨b1', o1', e, hc1⟩ := (HP.out.below hB).at_ k hk1
          injection e with e; injection e with e1 e2; subst e1; subst e2
          obtain ⟨b2, o2, rfl, hc2⟩ := (HQ.out.below hB).at_ j hj1
          have hqj := HQ.out.small j
          have hsm := xadd_small HSM0.out HQ.out.small (at_ := k) (y := p.getD k 0) (k := j) (by rw [HL0.out]; omega) (k + j)
          have hoc := own_cell hown.out (i := k + j) (by omega)
          have hst := own_set (i := k + j) (x := (xadd (convTo q p k) k q (p.getD k 0) j).getD (k + j) 0 ^^^ Gf.mul (q.getD j 0) (p.getD k 0)) hown.out
          have HST := Lib.hid (show World.ownsRow _ _ 5 1 _ _ (bs (xadd (convTo q p k) k q (p.getD k 0) (j + 1))) from hst)
          have hmc : Gf.mul (p.getD k 0) (q.getD j 0) = Gf.mul (q.getD j 0) (p.getD k 0) := Gf.mul_comm hpk hqj
          have hml : Gf.mul (q.getD j 0) (p.getD k 0) < 256 := Gf.mul_lt hqj
          have hxo := u8_xor_nat _ _ hsm hml
          have hcall : ∀ W, Hid (Calls Try.prog 38 #[.int .u8 (p.getD k 0 : Nat), .int .u8 (q.getD j 0 : Nat)] W fun e w' => e = .returned (.int .u8 (Gf.mul (q.getD j 0) (p.getD k 0) : Nat)) ∧ W = w') := fun W => by rw [← hmc]; exact rmul_any _ _ hpk hqj W
          have HC := Lib.hid hcall
          have hc3 := hoc.1
          have hfr := hoc.2
          obtain ⟨kj, hkj⟩ : ∃ kj, kj = k + j := ⟨_, rfl⟩
          rw [← hkj] at hc3 hfr hsm hxo HST
          have hw : IntKind.i64.wrap ((k : Int) + (j : Int)) = (kj : Int) := by rw [show (k : Int) + (j : Int) = (kj : Int) by omega]; exact IntWalk.i64_in _ (by omega)
          have h1 : (0 : Int) ≤ (kj : Int) := by omega
          have h2 : (kj : Int) < (N : Int) := by omega
          have h3 : (0 : Int) ≤ (j : Int) := by omega
          have h4 : (j : Int) < (m : Int) := by omega
          have h5 : (0 : Int) ≤ (k : Int) := by omega
          have h6 : (k : Int) < (n : Int) := by omega
          have h7 : kj < N := by omega
          clear hst hoc hown hB hmc hcall hkj
          generalize (xadd (convTo q p k) k q (p.getD k 0) j).getD kj 0 ^^^ Gf.mul (q.getD j 0) (p.getD k 0) = r at *
          generalize (xadd (convTo q p k) k q (p.getD k 0) j).getD kj 0 = u at *
          generalize Gf.mul (q.getD j 0) (p.getD k 0) = t at *
          generalize p.getD k 0 = z at *
          generalize q.getD j 0 = y at *
          go_wp2_with fail
          refine region_quiet_tail 21 (by kernel_rfl) (by kernel_rfl) ?_
          simp only [List.take_succ_cons, List.take_zero, List.drop_succ_cons, List.drop_zero]
          repeat (go_big_quiet_step ((go_at_call 38; exact quiet_same (HC.out _).out)))
          refine wpQuiet_nil ?_
          intro _ hw'
          obtain ⟨nq, rfl⟩ := hw'
          go_wp2_with fail
          go_roundw
          case rel => exact ⟨j + 1, by omega, by go_num, HST, (below_drewN HB2.out _).setCell (Nat.le_refl _) _⟩
          case measure => simp [intOf]; omega
        · obtain rfl : j = m := by omega
          have HF : Hid (World.ownsRow wr w.heap.size 5 1 (.slice (some ⟨w.heap.size, 0, none⟩) N N) N (bs (convTo q p (k + 1)))) := by rw [HST0.out]; exact hown
          clear hown hB
          go_wp2_with fail
          go_roundw
          case rel => exact ⟨k + 1, by omega, by go_num, HF, HB2.out⟩
          case measure => simp [intOf]; omega
    · obtain rfl : k = n := by omega
      have hcv : conv q p = lean (convTo q p k) := by unfold conv; rw [HP.out.len]
      obtain ⟨na, nc, he, hnr⟩ := own_rb hown.out (convTo_small HQ.out.small k (by rw [HP.out.len]; exact Nat.le_refl _)) (by omega)
      injection he with e1 e2 e3
      subst e1; subst e3
      have hln := rLean_any hnr
      rw [← hcv] at hln
      have HLN := Lib.hid hln
      have hszr := own_block hown.out
      clear hln hcv hnr hown hB
      go_wp2_with (go_at_call 62; ((with_reducible refine HLN.out.mono ?_); rintro e w6 ⟨v6, rfl, hown6, hB6⟩; have HOW6 := Lib.hid hown6; have HB6 := Lib.hid hB6; clear hown6 hB6))
      go_ret
      exact ⟨_, rfl, own_mono HOW6.out (by omega), HB.out.trans (HB6.out.mono (by omega))⟩

theorem lean_bound {w : World} {a : Option Addr} {n c : Nat} {x : List Nat} (h : RB w a n c x) : (lean x).length ≤ n := by rw [length_lean, h.len]; exact ln_le _ _

set_option maxHeartbeats 1600000 in
set_option maxRecDepth 100000 in
theorem rMul_ok {w : World} {a b : Option Addr} {n c m d : Nat} {x y : List Nat} (hx : RB w a n c x) (hy : RB w b m d y) (h1 : ln x n ≤ 600) (h2 : ln y m ≤ 600) :
    Calls Try.prog 59 #[.slice a n c, .slice b m d] w fun e w' => ∃ v, e = .returned (.tuple #[v, .int .i64 0]) ∧ w'.ownsRow w.heap.size 5 1 v (conv (lean y) (lean x)).length (bs (conv (lean y) (lean x))) ∧ Below w.heap.size w w' := by
  have hl1 : (lean x).length ≤ 600 := by rw [length_lean, hx.len]; exact h1
  have hl2 : (lean y).length ≤ 600 := by rw [length_lean, hy.len]; exact h2
  have HX := Lib.hid hx
  have HY := Lib.hid hy
  clear hx hy h1 h2
  go_enter Try.func59, Try.ntmps59
  go_wp2_with fail
  refine (rLean_any HX.out).mono ?_
  rintro e w1 ⟨v1, rfl, hown, hB1⟩
  obtain ⟨a1, c1, rfl, hr1⟩ := own_rb hown (lean_small HX.out.small) (by omega)
  have HR1 := Lib.hid hr1
  have HB1 := Lib.hid hB1
  clear hown hr1 hB1
  go_wp2_with fail
  refine (rLean_any (HY.out.below HB1.out)).mono ?_
  rintro e w2 ⟨v2, rfl, hown, hB2⟩
  obtain ⟨a2, c2, rfl, hr2⟩ := own_rb hown (lean_small HY.out.small) (by omega)
  have H91 := Lib.hid (product_any (HR1.out.below hB2) hr2 (by omega))
  have HB2 := Lib.hid (HB1.out.trans (hB2.mono HB1.out.size))
  have d1 : decide (600 < (lean x).length) = false := by simp; omega
  have d2 : decide (600 < (lean y).length) = false := by simp; omega
  have d3 : decide ((600 : Int) < ((lean x).length : Int)) = false := by simp; omega
  have d4 : decide ((600 : Int) < ((lean y).length : Int)) = false := by simp; omega
  clear hown hr2 hB2
  generalize (lean x).length = lx at *
  generalize (lean y).length = ly at *
  go_wp2_with (go_at_call 91; ((with_reducible refine H91.out.mono ?_); rintro e w3 ⟨v, rfl, ho, hB⟩; have HO := Lib.hid (own_mono ho HB2.out.size); have HB3 := Lib.hid (HB2.out.trans (hB.mono HB2.out.size)); clear ho hB))
  go_ret2
  exact ⟨_, rfl, HO.out, HB3.out⟩

set_option maxHeartbeats 1600000 in
set_option maxRecDepth 100000 in
theorem rMul_long {w : World} {a b : Option Addr} {n c m d : Nat} {x y : List Nat} (hx : RB w a n c x) (hy : RB w b m d y) (h : 600 < ln x n ∨ 600 < ln y m) :
    Calls Try.prog 59 #[.slice a n c, .slice b m d] w fun e w' => e = .returned (.tuple #[.slice none 0 0, .int .i64 3]) ∧ Below w.heap.size w w' := by
  have hl : 600 < (lean x).length ∨ 600 < (lean y).length := by rw [length_lean, hx.len, length_lean, hy.len]; exact h
  have hm1 := hx.most
  have hm2 := hy.most
  have hb1 := lean_bound hx
  have hb2 := lean_bound hy
  have HX := Lib.hid hx
  have HY := Lib.hid hy
  clear hx hy h
  go_enter Try.func59, Try.ntmps59
  go_wp2_with fail
  refine (rLean_any HX.out).mono ?_
  rintro e w1 ⟨v1, rfl, hown, hB1⟩
  obtain ⟨a1, c1, rfl, hr1⟩ := own_rb hown (lean_small HX.out.small) (by omega)
  have HB1 := Lib.hid hB1
  clear hown hr1 hB1
  go_wp2_with fail
  refine (rLean_any (HY.out.below HB1.out)).mono ?_
  rintro e w2 ⟨v2, rfl, hown, hB2⟩
  obtain ⟨a2, c2, rfl, hr2⟩ := own_rb hown (lean_small HY.out.small) (by omega)
  have HB2 := Lib.hid (HB1.out.trans (hB2.mono HB1.out.size))
  clear hown hr2 hB2
  generalize (lean x).length = lx at *
  generalize (lean y).length = ly at *
  by_cases h1 : 600 < lx
  · have d3 : decide ((600 : Int) < (lx : Int)) = true := by simp; omega
    clear hl h1
    go_wp2_with fail
    go_ret2
    exact ⟨rfl, HB2.out⟩
  · have d3 : decide ((600 : Int) < (lx : Int)) = false := by simp; omega
    have d4 : decide ((600 : Int) < (ly : Int)) = true := by simp; omega
    clear hl h1
    go_wp2_with fail
    go_ret2
    exact ⟨rfl, HB2.out⟩
end Go.Proofs.Ytokeoodkioobdaa
