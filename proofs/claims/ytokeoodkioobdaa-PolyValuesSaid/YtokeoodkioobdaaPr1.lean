/- The walks of the reference's Lean and Value of polynomials. Conditions: rows are shorter than 2 to the 47. -/
import Derived.Test.YtokeoodkioobdaaPoly4
import Derived.Test.YtokeoodkioobdaaPoly8
import Derived.Test.YtokeoodkioobdaaQt
namespace Go.Proofs.Ytokeoodkioobdaa
open Go.RowKit

/-- Where the walk back stands. -/
def RLn (zs : List Nat) (len : Nat) (v : Value) : Prop := ∃ m : Nat, m ≤ len ∧ v = .int .i64 m ∧ Hid (ln zs len = ln zs m)
theorem own_new2 (w : World) : (w.alloc (.cells #[] 5)).ownsRow w.heap.size 5 1 (.slice (some ⟨w.heap.size, 0, none⟩) 0 0) 0 [] := own_new w

set_option maxHeartbeats 1600000 in
set_option maxRecDepth 100000 in
theorem rLean_some {w : World} {b off len cap : Nat} {zs : List Nat} (hI : RB w (some ⟨b, off, none⟩) len cap zs) :
    Calls Try.prog 62 #[.slice (some ⟨b, off, none⟩) len cap] w fun e W' => ∃ v, e = .returned v ∧ W'.ownsRow w.heap.size 5 1 v (ln zs len) (bs (zs.take (ln zs len))) ∧ Below w.heap.size w W' := by
  obtain ⟨i0, hi, hz0, hz1, hz2⟩ := info_parts info5
  have hm := hI.most
  have hle := hI.le
  have hlen := hI.len
  have HI := Lib.hid hI
  have HL := Lib.hid hlen
  clear hI hlen
  go_enter Try.func62, Try.ntmps62
  go_wp2_with fail
  go_loop [3] (fun v => RLn zs len v) (fun v => (intOf v).toNat)
  case atStart => exact ⟨len, Nat.le_refl _, rfl, rfl⟩
  case round =>
    obtain ⟨m, hm2, rfl, hln⟩ := hrel
    have hfin : ∀ k, k = ln zs len → k ≤ len → Hid (∀ (W2 : World) (v' : Value), W2.ownsRow w.heap.size 5 1 v' k (bs (zs.take k)) → W2.ownsRow w.heap.size 5 1 v' (ln zs len) (bs (zs.take (ln zs len)))) := fun k hk _ W2 v' h => by rw [← hk]; exact h
    by_cases h0 : m = 0
    · subst h0
      have hk : 0 = ln zs len := by rw [hln.out]; rfl
      have HF := hfin 0 hk (by omega)
      clear hfin hk hln
      have hO := own_new2 w
      have HO := Lib.hid hO
      clear hO
      go_wp2_with (at_builtin; refine wpList_append_fits_any _ rfl (.tmp 18) (.tmp 21) 31 rfl w.heap.size 5 i0 1 Try.underlying31 hi hz1 w.heap.size 0 0 [] rfl HO.out _ 0 _ [] rfl rfl (fun h => by cases h) (fun _ _ j u h => by cases h) (fun _ h => by cases h) (by omega) ?_; intro w2 hown2 hg2; have HO2 := Lib.hid hown2; have HG2 := Lib.hid hg2; clear hown2 hg2)
      go_ret
      exact ⟨_, rfl, HF.out _ _ HO2.out, ((Below.refl _ _).alloc (Nat.le_refl _) _).grown HG2.out (by simp) (fun j e => by cases e; exact Nat.le_refl _)⟩
    · obtain ⟨j, rfl⟩ : ∃ j, m = j + 1 := ⟨m - 1, by omega⟩
      obtain ⟨b', off', e, hc⟩ := HI.out.at_ j (by omega)
      injection e with e; injection e with e1 e2; subst e1; subst e2
      have hln2 : ln zs (j + 1) = if zs[j]?.getD 0 = 0 then ln zs j else j + 1 := rfl
      rw [← List.getD_eq_getElem?_getD] at hln2
      have hsub : ((j + 1 : Nat) : Int) - 1 = (j : Int) := by omega
      have hpos : (0 : Int) < ((j + 1 : Nat) : Int) := by omega
      by_cases hz : zs.getD j 0 = 0
      · rw [hz] at hc
        have hn : ln zs len = ln zs j := by rw [hln.out, hln2, if_pos hz]
        have HN := Lib.hid hn
        clear hn hln hln2 hfin hz
        go_wp2_with fail
        go_round
        case rel => exact ⟨j, by omega, by go_num, HN⟩
        case measure => simp [intOf]
      · have hn : j + 1 = ln zs len := by rw [hln.out, hln2, if_neg hz]
        have HF := hfin (j + 1) hn (by omega)
        have hne : ((zs.getD j 0 : Nat) : Int) ≠ 0 := by omega
        clear hn hln hln2 hfin hz
        generalize zs.getD j 0 = v at *
        have hO := own_new2 w
        have HO := Lib.hid hO
        clear hO
        have hk2 : j + 1 ≤ cap := by omega
        go_wp2_with (at_builtin; refine wpList_append_own _ rfl (.tmp 18) (.tmp 21) 31 rfl w.heap.size 5 i0 (.int .u8 0) 1 1 Try.underlying31 hi hz0 hz1 hz2 rfl (by decide) _ 0 [] rfl HO.out ⟨b, off, none⟩ (j + 1) cap (bs (zs.take (j + 1))) rfl (by rw [length_bs, List.length_take, HL.out]; omega) ?_ (bs_one _) (by unfold maxLen; omega) (by omega) (by simp) ?_)
        · intro i u hu
          have hj : i < j + 1 := by have := (List.getElem?_eq_some_iff.1 hu).1; rw [length_bs, List.length_take] at this; omega
          obtain ⟨b', off', e, hc⟩ := (HI.out.alloc (.cells #[] 5)).at_ i (by omega)
          injection e with e; injection e with e1 e2; subst e1; subst e2
          rw [bs_get _ _ (by rw [List.length_take, HL.out]; omega), List.getD_eq_getElem?_getD, List.getElem?_take_of_lt hj, ← List.getD_eq_getElem?_getD] at hu
          rw [hc, hu]
        · intro v' w2 hown2 hg2 _
          have HO2 := Lib.hid hown2
          have HG2 := Lib.hid hg2
          clear hown2 hg2
          go_wp2_with fail
          go_ret
          exact ⟨_, rfl, HF.out _ _ (by simpa using HO2.out), ((Below.refl _ _).alloc (Nat.le_refl _) _).grown HG2.out (by simp) (fun j e => by cases e; exact Nat.le_refl _)⟩

set_option maxHeartbeats 800000 in
set_option maxRecDepth 100000 in
theorem rLean_nil {w : World} :
    Calls Try.prog 62 #[.slice none 0 0] w fun e W' => ∃ v, e = .returned v ∧ W'.ownsRow w.heap.size 5 1 v 0 [] ∧ Below w.heap.size w W' := by
  obtain ⟨i0, hi, hz0, hz1, hz2⟩ := info_parts info5
  have HO := Lib.hid (own_new2 w)
  go_enter Try.func62, Try.ntmps62
  go_wp2_with fail
  go_loop [3] (fun v => v = .int .i64 0) (fun _ => 0)
  case atStart => rfl
  case round =>
    subst hrel
    go_wp2_with (at_builtin; refine wpList_append_fits_any _ rfl (.tmp 18) (.tmp 21) 31 rfl w.heap.size 5 i0 1 Try.underlying31 hi hz1 w.heap.size 0 0 [] rfl HO.out none 0 0 [] rfl rfl (fun _ => ⟨rfl, rfl⟩) (fun _ h => by cases h) (fun _ h => by cases h) (by omega) ?_; intro w2 hown2 hg2; have HO2 := Lib.hid hown2; have HG2 := Lib.hid hg2; clear hown2 hg2)
    go_ret
    exact ⟨_, rfl, HO2.out, ((Below.refl _ _).alloc (Nat.le_refl _) _).grown HG2.out (by simp) (fun j e => by cases e; exact Nat.le_refl _)⟩

set_option maxHeartbeats 800000 in
set_option maxRecDepth 100000 in
theorem rLean_zero {w : World} {ad : Addr} {cap : Nat} :
    Calls Try.prog 62 #[.slice (some ad) 0 cap] w fun e W' => ∃ v, e = .returned v ∧ W'.ownsRow w.heap.size 5 1 v 0 [] ∧ Below w.heap.size w W' := by
  obtain ⟨i0, hi, hz0, hz1, hz2⟩ := info_parts info5
  have HO := Lib.hid (own_new2 w)
  go_enter Try.func62, Try.ntmps62
  go_wp2_with fail
  go_loop [3] (fun v => v = .int .i64 0) (fun _ => 0)
  case atStart => rfl
  case round =>
    subst hrel
    go_wp2_with (at_builtin; refine wpList_append_fits_any _ rfl (.tmp 18) (.tmp 21) 31 rfl w.heap.size 5 i0 1 Try.underlying31 hi hz1 w.heap.size 0 0 [] rfl HO.out _ 0 _ [] rfl rfl (fun h => by cases h) (fun _ _ j u h => by cases h) (fun _ h => by cases h) (by omega) ?_; intro w2 hown2 hg2; have HO2 := Lib.hid hown2; have HG2 := Lib.hid hg2; clear hown2 hg2)
    go_ret
    exact ⟨_, rfl, HO2.out, ((Below.refl _ _).alloc (Nat.le_refl _) _).grown HG2.out (by simp) (fun j e => by cases e; exact Nat.le_refl _)⟩

theorem rLean_any {w : World} {a : Option Addr} {len cap : Nat} {zs : List Nat} (hI : RB w a len cap zs) :
    Calls Try.prog 62 #[.slice a len cap] w fun e W' => ∃ v, e = .returned v ∧ W'.ownsRow w.heap.size 5 1 v (lean zs).length (bs (lean zs)) ∧ Below w.heap.size w W' := by
  have hlen : (lean zs).length = ln zs len := by rw [length_lean, hI.len]
  have hle2 : lean zs = zs.take (ln zs len) := by unfold lean; rw [hI.len]
  rw [hlen, hle2]
  cases a with
  | none =>
    have hc := hI.nil rfl
    have hl := hI.le
    obtain rfl : cap = 0 := hc
    obtain rfl : len = 0 := by omega
    exact rLean_nil
  | some ad =>
    by_cases h0 : len = 0
    · subst h0
      exact rLean_zero
    · obtain ⟨b, off, e, _⟩ := hI.at_ 0 (by omega)
      injection e with e
      subst e
      exact rLean_some hI

/-- Powers, and the sum of coefficients by powers. -/
def pw (x : Nat) : Nat → Nat
  | 0 => 1
  | k + 1 => Gf.mul (pw x k) x
theorem pw_lt (x : Nat) : ∀ k, pw x k < 256
  | 0 => by show 1 < 256; decide
  | k + 1 => Gf.mul_lt (pw_lt x k)
def sval (zs : List Nat) (x : Nat) : Nat → Nat
  | 0 => 0
  | k + 1 => sval zs x k ^^^ Gf.mul (zs.getD k 0) (pw x k)
theorem sval_lt {zs : List Nat} (h : Small zs) (x : Nat) : ∀ k, sval zs x k < 256
  | 0 => by show 0 < 256; decide
  | k + 1 => Gf.xor_lt (sval_lt h x k) (Gf.mul_lt (h k))

set_option maxHeartbeats 1600000 in
set_option maxRecDepth 100000 in
theorem rValue_any {w : World} {a : Option Addr} {len cap x : Nat} {zs : List Nat} (hx : x < 256) (hI : RB w a len cap zs) :
    Calls Try.prog 63 #[.slice a len cap, .int .u8 (x : Nat)] w fun e W' => e = .returned (.int .u8 (sval zs x len : Nat)) ∧ w = W' := by
  have hm := hI.most
  have hle := hI.le
  have HI := Lib.hid hI
  clear hI
  go_enter Try.func63, Try.ntmps63
  go_wp2_with fail
  go_loop [5, 6, 7] (fun s p i => ∃ k t q : Nat, k ≤ len ∧ i = .int .i64 k ∧ s = .int .u8 t ∧ p = .int .u8 q ∧ t < 256 ∧ q < 256 ∧ Hid (t = sval zs x k) ∧ Hid (q = pw x k)) (fun _ _ i => len - (intOf i).toNat)
  case atStart => exact ⟨0, 0, 1, by omega, rfl, rfl, rfl, by omega, by omega, rfl, rfl⟩
  case round =>
    obtain ⟨k, t, q, hk, rfl, rfl, rfl, ht, hq, hts, hqs⟩ := hrel
    by_cases hk1 : k < len
    · obtain ⟨b, off, rfl, hc⟩ := HI.out.at_ k hk1
      have hz := HI.out.small k
      have hmz : Gf.mul (zs.getD k 0) q < 256 := Gf.mul_lt hz
      have hmq : Gf.mul q x < 256 := Gf.mul_lt hq
      have hxo := u8_xor_nat t (Gf.mul (zs.getD k 0) q) ht hmz
      have h1 : ∀ W, Hid (Calls Try.prog 38 #[.int .u8 (zs.getD k 0 : Nat), .int .u8 (q : Nat)] W fun e w' => e = .returned (.int .u8 (Gf.mul (zs.getD k 0) q : Nat)) ∧ W = w') := fun W => rmul_any _ _ hz hq W
      have h2 : ∀ W, Hid (Calls Try.prog 38 #[.int .u8 (q : Nat), .int .u8 (x : Nat)] W fun e w' => e = .returned (.int .u8 (Gf.mul q x : Nat)) ∧ W = w') := fun W => rmul_any _ _ hq hx W
      have HS := Lib.hid (show t ^^^ Gf.mul (zs.getD k 0) q = sval zs x (k + 1) by rw [hts.out, hqs.out]; rfl)
      have HP := Lib.hid (show Gf.mul q x = pw x (k + 1) by rw [hqs.out]; rfl)
      have hxl := Gf.xor_lt ht hmz
      have H1 := Lib.hid h1
      have H2 := Lib.hid h2
      clear h1 h2 hts hqs
      generalize t ^^^ Gf.mul (zs.getD k 0) q = r at *
      generalize Gf.mul (zs.getD k 0) q = m1 at *
      generalize Gf.mul q x = m2 at *
      generalize zs.getD k 0 = z at *
      go_wp2_with (first
        | (go_at_call 38; ((with_reducible refine (H1.out _).out.mono ?_); rintro e w' ⟨rfl, rfl⟩))
        | (go_at_call 38; ((with_reducible refine (H2.out _).out.mono ?_); rintro e w' ⟨rfl, rfl⟩)))
      go_round
      case rel => exact ⟨k + 1, r, m2, by omega, by go_num, rfl, rfl, hxl, hmq, HS, HP⟩
      case measure => simp [intOf]; omega
    · obtain rfl : k = len := by omega
      have HT := hts
      clear hts hqs
      go_wp2_with fail
      go_ret
      exact ⟨ret_u8 (show ((t : Nat) : Int) = _ by rw [HT.out]), rfl⟩
end Go.Proofs.Ytokeoodkioobdaa
