/- An append of whatever bytes onto an empty row of one's own; the walk of the reference's Turn. Conditions: rows are shorter than 2 to the 47. -/
import Derived.Test.YtfojhmobnedekaaFate2
namespace Go.Proofs.Ytfojhmobnedekaa
open Go.RowKit

/-- A copy: an append onto an empty row that was just made. -/
theorem wpList_copy (w : World) {ops : Array Oper} {rest : List Oper} {o : Oper} {a : Act} {Q : Exit → Act → World → Prop} (hgd : Region.wanted o (yielded ops a.tmps) = true) (s x : Operand)
    (ho : o.op = .call { callee := .builtin .append, args := #[s, x], argTypes := #[25, 25] }) (g : Nat) (hs : a.eval s = .slice (some ⟨g, 0, none⟩) 0 0) (hE : w.ownsRow g 5 1 (.slice (some ⟨g, 0, none⟩) 0 0) 0 [])
    {ad : Option Addr} {n c : Nat} {l : List Nat} (hx : a.eval x = .slice ad n c) (hr : RB w ad n c l)
    (h : ∀ v' w', w'.ownsRow g 5 1 v' n (bs l) → Below g w w' → wpList Try.prog ops Q rest (a.put o.dst v') w') : wpList Try.prog ops Q (o :: rest) a w := by
  obtain ⟨i0, hi, hz0, hz1, hz2⟩ := info_parts info5
  have hg : g < w.heap.size := (own_lt hE rfl).2
  refine wpList_taken hgd fun K hK => ?_
  have hl : (bs l).length = n * 1 := by rw [length_bs, hr.len, Nat.mul_one]
  have hm := hr.most
  cases ad with
  | none =>
    obtain ⟨rfl, rfl, rfl⟩ := rb_none hr
    have hrun := run_append_owned_none (P := Try.prog) (w := w) g 25 o.type 5 i0 1 Try.underlying25 hi (.slice (some ⟨g, 0, none⟩) 0 0) 0 [] hE
    unfold Oper.wp execOp
    simp only [ho, resolve, invoke, builtin, Sem.run_bind, Sem.run_pure, Result.andThen_ok, List.map_toArray, List.map_cons, List.map_nil, hs, hx, hrun]
    exact hK _ _ (h _ _ hE (Below.refl g w))
  | some ad =>
    obtain ⟨v', w', hrun, h2, h3, h4⟩ := run_append_own2 (P := Try.prog) w g 25 o.type 5 i0 (.int .u8 0) 1 Try.underlying25 hi hz0 hz1 hz2 rfl (.slice (some ⟨g, 0, none⟩) 0 0) 0 [] hE ad n c (bs l) hl (rb_news hr) (bs_one _) (by unfold maxLen; omega) (by omega) (by omega)
    have hB : Below g w w' := (Below.refl g w).grown h3 (by omega) (fun j e => (own_lt hE e).1)
    unfold Oper.wp execOp
    simp only [ho, resolve, invoke, builtin, Sem.run_bind, Sem.run_pure, Result.andThen_ok, List.map_toArray, List.map_cons, List.map_nil, hs, hx, hrun]
    exact hK _ _ (h _ _ (by simpa using h2) hB)

def SameW (a b : World) : Prop := a = b
theorem two_pow_step (i : Nat) : 2 * 2 ^ i = 2 ^ (i + 1) := by rw [Nat.pow_succ, Nat.mul_comm]
theorem pow_small : ∀ i : Fin 8, 2 ^ (i : Nat) ≤ 128 ∧ 1 ≤ 2 ^ (i : Nat) := by decide

set_option maxHeartbeats 1600000 in
set_option maxRecDepth 100000 in
theorem rturn_ok {w : World} {a : Option Addr} {n c : Nat} {l : List Nat} {bit : Int} (h : RB w a n c l) (hn : 0 < n) (hb0 : 0 ≤ bit) (hb1 : bit ≤ 9223372036854775807) :
    Calls Try.prog 20 #[.slice a n c, .int .i64 bit] w fun e w' => ∃ v, e = .returned v ∧ w'.ownsRow w.heap.size 5 1 v n (bs (Fm.turnI l bit)) ∧ Below w.heap.size w w' := by
  have hm := h.most
  have hl := h.len
  have HS := Lib.hid h.small
  have H := Lib.hid (h.alloc (.cells #[] 5))
  have HE := Lib.hid (own_empty w)
  have d1 : ((n : Int) == 0) = false := by simp; omega
  have d2 : decide (bit < 0) = false := by simp; omega
  clear h
  go_enter Try.func20, Try.ntmps20
  go_wp2_with (at_builtin; refine wpList_copy _ rfl (.tmp 9) (.tmp 10) rfl w.heap.size rfl HE.out rfl H.out ?_)
  intro v1 w1 ho1 hB1
  have HO := Lib.hid ho1
  have HB := Lib.hid (((Below.refl w.heap.size w).alloc (Nat.le_refl _) (.cells #[] 5)).trans hB1)
  clear ho1 hB1 HE H
  go_wp2_with fail
  obtain ⟨K, hK⟩ : ∃ K : Nat, K = bit.toNat % (8 * n) := ⟨_, rfl⟩
  have hKi : bit % (8 * (n : Int)) = (K : Int) := by
    rw [hK, Int.natCast_emod, Int.toNat_of_nonneg hb0]; rfl
  have hK8 : K / 8 < n := by
    have := Nat.mod_lt bit.toNat (show 8 * n > 0 by omega)
    rw [← hK] at this
    omega
  rw [hKi]
  have hset : Fm.turnI l bit = l.set (K / 8) (Fm.flip (l.getD (K / 8) 0) (K % 8)) := by
    rw [Fm.turnI_pos (fun e => by rw [e] at hl; simp at hl; omega) hb0, hl, ← hK]; rfl
  have hx := HS.out (K / 8)
  obtain ⟨a1, c1, rfl⟩ := own_slice HO.out
  obtain ⟨g, ec⟩ := own_pos HO.out hn
  subst ec
  obtain ⟨hc, hf⟩ := own_cell HO.out hK8
  have hst : (w1.setCell ⟨g, K / 8, none⟩ (.int .u8 (Fm.flip (l.getD (K / 8) 0) (K % 8) : Nat))).ownsRow w.heap.size 5 1 (.slice (some ⟨g, 0, none⟩) n c1) n (bs (Fm.turnI l bit)) := by
    rw [hset]; exact own_set HO.out
  have hBs := fun v => HB.out.setCell (p := ⟨g, K / 8, none⟩) (own_lt HO.out rfl).1 v
  obtain ⟨j, hj⟩ : ∃ j, j = K % 8 := ⟨_, rfl⟩
  have hj8 : j < 8 := by omega
  have hji : (K : Int) % 8 = (j : Int) := by omega
  rw [← hj] at hst
  have HST := Lib.hid hst
  have HBS := Lib.hid hBs
  clear hK hKi hj hset hl hst hBs
  generalize l.getD (K / 8) 0 = x at *
  go_loopw [7, 8] (fun v i wr => ∃ k : Nat, k ≤ j ∧ i = .int .i64 k ∧ v = .int .u8 (2 ^ k : Nat) ∧ Hid (SameW w1 wr)) (fun _ i _ => j - (intOf i).toNat)
  case atStart => exact ⟨0, Nat.zero_le _, rfl, rfl, rfl⟩
  case round =>
    obtain ⟨k, hk, rfl, rfl, HW⟩ := hrel
    obtain rfl : w1 = wr := HW.out
    by_cases hk1 : k < j
    · have hp := (pow_small ⟨k + 1, by omega⟩).1
      have hstep := two_pow_step k
      have hw : IntKind.u8.wrap (2 * ((2 ^ k : Nat) : Int)) = ((2 ^ (k + 1) : Nat) : Int) := by
        rw [← hstep] at hp ⊢
        rw [Int.natCast_mul]
        exact IntWalk.u8_in _ (by omega)
      have HWR := Lib.hid hw
      clear hstep hw hp
      generalize hP : (2 ^ k : Nat) = P at *
      generalize hP' : (2 ^ (k + 1) : Nat) = P' at *
      have hw := HWR.out
      clear HWR
      go_wp2_with fail
      go_roundw
      case rel => exact ⟨k + 1, by omega, by go_num, by rw [hP'], rfl⟩
      case measure => simp [intOf]; omega
    · obtain rfl : k = j := by omega
      obtain ⟨hp1, hp2⟩ := pow_small ⟨k, hj8⟩
      have hfl := Fm.flip_all hx hj8
      simp only at hp1 hp2
      generalize hP : (2 ^ k : Nat) = P at *
      have hdv : x / P < 256 := Nat.lt_of_le_of_lt (Nat.div_le_self _ _) hx
      by_cases hbit : x / P % 2 = 1
      · have he := hfl.2.2.2.1 hbit
        have hle := hfl.1
        generalize Fm.flip x k = y at *
        clear hfl
        have hsub : (x : Int) - (P : Int) = (y : Int) := by omega
        have hbi : ((x : Int) / (P : Int) % 2 == 1) = true := by rw [← Int.natCast_ediv]; simp; omega
        go_wp2_with fail
        go_ret
        exact ⟨_, rfl, HST.out, HBS.out _⟩
      · have he := hfl.2.2.2.2 hbit
        have hle := hfl.1
        generalize Fm.flip x k = y at *
        clear hfl
        have hadd : (x : Int) + (P : Int) = (y : Int) := by omega
        have hbi : ((x : Int) / (P : Int) % 2 == 1) = false := by rw [← Int.natCast_ediv]; simp; omega
        have hyw : IntKind.u8.wrap (y : Int) = (y : Int) := IntWalk.u8_in _ (by omega)
        have hPx : (P : Int) ≤ 128 := by omega
        clear he hbit hP
        go_wp2_with fail
        go_ret
        exact ⟨_, rfl, HST.out, HBS.out _⟩

set_option maxHeartbeats 800000 in
set_option maxRecDepth 100000 in
theorem rturn_none {w : World} {a : Option Addr} {n c : Nat} {l : List Nat} {bit : Int} (h : RB w a n c l) (hn : n = 0 ∨ bit < 0) :
    Calls Try.prog 20 #[.slice a n c, .int .i64 bit] w fun e w' => ∃ v, e = .returned v ∧ w'.ownsRow w.heap.size 5 1 v n (bs (Fm.turnI l bit)) ∧ Below w.heap.size w w' := by
  have he : Fm.turnI l bit = l := by
    rcases hn with hn | hn
    · have := h.len
      rw [hn] at this
      rw [List.eq_nil_of_length_eq_zero this, Fm.turnI_nil]
    · exact Fm.turnI_neg l hn
  rw [he]
  have hm := h.most
  have H := Lib.hid (h.alloc (.cells #[] 5))
  have HE := Lib.hid (own_empty w)
  clear h he
  by_cases h0 : n = 0
  · subst h0
    clear hn
    go_enter Try.func20, Try.ntmps20
    go_wp2_with (at_builtin; refine wpList_copy _ rfl (.tmp 9) (.tmp 10) rfl w.heap.size rfl HE.out rfl H.out ?_)
    intro v1 w1 ho1 hB1
    have HO := Lib.hid ho1
    have HB := Lib.hid (((Below.refl w.heap.size w).alloc (Nat.le_refl _) (.cells #[] 5)).trans hB1)
    clear ho1 hB1 HE H
    go_wp2_with fail
    go_ret
    exact ⟨_, rfl, HO.out, HB.out⟩
  · have d1 : ((n : Int) == 0) = false := by simp; omega
    have hb : bit < 0 := hn.resolve_left h0
    have d2 : decide (bit < 0) = true := by simp; omega
    clear hn h0
    go_enter Try.func20, Try.ntmps20
    go_wp2_with (at_builtin; refine wpList_copy _ rfl (.tmp 9) (.tmp 10) rfl w.heap.size rfl HE.out rfl H.out ?_)
    intro v1 w1 ho1 hB1
    have HO := Lib.hid ho1
    have HB := Lib.hid (((Below.refl w.heap.size w).alloc (Nat.le_refl _) (.cells #[] 5)).trans hB1)
    clear ho1 hB1 HE H
    go_wp2_with fail
    go_ret
    exact ⟨_, rfl, HO.out, HB.out⟩
theorem rturn_any {w : World} {a : Option Addr} {n c : Nat} {l : List Nat} {bit : Int} (h : RB w a n c l) (hb1 : bit ≤ 9223372036854775807) :
    Calls Try.prog 20 #[.slice a n c, .int .i64 bit] w fun e w' => ∃ v, e = .returned v ∧ w'.ownsRow w.heap.size 5 1 v n (bs (Fm.turnI l bit)) ∧ Below w.heap.size w w' := by
  by_cases h0 : n = 0 ∨ bit < 0
  · exact rturn_none h h0
  · exact rturn_ok h (by omega) (by omega) hb1
end Go.Proofs.Ytfojhmobnedekaa
