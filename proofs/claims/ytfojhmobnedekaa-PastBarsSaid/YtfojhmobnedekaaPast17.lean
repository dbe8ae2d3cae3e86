/- The walk of 'later'. Conditions: the deeds read as an owned row; they are few. -/
import Derived.Test.YtfojhmobnedekaaPast13
import Derived.Test.YtfojhmobnedekaaPast16
namespace Go.Proofs.Ytfojhmobnedekaa
open Go.RowKit

/-- The cells of deeds. -/
def Pd.c (x : Pd) : List Value := [.int .i64 x.wh, .int .i64 x.n, .int .i64 x.d]
def pdcs (l : List Pd) : List Value := l.flatMap Pd.c
theorem pdcs_snoc (l : List Pd) (x : Pd) : pdcs (l ++ [x]) = pdcs l ++ x.c := by simp [pdcs]
theorem pdcs_len : ∀ l : List Pd, (pdcs l).length = l.length * 3
  | [] => rfl
  | x :: l => by
    show ([_, _, _] ++ pdcs l).length = _
    rw [List.length_append, pdcs_len l]; simp; omega
theorem pdcs_get : ∀ (l : List Pd) (k j : Nat) (h : k < l.length), j < 3 → (pdcs l)[k * 3 + j]? = (l[k]).c[j]?
  | x :: l, 0, j, _, hj => by
    show ([_, _, _] ++ pdcs l)[0 * 3 + j]? = _
    rw [List.getElem?_append_left (by simp; omega)]; simp [Pd.c]
  | x :: l, k + 1, j, h, hj => by
    have h1 : (k + 1) * 3 + j = 3 + (k * 3 + j) := by omega
    show ([_, _, _] ++ pdcs l)[(k + 1) * 3 + j]? = _
    rw [h1, List.getElem?_append_right (by simp)]
    have := pdcs_get l k j (by simpa using h) hj
    simpa using this
theorem pdc_one (x : Pd) : ∀ v ∈ x.c, v.oneCell' = true := fun v hv => by
  simp [Pd.c] at hv
  rcases hv with rfl | rfl | rfl <;> rfl
theorem pdrow_at {w : World} {B n : Nat} {v : Value} {l : List Pd} (h : w.ownsRow B 98 3 v n (pdcs l)) {k : Nat} (hk : k < l.length) : ∃ g c, v = .slice (some ⟨g, 0, none⟩) n c ∧ w.cell? ⟨g, k * 3, none⟩ = some (.int .i64 (l.getD k default).wh) ∧ w.cell? ⟨g, k * 3 + 1, none⟩ = some (.int .i64 (l.getD k default).n) ∧ w.cell? ⟨g, k * 3 + 2, none⟩ = some (.int .i64 (l.getD k default).d) := by
  have hg : l.getD k default = l[k] := by rw [List.getD_eq_getElem?_getD, List.getElem?_eq_getElem hk]; rfl
  rw [hg]
  rcases h.2 with ⟨_, h0⟩ | ⟨g, cap, cur, rfl, _⟩
  · have := h.1
    rw [pdcs_len] at this; omega
  · have hc := fun q (hq : q < 3) u (hu : (l[k]).c[q]? = some u) => h.cells (g := g) rfl (k * 3 + q) u ((pdcs_get l k q hk hq).trans hu)
    have e0 := hc 0 (by omega) _ rfl
    have e1 := hc 1 (by omega) _ rfl
    have e2 := hc 2 (by omega) _ rfl
    rw [Addr.add_lit] at e0 e1 e2
    exact ⟨g, cap, rfl, by simpa using e0, by simpa using e1, by simpa using e2⟩
theorem info98f : (Try.prog.info? 98).map (fun i => (i.zero, i.size, i.bytes)) = some (some (.agg #[.int .i64 0, .int .i64 0, .int .i64 0]), 3, 24) := by kernel_rfl
/-- Those above a tick. -/
def laterP (now : Int) (l : List Pd) : List Pd := l.filter fun x => decide (now < x.d)
theorem laterP_snoc {now : Int} {l : List Pd} {k : Nat} (h : k < l.length) : laterP now (l.take (k + 1)) = laterP now (l.take k) ++ if now < (l.getD k default).d then [l.getD k default] else [] := by
  have hg : l.getD k default = l[k] := by rw [List.getD_eq_getElem?_getD, List.getElem?_eq_getElem h]; rfl
  rw [hg, List.take_add_one, List.getElem?_eq_getElem h]
  unfold laterP
  rw [List.filter_append]
  congr 1
  by_cases hd : now < l[k].d
  · simp [hd]
  · simp [hd]
theorem laterP_le (now : Int) (l : List Pd) : (laterP now l).length ≤ l.length := List.length_filter_le _ _
set_option maxHeartbeats 3200000 in
set_option maxRecDepth 100000 in
theorem later_any {w : World} {B c : Nat} {a : Option Addr} {L : List Pd} (h : w.ownsRow B 98 3 (.slice a L.length c) L.length (pdcs L)) (hL : L.length ≤ 1000) (now : Int) :
    Calls Try.prog 55 #[.slice a L.length c, .int .i64 now] w fun e w' => ∃ a' c', e = .returned (.slice a' (laterP now L).length c') ∧ w'.ownsRow w.heap.size 98 3 (.slice a' (laterP now L).length c') (laterP now L).length (pdcs (laterP now L)) ∧ Below w.heap.size w w' := by
  obtain ⟨N, hN⟩ : ∃ N, N = L.length := ⟨_, rfl⟩
  have HH := Lib.hid h
  have HN := Lib.hid hN
  rw [← hN] at hL ⊢
  clear h hN
  go_enter Try.func55, Try.ntmps55
  go_wp2_with fail
  go_loopw [5, 6] (fun s i wr => ∃ k : Nat, ∃ m ao co, k ≤ N ∧ m ≤ k ∧ i = .int .i64 k ∧ s = .slice ao m co ∧ Hid ((laterP now (L.take k)).length = m ∧ wr.ownsRow w.heap.size 98 3 (.slice ao m co) m (pdcs (laterP now (L.take k))) ∧ Below w.heap.size w wr)) (fun _ i _ => N - (intOf i).toNat)
  case atStart => exact ⟨0, 0, none, 0, Nat.zero_le _, Nat.le_refl _, rfl, rfl, ⟨rfl, World.ownsRow_nil _ _ _ _, Below.refl _ _⟩⟩
  case round =>
    obtain ⟨k, m, ao, co, hk, hm, rfl, rfl, HI⟩ := hrel
    by_cases hkn : k < N
    · have d1 : decide ((k : Int) < (N : Int)) = true := decide_eq_true (by omega)
      have hrow := own_frame3 HH.out fun g _ hg => HI.out.2.2.block g (by exact hg)
      obtain ⟨g, c', hv1, x0, x1, x2⟩ := pdrow_at hrow (k := k) (by rw [← HN.out]; exact hkn)
      obtain ⟨rfl, rfl⟩ : a = some ⟨g, 0, none⟩ ∧ c = c' := by injection hv1 with h1 _ h2; exact ⟨h1, h2⟩
      clear hv1 hrow
      obtain ⟨x, hx⟩ : ∃ x, x = L.getD k default := ⟨_, rfl⟩
      have HS : Hid (laterP now (L.take (k + 1)) = laterP now (L.take k) ++ if now < x.d then [x] else []) := by
        rw [hx]; exact laterP_snoc (by rw [← HN.out]; exact hkn)
      rw [← hx] at x0 x1 x2
      clear hx
      obtain ⟨xw, xn, xd⟩ := x
      dsimp only at x0 x1 x2 HS
      by_cases hd : now < xd
      · have d2 : decide (now < xd) = true := decide_eq_true hd
        rw [if_pos hd] at HS
        clear hd
        obtain ⟨i98, hi, hz0, hz1, hz2⟩ := info_parts info98f
        have hB6 : Below wr.heap.size wr (wr.alloc (.cells [.int .i64 xw, .int .i64 xn, .int .i64 xd].toArray 98)) := (Below.refl _ _).alloc (Nat.le_refl _) _
        have HROW6 := Lib.hid (own_frame3 HI.out.2.1 fun g _ hg => hB6.block g hg)
        have HB6 := Lib.hid (HI.out.2.2.trans (hB6.mono HI.out.2.2.size))
        have HC6 := Lib.hid (cells_at_block (World.alloc_heap_new wr (.cells [.int .i64 xw, .int .i64 xn, .int .i64 xd].toArray 98)))
        have hle : w.heap.size ≤ (wr.alloc (.cells [.int .i64 xw, .int .i64 xn, .int .i64 xd].toArray 98)).heap.size := HB6.out.size
        clear hB6
        go_wp2_with (at_builtin; refine wpList_append_ownS _ rfl (.tmp 20) (.tmp 25) 93 rfl w.heap.size 98 i98 _ 3 24 Try.underlying93 hi hz0 hz1 hz2 rfl (by decide) (.slice ao m co) m _ rfl HROW6.out ⟨wr.heap.size, 0, none⟩ 1 1 [.int .i64 xw, .int .i64 xn, .int .i64 xd] rfl rfl HC6.out (by simp [Value.oneCell']) (by unfold maxLen; omega) (by omega) hle ?_)
        intro v' w7 ho hg _
        obtain ⟨a7, c7, rfl⟩ := own_sl ho
        have HF : Hid ((laterP now (L.take (k + 1))).length = m + 1 ∧ w7.ownsRow w.heap.size 98 3 (.slice a7 (m + 1) c7) (m + 1) (pdcs (laterP now (L.take (k + 1)))) ∧ Below w.heap.size w w7) := by
          rw [HS.out, pdcs_snoc]
          exact ⟨by rw [List.length_append, HI.out.1]; rfl, ho, HB6.out.grown hg HB6.out.size (fun g e => (own_lt3 HROW6.out e).1)⟩
        clear ho hg HC6 HROW6 HB6 HI hle hi hz0 hz1 hz2 x0 x1 x2 HS
        go_wp2_with fail
        go_roundw
        case rel => exact ⟨k + 1, m + 1, a7, c7, hkn, by omega, by go_num, rfl, HF⟩
        case measure => simp [intOf]; omega
      · have d2 : decide (now < xd) = false := decide_eq_false hd
        rw [if_neg hd, List.append_nil] at HS
        have HF : Hid ((laterP now (L.take (k + 1))).length = m ∧ wr.ownsRow w.heap.size 98 3 (.slice ao m co) m (pdcs (laterP now (L.take (k + 1)))) ∧ Below w.heap.size w wr) := by
          rw [HS.out]; exact HI.out
        clear HI HS
        go_wp2_with fail
        go_roundw
        case rel => exact ⟨k + 1, m, ao, co, hkn, by omega, by go_num, rfl, HF⟩
        case measure => simp [intOf]; omega
    · have d1 : decide ((k : Int) < (N : Int)) = false := decide_eq_false (by omega)
      obtain rfl : k = N := by omega
      have HF : Hid ((laterP now L).length = m ∧ wr.ownsRow w.heap.size 98 3 (.slice ao m co) m (pdcs (laterP now L)) ∧ Below w.heap.size w wr) := by
        have h1 := HI.out
        rwa [List.take_of_length_le (by rw [HN.out]; exact Nat.le_refl _)] at h1
      go_wp2_with fail
      go_ret
      exact ⟨ao, co, by rw [HF.out.1]; rfl, by rw [HF.out.1]; exact HF.out.2.1, HF.out.2.2⟩
end Go.Proofs.Ytfojhmobnedekaa

/- The walk of the law PastBars. Conditions: the deeds read as a row; numbers are of the machine's. -/
namespace Go.Proofs.Ytfojhmobnedekaa
open Go.RowKit

def Pd.fr (x : Pd) : Fr := ⟨x.d, x.n⟩
/-- What was added and has not expired: remembered, or forgotten below the horizon. -/
def BarsI (l : List Fr) (h : Int) (f : Nat) (op : List Pd) : Prop := ∃ F : List Fr, (op.map Pd.fr).Perm (l ++ F) ∧ (∀ y ∈ F, y.d ≤ h) ∧ (f = 0 → F = [] ∧ h = 0)
theorem BarsI.nil : BarsI [] 0 0 [] := ⟨[], List.Perm.refl _, (fun y hy => by cases hy), fun _ => ⟨rfl, rfl⟩⟩
theorem BarsI.add {l l' : List Fr} {h h' : Int} {f f' kp : Nat} {op : List Pd} {x : Pd} (b : BarsI l h f op) (a : AddTo x.fr kp l h f l' h' f') : BarsI l' h' f' (op ++ [x]) := by
  obtain ⟨F, b1, b2, b3⟩ := b
  have e0 : ((op ++ [x]).map Pd.fr).Perm (x.fr :: (l ++ F)) := by
    rw [List.map_append]
    exact (b1.append_right _).trans (List.perm_append_singleton _ _)
  rcases a with ⟨_, p, rfl, rfl⟩ | ⟨_, y, p, hy, rfl, rfl⟩
  · exact ⟨F, e0.trans (p.symm.append_right F), b2, b3⟩
  · refine ⟨y :: F, e0.trans ?_, fun z hz => ?_, fun e => by omega⟩
    · have q : (x.fr :: (l ++ F)).Perm ((y :: l') ++ F) := p.symm.append_right F
      exact q.trans List.perm_middle.symm
    · rcases List.mem_cons.1 hz with rfl | hz
      · omega
      · have := b2 z hz; omega
theorem AddTo.mono {l l' : List Fr} {h h' : Int} {f f' kp : Nat} {x : Fr} (a : AddTo x kp l h f l' h' f') : h ≤ h' ∧ f' ≤ f + 1 := by
  rcases a with ⟨_, _, rfl, rfl⟩ | ⟨_, y, _, _, rfl, rfl⟩ <;> omega
theorem later_map (now : Int) (op : List Pd) : (laterP now op).map Pd.fr = (op.map Pd.fr).filter fun y => decide (now < y.d) := by
  unfold laterP
  rw [List.filter_map]
  rfl
theorem BarsI.exp {l l' : List Fr} {h now : Int} {f : Nat} {op : List Pd} (b : BarsI l h f op) (e : ExpTo l now l') : BarsI l' h f (laterP now op) := by
  obtain ⟨F, b1, b2, b3⟩ := b
  obtain ⟨xs, e1, e2, e3⟩ := e
  refine ⟨F.filter fun y => decide (now < y.d), ?_, fun y hy => b2 y (List.mem_filter.1 hy).1, fun e => ?_⟩
  · rw [later_map]
    have h1 := b1.filter fun y => decide (now < y.d)
    rw [List.filter_append] at h1
    refine h1.trans (List.Perm.append_right _ ?_)
    have h2 := e1.symm.filter fun y => decide (now < y.d)
    have f1 : xs.filter (fun y => decide (now < y.d)) = [] := List.filter_eq_nil_iff.2 fun y hy => by have := e2 y hy; rw [decide_eq_true_eq]; omega
    have f2 : l'.filter (fun y => decide (now < y.d)) = l' := List.filter_eq_self.2 fun y hy => decide_eq_true (by have := e3 y hy; omega)
    rw [List.filter_append, f1, f2, List.nil_append] at h2
    exact h2
  · obtain ⟨rfl, rfl⟩ := b3 e
    exact ⟨rfl, rfl⟩
theorem BarsI.bars {l : List Fr} {h : Int} {f : Nat} {op : List Pd} (b : BarsI l h f op) {x : Pd} (hx : x ∈ op) : (x.n ∈ l.map Fr.n ∨ x.d ≤ h) ∧ (f = 0 → x.n ∈ l.map Fr.n) := by
  obtain ⟨F, b1, b2, b3⟩ := b
  have hm : x.fr ∈ l ++ F := b1.mem_iff.1 (List.mem_map_of_mem hx)
  refine ⟨?_, fun e => ?_⟩
  · rcases List.mem_append.1 hm with hm | hm
    · exact .inl (List.mem_map_of_mem (f := Fr.n) hm)
    · exact .inr (b2 _ hm)
  · obtain ⟨rfl, _⟩ := b3 e
    rw [List.append_nil] at hm
    exact List.mem_map_of_mem (f := Fr.n) hm
theorem BarsI.none {l : List Fr} {h : Int} {f : Nat} {op : List Pd} (b : BarsI l h f op) (e : f = 0) : h = 0 ∧ l.length = op.length := by
  obtain ⟨F, b1, b2, b3⟩ := b
  obtain ⟨rfl, h0⟩ := b3 e
  have := b1.length_eq
  rw [List.append_nil, List.length_map] at this
  exact ⟨h0, this.symm⟩
/-- A past, the deeds that are open. -/
structure BS (w : World) (W mb kp i : Nat) (l : List Fr) (h : Int) (f : Nat) (v : Value) (op : List Pd) (ao : Option Addr) (co : Nat) (A : World) : Prop where
  p : PB w.heap.size W mb l kp h f v A
  b : BarsI l h f op
  row : A.ownsRow w.heap.size 98 3 (.slice ao op.length co) op.length (pdcs op)
  bel : Below w.heap.size w A
  fi : f ≤ i
  oi : op.length ≤ i
  wf : ∀ x ∈ op, (Lit.int .i64 x.n).wf = true
theorem BS.below {w : World} {W mb kp i : Nat} {l : List Fr} {h : Int} {f : Nat} {v : Value} {op : List Pd} {ao : Option Addr} {co : Nat} {A C : World} (s : BS w W mb kp i l h f v op ao co A) (k : Below A.heap.size A C) : BS w W mb kp i l h f v op ao co C :=
  ⟨s.p.below k, s.b, own_frame3 s.row fun g _ hg => k.block g hg, s.bel.trans (k.mono s.bel.size), s.fi, s.oi, s.wf⟩
theorem BS.up {w : World} {W mb kp i j : Nat} {l : List Fr} {h : Int} {f : Nat} {v : Value} {op : List Pd} {ao : Option Addr} {co : Nat} {A : World} (s : BS w W mb kp i l h f v op ao co A) (k : i ≤ j) : BS w W mb kp j l h f v op ao co A :=
  ⟨s.p, s.b, s.row, s.bel, Nat.le_trans s.fi k, Nat.le_trans s.oi k, s.wf⟩
set_option maxHeartbeats 6400000 in
set_option maxRecDepth 100000 in
theorem bars_walk {w : World} {a : Option Addr} {N cap : Nat} {L : List Pd} (hL : RP w a N L) (hwf : ∀ x ∈ L, (Lit.int .i64 x.n).wf = true ∧ (Lit.int .i64 x.d).wf = true) (hr : ∀ x : Int, (Lit.int .i64 x).wf = true → -9223372036854775808 ≤ x ∧ x ≤ 9223372036854775807) (kp : Int) (hkp : -9223372036854775808 ≤ kp ∧ kp ≤ 9223372036854775807) :
    Calls Try.prog 13 #[.int .i64 kp, .slice a N cap] w fun e w' => e = .returned (.bool true) ∧ Below w.heap.size w w' := by
  have HA := Lib.hid (pawake_any w)
  have HL := Lib.hid hL
  have HW := Lib.hid hwf
  have HRG := Lib.hid hr
  clear hL hwf hr
  go_enter Try.func13, Try.ntmps13
  go_wp2_with fail
  refine HA.out.mono ?_
  rintro e w1 ⟨rfl, hb1⟩
  have HB1 := Lib.hid hb1
  clear hb1 HA
  by_cases hbig : 120 < N
  · have d1 : decide ((120 : Int) < (N : Int)) = true := decide_eq_true (by omega)
    go_wp2_with fail
    go_ret
    exact ⟨rfl, HB1.out⟩
  have d1 : decide ((120 : Int) < (N : Int)) = false := decide_eq_false (by omega)
  by_cases hk : 0 ≤ kp ∧ kp ≤ 1024
  · obtain ⟨kk, rfl⟩ : ∃ kk : Nat, kp = kk := ⟨kp.toNat, by omega⟩
    have HP := Lib.hid (pnew_any w1 kk (by omega))
    go_wp2_with fail
    refine HP.out.mono ?_
    rintro e w2 ⟨W, mb, rfl, p1, hb2⟩
    have HS0 : Hid (BS w W mb kk 0 [] 0 0 (.slice none 0 0) [] none 0 w2) :=
      ⟨p1.rebase HB1.out.size, .nil, World.ownsRow_nil _ _ _ _, HB1.out.trans (hb2.mono HB1.out.size), Nat.le_refl _, Nat.le_refl _, fun x hx => by cases hx⟩
    clear p1 hb2 HP HB1 hkp
    go_wp2_with fail
    go_loopw [7, 8, 9] (fun s hz i wr => ∃ j : Nat, ∃ l h f v op ao co, j ≤ N ∧ i = .int .i64 j ∧ s = .slice ao op.length co ∧ hz = .int .i64 h ∧ Hid (BS w W mb kk j l h f v op ao co wr)) (fun _ _ i _ => N - (intOf i).toNat)
    case atStart => exact ⟨0, [], 0, 0, .slice none 0 0, [], none, 0, Nat.zero_le _, rfl, rfl, rfl, HS0⟩
    case round =>
      clear HS0
      obtain ⟨j, l, h, f, v, op, ao, co, hj, rfl, rfl, rfl, HS⟩ := hrel
      by_cases hjN : j < N
      · have d3 : decide ((j : Int) < (N : Int)) = true := decide_eq_true (by omega)
        obtain ⟨b, off, rfl, c0, c1, c2⟩ := (HL.out.below HS.out.bel).cell j hjN
        obtain ⟨x, hx⟩ : ∃ x, x = L.getD j default := ⟨_, rfl⟩
        have hxL : x ∈ L := by
          have hjl : j < L.length := by rw [HL.out.len]; exact hjN
          rw [hx, List.getD_eq_getElem?_getD, List.getElem?_eq_getElem hjl]
          exact List.getElem_mem hjl
        rw [← hx] at c0 c1 c2
        have HX : Hid ((Lit.int .i64 x.n).wf = true ∧ (Lit.int .i64 x.d).wf = true) := HW.out x hxL
        clear hx hxL
        obtain ⟨xw, xn, xd⟩ := x
        dsimp only at c0 c1 c2 HX
        have hb5 : Below wr.heap.size wr (wr.alloc (.cells #[.int .i64 xw, .int .i64 xn, .int .i64 xd] 98)) := (Below.refl _ _).alloc (Nat.le_refl _) _
        have hx5 := heap_alloc_new wr (.cells #[.int .i64 xw, .int .i64 xn, .int .i64 xd] 98)
        have HS5 := Lib.hid (HS.out.below hb5)
        obtain ⟨r, hr⟩ : ∃ r, r = xw % 5 := ⟨_, rfl⟩
        have HK := Lib.hid (pick_any (wr.alloc (.cells #[.int .i64 xw, .int .i64 xn, .int .i64 xd] 98)) xw 5 (by omega) (by omega))
        rw [← hr] at HK
        have x0 : (wr.alloc (.cells #[.int .i64 xw, .int .i64 xn, .int .i64 xd] 98)).cell? ⟨wr.heap.size, 0, none⟩ = some (.int .i64 xw) := (cell_of_block (j := 0) hx5).trans rfl
        clear hr hb5
        go_upto_region 14 with fail
        generalize wr.alloc (.cells #[.int .i64 xw, .int .i64 xn, .int .i64 xd] 98) = w5 at *
        go_upto_if 43 with (go_at_call 40; refine HK.out.mono ?_; rintro e w6 ⟨rfl, rfl⟩)
        have HX5 := Lib.hid hx5
        go_cut [7] from 30 to 124 (fun s7 wx => ∃ l' h' f' v' op' ao' co', s7 = .slice ao' op'.length co' ∧ Hid (h ≤ h' ∧ BS w W mb kk (j + 1) l' h' f' v' op' ao' co' wx))
        case first =>
          have hWw : W < wr.heap.size := lt_of_block HS.out.p.hp.box
          have hmw : mb < wr.heap.size := HS.out.p.mp.lt
          have hvw : ∀ g, v.ownBlock = some g → g < wr.heap.size := HS.out.p.vlt
          have hxw : wr.heap.size < w5.heap.size := lt_of_block HX5.out
          have x1 : w5.cell? ⟨wr.heap.size, 1, none⟩ = some (.int .i64 xn) := (cell_of_block (j := 1) HX5.out).trans rfl
          have x2 : w5.cell? ⟨wr.heap.size, 2, none⟩ = some (.int .i64 xd) := (cell_of_block (j := 2) HX5.out).trans rfl
          have hxr := HRG.out xn HX.out.1
          have hdr := HRG.out xd HX.out.2
          by_cases hr4 : r = 4
          · subst hr4
            have HEX := Lib.hid (pexpire_any HS5.out.p xd)
            clear HK x0
            go_wp2_with fail
            refine HEX.out.mono ?_
            rintro e w6 ⟨⟨kx, rfl⟩, l', v', he, hp', hk', ho'⟩
            have hrow6 := HS5.out.p.row_stays hk' HS5.out.row (by decide) (by decide)
            have hx6 := (hk'.block wr.heap.size hxw (by omega) (by omega) (fun e => by have := hvw _ e; omega)).trans HX5.out
            have x2' : w6.cell? ⟨wr.heap.size, 2, none⟩ = some (.int .i64 xd) := (cell_of_block (j := 2) hx6).trans rfl
            have hbel6 := HS5.out.bel.trans (HS5.out.p.keep_low hk' HS5.out.bel.size)
            have HLAT := Lib.hid (later_any hrow6 (by have := HS5.out.oi; omega) xd)
            have H6 := Lib.hid (And.intro he (And.intro hp' hbel6))
            clear he hp' hk' ho' hrow6 hx6 hbel6 HEX x1 x2
            go_wp2_with fail
            refine HLAT.out.mono ?_
            rintro e w7 ⟨a7, c7, rfl, hrow7, hb7⟩
            have HF : Hid (h ≤ h ∧ BS w W mb kk (j + 1) l' h f v' (laterP xd op) a7 c7 w7) :=
              ⟨Int.le_refl _, H6.out.2.1.below hb7, HS5.out.b.exp H6.out.1, own_mono3 hrow7 H6.out.2.2.size, H6.out.2.2.trans (hb7.mono H6.out.2.2.size), by have := HS5.out.fi; omega, by have := HS5.out.oi; have := laterP_le xd op; omega, fun y hy => HS5.out.wf y (List.mem_filter.1 hy).1⟩
            clear hrow7 hb7 H6 HLAT x2'
            go_wp2_with fail
            go_meet
            exact ⟨l', h, f, v', laterP xd op, a7, c7, rfl, HF⟩
          · have d4 : (r == 4) = false := by simp [hr4]
            have d4' : decide (r = 4) = false := by simp [hr4]
            clear hr4
            by_cases hok : numOK xn = true ∧ numOK xd = true
            · have hn1 : 0 ≤ xn ∧ xn ≤ 2147483647 := of_decide_eq_true hok.1
              have hn2 : 0 ≤ xd ∧ xd ≤ 2147483647 := of_decide_eq_true hok.2
              by_cases hm : xn ∈ l.map Fr.n
              · have HAD := Lib.hid (padd_twice HS5.out.p xn xd hn1 hn2 hm)
                have HF : Hid (h ≤ h ∧ BS w W mb kk (j + 1) l h f v op ao co w5) := ⟨Int.le_refl _, HS5.out.up (Nat.le_succ _)⟩
                clear HK x0 hm
                go_wp2_with fail
                refine HAD.out.mono ?_
                rintro e w6 ⟨rfl, rfl⟩
                go_wp2_with fail
                go_meet
                exact ⟨l, h, f, v, op, ao, co, rfl, HF⟩
              · have HAD := Lib.hid (padd_any HS5.out.p HS5.out.bel.size (by have := HS5.out.fi; omega) ⟨xd, xn⟩ hn1 hn2 hm)
                clear HK x0 hm
                go_wp2_with fail
                refine HAD.out.mono ?_
                rintro e w6 ⟨rfl, l', h', f', v', ha, hp', hk', hn'⟩
                have hrow6 := HS5.out.p.row_stays hk' HS5.out.row (by decide) (by decide)
                have hx6 := (hk'.block wr.heap.size hxw (by omega) (by omega) (fun e => by have := hvw _ e; omega)).trans HX5.out
                have y0 : w6.cell? ⟨wr.heap.size, 0, none⟩ = some (.int .i64 xw) := (cell_of_block (j := 0) hx6).trans rfl
                have y1 : w6.cell? ⟨wr.heap.size, 1, none⟩ = some (.int .i64 xn) := (cell_of_block (j := 1) hx6).trans rfl
                have y2 : w6.cell? ⟨wr.heap.size, 2, none⟩ = some (.int .i64 xd) := (cell_of_block (j := 2) hx6).trans rfl
                have hbel6 := HS5.out.bel.trans (HS5.out.p.keep_low hk' HS5.out.bel.size)
                obtain ⟨i98, hi, hz0, hz1, hz2⟩ := info_parts info98f
                have hB6 : Below w6.heap.size w6 (w6.alloc (.cells [.int .i64 xw, .int .i64 xn, .int .i64 xd].toArray 98)) := (Below.refl _ _).alloc (Nat.le_refl _) _
                have HROW6 := Lib.hid (own_frame3 hrow6 fun g _ hg => hB6.block g hg)
                have HB6 := Lib.hid (hbel6.trans (hB6.mono hbel6.size))
                have HC6 := Lib.hid (cells_at_block (World.alloc_heap_new w6 (.cells [.int .i64 xw, .int .i64 xn, .int .i64 xd].toArray 98)))
                have hle : w.heap.size ≤ (w6.alloc (.cells [.int .i64 xw, .int .i64 xn, .int .i64 xd].toArray 98)).heap.size := HB6.out.size
                have H6 := Lib.hid (And.intro ha (hp'.below hB6))
                have hol : op.length ≤ 120 := by have := HS5.out.oi; omega
                obtain ⟨O, hO⟩ : ∃ O, O = op.length := ⟨_, rfl⟩
                rw [← hO] at HROW6 hol ⊢
                have HO := Lib.hid hO
                clear ha hp' hk' hn' hrow6 hx6 hbel6 hB6 HAD x1 x2 hO
                go_wp2_with (at_builtin; refine wpList_append_ownS _ rfl (.tmp 59) (.tmp 61) 93 rfl w.heap.size 98 i98 _ 3 24 Try.underlying93 hi hz0 hz1 hz2 rfl (by decide) (.slice ao O co) O _ rfl HROW6.out ⟨w6.heap.size, 0, none⟩ 1 1 [.int .i64 xw, .int .i64 xn, .int .i64 xd] rfl rfl HC6.out (by simp [Value.oneCell']) (by unfold maxLen; omega) (by omega) hle ?_)
                intro v7 w7 ho hg _
                obtain ⟨a7, c7, rfl⟩ := own_sl ho
                have hb7 : Below w.heap.size w w7 := HB6.out.grown hg HB6.out.size (fun g e => (own_lt3 HROW6.out e).1)
                have HF : Hid (h ≤ h' ∧ BS w W mb kk (j + 1) l' h' f' v' (op ++ [⟨xw, xn, xd⟩]) a7 c7 w7 ∧ (op ++ [⟨xw, xn, xd⟩] : List Pd).length = O + 1) := by
                  have hlen : (op ++ [⟨xw, xn, xd⟩] : List Pd).length = O + 1 := by rw [List.length_append, HO.out]; rfl
                  have hpx := H6.out.2
                  have hrow : ∀ g, (Value.slice ao O co).ownBlock = some g → g ≠ W ∧ g ≠ mb ∧ v'.ownBlock ≠ some g := fun g e => by
                    rcases HROW6.out.2 with ⟨e1, _⟩ | ⟨g2, cap2, cur2, e1, _, hh2, _⟩
                    · rw [e1] at e; cases e
                    · rw [e1] at e
                      have e3 : g2 = g := by injection e
                      subst e3
                      refine ⟨fun e => ?_, fun e => ?_, fun e => ?_⟩
                      · rw [e, hpx.hp.box] at hh2; injection hh2 with hh2; injection hh2 with _ hh2 _; cases hh2
                      · obtain ⟨es, cc, hoo⟩ := hpx.mp.obj
                        rw [e, hoo] at hh2; cases hh2
                      · rcases hpx.hp.row.2 with ⟨e4, _⟩ | ⟨g5, cap5, cur5, e5, _, hh5, _⟩
                        · rw [e4] at e; cases e
                        · rw [e5] at e
                          have e6 : g5 = g2 := by injection e
                          subst e6
                          rw [hh2] at hh5; injection hh5 with hh5; injection hh5 with _ hh5 _; cases hh5
                  refine ⟨H6.out.1.mono.1, ⟨hpx.frame fun g hg2 hgl => hg.block g hgl (fun e => ?_), HS5.out.b.add (x := ⟨xw, xn, xd⟩) H6.out.1, ?_, hb7, ?_, by rw [hlen]; have := HS5.out.oi; rw [← HO.out] at this; omega, fun y hy => ?_⟩, hlen⟩
                  · obtain ⟨n1, n2, n3⟩ := hrow g e.symm
                    rcases hg2 with h1 | h1 | h1
                    · exact n1 h1
                    · exact n2 h1
                    · exact n3 h1
                  · rw [hlen, pdcs_snoc]; exact ho
                  · have := H6.out.1.mono.2
                    have := HS5.out.fi; omega
                  · rcases List.mem_append.1 hy with hy | hy
                    · exact HS5.out.wf y hy
                    · rw [List.mem_singleton.1 hy]; exact HX.out.1
                clear ho hg hb7 HROW6 HB6 HC6 H6 HS5 hle hi hz0 hz1 hz2 y0 y1 y2 HO
                go_wp2_with fail
                go_meet
                exact ⟨l', h', f', v', op ++ [⟨xw, xn, xd⟩], a7, c7, by rw [HF.out.2.2], ⟨HF.out.1, HF.out.2.1⟩⟩
            · have HAD := Lib.hid (padd_not HS5.out.p xn xd hxr hdr (by
                cases h1 : numOK xn
                · exact .inl rfl
                · cases h2 : numOK xd
                  · exact .inr rfl
                  · exact absurd ⟨h1, h2⟩ hok))
              have HF : Hid (h ≤ h ∧ BS w W mb kk (j + 1) l h f v op ao co w5) := ⟨Int.le_refl _, HS5.out.up (Nat.le_succ _)⟩
              clear HK x0 hok
              go_wp2_with fail
              refine HAD.out.mono ?_
              rintro e w6 ⟨rfl, rfl⟩
              go_wp2_with fail
              go_meet
              exact ⟨l, h, f, v, op, ao, co, rfl, HF⟩
        case rest =>
          clear HS5 HX5 HK HS
          obtain ⟨l', h', f', v', op', ao', co', rfl, HS⟩ := hcut
          obtain ⟨O, hO⟩ : ∃ O, O = op'.length := ⟨_, rfl⟩
          have HO := Lib.hid hO
          rw [← hO]
          have hO1 : O ≤ 121 := by have := HS.out.2.oi; omega
          clear hO
          have HFR := Lib.hid (pframes_any HS.out.2.p)
          have hlk : l'.length ≤ kk := HS.out.2.p.len
          obtain ⟨M, hM⟩ : ∃ M, M = l'.length := ⟨_, rfl⟩
          rw [← hM] at HFR hlk
          have HM := Lib.hid hM
          clear hM
          have d5 : decide ((kk : Int) < (M : Int)) = false := decide_eq_false (by omega)
          have d5' : decide (kk < M) = false := decide_eq_false (by omega)
          go_wp2_with fail
          refine HFR.out.mono ?_
          rintro e w8 ⟨a8, c8, rfl, _, hb8⟩
          have HS8 := Lib.hid (HS.out.2.below hb8)
          have hhh := HS.out.1
          have d6 : decide (h' < h) = false := decide_eq_false (by omega)
          have HH := Lib.hid (phorizon_any HS8.out.p)
          clear hb8 HS HFR
          go_wp2_with fail
          refine HH.out.mono ?_
          rintro e w9 ⟨rfl, rfl⟩
          go_wp2_with fail
          refine HH.out.mono ?_
          rintro e w9 ⟨rfl, rfl⟩
          clear HH d5 d5' d6 hhh
          go_wp2_with fail
          go_loopw [11] (fun i wr => ∃ q : Nat, q ≤ O ∧ i = .int .i64 q ∧ Hid (Below w8.heap.size w8 wr)) (fun i _ => O - (intOf i).toNat)
          case atStart => exact ⟨0, Nat.zero_le _, rfl, Below.refl _ _⟩
          case round =>
            obtain ⟨q, hq, rfl, HB⟩ := hrel
            have HS9 := Lib.hid (HS8.out.below HB.out)
            by_cases hqO : q < O
            · have d7 : decide ((q : Int) < (O : Int)) = true := decide_eq_true (by omega)
              obtain ⟨g, c', hv1, y0, y1, y2⟩ := pdrow_at HS9.out.row (k := q) (by rw [← HO.out]; exact hqO)
              obtain ⟨rfl, rfl⟩ : ao' = some ⟨g, 0, none⟩ ∧ co' = c' := by injection hv1 with h1 _ h2; exact ⟨h1, h2⟩
              obtain ⟨x, hx⟩ : ∃ x, x = op'.getD q default := ⟨_, rfl⟩
              have hxm : x ∈ op' := by
                have hql : q < op'.length := by rw [← HO.out]; exact hqO
                rw [hx, List.getD_eq_getElem?_getD, List.getElem?_eq_getElem hql]
                exact List.getElem_mem hql
              rw [← hx] at y0 y1 y2
              have hwx := HS9.out.wf x hxm
              obtain ⟨hba, hha⟩ := HS9.out.b.bars hxm
              obtain ⟨xn, hxn⟩ : ∃ xn, xn = x.n := ⟨_, rfl⟩
              obtain ⟨xd, hxd⟩ : ∃ xd, xd = x.d := ⟨_, rfl⟩
              rw [← hxn] at y1 hwx hba hha
              rw [← hxd] at y2 hba
              have hbar : (decide (xn ∈ l'.map Fr.n) || decide (xd ≤ h')) = true := by simpa using hba
              have L0 := fun z : Lies wr => lies_cell y1 z
              have L1 := fun z : Lies wr => lies_cell y2 z
              have C1 : Hid (∀ z : Lies wr, Calls Try.prog 56 #[.pointer (some ⟨W, 0, none⟩), .int .i64 xn, .int .i64 xd] z.1 fun e w' => e = .returned (.bool true) ∧ Below z.1.heap.size z.1 w') := fun z => by
                have := pbars_any (HS9.out.p.below z.2) xn xd hwx
                rw [hbar] at this
                exact this.mono fun e w' ⟨h1, h2⟩ => ⟨h1, h2 ▸ Below.refl _ _⟩
              have C2 : Hid (∀ z : Lies wr, Calls Try.prog 53 #[.pointer (some ⟨W, 0, none⟩)] z.1 fun e w' => e = .returned (.int .i64 f') ∧ Below z.1.heap.size z.1 w') := fun z =>
                (pforgot_any (HS9.out.p.below z.2)).mono fun e w' ⟨h1, h2⟩ => ⟨h1, h2 ▸ Below.refl _ _⟩
              clear hv1 y0 y1 y2 hx hxm hba hxn hxd hbar
              by_cases hf0 : f' = 0
              · have C3 : Hid (∀ z : Lies wr, Calls Try.prog 57 #[.pointer (some ⟨W, 0, none⟩), .int .i64 xn] z.1 fun e w' => e = .returned (.bool true) ∧ Below z.1.heap.size z.1 w') := fun z => by
                  have := phas_any (HS9.out.p.below z.2) xn hwx
                  rw [decide_eq_true (hha hf0)] at this
                  exact this.mono fun e w' ⟨h1, h2⟩ => ⟨h1, h2 ▸ Below.refl _ _⟩
                have s1 : ((f' : Int) == 0) = true := by simp [hf0]
                have s1' : decide ((f' : Int) = 0) = true := by simp [hf0]
                clear hf0 hha hwx
                go_upto_region 25 with fail
                refine region_lies (by rfl) (by decide +kernel) ?_
                repeat (go_big_quiet_step ((first | (go_at_call 56; exact Lies.call (C1.out _)) | (go_at_call 53; exact Lies.call (C2.out _)) | (go_at_call 57; exact Lies.call (C3.out _)))))
                refine wpQuiet_nil ?_
                intro _ hw'
                obtain ⟨z, rfl⟩ := hw'
                have HZ := Lib.hid (HB.out.trans ((show Below wr.heap.size wr z.1 from z.2).mono HB.out.size))
                clear L0 L1 C1 C2 C3
                generalize z.1 = wz at *
                clear z
                go_wp2_with fail
                exact ⟨⟨q + 1, hqO, by simp, HZ⟩, by simp [intOf]; omega⟩
              · have s1 : ((f' : Int) == 0) = false := by simp [hf0]
                have s1' : decide ((f' : Int) = 0) = false := by simp [hf0]
                clear hf0 hha hwx
                go_upto_region 25 with fail
                refine region_lies (by rfl) (by decide +kernel) ?_
                repeat (go_big_quiet_step ((first | (go_at_call 56; exact Lies.call (C1.out _)) | (go_at_call 53; exact Lies.call (C2.out _)))))
                refine wpQuiet_nil ?_
                intro _ hw'
                obtain ⟨z, rfl⟩ := hw'
                have HZ := Lib.hid (HB.out.trans ((show Below wr.heap.size wr z.1 from z.2).mono HB.out.size))
                clear L0 L1 C1 C2
                generalize z.1 = wz at *
                clear z
                go_wp2_with fail
                exact ⟨⟨q + 1, hqO, by simp, HZ⟩, by simp [intOf]; omega⟩
            · have d7 : decide ((q : Int) < (O : Int)) = false := decide_eq_false (by omega)
              have HFG := Lib.hid (pforgot_any HS9.out.p)
              have HF : Hid (BS w W mb kk (j + 1) l' h' f' v' op' ao' co' wr) := HS9.out
              by_cases hf0 : f' = 0
              · have s1 : ((f' : Int) == 0) = true := by simp [hf0]
                have s1' : decide ((f' : Int) = 0) = true := by simp [hf0]
                obtain ⟨hh0, hlo⟩ := HS9.out.b.none hf0
                have s2 : (h' == 0) = true := by simp [hh0]
                have s2' : decide (h' = 0) = true := by simp [hh0]
                have s2'' : (h' != 0) = false := by simp [hh0]
                obtain rfl : M = O := by rw [HM.out, HO.out]; exact hlo
                have HFR := Lib.hid (pframes_any HS9.out.p)
                rw [← HM.out] at HFR
                clear hf0 hh0 hlo HS9 HS8
                go_wp2_with fail
                refine HFG.out.mono ?_
                rintro e w9 ⟨rfl, rfl⟩
                go_wp2_with fail
                refine HFR.out.mono ?_
                rintro e w9 ⟨a9, c9, rfl, _, hb9⟩
                have HF9 := Lib.hid (HF.out.below hb9)
                clear hb9 HFR HFG
                go_wp2_with fail
                exact ⟨⟨j + 1, l', h', f', v', op', ao', co', hjN, by simp, by rw [HO.out], rfl, HF9⟩, by simp [intOf]; omega⟩
              · have s1 : ((f' : Int) == 0) = false := by simp [hf0]
                have s1' : decide ((f' : Int) = 0) = false := by simp [hf0]
                clear hf0 HS9 HS8
                go_wp2_with fail
                refine HFG.out.mono ?_
                rintro e w9 ⟨rfl, rfl⟩
                clear HFG
                go_wp2_with fail
                exact ⟨⟨j + 1, l', h', f', v', op', ao', co', hjN, by simp, by rw [HO.out], rfl, HF⟩, by simp [intOf]; omega⟩
      · have d3 : decide ((j : Int) < (N : Int)) = false := decide_eq_false (by omega)
        go_wp2_with fail
        go_ret
        exact ⟨rfl, HS.out.bel⟩
  · have HP := Lib.hid fun w => pnew_not w kp hk hkp
    clear hk hkp
    go_wp2_with fail
    refine (HP.out _).mono ?_
    rintro e w2 ⟨rfl, rfl⟩
    go_wp2_with fail
    go_ret
    exact ⟨rfl, HB1.out⟩
end Go.Proofs.Ytfojhmobnedekaa
