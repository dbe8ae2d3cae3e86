/- The law StatCounts. Conditions: the input fits the machine; the table of powers is as the library lays it. -/
import Derived.Test.YtfojhmobnedekaaDoorS14
import Derived.Test.YtfojhmobnedekaaDoorLies
namespace Go.Proofs.YtfojhmobnedekaaDoor
open Go.RowKit

/-- append, from whatever source. -/
theorem wpList_append_any {P : Program} {w : World} {ops : Array Oper} {rest : List Oper} {o : Oper} {a : Act} {Q : Exit → Act → World → Prop} (hgd : o.guard = none) (s x : Operand) (t : TypeId)
    (ho : o.op = .call { callee := .builtin .append, args := #[s, x], argTypes := #[t, t] })
    (base : Nat) (e : TypeId) (i : TypeInfo) (z : Value) (size bytes : Nat) (ht : P.underlying t = some (.slice e)) (hi : P.info? e = some i) (hz : i.zero = some z)
    (hsize : i.size = size) (hby : i.bytes = bytes) (hzs : z.cells.size = size) (hsz : 0 < size)
    (v : Value) (n : Nat) (xs : List Value) (hs : a.eval s = v) (hown : w.ownsRow base e size v n xs)
    (a' : Option Addr) (m c : Nat) (news : List Value) (hx : a.eval x = .slice a' m c) (hl : news.length = m * size) (hnil : a' = none → m = 0 ∧ c = 0) (hnews : ∀ j u, news[j]? = some u → ∃ b off, a' = some ⟨b, off, none⟩ ∧ w.cell? ⟨b, off + j, none⟩ = some u) (h1 : ∀ u ∈ news, u.oneCell' = true)
    (h63 : n + m ≤ maxLen) (hbytes : (n + m) * bytes ≤ 140737488355328) (hbase : base ≤ w.heap.size)
    (h : ∀ v' w', w'.ownsRow base e size v' (n + m) (xs ++ news) → w.grownBy w' v.ownBlock → wpList P ops Q rest (a.put o.dst v') w') :
    wpList P ops Q (o :: rest) a w := by
  refine wpList_plain hgd fun K hK => ?_
  cases a' with
  | none =>
    obtain ⟨rfl, rfl⟩ := hnil rfl
    have hn0 : news = [] := List.eq_nil_of_length_eq_zero (by rw [hl]; omega)
    subst hn0
    have hrun := run_append_owned_none (P := P) (w := w) base t o.type e i size ht hi v n xs hown
    unfold Oper.wp execOp
    simp only [ho, resolve, invoke, builtin, Sem.run_bind, Sem.run_pure, Result.andThen_ok, List.map_toArray, List.map_cons, List.map_nil, hs, hx, hrun]
    exact hK _ _ (h v w (by rw [List.append_nil]; exact hown) (World.grownBy.refl _ _))
  | some ad =>
    obtain ⟨v', w', hr, h2, h3, _, _⟩ := run_append_own_at (P := P) w base t o.type e i z size bytes ht hi hz hsize hby hzs hsz v n xs hown ad m c news hl (fun j u hu => by
      obtain ⟨b2, off2, e2, hc⟩ := hnews j u hu
      injection e2 with e2
      subst e2
      rw [Addr.add_lit]; exact hc) h1 h63 hbytes hbase
    unfold Oper.wp execOp
    simp only [ho, resolve, invoke, builtin, Sem.run_bind, Sem.run_pure, Result.andThen_ok, List.map_toArray, List.map_cons, List.map_nil, hs, hx, hr]
    exact hK _ _ (h v' w' h2 h3)
set_option maxRecDepth 100000 in
set_option maxHeartbeats 4000000 in
theorem eq_stC38 (u v : Nat → Int) (w : World) : (Op.equalIn 10000 38 (.agg (stC u)) (.agg (stC v))).run Tryd.prog w = .ok (eqS (u 0 == v 0) (u 1 == v 1) (u 2 == v 2) (allEq (fun i => u (3 + i)) (fun i => v (3 + i)) (List.range 8)) (allEq (fun i => u (11 + i)) (fun i => v (11 + i)) (List.range 4)) (u 15 == v 15) (u 16 == v 16) (u 17 == v 17) (u 18 == v 18)) w := by
  have h8 := eqA8 u v
  have h4 := eqA4 u v
  generalize allEq (fun i => u (3 + i)) (fun i => v (3 + i)) (List.range 8) = b8 at *
  generalize allEq (fun i => u (11 + i)) (fun i => v (11 + i)) (List.range 4) = b4 at *
  unfold stC
  go_simp
  unfold eqS
  by_cases e0 : u 0 = v 0
  · by_cases e1 : u 1 = v 1
    · by_cases e2 : u 2 = v 2
      · cases b8
        · simp [e0, e1, e2]
        · cases b4
          · simp [e0, e1, e2]
          · by_cases e15 : u 15 = v 15
            · by_cases e16 : u 16 = v 16
              · by_cases e17 : u 17 = v 17
                · by_cases e18 : u 18 = v 18
                  · simp [e0, e1, e2, e15, e16, e17, e18]
                  · simp [e0, e1, e2, e15, e16, e17, e18]
                · simp [e0, e1, e2, e15, e16, e17]
              · simp [e0, e1, e2, e15, e16]
            · simp [e0, e1, e2, e15]
      · simp [e0, e1, e2]
    · simp [e0, e1]
  · simp [e0]
/-- Two new stats, laid one behind the other. -/
def twoSt (w : World) (u x : Nat → Int) : World := (((w.alloc (.cells (stC v0) 25)).alloc (.cells (stC v0) 25)).setRow w.heap.size (stC u)).setRow (w.heap.size + 1) (stC x)
theorem two_a (w : World) : StAt 25 ((w.alloc (.cells (stC v0) 25)).alloc (.cells (stC v0) 25)) w.heap.size v0 := (StAt.new w v0).below ((Below.refl _ _).alloc (Nat.le_refl _) _) (by simp)
theorem two_b (w : World) (u : Nat → Int) : StAt 25 (((w.alloc (.cells (stC v0) 25)).alloc (.cells (stC v0) 25)).setRow w.heap.size (stC u)) (w.heap.size + 1) v0 := by
  have := StAt.new (w.alloc (.cells (stC v0) 25)) v0
  rw [World.size_alloc] at this
  exact (setRow_other _ _ _ _ (by omega)).trans this
theorem two_1 (w : World) (u x : Nat → Int) : StAt 25 (twoSt w u x) w.heap.size u := (setRow_other _ _ _ _ (by omega)).trans (setRow_heap _ _ _ _ _ _ (two_a w))
theorem two_2 (w : World) (u x : Nat → Int) : StAt 25 (twoSt w u x) (w.heap.size + 1) x := setRow_heap _ _ _ _ _ _ (two_b w u)
theorem two_below (w : World) (u x : Nat → Int) : Below w.heap.size w (twoSt w u x) := below_setRow (below_setRow (((Below.refl _ _).alloc (Nat.le_refl _) _).alloc (by simp) _) (Nat.le_refl _)) (by omega)
theorem eq_one38 (v : Nat → Int) (w : World) : (Op.equalIn 10000 38 (.agg (stC v)) (.agg (stC v))).run Tryd.prog w = .ok true w := by
  rw [eq_stC38, (eqS_iff v v).2 (fun _ _ => rfl)]
set_option maxRecDepth 100000 in
set_option maxHeartbeats 8000000 in
theorem counts_any {w : World} {a : Option Addr} {n cap : Nat} {l : List (Int × Int)} {v : Nat → Int} (h : RE w a n cap l) (ht : Tab w) : Calls Tryd.prog 3 #[.agg (stC v), .slice a n cap] w (XPost w) := by
  have hle := h.le
  have hm := h.most
  have hlen := h.len
  obtain ⟨i0, hi, hz0, hz1, hz2⟩ := info_parts info33
  have hB1 : Below w.heap.size w (w.alloc (.cells (stC v) 25)) := (Below.refl _ _).alloc (Nat.le_refl _) _
  have hp := ht.lt
  have HW := Lib.hid (awake_any (ht.below hB1 hp))
  have HB1 := Lib.hid hB1
  have HS1 := Lib.hid (StAt.new w v)
  have H1 := Lib.hid (h.below hB1)
  have HT1 := Lib.hid (ht.below hB1 hp)
  clear ht h hB1
  have hz1' : w.heap.size + 1 ≤ (w.alloc (.cells (stC v) 25)).heap.size := by rw [World.size_alloc]; exact Nat.le_refl _
  go_enter Tryd.func3, Tryd.ntmps3
  by_cases h5 : 500 < n
  · go_wp2_with fail
    refine HW.out.mono ?_
    rintro e w2 ⟨rfl, hB2⟩
    go_wp2_with fail
    go_ret
    exact ⟨rfl, HB1.out.trans (hB2.mono (by simp))⟩
  have h5' : n ≤ 500 := by omega
  clear h5
  go_upto_region 3 with fail
  clear HW
  generalize w.alloc (.cells (stC v) 25) = W at *
  have HO1 := Lib.hid (show (W.alloc (.cells #[] 33)).ownsRow W.heap.size 33 2 (.slice (some ⟨W.heap.size, 0, none⟩) 0 0) 0 (ecs []) from (ownsRow_new (heap_alloc_new W (.cells #[] 33)) (Nat.le_refl _) rfl rfl (by decide)))
  have HBA := Lib.hid ((Below.refl W.heap.size W).alloc (Nat.le_refl _) (.cells #[] 33))
  have HD1 := Lib.hid (H1.out.below HBA.out)
  go_wp2_with (refine wpList_append_any (by rfl) (.tmp 14) (.tmp 15) 26 (by rfl) W.heap.size 33 i0 _ 2 16 Tryd.underlying26 hi hz0 hz1 hz2 rfl (by omega) (.slice (some ⟨W.heap.size, 0, none⟩) 0 0) 0 (ecs []) (by rfl) HO1.out a n cap (ecs l) (by rfl) (by rw [length_ecs, hlen]) (fun e => by have := H1.out.nil e; omega) HD1.out.at_ (ecs_one _) (by unfold maxLen; omega) (by omega) (by simp) ?_; intro v5 w5 ho5 hg5; have HO5 := Lib.hid ho5; have HB5 := Lib.hid (HBA.out.grown hg5 (by simp) (fun k e => by cases e; exact Nat.le_refl _)); clear ho5 hg5)
  obtain ⟨a5, cap5, rfl, hr5⟩ := RE.of_own (l := l) (by have := HO5.out; simpa [ecs] using this) (show 0 + n ≤ 140737488351232 by omega)
  rw [Nat.zero_add] at hr5
  have hzn : (0 : Nat) + n = n := Nat.zero_add n
  simp only [hzn]
  have HS5 := Lib.hid (HS1.out.below HB5.out (by omega))
  have HR5 := Lib.hid hr5
  have HTH := Lib.hid (theirs_any (H1.out.below HB5.out) h5')
  have hz5 := HB5.out.size
  clear HO1 HBA HD1 HO5 HS1 hr5
  go_wp2_with fail
  refine HTH.out.mono ?_
  rintro e w6 ⟨⟨a6, cap6, rfl, hr6⟩, hB6⟩
  have HR6 := Lib.hid hr6
  have HB6 := Lib.hid hB6
  have hz6 := hB6.size
  have HS6 := Lib.hid (HS5.out.below hB6 HS5.out.lt)
  have HAN := Lib.hid (And_any (v := v) (HR5.out.below hB6))
  clear hr6 hB6 HTH HS5
  go_wp2_with (refine wpList_load_row rfl 25 (.tmp 2) rfl w.heap.size rfl 25 (stC v) (0, 0) _ HS6.out Tryd.underlying25 rfl info25 ?_)
  refine HAN.out.mono ?_
  rintro e w7 ⟨rfl, hB7⟩
  have HB7 := Lib.hid (HB6.out.trans (hB7.mono hz6))
  have HB7' := Lib.hid hB7
  have hz7 := hB7.size
  have HOF := Lib.hid (Of_any (HR5.out.below HB7.out))
  clear hB7 HAN
  go_wp2_with fail
  refine HOF.out.mono ?_
  rintro e w8 ⟨rfl, hB8⟩
  have HB8 := Lib.hid (HB7.out.trans (hB8.mono (by omega)))
  have HB8' := Lib.hid (HB7'.out.trans (hB8.mono hz7))
  have hz8 := hB8.size
  clear hB8 HOF HB7 HB7'
  go_wp2_with (first | (refine wpList_store_row rfl 25 (.tmp 7) (.tmp 21) rfl w8.heap.size (stC (andV v l)) rfl rfl 25 (stC v0) (two_a w8) info25 rfl (stC_one _) ?_) | (refine wpList_store_row rfl 25 (.tmp 8) (.tmp 23) rfl (w8.heap.size + 1) (stC (andV v0 l)) rfl rfl 25 (stC v0) (two_b w8 _) info25 rfl (stC_one _) ?_))
  obtain ⟨WC, hWC⟩ : ∃ WC, WC = twoSt w8 (andV v l) (andV v0 l) := ⟨_, rfl⟩
  have hbc : Below w8.heap.size w8 WC := by rw [hWC]; exact two_below _ _ _
  have hb5 : Below w5.heap.size w5 WC := HB8.out.trans (hbc.mono (by omega))
  have hbW : Below W.heap.size W WC := HB5.out.trans (hb5.mono hz5)
  have GB := Lib.hid (HB1.out.trans (hbW.mono (by omega)))
  have GS := Lib.hid (show StAt 25 WC w.heap.size v from HS6.out.below (HB8'.out.trans (hbc.mono (by omega))) HS6.out.lt)
  have GA := Lib.hid (show StAt 25 WC w8.heap.size (andV v l) by rw [hWC]; exact two_1 _ _ _)
  have GO := Lib.hid (show StAt 25 WC (w8.heap.size + 1) (andV v0 l) by rw [hWC]; exact two_2 _ _ _)
  have GR := Lib.hid (H1.out.below hbW)
  have GR5 := Lib.hid (HR5.out.below hb5)
  have GR6 := Lib.hid (HR6.out.below (HB8'.out.trans (hbc.mono (by omega))))
  have GT := Lib.hid (HT1.out.below hbW (by omega))
  have hWC' := Lib.hid hWC
  clear hbc hb5 hbW HB1 HT1 H1 HB5 HR5 HR6 HS6 HB6 HB8 HB8' hWC
  go_loopw [9] (fun i wr => ∃ k : Nat, k ≤ n ∧ i = .int .i64 k ∧ Hid (Below WC.heap.size WC wr)) (fun i _ => n - (intOf i).toNat)
  case atStart => exact ⟨0, Nat.zero_le _, rfl, by rw [hWC'.out]; exact Below.refl _ _⟩
  case round =>
    clear hWC'
    obtain ⟨k, hk, rfl, HD⟩ := hrel
    have hzd := HD.out.size
    by_cases hk1 : k < n
    · obtain ⟨b, off, x, y, rfl, hx, e0, e1⟩ := (GR.out.below HD.out).two hk1
      obtain ⟨b5, off5, x5, y5, rfl, hx5, f0, f1⟩ := (GR5.out.below HD.out).two hk1
      obtain ⟨b6, off6, x6, y6, rfl, hx6, g0, g1⟩ := (GR6.out.below HD.out).two hk1
      rw [hx] at hx5 hx6
      cases hx5
      cases hx6
      have HM := Lib.hid fun w => may_any x y w
      have HRM := Lib.hid fun w => rmay_any x y w
      generalize mayI x y = t at *
      clear hx
      go_upto_region 9 with fail
      have E0 := lies_cell e0
      have E1 := lies_cell e1
      have F0 := lies_cell f0
      have F1 := lies_cell f1
      have G0 := lies_cell g0
      have G1 := lies_cell g1
      clear e0 e1 f0 f1 g0 g1
      have q0 : decide (n ≤ k) = false := by simp; omega
      have q1 : ((k : Int) < n) := by omega
      refine region_lies (by kernel_rfl) (by kernel_rfl) ?_
      repeat (go_big_quiet_step (first | (go_at_call 11; exact Lies.call (HM.out _)) | (go_at_call 12; exact Lies.call (HRM.out _))))
      refine wpQuiet_nil ?_
      intro _ hw'
      obtain ⟨xw, hw''⟩ := hw'
      subst hw''
      go_wp2_with fail
      go_roundw
      case rel => exact ⟨k + 1, by omega, by go_num, HD.out.trans (xw.below.mono hzd)⟩
      case measure => simp [intOf]; omega
    · obtain rfl : k = n := by omega
      have HRF := Lib.hid fun (u : Nat → Int) (x : Lies wr) => ref_any u x.1
      have HRA := Lib.hid fun (x : Lies wr) => rAnd_any (v := v) ((GR6.out.below HD.out).below x.below)
      have HRO := Lib.hid fun (x : Lies wr) => rOf_any ((GR6.out.below HD.out).below x.below)
      have HAW := Lib.hid fun (x : Lies wr) => awake_any ((GT.out.below HD.out GT.out.lt).below x.below (GT.out.below HD.out GT.out.lt).lt)
      have KS := Lib.hid (GS.out.below HD.out GS.out.lt)
      have KA := Lib.hid (GA.out.below HD.out GA.out.lt)
      have KO := Lib.hid (GO.out.below HD.out GO.out.lt)
      have hq1 := eq_one38 (andV v l)
      have hq2 := eq_one38 (andV v0 l)
      have q0 : decide (k ≤ k) = true := by simp
      go_upto_region 11 with fail
      refine region_lies (by kernel_rfl) (by kernel_rfl) ?_
      repeat (first
        | ((refine quiet_load_row (some 52) rfl rfl 25 (.tmp 7) rfl w8.heap.size rfl 25 (stC (andV v l)) (0, 0) _ (lies_block KA.out) Tryd.underlying25 rfl info25 ?_); simp only [Act.put, List.setIfInBounds_toArray, List.set_cons_succ, List.set_cons_zero])
        | ((refine quiet_load_row (some 54) rfl rfl 25 (.tmp 2) rfl w.heap.size rfl 25 (stC v) (0, 0) _ (lies_block KS.out) Tryd.underlying25 rfl info25 ?_); simp only [Act.put, List.setIfInBounds_toArray, List.set_cons_succ, List.set_cons_zero])
        | ((refine quiet_load_row (some 60) rfl rfl 25 (.tmp 8) rfl (w8.heap.size + 1) rfl 25 (stC (andV v0 l)) (0, 0) _ (lies_block KO.out) Tryd.underlying25 rfl info25 ?_); simp only [Act.put, List.setIfInBounds_toArray, List.set_cons_succ, List.set_cons_zero])
        | go_big_quiet_step (first | (go_at_call 13; exact Lies.call (HRF.out _ _)) | (go_at_call 14; exact Lies.call (HRA.out _)) | (go_at_call 15; exact Lies.call (HRO.out _)) | (go_at_call 7; exact Lies.call (HAW.out _))))
      refine wpQuiet_nil ?_
      intro _ hw'
      obtain ⟨xw, hw''⟩ := hw'
      subst hw''
      go_wp2_with fail
      go_ret
      exact ⟨rfl, GB.out.trans ((HD.out.trans (xw.below.mono hzd)).mono GB.out.size)⟩
end Go.Proofs.YtfojhmobnedekaaDoor
