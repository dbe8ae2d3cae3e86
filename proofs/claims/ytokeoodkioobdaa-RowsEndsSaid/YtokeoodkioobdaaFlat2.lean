/- The walk of flatBytes. Conditions: at most 1000000 rows of at most 1000000 bytes. -/
import Derived.Test.YtokeoodkioobdaaFlat1b
import Derived.Test.YtokeoodkioobdaaLagr2
namespace Go.Proofs.Ytokeoodkioobdaa
open Go.RowKit

def Done (n : Nat → Nat) (F : Nat → Nat → Nat) (K I : Nat) : Prop := (∀ k, k < K → ∀ i, i < n k → F k i = mk k i) ∧ ∀ i, i < I → F K i = mk K i
theorem Done.zero (n : Nat → Nat) (F : Nat → Nat → Nat) : Done n F 0 0 := ⟨fun _ h => absurd h (Nat.not_lt_zero _), fun _ h => absurd h (Nat.not_lt_zero _)⟩
theorem Done.row {n : Nat → Nat} {F : Nat → Nat → Nat} {K : Nat} (h : Done n F K (n K)) : Done n F (K + 1) 0 := ⟨fun k hk i hi => by
  by_cases e : k = K
  · subst e; exact h.2 i hi
  · exact h.1 k (by omega) i hi, fun _ h => absurd h (Nat.not_lt_zero _)⟩
theorem Done.step {n : Nat → Nat} {F : Nat → Nat → Nat} {K I : Nat} (h : Done n F K I) : Done n (fun k' j => if k' = K ∧ j = I then mk K I else F k' j) K (I + 1) := ⟨fun k hk i hi => by
  show (if _ then _ else _) = _
  rw [if_neg (fun h => by omega)]; exact h.1 k hk i hi, fun i hi => by
  show (if _ then _ else _) = _
  by_cases e : i = I
  · subst e; rw [if_pos ⟨rfl, rfl⟩]
  · rw [if_neg (fun h => e h.2)]; exact h.2 i (by omega)⟩

theorem upd_id {α : Type} (f : Nat → α) (k : Nat) : upd f k (f k) = f := by funext i; unfold upd; split <;> simp_all
theorem info31 : (Try.prog.info? 31).map (fun i => (i.zero, i.size, i.bytes)) = some (some (.slice none 0 0), 1, 24) := by kernel_rfl
/-- What a round of the appends holds. -/
structure Cur (S : Nat → Prop) (B : Nat) (la : Option Addr) (N : Nat) (a : Nat → Option Addr) (n c : Nat → Nat) (Gb K : Nat) (ga : Nat → Option Addr) (gc : Nat → Nat) (G : Nat → Nat → Nat) (x : Option Addr) (cx I : Nat) (w : World) : Prop where
  two : Two S B la N a n c Gb K ga gc G w
  free : Free S la N a n c Gb K ga gc (.slice x (n K + I) cx)
  own : w.ownsRow B 5 1 (.slice x (n K + I) cx) (n K + I) (bs (rowf (fun j => mk K j) (n K + I)))
theorem cur_alloc {S : Nat → Prop} {B : Nat} {la : Option Addr} {N : Nat} {a : Nat → Option Addr} {n c : Nat → Nat} {Gb K : Nat} {ga : Nat → Option Addr} {gc : Nat → Nat} {G : Nat → Nat → Nat} {x : Option Addr} {cx I : Nat} {w : World} (h : Cur S B la N a n c Gb K ga gc G x cx I w) (o : Obj) : Cur S B la N a n c Gb K ga gc G x cx I (w.alloc o) :=
  ⟨h.two.frame fun g hg => Below.heap_alloc w o g hg, h.free, own_frame h.own fun g _ hg => Below.heap_alloc w o g hg⟩
theorem cur_step {S : Nat → Prop} {B : Nat} {la : Option Addr} {N : Nat} {a : Nat → Option Addr} {n c : Nat → Nat} {Gb K : Nat} {ga : Nat → Option Addr} {gc : Nat → Nat} {G : Nat → Nat → Nat} {x : Option Addr} {cx I : Nat} {w w' : World} {v' : Value} (h : Cur S B la N a n c Gb K ga gc G x cx I w) (hK : K < N) (hSl : ∀ x, S x → x < w.heap.size)
    (ho : w'.ownsRow B 5 1 v' (n K + I + 1) (bs (rowf (fun j => mk K j) (n K + I)) ++ [.int .u8 (mk K ((n K + I : Nat) : Int) : Nat)])) (hg : w.grownBy w' (Value.slice x (n K + I) cx).ownBlock)
    (hb : ∀ g, v'.ownBlock = some g → (Value.slice x (n K + I) cx).ownBlock = some g ∨ g = w.heap.size) (hk : KeepRows w w' (.slice x (n K + I) cx) (n K + I)) :
    ∃ x' cx', v' = .slice x' (n K + (I + 1)) cx' ∧ Cur S B la N a n c Gb K ga gc G x' cx' (I + 1) w' := by
  obtain ⟨g, cap, rfl⟩ := own_succ ho
  obtain ⟨h1, h2⟩ := h.two.grow hK hSl h.free (Nat.le_add_right _ _) hg hb hk
  have e : bs (rowf (fun j => mk K j) (n K + I)) ++ [.int .u8 (mk K ((n K + I : Nat) : Int) : Nat)] = bs (rowf (fun j => mk K j) (n K + (I + 1))) := by
    have : rowf (fun j => mk K j) (n K + (I + 1)) = rowf (fun j => mk K j) (n K + I) ++ [mk K ((n K + I : Nat) : Int)] := by
      unfold rowf; rw [show n K + (I + 1) = n K + I + 1 by omega, List.range_succ, List.map_append]; rfl
    rw [this, bs_append]; rfl
  rw [e] at ho
  exact ⟨_, _, rfl, h1, h2, ho⟩

set_option maxHeartbeats 6000000 in
set_option maxRecDepth 100000 in
theorem flat_bytes {S : Nat → Prop} {w : World} {B C : Nat} {la : Option Addr} {N : Nat} {a : Nat → Option Addr} {n c : Nat → Nat} {F : Nat → Nat → Nat} (hB : B ≤ w.heap.size) (hS : Sep la N a n c) (hF : Fam B la N a n c F w) (hSl : ∀ x, S x → x < w.heap.size) (hSr : ∀ k, k < N → ∀ x, (Value.slice (a k) (n k) (c k)).ownBlock = some x → ¬ S x) :
    Calls Try.prog 118 #[.slice la N C] w fun e w' => e = .returned (.bool true) ∧ Kpt S w w' := by
  have HS := Lib.hid hS
  have HF := Lib.hid hF
  have hNm := hS.count
  obtain ⟨i31, hj, hy0, hy1, hy2⟩ := info_parts info31
  obtain ⟨i0, hi, hz0, hz1, hz2⟩ := info_parts info5
  have HSl := Lib.hid hSl
  have HSr := Lib.hid hSr
  clear hS hF hSl hSr
  go_enter Try.func118, Try.ntmps118
  go_wp2_with fail
  go_loopw [3] (fun i wr => ∃ K : Nat, K ≤ N ∧ i = .int .i64 K ∧ (∃ F, Hid (Fam B la N a n c F wr) ∧ Hid (Done n F K 0)) ∧ Hid (Kpt S w wr)) (fun i _ => N - (intOf i).toNat)
  case atStart => exact ⟨0, by omega, rfl, ⟨F, HF, Lib.hid (Done.zero _ _)⟩, Lib.hid (Kpt.refl _ _)⟩
  case round =>
    obtain ⟨K, hK, rfl, ⟨F1, HF1, HD1⟩, HB1⟩ := hrel
    by_cases hK1 : K < N
    · go_wp2_with fail
      go_loopw [4] (fun i wr => ∃ I : Nat, I ≤ n K ∧ i = .int .i64 I ∧ (∃ F, Hid (Fam B la N a n c F wr) ∧ Hid (Done n F K I)) ∧ Hid (Kpt S w wr)) (fun i _ => n K - (intOf i).toNat)
      case atStart => exact ⟨0, Nat.zero_le _, rfl, ⟨F1, HF1, HD1⟩, HB1⟩
      case round =>
        obtain ⟨I, hI, rfl, ⟨F2, HF2, HD2⟩, HB2⟩ := hrel
        obtain ⟨b1, o1, e1, hc1⟩ := HF2.out.cell K hK1
        subst e1
        have hnm := HS.out.most K hK1
        by_cases hI1 : I < n K
        · obtain ⟨g, hg, hBg, hgl, hc2, hf2⟩ := own_at (HF2.out.own K hK1) hI1
          rw [hg] at hc1
          have hc2i := hc2
          have h88 := markByte_any (K : Int) (I : Int)
          have H88 := Lib.hid h88
          have hst := fun q => (HF2.out.drewN q).fill HS.out (x := mk K I) hK1 hI1 hg
          have HST := Lib.hid hst
          have HG := Lib.hid hg
          clear h88 hst hg
          go_wp2_with fail
          refine region_quiet_tail 9 (by kernel_rfl) (by kernel_rfl) ?_
          simp only [List.take_succ_cons, List.take_zero, List.drop_succ_cons, List.drop_zero]
          repeat (go_big_quiet_step ((go_at_call 88; exact quiet_same (H88.out _))))
          refine wpQuiet_nil ?_
          intro _ hw'
          obtain ⟨nq, rfl⟩ := hw'
          go_wp2_with fail
          go_roundw
          case rel => exact ⟨I + 1, by omega, by go_num, ⟨_, Lib.hid (HST.out nq), Lib.hid HD2.out.step⟩, Lib.hid ((HB2.out.drewN _).setCell (HSr.out K hK1 g (by rw [HG.out]; rfl)) _)⟩
          case measure => simp [intOf]; omega
        · obtain rfl : I = n K := by omega
          have HD3 := Lib.hid HD2.out.row
          clear HD2
          go_wp2_with fail
          go_roundw
          case rel => exact ⟨K + 1, by omega, by go_num, ⟨_, HF2, HD3⟩, HB2⟩
          case measure => simp [intOf]; omega
    · have e : N = K := by omega
      subst e
      clear hK hK1
      go_wp2_with (refine wpList_make_full _ rfl (.tmp 41) (.tmp 41) 51 rfl wr.heap.size 31 i31 (.slice none 0 0) 1 Try.underlying51 hj hy0 hy1 .i64 .i64 _ _ N rfl rfl rfl rfl ?_ ?_ (Nat.le_refl _) ?_)
      · rw [hy2]; omega
      · unfold maxLen; omega
      intro w1 hown hg1
      have hsz1 : w.heap.size ≤ wr.heap.size := HB1.out.size
      have HT1 := Lib.hid (two_start (S := S) HF1.out HD1.out.1 hown hg1 (by omega))
      have HB2 := Lib.hid (HB1.out.grown hg1 HSl.out (fun j e => by cases e))
      have HGS : Hid (¬ S wr.heap.size) := fun h => by have := HSl.out _ h; omega
      generalize wr.heap.size = Gb at *
      clear hown hg1 HF1 HD1 HB1
      go_wp2_with fail
      go_loopw [6] (fun i wr => ∃ K : Nat, K ≤ N ∧ i = .int .i64 K ∧ (∃ ga gc, Hid (Two S B la N a n c Gb K ga gc (fun k i => mk k i) wr)) ∧ Hid (Kpt S w wr)) (fun i _ => N - (intOf i).toNat)
      case atStart => exact ⟨0, Nat.zero_le _, rfl, ⟨_, _, ⟨HT1.out.fam, HT1.out.gl, fun k h => absurd h (Nat.not_lt_zero _), HT1.out.free, HT1.out.gun, HT1.out.lsg, HT1.out.lag, HT1.out.big⟩⟩, HB2⟩
      case round =>
        clear HT1 HB2
        obtain ⟨K, hK, rfl, ⟨ga, gc, HT⟩, HB3⟩ := hrel
        by_cases hK1 : K < N
        · obtain ⟨b1, o1, e1, hc1⟩ := HT.out.fam.cell K hK1
          subst e1
          have hnm := HS.out.most K hK1
          have HC := Lib.hid (Cur.mk (x := a K) (cx := c K) (I := 0) HT.out (HT.out.free_ls HS.out hK1 (HSr.out K hK1)) (HT.out.fam.own K hK1))
          go_wp2_with fail
          go_loopw [7, 8] (fun g i wr => ∃ I : Nat, I ≤ 64 ∧ i = .int .i64 I ∧ (∃ x cx, g = .slice x (n K + I) cx ∧ Hid (Cur S B (some ⟨b1, o1, none⟩) N a n c Gb K ga gc (fun k i => mk k i) x cx I wr)) ∧ Hid (Kpt S w wr)) (fun _ i _ => 64 - (intOf i).toNat)
          case atStart => exact ⟨0, Nat.zero_le _, rfl, ⟨_, _, rfl, HC⟩, HB3⟩
          case round =>
            clear HT HB3 HC hc1
            obtain ⟨I, hI, rfl, ⟨x, cx, rfl, HC⟩, HB4⟩ := hrel
            by_cases hI1 : I < 64
            · obtain ⟨b1', o1', e, hc1⟩ := HC.out.two.fam.cell K hK1
              injection e with e; injection e with e1 e2; subst e1; subst e2
              have h88 : Calls Try.prog 88 #[.int .i64 (K : Int), .int .i64 ((n K : Int) + (I : Int))] wr fun e w' => e = .returned (.int .u8 (mk K ((n K + I : Nat) : Int) : Nat)) ∧ wr = w' := markByte_any (K : Int) ((n K + I : Nat) : Int) wr
              have H88 := Lib.hid h88
              have hszr : w.heap.size ≤ wr.heap.size := HB4.out.size
              obtain ⟨mv, hmv⟩ : ∃ mv, mv = mk K ((n K + I : Nat) : Int) := ⟨_, rfl⟩
              rw [← hmv] at H88
              have HMV := Lib.hid hmv
              have HCA := Lib.hid (cur_alloc HC.out (.cells #[.int .u8 (mv : Nat)] 5))
              clear h88 hmv
              go_wp2_with fail
              refine H88.out.mono ?_
              rintro e w5 ⟨rfl, rfl⟩
              go_wp2_with (at_builtin; refine wpList_append_own3 _ rfl (.tmp 57) (.tmp 67) 31 rfl B 5 i0 (.int .u8 0) 1 Try.underlying31 hi hz0 hz1 hz2 rfl _ (n K + I) (bs (rowf (fun j => mk K j) (n K + I))) rfl HCA.out.own ⟨wr.heap.size, 0, none⟩ 1 1 [.int .u8 (mv : Nat)] rfl rfl (cell_new _ _) (one_u8 _) (by unfold maxLen; omega) (by omega) (by simp; omega) ?_)
              intro v7 w7 ho7 hg7 hb7 hk7
              rw [HMV.out] at ho7
              obtain ⟨x', cx', rfl, hC7⟩ := cur_step HCA.out hK1 (fun x hx => Nat.lt_of_lt_of_le (HSl.out x hx) (by simp; omega)) ho7 hg7 (fun g e => by simpa using hb7 g e) hk7
              have HC7 := Lib.hid hC7
              have HB7 := Lib.hid ((HB4.out.alloc HSl.out (.cells #[.int .u8 (mv : Nat)] 5)).grown hg7 HSl.out HCA.out.free.new)
              clear ho7 hg7 hb7 hk7 hC7 HCA HC
              go_wp2_with fail
              go_roundw
              case rel => exact ⟨I + 1, by omega, by go_num, ⟨_, _, rfl, HC7⟩, HB7⟩
              case measure => simp [intOf]; omega
            · obtain rfl : I = 64 := by omega
              have hsl := HC.out.two.slot hK1
              obtain ⟨⟨u, hu⟩, hfz⟩ := hsl
              have htp := HC.out.two.put hK1 HC.out.free HC.out.own
              rw [upd_id (fun k i : Nat => mk (k : Int) (i : Int)) K] at htp
              have HTP := Lib.hid htp
              clear htp
              have HB8 := Lib.hid (HB4.out.setCell (p := ⟨Gb, K, none⟩) HGS.out (.slice x (n K + 64) cx))
              go_wp2_with fail
              go_roundw
              case rel => exact ⟨K + 1, by omega, by go_num, ⟨_, _, HTP⟩, HB8⟩
              case measure => simp [intOf]; omega
        · have e : N = K := by omega
          subst e
          clear hK hK1
          have HTN := HT
          clear HT
          go_wp2_with fail
          go_loopw [9] (fun i wr => ∃ K : Nat, K ≤ N ∧ i = .int .i64 K ∧ Hid (Two S B la N a n c Gb N ga gc (fun k i => mk k i) wr) ∧ Hid (Kpt S w wr)) (fun i _ => N - (intOf i).toNat)
          case atStart => exact ⟨0, Nat.zero_le _, rfl, HTN, HB3⟩
          case round =>
            clear HTN HB3
            obtain ⟨K, hK, rfl, HT, HB4⟩ := hrel
            by_cases hK1 : K < N
            · go_wp2_with fail
              go_loopw [10] (fun i wr => ∃ I : Nat, I ≤ n K + 64 ∧ i = .int .i64 I ∧ Hid (Two S B la N a n c Gb N ga gc (fun k i => mk k i) wr) ∧ Hid (Kpt S w wr)) (fun i _ => n K + 64 - (intOf i).toNat)
              case atStart => exact ⟨0, Nat.zero_le _, rfl, HT, HB4⟩
              case round =>
                clear HT HB4
                obtain ⟨I, hI, rfl, HT, HB4⟩ := hrel
                have hc0 := HT.out.at_ hK1
                have hnm := HS.out.most K hK1
                by_cases hI1 : I < n K + 64
                · obtain ⟨b1, o1, e1, hc1⟩ := HT.out.fam.cell K hK1
                  subst e1
                  have h88 := markByte_any (K : Int) (I : Int)
                  have H88 := Lib.hid h88
                  obtain ⟨mv, hmv⟩ : ∃ mv, mv = mk (K : Int) (I : Int) := ⟨_, rfl⟩
                  obtain ⟨g, hg, hBg, hgl, hc2, hf2⟩ := own_at (HT.out.own K hK1) hI1
                  rw [← hmv] at H88 hc2
                  rw [hg] at hc0
                  have HQ := fun q => Lib.hid (HT.out.frame (w' := wr.drewN q) fun _ _ => rfl)
                  clear h88 hg hf2
                  by_cases hI2 : I < n K
                  · obtain ⟨g2, hg2, hBg2, hgl2, hc3, hf3⟩ := own_at (HT.out.fam.own K hK1) hI2
                    rw [hg2] at hc1
                    rw [← hmv] at hc3
                    clear hg2 hf3 hmv
                    go_wp2_with fail
                    go_quiet ((go_at_call 88; exact quiet_same (H88.out _)))
                    go_wp2_with fail
                    go_roundw
                    case rel => exact ⟨I + 1, by omega, by go_num, HQ _, Lib.hid (HB4.out.drewN _)⟩
                    case measure => simp [intOf]; omega
                  · clear hmv
                    go_wp2_with fail
                    go_quiet ((go_at_call 88; exact quiet_same (H88.out _)))
                    go_wp2_with fail
                    go_roundw
                    case rel => exact ⟨I + 1, by omega, by go_num, HQ _, Lib.hid (HB4.out.drewN _)⟩
                    case measure => simp [intOf]; omega
                · obtain rfl : I = n K + 64 := by omega
                  go_wp2_with fail
                  go_roundw
                  case rel => exact ⟨K + 1, by omega, by go_num, HT, HB4⟩
                  case measure => simp [intOf]; omega
            · have e : N = K := by omega
              subst e
              clear hK hK1
              have HT0 := Lib.hid HT.out.zero
              clear HT
              go_wp2_with fail
              go_loopw [11] (fun i wr => ∃ K : Nat, K ≤ N ∧ i = .int .i64 K ∧ (∃ ga gc G, Hid (Two S B la N a n c Gb K ga gc G wr) ∧ Hid (∀ k, k < K → ∀ i, i < n k → G k i = mk k i)) ∧ Hid (Kpt S w wr)) (fun i _ => N - (intOf i).toNat)
              case atStart => exact ⟨0, Nat.zero_le _, rfl, ⟨_, _, _, HT0, fun k h => absurd h (Nat.not_lt_zero _)⟩, HB4⟩
              case round =>
                clear HT0 HB4
                obtain ⟨K, hK, rfl, ⟨ga2, gc2, G, HT, HG⟩, HB5⟩ := hrel
                by_cases hK1 : K < N
                · have hszr : w.heap.size ≤ wr.heap.size := HB5.out.size
                  go_wp2_with (refine wpList_make_full _ rfl (.const (.int .i64 64)) (.const (.int .i64 64)) 31 rfl wr.heap.size 5 i0 (.int .u8 0) 1 Try.underlying31 hi hz0 hz1 .i64 .i64 _ _ 64 rfl rfl rfl rfl ?_ ?_ (Nat.le_refl _) ?_)
                  · rw [hz2]; omega
                  · unfold maxLen; omega
                  intro w1 hown hg1
                  have HFar := Lib.hid (HT.out.far (by omega))
                  have HT1 := Lib.hid (HT.out.frame (w' := w1) fun g hg => hg1.block g hg (fun e => by cases e))
                  have HB6 := Lib.hid (HB5.out.grown hg1 HSl.out (fun j e => by cases e))
                  have HX := Lib.hid (own_mono (own_rowf (own_zeros hown)) (show B ≤ _ by omega))
                  have hBX : B ≤ wr.heap.size := by omega
                  clear hown hg1 HT HB5
                  have HXS : Hid (¬ S wr.heap.size) := fun h => by have := HSl.out _ h; omega
                  generalize wr.heap.size = X at *
                  go_wp2_with fail
                  go_loopw [13] (fun i wr => ∃ I : Nat, I ≤ 64 ∧ i = .int .i64 I ∧ (∃ f, Hid (wr.ownsRow B 5 1 (.slice (some ⟨X, 0, none⟩) 64 64) 64 (bs (rowf f 64)))) ∧ Hid (Two S B la N a n c Gb K ga2 gc2 G wr) ∧ Hid (Kpt S w wr)) (fun i _ => 64 - (intOf i).toNat)
                  case atStart => exact ⟨0, Nat.zero_le _, rfl, ⟨_, HX⟩, HT1, HB6⟩
                  case round =>
                    clear HX HT1 HB6
                    obtain ⟨I, hI, rfl, ⟨f, HX⟩, HT, HB6⟩ := hrel
                    by_cases hI1 : I < 64
                    · have hw1 : IntKind.i64.wrap ((K : Int) + (N : Int)) = (K : Int) + (N : Int) := IntWalk.i64_in _ (by omega)
                      have h88 := markByte_any ((K : Int) + (N : Int)) (I : Int)
                      have H88 := Lib.hid h88
                      generalize mk ((K : Int) + (N : Int)) (I : Int) = mv at *
                      obtain ⟨g, hg, hBg, hgl, hc2, hf2⟩ := own_at HX.out hI1
                      injection hg with hg
                      injection hg with hg
                      subst hg
                      have HX2 := Lib.hid (own_put (x := mv) HX.out hI1)
                      have HT2 := Lib.hid (HT.out.write (w' := wr.setCell ⟨X, I, none⟩ (.int .u8 (mv : Nat))) HFar.out fun g hg _ => Below.heap_setCell wr ⟨X, I, none⟩ _ g hg)
                      clear h88 HX HT
                      go_wp2_with fail
                      refine (H88.out _).mono ?_
                      rintro e w5 ⟨rfl, rfl⟩
                      go_wp2_with fail
                      go_roundw
                      case rel => exact ⟨I + 1, by omega, by go_num, ⟨_, HX2⟩, HT2, Lib.hid (HB6.out.setCell HXS.out _)⟩
                      case measure => simp [intOf]; omega
                    · obtain rfl : I = 64 := by omega
                      obtain ⟨b1, o1, e1, hc1⟩ := HT.out.fam.cell K hK1
                      subst e1
                      have hsl := HT.out.slot hK1
                      have hnm := HS.out.most K hK1
                      have hszr : w.heap.size ≤ wr.heap.size := HB6.out.size
                      have hone : ∀ u ∈ bs (rowf f 64), u.oneCell' = true := fun u hu => by
                        simp only [bs, List.mem_map] at hu
                        obtain ⟨q, _, rfl⟩ := hu
                        rfl
                      go_wp2_with (at_builtin; refine wpList_append_own3 _ rfl (.tmp 148) (.tmp 149) 31 rfl B 5 i0 (.int .u8 0) 1 Try.underlying31 hi hz0 hz1 hz2 rfl _ (n K) (bs (rowf (fun j => mk K j) (n K))) rfl (HT.out.fam.own K hK1) ⟨X, 0, none⟩ 64 64 (bs (rowf f 64)) rfl (by rw [length_bs, length_rowf]) (HX.out.cells (g := X) rfl) hone (by unfold maxLen; omega) (by omega) (by omega) ?_)
                      intro v7 w7 ho7 hg7 hb7 hk7
                      obtain ⟨g7, c7, rfl⟩ := own_succ (k := n K + 63) ho7
                      have hgr := HT.out.grow hK1 (fun x hx => Nat.lt_of_lt_of_le (HSl.out x hx) hszr) (HT.out.free_ls HS.out hK1 (HSr.out K hK1)) (Nat.le_refl _) hg7 hb7 hk7
                      rw [← bs_append, rowf_app] at ho7
                      have hsl7 := hgr.1.slot hK1
                      obtain ⟨⟨u, hu⟩, hfz⟩ := hsl7
                      have HTP := Lib.hid (hgr.1.put hK1 hgr.2 ho7)
                      have HBP := Lib.hid ((HB6.out.grown hg7 HSl.out (HSr.out K hK1)).setCell (p := ⟨Gb, K, none⟩) HGS.out (.slice (some ⟨g7, 0, none⟩) (n K + 64) c7))
                      have HG7 : Hid (∀ k, k < K + 1 → ∀ i, i < n k → upd G K (fun j => if j < n K then mk K j else f (j - n K)) k i = mk k i) := fun k hk i hi => by
                        by_cases e : k = K
                        · subst e; rw [upd_same, if_pos hi]
                        · rw [upd_other _ _ e]; exact HG.out k (by omega) i hi
                      clear ho7 hg7 hb7 hk7 hgr hsl hc1 hone HX HT
                      go_wp2_with fail
                      go_roundw
                      case rel => exact ⟨K + 1, by omega, by go_num, ⟨_, _, _, HTP, HG7⟩, HBP⟩
                      case measure => simp [intOf]; omega
                · have e : N = K := by omega
                  subst e
                  clear hK hK1
                  go_wp2_with fail
                  go_loopw [14] (fun i wr => ∃ K : Nat, K ≤ N ∧ i = .int .i64 K ∧ Hid (Two S B la N a n c Gb N ga2 gc2 G wr) ∧ Hid (Kpt S w wr)) (fun i _ => N - (intOf i).toNat)
                  case atStart => exact ⟨0, Nat.zero_le _, rfl, HT, HB5⟩
                  case round =>
                    clear HT HB5
                    obtain ⟨K, hK, rfl, HT, HB4⟩ := hrel
                    by_cases hK1 : K < N
                    · go_wp2_with fail
                      go_loopw [15] (fun i wr => ∃ I : Nat, I ≤ n K ∧ i = .int .i64 I ∧ Hid (Two S B la N a n c Gb N ga2 gc2 G wr) ∧ Hid (Kpt S w wr)) (fun i _ => n K - (intOf i).toNat)
                      case atStart => exact ⟨0, Nat.zero_le _, rfl, HT, HB4⟩
                      case round =>
                        clear HT HB4
                        obtain ⟨I, hI, rfl, HT, HB4⟩ := hrel
                        have hnm := HS.out.most K hK1
                        obtain ⟨b1, o1, e1, hc1⟩ := HT.out.fam.cell K hK1
                        subst e1
                        by_cases hI1 : I < n K
                        · have hc0 := HT.out.at_ hK1
                          have h88 := markByte_any (K : Int) (I : Int)
                          have H88 := Lib.hid h88
                          have hgi := HG.out K hK1 I hI1
                          obtain ⟨mv, hmv⟩ : ∃ mv, mv = mk (K : Int) (I : Int) := ⟨_, rfl⟩
                          obtain ⟨g, hg, hBg, hgl, hc2, hf2⟩ := own_at (HT.out.own K hK1) (show I < n K + 64 by omega)
                          obtain ⟨g2, hg2, hBg2, hgl2, hc3, hf3⟩ := own_at (HT.out.fam.own K hK1) hI1
                          rw [hgi] at hc2
                          rw [← hmv] at H88 hc2 hc3
                          rw [hg] at hc0
                          rw [hg2] at hc1
                          have hI64 : I < n K + 64 := by omega
                          have HQ := fun q => Lib.hid (HT.out.frame (w' := wr.drewN q) fun _ _ => rfl)
                          clear h88 hg hf2 hg2 hf3 hmv hgi
                          go_wp2_with fail
                          go_quiet ((go_at_call 88; exact quiet_same (H88.out _)))
                          go_wp2_with fail
                          go_roundw
                          case rel => exact ⟨I + 1, by omega, by go_num, HQ _, Lib.hid (HB4.out.drewN _)⟩
                          case measure => simp [intOf]; omega
                        · obtain rfl : I = n K := by omega
                          go_wp2_with fail
                          go_roundw
                          case rel => exact ⟨K + 1, by omega, by go_num, HT, HB4⟩
                          case measure => simp [intOf]; omega
                    · have e : N = K := by omega
                      subst e
                      go_wp2_with fail
                      go_ret
                      exact ⟨rfl, HB4.out⟩
end Go.Proofs.Ytokeoodkioobdaa
