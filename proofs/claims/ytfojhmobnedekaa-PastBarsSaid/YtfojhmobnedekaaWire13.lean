/- TwoW wires side by side; a deed's sending, whether it goes or not. Conditions: what is under way is short, its bytes are few. -/
import Derived.Test.YtfojhmobnedekaaWire12
namespace Go.Proofs.Ytfojhmobnedekaa
open Go.RowKit

theorem PW.block {B W : Nat} {zs : List Zl} {ld dr : Int} {v : Value} {w : World} (h : PW B W zs ld dr v w) {g : Nat} {cs : Array Value} {t : TypeId} (hg : w.heap[g]? = some (.cells cs t (0, 0))) (ht : t ≠ 139) : v.ownBlock ≠ some g := by
  obtain ⟨ms, h1, _⟩ := h; exact own4_ne h1.row hg ht
/-- What a wire leaves alone: blocks of another type. -/
theorem PW.far {B W : Nat} {zs : List Zl} {ld dr : Int} {v : Value} {w w' : World} (h : PW B W zs ld dr v w) (k : Keep W v w w') {g : Nat} {cs : Array Value} {t : TypeId} (hg : w.heap[g]? = some (.cells cs t (0, 0))) (ht : t ≠ 139) (ht2 : t ≠ 91) : w'.heap[g]? = some (.cells cs t (0, 0)) :=
  (k.block g (lt_of_block hg) (fun e => by
    subst e
    have := h.wire
    rw [hg] at this
    injection this with this
    injection this with _ h2 _
    exact ht2 h2) (h.block hg ht)).trans hg
theorem own_far {B W B' size n : Nat} {zs : List Zl} {ld dr : Int} {v u : Value} {w w' : World} {e : TypeId} {xs : List Value} (h : PW B W zs ld dr v w) (k : Keep W v w w') (ho : w.ownsRow B' e size u n xs) (ht : e ≠ 139) (ht2 : e ≠ 91) : w'.ownsRow B' e size u n xs := by
  obtain ⟨h1, h2⟩ := ho
  refine ⟨h1, ?_⟩
  rcases h2 with h2 | ⟨g, cap, cur, rfl, hb, hh, hn⟩
  · exact .inl h2
  · exact .inr ⟨g, cap, cur, rfl, hb, h.far k hh ht ht2, hn⟩
theorem MailO.far {B W B' B'' : Nat} {zs : List Zl} {ld dr : Int} {v u : Value} {w w' : World} {xs : List Wz} (h : PW B W zs ld dr v w) (k : Keep W v w w') (hm : MailO B' B'' u xs w) : MailO B' B'' u xs w' :=
  ⟨own_far h k hm.row (by decide) (by decide), fun x hx => own_far h k (hm.own x hx) (by decide) (by decide)⟩
/-- Another wire stays as it is. -/
theorem PW.other {B W B2 W2 : Nat} {zs zs2 : List Zl} {ld dr ld2 dr2 : Int} {v v2 : Value} {w w' : World} (h : PW B W zs ld dr v w) (k : Keep W v w w') (h2 : PW B2 W2 zs2 ld2 dr2 v2 w) (hW : W2 ≠ W) (hv : Unl v2 v) : PW B2 W2 zs2 ld2 dr2 v2 w' := by
  obtain ⟨ms, q1, q2⟩ := h2
  refine ⟨ms, q1.frame fun g hg hl => k.block g hl ?_ ?_, q2⟩
  · rcases hg with hg | hg | ⟨x, hx, hg⟩
    · rw [hg]; exact hW
    · intro e; exact own4_ne q1.row h.wire (by decide) (by rw [hg, e])
    · intro e; exact own5_ne (q1.made.own _ (List.mem_map_of_mem hx)) h.wire (by decide) (by rw [← e]; exact hg)
  · rcases hg with hg | hg | ⟨x, hx, hg⟩
    · rw [hg]; exact h.block q1.wire (by decide)
    · exact hv g hg
    · obtain ⟨ms', r1, _⟩ := h
      exact unl_types3 (by decide) (q1.made.own _ (List.mem_map_of_mem hx)) r1.row g hg
theorem Nxt.unl {B2 W2 : Nat} {zs2 : List Zl} {ld2 dr2 : Int} {v v' v2 : Value} {w : World} (h : Nxt w v v') (h2 : PW B2 W2 zs2 ld2 dr2 v2 w) (hu : Unl v2 v) : Unl v2 v' := fun g e1 e2 => by
  rcases h g e2 with e | e
  · exact hu g e1 e
  · have := (h2.ownB e1).2; omega
theorem unl_same {v v' v2 : Value} (e : v'.ownBlock = v.ownBlock) (hu : Unl v2 v) : Unl v2 v' := fun g e1 e2 => hu g e1 (by rw [← e]; exact e2)
/-- A deed sent: what it answers, what becomes of the queue and of the counts. -/
def Dd.goes (x : Dd) : Prop := Goes x.tt x.k x.b x.al x.pl x.nw
instance (t k b al pl now : Int) : Decidable (Goes t k b al pl now) := by unfold Goes; infer_instance
instance (x : Dd) : Decidable x.goes := by unfold Dd.goes; infer_instance
def Dd.code (x : Dd) : Int := if x.goes then 0 else 2
def Dd.L (x : Dd) : List (Int × Int × List Nat) := landsOf x.k x.b x.al x.pl x.nw x.l
def Dd.put (x : Dd) (zs : List Zl) : List Zl := if x.goes then sendZ x.tt x.L zs else zs
def Dd.ld (x : Dd) (n : Int) : Int := if x.goes then n + (x.L.length : Nat) else n
def Dd.dr (x : Dd) (n : Int) : Int := if x.goes ∧ x.L.length = 0 then n + 1 else n
theorem Dd.L_len (x : Dd) : x.L.length ≤ 2 := landsOf_len _ _ _ _ _ _
theorem Dd.ld_le (x : Dd) (n : Int) : n ≤ x.ld n ∧ x.ld n ≤ n + 2 := by
  have := x.L_len
  unfold Dd.ld; split <;> omega
theorem Dd.dr_le (x : Dd) (n : Int) : n ≤ x.dr n ∧ x.dr n ≤ n + 1 := by unfold Dd.dr; split <;> omega
theorem sendZ_len (t : Int) : ∀ (L : List (Int × Int × List Nat)) (zs : List Zl), (sendZ t L zs).length = zs.length + L.length
  | [], _ => rfl
  | x :: L, zs => by
    show (sendZ t L (insZ ⟨x.1, x.2.1, t, x.2.2⟩ zs)).length = _
    have hi : ∀ (y : Zl) (l : List Zl), (insZ y l).length = l.length + 1 := by
      intro y l
      induction l with
      | nil => rfl
      | cons z l ih => unfold insZ; split <;> simp [ih]
    rw [sendZ_len t L, hi, List.length_cons]; omega
theorem Dd.put_len (x : Dd) (zs : List Zl) : (x.put zs).length ≤ zs.length + 2 := by
  have := x.L_len
  unfold Dd.put; split
  · rw [sendZ_len]; omega
  · omega
theorem sendD {w : World} {W B : Nat} {ld dr : Int} {v : Value} {zs : List Zl} (x : Dd) (hq : PW B W zs ld dr v w) (hr : RB w x.a x.n x.c x.l) (hn : x.n ≤ 1000) (hm : zs.length ≤ 10000) (hB : B ≤ w.heap.size) (hld : 0 ≤ ld ∧ ld ≤ 1000000) (hdr : 0 ≤ dr ∧ dr ≤ 1000000) :
    Calls Try.prog 35 #[.pointer (some ⟨W, 0, none⟩), .int .i64 x.tt, .agg #[.int .i64 x.k, .int .i64 x.b, .int .i64 x.al, .int .i64 x.pl], .slice x.a x.n x.c, .int .i64 x.nw] w fun e w' => e = .returned (.int .i64 x.code) ∧ ∃ v', PW B W (x.put zs) (x.ld ld) (x.dr dr) v' w' ∧ Keep W v w w' ∧ Nxt w v v' := by
  by_cases hg : x.goes
  · refine (sendP hq hr hn hm hB hld hdr hg).mono ?_
    rintro e w' ⟨rfl, v', h1, h2, h3⟩
    refine ⟨by unfold Dd.code; rw [if_pos hg], v', ?_, h2, h3⟩
    unfold Dd.put Dd.ld Dd.dr Dd.L
    rw [if_pos hg, if_pos hg]
    by_cases hz : (landsOf x.k x.b x.al x.pl x.nw x.l).length = 0
    · rw [if_pos ⟨hg, hz⟩]; rw [if_pos hz] at h1; exact h1
    · rw [if_neg (fun e => hz e.2)]; rw [if_neg hz] at h1; exact h1
  · refine (send_not x.a x.n x.c hq.wire hg).mono ?_
    rintro e w' ⟨rfl, hB2⟩
    refine ⟨by unfold Dd.code; rw [if_neg hg], v, ?_, Keep.of_below hB2, Nxt.refl _ _⟩
    unfold Dd.put Dd.ld Dd.dr
    rw [if_neg hg, if_neg hg, if_neg (fun e => hg e.1)]
    exact hq.below hB2
/-- Taken in two steps it is the same. -/
theorem dueZ_two {m n : Int} (h : m ≤ n) : ∀ zs : List Zl, dueZ n zs = dueZ m zs ++ dueZ n (zs.drop (dueZ m zs).length)
  | [] => rfl
  | x :: zs => by
    by_cases hx : x.d ≤ m
    · have hn : x.d ≤ n := by omega
      have e1 : dueZ m (x :: zs) = x :: dueZ m zs := by unfold dueZ; rw [List.takeWhile_cons, if_pos (decide_eq_true hx)]
      have e2 : dueZ n (x :: zs) = x :: dueZ n zs := by unfold dueZ; rw [List.takeWhile_cons, if_pos (decide_eq_true hn)]
      rw [e1, e2, dueZ_two h zs]; rfl
    · have e1 : dueZ m (x :: zs) = [] := by unfold dueZ; rw [List.takeWhile_cons, if_neg (fun e => hx (of_decide_eq_true e))]
      rw [e1]; rfl
theorem dueZ_pos (n : Int) (zs : List Zl) : 0 < (dueZ n zs).length ↔ ∃ x t, zs = x :: t ∧ x.d ≤ n := by
  cases zs with
  | nil => exact ⟨fun h => absurd h (Nat.lt_irrefl 0), fun ⟨_, _, h, _⟩ => by cases h⟩
  | cons x zs =>
    unfold dueZ
    rw [List.takeWhile_cons]
    by_cases hx : x.d ≤ n
    · rw [if_pos (decide_eq_true hx)]
      exact ⟨fun _ => ⟨x, zs, rfl, hx⟩, fun _ => by simp⟩
    · rw [if_neg (fun e => hx (of_decide_eq_true e))]
      exact ⟨fun h => absurd h (by decide), fun ⟨y, t, e, h⟩ => by injection e with e _; subst e; exact absurd h hx⟩
/-- The tick of the first. -/
def hdZ : List Zl → Int
  | [] => 0
  | x :: _ => x.d
theorem nextP {w : World} {W B : Nat} {ld dr : Int} {v : Value} {zs : List Zl} (hq : PW B W zs ld dr v w) (hm : zs.length ≤ 10000) : Calls Try.prog 41 #[.pointer (some ⟨W, 0, none⟩)] w fun e w' => e = .returned (.tuple #[.int .i64 (hdZ zs), .bool (decide (0 < zs.length))]) ∧ w = w' := by
  obtain ⟨ms, h1, rfl, _, a, c, rfl⟩ := hq
  rw [List.length_map] at hm
  have hr : RWl w a ms.length c (ms.map Wz.w) := own_rwl h1.row (by omega)
  refine (Next_any h1.wire hr).mono ?_
  rintro e w' ⟨rfl, rfl⟩
  refine ⟨?_, rfl⟩
  rw [List.length_map]
  cases ms with
  | nil => rfl
  | cons x ms => rfl

set_option maxHeartbeats 1600000 in
theorem pick_any (w : World) (x n : Int) (hn : 1 ≤ n) (hn2 : n ≤ 1000000) : Calls Try.prog 40 #[.int .i64 x, .int .i64 n] w fun e w' => e = .returned (.int .i64 (x % n)) ∧ w = w' := by
  have h1 : ¬ n < 1 := by omega
  have h0 : ¬ n = 0 := by omega
  by_cases hx0 : 0 ≤ x
  · have e : x.tmod n = x % n := Int.tmod_eq_emod_of_nonneg hx0
    have hr := Int.emod_nonneg x h0
    have hr2 := Int.emod_lt_of_pos x (show 0 < n by omega)
    have d1 : ¬ x.tmod n < 0 := by omega
    go_enter Try.func40, Try.ntmps40
    go_wp2_with fail
    go_ret
    exact ⟨rfl, rfl⟩
  · have hr := Int.emod_nonneg x h0
    have hr2 := Int.emod_lt_of_pos x (show 0 < n by omega)
    have ht := Int.tmod_eq_emod (a := x) (b := n)
    by_cases hz : x % n = 0
    · have hd : n ∣ x := Int.dvd_of_emod_eq_zero hz
      rw [if_pos (.inr hd), hz] at ht
      have e : x.tmod n = 0 := by omega
      rw [hz]
      clear hr hr2 ht hd hz
      go_enter Try.func40, Try.ntmps40
      go_wp2_with fail
      go_ret
      exact ⟨rfl, rfl⟩
    · have hd : ¬ n ∣ x := fun h => hz (Int.emod_eq_zero_of_dvd h)
      rw [if_neg (by intro h; rcases h with h | h; exact hx0 h; exact hd h)] at ht
      obtain ⟨r, hre⟩ : ∃ r, r = x % n := ⟨_, rfl⟩
      have e : x.tmod n = r - n := by rw [ht]; omega
      rw [← hre] at hr hr2 hz ⊢
      have d1 : r - n < 0 := by omega
      have d2 : r - n + n = r := by omega
      clear ht hd hre hz
      go_enter Try.func40, Try.ntmps40
      go_wp2_with fail
      go_ret
      exact ⟨by first | rfl | (simp; omega), rfl⟩
end Go.Proofs.Ytfojhmobnedekaa
