/- A wire as it is told: what Send and Due make of it. Conditions: what is under way is short, its bytes are few. -/
import Derived.Test.YtfojhmobnedekaaWire10
namespace Go.Proofs.Ytfojhmobnedekaa
open Go.RowKit

/-- Those that are due, from the front. -/
def dueZ (now : Int) (zs : List Zl) : List Zl := zs.takeWhile fun x => decide (x.d ≤ now)
/-- What lands is put in, one after the other. -/
def sendZ (t : Int) (L : List (Int × Int × List Nat)) (zs : List Zl) : List Zl := L.foldl (fun s x => insZ ⟨x.1, x.2.1, t, x.2.2⟩ s) zs
theorem insAll_z (t : Int) : ∀ (ls : List Ld) (ms : List Wz), (insAll t ls ms).map Wz.z = sendZ t (ls.map Ld.tell) (ms.map Wz.z)
  | [], _ => rfl
  | x :: ls, ms => by
    show (insAll t ls (insM ⟨x.due, x.place, t, x.r⟩ ms)).map Wz.z = sendZ t (ls.map Ld.tell) (insZ ⟨x.due, x.place, t, x.r.l⟩ (ms.map Wz.z))
    rw [insAll_z t ls, insM_z]; rfl
theorem takeDue_z (now : Int) : ∀ ms : List Wz, takeDue now (ms.map Wz.w) = (ms.take (dueZ now (ms.map Wz.z)).length).map Wz.w
  | [] => rfl
  | x :: ms => by
    unfold takeDue dueZ
    rw [List.map_cons, List.map_cons, List.takeWhile_cons, List.takeWhile_cons]
    by_cases h : x.d ≤ now
    · rw [if_pos (show decide (x.w.d ≤ now) = true from decide_eq_true h), if_pos (show decide (x.z.d ≤ now) = true from decide_eq_true h)]
      have := takeDue_z now ms
      unfold takeDue dueZ at this
      rw [this]; rfl
    · rw [if_neg (show ¬ decide (x.w.d ≤ now) = true from fun e => h (of_decide_eq_true e)), if_neg (show ¬ decide (x.z.d ≤ now) = true from fun e => h (of_decide_eq_true e))]; rfl
theorem dueZ_take (now : Int) (zs : List Zl) : dueZ now zs = zs.take (dueZ now zs).length := (List.prefix_iff_eq_take.1 (List.takeWhile_prefix _))
/-- What is told is short. -/
def SmZ (zs : List Zl) : Prop := ∀ z ∈ zs, Small z.l ∧ z.l.length ≤ 1000
/-- A wire, by what is told of it. -/
def PW (B W : Nat) (zs : List Zl) (ld dr : Int) (v : Value) (w : World) : Prop := ∃ ms : List Wz, WQ B W ms ld dr v w ∧ ms.map Wz.z = zs ∧ SmZ zs ∧ ∃ a c, v = .slice a ms.length c
theorem mem_sendZ {t : Int} {z : Zl} : ∀ {L : List (Int × Int × List Nat)} {zs : List Zl}, z ∈ sendZ t L zs → z ∈ zs ∨ ∃ x ∈ L, z.l = x.2.2
  | [], _, h => .inl h
  | x :: L, zs, h => by
    rcases mem_sendZ (L := L) (zs := insZ ⟨x.1, x.2.1, t, x.2.2⟩ zs) h with h | ⟨y, hy, e⟩
    · rcases mem_insZ.1 h with rfl | h
      · exact .inr ⟨x, by simp, rfl⟩
      · exact .inl h
    · exact .inr ⟨y, by simp [hy], e⟩
theorem landsOf_mem {k b al pl now : Int} {l : List Nat} : ∀ x ∈ landsOf k b al pl now l, x.2.2.length = l.length := by
  intro x hx
  unfold landsOf at hx
  split at hx
  · rw [List.mem_singleton.1 hx]
  · split at hx
    · simp at hx; rcases hx with rfl | rfl <;> rfl
    · split at hx
      · rw [List.mem_singleton.1 hx]; exact Fm.length_turnI l al
      · simp at hx
theorem sm_sendZ {k b al pl now t : Int} {l : List Nat} {zs : List Zl} (h : SmZ zs) (hs : Small l) (hl : l.length ≤ 1000) : SmZ (sendZ t (landsOf k b al pl now l) zs) := fun z hz => by
  rcases mem_sendZ hz with hz | ⟨x, hx, e⟩
  · exact h z hz
  · rw [e]; exact ⟨landsOf_small hs x hx, by rw [landsOf_mem x hx]; exact hl⟩
theorem PW.below {B W : Nat} {zs : List Zl} {ld dr : Int} {v : Value} {w w' : World} (h : PW B W zs ld dr v w) (hB : Below w.heap.size w w') : PW B W zs ld dr v w' := by
  obtain ⟨ms, h1, h2⟩ := h
  exact ⟨ms, h1.below hB, h2⟩
theorem PW.len {B W : Nat} {zs : List Zl} {ld dr : Int} {v : Value} {w : World} (h : PW B W zs ld dr v w) : ∃ a c, v = .slice a zs.length c := by
  obtain ⟨ms, _, rfl, _, a, c, e⟩ := h
  exact ⟨a, c, by rw [List.length_map]; exact e⟩
theorem PW.wire {B W : Nat} {zs : List Zl} {ld dr : Int} {v : Value} {w : World} (h : PW B W zs ld dr v w) : w.heap[W]? = some (.cells (wireC v ld dr) 91 (0, 0)) := by
  obtain ⟨ms, h1, _⟩ := h; exact h1.wire
/-- Send, where it goes. -/
theorem sendP {w : World} {W B n c : Nat} {a : Option Addr} {l : List Nat} {k b al pl now ld dr t : Int} {v : Value} {zs : List Zl} (hq : PW B W zs ld dr v w) (hr : RB w a n c l) (hn : n ≤ 1000) (hm : zs.length ≤ 10000) (hB : B ≤ w.heap.size) (hld : 0 ≤ ld ∧ ld ≤ 1000000) (hdr : 0 ≤ dr ∧ dr ≤ 1000000) (hg : Goes t k b al pl now) :
    Calls Try.prog 35 #[.pointer (some ⟨W, 0, none⟩), .int .i64 t, .agg #[.int .i64 k, .int .i64 b, .int .i64 al, .int .i64 pl], .slice a n c, .int .i64 now] w fun e w' => e = .returned (.int .i64 0) ∧ ∃ v', PW B W (sendZ t (landsOf k b al pl now l) zs) (ld + ((landsOf k b al pl now l).length : Nat)) (if (landsOf k b al pl now l).length = 0 then dr + 1 else dr) v' w' ∧ Keep W v w w' ∧ Nxt w v v' := by
  obtain ⟨ms, h1, rfl, h3, _⟩ := hq
  rw [List.length_map] at hm
  refine (send_any h1 hr hm hB hld hdr hg).mono ?_
  rintro e w' ⟨rfl, v', ls, k1, k2, k3, k4, k5, k6⟩
  have hl : ls.length = (landsOf k b al pl now l).length := by rw [← k1, List.length_map]
  rw [hl] at k4
  exact ⟨rfl, v', ⟨_, k4, by rw [insAll_z, k1], sm_sendZ h3 hr.small (by rw [hr.len]; exact hn), own4_slice k4.row⟩, k5, k6⟩
/-- Mails that can be read. -/
def MailR (w : World) (v : Value) (zs : List Zl) : Prop := ∃ a c, v = .slice a zs.length c ∧ ∀ k x, zs[k]? = some x → ∃ b o a1 n1 c1, a = some ⟨b, o, none⟩ ∧ w.cell? ⟨b, o + k * 2, none⟩ = some (.int .i64 x.t) ∧ w.cell? ⟨b, o + k * 2 + 1, none⟩ = some (.slice a1 n1 c1) ∧ RB w a1 n1 c1 x.l
theorem MailR.below {w w' : World} {v : Value} {zs : List Zl} (h : MailR w v zs) (hB : Below w.heap.size w w') : MailR w' v zs := by
  obtain ⟨a, c, rfl, hk⟩ := h
  refine ⟨a, c, rfl, fun k x hx => ?_⟩
  obtain ⟨b, o, a1, n1, c1, e, e1, e2, hr⟩ := hk k x hx
  exact ⟨b, o, a1, n1, c1, e, (hB.cell (block_lt_of_cell e1)).trans e1, (hB.cell (block_lt_of_cell e2)).trans e2, hr.below hB⟩
theorem mcs_get : ∀ (l : List Wl) (k j : Nat) (h : k < l.length), j < 2 → (mcs l)[k * 2 + j]? = [Value.int .i64 (l[k]).t, .slice (l[k]).a (l[k]).n (l[k]).c][j]?
  | x :: l, 0, j, _, hj => by
    show ([_, _] ++ mcs l)[0 * 2 + j]? = _
    rw [List.getElem?_append_left (by simp; omega)]; simp
  | x :: l, k + 1, j, h, hj => by
    have h1 : (k + 1) * 2 + j = 2 + (k * 2 + j) := by omega
    show ([_, _] ++ mcs l)[(k + 1) * 2 + j]? = _
    rw [h1, List.getElem?_append_right (by simp)]
    have := mcs_get l k j (by simpa using h) hj
    simpa using this
/-- Mails that are owned. -/
structure MailO (B' B : Nat) (v : Value) (xs : List Wz) (w : World) : Prop where
  row : w.ownsRow B' 70 2 v xs.length (mcs (xs.map Wz.w))
  own : ∀ x ∈ xs, w.ownsRow B 5 1 x.r.v x.r.n (bs x.r.l)
theorem MailO.rd {w : World} {B B' : Nat} {v : Value} {ms : List Wz} (h : MailO B' B v ms w) (hs : SmZ (ms.map Wz.z)) : MailR w v (ms.map Wz.z) := by
  obtain ⟨ho, hm⟩ := h
  rcases ho.2 with ⟨rfl, h0⟩ | ⟨g, cap, cur, rfl, hb, hh, hnc⟩
  · refine ⟨none, 0, by rw [List.length_map, h0], fun k x hk => ?_⟩
    have := (List.getElem?_eq_some_iff.1 hk).1
    rw [List.length_map, h0] at this; omega
  · refine ⟨_, cap, by rw [List.length_map], fun k x hk => ?_⟩
    obtain ⟨hk1, rfl⟩ := List.getElem?_eq_some_iff.1 hk
    have hk2 : k < ms.length := by simpa using hk1
    have hc := fun j (hj : j < 2) u (hu : [Value.int .i64 ((ms.map Wz.w)[k]'(by simpa using hk2)).t, .slice ((ms.map Wz.w)[k]'(by simpa using hk2)).a ((ms.map Wz.w)[k]'(by simpa using hk2)).n ((ms.map Wz.w)[k]'(by simpa using hk2)).c][j]? = some u) => ho.cells (g := g) rfl (k * 2 + j) u ((mcs_get (ms.map Wz.w) k j (by simpa using hk2) hj).trans hu)
    have e0 := hc 0 (by omega) _ rfl
    have e1 := hc 1 (by omega) _ rfl
    rw [Addr.add_lit] at e0 e1
    have hx : ms[k] ∈ ms := List.getElem_mem hk2
    have hz := hs _ (List.mem_map_of_mem (f := Wz.z) hx)
    have hown := hm _ hx
    have hln := own_len hown
    have hr := own_rb2 hown hz.1 (by have := hz.2; rw [← hln]; exact Nat.le_trans this (by omega))
    refine ⟨g, 0, (ms[k]).r.a, (ms[k]).r.n, (ms[k]).r.c, rfl, ?_, ?_, ?_⟩
    · simpa [Wz.w, Wz.z] using e0
    · simpa [Wz.w] using e1
    · simpa [Wz.z] using hr
theorem sm_due {now : Int} {zs : List Zl} (h : SmZ zs) : SmZ (dueZ now zs) := fun z hz => h z ((List.takeWhile_prefix (l := zs) (fun x => decide (x.d ≤ now))).mem hz)
theorem PW.sm {B W : Nat} {zs : List Zl} {ld dr : Int} {v : Value} {w : World} (h : PW B W zs ld dr v w) : SmZ zs := by
  obtain ⟨ms, _, _, h, _⟩ := h; exact h
/-- Due. -/
theorem dueP {w : World} {W B : Nat} {ld dr : Int} {v : Value} {zs : List Zl} (now : Int) (hq : PW B W zs ld dr v w) (hm : zs.length ≤ 10000) :
    Calls Try.prog 38 #[.pointer (some ⟨W, 0, none⟩), .int .i64 now] w fun e w' => ∃ vm v' xs, e = .returned vm ∧ xs.map Wz.z = dueZ now zs ∧ MailO w.heap.size B vm xs w' ∧ PW B W (zs.drop (dueZ now zs).length) ld dr v' w' ∧ Keep W v w w' ∧ v'.ownBlock = v.ownBlock := by
  obtain ⟨ms, h1, h2, h3, a, c, h4⟩ := hq
  subst h2
  subst h4
  rw [List.length_map] at hm
  refine (due_any now h1 hm).mono ?_
  rintro e w' ⟨vm, rfl, k1, k2, k3, k4⟩
  have hle : (dueZ now (ms.map Wz.z)).length ≤ ms.length := by
    have := List.IsPrefix.length_le (List.takeWhile_prefix (l := ms.map Wz.z) (fun x => decide (x.d ≤ now)))
    simpa [dueZ] using this
  have ht := takeDue_z now ms
  have hlen : (takeDue now (ms.map Wz.w)).length = (dueZ now (ms.map Wz.z)).length := by
    rw [ht, List.length_map, List.length_take, Nat.min_eq_left hle]
  rw [hlen] at k1 k2
  refine ⟨vm, _, ms.take (dueZ now (ms.map Wz.z)).length, rfl, by rw [List.map_take]; exact (dueZ_take _ _).symm, ⟨?_, fun x hx => ?_⟩, ⟨_, k2, by rw [List.map_drop], fun z hz => h3 z (List.mem_of_mem_drop hz), _, _, rfl⟩, k3, by cases a <;> rfl⟩
  · rw [List.length_take, Nat.min_eq_left hle, ← ht]; exact k1
  · exact k4.own _ (List.mem_map_of_mem (List.mem_of_mem_take hx))
end Go.Proofs.Ytfojhmobnedekaa
