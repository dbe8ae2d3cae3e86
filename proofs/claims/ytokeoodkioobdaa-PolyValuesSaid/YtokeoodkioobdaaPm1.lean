/- Plain: sums of bytes over ranges; values and coefficients of rows. Conditions: rows hold bytes. -/
import Derived.Test.YtokeoodkioobdaaPoly13
import Derived.Test.YtokeoodkioobdaaPr3
import Derived.Test.YtokeoodkioobdaaPolyM
namespace Go.Proofs.Ytokeoodkioobdaa

/-- A sum over a range. -/
def sm : Nat → (Nat → Nat) → Nat
  | 0, _ => 0
  | n + 1, f => sm n f ^^^ f n
theorem sm_congr {f g : Nat → Nat} : ∀ n, (∀ i, i < n → f i = g i) → sm n f = sm n g
  | 0, _ => rfl
  | n + 1, h => by
    show sm n f ^^^ f n = sm n g ^^^ g n
    rw [sm_congr n fun i hi => h i (by omega), h n (by omega)]
theorem sm_zero {f : Nat → Nat} : ∀ n, (∀ i, i < n → f i = 0) → sm n f = 0
  | 0, _ => rfl
  | n + 1, h => by
    show sm n f ^^^ f n = 0
    rw [sm_zero n fun i hi => h i (by omega), h n (by omega)]; rfl
theorem sm_xor (f g : Nat → Nat) : ∀ n, sm n (fun i => f i ^^^ g i) = sm n f ^^^ sm n g
  | 0 => by show 0 = 0 ^^^ 0; rw [Nat.xor_self]
  | n + 1 => by
    show sm n (fun i => f i ^^^ g i) ^^^ (f n ^^^ g n) = (sm n f ^^^ f n) ^^^ (sm n g ^^^ g n)
    rw [sm_xor f g n, Gf.xor4]
theorem sm_lt {f : Nat → Nat} : ∀ n, (∀ i, i < n → f i < 256) → sm n f < 256
  | 0, _ => by show 0 < 256; decide
  | n + 1, h => Gf.xor_lt (sm_lt n fun i hi => h i (by omega)) (h n (by omega))
theorem sm_mul_left (a : Nat) (f : Nat → Nat) : ∀ n, Gf.mul a (sm n f) = sm n (fun i => Gf.mul a (f i))
  | 0 => Gf.mul_zero a
  | n + 1 => by
    show Gf.mul a (sm n f ^^^ f n) = sm n _ ^^^ Gf.mul a (f n)
    rw [Gf.mul_xor_right, sm_mul_left a f n]
theorem sm_mul_right {f : Nat → Nat} (c : Nat) : ∀ n, (∀ i, i < n → f i < 256) → Gf.mul (sm n f) c = sm n (fun i => Gf.mul (f i) c)
  | 0, _ => Gf.zero_mul c
  | n + 1, h => by
    show Gf.mul (sm n f ^^^ f n) c = sm n _ ^^^ Gf.mul (f n) c
    rw [Gf.mul_xor_left (sm_lt n fun i hi => h i (by omega)) (h n (by omega)), sm_mul_right c n fun i hi => h i (by omega)]
theorem sm_more {f : Nat → Nat} {n : Nat} : ∀ m, (∀ i, n ≤ i → i < n + m → f i = 0) → sm (n + m) f = sm n f
  | 0, _ => rfl
  | m + 1, h => by
    show sm (n + m) f ^^^ f (n + m) = _
    rw [sm_more m fun i h1 h2 => h i h1 (by omega), h (n + m) (by omega) (by omega), Nat.xor_zero]
theorem sm_to {f : Nat → Nat} {n m : Nat} (hn : n ≤ m) (h : ∀ i, n ≤ i → i < m → f i = 0) : sm m f = sm n f := by
  obtain ⟨k, rfl⟩ : ∃ k, m = n + k := ⟨m - n, by omega⟩
  exact sm_more k h
theorem sm_left (f : Nat → Nat) : ∀ n, sm (n + 1) f = f 0 ^^^ sm n (fun i => f (i + 1))
  | 0 => by show 0 ^^^ f 0 = f 0 ^^^ 0; rw [Nat.xor_zero, Nat.zero_xor]
  | n + 1 => by
    show sm (n + 1) f ^^^ f (n + 1) = f 0 ^^^ (sm n (fun i => f (i + 1)) ^^^ f (n + 1))
    rw [sm_left f n, Nat.xor_assoc]
theorem sm_rev (f : Nat → Nat) : ∀ n, sm (n + 1) f = sm (n + 1) (fun i => f (n - i))
  | 0 => rfl
  | n + 1 => by
    rw [sm_left (fun i => f (n + 1 - i)) (n + 1)]
    show sm (n + 1) f ^^^ f (n + 1) = f (n + 1) ^^^ _
    rw [Nat.xor_comm, sm_rev f n]
    congr 1
    exact sm_congr _ fun i hi => by congr 1; omega
theorem sm_one {n k a : Nat} (h : k < n) : sm n (fun i => if i = k then a else 0) = a := by
  rw [sm_to (n := k + 1) (by omega) fun i h1 _ => if_neg (by omega)]
  show sm k _ ^^^ _ = a
  rw [sm_zero k fun i hi => if_neg (by omega), Nat.zero_xor]; exact if_pos rfl
theorem sm_swap (f : Nat → Nat → Nat) (m : Nat) : ∀ n, sm n (fun i => sm m (f i)) = sm m (fun j => sm n (fun i => f i j))
  | 0 => (sm_zero m fun _ _ => rfl).symm
  | n + 1 => by
    show sm n (fun i => sm m (f i)) ^^^ sm m (f n) = sm m (fun j => sm n (fun i => f i j) ^^^ f n j)
    rw [sm_xor, sm_swap f m n]

theorem Small.sm {l : List Nat} (h : Small l) : Gf.Sm l := fun _ hx => h.mem hx
theorem getD_far {l : List Nat} {j : Nat} (h : l.length ≤ j) : l.getD j 0 = 0 := by rw [List.getD_eq_getElem?_getD, List.getElem?_eq_none h]; rfl
theorem Small.cons2 {a : Nat} {l : List Nat} (h : Small (a :: l)) : a < 256 ∧ Small l := ⟨h 0, fun i => by simpa using h (i + 1)⟩

/-- A value is a sum of coefficients by powers. -/
theorem ev_sm {x : Nat} (hx : x < 256) : ∀ {l : List Nat}, Small l → Gf.ev l x = sm l.length (fun j => Gf.mul (l.getD j 0) (pw x j))
  | [], _ => rfl
  | a :: c, h => by
    obtain ⟨ha, hc⟩ := h.cons2
    show a ^^^ Gf.mul x (Gf.ev c x) = sm (c.length + 1) _
    rw [sm_left, ev_sm hx hc, sm_mul_left]
    congr 1
    · show a = Gf.mul a 1; rw [Gf.mul_one ha]
    · refine sm_congr _ fun i _ => ?_
      show Gf.mul x (Gf.mul (c.getD i 0) (pw x i)) = Gf.mul ((a :: c).getD (i + 1) 0) (Gf.mul (pw x i) x)
      rw [List.getD_cons_succ, ← Gf.mul_assoc hx (hc i) (pw_lt x i), Gf.mul_comm hx (hc i), Gf.mul_assoc (hc i) hx (pw_lt x i), Gf.mul_comm hx (pw_lt x i)]
theorem ev_far {x : Nat} (hx : x < 256) {l : List Nat} (h : Small l) {N : Nat} (hN : l.length ≤ N) : Gf.ev l x = sm N (fun j => Gf.mul (l.getD j 0) (pw x j)) := by
  rw [ev_sm hx h, sm_to hN fun i h1 _ => by rw [getD_far h1, Gf.zero_mul]]
theorem ev_same {x : Nat} (hx : x < 256) {l m : List Nat} (hl : Small l) (hm : Small m) (h : ∀ j, l.getD j 0 = m.getD j 0) : Gf.ev l x = Gf.ev m x := by
  rw [ev_far hx hl (Nat.le_max_left l.length m.length), ev_far hx hm (Nat.le_max_right l.length m.length)]
  exact sm_congr _ fun j _ => by rw [h j]
theorem sval_sm (zs : List Nat) (x : Nat) : ∀ k, sval zs x k = sm k (fun j => Gf.mul (zs.getD j 0) (pw x j))
  | 0 => rfl
  | k + 1 => by show sval zs x k ^^^ _ = sm k _ ^^^ _; rw [sval_sm zs x k]
theorem sval_ev {x : Nat} (hx : x < 256) {zs : List Nat} (h : Small zs) : sval zs x zs.length = Gf.ev zs x := by rw [sval_sm, ev_sm hx h]
theorem hval_ev {x : Nat} (hx : x < 256) {zs : List Nat} (h : Small zs) : ∀ k, k ≤ zs.length → hval zs x (dn zs.length k) = Gf.ev (zs.drop (zs.length - k)) x
  | 0, _ => by rw [Nat.sub_zero, List.drop_length]; rfl
  | k + 1, hk => by
    have hd : zs.drop (zs.length - (k + 1)) = zs.getD (zs.length - 1 - k) 0 :: zs.drop (zs.length - k) := by
      rw [List.drop_eq_getElem_cons (by omega), show zs.length - (k + 1) + 1 = zs.length - k by omega]
      congr 1
      simp [List.getD_eq_getElem?_getD, show zs.length - (k + 1) = zs.length - 1 - k by omega, show zs.length - 1 - k < zs.length by omega]
    have hs : Small (zs.drop (zs.length - k)) := Small.of_mem fun z hz => h.mem (List.mem_of_mem_drop hz)
    rw [dn_succ, hval_snoc, hval_ev hx h k (by omega), hd]
    show _ = zs.getD _ 0 ^^^ Gf.mul x _
    rw [Nat.xor_comm, Gf.mul_comm hx (Gf.ev_lt hs.sm hx), List.getD_eq_getElem?_getD]
theorem vl_ev {x : Nat} (hx : x < 256) {zs : List Nat} (h : Small zs) : vl zs x = Gf.ev zs x := by
  unfold vl; rw [hval_ev hx h _ (Nat.le_refl _), Nat.sub_self]; rfl

/-! Coefficients. -/
theorem ln_above (zs : List Nat) : ∀ k j, ln zs k ≤ j → j < k → zs.getD j 0 = 0
  | 0, _, _, h => absurd h (by omega)
  | k + 1, j, h1, h2 => by
    have e : ln zs (k + 1) = if zs[k]?.getD 0 = 0 then ln zs k else k + 1 := rfl
    rw [e] at h1
    split at h1
    · rename_i hz
      by_cases hj : j = k
      · subst hj; rw [List.getD_eq_getElem?_getD]; exact hz
      · exact ln_above zs k j h1 (by omega)
    · omega
theorem ln_last (zs : List Nat) : ∀ k, 0 < ln zs k → zs.getD (ln zs k - 1) 0 ≠ 0
  | 0, h => absurd h (by show ¬ 0 < 0; omega)
  | k + 1, h => by
    have e : ln zs (k + 1) = if zs[k]?.getD 0 = 0 then ln zs k else k + 1 := rfl
    rw [e] at h ⊢
    split
    · rename_i hz; rw [if_pos hz] at h; exact ln_last zs k h
    · rename_i hz; rw [Nat.add_sub_cancel, List.getD_eq_getElem?_getD]; exact hz
theorem lean_get (zs : List Nat) (j : Nat) : (lean zs).getD j 0 = zs.getD j 0 := by
  unfold lean
  by_cases h : j < ln zs zs.length
  · rw [List.getD_eq_getElem?_getD, List.getElem?_take_of_lt h, ← List.getD_eq_getElem?_getD]
  · rw [getD_far (by rw [List.length_take]; omega)]
    by_cases h2 : j < zs.length
    · exact (ln_above zs _ j (by omega) h2).symm
    · exact (getD_far (by omega)).symm
theorem lean_last {zs : List Nat} (h : 0 < (lean zs).length) : zs.getD ((lean zs).length - 1) 0 ≠ 0 := by
  rw [length_lean] at h ⊢; exact ln_last zs _ h
theorem lean_len {zs : List Nat} {n : Nat} (h : ∀ j, n ≤ j → zs.getD j 0 = 0) : (lean zs).length ≤ n := Nat.le_of_not_lt fun hlt =>
  lean_last (zs := zs) (by omega) (h _ (by omega))
theorem lean_ext {l m : List Nat} (h : ∀ j, l.getD j 0 = m.getD j 0) : lean l = lean m := by
  have h1 : (lean l).length ≤ (lean m).length := lean_len fun j hj => by rw [h j, ← lean_get, getD_far hj]
  have h2 : (lean m).length ≤ (lean l).length := lean_len fun j hj => by rw [← h j, ← lean_get, getD_far hj]
  exact ext_getD (by omega) fun j => by rw [lean_get, lean_get, h j]
theorem lean_lean (l : List Nat) : lean (lean l) = lean l := lean_ext (lean_get l)
theorem ev_lean {x : Nat} (hx : x < 256) {l : List Nat} (h : Small l) : Gf.ev (lean l) x = Gf.ev l x := ev_same hx (lean_small h) h (lean_get l)
theorem sumTo_get {x y : List Nat} {N : Nat} (h : x.length ≤ N) : ∀ k, k ≤ N → ∀ j, (sumTo x y N k).getD j 0 = x.getD j 0 ^^^ (if j < k then y.getD j 0 else 0)
  | 0, _, j => by rw [if_neg (by omega), Nat.xor_zero]; exact padd_get x N j
  | k + 1, hk, j => by
    show (List.set _ _ _).getD j 0 = _
    rw [getD_set _ _ _ _ (by rw [length_sumTo h]; omega), sumTo_get h k (by omega), sumTo_get h k (by omega)]
    by_cases e : k = j
    · subst e; rw [if_pos rfl, if_neg (by omega), if_pos (by omega), Nat.xor_zero]
    · rw [if_neg e]
      by_cases h2 : j < k
      · rw [if_pos h2, if_pos (by omega)]
      · rw [if_neg h2, if_neg (by omega)]
theorem sumTo_all {x y : List Nat} {N : Nat} (h : x.length ≤ N) (hy : y.length ≤ N) (j : Nat) : (sumTo x y N y.length).getD j 0 = x.getD j 0 ^^^ y.getD j 0 := by
  rw [sumTo_get h _ hy]
  split
  · rfl
  · rw [getD_far (l := y) (by omega)]
theorem ev_xor {z : Nat} (hz : z < 256) {s x y : List Nat} (hs : Small s) (hx : Small x) (hy : Small y) (h : ∀ j, s.getD j 0 = x.getD j 0 ^^^ y.getD j 0) : Gf.ev s z = Gf.ev x z ^^^ Gf.ev y z := by
  obtain ⟨N, hN⟩ : ∃ N, N = max s.length (max x.length y.length) := ⟨_, rfl⟩
  rw [ev_far hz hs (N := N) (by omega), ev_far hz hx (N := N) (by omega), ev_far hz hy (N := N) (by omega), ← sm_xor]
  exact sm_congr _ fun j _ => by rw [h j, Gf.mul_xor_left (hx j) (hy j)]

/-- A product's coefficient. -/
def cv (f g : Nat → Nat) (j : Nat) : Nat := sm (j + 1) (fun i => Gf.mul (f (j - i)) (g i))
abbrev cf (l : List Nat) (j : Nat) : Nat := l.getD j 0
theorem cv_comm {f g : Nat → Nat} (hf : ∀ i, f i < 256) (hg : ∀ i, g i < 256) (j : Nat) : cv f g j = cv g f j := by
  unfold cv
  rw [sm_rev]
  exact sm_congr _ fun i hi => by rw [show j - (j - i) = i by omega]; exact Gf.mul_comm (hf _) (hg _)
theorem convTo_get {u v : List Nat} : ∀ k, k ≤ v.length → ∀ j, (convTo u v k).getD j 0 = sm k (fun i => if i ≤ j then Gf.mul (u.getD (j - i) 0) (v.getD i 0) else 0)
  | 0, _, j => by
    show (List.replicate _ 0).getD j 0 = 0
    rw [List.getD_eq_getElem?_getD, List.getElem?_replicate]; split <;> rfl
  | k + 1, hk, j => by
    show (xadd (convTo u v k) k u (v.getD k 0) u.length).getD j 0 = sm k _ ^^^ (if k ≤ j then Gf.mul (u.getD (j - k) 0) (v.getD k 0) else 0)
    rw [xadd_get (by rw [length_convTo]; omega), convTo_get k (by omega)]
    by_cases h1 : k ≤ j
    · rw [if_pos h1]
      by_cases h2 : j < k + u.length
      · rw [if_pos ⟨h1, h2⟩]
      · rw [if_neg (by omega), getD_far (l := u) (by omega), Gf.zero_mul, Nat.xor_zero]
    · rw [if_neg (by omega), if_neg h1, Nat.xor_zero]
theorem conv_get (u v : List Nat) (j : Nat) : (conv u v).getD j 0 = cv (cf u) (cf v) j := by
  unfold conv
  rw [lean_get, convTo_get _ (Nat.le_refl _)]
  unfold cv
  obtain ⟨M, hM⟩ : ∃ M, M = max v.length (j + 1) := ⟨_, rfl⟩
  rw [← sm_to (n := v.length) (m := M) (by omega) fun i h1 _ => by
    split
    · rw [getD_far (l := v) h1, Gf.mul_zero]
    · rfl]
  rw [sm_to (n := j + 1) (m := M) (by omega) fun i h1 _ => if_neg (by omega)]
  exact sm_congr _ fun i hi => by rw [if_pos (by omega)]
end Go.Proofs.Ytokeoodkioobdaa
