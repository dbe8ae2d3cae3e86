/- Plain: sums of bytes over ranges; values and coefficients of rows. Conditions: rows hold bytes. -/
import Derived.Test.YtokeoodkioobdaaPoly13
import Derived.Test.YtokeoodkioobdaaPr3
import Derived.Test.YtokeoodkioobdaaPolyM
namespace Go.Proofs.Ytokeoodkioobdaa

/-- A sum over a range. -/
def sm : Nat → (Nat → Nat) → Nat
  | 0, _ => 0
  | n + 1, f => sm n f ^^^ f n
theorem sm_congr {f g : Nat → Nat} : ∀ n, (∀ i, i < n → f i = g i) → sm n f = sm n g
  | 0, _ => rfl
  | n + 1, h => by
    show sm n f ^^^ f n = sm n g ^^^ g n
    rw [sm_congr n fun i hi => h i (by omega), h n (by omega)]
theorem sm_zero {f : Nat → Nat} : ∀ n, (∀ i, i < n → f i = 0) → sm n f = 0
  | 0, _ => rfl
  | n + 1, h => by
    show sm n f ^^^ f n = 0
    rw [sm_zero n fun i hi => h i (by omega), h n (by omega)]; rfl
theorem sm_xor (f g : Nat → Nat) : ∀ n, sm n (fun i => f i ^^^ g i) = sm n f ^^^ sm n g
  | 0 => by show 0 = 0 ^^^ 0; rw [Nat.xor_self]
  | n + 1 => by
    show sm n (fun i => f i ^^^ g i) ^^^ (f n ^^^ g n) = (sm n f ^^^ f n) ^^^ (sm n g ^^^ g n)
    rw [sm_xor f g n, Gf.xor4]
theorem sm_lt {f : Nat → Nat} : ∀ n, (∀ i, i < n → f i < 256) → sm n f < 256
  | 0, _ => by show 0 < 256; decide
  | n + 1, h => Gf.xor_lt (sm_lt n fun i hi => h i (by omega)) (h n (by omega))
theorem sm_mul_left (a : Nat) (f : Nat → Nat) : ∀ n, Gf.mul a (sm n f) = sm n (fun i => Gf.mul a (f i))
  | 0 => Gf.mul_zero a
  | n + 1 => by
    show Gf.mul a (sm n f ^^^ f n) = sm n _ ^^^ Gf.mul a (f n)
    rw [Gf.mul_xor_right, sm_mul_left a f n]
theorem sm_mul_right {f : Nat → Nat} (c : Nat) : ∀ n, (∀ i, i < n → f i < 256) → Gf.mul (sm n f) c = sm n (fun i => Gf.mul (f i) c)
  | 0, _ => Gf.zero_mul c
  | n + 1, h => by
    show Gf.mul (sm n f ^^^ f n) c = sm n _ ^^^ Gf.mul (f n) c
    rw [Gf.mul_xor_left (sm_lt n fun i hi => h i (by omega)) (h n (by omega)), sm_mul_right c n fun i hi => h i (by omega)]
theorem sm_more {f : Nat → Nat} {n : Nat} : ∀ m, (∀ i, n ≤ i → i < n + m → f i = 0) → sm (n + m) f = sm n f
  | 0, _ => rfl
  | m + 1, h => by
    show sm (n + m) f ^^^ f (n + m) = _
    rw [sm_more m fun i h1 h2 => h i h1 (by omega), h (n + m) (by omega) (by omega), Nat.xor_zero]
theorem sm_to {f : Nat → Nat} {n m : Nat} (hn : n ≤ m) (h : ∀ i, n ≤ i → i < m → f i = 0) : sm m f = sm n f := by
  obtain ⟨k, rfl⟩ : ∃ k, m = n + k := ⟨m - n, by omega⟩
  exact sm_more k h
theorem sm_left (f : Nat → Nat) : ∀ n, sm (n + 1) f = f 0 ^^^ sm n (fun i => f (i + 1))
  | 0 => by show 0 ^^^ f 0 = f 0 ^^^ 0; rw [Nat.xor_zero, Nat.zero_xor]
  | n + 1 => by
    show sm (n + 1) f ^^^ f (n + 1) = f 0 ^^^ (sm n (fun i => f (i + 1)) ^^^ f (n + 1))
    rw [sm_left f n, Nat.xor_assoc]
theorem sm_rev (f : Nat → Nat) : ∀ n, sm (n + 1) f = sm (n + 1) (fun i => f (n - i))
  | 0 => rfl
  | n + 1 => by
    rw [sm_left (fun i => f (n + 1 - i)) (n + 1)]
    show sm (n + 1) f ^^^ f (n + 1) = f (n + 1) ^^^ _
    rw [Nat.xor_comm, sm_rev f n]
    congr 1
    exact sm_congr _ fun i hi => by congr 1; omega
theorem sm_one {n k a : Nat} (h : k < n) : sm n (fun i => if i = k then a else 0) = a := by
  rw [sm_to (n := k + 1) (by omega) fun i h1 _ => if_neg (by omega)]
  show sm k _ ^^^ _ = a
  rw [sm_zero k fun i hi => if_neg (by omega), Nat.zero_xor]; exact if_pos rfl
theorem sm_swap (f : Nat → Nat → Nat) (m : Nat) : ∀ n, sm n (fun i => sm m (f i)) = sm m (fun j => sm n (fun i => f i j))
  | 0 => (sm_zero m fun _ _ => rfl).symm
  | n + 1 => by
    show sm n (fun i => sm m (f i)) ^^^ sm m (f n) = sm m (fun j => sm n (fun i => f i j) ^^^ f n j)
    rw [sm_xor, sm_swap f m n]

theorem Small.sm {l : List Nat} (h : Small l) : Gf.Sm l := fun _ hx => h.mem hx
theorem getD_far {l : List Nat} {j : Nat} (h : l.length ≤ j) : l.getD j 0 = 0 := by rw [List.getD_eq_getElem?_getD, List.getElem?_eq_none h]; rfl
theorem Small.cons2 {a : Nat} {l : List Nat} (h : Small (a :: l)) : a < 256 ∧ Small l := ⟨h 0, fun i => by simpa using h (i + 1)⟩

/-- A value is a sum of coefficients by powers. -/
theorem ev_sm {x : Nat} (hx : x < 256) : ∀ {l : List Nat}, Small l → Gf.ev l x = sm l.length (fun j => Gf.mul (l.getD j 0) (pw x j))
  | [], _ => rfl
  | a :: c, h => by
    obtain ⟨ha, hc⟩ := h.cons2
    show a ^^^ Gf.mul x (Gf.ev c x) = sm (c.length + 1) _
    rw [sm_left, ev_sm hx hc, sm_mul_left]
    congr 1
    · show a = Gf.mul a 1; rw [Gf.mul_one ha]
    · refine sm_congr _ fun i _ => ?_
      show Gf.mul x (Gf.mul (c.getD i 0) (pw x i)) = Gf.mul ((a :: c).getD (i + 1) 0) (Gf.mul (pw x i) x)
      rw [List.getD_cons_succ, ← Gf.mul_assoc hx (hc i) (pw_lt x i), Gf.mul_comm hx (hc i), Gf.mul_assoc (hc i) hx (pw_lt x i), Gf.mul_comm hx (pw_lt x i)]
theorem ev_far {x : Nat} (hx : x < 256) {l : List Nat} (h : Small l) {N : Nat} (hN : l.length ≤ N) : Gf.ev l x = sm N (fun j => Gf.mul (l.getD j 0) (pw x j)) := by
  rw [ev_sm hx h, sm_to hN fun i h1 _ => by rw [getD_far h1, Gf.zero_mul]]
theorem ev_same {x : Nat} (hx : x < 256) {l m : List Nat} (hl : Small l) (hm : Small m) (h : ∀ j, l.getD j 0 = m.getD j 0) : Gf.ev l x = Gf.ev m x := by
  rw [ev_far hx hl (Nat.le_max_left l.length m.length), ev_far hx hm (Nat.le_max_right l.length m.length)]
  exact sm_congr _ fun j _ => by rw [h j]
theorem sval_sm (zs : List Nat) (x : Nat) : ∀ k, sval zs x k = sm k (fun j => Gf.mul (zs.getD j 0) (pw x j))
  | 0 => rfl
  | k + 1 => by show sval zs x k ^^^ _ = sm k _ ^^^ _; rw [sval_sm zs x k]
theorem sval_ev {x : Nat} (hx : x < 256) {zs : List Nat} (h : Small zs) : sval zs x zs.length = Gf.ev zs x := by rw [sval_sm, ev_sm hx h]
theorem hval_ev {x : Nat} (hx : x < 256) {zs : List Nat} (h : Small zs) : ∀ k, k ≤ zs.length → hval zs x (dn zs.length k) = Gf.ev (zs.drop (zs.length - k)) x
  | 0, _ => by rw [Nat.sub_zero, List.drop_length]; rfl
  | k + 1, hk => by
    have hd : zs.drop (zs.length - (k + 1)) = zs.getD (zs.length - 1 - k) 0 :: zs.drop (zs.length - k) := by
      rw [List.drop_eq_getElem_cons (by omega), show zs.length - (k + 1) + 1 = zs.length - k by omega]
      congr 1
      simp [List.getD_eq_getElem?_getD, show zs.length - (k + 1) = zs.length - 1 - k by omega, show zs.length - 1 - k < zs.length by omega]
    have hs : Small (zs.drop (zs.length - k)) := Small.of_mem fun z hz => h.mem (List.mem_of_mem_drop hz)
    rw [dn_succ, hval_snoc, hval_ev hx h k (by omega), hd]
    show _ = zs.getD _ 0 ^^^ Gf.mul x _
    rw [Nat.xor_comm, Gf.mul_comm hx (Gf.ev_lt hs.sm hx), List.getD_eq_getElem?_getD]
theorem vl_ev {x : Nat} (hx : x < 256) {zs : List Nat} (h : Small zs) : vl zs x = Gf.ev zs x := by
  unfold vl; rw [hval_ev hx h _ (Nat.le_refl _), Nat.sub_self]; rfl

/-! Coefficients. -/
theorem ln_above (zs : List Nat) : ∀ k j, ln zs k ≤ j → j < k → zs.getD j 0 = 0
  | 0, _, _, h => absurd h (by omega)
  | k + 1, j, h1, h2 => by
    have e : ln zs (k + 1) = if zs[k]?.getD 0 = 0 then ln zs k else k + 1 := rfl
    rw [e] at h1
    split at h1
    · rename_i hz
      by_cases hj : j = k
      · subst hj; rw [List.getD_eq_getElem?_getD]; exact hz
      · exact ln_above zs k j h1 (by omega)
    · omega
theorem ln_last (zs : List Nat) : ∀ k, 0 < ln zs k → zs.getD (ln zs k - 1) 0 ≠ 0
  | 0, h => absurd h (by show ¬ 0 < 0; omega)
  | k + 1, h => by
    have e : ln zs (k + 1) = if zs[k]?.getD 0 = 0 then ln zs k else k + 1 := rfl
    rw [e] at h ⊢
    split
    · rename_i hz; rw [if_pos hz] at h; exact ln_last zs k h
    · rename_i hz; rw [Nat.add_sub_cancel, List.getD_eq_getElem?_getD]; exact hz
theorem lean_get (zs : List Nat) (j : Nat) : (lean zs).getD j 0 = zs.getD j 0 := by
  unfold lean
  by_cases h : j < ln zs zs.length
  · rw [List.getD_eq_getElem?_getD, List.getElem?_take_of_lt h, ← List.getD_eq_getElem?_getD]
  · rw [getD_far (by rw [List.length_take]; omega)]
    by_cases h2 : j < zs.length
    · exact (ln_above zs _ j (by omega) h2).symm
    · exact (getD_far (by omega)).symm
theorem lean_last {zs : List Nat} (h : 0 < (lean zs).length) : zs.getD ((lean zs).length - 1) 0 ≠ 0 := by
  rw [length_lean] at h ⊢; exact ln_last zs _ h
theorem lean_len {zs : List Nat} {n : Nat} (h : ∀ j, n ≤ j → zs.getD j 0 = 0) : (lean zs).length ≤ n := Nat.le_of_not_lt fun hlt =>
  lean_last (zs := zs) (by omega) (h _ (by omega))
theorem lean_ext {l m : List Nat} (h : ∀ j, l.getD j 0 = m.getD j 0) : lean l = lean m := by
  have h1 : (lean l).length ≤ (lean m).length := lean_len fun j hj => by rw [h j, ← lean_get, getD_far hj]
  have h2 : (lean m).length ≤ (lean l).length := lean_len fun j hj => by rw [← h j, ← lean_get, getD_far hj]
  exact ext_getD (by omega) fun j => by rw [lean_get, lean_get, h j]
theorem lean_lean (l : List Nat) : lean (lean l) = lean l := lean_ext (lean_get l)
theorem ev_lean {x : Nat} (hx : x < 256) {l : List Nat} (h : Small l) : Gf.ev (lean l) x = Gf.ev l x := ev_same hx (lean_small h) h (lean_get l)
theorem sumTo_get {x y : List Nat} {N : Nat} (h : x.length ≤ N) : ∀ k, k ≤ N → ∀ j, (sumTo x y N k).getD j 0 = x.getD j 0 ^^^ (if j < k then y.getD j 0 else 0)
  | 0, _, j => by rw [if_neg (by omega), Nat.xor_zero]; exact padd_get x N j
  | k + 1, hk, j => by
    show (List.set _ _ _).getD j 0 = _
    rw [getD_set _ _ _ _ (by rw [length_sumTo h]; omega), sumTo_get h k (by omega), sumTo_get h k (by omega)]
    by_cases e : k = j
    · subst e; rw [if_pos rfl, if_neg (by omega), if_pos (by omega), Nat.xor_zero]
    · rw [if_neg e]
      by_cases h2 : j < k
      · rw [if_pos h2, if_pos (by omega)]
      · rw [if_neg h2, if_neg (by omega)]
theorem sumTo_all {x y : List Nat} {N : Nat} (h : x.length ≤ N) (hy : y.length ≤ N) (j : Nat) : (sumTo x y N y.length).getD j 0 = x.getD j 0 ^^^ y.getD j 0 := by
  rw [sumTo_get h _ hy]
  split
  · rfl
  · rw [getD_far (l := y) (by omega)]
theorem ev_xor {z : Nat} (hz : z < 256) {s x y : List Nat} (hs : Small s) (hx : Small x) (hy : Small y) (h : ∀ j, s.getD j 0 = x.getD j 0 ^^^ y.getD j 0) : Gf.ev s z = Gf.ev x z ^^^ Gf.ev y z := by
  obtain ⟨N, hN⟩ : ∃ N, N = max s.length (max x.length y.length) := ⟨_, rfl⟩
  rw [ev_far hz hs (N := N) (by omega), ev_far hz hx (N := N) (by omega), ev_far hz hy (N := N) (by omega), ← sm_xor]
  exact sm_congr _ fun j _ => by rw [h j, Gf.mul_xor_left (hx j) (hy j)]

/-- A product's coefficient. -/
def cv (f g : Nat → Nat) (j : Nat) : Nat := sm (j + 1) (fun i => Gf.mul (f (j - i)) (g i))
abbrev cf (l : List Nat) (j : Nat) : Nat := l.getD j 0
theorem cv_comm {f g : Nat → Nat} (hf : ∀ i, f i < 256) (hg : ∀ i, g i < 256) (j : Nat) : cv f g j = cv g f j := by
  unfold cv
  rw [sm_rev]
  exact sm_congr _ fun i hi => by rw [show j - (j - i) = i by omega]; exact Gf.mul_comm (hf _) (hg _)
theorem convTo_get {u v : List Nat} : ∀ k, k ≤ v.length → ∀ j, (convTo u v k).getD j 0 = sm k (fun i => if i ≤ j then Gf.mul (u.getD (j - i) 0) (v.getD i 0) else 0)
  | 0, _, j => by
    show (List.replicate _ 0).getD j 0 = 0
    rw [List.getD_eq_getElem?_getD, List.getElem?_replicate]; split <;> rfl
  | k + 1, hk, j => by
    show (xadd (convTo u v k) k u (v.getD k 0) u.length).getD j 0 = sm k _ ^^^ (if k ≤ j then Gf.mul (u.getD (j - k) 0) (v.getD k 0) else 0)
    rw [xadd_get (by rw [length_convTo]; omega), convTo_get k (by omega)]
    by_cases h1 : k ≤ j
    · rw [if_pos h1]
      by_cases h2 : j < k + u.length
      · rw [if_pos ⟨h1, h2⟩]
      · rw [if_neg (by omega), getD_far (l := u) (by omega), Gf.zero_mul, Nat.xor_zero]
    · rw [if_neg (by omega), if_neg h1, Nat.xor_zero]
theorem conv_get (u v : List Nat) (j : Nat) : (conv u v).getD j 0 = cv (cf u) (cf v) j := by
  unfold conv
  rw [lean_get, convTo_get _ (Nat.le_refl _)]
  unfold cv
  obtain ⟨M, hM⟩ : ∃ M, M = max v.length (j + 1) := ⟨_, rfl⟩
  rw [← sm_to (n := v.length) (m := M) (by omega) fun i h1 _ => by
    split
    · rw [getD_far (l := v) h1, Gf.mul_zero]
    · rfl]
  rw [sm_to (n := j + 1) (m := M) (by omega) fun i h1 _ => if_neg (by omega)]
  exact sm_congr _ fun i hi => by rw [if_pos (by omega)]
end Go.Proofs.Ytokeoodkioobdaa

/- Plain: values of products; degrees; one quotient, one rest; one polynomial through points. Conditions: rows hold bytes. -/
namespace Go.Proofs.Ytokeoodkioobdaa

theorem pw_add {x : Nat} (hx : x < 256) (a : Nat) : ∀ b, pw x (a + b) = Gf.mul (pw x a) (pw x b)
  | 0 => by show pw x a = Gf.mul (pw x a) 1; rw [Gf.mul_one (pw_lt x a)]
  | b + 1 => by
    show Gf.mul (pw x (a + b)) x = Gf.mul (pw x a) (Gf.mul (pw x b) x)
    rw [pw_add hx a b, Gf.mul_assoc (pw_lt x a) (pw_lt x b) hx]
theorem sm_shift {f : Nat → Nat} (k : Nat) : ∀ n, sm (k + n) (fun j => if k ≤ j then f (j - k) else 0) = sm n f
  | 0 => sm_zero _ fun i hi => if_neg (by omega)
  | n + 1 => by
    show sm (k + n) _ ^^^ (if k ≤ k + n then f (k + n - k) else 0) = sm n f ^^^ f n
    rw [sm_shift k n, if_pos (by omega), Nat.add_sub_cancel_left]
/-- The value of a product is the product of values. -/
theorem ev_cv {x : Nat} (hx : x < 256) {s u v : List Nat} (hs : Small s) (hu : Small u) (hv : Small v) (h : ∀ j, s.getD j 0 = cv (cf u) (cf v) j) : Gf.ev s x = Gf.mul (Gf.ev u x) (Gf.ev v x) := by
  obtain ⟨N, hN⟩ : ∃ N, N = max s.length (u.length + v.length) := ⟨_, rfl⟩
  have e1 : Gf.ev s x = sm N (fun j => sm v.length (fun i => Gf.mul (if i ≤ j then Gf.mul (u.getD (j - i) 0) (v.getD i 0) else 0) (pw x j))) := by
    rw [ev_far hx hs (N := N) (by omega)]
    refine sm_congr _ fun j _ => ?_
    rw [h j, ← conv_get, ← sm_mul_right (f := fun i => if i ≤ j then Gf.mul (u.getD (j - i) 0) (v.getD i 0) else 0) (pw x j) v.length (fun i _ => by
      show (if _ then _ else _) < 256
      split
      · exact Gf.mul_lt (hu _)
      · decide)]
    unfold conv
    rw [lean_get, convTo_get _ (Nat.le_refl _)]
  rw [e1, sm_swap (fun j i => Gf.mul (if i ≤ j then Gf.mul (u.getD (j - i) 0) (v.getD i 0) else 0) (pw x j)) v.length N, ev_sm hx hv, sm_mul_left]
  refine sm_congr _ fun i hi => ?_
  have hul := Gf.ev_lt hu.sm hx
  have e2 : sm N (fun j => Gf.mul (if i ≤ j then Gf.mul (u.getD (j - i) 0) (v.getD i 0) else 0) (pw x j)) = sm N (fun j => if i ≤ j then (fun k => Gf.mul (Gf.mul (u.getD k 0) (v.getD i 0)) (pw x (i + k))) (j - i) else 0) :=
    sm_congr _ fun j _ => by
      split
      · rename_i hij; show _ = Gf.mul _ (pw x (i + (j - i))); rw [show i + (j - i) = j by omega]
      · exact Gf.zero_mul _
  rw [e2]
  obtain ⟨n, hn⟩ : ∃ n, N = i + n := ⟨N - i, by omega⟩
  rw [hn, sm_shift (f := fun k => Gf.mul (Gf.mul (u.getD k 0) (v.getD i 0)) (pw x (i + k))), sm_to (n := u.length) (m := n) (by omega) fun k h1 _ => by rw [getD_far (l := u) h1, Gf.zero_mul, Gf.zero_mul], ev_sm hx hu, sm_mul_right _ _ fun k _ => Gf.mul_lt (hu k)]
  refine sm_congr _ fun k _ => ?_
  have p1 := pw_lt x i
  have p2 := pw_lt x k
  have q1 := hu k
  have q2 := hv i
  rw [pw_add hx]
  generalize u.getD k 0 = a at *
  generalize v.getD i 0 = b at *
  generalize pw x i = c at *
  generalize pw x k = d at *
  rw [Gf.mul_assoc q1 q2 (Gf.mul_lt p1), ← Gf.mul_assoc q2 p1 p2, Gf.mul_comm (Gf.mul_lt q2) p2, Gf.mul_assoc q1 p2 (Gf.mul_lt q2)]
theorem ev_conv {x : Nat} (hx : x < 256) {u v : List Nat} (hu : Small u) (hv : Small v) : Gf.ev (conv u v) x = Gf.mul (Gf.ev u x) (Gf.ev v x) := ev_cv hx (conv_small hu) hu hv (conv_get u v)

theorem cv_far {f g : Nat → Nat} {a b : Nat} (hf : ∀ j, a < j → f j = 0) (hg : ∀ j, b < j → g j = 0) (j : Nat) (hj : a + b < j) : cv f g j = 0 :=
  sm_zero _ fun i hi => by
    by_cases h : b < i
    · rw [hg i h, Gf.mul_zero]
    · rw [hf (j - i) (by omega), Gf.zero_mul]
theorem cv_xor {f f' g : Nat → Nat} (hf : ∀ i, f i < 256) (hf' : ∀ i, f' i < 256) (j : Nat) : cv (fun i => f i ^^^ f' i) g j = cv f g j ^^^ cv f' g j := by
  unfold cv; rw [← sm_xor]; exact sm_congr _ fun i _ => Gf.mul_xor_left (hf _) (hf' _) _
theorem cv_lt {f g : Nat → Nat} (hf : ∀ i, f i < 256) (j : Nat) : cv f g j < 256 := sm_lt _ fun _ _ => Gf.mul_lt (hf _)
theorem cv_top {f g : Nat → Nat} {a b : Nat} (hf : ∀ j, a < j → f j = 0) (hg : ∀ j, b < j → g j = 0) : cv f g (a + b) = Gf.mul (f a) (g b) := by
  unfold cv
  rw [sm_congr (g := fun i => if i = b then Gf.mul (f a) (g b) else 0) _ fun i hi => by
    by_cases h : i = b
    · subst h; rw [if_pos rfl, Nat.add_sub_cancel]
    · rw [if_neg h]
      by_cases h2 : b < i
      · rw [hg i h2, Gf.mul_zero]
      · rw [hf (a + b - i) (by omega), Gf.zero_mul]]
  exact sm_one (by omega)
theorem conv_one {v : List Nat} (hv : Small v) : conv [1] v = lean v := by
  rw [← lean_lean v]
  refine (show conv [1] v = lean (conv [1] v) from (lean_lean _).symm).trans (lean_ext fun j => ?_)
  rw [conv_get, lean_get, cv_comm one_small hv]
  unfold cv
  rw [sm_congr (g := fun i => if i = 0 then v.getD j 0 else 0) _ fun i _ => by
    cases i with
    | zero => rw [if_pos rfl]; show Gf.mul (v.getD j 0) 1 = _; exact Gf.mul_one (hv j)
    | succ i => rw [if_neg (by omega)]; show Gf.mul _ (([1] : List Nat).getD (i + 1) 0) = 0; rw [getD_far (by simp), Gf.mul_zero]]
  exact sm_one (by omega)
theorem cv_congr {f f' g g' : Nat → Nat} (hf : ∀ i, f i = f' i) (hg : ∀ i, g i = g' i) (j : Nat) : cv f g j = cv f' g' j := sm_congr _ fun i _ => by rw [hf, hg]
theorem conv_lean (l m : List Nat) : lean (conv l m) = conv l m := lean_lean _
theorem conv_ext {u v u' v' : List Nat} (hu : ∀ j, u.getD j 0 = u'.getD j 0) (hv : ∀ j, v.getD j 0 = v'.getD j 0) : conv u v = conv u' v' := by
  rw [← conv_lean u v, ← conv_lean u' v']
  exact lean_ext fun j => by rw [conv_get, conv_get]; exact cv_congr hu hv j
theorem conv_comm {u v : List Nat} (hu : Small u) (hv : Small v) : conv u v = conv v u := by
  rw [← conv_lean u v, ← conv_lean v u]
  exact lean_ext fun j => by rw [conv_get, conv_get]; exact cv_comm hu hv j
theorem mul2_conv {x y : List Nat} (hx : Small x) : mul2 x y 2 = conv x y := by
  show conv (conv [1] x) y = _
  rw [conv_one hx]
  exact conv_ext (lean_get x) fun _ => rfl
/-- The program's product and the reference's are one. -/
theorem mul_ref {x y : List Nat} (hx : Small x) (hy : Small y) : mul2 (lean x) (lean y) 2 = conv (lean y) (lean x) := by
  rw [mul2_conv (lean_small hx), conv_comm (lean_small hx) (lean_small hy)]
theorem ev_one {x : Nat} : Gf.ev [1] x = 1 := by show 1 ^^^ Gf.mul x 0 = 1; rw [Gf.mul_zero]; rfl

/-- x is q by b, and r. -/
def DivOf (x b q r : List Nat) : Prop := ∀ j, x.getD j 0 = cv (cf q) (cf b) j ^^^ r.getD j 0
theorem xor_eq_zero {a b : Nat} (h : a ^^^ b = 0) : a = b := Classical.byContradiction fun hne => Gf.xor_ne hne h
theorem cv_none {e g : Nat → Nat} {b : Nat} (he : ∀ i, e i < 256) (hg : ∀ i, g i < 256) (hgf : ∀ j, b < j → g j = 0) (hb : g b ≠ 0) (h0 : ∀ j, b ≤ j → cv e g j = 0) : ∀ n, (∀ j, n ≤ j → e j = 0) → ∀ j, e j = 0
  | 0, h => fun j => h j (by omega)
  | n + 1, h => cv_none he hg hgf hb h0 n fun j hj => by
    by_cases hjn : j = n
    · subst hjn
      have := h0 (j + b) (by omega)
      rw [cv_top (fun i hi => h i (by omega)) hgf] at this
      rcases Gf.mul_eq_zero (he j) (hg b) this with h | h
      · exact h
      · exact absurd h hb
    · exact h j (by omega)
/-- There is one quotient, and one rest. -/
theorem div_only {x b q r q' r' : List Nat} {top : Nat} (hb : Small b) (hq : Small q) (hq' : Small q') (hbt : b.getD top 0 ≠ 0) (hbf : ∀ j, top < j → b.getD j 0 = 0) (hr : ∀ j, top ≤ j → r.getD j 0 = 0) (hr' : ∀ j, top ≤ j → r'.getD j 0 = 0)
    (h : DivOf x b q r) (h' : DivOf x b q' r') : (∀ j, q.getD j 0 = q'.getD j 0) ∧ ∀ j, r.getD j 0 = r'.getD j 0 := by
  have e : ∀ j, q.getD j 0 ^^^ q'.getD j 0 = 0 := cv_none (e := fun j => q.getD j 0 ^^^ q'.getD j 0) (g := cf b) (b := top) (fun i => Gf.xor_lt (hq i) (hq' i)) hb hbf hbt (fun j hj => by
    rw [cv_xor hq hq']
    have e1 := h j
    have e2 := h' j
    rw [hr j hj, Nat.xor_zero] at e1
    rw [hr' j hj, Nat.xor_zero] at e2
    rw [← e1, ← e2, Nat.xor_self]) (max q.length q'.length) (fun j hj => by rw [getD_far (l := q) (by omega), getD_far (l := q') (by omega)]; rfl)
  have hqq : ∀ j, q.getD j 0 = q'.getD j 0 := fun j => xor_eq_zero (e j)
  refine ⟨hqq, fun j => ?_⟩
  have e1 := h j
  have e2 := h' j
  rw [cv_congr (f := cf q) (f' := cf q') hqq (fun _ => rfl)] at e1
  rw [e1] at e2
  have := congrArg (cv (cf q') (cf b) j ^^^ ·) e2
  simpa [← Nat.xor_assoc] using this

/-! A polynomial through points. -/
/-- Its quotient by a point's distance. -/
def sd (r : Nat) : List Nat → List Nat
  | [] => []
  | _ :: c => Gf.ev c r :: sd r c
theorem sd_len (r : Nat) : ∀ c, (sd r c).length = c.length
  | [] => rfl
  | _ :: c => by show _ + 1 = _ + 1; rw [sd_len r c]
theorem sd_small {r : Nat} (hr : r < 256) : ∀ {c : List Nat}, Small c → Small (sd r c)
  | [], _ => Small.nil
  | _ :: c, h => fun i => by
    cases i with
    | zero => exact Gf.ev_lt h.cons2.2.sm hr
    | succ i => exact sd_small hr h.cons2.2 i
theorem sd_ev {r x : Nat} (hr : r < 256) (hx : x < 256) : ∀ {c : List Nat}, Small c → Gf.ev c x = Gf.mul (x ^^^ r) (Gf.ev (sd r c) x) ^^^ Gf.ev c r
  | [], _ => by show 0 = Gf.mul _ 0 ^^^ 0; rw [Gf.mul_zero]; rfl
  | a :: c, h => by
    have hs := h.cons2.2
    have hv := Gf.ev_lt hs.sm hr
    have he := Gf.ev_lt (sd_small hr hs).sm hx
    have hd := sd_ev hr hx hs
    have hxr := Gf.xor_lt hx hr
    show a ^^^ Gf.mul x (Gf.ev c x) = Gf.mul (x ^^^ r) (Gf.ev c r ^^^ Gf.mul x (Gf.ev (sd r c) x)) ^^^ (a ^^^ Gf.mul r (Gf.ev c r))
    rw [hd]
    generalize Gf.ev c r = v at *
    generalize Gf.ev (sd r c) x = e at *
    rw [Gf.mul_xor_right, Gf.mul_xor_right, Gf.mul_xor_left hx hr v, ← Gf.mul_assoc hx hxr he, ← Gf.mul_assoc hxr hx he, Gf.mul_comm hx hxr]
    generalize Gf.mul (Gf.mul (x ^^^ r) x) e = p
    generalize Gf.mul x v = q
    generalize Gf.mul r v = s
    rw [Nat.xor_comm q s, Nat.xor_assoc s q p, Nat.xor_comm s, Nat.xor_assoc (q ^^^ p), Nat.xor_comm a s, ← Nat.xor_assoc s s a, Nat.xor_self, Nat.zero_xor, ← Nat.xor_assoc, Nat.xor_comm a p, Nat.xor_assoc, Nat.xor_comm a q, ← Nat.xor_assoc, Nat.xor_comm p q]
theorem sd_none {r : Nat} (hr : r < 256) : ∀ {c : List Nat}, Small c → (∀ j, (sd r c).getD j 0 = 0) → Gf.ev c r = 0 → ∀ j, c.getD j 0 = 0
  | [], _, _, _ => fun j => getD_far (Nat.zero_le _)
  | a :: c, h, h1, h2 => by
    have e0 : Gf.ev c r = 0 := h1 0
    have ih := sd_none hr h.cons2.2 (fun j => h1 (j + 1)) e0
    have h2 : a ^^^ Gf.mul r (Gf.ev c r) = 0 := h2
    rw [e0, Gf.mul_zero, Nat.xor_zero] at h2
    intro j
    cases j with
    | zero => exact h2
    | succ j => exact ih j
theorem ev_none {x : Nat} {c : List Nat} (hx : x < 256) (hs : Small c) (h : ∀ j, c.getD j 0 = 0) : Gf.ev c x = 0 := by
  rw [ev_sm hx hs]; exact sm_zero _ fun j _ => by rw [h j, Gf.zero_mul]
theorem ev_drop {c : List Nat} (hs : Small c) {n : Nat} (h : ∀ j, n ≤ j → c.getD j 0 = 0) : ∃ d : List Nat, d.length ≤ n ∧ Small d ∧ (∀ j, d.getD j 0 = c.getD j 0) :=
  ⟨c.take n, by rw [List.length_take]; omega, hs.take n, fun j => by
    by_cases hj : j < n
    · rw [List.getD_eq_getElem?_getD, List.getElem?_take_of_lt hj, ← List.getD_eq_getElem?_getD]
    · rw [h j (by omega), getD_far (by rw [List.length_take]; omega)]⟩
/-- What has fewer coefficients than places where it is 0 has none. -/
theorem none_of_roots : ∀ (l : List Nat) {c : List Nat}, Small c → c.length ≤ l.length → l.Nodup → (∀ x ∈ l, x < 256) → (∀ x ∈ l, Gf.ev c x = 0) → ∀ j, c.getD j 0 = 0
  | [], c, _, hl, _, _, _ => fun j => getD_far (by simp at hl; simp [hl])
  | r :: l, c, hs, hl, hn, hb, h0 => by
    have hr := hb r (List.mem_cons_self ..)
    have hn' := List.nodup_cons.1 hn
    have hr0 := h0 r (List.mem_cons_self ..)
    have hds := sd_small hr hs
    -- the quotient has one coefficient fewer
    have hlast : ∀ (c : List Nat) j, c.length - 1 ≤ j → (sd r c).getD j 0 = 0 := by
      intro c
      induction c with
      | nil => intro j _; exact getD_far (Nat.zero_le _)
      | cons a c ih =>
        intro j hj
        cases j with
        | zero =>
          have : c = [] := List.eq_nil_of_length_eq_zero (by rw [List.length_cons] at hj; omega)
          subst this; rfl
        | succ j =>
          show (sd r c).getD j 0 = 0
          exact ih j (by rw [List.length_cons] at hj; omega)
    obtain ⟨d, d1, d2, d3⟩ := ev_drop (n := c.length - 1) hds (hlast c)
    have hl' : c.length ≤ l.length + 1 := hl
    have hdl : d.length ≤ l.length := by omega
    have hd0 := none_of_roots l d2 hdl hn'.2 (fun x hx => hb x (List.mem_cons_of_mem _ hx)) fun x hx => by
      have hx2 := hb x (List.mem_cons_of_mem _ hx)
      have e := sd_ev hr hx2 hs
      rw [h0 x (List.mem_cons_of_mem _ hx), hr0, Nat.xor_zero, ← ev_same hx2 d2 hds d3] at e
      rcases Gf.mul_eq_zero (Gf.xor_lt hx2 hr) (Gf.ev_lt d2.sm hx2) e.symm with h | h
      · exact absurd h (Gf.xor_ne fun e => hn'.1 (e ▸ hx))
      · exact h
    exact sd_none hr hs (fun j => by rw [← d3 j]; exact hd0 j) hr0
/-- There is one polynomial through points. -/
theorem through_only {l c d : List Nat} (hc : Small c) (hd : Small d) (h1 : ∀ j, l.length ≤ j → c.getD j 0 = 0) (h2 : ∀ j, l.length ≤ j → d.getD j 0 = 0) (hn : l.Nodup) (hb : ∀ x ∈ l, x < 256) (h : ∀ x ∈ l, Gf.ev c x = Gf.ev d x) : ∀ j, c.getD j 0 = d.getD j 0 := by
  have hs := sumTo_small hc hd (N := max c.length d.length) (by omega) d.length (by omega)
  have hg := sumTo_all (x := c) (y := d) (N := max c.length d.length) (by omega) (by omega)
  obtain ⟨e, e1, e2, e3⟩ := ev_drop hs (n := l.length) fun j hj => by rw [hg, h1 j hj, h2 j hj]; rfl
  have := none_of_roots l e2 e1 hn hb fun x hx => by
    have hx2 := hb x hx
    rw [ev_xor hx2 e2 hc hd fun j => by rw [e3, hg], h x hx, Nat.xor_self]
  intro j
  have := this j
  rw [e3, hg] at this
  exact xor_eq_zero this
end Go.Proofs.Ytokeoodkioobdaa

/- Plain: the program's interpolation and division do what they should. Conditions: rows hold bytes. -/
namespace Go.Proofs.Ytokeoodkioobdaa

theorem ev_single (b z : Nat) : Gf.ev [b] z = b := by show b ^^^ Gf.mul z 0 = b; rw [Gf.mul_zero, Nat.xor_zero]
theorem ev_two {z : Nat} (hz : z < 256) (x : Nat) : Gf.ev [x, 1] z = x ^^^ z := by
  show x ^^^ Gf.mul z (1 ^^^ Gf.mul z 0) = _
  rw [Gf.mul_zero, Nat.xor_zero, Gf.mul_one hz]
theorem small1 {b : Nat} (h : b < 256) : Small [b] := Small.of_mem (by simp; exact h)
theorem small2 {b c : Nat} (h : b < 256) (h2 : c < 256) : Small [b, c] := Small.of_mem (by simp; exact ⟨h, h2⟩)
theorem thrBy_lt {s : List Nat × List Nat} {x y : Nat} (h1 : Small s.1) (hy : y < 256) : thrBy s x y < 256 := Gf.mul_lt (Gf.xor_lt hy (vl_lt h1 x))

structure ThrOk (l ys : List Nat) (k : Nat) (s : List Nat × List Nat) : Prop where
  o : Small s.1
  a : Small s.2
  of : ∀ j, k ≤ j → s.1.getD j 0 = 0
  af : ∀ j, k < j → s.2.getD j 0 = 0
  at_ : ∀ i, i < k → Gf.ev s.1 (l.getD i 0) = ys.getD i 0
  zero : ∀ i, i < k → Gf.ev s.2 (l.getD i 0) = 0
  ne : ∀ z, z < 256 → (∀ i, i < k → l.getD i 0 ≠ z) → Gf.ev s.2 z ≠ 0
theorem nodup_getD {l : List Nat} (hn : l.Nodup) {i j : Nat} (hi : i < j) (hj : j < l.length) : l.getD i 0 ≠ l.getD j 0 := fun e => by
  have h := (List.nodup_iff_pairwise_ne.1 hn)
  have := List.pairwise_iff_getElem.1 h i j (by omega) hj hi
  apply this
  simpa [List.getD_eq_getElem?_getD, show i < l.length by omega, hj] using e
theorem thr_ok {l ys : List Nat} (hl : Small l) (hy : Small ys) (hn : l.Nodup) : ∀ k, k ≤ l.length → ThrOk l ys k (thr l ys k)
  | 0, _ => ⟨Small.nil, one_small, fun j _ => getD_far (Nat.zero_le _), fun j hj => getD_far (by show 1 ≤ j; omega), fun i h => absurd h (by omega), fun i h => absurd h (by omega), fun z _ _ => by show Gf.ev [1] z ≠ 0; rw [ev_one]; decide⟩
  | k + 1, hk => by
    have ih := thr_ok hl hy hn k (by omega)
    have hs := thr_small (xs := l) hy (k + 1)
    have hx := hl k
    have hyk := hy k
    have e1 : (thr l ys (k + 1)).1 = thrOut (thr l ys k) (l.getD k 0) (ys.getD k 0) := rfl
    have e2 : (thr l ys (k + 1)).2 = conv (thr l ys k).2 [l.getD k 0, 1] := by show mul2 _ _ 2 = _; exact mul2_conv ih.a
    have hnek : ∀ i, i < k → l.getD i 0 ≠ l.getD k 0 := fun i hi => nodup_getD hn hi (by omega)
    have hbl := thrBy_lt (s := thr l ys k) (x := l.getD k 0) ih.o hyk
    have hne := ih.ne (l.getD k 0) hx hnek
    have hby : thrBy (thr l ys k) (l.getD k 0) (ys.getD k 0) = Gf.mul (ys.getD k 0 ^^^ Gf.ev (thr l ys k).1 (l.getD k 0)) (Gf.inv (Gf.ev (thr l ys k).2 (l.getD k 0))) := by
      unfold thrBy; rw [vl_ev hx ih.o, vl_ev hx ih.a]
    generalize thr l ys (k + 1) = s' at *
    have hm : mul2 (thr l ys k).2 [thrBy (thr l ys k) (l.getD k 0) (ys.getD k 0)] 2 = conv (thr l ys k).2 [thrBy (thr l ys k) (l.getD k 0) (ys.getD k 0)] := mul2_conv ih.a
    have hco : ∀ j, s'.1.getD j 0 = (thr l ys k).1.getD j 0 ^^^ (conv (thr l ys k).2 [thrBy (thr l ys k) (l.getD k 0) (ys.getD k 0)]).getD j 0 := fun j => by
      rw [e1]; unfold thrOut
      rw [lean_get, sumTo_all (by omega) (by omega), hm]
    have hev : ∀ z, z < 256 → Gf.ev s'.1 z = Gf.ev (thr l ys k).1 z ^^^ Gf.mul (Gf.ev (thr l ys k).2 z) (thrBy (thr l ys k) (l.getD k 0) (ys.getD k 0)) := fun z hz => by
      rw [ev_xor hz hs.1 ih.o (conv_small ih.a) hco, ev_conv hz ih.a (small1 hbl), ev_single]
    have hev2 : ∀ z, z < 256 → Gf.ev s'.2 z = Gf.mul (Gf.ev (thr l ys k).2 z) (l.getD k 0 ^^^ z) := fun z hz => by
      rw [e2, ev_conv hz ih.a (small2 hx (by omega)), ev_two hz]
    generalize thrBy (thr l ys k) (l.getD k 0) (ys.getD k 0) = b at *
    generalize thr l ys k = s at *
    refine ⟨hs.1, hs.2, fun j hj => ?_, fun j hj => ?_, fun i hi => ?_, fun i hi => ?_, fun z hz h => ?_⟩
    · rw [hco, ih.of j (by omega), conv_get, cv_far (a := k) (b := 0) ih.af (fun j hj => getD_far (by simp; exact hj)) j (by omega)]; rfl
    · rw [e2, conv_get]
      exact cv_far (a := k) (b := 1) ih.af (fun j hj => getD_far (by simp; omega)) j (by omega)
    · rw [hev _ (hl i)]
      by_cases h : i = k
      · subst h
        have hel := Gf.ev_lt ih.a.sm hx
        have hol := Gf.ev_lt ih.o.sm hx
        rw [hby, Gf.mul_comm hel (Gf.mul_lt (Gf.xor_lt hyk hol)), Gf.mul_div_cancel (Gf.xor_lt hyk hol) hel hne, Nat.xor_comm (ys.getD i 0), ← Nat.xor_assoc, Nat.xor_self, Nat.zero_xor]
      · rw [ih.zero i (by omega), Gf.zero_mul, Nat.xor_zero, ih.at_ i (by omega)]
    · rw [hev2 _ (hl i)]
      by_cases h : i = k
      · subst h; rw [Nat.xor_self, Gf.mul_zero]
      · rw [ih.zero i (by omega), Gf.zero_mul]
    · rw [hev2 z hz]
      refine Gf.mul_ne (Gf.ev_lt ih.a.sm hz) (Gf.xor_lt hx hz) (ih.ne z hz fun i hi => h i (by omega)) (Gf.xor_ne (h k (by omega)))

/-- A product with one term. -/
theorem cv_term {g : Nat → Nat} (p c : Nat) (j : Nat) : cv (fun i => if i = p then c else 0) g j = if p ≤ j then Gf.mul c (g (j - p)) else 0 := by
  unfold cv
  by_cases h : p ≤ j
  · rw [if_pos h, sm_congr (g := fun i => if i = j - p then Gf.mul c (g (j - p)) else 0) _ fun i hi => by
      show Gf.mul (if j - i = p then c else 0) (g i) = if i = j - p then Gf.mul c (g (j - p)) else 0
      by_cases e : i = j - p
      · subst e; rw [if_pos (by omega), if_pos rfl]
      · rw [if_neg (by omega), if_neg e, Gf.zero_mul]]
    exact sm_one (by omega)
  · rw [if_neg h]
    exact sm_zero _ fun i hi => by
      show Gf.mul (if j - i = p then c else 0) (g i) = 0
      rw [if_neg (by omega), Gf.zero_mul]
/-- One term more of a quotient. -/
theorem cv_more {q q' : Nat → Nat} {g : Nat → Nat} {p c : Nat} (hq : ∀ i, q i < 256) (hc : c < 256) (h : ∀ i, q' i = q i ^^^ (if i = p then c else 0)) (j : Nat) : cv q' g j = cv q g j ^^^ (if p ≤ j then Gf.mul c (g (j - p)) else 0) := by
  rw [cv_congr (g' := g) h (fun _ => rfl), cv_xor hq (fun i => by split <;> omega), cv_term]
theorem cancel {r b : Nat} (hr : r < 256) (hb : b < 256) (h0 : b ≠ 0) : r ^^^ Gf.mul (Gf.mul r (Gf.inv b)) b = 0 := by rw [Gf.mul_div_cancel hr hb h0, Nat.xor_self]

structure DvOk (x y : List Nat) (top N k : Nat) (s : List Nat × List Nat) : Prop where
  q : Small s.1
  r : Small s.2
  ql : s.1.length = N
  rl : s.2.length = x.length
  low : ∀ j, j < N - k → s.1.getD j 0 = 0
  div : ∀ j, x.getD j 0 = cv (cf s.1) (cf y) j ^^^ s.2.getD j 0
  far : ∀ j, N - k + top ≤ j → s.2.getD j 0 = 0
theorem dv_ok {x y : List Nat} {top N : Nat} (hx : Small x) (hy : Small y) (hN : N = x.length - top) (ht : y.getD top 0 ≠ 0) (hf : ∀ j, top < j → y.getD j 0 = 0) : ∀ k, k ≤ N → DvOk x y top N k (dvTo x y top (Gf.inv (y.getD top 0)) N (dn N k))
  | 0, _ => by
    refine ⟨Small.of_mem fun z hz => by rw [List.eq_of_mem_replicate hz]; omega, hx, by simp [dvTo, dn], rfl, fun j _ => ?_, fun j => ?_, fun j hj => getD_far (by show x.length ≤ j; omega)⟩
    · show (List.replicate N 0).getD j 0 = 0
      rw [List.getD_eq_getElem?_getD, List.getElem?_replicate]; split <;> rfl
    · show _ = cv (cf (List.replicate N 0)) _ j ^^^ x.getD j 0
      rw [show cv (cf (List.replicate N 0)) (cf y) j = 0 from sm_zero _ fun i _ => by
        show Gf.mul ((List.replicate N 0).getD (j - i) 0) _ = 0
        rw [List.getD_eq_getElem?_getD, List.getElem?_replicate]
        split <;> exact Gf.zero_mul _, Nat.zero_xor]
  | k + 1, hk => by
    have ih := dv_ok hx hy hN ht hf k (by omega)
    rw [dn_succ, dvTo_snoc]
    generalize dvTo x y top (Gf.inv (y.getD top 0)) N (dn N k) = s at *
    obtain ⟨Q, R⟩ := s
    obtain ⟨p, hp⟩ : ∃ p, p = N - 1 - k := ⟨_, rfl⟩
    rw [← hp]
    have h1 := ih.q
    have h2 := ih.r
    have h3 := ih.ql
    have h4 := ih.rl
    have h5 := ih.low
    have h6 := ih.div
    have h7 := ih.far
    dsimp only at h1 h2 h3 h4 h5 h6 h7
    have hc : Gf.mul (R.getD (p + top) 0) (Gf.inv (y.getD top 0)) < 256 := Gf.mul_lt (h2 _)
    have hcc := cancel (h2 (p + top)) (hy top) ht
    obtain ⟨c, hce⟩ : ∃ c, c = Gf.mul (R.getD (p + top) 0) (Gf.inv (y.getD top 0)) := ⟨_, rfl⟩
    have hst : dvStep y top (Gf.inv (y.getD top 0)) (Q, R) p = (Q.set p c, xadd R p (y.take (top + 1)) c (top + 1)) := by simp only [dvStep]; rw [← hce]
    rw [← hce] at hc hcc
    rw [hst]
    have hQ : ∀ i, (Q.set p c).getD i 0 = Q.getD i 0 ^^^ (if i = p then c else 0) := fun i => by
      rw [getD_set _ _ _ _ (by omega)]
      by_cases e : p = i
      · subst e; rw [if_pos rfl, if_pos rfl, h5 p (by omega), Nat.zero_xor]
      · rw [if_neg e, if_neg (fun h => e h.symm), Nat.xor_zero]
    have hR : ∀ j, (xadd R p (y.take (top + 1)) c (top + 1)).getD j 0 = R.getD j 0 ^^^ (if p ≤ j then Gf.mul c (y.getD (j - p) 0) else 0) := fun j => by
      rw [xadd_get (by omega)]
      by_cases hpj : p ≤ j
      · rw [if_pos hpj]
        by_cases h8 : j < p + (top + 1)
        · rw [if_pos ⟨hpj, h8⟩, List.getD_eq_getElem?_getD (l := y.take _), List.getElem?_take_of_lt (by omega), ← List.getD_eq_getElem?_getD, Gf.mul_comm (hy _) hc]
        · rw [if_neg (by omega), hf (j - p) (by omega), Gf.mul_zero, Nat.xor_zero]
      · rw [if_neg (by omega), if_neg hpj, Nat.xor_zero]
    have hsQ : Small (Q.set p c) := fun i => by rw [hQ]; exact Gf.xor_lt (h1 i) (by split <;> omega)
    refine ⟨hsQ, xadd_small h2 (hy.take _) (by omega), by show (Q.set p c).length = N; rw [List.length_set, h3], by show (xadd R p (y.take (top + 1)) c (top + 1)).length = _; rw [length_xadd, h4], fun j hj => ?_, fun j => ?_, fun j hj => ?_⟩
    · show (Q.set p c).getD j 0 = 0
      rw [hQ, h5 j (by omega), if_neg (by omega)]; rfl
    · show _ = cv (cf (Q.set p c)) (cf y) j ^^^ (xadd R p (y.take (top + 1)) c (top + 1)).getD j 0
      rw [hR, cv_more h1 hc hQ, h6 j, Gf.xor4, Nat.xor_self, Nat.xor_zero]
    · show (xadd R p (y.take (top + 1)) c (top + 1)).getD j 0 = 0
      rw [hR, if_pos (by omega)]
      by_cases e : j = p + top
      · subst e
        rw [Nat.add_sub_cancel_left]; exact hcc
      · rw [h7 j (by omega), hf (j - p) (by omega), Gf.mul_zero]; rfl
/-- The program's quotient and rest are such. -/
theorem dvAll_ok {x y : List Nat} (hx : Small x) (hy : Small y) (h0 : 0 < ln y y.length) : Small (dvAll x y y.length).1 ∧ Small (dvAll x y y.length).2 ∧ DivOf x y (lean (dvAll x y y.length).1) (lean (dvAll x y y.length).2) ∧ ∀ j, ln y y.length - 1 ≤ j → (dvAll x y y.length).2.getD j 0 = 0 := by
  have h := dv_ok (x := lean x) (y := y) (top := ln y y.length - 1) (N := (lean x).length - (ln y y.length - 1)) (lean_small hx) hy rfl (ln_last y _ h0) (fun j hj => by
    by_cases h : j < y.length
    · exact ln_above y _ j (by omega) h
    · exact getD_far (by omega)) _ (Nat.le_refl _)
  refine ⟨h.q, h.r, fun j => ?_, fun j hj => h.far j (by omega)⟩
  have := h.div j
  rw [lean_get] at this
  rw [this, lean_get]
  congr 1
  exact cv_congr (fun i => (lean_get _ i).symm) (fun _ => rfl) j
end Go.Proofs.Ytokeoodkioobdaa

/- The walk of the reference's Through. Conditions: rows are shorter than 2 to the 46, at most 1000 points. -/
namespace Go.Proofs.Ytokeoodkioobdaa
open Go.RowKit

/-- The polynomial that is 0 at the first k points but the i-th. -/
def rt (l : List Nat) (i : Nat) : Nat → List Nat
  | 0 => [1]
  | k + 1 => if k = i then rt l i k else conv [l.getD k 0, 1] (rt l i k)
def rtC (l ys : List Nat) (i : Nat) : Nat := Gf.mul (ys.getD i 0) (Gf.inv (sval (rt l i l.length) (l.getD i 0) (rt l i l.length).length))
def rto (l ys : List Nat) : Nat → List Nat
  | 0 => []
  | i + 1 => lean (sumTo (rto l ys i) (conv [rtC l ys i] (rt l i l.length)) (max (rto l ys i).length (conv [rtC l ys i] (rt l i l.length)).length) (conv [rtC l ys i] (rt l i l.length)).length)
theorem rt_small {l : List Nat} (hl : Small l) (i : Nat) : ∀ k, Small (rt l i k)
  | 0 => one_small
  | k + 1 => by
    show Small (if _ then _ else _)
    split
    · exact rt_small hl i k
    · exact conv_small (small2 (hl k) (by omega))
theorem rt_len (l : List Nat) (i : Nat) : ∀ k, (rt l i k).length ≤ 2 * k + 1
  | 0 => Nat.le_refl _
  | k + 1 => by
    show (if _ then _ else _ : List Nat).length ≤ _
    have := rt_len l i k
    split
    · omega
    · have h := length_conv [l.getD k 0, 1] (rt l i k)
      simp only [List.length_cons, List.length_nil] at h
      omega
theorem rtC_lt {l ys : List Nat} (hy : Small ys) (i : Nat) : rtC l ys i < 256 := Gf.mul_lt (hy i)
theorem rto_small {l ys : List Nat} (hy : Small ys) : ∀ i, Small (rto l ys i)
  | 0 => Small.nil
  | i + 1 => lean_small (sumTo_small (rto_small hy i) (conv_small (small1 (rtC_lt hy i))) (by omega) _ (by omega))
theorem rto_len (l ys : List Nat) : ∀ i, i ≤ l.length → (rto l ys i).length ≤ 2 * l.length + 2
  | 0, _ => Nat.zero_le _
  | i + 1, h => by
    have h1 := rto_len l ys i (by omega)
    have h2 := rt_len l i l.length
    have h3 := length_conv [rtC l ys i] (rt l i l.length)
    simp only [List.length_cons, List.length_nil] at h3
    show (lean _).length ≤ _
    rw [length_lean]
    refine Nat.le_trans (ln_le _ _) ?_
    rw [length_sumTo (by omega)]
    omega

/-- Its values. -/
theorem rt_zero {l : List Nat} (hl : Small l) (i : Nat) : ∀ k j, j < k → j ≠ i → Gf.ev (rt l i k) (l.getD j 0) = 0
  | 0, _, h, _ => absurd h (by omega)
  | k + 1, j, h, hne => by
    show Gf.ev (if _ then _ else _) _ = 0
    split
    · rename_i e; exact rt_zero hl i k j (by omega) hne
    · rw [ev_conv (hl j) (small2 (hl k) (by omega)) (rt_small hl i k), ev_two (hl j)]
      by_cases e : j = k
      · subst e; rw [Nat.xor_self, Gf.zero_mul]
      · rw [rt_zero hl i k j (by omega) hne, Gf.mul_zero]
theorem rt_ne {l : List Nat} (hl : Small l) (hn : l.Nodup) {i : Nat} (hi : i < l.length) : ∀ k, k ≤ l.length → Gf.ev (rt l i k) (l.getD i 0) ≠ 0
  | 0, _ => by show Gf.ev [1] _ ≠ 0; rw [ev_one]; decide
  | k + 1, h => by
    have ih := rt_ne hl hn hi k (by omega)
    show Gf.ev (if _ then _ else _) _ ≠ 0
    split
    · exact ih
    · rename_i e
      rw [ev_conv (hl i) (small2 (hl k) (by omega)) (rt_small hl i k), ev_two (hl i)]
      refine Gf.mul_ne (Gf.xor_lt (hl k) (hl i)) (Gf.ev_lt (rt_small hl i k).sm (hl i)) (Gf.xor_ne ?_) ih
      rcases Nat.lt_or_gt_of_ne e with h2 | h2
      · exact nodup_getD hn h2 hi
      · exact (nodup_getD hn h2 (by omega)).symm
theorem rt_far {l : List Nat} (hl : Small l) {i : Nat} : ∀ k j, (if i < k then k - 1 else k) < j → (rt l i k).getD j 0 = 0
  | 0, j, h => getD_far (by show 1 ≤ j; split at h <;> omega)
  | k + 1, j, h => by
    show (if _ then _ else _ : List Nat).getD j 0 = 0
    split
    · rename_i e
      refine rt_far hl k j ?_
      rw [if_neg (by omega)]
      rw [if_pos (by omega)] at h
      omega
    · rename_i e
      rw [conv_get]
      refine cv_far (a := 1) (b := if i < k then k - 1 else k) (fun j hj => getD_far (by simp; omega)) (rt_far hl k) j ?_
      split at h <;> split <;> omega
theorem rto_ok {l ys : List Nat} (hl : Small l) (hy : Small ys) (hn : l.Nodup) : ∀ i, i ≤ l.length → (∀ j, l.length ≤ j → (rto l ys i).getD j 0 = 0) ∧ (∀ j, j < i → Gf.ev (rto l ys i) (l.getD j 0) = ys.getD j 0) ∧ (∀ j, i ≤ j → j < l.length → Gf.ev (rto l ys i) (l.getD j 0) = 0)
  | 0, _ => ⟨fun j _ => getD_far (Nat.zero_le _), fun j h => absurd h (by omega), fun j _ _ => rfl⟩
  | i + 1, hi => by
    obtain ⟨h1, h2, h3⟩ := rto_ok hl hy hn i (by omega)
    have hs := rto_small (l := l) hy (i + 1)
    have hs0 := rto_small (l := l) hy i
    have hcs : Small (conv [rtC l ys i] (rt l i l.length)) := conv_small (small1 (rtC_lt hy i))
    have hco : ∀ j, (rto l ys (i + 1)).getD j 0 = (rto l ys i).getD j 0 ^^^ (conv [rtC l ys i] (rt l i l.length)).getD j 0 := fun j => by
      show (lean _).getD j 0 = _
      rw [lean_get, sumTo_all (by omega) (by omega)]
    have hev : ∀ z, z < 256 → Gf.ev (rto l ys (i + 1)) z = Gf.ev (rto l ys i) z ^^^ Gf.mul (rtC l ys i) (Gf.ev (rt l i l.length) z) := fun z hz => by
      rw [ev_xor hz hs hs0 hcs hco, ev_conv hz (small1 (rtC_lt hy i)) (rt_small hl i _), ev_single]
    refine ⟨fun j hj => ?_, fun j hj => ?_, fun j hj hj2 => ?_⟩
    · rw [hco, h1 j hj, conv_get, cv_far (a := 0) (b := l.length - 1) (fun j hj => getD_far (by simp; exact hj)) (fun j hj => rt_far hl _ j (by rw [if_pos (by omega)]; exact hj)) j (by omega)]; rfl
    · rw [hev _ (hl j)]
      by_cases e : j = i
      · subst e
        have hel := Gf.ev_lt (rt_small hl j l.length).sm (hl j)
        rw [h3 j (by omega) (by omega), Nat.zero_xor]
        unfold rtC
        rw [sval_ev (hl j) (rt_small hl j _)]
        exact Gf.mul_div_cancel (hy j) hel (rt_ne hl hn (by omega) _ (Nat.le_refl _))
      · rw [h2 j (by omega), rt_zero hl i _ j (by omega) e, Gf.mul_zero, Nat.xor_zero]
    · rw [hev _ (hl j), h3 j (by omega) hj2, rt_zero hl i _ j hj2 (by omega), Gf.mul_zero]; rfl
/-- The program's polynomial through points is the reference's. -/
theorem through_ref {l ys : List Nat} (hl : Small l) (hy : Small ys) (hn : l.Nodup) : lean (thr l ys l.length).1 = lean (rto l ys l.length) := by
  have a := thr_ok hl hy hn l.length (Nat.le_refl _)
  have b := rto_ok hl hy hn l.length (Nat.le_refl _)
  refine lean_ext (through_only a.o (rto_small hy _) a.of b.1 hn (fun x hx => hl.mem hx) fun x hx => ?_)
  obtain ⟨i, hi, rfl⟩ := List.getElem_of_mem hx
  have e : l[i] = l.getD i 0 := by simp [List.getD_eq_getElem?_getD, hi]
  rw [e, a.at_ i hi, b.2.1 i hi]
end Go.Proofs.Ytokeoodkioobdaa
