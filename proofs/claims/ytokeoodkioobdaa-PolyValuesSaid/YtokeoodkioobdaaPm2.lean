/- Plain: values of products; degrees; one quotient, one rest; one polynomial through points. Conditions: rows hold bytes. -/
import Derived.Test.YtokeoodkioobdaaPm1
namespace Go.Proofs.Ytokeoodkioobdaa

theorem pw_add {x : Nat} (hx : x < 256) (a : Nat) : ∀ b, pw x (a + b) = Gf.mul (pw x a) (pw x b)
  | 0 => by show pw x a = Gf.mul (pw x a) 1; rw [Gf.mul_one (pw_lt x a)]
  | b + 1 => by
    show Gf.mul (pw x (a + b)) x = Gf.mul (pw x a) (Gf.mul (pw x b) x)
    rw [pw_add hx a b, Gf.mul_assoc (pw_lt x a) (pw_lt x b) hx]
theorem sm_shift {f : Nat → Nat} (k : Nat) : ∀ n, sm (k + n) (fun j => if k ≤ j then f (j - k) else 0) = sm n f
  | 0 => sm_zero _ fun i hi => if_neg (by omega)
  | n + 1 => by
    show sm (k + n) _ ^^^ (if k ≤ k + n then f (k + n - k) else 0) = sm n f ^^^ f n
    rw [sm_shift k n, if_pos (by omega), Nat.add_sub_cancel_left]
/-- The value of a product is the product of values. -/
theorem ev_cv {x : Nat} (hx : x < 256) {s u v : List Nat} (hs : Small s) (hu : Small u) (hv : Small v) (h : ∀ j, s.getD j 0 = cv (cf u) (cf v) j) : Gf.ev s x = Gf.mul (Gf.ev u x) (Gf.ev v x) := by
  obtain ⟨N, hN⟩ : ∃ N, N = max s.length (u.length + v.length) := ⟨_, rfl⟩
  have e1 : Gf.ev s x = sm N (fun j => sm v.length (fun i => Gf.mul (if i ≤ j then Gf.mul (u.getD (j - i) 0) (v.getD i 0) else 0) (pw x j))) := by
    rw [ev_far hx hs (N := N) (by omega)]
    refine sm_congr _ fun j _ => ?_
    rw [h j, ← conv_get, ← sm_mul_right (f := fun i => if i ≤ j then Gf.mul (u.getD (j - i) 0) (v.getD i 0) else 0) (pw x j) v.length (fun i _ => by
      show (if _ then _ else _) < 256
      split
      · exact Gf.mul_lt (hu _)
      · decide)]
    unfold conv
    rw [lean_get, convTo_get _ (Nat.le_refl _)]
  rw [e1, sm_swap (fun j i => Gf.mul (if i ≤ j then Gf.mul (u.getD (j - i) 0) (v.getD i 0) else 0) (pw x j)) v.length N, ev_sm hx hv, sm_mul_left]
  refine sm_congr _ fun i hi => ?_
  have hul := Gf.ev_lt hu.sm hx
  have e2 : sm N (fun j => Gf.mul (if i ≤ j then Gf.mul (u.getD (j - i) 0) (v.getD i 0) else 0) (pw x j)) = sm N (fun j => if i ≤ j then (fun k => Gf.mul (Gf.mul (u.getD k 0) (v.getD i 0)) (pw x (i + k))) (j - i) else 0) :=
    sm_congr _ fun j _ => by
      split
      · rename_i hij; show _ = Gf.mul _ (pw x (i + (j - i))); rw [show i + (j - i) = j by omega]
      · exact Gf.zero_mul _
  rw [e2]
  obtain ⟨n, hn⟩ : ∃ n, N = i + n := ⟨N - i, by omega⟩
  rw [hn, sm_shift (f := fun k => Gf.mul (Gf.mul (u.getD k 0) (v.getD i 0)) (pw x (i + k))), sm_to (n := u.length) (m := n) (by omega) fun k h1 _ => by rw [getD_far (l := u) h1, Gf.zero_mul, Gf.zero_mul], ev_sm hx hu, sm_mul_right _ _ fun k _ => Gf.mul_lt (hu k)]
  refine sm_congr _ fun k _ => ?_
  have p1 := pw_lt x i
  have p2 := pw_lt x k
  have q1 := hu k
  have q2 := hv i
  rw [pw_add hx]
  generalize u.getD k 0 = a at *
  generalize v.getD i 0 = b at *
  generalize pw x i = c at *
  generalize pw x k = d at *
  rw [Gf.mul_assoc q1 q2 (Gf.mul_lt p1), ← Gf.mul_assoc q2 p1 p2, Gf.mul_comm (Gf.mul_lt q2) p2, Gf.mul_assoc q1 p2 (Gf.mul_lt q2)]
theorem ev_conv {x : Nat} (hx : x < 256) {u v : List Nat} (hu : Small u) (hv : Small v) : Gf.ev (conv u v) x = Gf.mul (Gf.ev u x) (Gf.ev v x) := ev_cv hx (conv_small hu) hu hv (conv_get u v)

theorem cv_far {f g : Nat → Nat} {a b : Nat} (hf : ∀ j, a < j → f j = 0) (hg : ∀ j, b < j → g j = 0) (j : Nat) (hj : a + b < j) : cv f g j = 0 :=
  sm_zero _ fun i hi => by
    by_cases h : b < i
    · rw [hg i h, Gf.mul_zero]
    · rw [hf (j - i) (by omega), Gf.zero_mul]
theorem cv_xor {f f' g : Nat → Nat} (hf : ∀ i, f i < 256) (hf' : ∀ i, f' i < 256) (j : Nat) : cv (fun i => f i ^^^ f' i) g j = cv f g j ^^^ cv f' g j := by
  unfold cv; rw [← sm_xor]; exact sm_congr _ fun i _ => Gf.mul_xor_left (hf _) (hf' _) _
theorem cv_lt {f g : Nat → Nat} (hf : ∀ i, f i < 256) (j : Nat) : cv f g j < 256 := sm_lt _ fun _ _ => Gf.mul_lt (hf _)
theorem cv_top {f g : Nat → Nat} {a b : Nat} (hf : ∀ j, a < j → f j = 0) (hg : ∀ j, b < j → g j = 0) : cv f g (a + b) = Gf.mul (f a) (g b) := by
  unfold cv
  rw [sm_congr (g := fun i => if i = b then Gf.mul (f a) (g b) else 0) _ fun i hi => by
    by_cases h : i = b
    · subst h; rw [if_pos rfl, Nat.add_sub_cancel]
    · rw [if_neg h]
      by_cases h2 : b < i
      · rw [hg i h2, Gf.mul_zero]
      · rw [hf (a + b - i) (by omega), Gf.zero_mul]]
  exact sm_one (by omega)
theorem conv_one {v : List Nat} (hv : Small v) : conv [1] v = lean v := by
  rw [← lean_lean v]
  refine (show conv [1] v = lean (conv [1] v) from (lean_lean _).symm).trans (lean_ext fun j => ?_)
  rw [conv_get, lean_get, cv_comm one_small hv]
  unfold cv
  rw [sm_congr (g := fun i => if i = 0 then v.getD j 0 else 0) _ fun i _ => by
    cases i with
    | zero => rw [if_pos rfl]; show Gf.mul (v.getD j 0) 1 = _; exact Gf.mul_one (hv j)
    | succ i => rw [if_neg (by omega)]; show Gf.mul _ (([1] : List Nat).getD (i + 1) 0) = 0; rw [getD_far (by simp), Gf.mul_zero]]
  exact sm_one (by omega)
theorem cv_congr {f f' g g' : Nat → Nat} (hf : ∀ i, f i = f' i) (hg : ∀ i, g i = g' i) (j : Nat) : cv f g j = cv f' g' j := sm_congr _ fun i _ => by rw [hf, hg]
theorem conv_lean (l m : List Nat) : lean (conv l m) = conv l m := lean_lean _
theorem conv_ext {u v u' v' : List Nat} (hu : ∀ j, u.getD j 0 = u'.getD j 0) (hv : ∀ j, v.getD j 0 = v'.getD j 0) : conv u v = conv u' v' := by
  rw [← conv_lean u v, ← conv_lean u' v']
  exact lean_ext fun j => by rw [conv_get, conv_get]; exact cv_congr hu hv j
theorem conv_comm {u v : List Nat} (hu : Small u) (hv : Small v) : conv u v = conv v u := by
  rw [← conv_lean u v, ← conv_lean v u]
  exact lean_ext fun j => by rw [conv_get, conv_get]; exact cv_comm hu hv j
theorem mul2_conv {x y : List Nat} (hx : Small x) : mul2 x y 2 = conv x y := by
  show conv (conv [1] x) y = _
  rw [conv_one hx]
  exact conv_ext (lean_get x) fun _ => rfl
/-- The program's product and the reference's are one. -/
theorem mul_ref {x y : List Nat} (hx : Small x) (hy : Small y) : mul2 (lean x) (lean y) 2 = conv (lean y) (lean x) := by
  rw [mul2_conv (lean_small hx), conv_comm (lean_small hx) (lean_small hy)]
theorem ev_one {x : Nat} : Gf.ev [1] x = 1 := by show 1 ^^^ Gf.mul x 0 = 1; rw [Gf.mul_zero]; rfl

/-- x is q by b, and r. -/
def DivOf (x b q r : List Nat) : Prop := ∀ j, x.getD j 0 = cv (cf q) (cf b) j ^^^ r.getD j 0
theorem xor_eq_zero {a b : Nat} (h : a ^^^ b = 0) : a = b := Classical.byContradiction fun hne => Gf.xor_ne hne h
theorem cv_none {e g : Nat → Nat} {b : Nat} (he : ∀ i, e i < 256) (hg : ∀ i, g i < 256) (hgf : ∀ j, b < j → g j = 0) (hb : g b ≠ 0) (h0 : ∀ j, b ≤ j → cv e g j = 0) : ∀ n, (∀ j, n ≤ j → e j = 0) → ∀ j, e j = 0
  | 0, h => fun j => h j (by omega)
  | n + 1, h => cv_none he hg hgf hb h0 n fun j hj => by
    by_cases hjn : j = n
    · subst hjn
      have := h0 (j + b) (by omega)
      rw [cv_top (fun i hi => h i (by omega)) hgf] at this
      rcases Gf.mul_eq_zero (he j) (hg b) this with h | h
      · exact h
      · exact absurd h hb
    · exact h j (by omega)
/-- There is one quotient, and one rest. -/
theorem div_only {x b q r q' r' : List Nat} {top : Nat} (hb : Small b) (hq : Small q) (hq' : Small q') (hbt : b.getD top 0 ≠ 0) (hbf : ∀ j, top < j → b.getD j 0 = 0) (hr : ∀ j, top ≤ j → r.getD j 0 = 0) (hr' : ∀ j, top ≤ j → r'.getD j 0 = 0)
    (h : DivOf x b q r) (h' : DivOf x b q' r') : (∀ j, q.getD j 0 = q'.getD j 0) ∧ ∀ j, r.getD j 0 = r'.getD j 0 := by
  have e : ∀ j, q.getD j 0 ^^^ q'.getD j 0 = 0 := cv_none (e := fun j => q.getD j 0 ^^^ q'.getD j 0) (g := cf b) (b := top) (fun i => Gf.xor_lt (hq i) (hq' i)) hb hbf hbt (fun j hj => by
    rw [cv_xor hq hq']
    have e1 := h j
    have e2 := h' j
    rw [hr j hj, Nat.xor_zero] at e1
    rw [hr' j hj, Nat.xor_zero] at e2
    rw [← e1, ← e2, Nat.xor_self]) (max q.length q'.length) (fun j hj => by rw [getD_far (l := q) (by omega), getD_far (l := q') (by omega)]; rfl)
  have hqq : ∀ j, q.getD j 0 = q'.getD j 0 := fun j => xor_eq_zero (e j)
  refine ⟨hqq, fun j => ?_⟩
  have e1 := h j
  have e2 := h' j
  rw [cv_congr (f := cf q) (f' := cf q') hqq (fun _ => rfl)] at e1
  rw [e1] at e2
  have := congrArg (cv (cf q') (cf b) j ^^^ ·) e2
  simpa [← Nat.xor_assoc] using this

/-! A polynomial through points. -/
/-- Its quotient by a point's distance. -/
def sd (r : Nat) : List Nat → List Nat
  | [] => []
  | _ :: c => Gf.ev c r :: sd r c
theorem sd_len (r : Nat) : ∀ c, (sd r c).length = c.length
  | [] => rfl
  | _ :: c => by show _ + 1 = _ + 1; rw [sd_len r c]
theorem sd_small {r : Nat} (hr : r < 256) : ∀ {c : List Nat}, Small c → Small (sd r c)
  | [], _ => Small.nil
  | _ :: c, h => fun i => by
    cases i with
    | zero => exact Gf.ev_lt h.cons2.2.sm hr
    | succ i => exact sd_small hr h.cons2.2 i
theorem sd_ev {r x : Nat} (hr : r < 256) (hx : x < 256) : ∀ {c : List Nat}, Small c → Gf.ev c x = Gf.mul (x ^^^ r) (Gf.ev (sd r c) x) ^^^ Gf.ev c r
  | [], _ => by show 0 = Gf.mul _ 0 ^^^ 0; rw [Gf.mul_zero]; rfl
  | a :: c, h => by
    have hs := h.cons2.2
    have hv := Gf.ev_lt hs.sm hr
    have he := Gf.ev_lt (sd_small hr hs).sm hx
    have hd := sd_ev hr hx hs
    have hxr := Gf.xor_lt hx hr
    show a ^^^ Gf.mul x (Gf.ev c x) = Gf.mul (x ^^^ r) (Gf.ev c r ^^^ Gf.mul x (Gf.ev (sd r c) x)) ^^^ (a ^^^ Gf.mul r (Gf.ev c r))
    rw [hd]
    generalize Gf.ev c r = v at *
    generalize Gf.ev (sd r c) x = e at *
    rw [Gf.mul_xor_right, Gf.mul_xor_right, Gf.mul_xor_left hx hr v, ← Gf.mul_assoc hx hxr he, ← Gf.mul_assoc hxr hx he, Gf.mul_comm hx hxr]
    generalize Gf.mul (Gf.mul (x ^^^ r) x) e = p
    generalize Gf.mul x v = q
    generalize Gf.mul r v = s
    rw [Nat.xor_comm q s, Nat.xor_assoc s q p, Nat.xor_comm s, Nat.xor_assoc (q ^^^ p), Nat.xor_comm a s, ← Nat.xor_assoc s s a, Nat.xor_self, Nat.zero_xor, ← Nat.xor_assoc, Nat.xor_comm a p, Nat.xor_assoc, Nat.xor_comm a q, ← Nat.xor_assoc, Nat.xor_comm p q]
theorem sd_none {r : Nat} (hr : r < 256) : ∀ {c : List Nat}, Small c → (∀ j, (sd r c).getD j 0 = 0) → Gf.ev c r = 0 → ∀ j, c.getD j 0 = 0
  | [], _, _, _ => fun j => getD_far (Nat.zero_le _)
  | a :: c, h, h1, h2 => by
    have e0 : Gf.ev c r = 0 := h1 0
    have ih := sd_none hr h.cons2.2 (fun j => h1 (j + 1)) e0
    have h2 : a ^^^ Gf.mul r (Gf.ev c r) = 0 := h2
    rw [e0, Gf.mul_zero, Nat.xor_zero] at h2
    intro j
    cases j with
    | zero => exact h2
    | succ j => exact ih j
theorem ev_none {x : Nat} {c : List Nat} (hx : x < 256) (hs : Small c) (h : ∀ j, c.getD j 0 = 0) : Gf.ev c x = 0 := by
  rw [ev_sm hx hs]; exact sm_zero _ fun j _ => by rw [h j, Gf.zero_mul]
theorem ev_drop {c : List Nat} (hs : Small c) {n : Nat} (h : ∀ j, n ≤ j → c.getD j 0 = 0) : ∃ d : List Nat, d.length ≤ n ∧ Small d ∧ (∀ j, d.getD j 0 = c.getD j 0) :=
  ⟨c.take n, by rw [List.length_take]; omega, hs.take n, fun j => by
    by_cases hj : j < n
    · rw [List.getD_eq_getElem?_getD, List.getElem?_take_of_lt hj, ← List.getD_eq_getElem?_getD]
    · rw [h j (by omega), getD_far (by rw [List.length_take]; omega)]⟩
/-- What has fewer coefficients than places where it is 0 has none. -/
theorem none_of_roots : ∀ (l : List Nat) {c : List Nat}, Small c → c.length ≤ l.length → l.Nodup → (∀ x ∈ l, x < 256) → (∀ x ∈ l, Gf.ev c x = 0) → ∀ j, c.getD j 0 = 0
  | [], c, _, hl, _, _, _ => fun j => getD_far (by simp at hl; simp [hl])
  | r :: l, c, hs, hl, hn, hb, h0 => by
    have hr := hb r (List.mem_cons_self ..)
    have hn' := List.nodup_cons.1 hn
    have hr0 := h0 r (List.mem_cons_self ..)
    have hds := sd_small hr hs
    -- the quotient has one coefficient fewer
    have hlast : ∀ (c : List Nat) j, c.length - 1 ≤ j → (sd r c).getD j 0 = 0 := by
      intro c
      induction c with
      | nil => intro j _; exact getD_far (Nat.zero_le _)
      | cons a c ih =>
        intro j hj
        cases j with
        | zero =>
          have : c = [] := List.eq_nil_of_length_eq_zero (by rw [List.length_cons] at hj; omega)
          subst this; rfl
        | succ j =>
          show (sd r c).getD j 0 = 0
          exact ih j (by rw [List.length_cons] at hj; omega)
    obtain ⟨d, d1, d2, d3⟩ := ev_drop (n := c.length - 1) hds (hlast c)
    have hl' : c.length ≤ l.length + 1 := hl
    have hdl : d.length ≤ l.length := by omega
    have hd0 := none_of_roots l d2 hdl hn'.2 (fun x hx => hb x (List.mem_cons_of_mem _ hx)) fun x hx => by
      have hx2 := hb x (List.mem_cons_of_mem _ hx)
      have e := sd_ev hr hx2 hs
      rw [h0 x (List.mem_cons_of_mem _ hx), hr0, Nat.xor_zero, ← ev_same hx2 d2 hds d3] at e
      rcases Gf.mul_eq_zero (Gf.xor_lt hx2 hr) (Gf.ev_lt d2.sm hx2) e.symm with h | h
      · exact absurd h (Gf.xor_ne fun e => hn'.1 (e ▸ hx))
      · exact h
    exact sd_none hr hs (fun j => by rw [← d3 j]; exact hd0 j) hr0
/-- There is one polynomial through points. -/
theorem through_only {l c d : List Nat} (hc : Small c) (hd : Small d) (h1 : ∀ j, l.length ≤ j → c.getD j 0 = 0) (h2 : ∀ j, l.length ≤ j → d.getD j 0 = 0) (hn : l.Nodup) (hb : ∀ x ∈ l, x < 256) (h : ∀ x ∈ l, Gf.ev c x = Gf.ev d x) : ∀ j, c.getD j 0 = d.getD j 0 := by
  have hs := sumTo_small hc hd (N := max c.length d.length) (by omega) d.length (by omega)
  have hg := sumTo_all (x := c) (y := d) (N := max c.length d.length) (by omega) (by omega)
  obtain ⟨e, e1, e2, e3⟩ := ev_drop hs (n := l.length) fun j hj => by rw [hg, h1 j hj, h2 j hj]; rfl
  have := none_of_roots l e2 e1 hn hb fun x hx => by
    have hx2 := hb x hx
    rw [ev_xor hx2 e2 hc hd fun j => by rw [e3, hg], h x hx, Nat.xor_self]
  intro j
  have := this j
  rw [e3, hg] at this
  exact xor_eq_zero this
end Go.Proofs.Ytokeoodkioobdaa
