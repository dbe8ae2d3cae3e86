/- Plain: polynomials over bytes as functions; how many roots there are; values elsewhere by weights (Lagrange). No program in sight. Conditions: bytes are below 256, points are unlike. -/
import Derived.Test.YtokeoodkioobdaaGf
namespace Go.Proofs.Ytokeoodkioobdaa.Gf

/-- A polynomial's value. -/
def ev : List Nat → Nat → Nat
  | [], _ => 0
  | a :: c, x => a ^^^ mul x (ev c x)
def Sm (c : List Nat) : Prop := ∀ x ∈ c, x < 256
theorem Sm.tail {a : Nat} {c : List Nat} (h : Sm (a :: c)) : Sm c := fun x hx => h x (List.mem_cons_of_mem _ hx)
theorem Sm.head {a : Nat} {c : List Nat} (h : Sm (a :: c)) : a < 256 := h a (List.mem_cons_self ..)
theorem Sm.cons {a : Nat} {c : List Nat} (ha : a < 256) (h : Sm c) : Sm (a :: c) := fun x hx => by
  rcases List.mem_cons.1 hx with rfl | hx
  · exact ha
  · exact h x hx
theorem Sm.nil : Sm [] := fun x hx => by cases hx
theorem ev_lt : ∀ {c : List Nat}, Sm c → ∀ {x : Nat}, x < 256 → ev c x < 256
  | [], _, _, _ => by show 0 < 256; decide
  | _ :: _, h, _, hx => xor_lt h.head (mul_lt hx)

/-- A function of bytes that is a polynomial of at most n coefficients. -/
def IsP (n : Nat) (f : Nat → Nat) : Prop := ∃ c, c.length ≤ n ∧ Sm c ∧ ∀ x, x < 256 → f x = ev c x
theorem IsP.lt {n : Nat} {f : Nat → Nat} (h : IsP n f) {x : Nat} (hx : x < 256) : f x < 256 := by
  obtain ⟨c, _, hs, he⟩ := h; rw [he x hx]; exact ev_lt hs hx
theorem IsP.mono {n m : Nat} {f : Nat → Nat} (h : IsP n f) (hm : n ≤ m) : IsP m f := by
  obtain ⟨c, h1, h2, h3⟩ := h; exact ⟨c, by omega, h2, h3⟩
theorem IsP.congr {n : Nat} {f g : Nat → Nat} (h : IsP n f) (e : ∀ x, x < 256 → g x = f x) : IsP n g := by
  obtain ⟨c, h1, h2, h3⟩ := h; exact ⟨c, h1, h2, fun x hx => (e x hx).trans (h3 x hx)⟩
theorem isP_zero : IsP 0 fun _ => 0 := ⟨[], by simp, Sm.nil, fun _ _ => rfl⟩
theorem isP_const {a : Nat} (ha : a < 256) : IsP 1 fun _ => a := ⟨[a], by simp, Sm.cons ha Sm.nil, fun x _ => by show a = a ^^^ mul x 0; rw [mul_zero]; simp⟩

def addL : List Nat → List Nat → List Nat
  | [], d => d
  | c, [] => c
  | a :: c, b :: d => (a ^^^ b) :: addL c d
theorem addL_len : ∀ c d : List Nat, (addL c d).length = max c.length d.length
  | [], d => by simp [addL]
  | a :: c, [] => by simp [addL]
  | a :: c, b :: d => by simp [addL, addL_len c d]
theorem addL_sm : ∀ {c d : List Nat}, Sm c → Sm d → Sm (addL c d)
  | [], _, _, hd => by simpa [addL] using hd
  | _ :: _, [], hc, _ => by simpa [addL] using hc
  | _ :: _, _ :: _, hc, hd => Sm.cons (xor_lt hc.head hd.head) (addL_sm hc.tail hd.tail)
theorem ev_addL : ∀ {c d : List Nat}, Sm c → Sm d → ∀ {x : Nat}, x < 256 → ev (addL c d) x = ev c x ^^^ ev d x
  | [], _, _, _, _, _ => by simp [addL, ev]
  | _ :: _, [], _, _, _, _ => by simp [addL, ev]
  | a :: c, b :: d, hc, hd, x, hx => by
    show (a ^^^ b) ^^^ mul x (ev (addL c d) x) = (a ^^^ mul x (ev c x)) ^^^ (b ^^^ mul x (ev d x))
    rw [ev_addL hc.tail hd.tail hx, mul_xor_right, xor4]
theorem IsP.add {n : Nat} {f g : Nat → Nat} (hf : IsP n f) (hg : IsP n g) : IsP n fun x => f x ^^^ g x := by
  obtain ⟨c, c1, c2, c3⟩ := hf
  obtain ⟨d, d1, d2, d3⟩ := hg
  exact ⟨addL c d, by rw [addL_len]; omega, addL_sm c2 d2, fun x hx => by rw [ev_addL c2 d2 hx, ← c3 x hx, ← d3 x hx]⟩
theorem map_sm {a : Nat} (ha : a < 256) (c : List Nat) : Sm (c.map (mul a)) := fun x hx => by
  obtain ⟨y, _, rfl⟩ := List.mem_map.1 hx; exact mul_lt ha
theorem ev_map {a : Nat} (ha : a < 256) : ∀ {c : List Nat}, Sm c → ∀ {x : Nat}, x < 256 → ev (c.map (mul a)) x = mul a (ev c x)
  | [], _, _, _ => (mul_zero a).symm
  | b :: c, h, x, hx => by
    show mul a b ^^^ mul x (ev (c.map (mul a)) x) = mul a (b ^^^ mul x (ev c x))
    rw [ev_map ha h.tail hx, mul_xor_right, ← mul_assoc hx ha (ev_lt h.tail hx), mul_comm hx ha, mul_assoc ha hx (ev_lt h.tail hx)]
theorem IsP.smul {n : Nat} {f : Nat → Nat} (hf : IsP n f) {a : Nat} (ha : a < 256) : IsP n fun x => mul a (f x) := by
  obtain ⟨c, c1, c2, c3⟩ := hf
  exact ⟨c.map (mul a), by simpa using c1, map_sm ha c, fun x hx => by show mul a (f x) = _; rw [ev_map ha c2 hx, ← c3 x hx]⟩
theorem IsP.mulx {n : Nat} {f : Nat → Nat} (hf : IsP n f) : IsP (n + 1) fun x => mul x (f x) := by
  obtain ⟨c, c1, c2, c3⟩ := hf
  exact ⟨0 :: c, by simp; omega, Sm.cons (by decide) c2, fun x hx => by show mul x (f x) = 0 ^^^ mul x (ev c x); rw [← c3 x hx]; simp⟩
theorem IsP.lin {n : Nat} {f : Nat → Nat} (hf : IsP n f) {a : Nat} (ha : a < 256) : IsP (n + 1) fun x => mul (x ^^^ a) (f x) :=
  (hf.mulx.add ((hf.smul ha).mono (Nat.le_succ n))).congr fun x hx => mul_xor_left hx ha (f x)

theorem xor_cancel {a b c : Nat} (h : a = b ^^^ c) : b = a ^^^ c := by rw [h, Nat.xor_assoc, Nat.xor_self, Nat.xor_zero]
/-- A root is taken out. -/
theorem divide {r : Nat} (hr : r < 256) : ∀ c : List Nat, Sm c → ∃ d, d.length ≤ c.length - 1 ∧ Sm d ∧ ∀ x, x < 256 → ev c x = mul (x ^^^ r) (ev d x) ^^^ ev c r
  | [], _ => ⟨[], by simp, Sm.nil, fun x _ => by show 0 = mul (x ^^^ r) 0 ^^^ 0; rw [mul_zero]; rfl⟩
  | [a], h => ⟨[], by simp, Sm.nil, fun x _ => by show a ^^^ mul x 0 = mul (x ^^^ r) 0 ^^^ (a ^^^ mul r 0); rw [mul_zero, mul_zero, mul_zero]; simp⟩
  | a :: b :: c, h => by
    obtain ⟨d, d1, d2, d3⟩ := divide hr (b :: c) h.tail
    have hv := ev_lt h.tail hr
    refine ⟨ev (b :: c) r :: d, by simp at d1 ⊢; omega, Sm.cons hv d2, fun x hx => ?_⟩
    have hxr := xor_lt hx hr
    have hd := ev_lt d2 hx
    show a ^^^ mul x (ev (b :: c) x) = mul (x ^^^ r) (ev (b :: c) r ^^^ mul x (ev d x)) ^^^ (a ^^^ mul r (ev (b :: c) r))
    rw [d3 x hx]
    generalize ev (b :: c) r = v at *
    generalize ev d x = e at *
    rw [mul_xor_right, mul_xor_right, mul_xor_left hx hr v, ← mul_assoc hx hxr hd, ← mul_assoc hxr hx hd, mul_comm hx hxr]
    generalize mul (mul (x ^^^ r) x) e = p
    generalize mul x v = q
    generalize mul r v = s
    rw [← Nat.xor_assoc a, Nat.xor_comm a p]
    rw [show (q ^^^ s ^^^ p) ^^^ (a ^^^ s) = ((q ^^^ p) ^^^ a) from by
      rw [Nat.xor_comm a s, ← Nat.xor_assoc, Nat.xor_assoc q s p, Nat.xor_comm s p, ← Nat.xor_assoc q p s, Nat.xor_assoc (q ^^^ p) s s, Nat.xor_self, Nat.xor_zero]]
    rw [Nat.xor_comm q p, Nat.xor_assoc p a q, Nat.xor_assoc p q a, Nat.xor_comm a q]
theorem IsP.root {n : Nat} {f : Nat → Nat} (hf : IsP (n + 1) f) {r : Nat} (hr : r < 256) (h0 : f r = 0) : ∃ g, IsP n g ∧ ∀ x, x < 256 → f x = mul (x ^^^ r) (g x) := by
  obtain ⟨c, c1, c2, c3⟩ := hf
  obtain ⟨d, d1, d2, d3⟩ := divide hr c c2
  refine ⟨ev d, ⟨d, by omega, d2, fun _ _ => rfl⟩, fun x hx => ?_⟩
  rw [c3 x hx, d3 x hx, ← c3 r hr, h0, Nat.xor_zero]
theorem xor_ne {a b : Nat} (h : a ≠ b) : a ^^^ b ≠ 0 := fun e => h (by
  have := congrArg (· ^^^ b) e
  simpa [Nat.xor_assoc] using this)
/-- THE ROOTS: a polynomial of at most as many coefficients as there are unlike places at which it is 0 is 0 everywhere. -/
theorem IsP.none : ∀ (l : List Nat) {f : Nat → Nat}, IsP l.length f → l.Nodup → (∀ x ∈ l, x < 256) → (∀ x ∈ l, f x = 0) → ∀ x, x < 256 → f x = 0
  | [], f, hf, _, _, _ => fun x hx => by
    obtain ⟨c, c1, _, c3⟩ := hf
    obtain rfl : c = [] := List.eq_nil_of_length_eq_zero (by simpa using c1)
    exact c3 x hx
  | r :: l, f, hf, hn, hs, h0 => fun x hx => by
    have hr := hs r (List.mem_cons_self ..)
    obtain ⟨g, g1, g2⟩ := hf.root hr (h0 r (List.mem_cons_self ..))
    have hn' := List.nodup_cons.1 hn
    have gz := IsP.none l g1 hn'.2 (fun y hy => hs y (List.mem_cons_of_mem _ hy)) fun y hy => by
      have hy2 := hs y (List.mem_cons_of_mem _ hy)
      have e := g2 y hy2
      rw [h0 y (List.mem_cons_of_mem _ hy)] at e
      rcases mul_eq_zero (xor_lt hy2 hr) (g1.lt hy2) e.symm with h | h
      · exact absurd h (xor_ne fun e => hn'.1 (e ▸ hy))
      · exact h
    rw [g2 x hx, gz x hx, mul_zero]
theorem IsP.eq {l : List Nat} {f g : Nat → Nat} (hf : IsP l.length f) (hg : IsP l.length g) (hn : l.Nodup) (hs : ∀ x ∈ l, x < 256) (h : ∀ x ∈ l, f x = g x) : ∀ x, x < 256 → f x = g x := fun x hx => by
  have := IsP.none l (hf.add hg) hn hs (fun y hy => by show f y ^^^ g y = 0; rw [h y hy, Nat.xor_self]) x hx
  exact Classical.byContradiction fun hne => xor_ne hne this
end Go.Proofs.Ytokeoodkioobdaa.Gf
