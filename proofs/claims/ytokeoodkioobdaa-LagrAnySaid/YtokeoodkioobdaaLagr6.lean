/- Plain: the weights of the code are Lagrange's; what LagrOnes asks of them. Conditions: points are unlike bytes. -/
import Derived.Test.YtokeoodkioobdaaLagr4
namespace Go.Proofs.Ytokeoodkioobdaa
open Go.RowKit

theorem getD_mem {l : List Nat} {i : Nat} (h : i < l.length) : l.getD i 0 ∈ l := by
  rw [List.getD_eq_getElem?_getD, List.getElem?_eq_getElem h]; exact List.getElem_mem h
theorem wf_W {l : List Nat} (hl : Small l) (hn : l.Nodup) {t k : Nat} (ht : t < 256) (hk : k < l.length) : wf l l.length t k = Gf.W l l.length k t := by
  unfold wf
  by_cases h : t ∈ l
  · have hf := fi_at h
    rw [if_pos h]
    have := Gf.W_at hl (Gf.un_of_nodup hn) hk hf.1
    rw [hf.2] at this
    rw [this]
    by_cases e : k = fi l t
    · rw [if_pos e, if_pos e.symm]
    · rw [if_neg e, if_neg (fun h => e h.symm)]
  · rw [if_neg h]
    exact (Gf.W_off hl hk ht fun j hj e => h (e ▸ getD_mem hj)).symm
theorem dot_F {l v : List Nat} (hl : Small l) (hn : l.Nodup) {t : Nat} (ht : t < 256) : ∀ k, k ≤ l.length → dotTo (wts l l.length t) v k = Gf.F l v l.length t k
  | 0, _ => rfl
  | k + 1, h => by
    show dotTo _ v k ^^^ Gf.mul _ _ = Gf.F l v l.length t k ^^^ Gf.mul _ _
    rw [dot_F hl hn ht k (by omega), wts_get _ _ _ _ (by omega), wf_W hl hn ht (by omega)]
theorem lval_F {l v : List Nat} (hl : Small l) (hn : l.Nodup) {t : Nat} (ht : t < 256) : lval l v l.length t = Gf.F l v l.length t l.length := dot_F hl hn ht _ (Nat.le_refl _)

/-- The sum of the first k. -/
def xsum (x : List Nat) : Nat → Nat
  | 0 => 0
  | k + 1 => xsum x k ^^^ x.getD k 0
theorem xsum_lt {x : List Nat} (hx : Small x) : ∀ k, xsum x k < 256
  | 0 => by show 0 < 256; decide
  | k + 1 => Gf.xor_lt (xsum_lt hx k) (hx k)
theorem ones_get (n i : Nat) : (List.replicate n 1).getD i 0 = if i < n then 1 else 0 := by
  rw [List.getD_eq_getElem?_getD, List.getElem?_replicate]; split <;> rfl
theorem xsum_dot {x : List Nat} (hx : Small x) (n : Nat) : ∀ k, k ≤ n → xsum x k = dotTo x (List.replicate n 1) k
  | 0, _ => rfl
  | k + 1, h => by
    show xsum x k ^^^ _ = dotTo x _ k ^^^ Gf.mul _ _
    rw [xsum_dot hx n k (by omega), ones_get, if_pos (by omega), Gf.mul_one (hx k)]
theorem small_ones (n : Nat) : Small (List.replicate n 1) := Small.of_mem fun x hx => by rw [List.eq_of_mem_replicate hx]; omega
/-- Weights add up to 1. -/
theorem weights_one {l : List Nat} (hl : Small l) (hn : l.Nodup) {t : Nat} (ht : t < 256) (h0 : 0 < l.length) : xsum (wts l l.length t) l.length = 1 := by
  rw [xsum_dot (wts_small _ _ _) l.length _ (Nat.le_refl _), dot_F hl hn ht _ (Nat.le_refl _)]
  exact Gf.sum_one hl hn (fun j hj => by rw [ones_get, if_pos hj]) (small_ones _) h0 ht
/-- Sums of values. -/
def both (a b : List Nat) (n : Nat) : List Nat := (List.range n).map fun i => a.getD i 0 ^^^ b.getD i 0
theorem length_both (a b : List Nat) (n : Nat) : (both a b n).length = n := by simp [both]
theorem both_succ (a b : List Nat) (k : Nat) : bs (both a b (k + 1)) = bs (both a b k) ++ [.int .u8 (a.getD k 0 ^^^ b.getD k 0 : Nat)] := by simp [both, bs, List.range_succ]
theorem both_get (a b : List Nat) (n i : Nat) (h : i < n) : (both a b n).getD i 0 = a.getD i 0 ^^^ b.getD i 0 := by
  unfold both
  rw [List.getD_eq_getElem?_getD, List.getElem?_map, List.getElem?_range h]; rfl
theorem both_small {a b : List Nat} (ha : Small a) (hb : Small b) (n : Nat) : Small (both a b n) := Small.of_mem fun x hx => by
  obtain ⟨i, _, rfl⟩ := List.mem_map.1 hx; exact Gf.xor_lt (ha i) (hb i)
theorem lval_both {l a b : List Nat} (hl : Small l) (hn : l.Nodup) {t : Nat} (ht : t < 256) : lval l (both a b l.length) l.length t = lval l a l.length t ^^^ lval l b l.length t := by
  rw [lval_F hl hn ht, lval_F hl hn ht, lval_F hl hn ht]
  exact Gf.F_add (fun k hk => both_get _ _ _ _ hk) _ (Nat.le_refl _)
/-- At one of the points: which weight. -/
theorem wts_on {l : List Nat} {n t i : Nat} (h : t ∈ l) (hi : i < n) : (wts l n t).getD i 0 = if i = fi l t then 1 else 0 := by
  rw [wts_get _ _ _ _ hi]; unfold wf; rw [if_pos h]
theorem at_fi {l : List Nat} (hn : l.Nodup) {t i : Nat} (h : t ∈ l) (hi : i < l.length) : l.getD i 0 = t ↔ i = fi l t := by
  have hf := fi_at h
  refine ⟨fun e => Gf.un_of_nodup hn i _ hi hf.1 (by rw [e, hf.2]), fun e => by rw [e, hf.2]⟩
end Go.Proofs.Ytokeoodkioobdaa
