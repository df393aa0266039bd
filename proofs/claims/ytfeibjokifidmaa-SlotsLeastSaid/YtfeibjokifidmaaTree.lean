/- Trees of digests, level by level. No program. -/
import Derived.Test.YtfeibjokifidmaaJoin
namespace Go.Proofs.Ytfeibjokifidmaa.M

/-- The level above. -/
noncomputable def nxt : List W64 → List W64
  | a :: b :: r => join a b :: nxt r
  | [a] => [a]
  | [] => []
theorem nxt_length : ∀ l : List W64, (nxt l).length = (l.length + 1) / 2
  | a :: b :: r => by simp only [nxt, List.length_cons, nxt_length r]; omega
  | [a] => by simp [nxt]
  | [] => by simp [nxt]
/-- Word j. -/
def wd (l : List W64) (j : Nat) : W64 := l[j]?.getD 0
theorem nxt_at : ∀ (l : List W64) (j : Nat), wd (nxt l) j = if 2 * j + 1 < l.length then join (wd l (2 * j)) (wd l (2 * j + 1)) else wd l (2 * j)
  | a :: b :: r, j => by
    cases j with
    | zero => simp [nxt, wd]
    | succ j =>
      have := nxt_at r j
      have e1 : wd (nxt (a :: b :: r)) (j + 1) = wd (nxt r) j := by simp [nxt, wd]
      have e2 : wd (a :: b :: r) (2 * (j + 1)) = wd r (2 * j) := by rw [show 2 * (j + 1) = 2 * j + 1 + 1 by omega]; simp [wd]
      have e3 : wd (a :: b :: r) (2 * (j + 1) + 1) = wd r (2 * j + 1) := by rw [show 2 * (j + 1) + 1 = 2 * j + 1 + 1 + 1 by omega]; simp [wd]
      rw [e1, e2, e3, this]
      simp only [List.length_cons]
      by_cases h : 2 * j + 1 < r.length
      · rw [if_pos h, if_pos (by omega)]
      · rw [if_neg h, if_neg (by omega)]
  | [a], j => by
    cases j with
    | zero => simp [nxt, wd]
    | succ j => simp [nxt, wd]
  | [], j => by simp [nxt, wd]

/-- Two lists of one length that differ at i alone. -/
structure Diff (x y : List W64) (i : Nat) : Prop where
  len : x.length = y.length
  lt : i < x.length
  ne : wd x i ≠ wd y i
  eq : ∀ j, j ≠ i → wd x j = wd y j
theorem Diff.next {x y : List W64} {i : Nat} (h : Diff x y i) : Diff (nxt x) (nxt y) (i / 2) := by
  have hl := h.len
  have hi := h.lt
  refine ⟨by rw [nxt_length, nxt_length, hl], by rw [nxt_length]; omega, ?_, ?_⟩
  · rw [nxt_at, nxt_at, ← hl]
    by_cases h1 : 2 * (i / 2) + 1 < x.length
    · rw [if_pos h1, if_pos h1]
      rcases (show i = 2 * (i / 2) ∨ i = 2 * (i / 2) + 1 by omega) with e | e
      · rw [← e, h.eq (i + 1) (by omega)]
        exact fun he => h.ne (join_left _ _ _ he)
      · rw [← e, h.eq (2 * (i / 2)) (by omega)]
        exact fun he => h.ne (join_right _ _ _ he)
    · rw [if_neg h1, if_neg h1, show 2 * (i / 2) = i by omega]
      exact h.ne
  · intro j hj
    rw [nxt_at, nxt_at, ← hl, h.eq (2 * j) (by omega), h.eq (2 * j + 1) (by omega)]

/-- Level k. -/
noncomputable def lvl (l : List W64) : Nat → List W64
  | 0 => l
  | k + 1 => nxt (lvl l k)
theorem Diff.lvl {x y : List W64} {i : Nat} (h : Diff x y i) : ∀ k, Diff (lvl x k) (lvl y k) (i / 2 ^ k)
  | 0 => by rw [Nat.pow_zero, Nat.div_one]; exact h
  | k + 1 => by
    have := (Diff.lvl h k).next
    rwa [Nat.div_div_eq_div_mul, ← Nat.pow_succ] at this
/-- The number of the levels above n leaves. -/
def tops (n : Nat) : Nat := if n ≤ 1 then 0 else tops ((n + 1) / 2) + 1
termination_by n
decreasing_by omega
theorem lvl_succ (l : List W64) : ∀ k, lvl l (k + 1) = lvl (nxt l) k
  | 0 => rfl
  | k + 1 => by show nxt (lvl l (k + 1)) = nxt (lvl (nxt l) k); rw [lvl_succ l k]
theorem tops_spec (n : Nat) : ∀ l : List W64, l.length = n → 1 ≤ n → (lvl l (tops n)).length = 1 ∧ ∀ k, k < tops n → 2 ≤ (lvl l k).length := by
  induction n using Nat.strongRecOn with
  | _ n ih =>
    intro l hl h1
    by_cases hn : n ≤ 1
    · rw [tops, if_pos hn]
      exact ⟨by show l.length = 1; omega, fun k hk => by omega⟩
    · rw [tops, if_neg hn]
      obtain ⟨h2, h3⟩ := ih ((n + 1) / 2) (by omega) (nxt l) (by rw [nxt_length, hl]) (by omega)
      refine ⟨by rw [lvl_succ]; exact h2, fun k hk => ?_⟩
      cases k with
      | zero => show 2 ≤ l.length; omega
      | succ k => rw [lvl_succ]; exact h3 k (by omega)
theorem tops_le : ∀ n, n ≤ 64 → tops n ≤ 6 := by
  intro n hn
  have step : ∀ m c, (∀ q, q ≤ m → tops q ≤ c) → ∀ q, q ≤ 2 * m → tops q ≤ c + 1 := by
    intro m c h q hq
    rw [tops]
    split
    · omega
    · have := h ((q + 1) / 2) (by omega); omega
  have h0 : ∀ q, q ≤ 1 → tops q ≤ 0 := by intro q hq; rw [tops, if_pos hq]; exact Nat.le_refl _
  exact step 32 5 (step 16 4 (step 8 3 (step 4 2 (step 2 1 (step 1 0 h0))))) n hn
/-- One step of merkle.Narrow. -/
theorem Diff.narrow {x y : List W64} {i : Nat} (h : Diff x y i) (k a : Nat) (ha : 2 * (i / 2 ^ (k + 1)) = a) :
    (a + 1 = (M.lvl x k).length → i / 2 ^ k = a) ∧ (a + 1 ≠ (M.lvl x k).length → a + 1 < (M.lvl x k).length) ∧ (wd (M.lvl x k) a = wd (M.lvl y k) a → i / 2 ^ k = a + 1) ∧ (wd (M.lvl x k) a ≠ wd (M.lvl y k) a → i / 2 ^ k = a) := by
  have hk := Diff.lvl h k
  have hs := hk.lt
  have e : i / 2 ^ (k + 1) = i / 2 ^ k / 2 := by rw [Nat.pow_succ, Nat.div_div_eq_div_mul]
  rw [e] at ha
  have hl := (Diff.lvl h (k + 1)).lt
  rw [show M.lvl x (k + 1) = nxt (M.lvl x k) from rfl, nxt_length, e] at hl
  refine ⟨fun h1 => by omega, fun h1 => by omega, fun h1 => ?_, fun h1 => ?_⟩
  · rcases (show i / 2 ^ k = a ∨ i / 2 ^ k = a + 1 by omega) with e1 | e1
    · exact absurd h1 (by rw [← e1]; exact hk.ne)
    · exact e1
  · rcases (show i / 2 ^ k = a ∨ i / 2 ^ k = a + 1 by omega) with e1 | e1
    · exact e1
    · exact absurd (hk.eq a (by omega)) h1
end Go.Proofs.Ytfeibjokifidmaa.M
