/- Proofs in trees of digests. No program. -/
import Derived.Test.YtfeibjokifidmaaTree
namespace Go.Proofs.Ytfeibjokifidmaa.M

/-- The neighbour. -/
def sib (i : Nat) : Nat := if i % 2 = 0 then i + 1 else i - 1
/-- The way up from a leaf. -/
noncomputable def climb (n i : Nat) (x : W64) (p : List W64) : Option (W64 × List W64) :=
  if n ≤ 1 then some (x, p) else
    if sib i < n then
      match p with
      | [] => none
      | d :: p => climb ((n + 1) / 2) (i / 2) (if i % 2 = 0 then join x d else join d x) p
    else climb ((n + 1) / 2) (i / 2) x p
termination_by n
decreasing_by all_goals omega
theorem climb_one {n i : Nat} {x : W64} {p : List W64} (h : n ≤ 1) : climb n i x p = some (x, p) := by rw [climb.eq_def, if_pos h]
theorem climb_nil {n i : Nat} {x : W64} (h : ¬ n ≤ 1) (hs : sib i < n) : climb n i x [] = none := by rw [climb.eq_def, if_neg h, if_pos hs]
theorem climb_cons {n i : Nat} {x d : W64} {p : List W64} (h : ¬ n ≤ 1) (hs : sib i < n) : climb n i x (d :: p) = climb ((n + 1) / 2) (i / 2) (if i % 2 = 0 then join x d else join d x) p := by rw [climb.eq_def, if_neg h, if_pos hs]
theorem climb_skip {n i : Nat} {x : W64} {p : List W64} (h : ¬ n ≤ 1) (hs : ¬ sib i < n) : climb n i x p = climb ((n + 1) / 2) (i / 2) x p := by rw [climb.eq_def, if_neg h, if_neg hs]

/-- Does a proof lead to a root? -/
noncomputable def vfy (r : W64) (n i : Nat) (x : W64) (p : List W64) : Prop := climb n i x p = some (r, [])

/-- Another leaf leads elsewhere. -/
theorem climb_inj (n : Nat) : ∀ (i : Nat) (x x' r : W64) (p q q' : List W64), climb n i x p = some (r, q) → climb n i x' p = some (r, q') → x = x' := by
  induction n using Nat.strongRecOn with
  | _ n ih =>
    intro i x x' r p q q' h h'
    by_cases hn : n ≤ 1
    · rw [climb_one hn] at h h'
      injection h with h; injection h with h _
      injection h' with h'; injection h' with h' _
      rw [h, h']
    · by_cases hs : sib i < n
      · cases p with
        | nil => rw [climb_nil hn hs] at h; cases h
        | cons d p =>
          rw [climb_cons hn hs] at h h'
          have := ih _ (by omega) _ _ _ _ _ _ _ h h'
          by_cases hi : i % 2 = 0
          · rw [if_pos hi, if_pos hi] at this
            exact join_left _ _ _ this
          · rw [if_neg hi, if_neg hi] at this
            exact join_right _ _ _ this
      · rw [climb_skip hn hs] at h h'
        exact ih _ (by omega) _ _ _ _ _ _ _ h h'
/-- How many digests a proof has. -/
theorem climb_len (n : Nat) : ∀ (i : Nat) (x x' r r' : W64) (p p' : List W64), climb n i x p = some (r, []) → climb n i x' p' = some (r', []) → p.length = p'.length := by
  induction n using Nat.strongRecOn with
  | _ n ih =>
    intro i x x' r r' p p' h h'
    by_cases hn : n ≤ 1
    · rw [climb_one hn] at h h'
      injection h with h; injection h with _ h
      injection h' with h'; injection h' with _ h'
      rw [h, h']
    · by_cases hs : sib i < n
      · cases p with
        | nil => rw [climb_nil hn hs] at h; cases h
        | cons d p =>
          cases p' with
          | nil => rw [climb_nil hn hs] at h'; cases h'
          | cons d' p' =>
            rw [climb_cons hn hs] at h h'
            have := ih _ (by omega) _ _ _ _ _ _ _ h h'
            simp [this]
      · rw [climb_skip hn hs] at h h'
        exact ih _ (by omega) _ _ _ _ _ _ _ h h'

/-- The digests beside the way up, k levels of them. -/
noncomputable def step (ws : List W64) (i : Nat) : List W64 := if sib i < ws.length then [wd ws (sib i)] else []
noncomputable def pf (ws : List W64) (i : Nat) : Nat → List W64
  | 0 => []
  | k + 1 => pf ws i k ++ step (lvl ws k) (i / 2 ^ k)
theorem pf_front (ws : List W64) (i : Nat) : ∀ k, pf ws i (k + 1) = step ws i ++ pf (nxt ws) (i / 2) k
  | 0 => by simp [pf, lvl]
  | k + 1 => by
    rw [pf, pf_front ws i k, pf, lvl_succ, List.append_assoc, Nat.div_div_eq_div_mul, ← Nat.pow_succ']
theorem pf_len (ws : List W64) (i : Nat) : ∀ k, (pf ws i k).length ≤ k
  | 0 => Nat.le_refl _
  | k + 1 => by
    have := pf_len ws i k
    rw [pf, List.length_append]
    unfold step
    split <;> simp <;> omega
/-- The root. -/
noncomputable def top (ws : List W64) : W64 := wd (lvl ws (tops ws.length)) 0
theorem top_nxt {ws : List W64} (h : ¬ ws.length ≤ 1) : top ws = top (nxt ws) := by
  unfold top
  rw [tops, if_neg h, lvl_succ, nxt_length]
theorem climb_pf (n : Nat) : ∀ (ws : List W64) (i : Nat), ws.length = n → i < n → climb n i (wd ws i) (pf ws i (tops n + 1)) = some (top ws, []) := by
  induction n using Nat.strongRecOn with
  | _ n ih =>
    intro ws i hl hi
    by_cases hn : n ≤ 1
    · obtain rfl : i = 0 := by omega
      obtain rfl : n = 1 := by omega
      rw [climb_one hn]
      have e : tops 1 = 0 := by rw [tops, if_pos (by omega)]
      unfold top
      rw [hl, e]
      simp [pf, step, sib, hl, lvl]
    · have hi2 : i / 2 < (n + 1) / 2 := by omega
      have hl2 : (nxt ws).length = (n + 1) / 2 := by rw [nxt_length, hl]
      have hw := nxt_at ws (i / 2)
      rw [top_nxt (by omega), tops, if_neg hn, pf_front]
      have IH := ih _ (by omega) (nxt ws) (i / 2) hl2 hi2
      unfold step
      rw [hl]
      by_cases hs : sib i < n
      · rw [if_pos hs]
        show climb n i _ (wd ws (sib i) :: pf (nxt ws) (i / 2) (tops ((n + 1) / 2) + 1)) = _
        rw [climb_cons hn hs, ← IH]
        congr 1
        rw [hw, hl]
        unfold sib at hs ⊢
        by_cases h2 : i % 2 = 0
        · rw [if_pos h2] at hs ⊢
          rw [if_pos h2, if_pos (by omega), show 2 * (i / 2) = i by omega]
        · rw [if_neg h2] at hs ⊢
          rw [if_neg h2, if_pos (by omega), show 2 * (i / 2) = i - 1 by omega, show i - 1 + 1 = i by omega]
      · rw [if_neg hs, climb_skip hn hs, List.nil_append, ← IH]
        congr 1
        rw [hw, hl]
        unfold sib at hs
        by_cases h2 : i % 2 = 0
        · rw [if_pos h2] at hs
          rw [if_neg (by omega), show 2 * (i / 2) = i by omega]
        · rw [if_neg h2] at hs
          omega
/-- The last level has no neighbour. -/
theorem pf_top {n : Nat} {ws : List W64} {i : Nat} (hl : ws.length = n) (hi : i < n) : (pf ws i (tops n + 1)).length ≤ tops n := by
  have h1 := tops_spec n ws hl (by omega)
  rw [pf]
  have : step (lvl ws (tops n)) (i / 2 ^ tops n) = [] := by
    unfold step sib
    rw [h1.1, if_neg]
    have e : i / 2 ^ tops n = 0 := by
      have hx : ∀ n (ws : List W64) i, ws.length = n → i < n → ∀ k, i / 2 ^ k < (lvl ws k).length := by
        intro n ws i hl hi k
        induction k with
        | zero => simpa [lvl, hl] using hi
        | succ k ih =>
          show _ < (nxt (lvl ws k)).length
          rw [nxt_length, Nat.pow_succ, ← Nat.div_div_eq_div_mul]
          omega
      have := hx n ws i hl hi (tops n)
      rw [h1.1] at this
      exact Nat.lt_one_iff.1 this
    rw [e]
    simp
  rw [this, List.append_nil]
  exact pf_len _ _ _
end Go.Proofs.Ytfeibjokifidmaa.M
