/- Digests: things that differ in one place have different ones. No program. -/
import Derived.Test.YthfpbplpfjmmgaaPlain
namespace Go.Proofs.Ythfpbplpfjmmgaa

noncomputable def firstW : W64 := lock 5840696475078001361#64
noncomputable def factorW : W64 := lock 11170449401992604703#64
theorem firstW_eq : firstW = 5840696475078001361#64 := lock_eq _
theorem factorW_eq : factorW = 11170449401992604703#64 := lock_eq _

/-- sum.Join. -/
noncomputable def join : W64 → W64 → W64 := lock fun a b => mix (mix (a + 5840696475078001361#64) * 11170449401992604703#64 + b)
theorem join_eq (a b : W64) : join a b = mix (mix (a + 5840696475078001361#64) * 11170449401992604703#64 + b) := congrFun (congrFun (lock_eq (fun a b : W64 => mix (mix (a + 5840696475078001361#64) * 11170449401992604703#64 + b))) a) b

theorem add_cancel_right (a b c : W64) (h : a + c = b + c) : a = b := by
  have : a + c - c = b + c - c := by rw [h]
  simpa using this
theorem add_cancel_left (a b c : W64) (h : c + a = c + b) : a = b := by
  rw [BitVec.add_comm c a, BitVec.add_comm c b] at h; exact add_cancel_right _ _ _ h

theorem join_left (a a' b : W64) (h : join a b = join a' b) : a = a' := by
  rw [join_eq, join_eq] at h
  have h1 := mix_inj _ _ h
  have h2 := add_cancel_right _ _ _ h1
  obtain ⟨v, hv⟩ : ∃ v : W64, 11170449401992604703#64 * v = 1#64 := ⟨9861552557614567391#64, by decide⟩
  have h3 := mul_inj 11170449401992604703#64 v hv _ _ h2
  have h4 := mix_inj _ _ h3
  exact add_cancel_right _ _ _ h4
theorem join_right (a b b' : W64) (h : join a b = join a b') : b = b' := by
  rw [join_eq, join_eq] at h
  exact add_cancel_left _ _ _ (mix_inj _ _ h)

/-- sum.Words behind its beginning. -/
noncomputable def wacc (d : W64) (ws : List W64) : W64 := ws.foldl join d
theorem wacc_snoc (d : W64) (ws : List W64) (x : W64) : wacc d (ws ++ [x]) = join (wacc d ws) x := by unfold wacc; rw [List.foldl_append]; rfl
theorem wacc_inj (ws : List W64) : ∀ d d' : W64, wacc d ws = wacc d' ws → d = d' := by
  induction ws with
  | nil => intro d d' h; exact h
  | cons x ws ih => intro d d' h; exact join_left _ _ _ (ih _ _ h)
noncomputable def wsum (ws : List W64) : W64 := wacc (join firstW (Wd ws.length)) ws

/-- One word that differs. -/
theorem wacc_set (ws : List W64) (i : Nat) (x : W64) (d : W64) (hi : i < ws.length) (hx : x ≠ ws[i]) : wacc d (ws.set i x) ≠ wacc d ws := by
  induction ws generalizing i d with
  | nil => simp at hi
  | cons y ws ih =>
    cases i with
    | zero =>
      intro h
      simp only [List.set_cons_zero, wacc, List.foldl_cons] at h
      exact hx (join_right _ _ _ (wacc_inj ws _ _ h))
    | succ i =>
      simp only [List.set_cons_succ]
      exact ih i (join d y) (by simpa using hi) (by simpa using hx)
theorem wsum_set (ws : List W64) (i : Nat) (x : W64) (hi : i < ws.length) (hx : x ≠ ws[i]) : wsum (ws.set i x) ≠ wsum ws := by
  unfold wsum
  rw [List.length_set]
  exact wacc_set ws i x _ hi hx

/-- A word out of up to eight bytes. -/
noncomputable def packAcc : Nat → W64 → List Int → W64
  | _, w, [] => w
  | i, w, c :: cs => packAcc (i + 1) (w ||| (Wd c <<< (8 * i))) cs
noncomputable def pack (cs : List Int) : W64 := packAcc 0 0#64 cs
theorem packAcc_snoc (cs : List Int) (c : Int) : ∀ i w, packAcc i w (cs ++ [c]) = packAcc i w cs ||| (Wd c <<< (8 * (i + cs.length))) := by
  induction cs with
  | nil => intro i w; simp [packAcc]
  | cons x cs ih => intro i w; simp only [List.cons_append, packAcc, ih, List.length_cons]; congr 3; omega
theorem pack_snoc (cs : List Int) (c : Int) : pack (cs ++ [c]) = pack cs ||| (Wd c <<< (8 * cs.length)) := by
  unfold pack; rw [packAcc_snoc]; simp

theorem Wd_bit (c : Int) (h0 : 0 ≤ c) (h1 : c < 256) (k : Nat) (hk : 8 ≤ k) : (Wd c).getLsbD k = false := by
  have h := U_Wd c h0 (by omega)
  unfold U at h
  have h2 : (Wd c).toNat < 2 ^ 8 := by omega
  rw [BitVec.getLsbD]
  exact Nat.testBit_lt_two_pow (Nat.lt_of_lt_of_le h2 (Nat.pow_le_pow_right (by omega) hk))

theorem packAcc_low (cs : List Int) : ∀ (i : Nat) (w : W64) (k : Nat), k < 8 * i → (packAcc i w cs).getLsbD k = w.getLsbD k := by
  induction cs with
  | nil => intro i w k _; rfl
  | cons c cs ih =>
    intro i w k hk
    simp only [packAcc]
    rw [ih (i + 1) _ k (by omega)]
    simp only [BitVec.getLsbD_or, BitVec.getLsbD_shiftLeft]
    have : decide (k < 8 * i) = true := by simpa using hk
    simp [this]

theorem packAcc_bit (cs : List Int) (hc : ∀ c ∈ cs, 0 ≤ c ∧ c < 256) : ∀ (i : Nat) (w : W64) (j : Nat), j < cs.length → 8 * (i + j) < 64 →
    (packAcc i w cs).getLsbD (8 * (i + j)) = (w.getLsbD (8 * (i + j)) || (Wd (cs[j]?.getD 0)).getLsbD 0) := by
  induction cs with
  | nil => intro i w j hj; simp at hj
  | cons c cs ih =>
    intro i w j hj hk
    have hc0 := hc c (by simp)
    have ihc := ih (fun x hx => hc x (by simp [hx]))
    cases j with
    | zero =>
      simp only [packAcc]
      rw [packAcc_low cs (i + 1) _ _ (by omega)]
      simp only [BitVec.getLsbD_or, BitVec.getLsbD_shiftLeft]
      have h1 : decide (8 * (i + 0) < 64) = true := by simpa using hk
      have h2 : decide (8 * (i + 0) < 8 * i) = false := by simp
      rw [h1, h2]
      simp
    | succ j =>
      have h := ihc (i + 1) (w ||| (Wd c <<< (8 * i))) j (by simpa using hj) (by omega)
      rw [show 8 * (i + 1 + j) = 8 * (i + (j + 1)) by omega] at h
      simp only [packAcc]
      rw [h]
      simp only [BitVec.getLsbD_or, BitVec.getLsbD_shiftLeft, List.getElem?_cons_succ]
      rw [Wd_bit c hc0.1 hc0.2 _ (by omega)]
      simp

/-- A byte, its lowest bit turned. -/
def flip (c : Int) : Int := if c % 2 = 0 then c + 1 else c - 1
theorem flip_bd (c : Int) (h0 : 0 ≤ c) (h1 : c < 256) : 0 ≤ flip c ∧ flip c < 256 := by unfold flip; split <;> omega
theorem Wd_low (c : Int) (h0 : 0 ≤ c) (h1 : c < 256) : (Wd c).getLsbD 0 = decide (c % 2 = 1) := by
  have h := U_Wd c h0 (by omega)
  unfold U at h
  rw [BitVec.getLsbD, Nat.testBit_zero]
  by_cases e : c % 2 = 1
  · have : (Wd c).toNat % 2 = 1 := by omega
    simp [e, this]
  · have : ¬ (Wd c).toNat % 2 = 1 := by omega
    simp [e, this]
theorem pack_flip (cs : List Int) (hc : ∀ c ∈ cs, 0 ≤ c ∧ c < 256) (hl : cs.length ≤ 8) (j : Nat) (hj : j < cs.length) : pack (cs.set j (flip cs[j])) ≠ pack cs := by
  intro h
  have hcj := hc cs[j] (List.getElem_mem hj)
  have h1 := packAcc_bit cs hc 0 0#64 j hj (by omega)
  have h2 := packAcc_bit (cs.set j (flip cs[j])) (by
    intro c hm
    rcases List.mem_or_eq_of_mem_set hm with hm | rfl
    · exact hc c hm
    · exact flip_bd _ hcj.1 hcj.2) 0 0#64 j (by simpa using hj) (by omega)
  unfold pack at h
  rw [h, h1] at h2
  rw [List.getElem?_set_self (by simpa using hj), List.getElem?_eq_getElem hj] at h2
  simp only [Option.getD_some] at h2
  rw [Wd_low _ hcj.1 hcj.2, Wd_low _ (flip_bd _ hcj.1 hcj.2).1 (flip_bd _ hcj.1 hcj.2).2] at h2
  unfold flip at h2
  by_cases e : cs[j] % 2 = 0
  · rw [if_pos e] at h2
    have a : decide (cs[j] % 2 = 1) = false := by simp; omega
    have b : decide ((cs[j] + 1) % 2 = 1) = true := by simp; omega
    rw [a, b] at h2
    simp at h2
  · rw [if_neg e] at h2
    have a : decide (cs[j] % 2 = 1) = true := by simp; omega
    have b : decide ((cs[j] - 1) % 2 = 1) = false := by simp; omega
    rw [a, b] at h2
    simp at h2

/-- sum.Bytes behind its beginning. -/
noncomputable def bacc (d : W64) (bs : List Int) : W64 :=
  if _h : bs = [] then d else bacc (join d (pack (bs.take 8))) (bs.drop 8)
termination_by bs.length
decreasing_by
  have : bs.length ≠ 0 := fun e => _h (List.eq_nil_of_length_eq_zero e)
  simp only [List.length_drop]; omega
theorem bacc_nil (d : W64) : bacc d [] = d := by rw [bacc]; simp
theorem bacc_step (d : W64) (bs : List Int) (h : bs ≠ []) : bacc d bs = bacc (join d (pack (bs.take 8))) (bs.drop 8) := by rw [bacc, dif_neg h]
theorem bacc_inj (n : Nat) : ∀ (bs : List Int) (d d' : W64), bs.length ≤ n → bacc d bs = bacc d' bs → d = d' := by
  induction n with
  | zero =>
    intro bs d d' hl h
    obtain rfl : bs = [] := List.eq_nil_of_length_eq_zero (by omega)
    rwa [bacc_nil, bacc_nil] at h
  | succ n ih =>
    intro bs d d' hl h
    by_cases e : bs = []
    · subst e; rwa [bacc_nil, bacc_nil] at h
    · rw [bacc_step _ _ e, bacc_step _ _ e] at h
      have : bs.length ≠ 0 := fun h => e (List.eq_nil_of_length_eq_zero h)
      exact join_left _ _ _ (ih _ _ _ (by simp only [List.length_drop]; omega) h)
theorem bacc_flip (n : Nat) : ∀ (bs : List Int) (d : W64) (j : Nat) (hj : j < bs.length), bs.length ≤ n → (∀ c ∈ bs, 0 ≤ c ∧ c < 256) → bacc d (bs.set j (flip bs[j])) ≠ bacc d bs := by
  induction n with
  | zero => intro bs d j hj hl; omega
  | succ n ih =>
    intro bs d j hj hl hc h
    have e : bs ≠ [] := by intro e; rw [e] at hj; simp at hj
    have e' : bs.set j (flip bs[j]) ≠ [] := by intro e'; have := congrArg List.length e'; simp at this; exact e this
    rw [bacc_step _ _ e, bacc_step _ _ e'] at h
    by_cases h8 : j < 8
    · have e1 : (bs.set j (flip bs[j])).drop 8 = bs.drop 8 := by rw [List.drop_set_of_lt (by omega)]
      rw [e1] at h
      have h2 := bacc_inj _ _ _ _ (Nat.le_refl _) h
      have h3 := join_right _ _ _ h2
      rw [List.take_set] at h3
      have hjt : j < (bs.take 8).length := by simp; omega
      have e2 : bs[j] = (bs.take 8)[j] := by simp
      rw [e2] at h3
      exact pack_flip (bs.take 8) (fun c hm => hc c (List.mem_of_mem_take hm)) (by simp; omega) j hjt h3
    · have e1 : (bs.set j (flip bs[j])).take 8 = bs.take 8 := by rw [List.take_set_of_le (by omega)]
      have hjd : j - 8 < (bs.drop 8).length := by simp; omega
      have e2 : (bs.set j (flip bs[j])).drop 8 = (bs.drop 8).set (j - 8) (flip (bs.drop 8)[j - 8]) := by
        rw [List.drop_set, if_neg (by omega)]
        congr 2
        rw [List.getElem_drop]
        congr 1
        omega
      rw [e1, e2] at h
      exact ih (bs.drop 8) _ (j - 8) hjd (by simp; omega) (fun c hm => hc c (List.mem_of_mem_drop hm)) h
noncomputable def bsum (bs : List Int) : W64 := bacc (join factorW (Wd bs.length)) bs
theorem bsum_flip (bs : List Int) (j : Nat) (hj : j < bs.length) (hc : ∀ c ∈ bs, 0 ≤ c ∧ c < 256) : bsum (bs.set j (flip bs[j])) ≠ bsum bs := by
  unfold bsum
  rw [List.length_set]
  exact bacc_flip _ bs _ j hj (Nat.le_refl _) hc
theorem sums_nil : wsum [] ≠ bsum [] := by
  unfold wsum bsum wacc
  rw [bacc_nil]
  intro h
  have := join_left _ _ _ h
  rw [firstW_eq, factorW_eq] at this
  exact absurd this (by decide)

end Go.Proofs.Ythfpbplpfjmmgaa
