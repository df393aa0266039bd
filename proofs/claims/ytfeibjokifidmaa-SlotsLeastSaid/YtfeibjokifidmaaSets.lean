/- Sets of small numbers as functions from 64 indexes to words: no program. -/
import Derived.Test.YtfeibjokifidmaaPlain
namespace Go.Proofs.Ytfeibjokifidmaa.Z

/-- Word k of a list of words. -/
def wd (l : List W64) (k : Nat) : W64 := if k < 64 then l[k]?.getD 0#64 else 0#64
/-- No word 0 at the end, and no more than 64 words. -/
def Canon (l : List W64) : Prop := l.length ≤ 64 ∧ ∀ m, l.length = m + 1 → l[m]?.getD 0#64 ≠ 0#64

theorem wd_lt {l : List W64} {k : Nat} (h : k < 64) : wd l k = l[k]?.getD 0#64 := if_pos h
theorem wd_ge {l : List W64} {k : Nat} (h : 64 ≤ k) : wd l k = 0#64 := if_neg (by omega)
theorem wd_out {l : List W64} {k : Nat} (h : l.length ≤ k) : wd l k = 0#64 := by
  unfold wd; split
  · rw [List.getElem?_eq_none h]; rfl
  · rfl

theorem canon_len {a b : List W64} (ha : Canon a) (h : wd a = wd b) : a.length ≤ b.length := by
  rcases Nat.lt_or_ge b.length a.length with hl | hl
  · exfalso
    obtain ⟨m, hm⟩ : ∃ m, a.length = m + 1 := ⟨a.length - 1, by omega⟩
    have h1 := ha.2 m hm
    have h2 := congrFun h m
    rw [wd_lt (by have := ha.1; omega), wd_out (by omega)] at h2
    exact h1 h2
  · exact hl
/-- The words tell the list. -/
theorem canon_eq {a b : List W64} (ha : Canon a) (hb : Canon b) (h : wd a = wd b) : a = b := by
  have hl : a.length = b.length := Nat.le_antisymm (canon_len ha h) (canon_len hb h.symm)
  apply List.ext_getElem? 
  intro k
  rcases Nat.lt_or_ge k a.length with hk | hk
  · have h1 := congrFun h k
    rw [wd_lt (by have := ha.1; omega), wd_lt (by have := ha.1; omega), List.getElem?_eq_getElem hk, List.getElem?_eq_getElem (by omega)] at h1
    rw [List.getElem?_eq_getElem hk, List.getElem?_eq_getElem (by omega)]
    exact congrArg some h1
  · rw [List.getElem?_eq_none hk, List.getElem?_eq_none (by omega)]

/-- Cut where all that follows is 0. -/
theorem wd_take {l : List W64} {m : Nat} (h : ∀ j, m ≤ j → j < l.length → l[j]?.getD 0#64 = 0#64) : wd (l.take m) = wd l := by
  funext k
  unfold wd
  split
  · rw [List.getElem?_take]
    split
    · rfl
    · rcases Nat.lt_or_ge k l.length with hk | hk
      · exact (h k (by omega) hk).symm
      · rw [List.getElem?_eq_none hk]
  · rfl

/-! Sets. -/
abbrev Sets := Nat → W64
/-- No words beyond 64. -/
def Ok (s : Sets) : Prop := ∀ k, 64 ≤ k → s k = 0#64
theorem wd_ok (l : List W64) : Ok (wd l) := fun _ h => wd_ge h
def jn (f : W64 → W64 → W64) (a b : Sets) : Sets := fun k => f (a k) (b k)
theorem jn_ok {f : W64 → W64 → W64} (hf : f 0#64 0#64 = 0#64) {a b : Sets} (ha : Ok a) (hb : Ok b) : Ok (jn f a b) := fun k h => by
  unfold jn; rw [ha k h, hb k h, hf]
def orW (x y : W64) : W64 := x ||| y
def andW (x y : W64) : W64 := x &&& y
def subW (x y : W64) : W64 := x &&& ~~~y
def fstW (x _y : W64) : W64 := x
/-- The set of one number below 4096. -/
def one (i : Nat) : Sets := fun k => if k = i / 64 then 1#64 <<< (i % 64) else 0#64
def none' : Sets := fun _ => 0#64
/-- Is a number in the set? -/
def has (s : Sets) (i : Nat) : Bool := (s (i / 64)).getLsbD (i % 64)

theorem one_ok {i : Nat} (h : i < 4096) : Ok (one i) := fun k hk => by unfold one; rw [if_neg (by omega)]
theorem has_ge {s : Sets} (h : Ok s) {i : Nat} (hi : 4096 ≤ i) : has s i = false := by
  unfold has; rw [h _ (by omega)]; simp
theorem has_one (i j : Nat) : has (one i) j = decide (j = i) := by
  unfold has one
  by_cases h : j / 64 = i / 64
  · rw [if_pos h]
    simp only [BitVec.getLsbD_shiftLeft, BitVec.getLsbD_one]
    by_cases h2 : j % 64 = i % 64
    · have : j = i := by omega
      subst this
      simp; omega
    · have : j ≠ i := by omega
      simp [this]; omega
  · rw [if_neg h]
    have : j ≠ i := by intro e; subst e; exact h rfl
    simp [this]
theorem has_or (a b : Sets) (i : Nat) : has (jn orW a b) i = (has a i || has b i) := by simp [has, jn, orW]
theorem has_and (a b : Sets) (i : Nat) : has (jn andW a b) i = (has a i && has b i) := by simp [has, jn, andW]
theorem has_sub (a b : Sets) (i : Nat) : has (jn subW a b) i = (has a i && !has b i) := by
  simp [has, jn, subW, show i % 64 < 64 by omega]
theorem has_ext {a b : Sets} (h : ∀ i, has a i = has b i) : a = b := by
  funext k
  apply BitVec.eq_of_getLsbD_eq
  intro i hi
  have := h (64 * k + i)
  unfold has at this
  rwa [show (64 * k + i) / 64 = k by omega, show (64 * k + i) % 64 = i by omega] at this

/-! The elements in order. -/
def upto (s : Sets) (n : Nat) : List Nat := (List.range n).filter (has s)
def elems (s : Sets) : List Nat := upto s 4096
theorem upto_succ (s : Sets) (n : Nat) : upto s (n + 1) = upto s n ++ if has s n then [n] else [] := by
  unfold upto
  rw [List.range_succ, List.filter_append]
  congr 1
  by_cases h : has s n <;> simp [h]
theorem upto_skip (s : Sets) (n : Nat) : ∀ m, (∀ j, n ≤ j → j < n + m → has s j = false) → upto s (n + m) = upto s n
  | 0, _ => rfl
  | m + 1, h => by
    rw [show n + (m + 1) = (n + m) + 1 by omega, upto_succ, h (n + m) (by omega) (by omega), upto_skip s n m (fun j h1 h2 => h j h1 (by omega))]
    simp
theorem upto_all {s : Sets} {n : Nat} (hn : n ≤ 4096) (h : ∀ j, n ≤ j → has s j = false) : upto s n = elems s := by
  unfold elems
  obtain ⟨m, hm⟩ : ∃ m, 4096 = n + m := ⟨4096 - n, by omega⟩
  rw [hm]
  exact (upto_skip s n m fun j h1 _ => h j h1).symm
theorem upto_len (s : Sets) (n : Nat) : (upto s n).length ≤ n := by
  unfold upto
  have := List.length_filter_le (has s) (List.range n)
  simpa using this
theorem elems_le (s : Sets) : (elems s).length ≤ 4096 := upto_len s 4096
theorem mem_elems {s : Sets} {i : Nat} : i ∈ elems s ↔ i < 4096 ∧ has s i = true := by
  unfold elems upto; simp
theorem elems_sorted (s : Sets) : (elems s).Pairwise (· < ·) := by
  unfold elems upto
  exact List.Pairwise.filter _ List.pairwise_lt_range

theorem count_or_and (a b : Sets) : ∀ l : List Nat, (l.filter (has (jn orW a b))).length + (l.filter (has (jn andW a b))).length = (l.filter (has a)).length + (l.filter (has b)).length
  | [] => rfl
  | x :: l => by
    have := count_or_and a b l
    simp only [List.filter_cons, has_or, has_and]
    cases has a x <;> cases has b x <;> simp <;> omega
theorem len_or_and (a b : Sets) : (elems (jn orW a b)).length + (elems (jn andW a b)).length = (elems a).length + (elems b).length := count_or_and a b _

/-! A word, bit by bit. -/
theorem low_bit (x : W64) (i : Nat) : (x >>> i) &&& 1#64 = if x.getLsbD i then 1#64 else 0#64 := by
  apply BitVec.eq_of_getLsbD_eq
  intro j hj
  by_cases h : x.getLsbD i
  · rw [if_pos h]
    simp only [BitVec.getLsbD_and, BitVec.getLsbD_ushiftRight, BitVec.getLsbD_one]
    by_cases h0 : j = 0
    · subst h0; simp [h]
    · simp [h0]
  · rw [if_neg h]
    simp only [BitVec.getLsbD_and, BitVec.getLsbD_ushiftRight, BitVec.getLsbD_one]
    by_cases h0 : j = 0
    · subst h0; simp at h ⊢; simp [h]
    · simp [h0]
theorem shr_one (x : W64) (i : Nat) : (x >>> i) >>> 1 = x >>> (i + 1) := by
  rw [← BitVec.shiftRight_add]
theorem shr_zero {x : W64} {i : Nat} (h : x >>> i = 0#64) (j : Nat) (hj : i ≤ j) : x.getLsbD j = false := by
  have := congrArg (fun z => BitVec.getLsbD z (j - i)) h
  simpa [BitVec.getLsbD_ushiftRight, show i + (j - i) = j by omega] using this
theorem shr_64 (x : W64) : x >>> 64 = 0#64 := by
  apply BitVec.eq_of_getLsbD_eq
  intro j hj
  rw [BitVec.getLsbD_ushiftRight, BitVec.getLsbD_of_ge _ _ (by omega)]
  simp
end Go.Proofs.Ytfeibjokifidmaa.Z
