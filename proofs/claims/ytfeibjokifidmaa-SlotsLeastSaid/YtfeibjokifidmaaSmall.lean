/- tourmake.Below; words that lie in memory; merkleBegun. -/
import Derived.Test.YtfeibjokifidmaaRoot
import Derived.OpenShut
namespace Go.Proofs.Ytfeibjokifidmaa.M
open Go.RowKit

theorem ret_int {k : IntKind} {a b : Int} (h : a = b) : Ending.returned (.int k a) = .returned (.int k b) := by rw [h]
theorem tmod_lo (x n : Int) (h1 : 1 ≤ n) (h : x.tmod n < 0) : x.tmod n + n = x % n := by
  rw [Int.tmod_eq_emod] at *
  split at h
  · have := Int.emod_nonneg x (show n ≠ 0 by omega); omega
  · rw [if_neg (by assumption)]; have := Int.natAbs_of_nonneg (show 0 ≤ n by omega); omega
theorem tmod_hi (x n : Int) (h1 : 1 ≤ n) (h : 0 ≤ x.tmod n) : x.tmod n = x % n := by
  rw [Int.tmod_eq_emod] at *
  split at h
  · rw [if_pos (by assumption)]; omega
  · have := Int.emod_lt_of_pos x (show 0 < n by omega); have := Int.natAbs_of_nonneg (show 0 ≤ n by omega); omega
theorem below_any (x n : Int) (w : World) (h1 : 1 ≤ n) (h2 : n ≤ 9223372036854775807) (_h3 : -9223372036854775808 ≤ x) (_h4 : x ≤ 9223372036854775807) :
    Calls Try.prog 12 #[.int .i64 x, .int .i64 n] w fun e w' => e = .returned (.int .i64 (x % n)) ∧ w = w' := by
  go_enter Try.func12, Try.ntmps12
  go_wp2
  · go_ret
    have h : x.tmod n < 0 := by assumption
    have := tmod_lo x n h1 h
    have := Int.emod_nonneg x (show n ≠ 0 by omega)
    have := Int.emod_lt_of_pos x (show 0 < n by omega)
    exact ⟨ret_int (by rw [IntWalk.wrap64_in _ (by omega)]; assumption), rfl⟩
  · go_ret
    have h : 0 ≤ x.tmod n := by assumption
    exact ⟨ret_int (tmod_hi x n h1 h), rfl⟩

/-- A row of words that lies in block g. -/
def Src (w : World) (g n : Nat) (xs : List W64) : Prop :=
  g < w.heap.size ∧ xs.length = n ∧ ∀ j, j < n → w.cell? ⟨g, j, none⟩ = some (.int .u64 (U (wd xs j)))
theorem Src.keep {w w' : World} {g n C : Nat} {xs : List W64} (h : Src w g n xs) (hb : Below C w w') (hC : g < C) : Src w' g n xs :=
  ⟨by have := hb.size; have := h.1; omega, h.2.1, fun j hj => (hb.cell (p := ⟨g, j, none⟩) hC).trans (h.2.2 j hj)⟩
theorem Src.src {w : World} {g n : Nat} {xs : List W64} (h : Src w g n xs) : ∀ x, some (⟨g, 0, none⟩ : Addr) = some x → ∀ j u, (us xs)[j]? = some u → w.cell? (x.add j) = some u := by
  intro x hx j u hu
  cases hx
  have hj : j < xs.length := by
    rcases Nat.lt_or_ge j xs.length with h' | h'
    · exact h'
    · unfold us at hu; rw [List.getElem?_eq_none (by simpa using h')] at hu; cases hu
  rw [us_at _ _ hj] at hu
  injection hu with hu
  rw [Addr.add_lit, Nat.zero_add, h.2.2 j (by rw [← h.2.1]; exact hj), hu]
theorem Src.of {w : World} {B n : Nat} {v : Value} {xs : List W64} (h : w.ownsRow B 37 1 v n (us xs)) (h1 : 1 ≤ n) : ∃ g c, v = .slice (some ⟨g, 0, none⟩) n c ∧ B ≤ g ∧ n ≤ c ∧ Src w g n xs ∧ (∀ j, w.frozen? ⟨g, j, none⟩ = false) := by
  obtain ⟨g, c, rfl, hB, hg, hc, _, hl, hcl, hf⟩ := owns_open h h1
  have hl' : xs.length = n := by rw [us_length] at hl; omega
  exact ⟨g, c, rfl, hB, hc, ⟨hg, hl', fun j hj => by rw [hcl j (by omega)]; exact us_at _ _ (by omega)⟩, hf⟩

/-! merkleBegun. -/
def b1 : List W64 := [1#64, 2#64, 3#64]
def b2 : List W64 := [1#64, 2#64, 4#64]
theorem b_diff : Diff b1 b2 2 := by
  refine ⟨rfl, by decide, by decide, ?_⟩
  intro j hj
  match j with
  | 0 => rfl
  | 1 => rfl
  | 2 => exact absurd rfl hj
  | j + 3 => rfl
theorem tops_3 : tops 3 = 2 := by
  rw [tops, if_neg (by omega), show (3 + 1) / 2 = 2 from rfl, tops, if_neg (by omega), show (2 + 1) / 2 = 1 from rfl, tops, if_pos (by omega)]
theorem b_askd : askd b1 2 (tops 3) (tops 3) = 2 := by
  rw [tops_3, askd_succ (q := 0) (r := 1) (by omega), askd_succ (q := 1) (r := 0) (by omega)]
  rw [if_pos (by decide), if_neg]
  · rfl
  · show ¬ _ = (nxt b1).length
    rw [nxt_length]; decide
theorem b_src (w : World) : Src ((w.alloc (.cells #[.int .u64 1, .int .u64 2, .int .u64 3] 37)).alloc (.cells #[.int .u64 1, .int .u64 2, .int .u64 4] 37)) w.heap.size 3 b1 ∧
    Src ((w.alloc (.cells #[.int .u64 1, .int .u64 2, .int .u64 3] 37)).alloc (.cells #[.int .u64 1, .int .u64 2, .int .u64 4] 37)) (w.heap.size + 1) 3 b2 := by
  refine ⟨⟨by simp; omega, rfl, fun j hj => ?_⟩, ⟨by simp, rfl, fun j hj => ?_⟩⟩
  · match j, hj with
    | 0, _ => go_simp; rfl
    | 1, _ => go_simp; rfl
    | 2, _ => go_simp; rfl
  · match j, hj with
    | 0, _ => go_simp; rfl
    | 1, _ => go_simp; rfl
    | 2, _ => go_simp; rfl
theorem mbegun_any (w : World) : Calls Try.prog 29 #[] w fun e w' => e = .returned (.bool true) ∧ Below w.heap.size w w' := by
  have HS := Lib.hid (b_src w)
  go_enter Try.func29, Try.ntmps29
  go_wp2_with fail
  refine (narrow_any _ _ 3 _ _ 2 b1 b2 _ b_diff rfl (fun h => by cases h) (fun h => by cases h) HS.out.1.src HS.out.2.src (by omega) (by omega)).mono ?_
  rw [b_askd]
  rintro e w1 ⟨rfl, hb⟩
  have HB := Lib.hid hb
  clear hb
  go_wp2_with fail
  go_ret
  exact ⟨rfl, (((Below.refl _ _).alloc (Nat.le_refl _) _).alloc (by simp) _).trans (HB.out.mono (by simp; omega))⟩
end Go.Proofs.Ytfeibjokifidmaa.M
