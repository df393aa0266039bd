/- For every input, TrigSums returns true. No condition. -/
import Derived.Test.YtdnepccjgclgiaaSums
import Derived.Test.YtdnepccjgclgiaaFixLaws
namespace Go.Proofs.Ytdnepccjgclgiaa
open Go.RowKit

/-- A product of numbers of at most 65536 units. -/
theorem low_mul (a c : Int) (h1 : -65536 ≤ a) (h2 : a ≤ 65536) (h3 : -65536 ≤ c) (h4 : c ≤ 65536) :
    -65536 ≤ fmul a c ∧ fmul a c ≤ 65536 ∧ 65536 * fmul a c - a * c ≤ 32768 ∧ a * c - 65536 * fmul a c ≤ 32767 := by
  have p := mul_bd a c 65536 65536 (by omega) (by omega) h1 h2 h3 h4
  rw [fmul_in a c (by omega) (by omega) (by omega) (by omega) (by omega) (by omega)]
  omega

theorem sum_facts (a b : Int) (a0 : 0 ≤ a) (b0 : 0 ≤ b) :
    ∃ s t : Int, sin (a + b) = s ∧ fadd (fmul (sin a) (cos b)) (fmul (cos a) (sin b)) = t ∧ s - t ≤ 16 ∧ t - s ≤ 16 ∧ -65536 ≤ s ∧ s ≤ 65536 := by
  have h := sums a b a0 b0
  have c1 := sin_bd a
  have c2 := cos_bd a
  have c3 := sin_bd b
  have c4 := cos_bd b
  have c5 := sin_bd (a + b)
  have m1 := low_mul (sin a) (cos b) (by omega) (by omega) (by omega) (by omega)
  have m2 := low_mul (cos a) (sin b) (by omega) (by omega) (by omega) (by omega)
  refine ⟨_, _, rfl, rfl, ?_, ?_, c5.1, c5.2⟩ <;> (rw [fadd_in _ _ (by omega) (by omega) (by omega) (by omega)]; omega)

theorem TrigSumsW (a0 a1 : Int) (w0 : (Lit.int .i64 a0).wf = true) (w1 : (Lit.int .i64 a1).wf = true) (w : World) :
    Calls Try.prog 18 #[.int .i64 a0, .int .i64 a1] w fun e w' => e = .returned (.bool true) ∧ Below w.heap.size w w' := by
  have h0 := bounds_i64 w0
  have h1 := bounds_i64 w1
  clear w0 w1
  have m0 : 0 ≤ a0 % 65536 := by omega
  have m1 : a0 % 65536 < 65536 := by omega
  have m2 : 0 ≤ a1 % 65536 := by omega
  have m3 : a1 % 65536 < 65536 := by omega
  obtain ⟨s, t, e1, e2, f1, f2, f3, f4⟩ := sum_facts (a0 % 65536) (a1 % 65536) m0 m2
  go_enter Try.func18, Try.ntmps18
  go_wp2_with (first
    | (go_at_call 29; (with_reducible refine (trigBegun_any _).mono ?_); rintro e w1 ⟨rfl, hb⟩; obtain ⟨l0, n0, rfl⟩ := ext_of hb; clear hb)
    | (go_at_call 30; (with_reducible refine (below_any _ _ _ (by omega) (by omega) (by omega) (by omega)).mono ?_); rintro e w1 ⟨rfl, rfl⟩)
    | (go_at_call 31; (with_reducible refine (sin_any _ _).mono ?_); rintro e w1 ⟨rfl, hb⟩; obtain ⟨l1, n1, rfl⟩ := ext_of hb; clear hb)
    | (go_at_call 32; (with_reducible refine (cos_any _ _).mono ?_); rintro e w1 ⟨rfl, hb⟩; obtain ⟨l2, n2, rfl⟩ := ext_of hb; clear hb)
    | (go_at_call 43; (with_reducible refine (fmul_any _ _ _).mono ?_); rintro e w1 ⟨rfl, hb⟩; obtain ⟨l2, n2, rfl⟩ := ext_of hb; clear hb)
    | (go_at_call 46; (with_reducible refine (fadd_any _ _ _).mono ?_); rintro e w1 ⟨rfl, rfl⟩)
    | (go_at_call 33; (with_reducible refine (near_any _ _ _ _ (by omega) (by omega) (by omega) (by omega) (by omega) (by omega)).mono ?_); rintro e w1 ⟨rfl, rfl⟩))
  go_ret
  exact ⟨rfl, by repeat (first | exact Below.refl _ _ | apply Below.drew | apply Below.al | apply Below.ex)⟩
end Go.Proofs.Ytdnepccjgclgiaa
