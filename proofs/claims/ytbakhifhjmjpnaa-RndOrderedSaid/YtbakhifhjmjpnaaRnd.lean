/- Contracts of package rnd. -/
import Derived.Test.YtbakhifhjmjpnaaRows
import Derived.WalkKit
import Derived.Outline
import Derived.Lib.Hide
import Derived.RegionTactic
import Derived.Deep.RegionWith
import Derived.Test.YtbakhifhjmjpnaaPlain
import Derived.Test.YtbakhifhjmjpnaaExt
namespace Go.Proofs.Ytbakhifhjmjpnaa
open Go.RowKit

@[go_sem ↓] theorem conv_word (n : Int) (w : World) : Sem.run Try.prog (Go.convert 3 25 (Value.int .i64 n)) w = Result.ok (Value.int .u64 (U (Wd n))) w := by
  rw [run_convert_int w 3 25 .i64 n (by kernel_rfl) (by kernel_rfl)]
  show Result.ok (Value.int .u64 (IntKind.u64.wrap n)) w = _
  rw [wrap_ofInt, Wd_eq]

@[go_sem] theorem field_rnd0 (a b : Value) (w : World) : Sem.run Try.prog (Instr.field 27 (.agg #[a, b]) 0) w = .ok a w := by kernel_rfl
@[go_sem] theorem field_rnd1 (a b : Value) (w : World) : Sem.run Try.prog (Instr.field 27 (.agg #[a, b]) 1) w = .ok b w := by kernel_rfl

theorem bcell {W w1 : World} (hb : Below W.heap.size W w1) : (∀ b o, b < W.heap.size → w1.cell? ⟨b, o, none⟩ = W.cell? ⟨b, o, none⟩) ∧ (∀ b o, b < W.heap.size → w1.frozen? ⟨b, o, none⟩ = W.frozen? ⟨b, o, none⟩) :=
  ⟨fun b o h => hb.cell (p := ⟨b, o, none⟩) h, fun b o h => hb.frozen (p := ⟨b, o, none⟩) h⟩

theorem two_of {W w1 : World} (hb : Below W.heap.size W w1) (b : Nat) (x y : Value) (h0 : W.cell? ⟨b, 0, none⟩ = some x) (h1 : W.cell? ⟨b, 1, none⟩ = some y) (hlt : b < W.heap.size) : w1.cell? ⟨b, 0, none⟩ = some x ∧ w1.cell? ⟨b, 1, none⟩ = some y :=
  ⟨(hb.cell (p := ⟨b, 0, none⟩) hlt).trans h0, (hb.cell (p := ⟨b, 1, none⟩) hlt).trans h1⟩

theorem mix_any (x : W64) (w : World) :
    Calls Try.prog 11 #[.int .u64 (U x)] w fun e w' => e = .returned (.int .u64 (U (mix x))) ∧ w = w' := by
  go_enter Try.func11, Try.ntmps11
  go_wp2
  go_ret
  rw [mix_eq]
  exact ⟨rfl, rfl⟩

theorem next_any (s g : W64) (w : World) :
    Calls Try.prog 14 #[.agg #[.int .u64 (U s), .int .u64 (U g)]] w fun e w' => e = .returned (.tuple #[.int .u64 (U (mix (s + g))), .agg #[.int .u64 (U (s + g)), .int .u64 (U g)]]) ∧ Below w.heap.size w w' := by
  go_enter Try.func14, Try.ntmps14
  go_wp2_with fail
  go_region_with (go_at_call 11; refine (mix_any _ _).mono ?_; rintro e w' ⟨rfl, rfl⟩)
  all_goals
    go_wp2
    exact bodyPost_ret (v := .tuple #[.int .u64 (U (mix (s + g))), .agg #[.int .u64 (U (s + g)), .int .u64 (U g)]]) (by simp [results, Try.results14, go_sem]) rfl ⟨rfl, (((Below.refl _ _).alloc (Nat.le_refl _) _).alloc (by simp) _).drew⟩

theorem new_any (n : Int) (w : World) :
    Calls Try.prog 7 #[.int .i64 n] w fun e w' => e = .returned (.agg #[.int .u64 (U (mix (Wd n))), .int .u64 (U golden)]) ∧ Below w.heap.size w w' := by
  go_enter Try.func7, Try.ntmps7
  go_wp2_with (go_at_call 11; refine (mix_any _ _).mono ?_; rintro e w' ⟨rfl, rfl⟩)
  rw [U_golden]
  exact bodyPost_ret (v := .agg #[.int .u64 (U (mix (Wd n))), .int .u64 11400714819323198485]) (by simp [results, Try.results7, go_sem]) rfl ⟨rfl, (Below.refl _ _).alloc (Nat.le_refl _) _⟩

/-- The remainder that is not negative. -/
theorem tmod_lo (x n : Int) (h1 : 1 ≤ n) (h : x.tmod n < 0) : x.tmod n + n = x % n := by
  rw [Int.tmod_eq_emod] at *
  split at h
  · have := Int.emod_nonneg x (show n ≠ 0 by omega); omega
  · rw [if_neg (by assumption)]; have := Int.natAbs_of_nonneg (show 0 ≤ n by omega); omega
theorem tmod_hi (x n : Int) (h1 : 1 ≤ n) (h : 0 ≤ x.tmod n) : x.tmod n = x % n := by
  rw [Int.tmod_eq_emod] at *
  split at h
  · rw [if_pos (by assumption)]; omega
  · have := Int.emod_lt_of_pos x (show 0 < n by omega); have := Int.natAbs_of_nonneg (show 0 ≤ n by omega); omega

theorem ret_int {k : IntKind} {a b : Int} (h : a = b) : Ending.returned (.int k a) = .returned (.int k b) := by rw [h]

theorem below_any (x n : Int) (w : World) (h1 : 1 ≤ n) (h2 : n ≤ 9223372036854775807) (_h3 : -9223372036854775808 ≤ x) (_h4 : x ≤ 9223372036854775807) :
    Calls Try.prog 5 #[.int .i64 x, .int .i64 n] w fun e w' => e = .returned (.int .i64 (x % n)) ∧ w = w' := by
  go_enter Try.func5, Try.ntmps5
  go_wp2
  · go_ret
    have h : x.tmod n < 0 := by assumption
    have := tmod_lo x n h1 h
    have := Int.emod_nonneg x (show n ≠ 0 by omega)
    have := Int.emod_lt_of_pos x (show 0 < n by omega)
    exact ⟨ret_int (by rw [IntWalk.wrap64_in _ (by omega)]; assumption), rfl⟩
  · go_ret
    have h : 0 ≤ x.tmod n := by assumption
    exact ⟨ret_int (tmod_hi x n h1 h), rfl⟩

end Go.Proofs.Ytbakhifhjmjpnaa
