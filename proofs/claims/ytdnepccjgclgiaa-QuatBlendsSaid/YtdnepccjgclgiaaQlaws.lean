/- tourkeep1.quatBegun and the length of three numbers. -/
import Derived.Test.YtdnepccjgclgiaaQturn
namespace Go.Proofs.Ytdnepccjgclgiaa
open Go.RowKit

theorem begun_facts : qmw 0 65536 0 0 0 0 65536 0 = 0 ∧ qmx 0 65536 0 0 0 0 65536 0 = 0 ∧ qmy 0 65536 0 0 0 0 65536 0 = 0 ∧ qmz 0 65536 0 0 0 0 65536 0 = 65536 := by decide
theorem quatBegun_any (w : World) :
    Calls Try.prog 53 #[] w fun e w' => e = .returned (.bool true) ∧ Below w.heap.size w w' := by
  obtain ⟨h1, h2, h3, h4⟩ := begun_facts
  go_enter Try.func53, Try.ntmps53
  go_wp2_with (go_at_call 55; (with_reducible refine (qmul_any _ _ _ _ _ _ _ _ _).mono ?_); rintro e w1 ⟨rfl, hb⟩; obtain ⟨l, n, rfl⟩ := ext_of hb; clear hb)
  go_ret
  exact ⟨rfl, by repeat (first | exact Below.refl _ _ | apply Below.drew | apply Below.al | apply Below.ex)⟩

noncomputable def long (x y z : Int) : Int := vlen (vlen x y) z
theorem long_any (x y z : Int) (w : World) :
    Calls Try.prog 58 #[.agg #[.int .i64 x, .int .i64 y, .int .i64 z]] w fun e w' => e = .returned (.int .i64 (long x y z)) ∧ Below w.heap.size w w' := by
  go_enter Try.func58, Try.ntmps58
  go_wp2_with fail
  refine region_grow (by kernel_rfl) (by kernel_rfl) ?_
  repeat (go_big_quiet_step ((intro _; go_at_call 26; exact grow_of (vlen_any _ _ _))))
  refine wpQuiet_nil ?_
  intro _ hw'
  obtain ⟨k, m, rfl⟩ := hw'
  go_wp2
  go_ret
  exact ⟨rfl, by repeat (first | exact Below.refl _ _ | apply Below.drew | apply Below.al | apply Below.ex)⟩
end Go.Proofs.Ytdnepccjgclgiaa
