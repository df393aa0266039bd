/- The streams' beginning. -/
import Derived.Test.YtbakhifhjmjpnaaBelow
namespace Go.Proofs.Ytbakhifhjmjpnaa
open Go.RowKit

theorem golden_odd : U (golden % 2#64) = 1 := by
  rw [U_mod, U_golden, U_lit 2 (by decide)]; rfl

theorem begun_any (w : World) :
    Calls Try.prog 4 #[] w fun e w' => e = .returned (.bool true) ∧ Below w.heap.size w w' := by
  have hg := golden_odd
  go_enter Try.func4, Try.ntmps4
  go_wp2_with (go_at_call 7; (with_reducible refine (new_any _ _).mono ?_); rintro e w1 ⟨rfl, hb⟩; obtain ⟨ln, nn, rfl⟩ := ext_of hb; clear hb)
  refine (rndBelow_any _ _ _ _ (by decide) (by decide) hg).mono ?_
  rintro e w1 ⟨x, t, rfl, hx0, hx1, ht, htt, hb⟩
  obtain rfl : x = 0 := by omega
  clear ht htt hx0 hx1
  obtain ⟨l2, n2, rfl⟩ := ext_of hb
  clear hb
  go_wp2_with fail
  refine region_grow (by kernel_rfl) (by kernel_rfl) ?_
  repeat (go_big_quiet_step ((intro _; go_at_call 7; exact grow_of (new_any _ _))))



  refine wpQuiet_nil ?_
  intro _ hw'
  obtain ⟨k, m, rfl⟩ := hw'
  go_wp2
  go_ret
  exact ⟨rfl, by repeat (first | exact Below.refl _ _ | apply Below.drew | apply Below.al | apply Below.ex)⟩

end Go.Proofs.Ytbakhifhjmjpnaa
