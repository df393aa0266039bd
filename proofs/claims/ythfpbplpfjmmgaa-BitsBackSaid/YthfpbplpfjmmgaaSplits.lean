/- For every input, RndSplits and RndRanges return true. No condition. -/
import Derived.Test.YthfpbplpfjmmgaaBelow
import Derived.Test.YthfpbplpfjmmgaaOf
import Derived.OpenShut
namespace Go.Proofs.Ythfpbplpfjmmgaa
open Go.RowKit

theorem golden_odd : U (golden % 2#64) = 1 := by
  rw [U_mod, U_golden, U_lit 2 (by decide)]; rfl

theorem begun_any (w : World) :
    Calls Try.prog 11 #[] w fun e w' => e = .returned (.bool true) ∧ Below w.heap.size w w' := by
  have hg := golden_odd
  go_enter Try.func11, Try.ntmps11
  go_wp2_with (go_at_call 12; (with_reducible refine (new_any _ _).mono ?_); rintro e w1 ⟨rfl, hb⟩; obtain ⟨ln, nn, rfl⟩ := ext_of hb; clear hb)
  refine (rndBelow_any _ _ _ _ (by decide) (by decide) hg).mono ?_
  rintro e w1 ⟨x, t, rfl, hx0, hx1, ht, htt, hb⟩
  obtain rfl : x = 0 := by omega
  clear ht htt hx0 hx1
  obtain ⟨l2, n2, rfl⟩ := ext_of hb
  clear hb
  go_wp2_with fail
  refine region_grow (by kernel_rfl) (by kernel_rfl) ?_
  repeat (go_big_quiet_step ((intro _; go_at_call 12; exact grow_of (new_any _ _))))



  refine wpQuiet_nil ?_
  intro _ hw'
  obtain ⟨k, m, rfl⟩ := hw'
  go_wp2
  go_ret
  exact ⟨rfl, by repeat (first | exact Below.refl _ _ | apply Below.drew | apply Below.al | apply Below.ex)⟩

theorem walk3 (a0 a1 : Int) (w1 : -9223372036854775808 ≤ a1 ∧ a1 ≤ 9223372036854775807) (w : World) :
    Calls Try.prog 3 #[.int .i64 a0, .int .i64 a1] w fun e w' => e = .returned (.bool true) ∧ Below w.heap.size w w' := by
  go_enter Try.func3, Try.ntmps3
  have hm1 : 0 ≤ a1 % 20 := Int.emod_nonneg _ (by decide)
  have hm2 : a1 % 20 < 20 := Int.emod_lt_of_pos _ (by decide)
  go_wp2_with (first
    | (go_at_call 11; (with_reducible refine (begun_any _).mono ?_); rintro e w1 ⟨rfl, hb⟩; obtain ⟨lb, nb, rfl⟩ := ext_of hb; clear hb)
    | (go_at_call 12; (with_reducible refine (new_any _ _).mono ?_); rintro e w1 ⟨rfl, hb⟩; obtain ⟨ln, nn, rfl⟩ := ext_of hb; clear hb)
    | (go_at_call 13; (with_reducible refine (split_any _ _ _).mono ?_); rintro e w1 ⟨rfl, hb⟩; obtain ⟨ls, ns, rfl⟩ := ext_of hb; clear hb))
  refine (next_any _ _ _).mono ?_
  rintro e w1 ⟨rfl, hb⟩
  obtain ⟨l1, n1, rfl⟩ := ext_of hb
  clear hb
  go_wp2_with (first
    | (go_at_call 14; (with_reducible refine (next_any _ _ _).mono ?_); rintro e w1 ⟨rfl, hb⟩; obtain ⟨lx, nx, rfl⟩ := ext_of hb; clear hb)
    | (go_at_call 15; (with_reducible refine (below_any _ _ _ (by omega) (by omega) (by omega) (by omega)).mono ?_); rintro e w1 ⟨rfl, rfl⟩))
  go_loopw [33] (fun k wr => ∃ (j : Nat) (s : W64) (l : List Obj) (n : Nat), k = .int .i64 j ∧ j ≤ 20 ∧ wr = ext ((ext
        (((ext ((ext w (lb ++ ln) nn).alloc (Obj.cells #[Value.int IntKind.u64 (U (mix (Wd a0))), Value.int IntKind.u64 (U golden)] 25)) ls ns).alloc
              (Obj.cells #[Value.int IntKind.u64 (U s), Value.int IntKind.u64 (U (mix (mix (Wd a0) + golden + golden) ||| 1#64))] 25)).alloc
          (Obj.cells #[Value.int IntKind.u64 (U (mix (Wd a0) + golden + golden)), Value.int IntKind.u64 (U golden)] 25))
        l1 n1).alloc (Obj.cells #[Value.int IntKind.u64 (U (mix (Wd a0) + golden + golden)), Value.int IntKind.u64 (U golden)] 25)) l n) (fun k _ => 20 - (intOf k).toNat)
  case atStart => exact ⟨0, _, _, _, rfl, by omega, rfl⟩
  case round =>
    obtain ⟨j, s, l, n, rfl, hj, rfl⟩ := hrel
    go_wp2_with (first
      | (go_at_call 13; (with_reducible refine (split_any _ _ _).mono ?_); rintro e w1 ⟨rfl, hb⟩; obtain ⟨ls, ns, rfl⟩ := ext_of hb; clear hb)
      | (go_at_call 14; (with_reducible refine (next_any _ _ _).mono ?_); rintro e w1 ⟨rfl, hb⟩; obtain ⟨lx, nx, rfl⟩ := ext_of hb; clear hb))
    · have hlt : (j : Int) < a1 % 20 := by assumption
      go_roundw
      case rel => exact ⟨j + 1, _, _, _, by go_num, by omega, rfl⟩
      case measure => simp [intOf]; omega
    · go_ret
      exact ⟨rfl, by repeat (first | exact Below.refl _ _ | apply Below.drew | apply Below.al | apply Below.ex)⟩

theorem RndSplitsW (a0 a1 : Int) (_w0 : (Lit.int .i64 a0).wf = true) (w1 : (Lit.int .i64 a1).wf = true) (w : World) :
    Calls Try.prog 3 #[.int .i64 a0, .int .i64 a1] w fun e w' => e = .returned (.bool true) ∧ Below w.heap.size w w' := walk3 a0 a1 (bounds_i64 w1) w

theorem walk4 (a0 a1 : Int) (w1 : -9223372036854775808 ≤ a1 ∧ a1 ≤ 9223372036854775807) (w : World) :
    Calls Try.prog 4 #[.int .i64 a0, .int .i64 a1] w fun e w' => e = .returned (.bool true) ∧ Below w.heap.size w w' := by
  have hm1 : 0 ≤ a1 % 4611686018427387904 := Int.emod_nonneg _ (by decide)
  have hm2 : a1 % 4611686018427387904 < 4611686018427387904 := Int.emod_lt_of_pos _ (by decide)
  go_enter Try.func4, Try.ntmps4
  go_wp2_with (first
    | (go_at_call 11; (with_reducible refine (begun_any _).mono ?_); rintro e w1 ⟨rfl, hb⟩; obtain ⟨lb, nb, rfl⟩ := ext_of hb; clear hb)
    | (go_at_call 15; (with_reducible refine (below_any _ _ _ (by omega) (by omega) (by omega) (by omega)).mono ?_); rintro e w1 ⟨rfl, rfl⟩))
  have hgo : U (ofGamma [a0, 1 + a1 % 4611686018427387904] % 2#64) = 1 := by unfold ofGamma; exact U_odd _
  refine (of_any _ 0 _ [a0, 1 + a1 % 4611686018427387904] _ (by simp) (by intro k hk; have : k = 0 ∨ k = 1 := by simp at hk; omega
                                                                          rcases this with rfl | rfl <;> simp [go_sem]) (by simp [go_sem])).mono ?_
  rintro e w1 ⟨rfl, hb⟩
  obtain ⟨l1, n1, rfl⟩ := ext_of hb
  clear hb
  go_wp2_with fail
  refine (rndBelow_any _ _ _ _ (by omega) (by omega) hgo).mono ?_
  rintro e w1 ⟨x, t, rfl, hx0, hx1, hts, -, hb⟩
  obtain ⟨l2, n2, rfl⟩ := ext_of hb
  clear hb
  have hut : ¬ U t = U (ofState [a0, 1 + a1 % 4611686018427387904]) := fun h => hts (U_inj h)
  clear hts
  go_wp2_with fail
  refine (rndBelow_any _ _ _ _ (by omega) (by omega) hgo).mono ?_
  rintro e w1 ⟨y, u, rfl, hy0, hy1, -, huu, hb⟩
  obtain ⟨l3, n3, rfl⟩ := ext_of hb
  obtain rfl : y = 0 := by omega
  obtain rfl : u = _ := huu rfl
  clear hb huu hy0 hy1
  go_wp2_with (go_at_call 14; (with_reducible refine (next_any _ _ _).mono ?_); rintro e w1 ⟨rfl, hb⟩; obtain ⟨lx, nx, rfl⟩ := ext_of hb; clear hb)
  go_ret
  exact ⟨rfl, by repeat (first | exact Below.refl _ _ | apply Below.drew | apply Below.al | apply Below.ex)⟩

theorem RndRangesW (a0 a1 : Int) (_w0 : (Lit.int .i64 a0).wf = true) (w1 : (Lit.int .i64 a1).wf = true) (w : World) :
    Calls Try.prog 4 #[.int .i64 a0, .int .i64 a1] w fun e w' => e = .returned (.bool true) ∧ Below w.heap.size w w' := walk4 a0 a1 (bounds_i64 w1) w
end Go.Proofs.Ythfpbplpfjmmgaa
