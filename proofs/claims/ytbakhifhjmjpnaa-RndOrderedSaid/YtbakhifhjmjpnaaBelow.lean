/- rnd.Below ends, with a number in its range. -/
import Derived.Test.YtbakhifhjmjpnaaRnd
import Derived.Test.YtbakhifhjmjpnaaStream
import Derived.Deep.LoopGhost
namespace Go.Proofs.Ytbakhifhjmjpnaa
open Go.RowKit

/-- What rnd.Below says: a number x below n, and a later state t. -/
def Drawn (s g : W64) (n : Int) (w : World) (e : Ending) (w' : World) : Prop :=
  ∃ (x : Int) (t : W64), e = .returned (.tuple #[.int .i64 x, .agg #[.int .u64 (U t), .int .u64 (U g)], .int .i64 0]) ∧ 0 ≤ x ∧ x < n ∧ t ≠ s ∧ (n = 1 → t = s + g) ∧ Below w.heap.size w w'

theorem rndBelow_any (s g : W64) (n : Int) (w : World) (h1 : 1 ≤ n) (h2 : n ≤ 9223372036854775807) (hg : U (g % 2#64) = 1) :
    Calls Try.prog 10 #[.agg #[.int .u64 (U s), .int .u64 (U g)], .int .i64 n] w (Drawn s g n w) := by
  have hn := U_Wd n (by omega) h2
  have hr := rest_eq n h1 h2
  have hl := lim_eq n
  have hx : ∀ x : W64, (U x).tmod n = U x % n := fun x => Int.tmod_eq_emod_of_nonneg (U_lo x)
  have hx0 : ∀ x : W64, 0 ≤ U x % n := fun x => Int.emod_nonneg _ (by omega)
  have hx1 : ∀ x : W64, U x % n < n := fun x => Int.emod_lt_of_pos _ (by omega)
  have hw : ∀ x : W64, IntKind.i64.wrap (U x % n) = U x % n := fun x => IntWalk.i64_in _ (by have := hx0 x; have := hx1 x; omega)
  have hne : ¬ n = 0 := by omega
  have hlim := lim_ge n h1 h2
  obtain ⟨N, hN1, hN2, hN3, hN4⟩ := stops s g (odd_nat g hg) (fun t => U (mix t) ≤ U (lim n)) (by show U (mix _) ≤ _; rw [mix_0]; show U 0#64 ≤ _; have : U 0#64 = 0 := rfl; omega)
    (by show U (mix _) ≤ _; rw [mix_1]; have : U 1#64 = 1 := rfl; omega)
  have HN : Hid (U (mix (st s g N)) ≤ U (lim n) ∧ (∀ j, 1 ≤ j → j < N → ¬ U (mix (st s g j)) ≤ U (lim n)) ∧ st s g N ≠ s) := ⟨hN2, hN3, hN4⟩
  clear hN2 hN3 hN4 hlim
  go_enter Try.func10, Try.ntmps10
  go_wp2_with fail
  go_loopg [9] N (fun k _ wr => ∃ (j : Nat) (l : List Obj) (m : Nat), j + k = N ∧ 1 ≤ k ∧ wr = ext ((w.alloc (Obj.cells #[Value.int IntKind.u64 (U (st s g j)), Value.int IntKind.u64 (U g)] 27)).alloc
      (Obj.cells #[Value.int IntKind.u64 0, Value.int IntKind.u64 0] 27)) l m)
  case atStart => exact ⟨0, [], _, by omega, hN1, (ext_nil _).symm⟩
  case round =>
    obtain ⟨j, l, m, hj, hk, rfl⟩ := hrel
    have hst : st s g j + g = st s g (j + 1) := rfl
    have Hj : Hid (j + gk = N) := hj
    clear hj
    by_cases hin : U (mix (st s g (j + 1))) ≤ U (lim n)
    · go_wp2_with (go_at_call 14; (with_reducible refine (next_any _ _ _).mono ?_); rintro e w1 ⟨rfl, hb⟩; obtain ⟨l14, n14, rfl⟩ := ext_of hb; clear hb)
      go_region
      go_wp2
      have hN : j + 1 = N := by
        have := Hj.out
        rcases Nat.lt_or_ge (j + 1) N with hl | hl
        · exact absurd hin (Int.not_le.2 (HN.out.2.1 (j + 1) (by omega) hl))
        · omega
      refine bodyPost_ret (v := .tuple #[.int .i64 (U (mix (st s g (j + 1))) % n), .agg #[.int .u64 (U (st s g (j + 1))), .int .u64 (U g)], .int .i64 0]) (by simp [results, Try.results10, go_sem]) rfl ⟨_, _, rfl, hx0 _, hx1 _, ?_, ?_, ?_⟩
      · rw [hN]; exact HN.out.2.2
      · intro h
        subst h
        have : j = 0 := by
          rcases Nat.eq_zero_or_pos j with hz | hz
          · exact hz
          · exact absurd (lim_1 _) (Int.not_le.2 (HN.out.2.1 1 (by omega) (by omega)))
        subst this
        rfl
      · repeat (first | exact Below.refl _ _ | apply Below.drew | apply Below.al | apply Below.ex)
    · have hk2 : 2 ≤ gk := by
        have h := Hj.out
        rcases Nat.lt_or_ge gk 2 with hl | hl
        · have e : j + 1 = N := by omega
          exact absurd (e ▸ HN.out.1) hin
        · exact hl
      go_wp2_with (go_at_call 14; (with_reducible refine (next_any _ _ _).mono ?_); rintro e w1 ⟨rfl, hb⟩; obtain ⟨l14, n14, rfl⟩ := ext_of hb; clear hb)
      go_roundg (gk - 1)
      case measure => omega
      case rel => exact ⟨j + 1, _, _, by have := Hj.out; omega, by omega, rfl⟩
end Go.Proofs.Ytbakhifhjmjpnaa
