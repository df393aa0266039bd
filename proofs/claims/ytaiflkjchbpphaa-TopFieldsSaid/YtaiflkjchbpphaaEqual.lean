/- slices.Equal of two rows of the same numbers. -/
import Derived.Test.YtaiflkjchbpphaaRgrid
namespace Go.Proofs.Ytaiflkjchbpphaa
open Go.RowKit

theorem equal_any (g h n c1 c2 : Nat) (l : List Int) (w : World) (hn : l.length = n) (h1 : IRow w g l) (h2 : IRow w h l) (hg : g < w.heap.size) (hh : h < w.heap.size) (hb : n ≤ 1000) :
    Calls Try.prog 14 #[.slice (some ⟨g, 0, none⟩) n c1, .slice (some ⟨h, 0, none⟩) n c2] w fun e w' => e = .returned (.bool true) ∧ Below w.heap.size w w' := by
  have H1 := Lib.hid (And.intro h1 h2)
  clear h1 h2
  go_enter Try.func14, Try.ntmps14
  go_wp2_with fail
  go_loopw [13] (fun v13 wx => ∃ k : Nat, v13 = .int .i64 k ∧ k ≤ n ∧ Hid (Below w.heap.size w wx)) (fun v13 _ => n - (intOf v13).toNat)
  case atStart => exact ⟨0, rfl, Nat.zero_le _, Below.refl _ _⟩
  case round =>
    obtain ⟨k, rfl, hk, hR⟩ := hrel
    by_cases h0 : k = n
    · have i1 : ¬ (k : Int) < (n : Int) := by omega
      clear h0
      go_wp2_with fail
      go_ret
      exact ⟨rfl, hR.out⟩
    · have hkn : k < n := by omega
      have i1 : (k : Int) < (n : Int) := by omega
      have a0 := (hR.out.cell (p := ⟨g, k, none⟩) hg).trans (H1.out.1.at k (by omega))
      have b0 := (hR.out.cell (p := ⟨h, k, none⟩) hh).trans (H1.out.2.at k (by omega))
      obtain ⟨x, hx⟩ : ∃ x, l[k]'(by omega) = x := ⟨_, rfl⟩
      rw [hx] at a0 b0
      have hs := hR.out.size
      have hg2 : g < wr.heap.size := by omega
      have hh2 : h < wr.heap.size := by omega
      have e1 : (x != x) = false := by simp
      clear hx h0
      go_wp2_with fail
      refine region_grow (by kernel_rfl) (by kernel_rfl) ?_
      repeat (go_big_quiet_step ((fail)))
      refine wpQuiet_nil ?_
      intro _ hw'
      obtain ⟨k9, m9, rfl⟩ := hw'
      have hbe := Lib.hid (hR.out.trans ((below_ext wr k9 m9).mono (by omega)))
      go_wp2_with fail
      go_roundw
      case rel => exact ⟨k + 1, rfl, by omega, hbe.out⟩
      case measure => simp [intOf] <;> omega
end Go.Proofs.Ytaiflkjchbpphaa
