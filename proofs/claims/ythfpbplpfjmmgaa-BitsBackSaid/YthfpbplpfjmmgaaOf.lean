/- rnd.Of of a list of numbers. -/
import Derived.Test.YthfpbplpfjmmgaaRnd
namespace Go.Proofs.Ythfpbplpfjmmgaa
open Go.RowKit

/-- rnd.Of's state behind some numbers. -/
noncomputable def ofAcc (s : W64) (zs : List Int) : W64 := zs.foldl (fun s n => mix (s + golden) ^^^ Wd n) s
theorem ofAcc_snoc (s : W64) (zs : List Int) (n : Int) : ofAcc s (zs ++ [n]) = mix (ofAcc s zs + golden) ^^^ Wd n := by
  unfold ofAcc; rw [List.foldl_append]; rfl
theorem take_snoc' (zs : List Int) (k : Nat) (h : k < zs.length) : zs.take (k + 1) = zs.take k ++ [zs[k]?.getD 0] := by
  rw [List.take_succ_eq_append_getElem h, List.getElem?_eq_getElem h]; rfl
noncomputable def ofState (zs : List Int) : W64 := mix (ofAcc (Wd zs.length) zs + golden)
noncomputable def ofGamma (zs : List Int) : W64 := mix (ofState zs + golden) ||| 1#64

theorem of_any (b off cap : Nat) (zs : List Int) (w : World) (hmax : zs.length ≤ 9223372036854775807)
    (hc : ∀ k, k < zs.length → w.cell? ⟨b, off + k, none⟩ = some (.int .i64 (zs[k]?.getD 0))) (hb : b < w.heap.size) :
    Calls Try.prog 16 #[.slice (some ⟨b, off, none⟩) zs.length cap] w fun e w' => e = .returned (.agg #[.int .u64 (U (ofState zs)), .int .u64 (U (ofGamma zs))]) ∧ Below w.heap.size w w' := by
  obtain ⟨len, hlen⟩ : ∃ len, len = zs.length := ⟨_, rfl⟩
  have HL := Lib.hid hlen
  rw [← hlen] at hmax hc ⊢
  clear hlen
  go_enter Try.func16, Try.ntmps16
  go_wp2_with fail
  go_loopw [3, 5, 11] (fun s _ i wr => ∃ k : Nat, k ≤ len ∧ i = .int .i64 k ∧ s = .int .u64 (U (ofAcc (Wd len) (zs.take k))) ∧ wr = w.alloc (Obj.cells #[Value.int IntKind.u64 0, Value.int IntKind.u64 0] 25)) (fun _ _ i _ => len - (intOf i).toNat)
  case atStart => exact ⟨0, Nat.zero_le _, rfl, rfl, rfl⟩
  case round =>
    obtain ⟨k, hk, rfl, rfl, rfl⟩ := hrel
    by_cases hlt : k < len
    · have hck := hc k hlt
      have hsn : Hid (ofAcc (Wd len) (zs.take (k + 1)) = mix (ofAcc (Wd len) (zs.take k) + golden) ^^^ Wd (zs[k]?.getD 0)) := by
        rw [take_snoc' zs k (by rw [← HL.out]; exact hlt)]; exact ofAcc_snoc _ _ _
      clear hc
      go_wp2_with (go_at_call 19; (with_reducible refine (mix_any _ _).mono ?_); rintro e w' ⟨rfl, rfl⟩)
      go_roundw
      case rel => exact ⟨k + 1, by omega, by go_num, by rw [hsn.out], by first | rfl | trivial⟩
      case measure => simp [intOf]; omega
    · have hke : k = len := by omega
      subst hke
      clear hc
      go_wp2_with (go_at_call 19; (with_reducible refine (mix_any _ _).mono ?_); rintro e w' ⟨rfl, rfl⟩)
      have e1 : zs.take k = zs := List.take_of_length_le (by rw [← HL.out]; exact Nat.le_refl _)
      have e2 : ofState zs = mix (ofAcc (Wd (k : Int)) (zs.take k) + golden) := by unfold ofState; rw [e1, ← HL.out]
      exact bodyPost_ret (v := .agg #[.int .u64 (U (mix (ofAcc (Wd (k : Int)) (zs.take k) + golden))), .int .u64 (U (mix (mix (ofAcc (Wd (k : Int)) (zs.take k) + golden) + golden) ||| 1#64))]) (by simp [results, Try.results16, go_sem]) rfl
        ⟨by unfold ofGamma; rw [e2], by repeat (first | exact Below.refl _ _ | apply Below.drew | apply Below.al | apply Below.ex)⟩
end Go.Proofs.Ythfpbplpfjmmgaa
