/- Rows of numbers in a block; quat.sum. -/
import Derived.Test.YtdnepccjgclgiaaVturn
import Derived.Test.YtdnepccjgclgiaaUnit
namespace Go.Proofs.Ytdnepccjgclgiaa
open Go.RowKit

/-- Numbers in a block. -/
def IRow (W : World) (g : Nat) (l : List Int) : Prop := (∀ k, k < l.length → W.cell? ⟨g, k, none⟩ = some (.int .i64 (l[k]?.getD 0))) ∧ ∀ k, k < l.length → W.frozen? ⟨g, k, none⟩ = false
theorem IRow.set {W : World} {g : Nat} {l : List Int} (h : IRow W g l) (k : Nat) (x : Int) : IRow (W.setCell ⟨g, k, none⟩ (.int .i64 x)) g (l.set k x) := by
  refine ⟨fun j hj => ?_, fun j hj => by rw [World.frozen?_setCell]; exact h.2 j (by rwa [List.length_set] at hj)⟩
  rw [List.length_set] at hj
  by_cases e : k = j
  · subst e
    rw [World.cell?_setCell_same _ _ _ (h.1 k hj), List.getElem?_set_self hj]; rfl
  · rw [World.cell?_setCell_other _ _ _ _ (fun e' => e (congrArg Addr.off e')), h.1 j hj, List.getElem?_set_ne e]
theorem IRow.below {B : Nat} {W W' : World} {g : Nat} {l : List Int} (h : IRow W g l) (hb : Below B W W') (hg : g < B) : IRow W' g l :=
  ⟨fun k hk => (hb.cell (p := ⟨g, k, none⟩) hg).trans (h.1 k hk), fun k hk => (hb.frozen (p := ⟨g, k, none⟩) hg).trans (h.2 k hk)⟩
theorem IRow.at {W : World} {g : Nat} {l : List Int} (h : IRow W g l) (k : Nat) (hk : k < l.length) : W.cell? ⟨g, k, none⟩ = some (.int .i64 l[k]) := by
  rw [h.1 k hk, List.getElem?_eq_getElem hk]; rfl

/-- quat.sum. -/
def qsum (l : List Int) : Int := l.foldl fadd 0
theorem qsum_take {l : List Int} {i : Nat} (h : i < l.length) : fadd (qsum (l.take i)) l[i] = qsum (l.take (i + 1)) := by
  unfold qsum
  rw [List.take_succ_eq_append_getElem h, List.foldl_append]; rfl

theorem sum_any (g n cap : Nat) (l : List Int) (w : World) (hl : l.length = n) (hn : n ≤ 16) (h : IRow w g l) :
    Calls Try.prog 79 #[.slice (some ⟨g, 0, none⟩) n cap] w fun e w' => e = .returned (.int .i64 (qsum l)) ∧ w = w' := by
  have HL := Lib.hid hl
  have HR := Lib.hid h
  clear h hl
  go_enter Try.func79, Try.ntmps79
  go_wp2_with fail
  go_loopw [3, 8] (fun v3 v8 wr => ∃ i : Nat, v8 = .int .i64 (i : Int) ∧ i ≤ n ∧ v3 = .int .i64 (qsum (l.take i)) ∧ wr = w) (fun _ v8 _ => n - (intOf v8).toNat)
  case atStart => exact ⟨0, rfl, Nat.zero_le _, rfl, rfl⟩
  case round =>
    obtain ⟨i, rfl, hi, rfl, rfl⟩ := hrel
    by_cases h0 : i = n
    · have i1 : ¬ (i : Int) < (n : Int) := by omega
      have e := HL.out
      rw [List.take_of_length_le (by omega)]
      clear e h0
      go_wp2_with fail
      go_ret
      exact ⟨rfl, rfl⟩
    · have hil : i < l.length := by rw [HL.out]; omega
      have hc := HR.out.at i hil
      have hs := Lib.hid (qsum_take hil)
      have i1 : (i : Int) < (n : Int) := by omega
      obtain ⟨x, hx⟩ : ∃ x, l[i] = x := ⟨_, rfl⟩
      obtain ⟨s, hs'⟩ : ∃ s, qsum (l.take i) = s := ⟨_, rfl⟩
      rw [hx] at hc hs
      rw [hs'] at hs ⊢
      clear hx hs'
      go_wp2_with (go_at_call 46; (with_reducible refine (fadd_any _ _ _).mono ?_); rintro e w1 ⟨rfl, rfl⟩)
      go_roundw
      case rel => exact ⟨i + 1, rfl, by omega, by rw [hs.out], by first | rfl | trivial⟩
      case measure => simp [intOf]; omega
end Go.Proofs.Ytdnepccjgclgiaa
