/- slices.Clone of a list of numbers or of bytes. -/
import Derived.Test.YtbakhifhjmjpnaaRnd
import Derived.Test.YtbakhifhjmjpnaaMem
import Derived.WalkSpells
namespace Go.Proofs.Ytbakhifhjmjpnaa
open Go.RowKit

theorem Try.info3 : (Try.prog.info? 3).map (fun i => (i.zero, i.size, i.bytes)) = some (some (.int .i64 0), 1, 8) := by kernel_rfl

/-- What a call that hands back a new row says. -/
def Fresh (e : TypeId) (n : Nat) (xs : List Value) (w : World) (en : Ending) (w' : World) : Prop :=
  ∃ v, en = .returned v ∧ w'.ownsRow w.heap.size e 1 v n xs ∧ Below w.heap.size w w'

theorem clone_ints (a : Option Addr) (n : Nat) (xs : List Value) (cap : Nat) (w : World) (hl : xs.length = n) (hn : a = none → n = 0 ∧ cap = 0) (hc : ∀ x, a = some x → ∀ j u, xs[j]? = some u → w.cell? (x.add j) = some u)
    (h1 : ∀ u ∈ xs, u.oneCell' = true) (hr : n * 8 ≤ 140737488355328) :
    Calls Try.prog 8 #[.slice a n cap] w (Fresh 3 n xs w) := by
  obtain ⟨i0, hi, hz0, hz1, hz2⟩ := info_parts Try.info3
  cases a with
  | none =>
    obtain ⟨rfl, rfl⟩ := hn rfl
    obtain rfl : xs = [] := List.eq_nil_of_length_eq_zero hl
    have he := Lib.run_eql_slice_nil (P := Try.prog) w 24 3 none 0 0 0 0 Try.underlying24
    go_enter Try.func8, Try.ntmps8
    go_wp2
    go_ret
    exact ⟨_, rfl, World.ownsRow_nil _ _ _ _, Below.refl _ _⟩
  | some x =>
    have HC := Lib.hid (hc x rfl)
    have H1 := Lib.hid h1
    have HN := Lib.hid hl
    clear hc h1 hn hl
    have he := Lib.run_eql_slice_nil (P := Try.prog) w 24 3 (some x) n cap 0 0 Try.underlying24
    go_enter Try.func8, Try.ntmps8
    go_wp2_with (at_builtin; refine wpList_append_own _ rfl _ _ 24 rfl w.heap.size 3 i0 (.int .i64 0) 1 8 Try.underlying24 hi hz0 hz1 hz2 rfl (by decide) _ 0 [] rfl (World.ownsRow_made w #[] 0 (Nat.le_refl _) (by decide) rfl) x n cap xs rfl (by rw [HN.out]; omega) ?c1 H1.out (by unfold maxLen; omega) (by omega) (by simp) ?_)
    case c1 =>
      intro j u hj
      have := HC.out j u hj
      rw [(World.grownBy_alloc w _ none).cell this (by simp)]
    · intro v' w1 hown hg _
      go_wp2
      go_ret
      refine ⟨_, rfl, by simpa using hown, ?_⟩
      exact ((Below.refl _ _).alloc (Nat.le_refl _) _).grown hg (by simp) (by intro k hk; simp [Value.ownBlock] at hk; omega)

/-- A row of integers, opened. -/
theorem owns_ints {w : World} {B : Nat} {e : TypeId} {k : IntKind} {v : Value} {n : Nat} {zs : List Int} (h : w.ownsRow B e 1 v n (zs.map (Value.int k))) (hn : 1 ≤ n) :
    ∃ g cap, v = .slice (some ⟨g, 0, none⟩) n cap ∧ B ≤ g ∧ g < w.heap.size ∧ n ≤ cap ∧ zs.length = n ∧ (∀ j, j < n → w.cell? ⟨g, j, none⟩ = some (.int k (zs[j]?.getD 0))) ∧ (∀ j, w.frozen? ⟨g, j, none⟩ = false) := by
  obtain ⟨g, cap, rfl, hg, hlt, hnc, _, hl, hc, hf⟩ := owns_open h hn
  refine ⟨g, cap, rfl, hg, hlt, hnc, by simpa using hl, ?_, hf⟩
  intro j hj
  rw [hc j (by omega), List.getElem?_map]
  have : j < zs.length := by simp at hl; omega
  rw [List.getElem?_eq_getElem this]
  rfl
end Go.Proofs.Ytbakhifhjmjpnaa
