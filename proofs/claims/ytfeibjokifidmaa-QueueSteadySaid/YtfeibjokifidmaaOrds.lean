/- Small contracts for QueueOrder: slices.Equal, slices.IsSorted, cmp.Less. -/
import Derived.Test.YtfeibjokifidmaaSort
namespace Go.Proofs.Ytfeibjokifidmaa
open Go.RowKit

theorem region_grow_ext {P : Program} {id : Nat} {Q : Exit → Act → World → Prop} {a : Act} {w : World} {l0 : List Obj} {n0 : Nat} {l : List Oper} (hm : P.follows .mixedOrders = true) (hB : Region.lexB .any l.toArray = true)
    (h : wpQuiet P l.toArray (fun w' => ∃ k n, w' = ext w k n) (fun a' => ∀ w', (∃ k n, w' = ext w k n) → Q .normal a' w') l a) : (Code.region id l.toArray true).wp P Q a (ext w l0 n0) :=
  wp_region_quiet (C := fun w' => ∃ k n, w' = ext w k n) hm hB ⟨l0, n0 + 1, by simp [ext]⟩ (by simpa using h)

theorem equal_ints (a b n ca cb : Nat) (bs : List Int) (w : World) (hn : n ≤ 140737488351232) (hal : a < w.heap.size) (hbl : b < w.heap.size)
    (ha : ∀ k, k < n → w.cell? ⟨a, k, none⟩ = some (.int .i64 (bs[k]?.getD 0))) (hb : ∀ k, k < n → w.cell? ⟨b, k, none⟩ = some (.int .i64 (bs[k]?.getD 0))) :
    Calls Try.prog 35 #[.slice (some ⟨a, 0, none⟩) n ca, .slice (some ⟨b, 0, none⟩) n cb] w fun e w' => e = .returned (.bool true) ∧ Below w.heap.size w w' := by
  go_enter Try.func35, Try.ntmps35
  go_wp2
  go_loopw [5, 13] (fun _ i wr => ∃ (k : Nat) (l : List Obj) (m : Nat), k ≤ n ∧ i = .int .i64 k ∧ wr = Ytfeibjokifidmaa.ext w l m) (fun _ i _ => n - (intOf i).toNat)
  case atStart => exact ⟨0, [], _, by omega, rfl, (ext_nil _).symm⟩
  case round =>
    obtain ⟨k, l, m, hk, rfl, rfl⟩ := hrel
    by_cases hlt : k < n
    · have h1 := ha k hlt
      have h2 := hb k hlt
      clear ha hb
      go_wp2
      refine region_grow_ext (by kernel_rfl) (by kernel_rfl) ?_
      repeat (go_big_quiet_step ((fail)))
      refine wpQuiet_nil ?_
      intro _ hw'
      obtain ⟨kk, mm, rfl⟩ := hw'
      go_wp2
      go_roundw
      case rel => exact ⟨k + 1, _, _, by omega, by go_num, rfl⟩
      case measure => simp [intOf]; omega
    · obtain rfl : k = n := by omega
      clear ha hb
      go_wp2
      go_ret
      exact ⟨rfl, below_ext _ _ _⟩

theorem nan_any (x : Int) (w : World) : Calls Try.prog 66 #[.int .i64 x] w fun e w' => e = .returned (.bool false) ∧ w = w' := by
  go_enter Try.func66, Try.ntmps66
  go_wp2
  go_ret
  refine ⟨?_, rfl⟩
  exact ret_bool (by simp)
theorem less_any (x y : Int) (w : World) : Calls Try.prog 62 #[.int .i64 x, .int .i64 y] w fun e w' => e = .returned (.bool (decide (x < y))) ∧ w = w' := by
  go_enter Try.func62, Try.ntmps62
  go_wp2_with (first
    | (go_at_call 66; (with_reducible refine (nan_any x _).mono ?_); rintro e w1 ⟨rfl, rfl⟩)
    | (go_at_call 66; (with_reducible refine (nan_any y _).mono ?_); rintro e w1 ⟨rfl, rfl⟩))
  go_ret
  exact ⟨rfl, rfl⟩

theorem sorted_row (v : Value) (n B : Nat) (ss : List Int) (w : World) (hl : ss.length = n) (hn : n ≤ 4096) (hs : ss.Pairwise (· ≤ ·)) (hown : w.ownsRow B 3 1 v n (ss.map (Value.int .i64))) :
    Calls Try.prog 36 #[v] w fun e w' => e = .returned (.bool true) ∧ Below w.heap.size w w' := by
  have HC : Hid (∀ k, k < n → ∃ g cap, v = .slice (some ⟨g, 0, none⟩) n cap ∧ g < w.heap.size ∧ (∀ j, j < n → w.cell? ⟨g, j, none⟩ = some (.int .i64 (ss[j]?.getD 0)))) := by
    intro k hk
    obtain ⟨g, cap, h1, _, h2, _, _, _, h3, _⟩ := owns_open hown (by omega)
    refine ⟨g, cap, h1, h2, ?_⟩
    intro j hj
    rw [h3 j (by omega), List.getElem?_map, List.getElem?_eq_getElem (by omega)]
    rfl
  obtain ⟨ao, cap, rfl, _, _, _⟩ := owns_source hown
  have HS : Hid (∀ k, 1 ≤ k → k < n → decide (ss[k]?.getD 0 < ss[k - 1]?.getD 0) = false) := by
    intro k h1 hk
    rw [List.pairwise_iff_getElem] at hs
    have := hs (k - 1) k (by omega) (by omega) (by omega)
    rw [List.getElem?_eq_getElem (by omega), List.getElem?_eq_getElem (by omega)]
    simp only [Option.getD_some, decide_eq_false_iff_not]
    omega
  clear hs hown hl
  go_enter Try.func36, Try.ntmps36
  go_wp2
  go_loopw [3] (fun i wr => ∃ (k : Int) (l : List Obj) (m : Nat), k < n ∧ -1 ≤ k ∧ i = .int .i64 k ∧ wr = Ytfeibjokifidmaa.ext w l m) (fun i _ => (intOf i).toNat)
  case atStart => exact ⟨(n : Int) - 1, [], _, by omega, by omega, rfl, (ext_nil _).symm⟩
  case round =>
    obtain ⟨i, l, m, hk, hk1, rfl, rfl⟩ := hrel
    by_cases hlt : 0 < i
    · obtain ⟨k, rfl, hkn⟩ : ∃ k : Nat, i = ((k + 1 : Nat) : Int) ∧ k + 1 < n := ⟨(i - 1).toNat, by omega, by omega⟩
      obtain ⟨g, c, hv, hg, hc⟩ := HC.out k (by omega)
      injection hv with e1 _ e3
      subst e1 e3
      have h1 := hc (k + 1) (by omega)
      have h2 := hc k (by omega)
      have h3 := HS.out (k + 1) (by omega) (by omega)
      rw [Nat.add_sub_cancel] at h3
      obtain ⟨x, hx⟩ : ∃ x, ss[k + 1]?.getD 0 = x := ⟨_, rfl⟩
      obtain ⟨y, hy⟩ : ∃ y, ss[k]?.getD 0 = y := ⟨_, rfl⟩
      rw [hx] at h1 h3
      rw [hy] at h2 h3
      have h4 : ((k + 1 : Nat) : Int) - 1 = (k : Int) := by omega
      have hlx := less_any x y
      rw [h3] at hlx
      have HLX := Lib.hid hlx
      clear hc hx hy h3 hlx
      go_wp2
      refine region_grow_ext (by kernel_rfl) (by kernel_rfl) ?_
      repeat (go_big_quiet_step ((intro _; go_at_call 62; exact grow_same (HLX.out _))))
      refine wpQuiet_nil ?_
      intro _ hw'
      obtain ⟨kk, mm, rfl⟩ := hw'
      go_wp2
      go_roundw
      case rel => exact ⟨_, _, _, by omega, by omega, rfl, rfl⟩
      case measure => simp [intOf]
    · go_wp2
      go_ret
      exact ⟨rfl, below_ext _ _ _⟩
/-- The lesser one of two numbers. -/
def mn (x y : Int) : Int := if y < x then y else x
theorem run_mn (ts : Array TypeId) (t : TypeId) (k : IntKind) (x y : Int) (w : World) : (Builtin.min_ ts t #[.int k x, .int k y]).run Try.prog w = .ok (.int k (mn x y)) w := by
  rw [run_min_int2]; rfl

/-- A row of noes that has just been made. -/
theorem made_bools {w : World} {B : Nat} {e : TypeId} {g cap n : Nat} (h : w.ownsRow B e 1 (.slice (some ⟨g, 0, none⟩) n cap) n (madeCells #[.bool false] n).toList) :
    g < w.heap.size ∧ (∀ j, j < n → w.cell? ⟨g, j, none⟩ = some (.bool false)) ∧ (∀ j, w.frozen? ⟨g, j, none⟩ = false) := by
  obtain ⟨_, h2, _, _, h5, h6⟩ := owns_at h
  refine ⟨h2, fun j hj => ?_, h6⟩
  rw [h5 j (by omega), toList_madeCells_one, List.getElem?_replicate, if_pos hj]
theorem set_bools {w : World} {g N : Nat} {p : Nat → Bool} (hc : ∀ i, i < N → w.cell? ⟨g, i, none⟩ = some (.bool (p i))) (j : Nat) :
    ∀ i, i < N → (w.setCell ⟨g, j, none⟩ (.bool true)).cell? ⟨g, i, none⟩ = some (.bool (p i || decide (i = j))) := by
  intro i hi
  by_cases h : j = i
  · subst h
    rw [World.cell?_setCell_same _ _ _ (hc j hi)]; simp
  · rw [World.cell?_setCell_other _ _ _ _ (fun e => h (congrArg Addr.off e)), hc i hi]
    simp [show ¬ i = j from fun e => h e.symm]
end Go.Proofs.Ytfeibjokifidmaa
