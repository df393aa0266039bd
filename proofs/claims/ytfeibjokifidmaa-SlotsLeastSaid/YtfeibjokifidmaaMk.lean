/- Small contracts for the trees of digests: rnd.Mix, sum.Join, slices.Clone, leaves, tourmake.Below's. -/
import Derived.Test.YtfeibjokifidmaaRows
import Derived.Test.YtfeibjokifidmaaMem
import Derived.Test.YtfeibjokifidmaaExt
import Derived.Test.YtfeibjokifidmaaTail
import Derived.Test.YtfeibjokifidmaaGrow2
import Derived.Test.YtfeibjokifidmaaJoin
import Derived.Deep.DeepCutAuto
import Derived.RegionTactic
import Derived.Deep.RegionWith
import Derived.BigRegion
import Derived.WalkSpells
namespace Go.Proofs.Ytfeibjokifidmaa.M
open Go.RowKit

theorem Try.info37 : (Try.prog.info? 37).map (fun i => (i.zero, i.size, i.bytes)) = some (some (.int .u64 0), 1, 8) := by kernel_rfl
theorem Try.info3 : (Try.prog.info? 3).map (fun i => (i.zero, i.size, i.bytes)) = some (some (.int .i64 0), 1, 8) := by kernel_rfl
/-- Words, as cells. -/
def us (ws : List W64) : List Value := ws.map fun x => .int .u64 (U x)
theorem us_length (ws : List W64) : (us ws).length = ws.length := by simp [us]
theorem us_one (ws : List W64) : ∀ u ∈ us ws, u.oneCell' = true := by
  intro u hu
  unfold us at hu
  obtain ⟨x, _, rfl⟩ := List.mem_map.1 hu
  rfl

theorem mix_any (x : W64) (w : World) :
    Calls Try.prog 67 #[.int .u64 (U x)] w fun e w' => e = .returned (.int .u64 (U (mix x))) ∧ w = w' := by
  go_enter Try.func67, Try.ntmps67
  go_wp2
  go_ret
  rw [mix_eq]
  exact ⟨rfl, rfl⟩

@[go_sem] theorem add_first (a : W64) : IntKind.u64.wrap (U a + 5840696475078001361) = U (a + 5840696475078001361#64) := addC a 5840696475078001361 (by decide)
theorem join_any (a b : W64) (w : World) :
    Calls Try.prog 64 #[.int .u64 (U a), .int .u64 (U b)] w fun e w' => e = .returned (.int .u64 (U (join a b))) ∧ w = w' := by
  go_enter Try.func64, Try.ntmps64
  go_wp2_with (go_at_call 67; (with_reducible refine (mix_any _ _).mono ?_); rintro e w' ⟨rfl, rfl⟩)
  go_ret
  rw [join_eq]
  exact ⟨rfl, rfl⟩

/-- What a call that hands back a new row says. -/
def Fresh (e : TypeId) (n : Nat) (xs : List Value) (w : World) (en : Ending) (w' : World) : Prop :=
  ∃ v, en = .returned v ∧ w'.ownsRow w.heap.size e 1 v n xs ∧ Below w.heap.size w w'

theorem clone_words (a : Option Addr) (n : Nat) (xs : List Value) (cap : Nat) (w : World) (hl : xs.length = n) (hn : a = none → n = 0 ∧ cap = 0) (hc : ∀ x, a = some x → ∀ j u, xs[j]? = some u → w.cell? (x.add j) = some u)
    (h1 : ∀ u ∈ xs, u.oneCell' = true) (hr : n * 8 ≤ 140737488355328) :
    Calls Try.prog 31 #[.slice a n cap] w (Fresh 37 n xs w) := by
  obtain ⟨i0, hi, hz0, hz1, hz2⟩ := info_parts Try.info37
  cases a with
  | none =>
    obtain ⟨rfl, rfl⟩ := hn rfl
    obtain rfl : xs = [] := List.eq_nil_of_length_eq_zero hl
    have he := Lib.run_eql_slice_nil (P := Try.prog) w 35 37 none 0 0 0 0 Try.underlying35
    go_enter Try.func31, Try.ntmps31
    go_wp2
    go_ret
    exact ⟨_, rfl, World.ownsRow_nil _ _ _ _, Below.refl _ _⟩
  | some x =>
    have HC := Lib.hid (hc x rfl)
    have H1 := Lib.hid h1
    have HN := Lib.hid hl
    clear hc h1 hn hl
    have he := Lib.run_eql_slice_nil (P := Try.prog) w 35 37 (some x) n cap 0 0 Try.underlying35
    go_enter Try.func31, Try.ntmps31
    go_wp2_with (at_builtin; refine wpList_append_own _ rfl _ _ 35 rfl w.heap.size 37 i0 (.int .u64 0) 1 8 Try.underlying35 hi hz0 hz1 hz2 rfl (by decide) _ 0 [] rfl (World.ownsRow_made w #[] 0 (Nat.le_refl _) (by decide) rfl) x n cap xs rfl (by rw [HN.out]; omega) ?c1 H1.out (by unfold maxLen; omega) (by omega) (by simp) ?_)
    case c1 =>
      intro j u hj
      have := HC.out j u hj
      rw [(World.grownBy_alloc w _ none).cell this (by simp)]
    · intro v' w1 hown hg _
      go_wp2
      go_ret
      refine ⟨_, rfl, by simpa using hown, ?_⟩
      exact ((Below.refl _ _).alloc (Nat.le_refl _) _).grown hg (by simp) (by intro k hk; simp [Value.ownBlock] at hk; omega)

@[go_sem ↓] theorem conv_word (n : Int) (w : World) : Sem.run Try.prog (Go.convert 3 37 (Value.int .i64 n)) w = Result.ok (Value.int .u64 (U (Wd n))) w := by
  rw [run_convert_int w 3 37 .i64 n (by kernel_rfl) (by kernel_rfl)]
  show Result.ok (Value.int .u64 (IntKind.u64.wrap n)) w = _
  rw [wrap_ofInt, Wd_eq]
set_option maxRecDepth 4000 in
/-- merkle.filled, where the second list is no longer than the first. -/
theorem filled_any (ao bo : Option Addr) (n cap nb capb : Nat) (xs : List Value) (w : World) (hl : xs.length = n) (hn : ao = none → n = 0 ∧ cap = 0)
    (hc : ∀ x, ao = some x → ∀ j u, xs[j]? = some u → w.cell? (x.add j) = some u) (h1 : ∀ u ∈ xs, u.oneCell' = true) (hr : n * 8 ≤ 140737488355328) (hb : nb ≤ n) :
    Calls Try.prog 61 #[.slice ao n cap, .slice bo nb capb] w (Fresh 37 n xs w) := by
  obtain ⟨i0, hi0, hz0, hz1, hz2⟩ := info_parts Try.info37
  have HC := Lib.hid hc
  have H1 := Lib.hid h1
  have HN := Lib.hid hn
  have HL := Lib.hid hl
  clear hc h1 hn hl
  go_enter Try.func61, Try.ntmps61
  go_wp2_with (at_builtin; refine wpList_append_copy _ rfl _ _ 35 rfl 37 i0 (.int .u64 0) 1 8 Try.underlying35 hi0 hz0 hz1 hz2 rfl (by decide) ao n cap xs rfl rfl (by rw [HL.out]; omega) HN.out HC.out H1.out (by unfold maxLen; omega) (by omega) ?_)
  intro v w1 hown hg
  have hB : Below w.heap.size w w1 := (Below.refl _ _).grown hg (Nat.le_refl _) (fun k hk => by cases hk)
  obtain ⟨vo, vc, rfl, _, _, _⟩ := owns_source hown
  have HO := Lib.hid hown
  have HB := Lib.hid hB
  clear hown hg hB
  go_wp2_with fail
  go_loopw [5, 6] (fun v i wr => v = .slice vo n vc ∧ i = .int .i64 n ∧ wr = w1) (fun _ _ _ => 0)
  case atStart => exact ⟨rfl, rfl, rfl⟩
  case round =>
    obtain ⟨rfl, rfl, rfl⟩ := hrel
    go_wp2_with fail
    go_ret
    exact ⟨_, rfl, HO.out, HB.out⟩

/-- A row of one cell that has just been made. -/
theorem made_one (w : World) (e : TypeId) (x : Value) : (w.alloc (.cells #[x] e)).ownsRow w.heap.size e 1 (.slice (some ⟨w.heap.size, 0, none⟩) 1 1) 1 [x] :=
  ⟨by simp, .inr ⟨w.heap.size, 1, #[x], rfl, Nat.le_refl _, heap_alloc_new w _, Nat.le_refl _, by unfold maxLen; omega, by simp, by simp⟩⟩

/-- The lesser one of two numbers. -/
def mn (x y : Int) : Int := if y < x then y else x
theorem run_mn (ts : Array TypeId) (t : TypeId) (k : IntKind) (x y : Int) (w : World) : (Builtin.min_ ts t #[.int k x, .int k y]).run Try.prog w = .ok (.int k (mn x y)) w := by
  rw [run_min_int2]; rfl
attribute [local go_sem ↓] run_mn
/-- The leaves out of a list of numbers. -/
noncomputable def lvs (zs : List Int) : List W64 := Wd zs.length :: (zs.take 59).map Wd
theorem leaves_any (a : Option Addr) (zs : List Int) (len cap : Nat) (w : World) (hl : zs.length = len) (hn : a = none → len = 0 ∧ cap = 0)
    (hc : ∀ x, a = some x → ∀ j u, (zs.map (Value.int .i64))[j]? = some u → w.cell? (x.add j) = some u) (hlc : len ≤ cap) (hr : len ≤ 9223372036854775807) :
    Calls Try.prog 30 #[.slice a len cap] w (Fresh 37 (lvs zs).length (us (lvs zs)) w) := by
  obtain ⟨i3, hi3, _, _, _⟩ := info_parts Try.info3
  obtain ⟨i0, hi0, hz0, hz1, hz2⟩ := info_parts Try.info37
  obtain ⟨n, hcm, hcn, hc2, hcz⟩ : ∃ c : Nat, mn (len : Int) 59 = (c : Int) ∧ c ≤ len ∧ c ≤ 59 ∧ zs.take 59 = zs.take c := by
    unfold mn
    by_cases h : len ≤ 59
    · exact ⟨len, by rw [if_neg (by omega)], by omega, by omega, by rw [List.take_of_length_le (by omega), List.take_of_length_le (by omega)]⟩
    · exact ⟨59, by rw [if_pos (by omega)]; rfl, by omega, by omega, rfl⟩
  have hcut : ∀ W : World, (Instr.slice 22 (.slice a len cap) none (some (.int .i64 (n : Int))) none).run Try.prog W = .ok (.slice a n cap) W := fun W => run_cut W 22 3 a len cap n i3 Try.underlying22 hi3 (by omega) (fun h => (hn h).2)
  have HC : Hid (∀ k, k < n → ∃ x, a = some x ∧ ∀ W, Below w.heap.size w W → W.cell? (x.add k) = some (.int .i64 (zs[k]?.getD 0))) := by
    intro k hk
    cases a with
    | none => have := (hn rfl).1; omega
    | some x =>
      have h := hc x rfl k (.int .i64 (zs[k]?.getD 0)) (by rw [List.getElem?_map, List.getElem?_eq_getElem (by omega)]; rfl)
      exact ⟨x, rfl, fun W hW => (hW.cell (World.block_lt_of_cell? w _ h)).trans h⟩
  have hlen : (lvs zs).length = n + 1 := by unfold lvs; rw [hcz]; simp; omega
  have hvs : us (lvs zs) = .int .u64 (U (Wd len)) :: ((zs.take n).map fun z => .int .u64 (U (Wd z))) := by
    unfold lvs us; rw [hcz, List.map_cons, List.map_map, hl]; rfl
  rw [hlen, hvs]
  have HL := Lib.hid hl
  clear hn hc hl hcz hlen hvs
  go_enter Try.func30, Try.ntmps30
  go_wp2_with fail
  have hown := made_one w 37 (.int .u64 (U (Wd len)))
  have HO := Lib.hid hown
  clear hown
  go_loopw [3, 5, 16] (fun v _ i wr => ∃ k : Nat, k ≤ n ∧ i = .int .i64 k ∧ wr.ownsRow w.heap.size 37 1 v (k + 1) (.int .u64 (U (Wd len)) :: ((zs.take k).map fun z => .int .u64 (U (Wd z)))) ∧ Below w.heap.size w wr) (fun _ _ i _ => n - (intOf i).toNat)
  case atStart => exact ⟨0, Nat.zero_le _, rfl, HO.out, (Below.refl _ _).alloc (Nat.le_refl _) _⟩
  case round =>
    obtain ⟨k, hk, rfl, hown, hbr⟩ := hrel
    by_cases hlt : k < n
    · obtain ⟨x, rfl, hx⟩ := HC.out k hlt
      have hck := hx wr hbr
      obtain ⟨z, hz⟩ : ∃ z, zs[k]?.getD 0 = z := ⟨_, rfl⟩
      rw [hz] at hck
      have hzk : Hid (zs.take (k + 1) = zs.take k ++ [z]) := by
        have hkl : k < zs.length := by rw [HL.out]; omega
        rw [List.getElem?_eq_getElem hkl] at hz
        rw [Hid, List.take_succ_eq_append_getElem hkl]
        simp at hz
        rw [hz]
      clear hx hz
      have hsz := hbr.size
      go_wp2_with (at_builtin; refine wpList_append_own _ rfl _ _ 35 rfl w.heap.size 37 i0 (.int .u64 0) 1 8 Try.underlying35 hi0 hz0 hz1 hz2 rfl (by decide) _ (k + 1) _ rfl (hown.alloc _) ⟨wr.heap.size, 0, none⟩ 1 1 [.int .u64 (U (Wd z))] rfl rfl (new_one _ _ _) (one_ok rfl) (by unfold maxLen; omega) (by omega) (by simp; omega) ?_)
      intro v' w1 hown' hg _
      have hb' : Below w.heap.size w w1 := (hbr.alloc hsz _).grown hg (by simp; omega) (fun q hq => (hown.lt q hq).1)
      have hown2 : w1.ownsRow w.heap.size 37 1 v' (k + 1 + 1) (.int .u64 (U (Wd len)) :: ((zs.take (k + 1)).map fun z => .int .u64 (U (Wd z)))) := by
        rw [hzk.out, List.map_append]; simpa [List.map_take] using hown'
      have HO2 := Lib.hid hown2
      clear hown' hown hown2 hg
      go_wp2
      go_roundw
      case rel => exact ⟨k + 1, by omega, by go_num, HO2.out, hb'⟩
      case measure => simp [intOf]; omega
    · obtain rfl : k = n := by omega
      go_wp2
      go_ret
      exact ⟨_, rfl, hown, hbr⟩
end Go.Proofs.Ytfeibjokifidmaa.M
