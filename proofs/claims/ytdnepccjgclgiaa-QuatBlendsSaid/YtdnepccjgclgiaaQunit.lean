/- quat.unit: numbers in a row, turned to the length One. -/
import Derived.Test.YtdnepccjgclgiaaQrow
import Derived.Test.YtdnepccjgclgiaaMem
namespace Go.Proofs.Ytdnepccjgclgiaa
open Go.RowKit

/-- max of three numbers. -/
theorem run_mx3 (ts : Array TypeId) (t : TypeId) (k : IntKind) (x y z : Int) (w : World) : (Builtin.max_ ts t #[.int k x, .int k y, .int k z]).run Try.prog w = .ok (.int k (mx (mx x y) z)) w := by
  have h2 : ∀ (x y : Int) (w : World), (Builtin.max2 (.int k x) (.int k y)).run Try.prog w = .ok (.int k (mx x y)) w := by
    intro x y w; simp [Builtin.max2, mx]
  simp [Builtin.max_, h2]
attribute [local go_sem ↓] run_mx run_mx4 run_mx3

/-- The greatest absolute value. -/
def most (l : List Int) : Int := l.foldl (fun m x => mx (mx m x) (-x)) 0
theorem mx3_abs (m x : Int) : mx (mx m x) (-x) = if m < x.natAbs then (x.natAbs : Int) else m := by
  unfold mx; repeat' split
  all_goals omega
theorem most_take {l : List Int} {i : Nat} (h : i < l.length) : mx (mx (most (l.take i)) l[i]) (-l[i]) = most (l.take (i + 1)) := by
  unfold most
  rw [List.take_succ_eq_append_getElem h, List.foldl_append]; rfl
theorem most_fold (l : List Int) : ∀ m, m ≤ l.foldl (fun m x => mx (mx m x) (-x)) m ∧ (∀ x, x ∈ l → (x.natAbs : Int) ≤ l.foldl (fun m x => mx (mx m x) (-x)) m) ∧ (l.foldl (fun m x => mx (mx m x) (-x)) m = m ∨ ∃ x, x ∈ l ∧ l.foldl (fun m x => mx (mx m x) (-x)) m = x.natAbs) := by
  induction l with
  | nil => intro m; simp
  | cons y l ih =>
    intro m
    obtain ⟨h1, h2, h3⟩ := ih (mx (mx m y) (-y))
    have e := mx3_abs m y
    rw [List.foldl_cons]
    refine ⟨?_, fun x hx => ?_, ?_⟩
    · split at e <;> omega
    · rcases List.mem_cons.1 hx with rfl | hx
      · split at e <;> omega
      · exact h2 x hx
    · rcases h3 with h3 | ⟨x, hx, h3⟩
      · split at e
        · exact .inr ⟨y, by simp, by rw [h3, e]⟩
        · exact .inl (by rw [h3, e])
      · exact .inr ⟨x, by simp [hx], h3⟩
theorem most_nn (l : List Int) : 0 ≤ most l := (most_fold l 0).1
theorem most_le (l : List Int) {x : Int} (h : x ∈ l) : (x.natAbs : Int) ≤ most l := (most_fold l 0).2.1 x h
theorem most_is (l : List Int) : most l = 0 ∨ ∃ x, x ∈ l ∧ most l = x.natAbs := (most_fold l 0).2.2
theorem most_bd (l : List Int) (n : Int) (hn : 0 ≤ n) (h : ∀ x ∈ l, -n ≤ x ∧ x ≤ n) : most l ≤ n := by
  rcases most_is l with h0 | ⟨x, hx, h0⟩
  · omega
  · have := h x hx; omega

/-- The row with its first numbers clamped. -/
def filled (l : List Int) (i : Nat) : List Int := l.take i ++ List.replicate (l.length - i) 0
theorem filled_len (l : List Int) (i : Nat) (h : i ≤ l.length) : (filled l i).length = l.length := by simp [filled]; omega
theorem filled_zero (l : List Int) : filled l 0 = List.replicate l.length 0 := by simp [filled]
theorem filled_all (l : List Int) : filled l l.length = l := by simp [filled]
theorem filled_set {l : List Int} {i : Nat} (h : i < l.length) : (filled l i).set i l[i] = filled l (i + 1) := by
  unfold filled
  have hl : (l.take i).length = i := by simp; omega
  rw [List.set_append_right _ _ (by omega), hl, Nat.sub_self, show l.length - i = (l.length - (i + 1)) + 1 by omega, List.replicate_succ, List.set_cons_zero, List.take_succ_eq_append_getElem h]
  simp only [List.append_assoc, List.singleton_append]

theorem filled_at {l : List Int} {i : Nat} (h : i < l.length) : (filled l (i + 1))[i]?.getD 0 = l[i] := by
  unfold filled
  rw [List.getElem?_append_left (by simp; omega), List.getElem?_take_of_lt (Nat.lt_succ_self i), List.getElem?_eq_getElem h]; rfl

/-- The row with a function applied to its first numbers. -/
def turned (f : Int → Int) (l : List Int) (i : Nat) : List Int := (l.take i).map f ++ l.drop i
theorem turned_len (f : Int → Int) (l : List Int) (i : Nat) : (turned f l i).length = l.length := by simp [turned]; omega
theorem turned_zero (f : Int → Int) (l : List Int) : turned f l 0 = l := by simp [turned]
theorem turned_all (f : Int → Int) (l : List Int) : turned f l l.length = l.map f := by simp [turned]
theorem turned_at (f : Int → Int) {l : List Int} {i : Nat} (h : i < l.length) : (turned f l i)[i]? = some l[i] := by
  unfold turned
  have hl : ((l.take i).map f).length = i := by simp; omega
  rw [List.getElem?_append_right (by omega), hl, Nat.sub_self, List.getElem?_drop]
  simp [h]
theorem turned_set (f : Int → Int) {l : List Int} {i : Nat} (h : i < l.length) : (turned f l i).set i (f l[i]) = turned f l (i + 1) := by
  unfold turned
  have hl : ((l.take i).map f).length = i := by simp; omega
  rw [List.set_append_right _ _ (by omega), hl, Nat.sub_self, List.drop_eq_getElem_cons h, List.set_cons_zero, List.take_succ_eq_append_getElem h]
  simp only [List.map_append, List.append_assoc, List.singleton_append, List.map_cons, List.map_nil]

/-- The sum of the squares. -/
def ssq (l : List Int) : Nat := l.foldl (fun s x => s + x.natAbs * x.natAbs) 0
theorem ssq_take {l : List Int} {i : Nat} (h : i < l.length) : ssq (l.take (i + 1)) = ssq (l.take i) + l[i].natAbs * l[i].natAbs := by
  unfold ssq
  rw [List.take_succ_eq_append_getElem h, List.foldl_append]; rfl

theorem scaled_le {l : List Int} {s : Int} (h : most l = s) (j : Nat) {u : Int} (hu : u ∈ l.map (fun x => x * 2 ^ j)) : -(s * 2 ^ j) ≤ u ∧ u ≤ s * 2 ^ j := by
  obtain ⟨x, hx, rfl⟩ := List.mem_map.1 hu
  have := most_le l hx
  have hp : (0 : Int) ≤ 2 ^ j := Int.le_of_lt (Int.pow_pos (by omega))
  have h1 := Int.mul_le_mul_of_nonneg_right (show x ≤ s by omega) hp
  have h2 := Int.mul_le_mul_of_nonneg_right (show -s ≤ x by omega) hp
  rw [Int.neg_mul] at h2
  exact ⟨h2, h1⟩
theorem scale_succ (l : List Int) (j : Nat) : (l.map (fun x => x * 2 ^ j)).map (fun u => u * 2) = l.map (fun x => x * 2 ^ (j + 1)) := by
  rw [List.map_map]
  congr 1
  funext x
  simp only [Function.comp, Int.pow_succ, Int.mul_assoc]
theorem scale_zero (l : List Int) : l.map (fun x => x * 2 ^ 0) = l := by simp
/-- The rounded part of One. -/
def qu (d : Nat) (u : Int) : Int := (131072 * u + d) / (2 * d)
def QUnit (l L : List Int) : Prop := ∃ j d : Nat, d = rt (ssq (l.map (fun x => x * 2 ^ j))) ∧ 1073741824 ≤ most l * 2 ^ j ∧ most l * 2 ^ j < 2147483648 ∧ L = (l.map (fun x => x * 2 ^ j)).map (qu d)

theorem ssq_fold (l : List Int) (h : ∀ u ∈ l, u.natAbs ≤ 2147483648) : ∀ s, l.foldl (fun s x => s + x.natAbs * x.natAbs) s ≤ s + l.length * 4611686018427387904 ∧ s ≤ l.foldl (fun s x => s + x.natAbs * x.natAbs) s ∧ ∀ u ∈ l, u.natAbs * u.natAbs ≤ l.foldl (fun s x => s + x.natAbs * x.natAbs) s := by
  induction l with
  | nil => intro s; simp
  | cons y l ih =>
    intro s
    obtain ⟨h1, h2, h3⟩ := ih (fun u hu => h u (by simp [hu])) (s + y.natAbs * y.natAbs)
    have hy : y.natAbs * y.natAbs ≤ 2147483648 * 2147483648 := Nat.mul_le_mul (h y (by simp)) (h y (by simp))
    rw [List.foldl_cons]
    refine ⟨by rw [List.length_cons]; omega, by omega, fun u hu => ?_⟩
    rcases List.mem_cons.1 hu with rfl | hu
    · omega
    · exact h3 u hu
theorem ssq_le (l : List Int) (h : ∀ u ∈ l, u.natAbs ≤ 2147483648) : ssq l ≤ l.length * 4611686018427387904 := by
  have := (ssq_fold l h 0).1
  unfold ssq; omega
theorem le_ssq (l : List Int) (h : ∀ u ∈ l, u.natAbs ≤ 2147483648) {u : Int} (hu : u ∈ l) : u.natAbs * u.natAbs ≤ ssq l := (ssq_fold l h 0).2.2 u hu
theorem le_rt {X n : Nat} (h : n * n ≤ X) : n ≤ rt X := by
  have := (rt_is X).2
  rcases Nat.lt_or_ge (rt X) n with h' | h'
  · have := Nat.mul_le_mul (show rt X + 1 ≤ n by omega) (show rt X + 1 ≤ n by omega)
    omega
  · exact h'
theorem words_add (S q : Nat) (h : S + q < 18446744073709551616 * 4294967296) : loW (loW S + loW q) = loW (S + q) ∧ loW (hiW S + hiW q + hiW (loW S + loW q)) = hiW (S + q) := by
  unfold loW hiW; omega
theorem join_words (S : Nat) : join (hiW S) (loW S) = S := by unfold join hiW loW; omega

theorem info_parts3 : ∃ i, Try.prog.info? 3 = some i ∧ i.zero = some (.int .i64 0) ∧ i.size = 1 ∧ i.bytes = 8 := by
  have h : (Try.prog.info? 3).map (fun i => (i.zero, i.size, i.bytes)) = some (some (.int .i64 0), 1, 8) := by kernel_rfl
  cases hi : Try.prog.info? 3 with
  | none => rw [hi] at h; cases h
  | some i =>
    rw [hi] at h
    simp only [Option.map_some, Option.some.injEq, Prod.mk.injEq] at h
    exact ⟨i, rfl, h.1, h.2.1, h.2.2⟩

set_option maxRecDepth 8000 in
set_option maxHeartbeats 2000000 in
theorem qunit_any (g n cap : Nat) (l : List Int) (w : World) (hl : l.length = n) (hn : n ≤ 4) (hg : g < w.heap.size) (h : IRow w g l) (hb : ∀ x ∈ l, -1073741824 ≤ x ∧ x ≤ 1073741824) :
    Calls Try.prog 80 #[.slice (some ⟨g, 0, none⟩) n cap] w fun e w' => ((most l = 0 ∧ e = .returned (.tuple #[.slice none 0 0, .bool false])) ∨ (¬ most l = 0 ∧ e = .returned (.tuple #[.slice (some ⟨w.heap.size, 0, none⟩) n n, .bool true]) ∧ w.heap.size < w'.heap.size ∧ ∃ L, QUnit l L ∧ IRow w' w.heap.size L)) ∧ Below w.heap.size w w' := by
  obtain ⟨i0, hi0, hz0, hz1, hz2⟩ := info_parts3
  have HL := Lib.hid hl
  have HR := Lib.hid h
  have HB := Lib.hid hb
  clear h hl hb
  go_enter Try.func80, Try.ntmps80
  go_wp2_with (refine wpList_make_full _ rfl _ _ 81 rfl w.heap.size 3 i0 (.int .i64 0) 1 Try.underlying81 hi0 hz0 hz1 .i64 .i64 _ _ n rfl rfl rfl rfl (by rw [hz2]; omega) (by unfold maxLen; omega) (Nat.le_refl _) ?_)
  intro W1 own1 hg1
  have hb1 : Below w.heap.size w W1 := (Below.refl _ _).grown hg1 (Nat.le_refl _) (fun k hk => by cases hk)
  obtain ⟨hlt1, hc1, hf1⟩ := made_ints own1
  clear own1 hg1
  have HR1 := Lib.hid (show IRow W1 w.heap.size (List.replicate n 0) from ⟨fun k hk => hc1 k (by simpa using hk), fun k _ => hf1 k⟩)
  have HB1 := Lib.hid hb1
  clear hc1 hf1 hb1
  go_wp2_with fail
  go_loopw [4, 25] (fun v4 v25 wr => ∃ i : Nat, v25 = .int .i64 (i : Int) ∧ i ≤ n ∧ v4 = .int .i64 (most (l.take i)) ∧ IRow wr w.heap.size (filled l i) ∧ w.heap.size < wr.heap.size ∧ Below w.heap.size w wr) (fun _ v25 _ => n - (intOf v25).toNat)
  case atStart => exact ⟨0, rfl, Nat.zero_le _, rfl, by rw [filled_zero, HL.out]; exact HR1.out, hlt1, HB1.out⟩
  case round =>
    obtain ⟨i, rfl, hi, rfl, hR, hlt, hbl⟩ := hrel
    by_cases h0 : i = n
    · have i1 : ¬ (i : Int) < (n : Int) := by omega
      have e1 : l.take i = l := List.take_of_length_le (by rw [HL.out]; omega)
      have e2 : filled l i = l := by rw [h0, ← HL.out, filled_all]
      rw [e1]
      rw [e2] at hR
      have HBL := Lib.hid hbl
      have m0 := most_nn l
      have m1 := most_bd l 1073741824 (by omega) HB.out
      have HR2 := Lib.hid hR
      obtain ⟨s, hs⟩ : ∃ s, most l = s := ⟨_, rfl⟩
      rw [hs] at m0 m1 ⊢
      have HS := Lib.hid hs
      clear e1 e2 hbl hR h0 hs
      by_cases hz : s = 0
      · subst hz
        go_wp2_with fail
        go_ret2
        exact ⟨.inl ⟨HS.out, rfl⟩, HBL.out⟩
      · have hz' : (s == 0) = false := by simpa using hz
        go_wp2_with fail
        go_loopw [4] (fun v4 wr => ∃ j : Nat, v4 = .int .i64 (s * 2 ^ j) ∧ s * 2 ^ j < 2147483648 ∧ IRow wr w.heap.size (l.map (fun x => x * 2 ^ j)) ∧ w.heap.size < wr.heap.size ∧ Below w.heap.size w wr) (fun v4 _ => (2147483648 - intOf v4).toNat)
        case atStart => exact ⟨0, by simp, by simpa using Int.lt_of_le_of_lt m1 (by decide), by rw [scale_zero]; exact HR2.out, hlt, HBL.out⟩
        case round =>
          obtain ⟨j, rfl, hp2, hR, hlt', hbl⟩ := hrel
          obtain ⟨p, hp⟩ : ∃ p, s * 2 ^ j = p := ⟨_, rfl⟩
          obtain ⟨U, hU⟩ : ∃ U, U = l.map (fun x => x * 2 ^ j) := ⟨_, rfl⟩
          have hp0 : 0 < p := by rw [← hp]; exact Int.mul_pos (by omega) (Int.pow_pos (by omega))
          have hUl : U.length = n := by rw [hU, List.length_map, HL.out]
          have hUb : ∀ u, u ∈ U → -p ≤ u ∧ u ≤ p := fun u hu => by rw [hU] at hu; rw [← hp]; exact scaled_le HS.out j hu
          rw [← hU] at hR
          rw [hp] at hp2 ⊢
          have HP := Lib.hid hp
          have HU := Lib.hid hU
          have HUL := Lib.hid hUl
          have HUB := Lib.hid hUb
          have HR3 := Lib.hid hR
          have HB3 := Lib.hid hbl
          clear hp hU hUl hUb hR hbl hlt
          by_cases hlow : p < 1073741824
          · go_wp2_with fail
            go_loopw [55] (fun v55 wq => ∃ i : Nat, v55 = .int .i64 (i : Int) ∧ i ≤ n ∧ IRow wq w.heap.size (turned (fun u => u * 2) U i) ∧ w.heap.size < wq.heap.size ∧ Below w.heap.size w wq) (fun v55 _ => n - (intOf v55).toNat)
            case atStart => exact ⟨0, rfl, Nat.zero_le _, by rw [turned_zero]; exact HR3.out, hlt', HB3.out⟩
            case round =>
              obtain ⟨i, rfl, hi, hR, hlt2, hbl⟩ := hrel
              by_cases hi0 : i = n
              · have i1 : ¬ (i : Int) < (n : Int) := by omega
                rw [hi0, ← HUL.out, turned_all, HU.out, scale_succ] at hR
                have hB := Lib.hid hbl
                have hR' := Lib.hid hR
                clear hbl hR hi0
                go_wp2_with fail
                go_roundw
                case rel => exact ⟨j + 1, by rw [← HP.out, Int.pow_succ, Int.mul_assoc], by have := HP.out; rw [Int.pow_succ, ← Int.mul_assoc, this]; omega, hR'.out, hlt2, hB.out⟩
                case measure => simp [intOf]; omega
              · have hil : i < U.length := by rw [HUL.out]; omega
                have hx := HUB.out _ (List.getElem_mem hil)
                have hS := hR.set i (U[i] * 2)
                rw [turned_set (fun u => u * 2) hil] at hS
                have hcg := hR.1 i (by rw [turned_len]; exact hil)
                rw [turned_at _ hil] at hcg
                simp only [Option.getD_some] at hcg
                have hfg := hR.2 i (by rw [turned_len]; exact hil)
                have i1 : (i : Int) < (n : Int) := by omega
                obtain ⟨x, hxe⟩ : ∃ x, U[i] = x := ⟨_, rfl⟩
                rw [hxe] at hcg hS hx
                have hS' := Lib.hid hS
                have hB := Lib.hid hbl
                obtain ⟨x1, x2⟩ := hx
                clear hS hbl hR hi0 hxe
                go_wp2_with fail
                go_roundw
                case rel => exact ⟨i + 1, rfl, by omega, hS'.out, by simpa [World.setCell] using hlt2, hB.out.setCell (Nat.le_refl _) _⟩
                case measure => simp [intOf]; omega
          · obtain ⟨WA, rfl⟩ : ∃ WA, WA = wr := ⟨_, rfl⟩
            have hn31 : ∀ u, u ∈ U → u.natAbs ≤ 2147483648 := fun u hu => by have := HUB.out u hu; omega
            have hsl := ssq_le U hn31
            have hbig : ∃ u, u ∈ U ∧ 1073741824 ≤ u.natAbs := by
              rcases most_is l with h0 | ⟨x, hx, h0⟩
              · rw [HS.out] at h0; omega
              · refine ⟨x * 2 ^ j, by rw [HU.out]; exact List.mem_map_of_mem hx, ?_⟩
                have hpp : (0 : Int) ≤ 2 ^ j := Int.le_of_lt (Int.pow_pos (by omega))
                have e1 : (x * 2 ^ j).natAbs = x.natAbs * (2 ^ j : Int).natAbs := Int.natAbs_mul _ _
                have e2 : ((x.natAbs * (2 ^ j : Int).natAbs : Nat) : Int) = p := by rw [Int.natCast_mul, Int.natAbs_of_nonneg hpp, ← h0, HS.out, HP.out]
                omega
            obtain ⟨u0, hu0, hu1⟩ := hbig
            have hsg := le_ssq U hn31 hu0
            have hsg2 := Nat.mul_le_mul hu1 hu1
            have d1 : 1073741824 ≤ rt (ssq U) := le_rt (by omega)
            have d2 : rt (ssq U) < 4294967297 := rt_lt _ _ (by rw [HUL.out] at hsl; omega)
            have HN := Lib.hid hn31
            clear hsl hsg hsg2 hu0 hu1 hn31
            go_wp2_with fail
            go_loopw [9, 10, 67] (fun v9 v10 v67 wq => ∃ i : Nat, v67 = .int .i64 (i : Int) ∧ i ≤ n ∧ v9 = .int .u64 (hiW (ssq (U.take i))) ∧ v10 = .int .u64 (loW (ssq (U.take i))) ∧ wq = WA) (fun _ _ v67 _ => n - (intOf v67).toNat)
            case atStart => exact ⟨0, rfl, Nat.zero_le _, by simp [ssq, hiW], by simp [ssq, loW], rfl⟩
            case round =>
              obtain ⟨i, rfl, hi, rfl, rfl, rfl⟩ := hrel
              by_cases hi0 : i = n
              · have i1 : ¬ (i : Int) < (n : Int) := by omega
                rw [List.take_of_length_le (show U.length ≤ i by rw [HUL.out]; omega)]
                have hj := join_words (ssq U)
                obtain ⟨d, hd⟩ : ∃ d, rt (ssq U) = d := ⟨_, rfl⟩
                rw [hd] at d1 d2
                have HD := Lib.hid hd
                have HJ := Lib.hid hj
                have hl1 := loW_lt (ssq U)
                have hh1 : hiW (ssq U) < 18446744073709551616 := by
                  have := ssq_le U HN.out
                  rw [HUL.out] at this
                  unfold hiW; omega
                obtain ⟨A, hA⟩ : ∃ A, hiW (ssq U) = A := ⟨_, rfl⟩
                obtain ⟨B, hB⟩ : ∃ B, loW (ssq U) = B := ⟨_, rfl⟩
                rw [hA] at hh1 ⊢
                rw [hB] at hl1 ⊢
                have hr : rt (join A B) = d := by rw [← hA, ← hB, hj, hd]
                clear hd hj hA hB hi0
                go_wp2_with (go_at_call 76; (with_reducible refine (root_any _ _ _ hh1 hl1).mono ?_); rw [hr]; rintro e w1 ⟨rfl, rfl⟩)
                go_loopw [105] (fun v105 wq => ∃ i : Nat, v105 = .int .i64 (i : Int) ∧ i ≤ n ∧ IRow wq w.heap.size (turned (qu d) U i) ∧ w.heap.size < wq.heap.size ∧ Below w.heap.size w wq) (fun v105 _ => n - (intOf v105).toNat)
                case atStart => exact ⟨0, rfl, Nat.zero_le _, by rw [turned_zero]; exact HR3.out, hlt', HB3.out⟩
                case round =>
                  obtain ⟨i, rfl, hi, hR, hlt2, hbl⟩ := hrel
                  by_cases hi0 : i = n
                  · have i1 : ¬ (i : Int) < (n : Int) := by omega
                    rw [hi0, ← HUL.out, turned_all] at hR
                    have hB := Lib.hid hbl
                    have hR' := Lib.hid hR
                    clear hbl hR hi0
                    go_wp2_with fail
                    go_ret2
                    exact ⟨.inr ⟨by rw [HS.out]; exact hz, rfl, hlt2, U.map (qu d), ⟨j, d, by rw [← HU.out]; exact HD.out.symm, by rw [HS.out, HP.out]; omega, by rw [HS.out, HP.out]; exact hp2, by rw [HU.out]⟩, hR'.out⟩, hB.out⟩
                  · have hil : i < U.length := by rw [HUL.out]; omega
                    have hx := HUB.out _ (List.getElem_mem hil)
                    have hS := hR.set i (qu d U[i])
                    rw [turned_set (qu d) hil] at hS
                    have hS2 := (hR.set i (qu d U[i] + 1)).set i (qu d U[i])
                    rw [List.set_set, turned_set (qu d) hil] at hS2
                    have hcg := hR.1 i (by rw [turned_len]; exact hil)
                    rw [turned_at _ hil] at hcg
                    simp only [Option.getD_some] at hcg
                    have hfg := hR.2 i (by rw [turned_len]; exact hil)
                    have i1 : (i : Int) < (n : Int) := by omega
                    obtain ⟨x, hxe⟩ : ∃ x, U[i] = x := ⟨_, rfl⟩
                    rw [hxe] at hcg hS hx hS2
                    obtain ⟨q, hq⟩ : ∃ q, qu d x = q := ⟨_, rfl⟩
                    rw [hq] at hS hS2
                    have HS2 := Lib.hid hS2
                    have hq' : (2 * x * 65536 + (d : Int)) / (2 * (d : Int)) = q := by rw [← hq]; unfold qu; congr 1; omega
                    have b1 : -281474976710657 ≤ q := by
                      rw [← hq']; exact (Int.le_ediv_iff_mul_le (by omega)).2 (by omega)
                    have b2 : q ≤ 281474976710656 := by
                      have : q < 281474976710657 := by rw [← hq']; exact Int.ediv_lt_of_lt_mul (by omega) (by omega)
                      omega
                    have hS' := Lib.hid hS
                    have hB := Lib.hid hbl
                    have hQ := Lib.hid hq'
                    obtain ⟨x1, x2⟩ := hx
                    clear hS hbl hR hi0 hxe hq hq' hS2
                    by_cases h0 : 2 * x * 65536 + (d : Int) < 0
                    · by_cases h1 : (2 * x * 65536 + (d : Int)).tmod (2 * (d : Int)) = 0
                      · have e := tdiv_neg_exact _ _ h1
                        rw [hQ.out] at e
                        go_wp2_with fail
                        go_roundw
                        case rel => exact ⟨i + 1, rfl, by omega, hS'.out, by simpa [World.setCell] using hlt2, hB.out.setCell (Nat.le_refl _) _⟩
                        case measure => simp [intOf]; omega
                      · have e := tdiv_neg_rest _ _ (by omega) h0 h1
                        rw [hQ.out] at e
                        have e' : (2 * x * 65536 + (d : Int)).tdiv (2 * (d : Int)) = q + 1 := by omega
                        have h2 : ((2 * x * 65536 + (d : Int)).tmod (2 * (d : Int)) == 0) = false := by simpa using h1
                        clear e
                        go_wp2_with fail
                        go_roundw
                        case rel => exact ⟨i + 1, rfl, by omega, by have := HS2.out; first | exact this | (rw [show q + 1 - 1 = q by omega]; exact this), by simpa [World.setCell] using hlt2, (hB.out.setCell (Nat.le_refl _) _).setCell (Nat.le_refl _) _⟩
                        case measure => simp [intOf]; omega
                    · have e := Int.tdiv_eq_ediv_of_nonneg (a := 2 * x * 65536 + (d : Int)) (b := 2 * (d : Int)) (by omega)
                      rw [hQ.out] at e
                      go_wp2_with fail
                      go_roundw
                      case rel => exact ⟨i + 1, rfl, by omega, hS'.out, by simpa [World.setCell] using hlt2, hB.out.setCell (Nat.le_refl _) _⟩
                      case measure => simp [intOf]; omega
              · have hil : i < U.length := by rw [HUL.out]; omega
                have hx := HUB.out _ (List.getElem_mem hil)
                have hcx := HR3.out.at i hil
                have hst := ssq_take hil
                have hb : ssq (U.take i) + U[i].natAbs * U[i].natAbs < 18446744073709551616 * 4294967296 := by
                  have h1 := ssq_le (U.take i) (fun u hu => HN.out u (List.mem_of_mem_take hu))
                  have h2 := Nat.mul_le_mul (HN.out _ (List.getElem_mem hil)) (HN.out _ (List.getElem_mem hil))
                  have h3 : (U.take i).length ≤ 4 := by rw [List.length_take]; omega
                  omega
                obtain ⟨wa1, wa2⟩ := words_add _ _ hb
                rw [← hst] at wa1 wa2
                have i1 : (i : Int) < (n : Int) := by omega
                obtain ⟨x, hxe⟩ : ∃ x, U[i] = x := ⟨_, rfl⟩
                rw [hxe] at hcx hx wa1 wa2
                have hmx := mx_abs x
                obtain ⟨a, ha⟩ : ∃ a, x.natAbs = a := ⟨_, rfl⟩
                have ha2 : a ≤ 2147483648 := by omega
                have ha3 : a < 18446744073709551616 := by omega
                rw [ha] at hmx wa1 wa2
                have WA1 := Lib.hid wa1
                have WA2 := Lib.hid wa2
                obtain ⟨x1, x2⟩ := hx
                clear hst hb hxe ha wa1 wa2 hi0
                go_wp2_with (go_at_call 77; (with_reducible refine (mul64_any _ _ (by assumption) (by assumption) _).mono ?_); rintro e w1 ⟨rfl, rfl⟩)
                go_roundw
                case rel => exact ⟨i + 1, rfl, by omega, by rw [WA2.out], by rw [WA1.out], by first | rfl | trivial⟩
                case measure => simp [intOf]; omega
    · have hil : i < l.length := by rw [HL.out]; omega
      have hx := HB.out _ (List.getElem_mem hil)
      have hc := (HR.out.below hbl hg).at i hil
      have hs := Lib.hid (most_take hil)
      have hS := hR.set i l[i]
      rw [filled_set hil] at hS
      have hcg := hR.1 i (by rw [filled_len _ _ (by omega)]; exact hil)
      have hfg := hR.2 i (by rw [filled_len _ _ (by omega)]; exact hil)
      have HS := Lib.hid hS
      have HBL := Lib.hid hbl
      have i1 : (i : Int) < (n : Int) := by omega
      have m0 := most_nn (l.take i)
      have hF := filled_at hil
      obtain ⟨x, hxe⟩ : ∃ x, l[i] = x := ⟨_, rfl⟩
      obtain ⟨s, hs'⟩ : ∃ s, most (l.take i) = s := ⟨_, rfl⟩
      obtain ⟨y, hy⟩ : ∃ y, (filled l i)[i]?.getD 0 = y := ⟨_, rfl⟩
      rw [hxe] at hc hs hx HS hF
      have HF := Lib.hid hF
      rw [hs'] at hs m0 ⊢
      rw [hy] at hcg
      have hcl := clamp_in x (by omega) (by omega)
      obtain ⟨x1, x2⟩ := hx
      clear hxe hs' hy hS hbl hR h0 hF
      go_wp2_with (go_at_call 35; (with_reducible refine (clamp_any _ _).mono ?_); rintro e w1 ⟨rfl, rfl⟩)
      have hcs := HS.out.1 i (by rw [filled_len _ _ (by omega), HL.out]; omega)
      rw [HF.out] at hcs
      have hsz : w.heap.size < (wr.setCell ⟨w.heap.size, i, none⟩ (.int .i64 x)).heap.size := by simpa [World.setCell] using hlt
      refine region_grow (by kernel_rfl) (by kernel_rfl) ?_
      repeat (go_big_quiet_step (fail))
      refine wpQuiet_nil ?_
      intro _ hw'
      obtain ⟨k, m, rfl⟩ := hw'
      go_wp2_with fail
      go_roundw
      case rel => exact ⟨i + 1, rfl, by omega, by rw [hs.out], HS.out.below (below_ext _ _ _) hsz, by rw [size_ext]; omega, Below.ext' (HBL.out.setCell (Nat.le_refl _) _) (Nat.le_of_lt hsz) _ _⟩
      case measure => simp [intOf]; omega
end Go.Proofs.Ytdnepccjgclgiaa
