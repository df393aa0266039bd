/- slices.Contains over entities: an entity whose slot stands in none of the list is not there. -/
import Derived.Test.YtfeibjokifidmaaSlotsB
namespace Go.Proofs.Ytfeibjokifidmaa.Z
open Go.RowKit Go.Shelf Go.Proofs.Ytfeibjokifidmaa.M

/-- The cells of entity k of a row of entities. -/
theorem ents_at {G l : List Nat} {k x : Nat} (h : l[k]? = some x) : (ents G l)[k * 2]? = some (.int .i64 ((x : Nat) : Int)) ∧ (ents G l)[k * 2 + 1]? = some (.int .i64 ((G[x]?.getD 0 : Nat) : Int)) := by
  induction l generalizing k with
  | nil => simp at h
  | cons a l ih =>
    have he : ents G (a :: l) = .int .i64 ((a : Nat) : Int) :: .int .i64 ((G[a]?.getD 0 : Nat) : Int) :: ents G l := by simp [ents]
    rw [he]
    match k with
    | 0 => simp at h; subst h; simp
    | k + 1 =>
      have := ih (k := k) (by simpa using h)
      rw [show (k + 1) * 2 = k * 2 + 1 + 1 by omega]
      simpa using this

set_option maxRecDepth 8000 in
theorem index_no (v : Value) (G l : List Nat) (C : Nat) (w : World) (hO : w.ownsRow C 64 2 v l.length (ents G l)) (x g : Nat) (hx : x ∉ l) (hl : l.length ≤ 4096) (h4 : ∀ y ∈ l, y < 4096) :
    Calls Try.prog 63 #[v, .agg #[.int .i64 (x : Nat), .int .i64 (g : Nat)]] w fun e w' => e = .returned (.int .i64 (-1)) ∧ Below w.heap.size w w' := by
  have HC : Hid (∀ k W, k < l.length → Below w.heap.size w W → ∃ b c y, v = .slice (some ⟨b, 0, none⟩) l.length c ∧ l[k]? = some y ∧ y ≠ x ∧ y < 4096 ∧ b < w.heap.size ∧ W.cell? ⟨b, k * 2, none⟩ = some (.int .i64 (y : Nat)) ∧ W.cell? ⟨b, k * 2 + 1, none⟩ = some (.int .i64 ((G[y]?.getD 0 : Nat) : Int))) := by
    intro k W hk hW
    obtain ⟨b, c, hv, _, hb, _, _, _, hcl, _⟩ := owns_open hO (by omega)
    obtain ⟨y, hy⟩ : ∃ y, l[k]? = some y := ⟨_, List.getElem?_eq_getElem hk⟩
    have hm := List.mem_of_getElem? hy
    obtain ⟨e0, e1⟩ := ents_at (G := G) hy
    exact ⟨b, c, y, hv, hy, (fun e => hx (e ▸ hm)), h4 y hm, hb, by rw [hW.cell (p := ⟨b, k * 2, none⟩) hb, hcl _ (by omega), e0], by rw [hW.cell (p := ⟨b, k * 2 + 1, none⟩) hb, hcl _ (by omega), e1]⟩
  obtain ⟨ao, cap, rfl, _, _, _⟩ := owns_source hO
  obtain ⟨n, hn⟩ : ∃ n, l.length = n := ⟨_, rfl⟩
  rw [hn] at hl HC ⊢
  clear hO hx h4
  go_enter Try.func63, Try.ntmps63
  go_wp2_with fail
  obtain ⟨B, hB⟩ : ∃ B, w.heap.size = B := ⟨_, rfl⟩
  obtain ⟨W1, hW1⟩ : ∃ W1, w.alloc (.cells #[.int .i64 (x : Nat), .int .i64 (g : Nat)] 64) = W1 := ⟨_, rfl⟩
  have c0 : W1.cell? ⟨B, 0, none⟩ = some (.int .i64 (x : Nat)) := by rw [← hW1, ← hB]; simp
  have c1 : W1.cell? ⟨B, 1, none⟩ = some (.int .i64 (g : Nat)) := by rw [← hW1, ← hB]; simp
  have hB1 : Below B w W1 := by rw [← hW1, ← hB]; exact (Below.refl _ _).alloc (Nat.le_refl _) _
  have hz1 : W1.heap.size = B + 1 := by rw [← hW1, ← hB]; simp
  rw [hW1, hB]
  rw [hB] at HC
  clear hW1
  have HB1 := Lib.hid hB1
  have HC0 := Lib.hid c0
  have HC1 := Lib.hid c1
  clear hB1 c0 c1
  go_loopw [5, 8] (fun _ v8 wr => ∃ k : Nat, v8 = .int .i64 k ∧ k ≤ n ∧ Below (B + 1) W1 wr) (fun _ v8 _ => n - (intOf v8).toNat)
  case atStart => exact ⟨0, rfl, Nat.zero_le _, Below.refl _ _⟩
  case round =>
    obtain ⟨k, rfl, hk, hW⟩ := hrel
    by_cases hlt : k < n
    · have hWB : Below B w wr := HB1.out.trans (hW.mono (by omega))
      obtain ⟨b, c, y, he, _, hyx, hy4, hbB, d0, d1⟩ := HC.out k wr hlt hWB
      cases he
      have e0 := (hW.cell (p := ⟨B, 0, none⟩) (by simp)).trans HC0.out
      have e1 := (hW.cell (p := ⟨B, 1, none⟩) (by simp)).trans HC1.out
      have hwz := hW.size
      have hWs : B < wr.heap.size := World.block_lt_of_cell? wr _ e0
      have hne : ((x : Int) == (y : Int)) = false := by rw [beq_eq_false_iff_ne]; omega
      have ik0 : (0 : Int) ≤ (k : Int) := Int.natCast_nonneg _
      have ik1 : (k : Int) < (n : Int) := by omega
      have hbw : b < wr.heap.size := by omega
      have HW := Lib.hid hW
      clear hW hWB
      go_wp2_with fail
      refine region_grow (by kernel_rfl) (by kernel_rfl) ?_
      repeat (go_big_quiet_step (fail))
      refine wpQuiet_nil ?_
      intro _ hw'
      obtain ⟨kk, mm, rfl⟩ := hw'
      go_wp2_with fail
      go_roundw
      case rel => exact ⟨k + 1, by go_num, by omega, HW.out.trans ((below_ext wr kk mm).mono (by have := HW.out.size; omega))⟩
      case measure => simp [intOf]; omega
    · obtain rfl : k = n := by omega
      go_wp2_with fail
      go_ret
      exact ⟨rfl, by rw [hB]; exact HB1.out.trans (hW.mono (by omega))⟩
set_option maxRecDepth 8000 in
theorem contains_no (v : Value) (G l : List Nat) (C : Nat) (w : World) (hO : w.ownsRow C 64 2 v l.length (ents G l)) (x g : Nat) (hx : x ∉ l) (hl : l.length ≤ 4096) (h4 : ∀ y ∈ l, y < 4096) :
    Calls Try.prog 42 #[v, .agg #[.int .i64 (x : Nat), .int .i64 (g : Nat)]] w fun e w' => e = .returned (.bool false) ∧ Below w.heap.size w w' := by
  have HI := Lib.hid (index_no v G l C (w.alloc (.cells #[.int .i64 (x : Nat), .int .i64 (g : Nat)] 64)) (hO.alloc _) x g hx hl h4)
  obtain ⟨ao, cap, rfl, _, _, _⟩ := owns_source hO
  clear hO hx h4
  go_enter Try.func42, Try.ntmps42
  go_wp2_with fail
  with_reducible refine HI.out.mono ?_
  rintro e w1 ⟨rfl, hb⟩
  have hb1 : Below w.heap.size w w1 := ((Below.refl _ _).alloc (Nat.le_refl _) _).trans (hb.mono (by simp))
  have HB := Lib.hid hb1
  clear hb hb1 HI
  go_wp2_with fail
  go_ret
  exact ⟨rfl, HB.out⟩
end Go.Proofs.Ytfeibjokifidmaa.Z
