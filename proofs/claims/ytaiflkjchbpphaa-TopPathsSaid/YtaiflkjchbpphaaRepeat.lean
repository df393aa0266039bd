/- slices.Repeat of one number. -/
import Derived.Test.YtaiflkjchbpphaaNextW
import Derived.Laws.CopyOwn
import Derived.Laws.Bits64
namespace Go.Proofs.Ytaiflkjchbpphaa
open Go.RowKit

theorem and_low (n : Nat) (hn : n ≤ 100) : bits BinOp.and IntKind.u64 (n : Int) 4294967295 = (n : Int) := by
  have : ∀ m : Fin 101, bits BinOp.and IntKind.u64 ((m.val : Nat) : Int) 4294967295 = ((m.val : Nat) : Int) := by decide
  exact this ⟨n, by omega⟩
theorem wrap_low (n : Int) (h0 : 0 ≤ n) (hn : n ≤ 100) : IntKind.u64.wrap n = n := by
  rw [IntKind.wrap_u64]; omega
theorem mul64_one (n : Nat) (w : World) (hn : n ≤ 100) :
    Calls Try.prog 54 #[.int .u64 1, .int .u64 n] w fun e w' => e = .returned (.tuple #[.int .u64 0, .int .u64 n]) ∧ w = w' := by
  go_enter Try.func54, Try.ntmps54
  go_wp2_with fail
  have h1 : bits BinOp.and IntKind.u64 1 4294967295 = 1 := by decide
  have h2 := and_low n hn
  have h3 : (n : Int) / 4294967296 = 0 := by omega
  have h4 : IntKind.u64.wrap (n : Int) = n := wrap_low _ (by omega) (by omega)
  have h5 : IntKind.u64.wrap 0 = 0 := by decide
  have h6 : bits BinOp.and IntKind.u64 0 4294967295 = 0 := by decide
  have h7 : (0 : Int) / 4294967296 = 0 := by decide
  simp only [h1, h2, h3, h4, h5, h6, h7, Int.one_mul, Int.mul_zero, Int.add_zero]
  exact bodyPost_ret (v := .tuple #[.int .u64 0, .int .u64 n]) (by simp [results, Try.results54, go_sem]) rfl ⟨rfl, rfl⟩
theorem mul_one_any (n : Nat) (w : World) (hn : n ≤ 100) :
    Calls Try.prog 42 #[.int .u64 1, .int .u64 n] w fun e w' => e = .returned (.tuple #[.int .u64 0, .int .u64 n]) ∧ w = w' := by
  go_enter Try.func42, Try.ntmps42
  go_wp2_with (go_at_call 54; (with_reducible refine (mul64_one n _ hn).mono ?_); rintro e w1 ⟨rfl, rfl⟩)
  exact bodyPost_ret (v := .tuple #[.int .u64 0, .int .u64 n]) (by simp [results, Try.results42, go_sem]) rfl ⟨rfl, rfl⟩

/-- The first k of n numbers in a block are -1. -/
def NegAt (w : World) (g n k : Nat) : Prop := ∃ cur : List Value, w.heap[g]? = some (.cells cur.toArray 3 (0, 0)) ∧ cur.length = n ∧ ∀ j, j < k → cur[j]? = some (.int .i64 (-1))
theorem NegAt.row {w : World} {g n B : Nat} (h : NegAt w g n n) (hB : B ≤ g) (hn : n ≤ 100) : w.ownsRow B 3 1 (.slice (some ⟨g, 0, none⟩) n n) n (List.replicate n (.int .i64 (-1))) := by
  obtain ⟨cur, h1, h2, h3⟩ := h
  have e : cur = List.replicate n (.int .i64 (-1)) := by
    apply List.ext_getElem?
    intro j
    rcases Nat.lt_or_ge j n with hj | hj
    · rw [h3 j hj, List.getElem?_replicate, if_pos hj]
    · rw [List.getElem?_eq_none (by omega), List.getElem?_eq_none (by simpa using hj)]
  subst e
  exact ⟨by simp, .inr ⟨g, n, _, rfl, hB, h1, Nat.le_refl _, by unfold maxLen; omega, by simp, by simp⟩⟩
theorem NegAt.splice {w : World} {g k m : Nat} {cur : List Value} (hh : w.heap[g]? = some (.cells (splice cur k (List.replicate m (.int .i64 (-1)))).toArray 3 (0, 0))) (h3 : ∀ j, j < k → cur[j]? = some (.int .i64 (-1))) (hm : k + m ≤ cur.length) : NegAt w g cur.length (k + m) := by
  refine ⟨_, hh, ?_, fun j hj => ?_⟩
  · rw [length_splice _ _ _ (by simpa using hm)]
  · unfold Go.splice
    by_cases hk : j < k
    · rw [List.getElem?_append_left (by simp; omega), List.getElem?_take, if_pos hk]
      exact h3 j hk
    · rw [List.getElem?_append_right (by simp; omega), List.length_take, Nat.min_eq_left (by omega), List.getElem?_append_left (by simp; omega), List.getElem?_replicate, if_pos (by omega)]
theorem neg_cell {w : World} {g : Nat} {cur : List Value} (hh : w.heap[g]? = some (.cells cur.toArray 3 (0, 0))) (j : Nat) : w.cell? ⟨g, j, none⟩ = cur[j]? := by
  simp [World.cell?, hh]
theorem neg_one {m : Nat} : ∀ v ∈ List.replicate m (Value.int .i64 (-1)), v.oneCell' = true := by
  intro v hv
  rw [List.eq_of_mem_replicate hv]; rfl
theorem neg_src {w : World} {g k m : Nat} {cur : List Value} (hh : w.heap[g]? = some (.cells cur.toArray 3 (0, 0))) (h3 : ∀ j, j < k → cur[j]? = some (.int .i64 (-1))) (hm : m ≤ k) :
    ∀ j v, (List.replicate m (Value.int .i64 (-1)))[j]? = some v → w.cell? ((⟨g, 0, none⟩ : Addr).add j) = some v := by
  intro j v hv
  rw [List.getElem?_replicate] at hv
  split at hv
  · have e : (⟨g, 0, none⟩ : Addr).add j = ⟨g, j, none⟩ := by unfold Addr.add; split <;> simp_all
    rw [e, neg_cell hh, h3 j (by omega), hv]
  · cases hv
theorem Try.one3 : (Try.prog.info? 3).map (·.size) = some 1 := by kernel_rfl

set_option maxRecDepth 8000 in
set_option maxHeartbeats 1000000 in
theorem repeat_any (g n : Nat) (w : World) (hg : w.cell? ⟨g, 0, none⟩ = some (.int .i64 (-1))) (hgs : g < w.heap.size) (hn1 : 1 ≤ n) (hn : n ≤ 100) :
    Calls Try.prog 26 #[.slice (some ⟨g, 0, none⟩) 1 1, .int .i64 n] w fun e w' => e = .returned (.slice (some ⟨w.heap.size, 0, none⟩) n n) ∧ w'.ownsRow w.heap.size 3 1 (.slice (some ⟨w.heap.size, 0, none⟩) n n) n (List.replicate n (.int .i64 (-1))) ∧ Below w.heap.size w w' := by
  obtain ⟨i0, hi0, hz0, hz1, hz2⟩ := info_parts Try.info3'
  go_enter Try.func26, Try.ntmps26
  go_wp2_with (first
    | (go_at_call 42; (with_reducible refine (mul_one_any n _ hn).mono ?_); rintro e w1 ⟨rfl, rfl⟩)
    | (refine wpList_make_full _ rfl _ _ 22 rfl w.heap.size 3 i0 (.int .i64 0) 1 Try.underlying22 hi0 hz0 hz1 .i64 .i64 _ _ n rfl rfl rfl rfl (by rw [hz2]; omega) (by unfold maxLen; omega) (by simp <;> omega) ?_))
  intro W1 own1 hg1
  have hb1 := Lib.hid ((Below.refl w.heap.size w).grown hg1 (Nat.le_refl _) (fun k hk => by cases hk))
  have hcell := Lib.hid ((hb1.out.cell (p := ⟨g, 0, none⟩) hgs).trans hg)
  have hneg : Hid (NegAt W1 w.heap.size n 0) := by
    obtain ⟨h1, h2⟩ := own1
    rcases h2 with ⟨h2, _⟩ | ⟨g', cap, cur, hv, hgg, hh, _, _, hcs, _⟩
    · cases h2
    · injection hv with e1 e2 e3
      injection e1 with e1
      injection e1 with e1
      subst e1 e3
      exact ⟨cur.toList, by simpa using hh, by simpa using hcs, fun j hj => by omega⟩
  clear own1 hg1
  obtain ⟨cur, hc1, hc2, hc3⟩ := hneg.out
  have hc1 := Lib.hid hc1
  have hmin : (List.replicate 1 (Value.int .i64 (-1))).length = Nat.min 1 n := by show 1 = min 1 n; omega
  have hsrc : ∃ ad : Addr, (some ⟨g, 0, none⟩ : Option Addr) = some ad ∧ ∀ j v, (List.replicate 1 (Value.int .i64 (-1)))[j]? = some v → W1.cell? (ad.add j) = some v := ⟨_, rfl, fun j v hv => by
    obtain rfl : j = 0 := by
      rw [List.getElem?_replicate] at hv
      split at hv
      · omega
      · cases hv
    simp at hv
    subst hv
    exact hcell.out⟩
  have hfit : 0 + (List.replicate 1 (Value.int .i64 (-1))).length ≤ cur.length := by simp; omega
  go_wp2_with ((with_reducible show wpList _ _ _ _ _ _); refine wpList_copy_splice rfl (.tmp 31) (.tmp 32) 22 22 rfl 3 Try.underlying22 Try.one3 _ _ _ _ _ _ rfl rfl w.heap.size 0 cur 3 hc1.out (List.replicate 1 (.int .i64 (-1))) hmin (fun _ => ⟨rfl, hsrc⟩) hfit neg_one w.heap.size w hb1.out (Nat.le_refl _) ?_)
  intro W2 hh2 hb2
  have HB2 := Lib.hid hb2
  have hN2 : Hid (NegAt W2 w.heap.size n 1) := by
    have := NegAt.splice (k := 0) (m := 1) hh2.out (fun j hj => by omega) (by omega)
    rw [hc2] at this
    exact this
  clear hh2 hb2 hc1 hc2 hc3 hneg hmin hsrc hfit hcell hb1
  obtain ⟨B, hB⟩ : ∃ B, w.heap.size = B := ⟨_, rfl⟩
  rw [hB] at hN2
  simp only [hB]
  go_wp2_with fail
  go_loopw [8] (fun v8 wr => ∃ k : Nat, v8 = .int .i64 k ∧ 1 ≤ k ∧ k ≤ n ∧ Hid (NegAt wr B n k ∧ Below w.heap.size w wr)) (fun v8 _ => n - (intOf v8).toNat)
  case atStart => exact ⟨1, rfl, by omega, hn1, hN2.out, HB2.out⟩
  case round =>
    obtain ⟨k, rfl, hk1, hk, hR⟩ := hrel
    by_cases h0 : k = n
    · subst h0
      go_wp2_with fail
      go_ret
      have hx := hR.out.2
      rw [hB] at hx ⊢
      exact ⟨rfl, hR.out.1.row (Nat.le_refl _) hn, hx⟩
    · have hkn : k < n := by omega
      have h0' : ¬ n = k := by omega
      obtain ⟨cur, hc1, hc2, hc3⟩ := id hR.out.1
      have hc1' : wr.drew.heap[B]? = some (.cells cur.toArray 3 (0, 0)) := hc1
      have HC := Lib.hid hc1'
      have hbw : Hid (Below B w wr.drew) := hB ▸ hR.out.2.drew
      obtain ⟨m, hm⟩ : ∃ m, Nat.min k (n - k) = m := ⟨_, rfl⟩
      have hm1 : m ≤ k ∧ m ≤ n - k ∧ 1 ≤ m := by rw [← hm]; show min k (n - k) ≤ _ ∧ min k (n - k) ≤ _ ∧ 1 ≤ min k (n - k); omega
      have hcl : (List.replicate m (Value.int .i64 (-1))).length = Nat.min k (n - k) := by rw [hm]; simp
      have hsr := neg_src (m := m) HC.out hc3 hm1.1
      have HS := Lib.hid hsr
      have hfit : k + (List.replicate m (Value.int .i64 (-1))).length ≤ cur.length := by simp; omega
      have H2 := Lib.hid hc2
      have H3 := Lib.hid hc3
      clear hc1 hc1' hc2 hc3 hsr
      go_wp2_with fail
      go_region_law (refine step_copy_splice rfl (.tmp 41) (.tmp 44) 22 22 rfl 3 Try.underlying22 Try.one3 (some ⟨B, k, none⟩) (some ⟨B, 0, none⟩) (n - k) (n - k) k n (by simp [Act.eval, Act.put]) (by simp [Act.eval, Act.put]) B k cur 3 HC.out (List.replicate m (.int .i64 (-1))) hcl (fun _ => ⟨rfl, _, rfl, HS.out⟩) hfit neg_one B w hbw.out (Nat.le_refl B) ?_; intro w4 hg4 hb4)
      have HN : Hid (NegAt w4 B n (k + m) ∧ Below w.heap.size w w4) := by
        refine ⟨?_, hB ▸ hb4⟩
        have := NegAt.splice (k := k) (m := m) hg4.out H3.out (by have := H2.out; omega)
        rw [H2.out] at this
        exact this
      have hwr : IntKind.i64.wrap ((k : Int) + (m : Int)) = ((k + m : Nat) : Int) := by rw [wrap_small _ (by omega) (by omega)]; push_cast; rfl
      clear hg4 hb4
      simp only [hwr, Act.put, go_sem]
      go_roundw
      case rel => exact ⟨_, _, _, _, _, _, _, _, _, _, _, _, _, _, ⟨k + m, rfl, by omega, by omega, HN.out⟩, rfl⟩
      case measure => simp [intOf] <;> omega
end Go.Proofs.Ytaiflkjchbpphaa
