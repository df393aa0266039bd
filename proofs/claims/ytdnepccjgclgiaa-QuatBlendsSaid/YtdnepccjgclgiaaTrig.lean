/- Contracts of package trig. -/
import Derived.Test.YtdnepccjgclgiaaBase
import Derived.Laws.Rows
import Derived.Laws.Tables
namespace Go.Proofs.Ytdnepccjgclgiaa
open Go.RowKit

/-- The table: the sines of the 64th parts of a quarter turn. -/
def tab : List Int := [0, 1608, 3216, 4821, 6424, 8022, 9616, 11204, 12785, 14359, 15924, 17479, 19024,
  20557, 22078, 23586, 25080, 26558, 28020, 29466, 30893, 32303, 33692, 35062, 36410, 37736,
  39040, 40320, 41576, 42806, 44011, 45190, 46341, 47464, 48559, 49624, 50660, 51665, 52639,
  53581, 54491, 55368, 56212, 57022, 57798, 58538, 59244, 59914, 60547, 61145, 61705, 62228,
  62714, 63162, 63572, 63944, 64277, 64571, 64827, 65043, 65220, 65358, 65457, 65516, 65536]

def tabV : Array Value := (tab.map (Value.int .i64)).toArray

theorem wpList_built {P : Program} {ops : Array Oper} {rest : List Oper} {o : Oper} {a : Act} {w : World} {Q : Exit → Act → World → Prop} (hg : o.guard = none) (t : TypeId) (parts : Array (Nat × Operand)) (ho : o.op = .build t parts)
    (cells : Array Value) (hf : P.built t (parts.map fun (i, x) => (i, a.eval x)).toList = some cells)
    (h : wpList P ops Q rest (a.put o.dst (.agg cells)) w) : wpList P ops Q (o :: rest) a w :=
  wpList_build hg t parts ho (by rw [hf]; rfl) (by rw [hf]; exact h)

set_option maxRecDepth 100000 in
theorem table_any (w : World) :
    Calls Try.prog 82 #[] w fun e w' => e = .returned (.agg tabV) ∧ Below w.heap.size w w' := by
  go_enter Try.func82, Try.ntmps82
  go_step
  go_step
  go_step
  go_step
  go_step
  go_step
  go_step
  go_step
  go_step
  go_step
  go_step
  refine wpList_built rfl 84 _ rfl tabV (by kernel_rfl) ?_
  refine wpList_store_row rfl 84 _ _ rfl w.heap.size tabV rfl rfl 84 Try.zeroCells84 (heap_alloc_new _ _) (by kernel_rfl) (by kernel_rfl) (by kernel_rfl) ?_
  go_step
  go_step
  go_step
  go_step
  refine bodyPost_ret (v := .agg tabV) ?_ rfl ⟨rfl, ?_⟩
  · exact results_cell_row (p := 0) (ty := 84) rfl _ _ w.heap.size 84 tabV (0, 0) _ rfl (setRow_heap _ _ _ _ _ _ (heap_alloc_new _ _)) Try.underlying84 rfl (by kernel_rfl)
  · refine ⟨rfl, rfl, rfl, by simp, fun k hk => ?_⟩
    rw [setRow_other _ _ _ _ (by omega)]
    exact Below.heap_alloc _ _ _ hk

/-- A number of the table. -/
def S (i : Int) : Int := tab[i.toNat]?.getD 0
theorem S_nat : ∀ k : Fin 64, 0 ≤ S (k.val : Int) ∧ S (k.val : Int) ≤ S ((k.val : Int) + 1) ∧ S ((k.val : Int) + 1) ≤ S (k.val : Int) + 1608 ∧ S ((k.val : Int) + 1) ≤ 65536 := by decide
theorem S_step (i : Int) (h0 : 0 ≤ i) (h1 : i < 64) : 0 ≤ S i ∧ S i ≤ S (i + 1) ∧ S (i + 1) ≤ S i + 1608 ∧ S (i + 1) ≤ 65536 := by
  obtain ⟨k, rfl⟩ := Int.eq_ofNat_of_zero_le h0
  exact S_nat ⟨k, by omega⟩
theorem S_64 : S 64 = 65536 := by decide
theorem tabV_at (i : Int) (h0 : 0 ≤ i) (h1 : i ≤ 64) : tabV[i.toNat]? = some (.int .i64 (S i)) := by
  obtain ⟨k, rfl⟩ := Int.eq_ofNat_of_zero_le h0
  have hk : k < tab.length := by show k < 65; omega
  unfold tabV S
  simp [hk]

/-- trig.first: the sine in the first quarter. -/
def sinQ (a : Int) : Int := if a % 256 = 0 then S (a / 256) else S (a / 256) + ((S (a / 256 + 1) - S (a / 256)) * (a % 256) + 128) / 256

theorem setRow_new (w : World) (old cs : Array Value) (t : TypeId) (g : Nat) (hg : g = w.heap.size) : (w.alloc (.cells old t)).setRow g cs = w.alloc (.cells cs t) := by
  subst hg
  unfold World.setRow World.alloc
  congr 1
  apply Array.ext_getElem?
  intro k
  simp only [Array.getElem?_modify, Array.getElem?_push]
  by_cases hk : k = w.heap.size
  · subst hk; simp
  · simp [hk, Ne.symm hk]

theorem heap_ext_new (w : World) (l : List Obj) (n : Nat) (o : Obj) : ((ext w l n).alloc o).heap[w.heap.size + l.length]? = some o := by
  have := heap_alloc_new (ext w l n) o
  rwa [size_ext] at this

set_option maxHeartbeats 400000 in
theorem first_any (a : Int) (w : World) (h0 : 0 ≤ a) (h1 : a ≤ 16384) :
    Calls Try.prog 64 #[.int .i64 a] w fun e w' => e = .returned (.int .i64 (sinQ a)) ∧ Below w.heap.size w w' := by
  have k0 : 0 ≤ a / 256 := by omega
  have k1 : a / 256 ≤ 64 := by omega
  have f0 : 0 ≤ a % 256 := by omega
  have f1 : a % 256 < 256 := by omega
  have c1 := tabV_at (a / 256) k0 k1
  by_cases hf : a % 256 = 0
  · have hs : sinQ a = S (a / 256) := by unfold sinQ; rw [if_pos hf]
    have HS := Lib.hid hs
    clear hs
    have hb : (a % 256 == 0) = true := by simpa using hf
    have HF := Lib.hid hf
    clear hf
    go_enter Try.func64, Try.ntmps64
    go_wp2_with (first
      | (go_at_call 82; (with_reducible refine (table_any _).mono ?_); rintro e w1 ⟨rfl, hb⟩; obtain ⟨l, n, rfl⟩ := ext_of hb; clear hb)
      | (refine wpList_store_row rfl 84 _ _ rfl _ tabV rfl rfl 84 Try.zeroCells84 (heap_ext_new _ _ _ _) (by kernel_rfl) (by kernel_rfl) (by kernel_rfl) ?_; rw [setRow_new _ _ _ _ _ (size_ext _ _ _).symm]))
    go_ret
    exact ⟨ret_int HS.out.symm, by repeat (first | exact Below.refl _ _ | apply Below.drew | apply Below.al | apply Below.ex)⟩
  · have k2 : a / 256 < 64 := by omega
    have hs : sinQ a = S (a / 256) + ((S (a / 256 + 1) - S (a / 256)) * (a % 256) + 128) / 256 := by unfold sinQ; rw [if_neg hf]
    have HS := Lib.hid hs
    clear hs
    obtain ⟨s1, s2, s3, s4⟩ := S_step (a / 256) k0 k2
    have c2 := tabV_at (a / 256 + 1) (by omega) (by omega)
    have m0 : 0 ≤ (S (a / 256 + 1) - S (a / 256)) * (a % 256) := Int.mul_nonneg (by omega) f0
    have m1 : (S (a / 256 + 1) - S (a / 256)) * (a % 256) ≤ 1608 * 256 := Int.mul_le_mul (by omega) (by omega) f0 (by omega)
    have hb : (a % 256 == 0) = false := by simpa using hf
    clear hf
    go_enter Try.func64, Try.ntmps64
    go_wp2_with (first
      | (go_at_call 82; (with_reducible refine (table_any _).mono ?_); rintro e w1 ⟨rfl, hb⟩; obtain ⟨l, n, rfl⟩ := ext_of hb; clear hb)
      | (refine wpList_store_row rfl 84 _ _ rfl _ tabV rfl rfl 84 Try.zeroCells84 (heap_ext_new _ _ _ _) (by kernel_rfl) (by kernel_rfl) (by kernel_rfl) ?_; rw [setRow_new _ _ _ _ _ (size_ext _ _ _).symm]))
    refine region_grow (by kernel_rfl) (by kernel_rfl) ?_
    repeat (go_big_quiet_step (fail))
    refine wpQuiet_nil ?_
    intro _ hw'
    obtain ⟨k, m, rfl⟩ := hw'
    go_wp2
    go_ret
    exact ⟨ret_int HS.out.symm, by repeat (first | exact Below.refl _ _ | apply Below.drew | apply Below.al | apply Below.ex)⟩
end Go.Proofs.Ytdnepccjgclgiaa
