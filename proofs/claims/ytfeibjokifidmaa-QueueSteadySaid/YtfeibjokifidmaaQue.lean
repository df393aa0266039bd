/- Contracts of queue.Queue[int]. -/
import Derived.Test.YtfeibjokifidmaaRows
import Derived.Test.YtfeibjokifidmaaMem
import Derived.Test.YtfeibjokifidmaaExt
import Derived.Test.YtfeibjokifidmaaTail
import Derived.Test.YtfeibjokifidmaaGrow2
import Derived.Test.YtfeibjokifidmaaHeap
import Derived.Deep.DeepCutAuto
import Derived.RegionTactic
import Derived.Deep.RegionWith
import Derived.BigRegion
namespace Go.Proofs.Ytfeibjokifidmaa
open Go.RowKit

theorem ret_int {k : IntKind} {a b : Int} (h : a = b) : Ending.returned (.int k a) = .returned (.int k b) := by rw [h]
theorem ret_bool {a b : Bool} (h : a = b) : Ending.returned (.bool a) = .returned (.bool b) := by rw [h]

/-- Items, cell by cell. -/
def flat (H : List Itm) : List Value := H.flatMap fun t => [.int .i64 t.v, .int .i64 t.r, .int .i64 t.c]
theorem flat_length (H : List Itm) : (flat H).length = H.length * 3 := by
  induction H with
  | nil => rfl
  | cons x r ih => simp only [flat, List.flatMap_cons, List.length_append, List.length_cons, List.length_nil] at *; omega
theorem flat_append (A B : List Itm) : flat (A ++ B) = flat A ++ flat B := by simp [flat]
theorem flat_get (H : List Itm) : ∀ k, k < H.length → (flat H)[k * 3]? = some (.int .i64 (at' H k).v) ∧ (flat H)[k * 3 + 1]? = some (.int .i64 (at' H k).r) ∧ (flat H)[k * 3 + 2]? = some (.int .i64 (at' H k).c) := by
  induction H with
  | nil => intro k hk; simp at hk
  | cons x r ih =>
    intro k hk
    have e : flat (x :: r) = [.int .i64 x.v, .int .i64 x.r, .int .i64 x.c] ++ flat r := by simp [flat]
    rw [e]
    cases k with
    | zero => simp [at']
    | succ k =>
      have := ih k (by simpa using hk)
      have ha : at' (x :: r) (k + 1) = at' r k := by simp [at']
      rw [ha, show (k + 1) * 3 = k * 3 + 3 by omega, show k * 3 + 3 + 1 = k * 3 + 1 + 3 by omega, show k * 3 + 3 + 2 = k * 3 + 2 + 3 by omega]
      simp only [List.getElem?_append_right (show ([Value.int .i64 x.v, .int .i64 x.r, .int .i64 x.c]).length ≤ k * 3 + 3 by simp), List.getElem?_append_right (show ([Value.int .i64 x.v, .int .i64 x.r, .int .i64 x.c]).length ≤ k * 3 + 1 + 3 by simp), List.getElem?_append_right (show ([Value.int .i64 x.v, .int .i64 x.r, .int .i64 x.c]).length ≤ k * 3 + 2 + 3 by simp)]
      simpa using this

/-- Block p is a queue with the items H, of which so many have come. -/
structure Que (p : Nat) (H : List Itm) (came : Nat) (w : World) : Prop where
  ex : ∃ v, w.cell? ⟨p, 0, none⟩ = some v ∧ w.ownsRow (p + 1) 84 3 v H.length (flat H)
  c1 : w.cell? ⟨p, 1, none⟩ = some (.int .i64 came)
  f : ∀ j, w.frozen? ⟨p, j, none⟩ = false
  sz : p < w.heap.size

theorem Que.open {p : Nat} {H : List Itm} {came : Nat} {w : World} (h : Que p H came w) (hH : 1 ≤ H.length) :
    ∃ g cap, w.cell? ⟨p, 0, none⟩ = some (.slice (some ⟨g, 0, none⟩) H.length cap) ∧ w.ownsRow (p + 1) 84 3 (.slice (some ⟨g, 0, none⟩) H.length cap) H.length (flat H) ∧ p < g ∧ g < w.heap.size ∧ H.length ≤ cap ∧
      (∀ k, k < H.length → w.cell? ⟨g, k * 3, none⟩ = some (.int .i64 (at' H k).v) ∧ w.cell? ⟨g, k * 3 + 1, none⟩ = some (.int .i64 (at' H k).r) ∧ w.cell? ⟨g, k * 3 + 2, none⟩ = some (.int .i64 (at' H k).c)) ∧ (∀ j, w.frozen? ⟨g, j, none⟩ = false) := by
  obtain ⟨v, h0, ho⟩ := h.ex
  obtain ⟨g, cap, rfl, hg, hgl, hc, _, _, hcl, hf⟩ := owns_open ho hH
  refine ⟨g, cap, h0, ho, by omega, hgl, hc, ?_, hf⟩
  intro k hk
  obtain ⟨a, b, c⟩ := flat_get H k hk
  exact ⟨(hcl _ (by omega)).trans a, (hcl _ (by omega)).trans b, (hcl _ (by omega)).trans c⟩

set_option maxRecDepth 4000 in
theorem before_any (p : Nat) (H : List Itm) (came i k : Nat) (w : World) (h : Que p H came w) (hi : i < H.length) (hk : k < H.length) (hl : H.length ≤ 4096) :
    Calls Try.prog 51 #[.pointer (some ⟨p, 0, none⟩), .int .i64 i, .int .i64 k] w fun e w' => e = .returned (.bool (bef (at' H i) (at' H k))) ∧ Below w.heap.size w w' := by
  obtain ⟨g, cap, h0, _, hpg, hgl, hcap, hcell, _⟩ := h.open (by omega)
  obtain ⟨a0, a1, a2⟩ := hcell i hi
  obtain ⟨b0, b1, b2⟩ := hcell k hk
  have hpl := h.sz
  obtain ⟨n, hn⟩ : ∃ n, H.length = n := ⟨_, rfl⟩
  obtain ⟨A, hA⟩ : ∃ A, at' H i = A := ⟨_, rfl⟩
  obtain ⟨B, hB⟩ : ∃ B, at' H k = B := ⟨_, rfl⟩
  rw [hn] at h0 hi hk hcap hl
  rw [hA] at a0 a1 a2
  rw [hB] at b0 b1 b2
  rw [hA, hB]
  clear h hcell hn hA hB
  go_enter Try.func51, Try.ntmps51
  go_upto_region 1 with fail
  go_cut [7, 8] (fun s7 s8 wx => ∃ x y : Nat, s7 = .pointer (some ⟨x, 0, none⟩) ∧ s8 = .pointer (some ⟨y, 0, none⟩) ∧ wx.cell? ⟨x, 1, none⟩ = some (.int .i64 A.r) ∧ wx.cell? ⟨x, 2, none⟩ = some (.int .i64 A.c) ∧ wx.cell? ⟨y, 1, none⟩ = some (.int .i64 B.r) ∧ wx.cell? ⟨y, 2, none⟩ = some (.int .i64 B.c) ∧ Below w.heap.size w wx)
  case first =>
    go_region
    all_goals
      go_wp2
      go_meet
      exact ⟨_, _, rfl, rfl, by simp [go_sem], by simp [go_sem], by simp [go_sem], by simp [go_sem], by repeat (first | exact Below.refl _ _ | apply Below.drew | apply Below.al | apply Below.ex)⟩
  case rest =>
    obtain ⟨x, y, rfl, rfl, x1, x2, y1, y2, hB⟩ := hcut
    by_cases hr : A.r = B.r
    · have hrb : (A.r != B.r) = false := by simp [hr]
      have hv : Hid (bef A B = decide (A.c < B.c)) := by unfold bef Hid; rw [if_pos hr]
      clear hr
      go_wp2_with fail
      go_ret
      exact ⟨ret_bool hv.out.symm, hB⟩
    · have hrb : (A.r != B.r) = true := by simp [hr]
      have hv : Hid (bef A B = decide (A.r < B.r)) := by unfold bef Hid; rw [if_neg hr]
      clear hr
      go_wp2_with fail
      go_ret
      exact ⟨ret_bool hv.out.symm, hB⟩
end Go.Proofs.Ytfeibjokifidmaa
