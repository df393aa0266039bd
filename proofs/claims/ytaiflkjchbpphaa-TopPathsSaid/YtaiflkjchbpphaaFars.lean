/- container/heap over flow.fars. -/
import Derived.Test.YtaiflkjchbpphaaRows
import Derived.Test.YtaiflkjchbpphaaExt
import Derived.Test.YtaiflkjchbpphaaMem
import Derived.Test.YtaiflkjchbpphaaTail
import Derived.Test.YtaiflkjchbpphaaGrow2
import Derived.Test.YtaiflkjchbpphaaHeap
import Derived.Lib.Hide
import Derived.Deep.DeepCutAuto
import Derived.RegionTactic
import Derived.Deep.RegionWith
import Derived.BigRegion
namespace Go.Proofs.Ytaiflkjchbpphaa
open Go.RowKit

theorem wrapChk (P : Program) (ts : Array TypeId) (t : TypeId) (p : Addr) (a b : String) (w : World) : (Builtin.ssaWrapNilChk_ ts t #[.pointer (some p), strVal a, strVal b]).run P w = .ok (.pointer (some p)) w := by rfl
theorem method_load {P : Program} {n : Nat} {t e : TypeId} {i : TypeInfo} {name : String} {f : FuncId} {m} (hi : P.info? t = some i) (hm : i.methods.find? (·.name == name) = some m) (hp : m.path = #[]) (hf : m.func = some (f, false)) (ht : P.underlying t = some (.pointer e)) (p : Addr) (w : World) :
    (method (n + 1) t (.pointer (some p)) name).run P w = ((loadVar e p).run P w).andThen fun v w' => .ok (f, v) w' := by
  simp [method, typeInfo, hi, hm, hp, hf, follow, receiverAt, run_underlying ht, Place.get, asAddr, wrapChk, Sem.run_bind]
theorem Try.meth69 (name : String) (f : FuncId) (h : ((Try.prog.info? 69).bind fun i => (i.methods.find? (·.name == name)).map fun m => (m.path.size, m.func)) = some (0, some (f, false))) (p : Nat) (v : Value) (w : World) (hc : w.cell? ⟨p, 0, none⟩ = some v) :
    (method 234 69 (.pointer (some ⟨p, 0, none⟩)) name).run Try.prog w = .ok (f, v) w := by
  cases hi : Try.prog.info? 69 with
  | none => rw [hi] at h; cases h
  | some i =>
    rw [hi] at h
    cases hm : i.methods.find? (·.name == name) with
    | none => rw [Option.bind_some, hm] at h; cases h
    | some m =>
      rw [Option.bind_some, hm] at h
      simp only [Option.map_some, Option.some.injEq, Prod.mk.injEq] at h
      rw [method_load hi hm (Array.eq_empty_of_size_eq_zero h.1) h.2 Try.underlying69]
      simp [go_sem, hc]

theorem ret_bool {a b : Bool} (h : a = b) : Ending.returned (.bool a) = .returned (.bool b) := by rw [h]
/-- Items, cell by cell. -/
def flat (H : List Itm) : List Value := H.flatMap fun t => [.int .i64 t.r, .int .i64 t.c]
theorem flat_length (H : List Itm) : (flat H).length = H.length * 2 := by
  induction H with
  | nil => rfl
  | cons x r ih => simp only [flat, List.flatMap_cons, List.length_append, List.length_cons, List.length_nil] at *; omega
theorem flat_append (A B : List Itm) : flat (A ++ B) = flat A ++ flat B := by simp [flat]
theorem flat_get (H : List Itm) : ∀ k, k < H.length → (flat H)[k * 2]? = some (.int .i64 (at' H k).r) ∧ (flat H)[k * 2 + 1]? = some (.int .i64 (at' H k).c) := by
  induction H with
  | nil => intro k hk; simp at hk
  | cons x r ih =>
    intro k hk
    have e : flat (x :: r) = [.int .i64 x.r, .int .i64 x.c] ++ flat r := by simp [flat]
    rw [e]
    cases k with
    | zero => simp [at']
    | succ k =>
      have := ih k (by simpa using hk)
      have ha : at' (x :: r) (k + 1) = at' r k := by simp [at']
      rw [ha, show (k + 1) * 2 = k * 2 + 2 by omega, show k * 2 + 2 + 1 = k * 2 + 1 + 2 by omega]
      simp only [List.getElem?_append_right (show ([Value.int .i64 x.r, .int .i64 x.c]).length ≤ k * 2 + 2 by simp), List.getElem?_append_right (show ([Value.int .i64 x.r, .int .i64 x.c]).length ≤ k * 2 + 1 + 2 by simp)]
      simpa using this
theorem flat_take (H : List Itm) : ∀ m, (flat H).take (m * 2) = flat (H.take m) := by
  induction H with
  | nil => intro m; simp [flat]
  | cons x r ih =>
    intro m
    have e : ∀ (z : Itm) (q : List Itm), flat (z :: q) = .int .i64 z.r :: .int .i64 z.c :: flat q := by intro z q; simp [flat]
    cases m with
    | zero => simp [flat]
    | succ m => rw [e, List.take_succ_cons, e, show (m + 1) * 2 = m * 2 + 1 + 1 by omega, List.take_succ_cons, List.take_succ_cons, ih m]

/-- fars.Less. -/
theorem less_any (g i k n cap : Nat) (A B : Itm) (w : World) (hi : i < n) (hk : k < n)
    (a0 : w.cell? ⟨g, i * 2, none⟩ = some (.int .i64 A.r)) (a1 : w.cell? ⟨g, i * 2 + 1, none⟩ = some (.int .i64 A.c)) (b0 : w.cell? ⟨g, k * 2, none⟩ = some (.int .i64 B.r)) (b1 : w.cell? ⟨g, k * 2 + 1, none⟩ = some (.int .i64 B.c)) (hg : g < w.heap.size) :
    Calls Try.prog 75 #[.slice (some ⟨g, 0, none⟩) n cap, .int .i64 i, .int .i64 k] w fun e w' => e = .returned (.bool (bef A B)) ∧ Below w.heap.size w w' := by
  obtain ⟨av, ar, ac⟩ := A
  obtain ⟨bv, br, bc⟩ := B
  simp only at a0 a1 b0 b1
  rcases Int.lt_trichotomy ar br with h | h | h
  · have hv : Hid (bef ⟨av, ar, ac⟩ ⟨bv, br, bc⟩ = true) := by unfold bef Hid; rw [if_neg (by simp only []; omega)]; simpa using h
    go_enter Try.func75, Try.ntmps75
    go_wp2_with fail
    refine region_grow (by kernel_rfl) (by kernel_rfl) ?_
    repeat (go_big_quiet_step ((fail)))
    refine wpQuiet_nil ?_
    intro _ hw'
    obtain ⟨k, m, rfl⟩ := hw'
    go_wp2
    go_ret
    exact ⟨ret_bool hv.out.symm, below_ext _ _ _⟩
  · subst h
    have hv : Hid (bef ⟨av, ar, ac⟩ ⟨bv, ar, bc⟩ = decide (ac < bc)) := by unfold bef Hid; rw [if_pos rfl]
    go_enter Try.func75, Try.ntmps75
    go_wp2_with fail
    refine region_grow (by kernel_rfl) (by kernel_rfl) ?_
    repeat (go_big_quiet_step ((fail)))
    refine wpQuiet_nil ?_
    intro _ hw'
    obtain ⟨k, m, rfl⟩ := hw'
    go_wp2
    go_ret
    exact ⟨ret_bool hv.out.symm, below_ext _ _ _⟩
  · have hv : Hid (bef ⟨av, ar, ac⟩ ⟨bv, br, bc⟩ = false) := by unfold bef Hid; rw [if_neg (by simp only []; omega)]; simp; omega
    have h1 : decide (ar < br) = false := by simp; omega
    have h2 : (ar == br) = false := by simp; omega
    clear h
    go_enter Try.func75, Try.ntmps75
    go_wp2_with fail
    refine region_grow (by kernel_rfl) (by kernel_rfl) ?_
    repeat (go_big_quiet_step ((fail)))
    refine wpQuiet_nil ?_
    intro _ hw'
    obtain ⟨k, m, rfl⟩ := hw'
    go_wp2
    go_ret
    exact ⟨ret_bool hv.out.symm, below_ext _ _ _⟩
end Go.Proofs.Ytaiflkjchbpphaa
