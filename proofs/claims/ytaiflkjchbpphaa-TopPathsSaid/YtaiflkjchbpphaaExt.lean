/- Worlds that a call leaves: the old one, new blocks behind it, and some count of draws. 'Below' as an equation, and the walk's rules on it. -/
import Derived.WalkKit
import Derived.Outline
import Derived.Deep.QuietTactic
import Derived.BigQuiet
namespace Go.Proofs.Ytaiflkjchbpphaa
open Go.RowKit

/-- The world w with the blocks l behind it and the draws at n. -/
def ext (w : World) (l : List Obj) (n : Nat) : World := { w with heap := w.heap ++ l.toArray, drawn := n }

theorem ext_of {w w' : World} (h : Below w.heap.size w w') : ∃ l n, w' = ext w l n := by
  refine ⟨(w'.heap.toList.drop w.heap.size), w'.drawn, ?_⟩
  obtain ⟨h1, h2, h3, h4, h5⟩ := h
  cases w with | mk heap tape drawn os output =>
  cases w' with | mk heap' tape' drawn' os' output' =>
  simp only at h1 h2 h3 h4 h5
  subst h1 h2 h3
  unfold ext
  congr 1
  apply Array.ext_getElem?
  intro k
  rw [Array.getElem?_append]
  by_cases hk : k < heap.size
  · rw [if_pos hk]; exact h5 k hk
  · rw [if_neg hk]
    simp only [List.getElem?_toArray, List.getElem?_drop, Array.getElem?_toList]
    congr 1
    omega

theorem below_ext (w : World) (l : List Obj) (n : Nat) : Below w.heap.size w (ext w l n) := by
  refine ⟨rfl, rfl, rfl, ?_, ?_⟩
  · simp [ext]
  · intro k hk
    show (w.heap ++ l.toArray)[k]? = _
    rw [Array.getElem?_append, if_pos hk]

@[go_sem, simp] theorem size_ext (w : World) (l : List Obj) (n : Nat) : (ext w l n).heap.size = w.heap.size + l.length := by simp [ext]

@[go_sem] theorem cell_ext (w : World) (l : List Obj) (n b i : Nat) (h : b < w.heap.size) : (ext w l n).cell? ⟨b, i, none⟩ = w.cell? ⟨b, i, none⟩ :=
  (below_ext w l n).cell (p := ⟨b, i, none⟩) h
@[go_sem] theorem frozen_ext (w : World) (l : List Obj) (n b i : Nat) (h : b < w.heap.size) : (ext w l n).frozen? ⟨b, i, none⟩ = w.frozen? ⟨b, i, none⟩ :=
  (below_ext w l n).frozen (p := ⟨b, i, none⟩) h
@[go_sem] theorem setCell_ext (w : World) (l : List Obj) (n b i : Nat) (v : Value) (h : b < w.heap.size) : (ext w l n).setCell ⟨b, i, none⟩ v = ext (w.setCell ⟨b, i, none⟩ v) l n := by
  unfold World.setCell ext
  congr 1
  apply Array.ext_getElem?
  intro k
  simp only [Array.getElem?_modify, Array.getElem?_append, Array.size_modify]
  by_cases hk : k < w.heap.size
  · simp [hk]
  · have : b ≠ k := by omega
    simp [hk, this]
@[go_sem] theorem drew_ext (w : World) (l : List Obj) (n : Nat) : (ext w l n).drew = ext w l (n + 1) := rfl
@[go_sem] theorem ext_drew (w : World) (l : List Obj) (n : Nat) : ext w.drew l n = ext w l n := rfl
@[go_sem] theorem ext_ext (w : World) (l k : List Obj) (n m : Nat) : ext (ext w l n) k m = ext w (l ++ k) m := by
  unfold ext; simp [Array.append_assoc]

theorem ext_nil (w : World) : ext w [] w.drawn = w := by
  cases w; simp [ext]

theorem Below.ext' {B : Nat} {a w : World} (h : Below B a w) (hB : B ≤ w.heap.size) (l : List Obj) (n : Nat) : Below B a (ext w l n) :=
  h.trans ((below_ext w l n).mono hB)
/-! Which of two sums is the greater one, for the walk: the lesser one stands at the beginning of the greater one. -/
def FarLt (a b c : Nat) : Prop := ¬ a < b ∧ a < b + c
def FarLe (a b c : Nat) : Prop := ¬ a ≤ b ∧ a ≤ b + c
@[go_sem] theorem lt_sum (a b c : Nat) : a < b + c ↔ (a < b ∨ FarLt a b c) := by unfold FarLt; omega
@[go_sem] theorem le_sum (a b c : Nat) : a ≤ b + c ↔ (a ≤ b ∨ FarLe a b c) := by unfold FarLe; omega
theorem Below.al {w v : World} (h : Below w.heap.size w v) (o : Obj) : Below w.heap.size w (v.alloc o) := h.alloc h.size o
theorem Below.ex {w v : World} (h : Below w.heap.size w v) (l : List Obj) (n : Nat) : Below w.heap.size w (ext v l n) := Below.ext' h h.size l n

/-! A region that draws its order, whose operations read, compute, or call functions that leave the old memory alone: one walk in the order of the text. -/
@[go_sem] theorem all_ext {f : List Obj → Nat → World} {p : World → Prop} : (∀ (w : World) (l : List Obj) (n : Nat), w = f l n → p w) ↔ ∀ l n, p (f l n) :=
  ⟨fun h l n => h _ l n rfl, fun h _ l n e => e ▸ h l n⟩

theorem region_grow {P : Program} {id : Nat} {Q : Exit → Act → World → Prop} {a : Act} {w : World} {l : List Oper} (hm : P.follows .mixedOrders = true) (hB : Region.lexB .any l.toArray = true)
    (h : wpQuiet P l.toArray (fun w' => ∃ k n, w' = ext w k n) (fun a' => ∀ w', (∃ k n, w' = ext w k n) → Q .normal a' w') l a) : (Code.region id l.toArray true).wp P Q a w :=
  wp_region_quiet (C := fun w' => ∃ k n, w' = ext w k n) hm hB ⟨[], w.drawn + 1, by simp [ext]⟩ (by simpa using h)

theorem grow_of {P : Program} {f : FuncId} {args : Array Value} {w : World} {l : List Obj} {n : Nat} {v : Value}
    (h : Calls P f args (ext w l n) fun e w' => e = .returned v ∧ Below (ext w l n).heap.size (ext w l n) w') : Calls P f args (ext w l n) fun e w'' => e = .returned v ∧ ∃ k m, w'' = ext w k m :=
  h.mono fun _ _ ⟨he, hb⟩ => ⟨he, by obtain ⟨k, m, rfl⟩ := ext_of hb; exact ⟨l ++ k, m, ext_ext _ _ _ _ _⟩⟩
theorem grow_same {P : Program} {f : FuncId} {args : Array Value} {w : World} {l : List Obj} {n : Nat} {v : Value}
    (h : Calls P f args (ext w l n) fun e w' => e = .returned v ∧ ext w l n = w') : Calls P f args (ext w l n) fun e w'' => e = .returned v ∧ ∃ k m, w'' = ext w k m :=
  h.mono fun _ _ ⟨he, hb⟩ => ⟨he, l, n, hb.symm⟩
end Go.Proofs.Ytaiflkjchbpphaa
