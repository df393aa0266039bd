/- Variables that lie in memory. -/
import Derived.Test.YtfeibjokifidmaaExt
namespace Go.Proofs.Ytfeibjokifidmaa
open Go.RowKit

/-- A variable's box. -/
def Box (W : World) (b : Nat) (v : Value) : Prop := W.cell? ⟨b, 0, none⟩ = some v ∧ W.frozen? ⟨b, 0, none⟩ = false
theorem Box.lt {W : World} {b : Nat} {v : Value} (h : Box W b v) : b < W.heap.size := World.block_lt_of_cell? W _ h.1
theorem Box.keep {W W' : World} {b : Nat} {v : Value} (h : Box W b v) (hb : Below W.heap.size W W') : Box W' b v :=
  ⟨(hb.cell (p := ⟨b, 0, none⟩) h.lt).trans h.1, (hb.frozen (p := ⟨b, 0, none⟩) h.lt).trans h.2⟩
theorem Box.below {W W' : World} {b C : Nat} {v : Value} (h : Box W b v) (hb : Below C W W') (hC : b < C) : Box W' b v :=
  ⟨(hb.cell (p := ⟨b, 0, none⟩) hC).trans h.1, (hb.frozen (p := ⟨b, 0, none⟩) hC).trans h.2⟩
theorem Box.alloc {W : World} {b : Nat} {v : Value} (h : Box W b v) (o : Obj) : Box (W.alloc o) b v := h.keep ((Below.refl _ _).alloc (Nat.le_refl _) _)
theorem Box.drew {W : World} {b : Nat} {v : Value} (h : Box W b v) : Box W.drew b v := ⟨h.1, h.2⟩
theorem Box.new (W : World) (t : TypeId) (v : Value) : Box (W.alloc (.cells #[v] t)) W.heap.size v := ⟨by simp, by simp⟩
theorem Box.set {W : World} {b : Nat} {v : Value} (h : Box W b v) (u : Value) : Box (W.setCell ⟨b, 0, none⟩ u) b u :=
  ⟨World.cell?_setCell_same _ _ _ h.1, by rw [World.frozen?_setCell]; exact h.2⟩
theorem Box.other {W : World} {b c : Nat} {v : Value} (h : Box W b v) (hne : b ≠ c) (i : Nat) (u : Value) : Box (W.setCell ⟨c, i, none⟩ u) b v :=
  ⟨(World.cell?_setCell_other _ _ _ _ (fun e => hne (congrArg Addr.block e).symm)).trans h.1, by rw [World.frozen?_setCell]; exact h.2⟩
/-- A variable that was made ahead of a call. -/
theorem Box.made {W W' : World} {t : TypeId} {v : Value} (h : Below (W.alloc (.cells #[v] t)).heap.size (W.alloc (.cells #[v] t)) W') : Box W' W.heap.size v := (Box.new W t v).keep h
theorem Box.made' {W W' : World} {t : TypeId} {v : Value} (h : Below (W.alloc (.cells #[v] t)).drew.heap.size (W.alloc (.cells #[v] t)).drew W') : Box W' W.heap.size v := (Box.new W t v).drew.keep h
end Go.Proofs.Ytfeibjokifidmaa
