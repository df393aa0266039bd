/- TopFields: what stands in memory when the floor is laid. -/
import Derived.Test.YtaiflkjchbpphaaSquares
namespace Go.Proofs.Ytaiflkjchbpphaa
open Go.RowKit

structure Fin (W H N c ccap gq mq pp np pcap mb nc cc ccp : Nat) (s r : Nat → Nat) (Ds : List Int) (w0 w : World) : Prop where
  g0 : w.cell? ⟨gq, 0, none⟩ = some (.int .i64 (W : Int))
  g1 : w.cell? ⟨gq, 1, none⟩ = some (.int .i64 (H : Int))
  g2 : w.cell? ⟨gq, 2, none⟩ = some (.slice (some ⟨c, 0, none⟩) N ccap)
  m0 : w.cell? ⟨mq, 0, none⟩ = some (.slice (some ⟨pp, 0, none⟩) np pcap)
  m1 : w.cell? ⟨mq, 1, none⟩ = some (.slice (some ⟨cc, 0, none⟩) nc ccp)
  ic : IRow w c Ds
  dl : Ds.length = N
  mp : M1 w mb (ofs s nc)
  msh : Msh pp np cc nc (fx W) (fy W) r (fun k j => cor W (s k) j) w
  bel : Below w0.heap.size w0 w
  sz : w0.heap.size ≤ w.heap.size
  cl : c < w.heap.size
  gl : gq < w.heap.size
  ml : mq < w.heap.size
  bl : mb < w.heap.size

theorem Fin.on {W H N c ccap gq mq pp np pcap mb nc cc ccp : Nat} {s r : Nat → Nat} {Ds : List Int} {w0 w w' : World} (h : Fin W H N c ccap gq mq pp np pcap mb nc cc ccp s r Ds w0 w) (hb : Below w.heap.size w w') : Fin W H N c ccap gq mq pp np pcap mb nc cc ccp s r Ds w0 w' := by
  have hs := hb.size
  exact ⟨(hb.cell (p := ⟨gq, 0, none⟩) h.gl).trans h.g0, (hb.cell (p := ⟨gq, 1, none⟩) h.gl).trans h.g1, (hb.cell (p := ⟨gq, 2, none⟩) h.gl).trans h.g2, (hb.cell (p := ⟨mq, 0, none⟩) h.ml).trans h.m0, (hb.cell (p := ⟨mq, 1, none⟩) h.ml).trans h.m1, h.ic.below hb h.cl, h.dl, h.mp.kept (hb.block mb h.bl), h.msh.on hb, h.bel.trans (hb.mono h.sz), Nat.le_trans h.sz hs, Nat.lt_of_lt_of_le h.cl hs, Nat.lt_of_lt_of_le h.gl hs, Nat.lt_of_lt_of_le h.ml hs, Nat.lt_of_lt_of_le h.bl hs⟩

theorem Dst.fin {W H N c ccap gq mq pp np pcap mb B nc cc ccp : Nat} {v : Value} {s r : Nat → Nat} {Cs Ds : List Int} {w0 w : World} (h : Dst W H N c ccap gq mq pp np pcap mb B nc N v (.slice (some ⟨cc, 0, none⟩) nc ccp) s r Cs Ds w0 w) (hW : 1 ≤ W) (hN : W * H = N) (hnp : (W + 1) * (H + 1) = np) : Fin W H N c ccap gq mq pp np pcap mb nc cc ccp s r Ds w0 w := by
  obtain ⟨_, hcc, _, _, hccs, _⟩ := owns_at h.cls
  obtain ⟨o1, o2, o3, o4, o5, o6, o7⟩ := And.intro h.o1 (And.intro h.o2 (And.intro h.o3 (And.intro h.o4 (And.intro h.o5 (And.intro h.o6 h.o7)))))
  refine ⟨h.g0, h.g1, h.g2, h.m0, h.m1, h.ic, h.dl, h.mp, ⟨h.pts, fun i hi => ?_, fun i j hi hj => h.row i j hi hj, fun i j hi _ => ?_, by omega, hcc, fun i hi => (h.rB i hi).2.1⟩, h.bel, by omega, by omega, by omega, by omega, by omega⟩
  · rw [hccs i (by omega), rowsOf_get _ _ _ _ hi]
  · rw [← hnp]; exact cor_lt hW hN (h.sel.lt i hi).1 j

/-- The row of costs reads 0 or 1. -/
theorem Dst.zo {W H N c ccap gq mq pp np pcap mb B nc : Nat} {v vc : Value} {s r : Nat → Nat} {Cs Ds : List Int} {w0 w : World} (h : Dst W H N c ccap gq mq pp np pcap mb B nc N v vc s r Cs Ds w0 w) (a : Nat) (ha : a < N) : (gt Ds a = 0 ∨ gt Ds a = 1) ∧ (gt Ds a = 1 ↔ gt Cs a ≠ 0) := by
  rw [h.ds a ha]
  by_cases e : gt Cs a ≠ 0
  · rw [if_pos ⟨ha, e⟩]; exact ⟨.inr rfl, ⟨fun _ => e, fun _ => rfl⟩⟩
  · rw [if_neg (fun x => e x.2)]
    have e' : gt Cs a = 0 := by omega
    exact ⟨.inl e', ⟨fun x => by omega, fun x => absurd x e⟩⟩

/-- As many numbers as are met, so many places there are. -/
theorem pigeon : ∀ (N d : Nat) (O : Nat → Int), (∀ v : Nat, v ≤ d → ∃ b, b < N ∧ O b = (v : Int)) → d < N
  | 0, d, O, h => by obtain ⟨b, hb, _⟩ := h 0 (Nat.zero_le _); omega
  | N + 1, 0, O, h => by omega
  | N + 1, d + 1, O, h => by
    have := pigeon N d (fun b => if O b = ((d + 1 : Nat) : Int) then O N else O b) (fun v hv => by
      obtain ⟨b, hb, e⟩ := h v (by omega)
      by_cases hbN : b = N
      · subst hbN
        obtain ⟨b', hb', e'⟩ := h (d + 1) (Nat.le_refl _)
        have hne : b' ≠ b := fun x => by subst x; omega
        exact ⟨b', by omega, by simp only [e', if_true]; exact e⟩
      · exact ⟨b, by omega, by simp only [e]; rw [if_neg (by omega)]⟩)
    omega
theorem Bfs.bound {N : Nat} {C : Nat → Prop} {A : Nat → Nat → Prop} {g : Nat} {O : Nat → Int} (h : Bfs N C A g O) (d a : Nat) (ha : a < N) (hd : O a = (d : Int)) : d < N := by
  have hall : ∀ (d a : Nat), a < N → O a = (d : Int) → ∀ v : Nat, v ≤ d → ∃ b, b < N ∧ O b = (v : Int) := by
    intro d
    induction d with
    | zero => intro a ha hd v hv; exact ⟨a, ha, by rw [hd]; congr 1; omega⟩
    | succ d ih =>
      intro a ha hd v hv
      by_cases e : v = d + 1
      · exact ⟨a, ha, by rw [hd, e]⟩
      · rcases (h.done a ha (by omega)).2 with ⟨h1, _⟩ | ⟨b, hb, _, _, h2⟩
        · omega
        · exact ih b hb (by omega) v (by omega)
  exact pigeon N d O (hall d a ha hd)
end Go.Proofs.Ytaiflkjchbpphaa
