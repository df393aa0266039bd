/- queueBegun says yes. -/
import Derived.Test.YtfeibjokifidmaaSQue
namespace Go.Proofs.Ytfeibjokifidmaa.S
open Go.RowKit

theorem Que.made (w : World) (t : TypeId) : Que w.heap.size [] 0 (w.alloc (Obj.cells #[.slice none 0 0, .int .i64 0] t)) := by
  refine ⟨⟨.slice none 0 0, by simp [go_sem], ?_⟩, by simp [go_sem], ?_, by simp⟩
  · exact World.ownsRow_nil _ _ _ _
  · intro j; simp [go_sem]

theorem put_b (p : Nat) (w : World) (h : Que p [] 0 w) :
    Calls Try.prog 48 #[.pointer (some ⟨p, 0, none⟩), .string ⟨#[98]⟩, .int .i64 2] w fun e w' => e = .returned (.int .i64 0) ∧ Hid (Que p [⟨98, 2, 0⟩] 1 w') ∧ Below p w w' := by
  have := put_any p [] 0 98 2 w h (fun j _ hj => by simp at hj) (by simp) (by omega)
  rw [show str 98 = ⟨#[98]⟩ from rfl] at this
  refine this.mono ?_
  rintro e w' ⟨he, hq, hb⟩
  refine ⟨he, ?_, hb⟩
  obtain ⟨H', h1, _, h3⟩ := hq.out
  rw [List.nil_append] at h3
  rw [List.perm_singleton.1 h3] at h1
  exact h1
theorem put_a (p : Nat) (w : World) (h : Que p [⟨98, 2, 0⟩] 1 w) :
    Calls Try.prog 48 #[.pointer (some ⟨p, 0, none⟩), .string ⟨#[97]⟩, .int .i64 1] w fun e w' => e = .returned (.int .i64 0) ∧ Hid (∃ H, Que p H 2 w' ∧ Heap H ∧ H.length = 2 ∧ at' H 0 = ⟨97, 1, 1⟩) ∧ Below p w w' := by
  have := put_any p [⟨98, 2, 0⟩] 1 97 1 w h (fun j h1 hj => by simp at hj; omega) (by simp) (by omega)
  rw [show str 97 = ⟨#[97]⟩ from rfl] at this
  refine this.mono ?_
  rintro e w' ⟨he, hq, hb⟩
  refine ⟨he, ?_, hb⟩
  obtain ⟨H', h1, h2, h3⟩ := hq.out
  have hl : H'.length = 2 := by rw [h3.length_eq]; rfl
  refine ⟨H', h1, h2, hl, ?_⟩
  have hm : at' H' 0 ∈ H' := by rw [at_eq (by omega)]; exact List.getElem_mem _
  have hm2 := h3.mem_iff.1 hm
  have hle := h2.least_mem ⟨97, 1, 1⟩ (h3.mem_iff.2 (by simp))
  rcases List.mem_append.1 hm2 with hx | hx
  · rw [List.mem_singleton] at hx
    rw [hx, Le_iff] at hle
    simp at hle
  · rw [List.mem_singleton] at hx
    rw [hx]
    rfl

set_option maxRecDepth 4000 in
theorem begun_any (w : World) : Calls Try.prog 11 #[] w fun e w' => e = .returned (.bool true) ∧ Below w.heap.size w w' := by
  have hQ := Que.made w 78
  have HQ := Lib.hid hQ
  have e0 : ((⟨#[97]⟩ : ByteArray) == ⟨#[97]⟩) = true := by decide
  clear hQ
  go_enter Try.func11, Try.ntmps11
  go_wp2_with fail
  refine (put_b w.heap.size _ HQ.out).mono ?_
  rintro e w1 ⟨rfl, hQ1, hb1⟩
  have HB1 : Hid (Below w.heap.size w w1) := ((Below.refl _ _).alloc (Nat.le_refl _) _).trans hb1
  clear hb1
  go_wp2_with fail
  refine (put_a w.heap.size w1 hQ1.out).mono ?_
  rintro e w2 ⟨rfl, hQ2, hb2⟩
  have HB2 := Lib.hid (HB1.out.trans hb2)
  clear hb2
  go_wp2_with fail
  obtain ⟨H, h1, h2, h3, h4⟩ := hQ2.out
  have htk := take_any w.heap.size H 2 w2 h1 h2 (by omega) (by omega)
  unfold Taken at htk
  rw [h4] at htk
  rw [show str 97 = ⟨#[97]⟩ from rfl] at htk
  refine htk.mono ?_
  rintro e w3 ⟨rfl, J, hQJ, _, hPJ, g, c, hpg, _, _, hfr⟩
  have hl : J.length = 1 := by have := hPJ.length_eq; simp [h3] at this; omega
  have hqn := qlen_any w.heap.size J 2 w3 hQJ
  rw [hl] at hqn
  have hsz := h1.sz
  have HB3 := Lib.hid (HB2.out.trans (hfr.below (by omega) (by omega)))
  have HQN := Lib.hid hqn
  clear hqn hQJ hPJ hfr htk h1 h2 h3 h4 hl
  go_wp2_with fail
  refine HQN.out.mono ?_
  rintro e _ ⟨rfl, rfl⟩
  go_wp2_with fail
  go_ret
  exact ⟨rfl, HB3.out⟩
end Go.Proofs.Ytfeibjokifidmaa.S
