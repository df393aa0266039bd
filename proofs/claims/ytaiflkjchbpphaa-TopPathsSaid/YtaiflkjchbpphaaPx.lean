/- A floor without cells: Check, Find, Path, In. -/
import Derived.Test.YtaiflkjchbpphaaPp
import Derived.Test.YtaiflkjchbpphaaPt
namespace Go.Proofs.Ytaiflkjchbpphaa.P
open Go.RowKit

set_option maxRecDepth 8000 in
set_option maxHeartbeats 4000000 in
theorem check_none (ap ac : Option Addr) (np pcap cc : Nat) (w : World) (hn : np ≤ 200) :
    Calls Try.prog 22 #[.agg #[.slice ap np pcap, .slice ac 0 cc]] w fun e w' => e = .returned (.int .i64 0) ∧ Below w.heap.size w w' := by
  go_enter Try.func22, Try.ntmps22
  go_wp2_with fail
  obtain ⟨V, hV⟩ : ∃ V, (w.alloc (Obj.cells #[.slice ap np pcap, .slice ac 0 cc] 28)).alloc (.map #[] 0) = V := ⟨_, rfl⟩
  have hVb := Lib.hid (show Below w.heap.size w V from hV ▸ Below.al (Below.al (Below.refl _ _) _) _)
  try rw [hV]
  clear hV
  go_loopw [26] (fun v26 wr => v26 = .int .i64 0 ∧ Hid (wr = V)) (fun _ _ => 0)
  case atStart => exact ⟨rfl, rfl⟩
  case round =>
    obtain ⟨rfl, hR⟩ := hrel
    go_wp2_with fail
    go_ret
    exact ⟨rfl, by rw [hR.out]; exact hVb.out⟩

set_option maxRecDepth 8000 in
set_option maxHeartbeats 4000000 in
theorem find_none (ap ac : Option Addr) (np pcap cc : Nat) (P : Pt) (w : World) (hn : np ≤ 200) :
    Calls Try.prog 8 #[.agg #[.slice ap np pcap, .slice ac 0 cc], vec P] w fun e w' => e = .returned (.tuple #[.int .i64 0, .int .i64 4]) ∧ Below w.heap.size w w' := by
  have hchk := fun w' => check_none ap ac np pcap cc w' hn
  obtain ⟨px, py⟩ := P
  go_enter Try.func8, Try.ntmps8
  go_wp2_with (go_at_call 22; (with_reducible refine (hchk _).mono ?_); rintro e w1 ⟨rfl, hb1⟩; obtain ⟨l0, n0, rfl⟩ := ext_of hb1; clear hb1)
  obtain ⟨V, hV⟩ : ∃ V, ext ((w.alloc (Obj.cells #[.slice ap np pcap, .slice ac 0 cc] 28)).alloc (Obj.cells #[.int .i64 px, .int .i64 py] 24)) l0 n0 = V := ⟨_, rfl⟩
  have hVb := Lib.hid (show Below w.heap.size w V from hV ▸ Below.ex (Below.al (Below.al (Below.refl _ _) _) _) _ _)
  try rw [hV]
  clear hV
  go_loopw [16] (fun v16 wr => v16 = .int .i64 0 ∧ Hid (wr = V)) (fun _ _ => 0)
  case atStart => exact ⟨rfl, rfl⟩
  case round =>
    obtain ⟨rfl, hR⟩ := hrel
    go_wp2_with fail
    exact bodyPost_ret (v := .tuple #[.int .i64 0, .int .i64 4]) (by simp [results, Try.results8, go_sem]) rfl ⟨rfl, by rw [hR.out]; exact hVb.out⟩

set_option maxRecDepth 8000 in
set_option maxHeartbeats 4000000 in
theorem path_none (ap ac : Option Addr) (np pcap cc : Nat) (P Q : Pt) (w : World) (hn : np ≤ 200) :
    Calls Try.prog 5 #[.agg #[.slice ap np pcap, .slice ac 0 cc], vec P, vec Q] w fun e w' => e = .returned (.tuple #[.slice none 0 0, .int .i64 4]) ∧ Below w.heap.size w w' := by
  have hf := fun w' => find_none ap ac np pcap cc P w' hn
  obtain ⟨px, py⟩ := P
  obtain ⟨qx, qy⟩ := Q
  go_enter Try.func5, Try.ntmps5
  go_wp2_with (go_at_call 8; (with_reducible refine (hf _).mono ?_); rintro e w1 ⟨rfl, hb1⟩; obtain ⟨l0, n0, rfl⟩ := ext_of hb1; clear hb1)
  refine bodyPost_ret (v := .tuple #[.slice none 0 0, .int .i64 4]) (by simp [results, Try.results5, go_sem]) rfl ?_
  exact ⟨rfl, Below.ex (Below.al (Below.al (Below.al (Below.refl _ _) _) _) _) _ _⟩

set_option maxRecDepth 8000 in
set_option maxHeartbeats 4000000 in
theorem in_none (ap ac : Option Addr) (np pcap cc : Nat) (a b : Int) (w : World) :
    Calls Try.prog 7 #[.agg #[.slice ap np pcap, .slice ac 0 cc], .int .i64 a, .int .i64 b] w (Inned (0, 0) w) := by
  go_enter Try.func7, Try.ntmps7
  go_wp2_with fail
  refine bodyPost_ret (v := vec (0, 0)) (by simp [results, Try.results7, go_sem, vec]) rfl ?_
  exact ⟨rfl, Below.al (Below.al (Below.refl _ _) _) _⟩
end Go.Proofs.Ytaiflkjchbpphaa.P
