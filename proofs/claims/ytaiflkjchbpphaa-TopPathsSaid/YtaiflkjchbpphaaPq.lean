/- tourtop.haLong. -/
import Derived.Test.YtaiflkjchbpphaaPl
import Derived.Test.YtaiflkjchbpphaaPm
namespace Go.Proofs.Ytaiflkjchbpphaa.P
open Go.RowKit

/-- The floor of a length. -/
noncomputable def flen (A B : Pt) : Int := (Q.len (B.1 - A.1) (B.2 - A.2) : Nat)
/-- The length of a way. -/
noncomputable def hlong : List Pt → Int
  | A :: B :: r => flen A B + hlong (B :: r)
  | _ => 0
theorem flen_spec (A B : Pt) : 0 ≤ flen A B ∧ flen A B * flen A B ≤ dt (sb B A) (sb B A) ∧ dt (sb B A) (sb B A) < (flen A B + 1) * (flen A B + 1) := by
  obtain ⟨h1, h2⟩ := Q.rt_is ((B.1 - A.1).natAbs * (B.1 - A.1).natAbs + (B.2 - A.2).natAbs * (B.2 - A.2).natAbs)
  have e1 := Int.natAbs_mul_self (a := B.1 - A.1)
  have e2 := Int.natAbs_mul_self (a := B.2 - A.2)
  unfold flen Q.len dt sb
  generalize Q.rt ((B.1 - A.1).natAbs * (B.1 - A.1).natAbs + (B.2 - A.2).natAbs * (B.2 - A.2).natAbs) = r at h1 h2 ⊢
  refine ⟨by omega, ?_, ?_⟩
  · have : ((r * r : Nat) : Int) ≤ (((B.1 - A.1).natAbs * (B.1 - A.1).natAbs + (B.2 - A.2).natAbs * (B.2 - A.2).natAbs : Nat) : Int) := by exact_mod_cast h1
    push_cast at this
    push_cast at e1 e2
    simp only []
    omega
  · have : (((B.1 - A.1).natAbs * (B.1 - A.1).natAbs + (B.2 - A.2).natAbs * (B.2 - A.2).natAbs : Nat) : Int) < (((r + 1) * (r + 1) : Nat) : Int) := by exact_mod_cast h2
    push_cast at this
    push_cast at e1 e2
    simp only []
    omega
theorem flen_bd (A B : Pt) (hA : Small A) (hB : Small B) : 0 ≤ flen A B ∧ flen A B ≤ 2199023255552 := by
  unfold Small at hA hB
  have := Q.len_lt (B.1 - A.1) (B.2 - A.2) (by omega) (by omega) (by omega) (by omega)
  unfold flen
  omega
theorem vlen_small (A B : Pt) (hA : Small A) (hB : Small B) : Q.vlen (Q.fsub B.1 A.1) (Q.fsub B.2 A.2) = flen A B := by
  unfold Small at hA hB
  have hl := Q.len_lt (B.1 - A.1) (B.2 - A.2) (by omega) (by omega) (by omega) (by omega)
  have h1 : Q.fsub B.1 A.1 = B.1 - A.1 := by
    unfold Q.fsub
    rw [Q.clamp_in B.1 (by omega) (by omega), Q.clamp_in A.1 (by omega) (by omega), Q.clamp_in _ (by omega) (by omega)]
  have h2 : Q.fsub B.2 A.2 = B.2 - A.2 := by
    unfold Q.fsub
    rw [Q.clamp_in B.2 (by omega) (by omega), Q.clamp_in A.2 (by omega) (by omega), Q.clamp_in _ (by omega) (by omega)]
  have hl2 : (Q.len (B.1 - A.1) (B.2 - A.2) : Int) ≤ 1099511627776 := by
    have : Q.len (B.1 - A.1) (B.2 - A.2) < 1099511627776 := by
      refine Q.rt_lt _ _ ?_
      have k1 : (B.1 - A.1).natAbs * (B.1 - A.1).natAbs ≤ 131072000 * 131072000 := Nat.mul_le_mul (by omega) (by omega)
      have k2 : (B.2 - A.2).natAbs * (B.2 - A.2).natAbs ≤ 131072000 * 131072000 := Nat.mul_le_mul (by omega) (by omega)
      omega
    omega
  unfold Q.vlen flen
  rw [h1, h2, Q.clamp_in (B.1 - A.1) (by omega) (by omega), Q.clamp_in (B.2 - A.2) (by omega) (by omega), Q.clamp_in _ (by omega) hl2]

set_option maxRecDepth 8000 in
set_option maxHeartbeats 4000000 in
theorem long_any (g n cap : Nat) (L : List Pt) (w : World) (h : Ptl w g L) (hg : g < w.heap.size) (hn : L.length = n) (hn2 : n ≤ 1000) (hs : SmallL L) :
    Calls Try.prog 11 #[.slice (some ⟨g, 0, none⟩) n cap] w fun e w' => e = .returned (.int .i64 (hlong L)) ∧ Below w.heap.size w w' := by
  have HL := Lib.hid h
  have HS := Lib.hid hs
  have HN := Lib.hid hn
  clear h hs hn
  go_enter Try.func11, Try.ntmps11
  go_wp2_with fail
  go_loopw [3, 4] (fun v3 v4 wr => ∃ (i t : Nat) (a : Int), v4 = .int .i64 i ∧ v3 = .int .i64 a ∧ t ≤ n ∧ Hid (i = t + 1) ∧ 0 ≤ a ∧ a ≤ 2199023255552 * t ∧ Hid (a + hlong (L.drop t) = hlong L ∧ Below w.heap.size w wr)) (fun _ v4 _ => n + 1 - (intOf v4).toNat)
  case atStart => exact ⟨1, 0, 0, rfl, rfl, Nat.zero_le _, rfl, by omega, by omega, by simp, Below.refl _ _⟩
  case round =>
    obtain ⟨i, t, a, rfl, rfl, ht, hit, ha, ha2, hR⟩ := hrel
    by_cases h0 : n ≤ i
    · have i1 : ¬ (i : Int) < (n : Int) := by omega
      have HE : Hid (hlong (L.drop t) = 0) := by
        have hl : (L.drop t).length ≤ 1 := by rw [List.length_drop, HN.out]; have := hit.out; omega
        match L.drop t, hl with
        | [], _ => rfl
        | [x], _ => rfl
        | x :: y :: r, hl => simp at hl
      clear h0
      go_wp2_with fail
      go_ret
      have h1 := hR.out.1
      have h2 := HE.out
      exact ⟨by simp; omega, hR.out.2⟩
    · have i1 : (i : Int) < (n : Int) := by omega
      have hit' := hit.out
      have i2 : (i : Int) - 1 = (t : Int) := by omega
      have i3 : i < n := by omega
      have i4 : t < n := by omega
      have i5 : (t : Int) < (n : Int) := by omega
      obtain ⟨P, hP⟩ : ∃ P, L[t]? = some P := ⟨L[t]'(by rw [HN.out]; exact i4), List.getElem?_eq_getElem _⟩
      obtain ⟨R, hRR⟩ : ∃ P, L[i]? = some P := ⟨L[i]'(by rw [HN.out]; exact i3), List.getElem?_eq_getElem _⟩
      obtain ⟨p0, p1⟩ := HL.out t P hP
      obtain ⟨r0, r1⟩ := HL.out i R hRR
      have p0 := (hR.out.2.cell (p := ⟨g, t * 2, none⟩) hg).trans p0
      have p1 := (hR.out.2.cell (p := ⟨g, t * 2 + 1, none⟩) hg).trans p1
      have r0 := (hR.out.2.cell (p := ⟨g, i * 2, none⟩) hg).trans r0
      have r1 := (hR.out.2.cell (p := ⟨g, i * 2 + 1, none⟩) hg).trans r1
      have hPs := HS.out P (List.mem_of_getElem? hP)
      have hRs := HS.out R (List.mem_of_getElem? hRR)
      have hgw : g < wr.heap.size := Nat.lt_of_lt_of_le hg hR.out.2.size
      have HD : Hid (hlong (L.drop t) = flen P R + hlong (L.drop (t + 1))) := by
        obtain ⟨e1, e2⟩ := List.getElem?_eq_some_iff.1 hP
        obtain ⟨e3, e4⟩ := List.getElem?_eq_some_iff.1 hRR
        have d1 : L.drop t = P :: L.drop (t + 1) := by rw [List.drop_eq_getElem_cons e1, e2]
        have d2 : L.drop (t + 1) = R :: L.drop (t + 2) := by
          rw [List.drop_eq_getElem_cons (by rw [HN.out]; omega)]
          have : L[t + 1]'(by rw [HN.out]; omega) = R := by rw [← e4]; congr 1; exact hit'.symm
          rw [this]
        show hlong (L.drop t) = flen P R + hlong (L.drop (t + 1))
        rw [d1, d2]; rfl
      have hbd := flen_bd P R hPs hRs
      have hvl := vlen_small P R hPs hRs
      have hsub := fun w' => Q.vsub_any R.1 R.2 P.1 P.2 w'
      have hlen := fun w' => Q.vlen_any (Q.fsub R.1 P.1) (Q.fsub R.2 P.2) w'
      simp only [hvl] at hlen
      obtain ⟨D, hD⟩ : ∃ D, flen P R = D := ⟨_, rfl⟩
      rw [hD] at HD hbd
      simp only [hD] at hlen
      obtain ⟨px, py⟩ := P
      obtain ⟨rx, ry⟩ := R
      simp only at p0 p1 r0 r1 hsub hlen
      obtain ⟨sx, hsx⟩ : ∃ s, Q.fsub rx px = s := ⟨_, rfl⟩
      obtain ⟨sy, hsy⟩ : ∃ s, Q.fsub ry py = s := ⟨_, rfl⟩
      simp only [hsx, hsy] at hsub hlen
      clear hsx hsy hD hvl hP hRR hPs hRs h0 hit'
      go_wp2_with fail
      refine region_grow (by kernel_rfl) (by kernel_rfl) ?_
      repeat (go_big_quiet_step (first | (intro _; go_at_call 29; exact grow_of (hsub _)) | (intro _; go_at_call 28; exact grow_of (hlen _))))
      refine wpQuiet_nil ?_
      intro _ hw'
      obtain ⟨k9, m9, rfl⟩ := hw'
      have hbe := Lib.hid (Below.ex hR.out.2 k9 m9)
      go_wp2_with fail
      go_roundw
      case rel =>
        have h1 := HD.out
        have h2 := hR.out.1
        have h3 := hit.out
        exact ⟨i + 1, t + 1, a + D, by push_cast; rfl, rfl, by omega, by show i + 1 = t + 1 + 1; omega, by omega, by push_cast; omega, by omega, hbe.out⟩
      case measure => simp [intOf] <;> omega
end Go.Proofs.Ytaiflkjchbpphaa.P
