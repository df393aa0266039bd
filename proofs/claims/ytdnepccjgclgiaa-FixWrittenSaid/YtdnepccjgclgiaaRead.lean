/- fix.double, fix.fraction and fix.Read of what fix.Text writes. -/
import Derived.Test.YtdnepccjgclgiaaText
namespace Go.Proofs.Ytdnepccjgclgiaa
open Go.RowKit Go.Proofs.Ytdnepccjgclgiaa.D

/-- Digits in a block. -/
def DRow (W : World) (g : Nat) (l : List Nat) : Prop := (∀ k, k < l.length → W.cell? ⟨g, k, none⟩ = some (.int .u8 ((l[k]?.getD 0 : Nat) : Int))) ∧ ∀ k, k < l.length → W.frozen? ⟨g, k, none⟩ = false
theorem DRow.set {W : World} {g : Nat} {l : List Nat} (h : DRow W g l) (k x : Nat) : DRow (W.setCell ⟨g, k, none⟩ (.int .u8 ((x : Nat) : Int))) g (l.set k x) := by
  refine ⟨fun j hj => ?_, fun j hj => by rw [World.frozen?_setCell]; exact h.2 j (by rwa [List.length_set] at hj)⟩
  rw [List.length_set] at hj
  by_cases e : k = j
  · subst e
    rw [World.cell?_setCell_same _ _ _ (h.1 k hj), List.getElem?_set_self hj]; rfl
  · rw [World.cell?_setCell_other _ _ _ _ (fun e' => e (congrArg Addr.off e')), h.1 j hj, List.getElem?_set_ne e]
/-- Block g alone has turned. -/
def One (g : Nat) (w w' : World) : Prop := w'.os = w.os ∧ w'.tape = w.tape ∧ w'.output = w.output ∧ w'.heap.size = w.heap.size ∧ ∀ k, k ≠ g → w'.heap[k]? = w.heap[k]?
theorem One.refl (g : Nat) (w : World) : One g w w := ⟨rfl, rfl, rfl, rfl, fun _ _ => rfl⟩
theorem One.set {g : Nat} {w w' : World} (h : One g w w') (k : Nat) (v : Value) : One g w (w'.setCell ⟨g, k, none⟩ v) :=
  ⟨h.1, h.2.1, h.2.2.1, by simpa [World.setCell] using h.2.2.2.1, fun j hj => (Below.heap_setCell _ _ _ _ hj).trans (h.2.2.2.2 j hj)⟩
theorem One.trans {g : Nat} {w w1 w2 : World} (h : One g w w1) (k : One g w1 w2) : One g w w2 :=
  ⟨k.1.trans h.1, k.2.1.trans h.2.1, k.2.2.1.trans h.2.2.1, k.2.2.2.1.trans h.2.2.2.1, fun j hj => (k.2.2.2.2 j hj).trans (h.2.2.2.2 j hj)⟩
theorem One.below {g B : Nat} {w w' : World} (h : One g w w') (hB : B ≤ g) : Below B w w' :=
  ⟨h.1, h.2.1, h.2.2.1, by have := h.2.2.2.1; omega, fun k hk => h.2.2.2.2 k (by omega)⟩

/-- The list behind the doubling of all digits from place i on. -/
def upto (l : List Nat) (i : Nat) : List Nat := l.take i ++ (dbl (l.drop i)).1
theorem upto_len (l : List Nat) (i : Nat) : (upto l i).length = l.length := by unfold upto; rw [List.length_append, dbl_len, ← List.length_append, List.take_append_drop]
theorem upto_all (l : List Nat) : upto l l.length = l := by unfold upto; simp [dbl]
theorem upto_zero (l : List Nat) : upto l 0 = (dbl l).1 := by unfold upto; simp
theorem upto_at {l : List Nat} {i : Nat} (h : i < l.length) : (upto l (i + 1))[i]?.getD 0 = l[i] := by
  unfold upto
  rw [List.getElem?_append_left (by simp; omega), List.getElem?_take_of_lt (Nat.lt_succ_self i), List.getElem?_eq_getElem h]
  rfl
theorem dbl_drop {l : List Nat} {i : Nat} (h : i < l.length) : dbl (l.drop i) = ((2 * l[i] + (dbl (l.drop (i + 1))).2) % 10 :: (dbl (l.drop (i + 1))).1, (2 * l[i] + (dbl (l.drop (i + 1))).2) / 10) := by
  rw [List.drop_eq_getElem_cons h]
  rfl
theorem upto_step {l : List Nat} {i : Nat} (h : i < l.length) : (upto l (i + 1)).set i ((2 * l[i] + (dbl (l.drop (i + 1))).2) % 10) = upto l i := by
  unfold upto
  rw [dbl_drop h]
  simp only
  rw [List.set_append_left _ _ (by simp; omega), List.take_succ_eq_append_getElem h, List.set_append_right _ _ (by simp; omega)]
  simp [Nat.min_eq_left (Nat.le_of_lt h)]

set_option maxRecDepth 8000 in
theorem double_any (g n cap : Nat) (l : List Nat) (w : World) (hl : l.length = n) (hn : n ≤ 16) (h : DRow w g l) (hs : Small l) :
    Calls Try.prog 85 #[.slice (some ⟨g, 0, none⟩) n cap] w fun e w' => e = .returned (.int .i64 ((dbl l).2 : Nat)) ∧ DRow w' g (dbl l).1 ∧ One g w w' := by
  have HL := Lib.hid hl
  have HR := Lib.hid h
  have HS := Lib.hid hs
  have hcb := dbl_carry hs
  obtain ⟨c0, hc0⟩ : ∃ c0, (dbl l).2 = c0 := ⟨_, rfl⟩
  rw [hc0] at hcb ⊢
  have HC0 := Lib.hid hc0
  clear h hs hl hc0
  go_enter Try.func85, Try.ntmps85
  go_wp2_with fail
  go_loopw [3, 4, 5] (fun v3 v4 _ wr => ∃ i : Nat, v4 = .int .i64 ((i : Int) - 1) ∧ i ≤ n ∧ v3 = .int .u8 ((dbl (l.drop i)).2 : Nat) ∧ DRow wr g (upto l i) ∧ One g w wr) (fun _ v4 _ _ => (intOf v4 + 1).toNat)
  case atStart => exact ⟨n, rfl, Nat.le_refl _, by rw [List.drop_eq_nil_of_le (by rw [HL.out]; exact Nat.le_refl _)]; rfl, by rw [← HL.out, upto_all]; exact HR.out, One.refl _ _⟩
  case round =>
    obtain ⟨i, rfl, hi, rfl, hR, hO⟩ := hrel
    by_cases h0 : i = 0
    · subst h0
      rw [List.drop_zero, HC0.out]
      rw [upto_zero] at hR
      go_wp2_with fail
      go_ret
      exact ⟨rfl, hR, hO⟩
    · obtain ⟨k, rfl⟩ : ∃ k, i = k + 1 := ⟨i - 1, by omega⟩
      have hkl : k < l.length := by rw [HL.out]; omega
      have hck := hR.1 k (by rw [upto_len]; exact hkl)
      rw [upto_at hkl] at hck
      have hfk := hR.2 k (by rw [upto_len]; exact hkl)
      have hst := hR.set k ((2 * l[k] + (dbl (l.drop (k + 1))).2) % 10)
      rw [upto_step hkl] at hst
      have hcr := congrArg Prod.snd (dbl_drop hkl)
      have hd9 := HS.out l[k] (List.getElem_mem _)
      have hc1 := dbl_carry (l := l.drop (k + 1)) (fun c hc => HS.out c (List.mem_of_mem_drop hc))
      obtain ⟨d, hd⟩ : ∃ d, l[k] = d := ⟨_, rfl⟩
      obtain ⟨c, hc⟩ : ∃ c, (dbl (l.drop (k + 1))).2 = c := ⟨_, rfl⟩
      rw [hd] at hck hst hcr hd9
      rw [hc] at hst hcr hc1 ⊢
      simp only at hcr
      have HST := Lib.hid hst
      have HCR := Lib.hid hcr
      have HO := Lib.hid hO
      have hgs := World.block_lt_of_cell? wr _ hck
      have ik0 : (0 : Int) ≤ (k : Int) := Int.natCast_nonneg _
      have ik1 : (k : Int) < (n : Int) := by omega
      have iwr : IntKind.u8.wrap (2 * (d : Int)) = 2 * (d : Int) := by have := hd9; rw [IntKind.wrap_u8]; omega
      clear hR hst hcr hO hd hc
      go_wp2_with fail
      go_roundw
      case rel =>
        refine ⟨k, rfl, by omega, ?_, ?_, HO.out.set _ _⟩
        · rw [HCR.out]; rfl
        · have := HST.out
          rw [show (((2 * d + c) % 10 : Nat) : Int) = (2 * (d : Int) + (c : Int)) % 10 by omega] at this
          exact this
      case measure => simp [intOf]
/-! ### fraction -/
theorem str_size (l : List Nat) : (str l).size = l.length := by simp [str, ByteArray.size]
theorem byte_toNat {c : Nat} (h : c < 256) : (UInt8.ofNat c).toNat = c := UInt8.toNat_ofNat_of_lt' (by simpa using h)
/-- '[]byte(s)'. -/
theorem to_bytes (l : List Nat) (w : World) (hb : ∀ c ∈ l, c < 256) : ∃ cap w1, (convert 9 72 (.string (str l))).run Try.prog w = .ok (.slice (some ⟨w.heap.size, 0, none⟩) l.length cap) w1 ∧ DRow w1 w.heap.size l ∧ Below w.heap.size w w1 ∧ w.heap.size < w1.heap.size := by
  have h := run_bytes_of_string (P := Try.prog) w 9 72 5 (str l) (by kernel_rfl) (by kernel_rfl) (by kernel_rfl)
  rw [str_size] at h
  refine ⟨_, _, h, ?_, ?_, ?_⟩
  · generalize grownCap w l.length 0 5 = cap
    have hh : (w.drew.alloc (.cells (bytesRow (str l) cap) 5 ((bytesRow (str l) cap).size, (bytesRow (str l) cap).size + 1))).heap[w.heap.size]? = some (.cells (bytesRow (str l) cap) 5 ((bytesRow (str l) cap).size, (bytesRow (str l) cap).size + 1)) := by
      show (w.heap.push _)[w.heap.size]? = _
      simp
    have hsz : l.length ≤ (bytesRow (str l) cap).size := by unfold bytesRow str; simp
    refine ⟨fun k hk => ?_, fun k hk => ?_⟩
    · rw [cell_of_row _ _ k _ _ _ hh]
      unfold bytesRow str
      rw [Array.getElem?_append_left (by simp; exact hk)]
      simp only [List.map_toArray, List.getElem?_toArray, List.getElem?_map, List.getElem?_eq_getElem hk, Option.map_some, Option.getD_some]
      rw [byte_toNat (hb _ (List.getElem_mem _))]
    · unfold World.frozen?
      simp only [hh]
      have : ¬ (bytesRow (str l) cap).size ≤ k := by omega
      simp [this]
  · exact ((Below.refl _ _).drew).alloc (Nat.le_refl _) _
  · simp
theorem or_low (n c : Nat) (hn : n < 65536) (hc : c ≤ 1) : bits .or .i64 ((n : Int) * 2) (c : Int) = ((n * 2 + c : Nat) : Int) := by
  have h1 : n * 2 ||| c = n * 2 + c := by
    rcases Nat.le_one_iff_eq_zero_or_eq_one.1 hc with rfl | rfl
    · simp
    · have := (Nat.two_pow_add_eq_or_of_lt (i := 1) (b := 1) (by decide) n).symm
      rw [Nat.pow_one, Nat.mul_comm 2] at this
      exact this
  have h2 := ofInt_u64 (n * 2) (by omega)
  have h3 := ofInt_u64 c (by omega)
  show IntKind.i64.wrap ((BitVec.ofInt 64 ((n : Int) * 2) ||| BitVec.ofInt 64 (c : Int)).toNat : Int) = _
  rw [show (n : Int) * 2 = ((n * 2 : Nat) : Int) by omega, BitVec.toNat_or, h2, h3, h1]
  exact IntWalk.i64_in _ (by omega)
/-- The first k letters without their offset. -/
def part (l : List Nat) (k : Nat) : List Nat := off (l.take k) ++ l.drop k
theorem part_len (l : List Nat) (k : Nat) : (part l k).length = l.length := by unfold part; rw [List.length_append, off_len, ← List.length_append, List.take_append_drop]
theorem part_zero (l : List Nat) : part l 0 = l := by simp [part, off]
theorem part_all (l : List Nat) : part l l.length = off l := by simp [part]
theorem part_at {l : List Nat} {k : Nat} (h : k < l.length) : (part l k)[k]?.getD 0 = l[k] := by
  unfold part
  rw [List.getElem?_append_right (by simp [off]; omega)]
  simp [off, Nat.min_eq_left (Nat.le_of_lt h), List.getElem?_eq_getElem h]
theorem part_step {l : List Nat} {k : Nat} (h : k < l.length) : (part l k).set k (l[k] - 48) = part l (k + 1) := by
  have hlen : (off (l.take k)).length = k := by rw [off_len, List.length_take, Nat.min_eq_left (Nat.le_of_lt h)]
  unfold part
  rw [List.set_append_right _ _ (by omega), hlen, Nat.sub_self, List.drop_eq_getElem_cons h, List.set_cons_zero, List.take_succ_eq_append_getElem h]
  unfold off
  rw [List.map_append, List.append_assoc]
  rfl

set_option maxRecDepth 8000 in
set_option maxHeartbeats 2000000 in
theorem fraction_any (F : List Nat) (w : World) (hF : Digs F) (hn : F.length ≤ 16) (hz : ∀ c ∈ (dbls 16 (off F)).2, c = 0) :
    Calls Try.prog 75 #[.string (str F)] w fun e w' => e = .returned (.tuple #[.int .i64 ((dbls 16 (off F)).1 : Nat), .bool true]) ∧ Below w.heap.size w w' := by
  obtain ⟨cap, w1, hcv, hR, hb, hsz⟩ := to_bytes F w (fun c hc => by have := hF c hc; omega)
  obtain ⟨n, hN⟩ : ∃ n, F.length = n := ⟨_, rfl⟩
  obtain ⟨g, hg⟩ : ∃ g, w.heap.size = g := ⟨_, rfl⟩
  rw [hN, hg] at hcv
  rw [hg] at hR hb hsz ⊢
  rw [hN] at hn
  have HR := Lib.hid hR
  have HB := Lib.hid hb
  have HF := Lib.hid hF
  have HN := Lib.hid hN
  have HZ := Lib.hid hz
  clear hR hb hF hN hz
  go_enter Try.func75, Try.ntmps75
  go_wp2_with fail
  go_loopw [5, 13] (fun _ v13 wr => ∃ k : Nat, v13 = .int .i64 k ∧ k ≤ n ∧ DRow wr g (part F k) ∧ One g w1 wr) (fun _ v13 _ => n - (intOf v13).toNat)
  case atStart => exact ⟨0, rfl, Nat.zero_le _, by rw [part_zero]; exact HR.out, One.refl _ _⟩
  case round =>
    obtain ⟨k, rfl, hk, hR, hO⟩ := hrel
    by_cases hlt : k < n
    · have hkl : k < F.length := by rw [HN.out]; exact hlt
      have hck := hR.1 k (by rw [part_len]; exact hkl)
      rw [part_at hkl] at hck
      have hfk := hR.2 k (by rw [part_len]; exact hkl)
      have hst := hR.set k (F[k] - 48)
      rw [part_step hkl] at hst
      have hd9 := HF.out F[k] (List.getElem_mem _)
      obtain ⟨d, hd⟩ : ∃ d, F[k] = d := ⟨_, rfl⟩
      rw [hd] at hck hst hd9
      have HST := Lib.hid hst
      have HO := Lib.hid hO
      have hgs := World.block_lt_of_cell? wr _ hck
      have ik0 : (0 : Int) ≤ (k : Int) := Int.natCast_nonneg _
      have ik1 : (k : Int) < (n : Int) := by omega
      clear hR hst hO hd
      go_wp2_with fail
      go_roundw
      case rel =>
        refine ⟨k + 1, by go_num, by omega, ?_, HO.out.set _ _⟩
        have := HST.out
        rw [show ((d - 48 : Nat) : Int) = (d : Int) - 48 by omega] at this
        exact this
      case measure => simp [intOf]; omega
    · obtain rfl : k = n := by omega
      have HR2 : Hid (DRow wr g (off F)) := by have := hR; rw [← HN.out, part_all] at this; exact this
      have HO2 := Lib.hid hO
      clear hR hO
      go_wp2_with fail
      go_loopw [6, 23] (fun v6 v23 wx => ∃ t : Nat, v23 = .int .i64 t ∧ t ≤ 16 ∧ v6 = .int .i64 ((dbls t (off F)).1 : Nat) ∧ DRow wx g (dbls t (off F)).2 ∧ One g w1 wx) (fun _ v23 _ => 16 - (intOf v23).toNat)
      case atStart => exact ⟨0, rfl, by omega, rfl, HR2.out, HO2.out⟩
      case round =>
        obtain ⟨t, rfl, ht, rfl, hR, hO⟩ := hrel
        obtain ⟨s1, s2, _, s4⟩ := dbls_spec (off_small HF.out) t
        by_cases ht16 : t < 16
        · have hcall := double_any g k cap (dbls t (off F)).2 wr (by rw [s2, off_len, HN.out]) hn hR s1
          have hcar := dbl_carry s1
          have hx : (dbls (t + 1) (off F)).1 = (dbls t (off F)).1 * 2 + (dbl (dbls t (off F)).2).2 := rfl
          have hy : (dbls (t + 1) (off F)).2 = (dbl (dbls t (off F)).2).1 := rfl
          have hp : 2 ^ t ≤ 2 ^ 16 := Nat.pow_le_pow_right (by decide) (by omega)
          obtain ⟨x, hxx⟩ : ∃ x, (dbls t (off F)).1 = x := ⟨_, rfl⟩
          obtain ⟨c, hcc⟩ : ∃ c, (dbl (dbls t (off F)).2).2 = c := ⟨_, rfl⟩
          rw [hcc] at hcall hcar hx
          rw [hxx] at hx s4 ⊢
          have hor := or_low x c (by omega) hcar
          have hx6 : x < 65536 := by omega
          have HX := Lib.hid hx
          have HY := Lib.hid hy
          have HCA := Lib.hid hcall
          have HO := Lib.hid hO
          clear hcall hx hy s1 s2 s4 hp hxx hcc hR hO
          go_wp2_with fail
          with_reducible refine HCA.out.mono ?_
          rintro e w5 ⟨rfl, hR5, hO5⟩
          have HR5 := Lib.hid hR5
          have HO5 := Lib.hid (HO.out.trans hO5)
          clear hR5 hO5
          go_wp2_with fail
          go_roundw
          case rel => exact ⟨t + 1, by go_num, by omega, by rw [HX.out]; rfl, by rw [HY.out]; exact HR5.out, HO5.out⟩
          case measure => simp [intOf]; omega
        · obtain rfl : t = 16 := by omega
          have hl16 : (dbls 16 (off F)).2.length = k := by rw [s2, off_len, HN.out]
          have HR6 := Lib.hid hR
          have HO6 := Lib.hid hO
          have HL := Lib.hid hl16
          obtain ⟨x, hxx⟩ : ∃ x, (dbls 16 (off F)).1 = x := ⟨_, rfl⟩
          rw [hxx] at s4 ⊢
          clear hR hO hl16 s1 s2
          go_wp2_with fail
          go_loopw [8, 33] (fun _ v33 wy => ∃ j : Nat, v33 = .int .i64 j ∧ j ≤ k ∧ wy = wr) (fun _ v33 _ => k - (intOf v33).toNat)
          case atStart => exact ⟨0, rfl, Nat.zero_le _, rfl⟩
          case round =>
            obtain ⟨j, rfl, hj, rfl⟩ := hrel
            by_cases hjk : j < k
            · have hck := HR6.out.1 j (by rw [HL.out]; exact hjk)
              have hz0 : (dbls 16 (off F)).2[j]?.getD 0 = 0 := by
                rw [List.getElem?_eq_getElem (by rw [HL.out]; exact hjk)]
                exact HZ.out _ (List.getElem_mem _)
              rw [hz0] at hck
              have hck : wr.cell? ⟨g, j, none⟩ = some (.int .u8 0) := hck
              have hgs := World.block_lt_of_cell? wr _ hck
              have ij0 : (0 : Int) ≤ (j : Int) := Int.natCast_nonneg _
              have ij1 : (j : Int) < (k : Int) := by omega
              clear hz0
              go_wp2_with fail
              go_roundw
              case rel => exact ⟨j + 1, by go_num, by omega, trivial⟩
              case measure => simp [intOf]; omega
            · obtain rfl : j = k := by omega
              go_wp2_with fail
              refine bodyPost_ret (v := .tuple #[.int .i64 (x : Nat), .bool true]) (by simp [results, Try.f75, go_sem]) rfl ⟨by rw [hxx], HB.out.trans (HO6.out.below (Nat.le_refl _))⟩
end Go.Proofs.Ytdnepccjgclgiaa
