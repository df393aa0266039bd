/- mesh's small functions: a side, between, on, has, find, index, contains. -/
import Derived.Test.YtaiflkjchbpphaaPd
import Derived.Test.YtaiflkjchbpphaaGA
import Derived.Deep.DeepCutAuto
import Derived.Deep.RegionWith
import Derived.Deep.AppendLies
namespace Go.Proofs.Ytaiflkjchbpphaa.P
open Go.RowKit

/-- A point as a value. -/
abbrev vec (P : Pt) : Value := .agg #[.int .i64 P.1, .int .i64 P.2]
def Small (P : Pt) : Prop := (-65536000 ≤ P.1 ∧ P.1 ≤ 65536000) ∧ (-65536000 ≤ P.2 ∧ P.2 ≤ 65536000)
theorem ara_cr (a b c d x y : Int) : ara a b c d x y = cr (a, b) (c, d) (x, y) := rfl

theorem mul_bd (u v : Int) (h1 : -131072000 ≤ u) (h2 : u ≤ 131072000) (h3 : -131072000 ≤ v) (h4 : v ≤ 131072000) : -17179869184000000 ≤ u * v ∧ u * v ≤ 17179869184000000 := by
  have e1 : u.natAbs * v.natAbs ≤ 131072000 * 131072000 := Nat.mul_le_mul (by omega) (by omega)
  have e2 := Int.natAbs_mul u v
  omega

theorem mside_any (A B C : Pt) (w : World) (hA : Small A) (hB : Small B) (hC : Small C) :
    Calls Try.prog 49 #[vec A, vec B, vec C] w fun e w' => e = .returned (.int .i64 (cr A B C)) ∧ Below w.heap.size w w' := by
  obtain ⟨a, b⟩ := A
  obtain ⟨c, d⟩ := B
  obtain ⟨x, y⟩ := C
  unfold Small at hA hB hC
  simp only at hA hB hC
  rw [← ara_cr]
  obtain ⟨p, hp⟩ : ∃ p, (c - a) * (y - b) = p := ⟨_, rfl⟩
  obtain ⟨q, hq⟩ : ∃ q, (d - b) * (x - a) = q := ⟨_, rfl⟩
  have bp := mul_bd (c - a) (y - b) (by omega) (by omega) (by omega) (by omega)
  have bq := mul_bd (d - b) (x - a) (by omega) (by omega) (by omega) (by omega)
  rw [hp] at bp
  rw [hq] at bq
  unfold ara
  rw [hp, hq]
  go_enter Try.func49, Try.ntmps49
  go_wp2_with fail
  go_ret
  exact ⟨rfl, by repeat (first | exact Below.refl _ _ | apply Below.drew | apply Below.al | apply Below.ex)⟩

/-- Between two points, on a line with them. -/
def Btw (A B C : Pt) : Prop := 0 ≤ (B.1 - A.1) * (C.1 - B.1) ∧ 0 ≤ (B.2 - A.2) * (C.2 - B.2)
instance (A B C : Pt) : Decidable (Btw A B C) := by unfold Btw; infer_instance
instance (g : Pt × Pt) (A : Pt) : Decidable (On g A) := by unfold On; infer_instance

theorem between_any (A B C : Pt) (w : World) (hA : Small A) (hB : Small B) (hC : Small C) :
    Calls Try.prog 50 #[vec A, vec B, vec C] w fun e w' => e = .returned (.bool (decide (Btw A B C))) ∧ Below w.heap.size w w' := by
  obtain ⟨a, b⟩ := A
  obtain ⟨c, d⟩ := B
  obtain ⟨x, y⟩ := C
  unfold Small at hA hB hC
  simp only at hA hB hC
  obtain ⟨p, hp⟩ : ∃ p, (c - a) * (x - c) = p := ⟨_, rfl⟩
  obtain ⟨q, hq⟩ : ∃ q, (d - b) * (y - d) = q := ⟨_, rfl⟩
  have bp := mul_bd (c - a) (x - c) (by omega) (by omega) (by omega) (by omega)
  have bq := mul_bd (d - b) (y - d) (by omega) (by omega) (by omega) (by omega)
  rw [hp] at bp
  rw [hq] at bq
  have hd : decide (Btw (a, b) (c, d) (x, y)) = (decide (0 ≤ p) && decide (0 ≤ q)) := by
    unfold Btw
    simp only [hp, hq]
    exact Bool.decide_and _ _
  rw [hd]
  by_cases h1 : 0 ≤ p
  · by_cases h2 : 0 ≤ q
    · have e1 : decide (0 ≤ p) = true := by simp [h1]
      have e2 : decide (0 ≤ q) = true := by simp [h2]
      rw [e1, e2]
      go_enter Try.func50, Try.ntmps50
      go_wp2_with fail
      go_ret
      exact ⟨rfl, by repeat (first | exact Below.refl _ _ | apply Below.drew | apply Below.al | apply Below.ex)⟩
    · have e1 : decide (0 ≤ p) = true := by simp [h1]
      have e2 : decide (0 ≤ q) = false := by simp; omega
      rw [e1, e2]
      go_enter Try.func50, Try.ntmps50
      go_wp2_with fail
      go_ret
      exact ⟨rfl, by repeat (first | exact Below.refl _ _ | apply Below.drew | apply Below.al | apply Below.ex)⟩
  · have e1 : decide (0 ≤ p) = false := by simp; omega
    rw [e1]
    go_enter Try.func50, Try.ntmps50
    go_wp2_with fail
    go_ret
    exact ⟨rfl, by repeat (first | exact Below.refl _ _ | apply Below.drew | apply Below.al | apply Below.ex)⟩

theorem on_any (g : Pt × Pt) (A : Pt) (w : World) (h1 : Small g.1) (h2 : Small g.2) (hA : Small A) :
    Calls Try.prog 35 #[.agg #[.int .i64 g.1.1, .int .i64 g.1.2, .int .i64 g.2.1, .int .i64 g.2.2], vec A] w fun e w' => e = .returned (.bool (decide (On g A))) ∧ Below w.heap.size w w' := by
  obtain ⟨⟨a, b⟩, ⟨c, d⟩⟩ := g
  obtain ⟨x, y⟩ := A
  have hs := fun w' => mside_any (a, b) (c, d) (x, y) w' h1 h2 hA
  have hb := fun w' => between_any (a, b) (x, y) (c, d) w' h1 hA h2
  obtain ⟨p, hp⟩ : ∃ p, cr (a, b) (c, d) (x, y) = p := ⟨_, rfl⟩
  obtain ⟨q, hq⟩ : ∃ q, decide (Btw (a, b) (x, y) (c, d)) = q := ⟨_, rfl⟩
  have hd : decide (On ((a, b), (c, d)) (x, y)) = (decide (p = 0) && q) := by
    rw [← hq, ← hp]
    unfold On Btw
    exact Bool.decide_and _ _
  rw [hd]
  simp only [hp] at hs
  simp only [hq] at hb
  clear hd hp hq h1 h2 hA
  by_cases h1 : p = 0
  · have e1 : decide (p = 0) = true := by simp [h1]
    have e2 : (p == 0) = true := by simp [h1]
    rw [e1]
    clear h1
    go_enter Try.func35, Try.ntmps35
    go_wp2_with (first
      | (go_at_call 49; (with_reducible refine (hs _).mono ?_); rintro e w1 ⟨rfl, hb1⟩; obtain ⟨l0, n0, rfl⟩ := ext_of hb1; clear hb1)
      | (go_at_call 50; (with_reducible refine (hb _).mono ?_); rintro e w1 ⟨rfl, hb1⟩; obtain ⟨l0, n0, rfl⟩ := ext_of hb1; clear hb1))
    go_ret
    exact ⟨by simp, by repeat (first | exact Below.refl _ _ | apply Below.drew | apply Below.al | apply Below.ex)⟩
  · have e1 : decide (p = 0) = false := by simp [h1]
    have e2 : (p == 0) = false := by simp [h1]
    rw [e1]
    clear h1
    go_enter Try.func35, Try.ntmps35
    go_wp2_with (go_at_call 49; (with_reducible refine (hs _).mono ?_); rintro e w1 ⟨rfl, hb1⟩; obtain ⟨l0, n0, rfl⟩ := ext_of hb1; clear hb1)
    go_ret
    exact ⟨by simp, by repeat (first | exact Below.refl _ _ | apply Below.drew | apply Below.al | apply Below.ex)⟩
end Go.Proofs.Ytaiflkjchbpphaa.P
namespace Go.Proofs.Ytaiflkjchbpphaa.P
open Go.RowKit

/-- In a polygon. -/
def HasIn (n : Nat) (X Y : Nat → Int) (P : Pt) : Prop := ∀ i, i < n → 0 ≤ ara (X i) (Y i) (X ((i + 1) % n)) (Y ((i + 1) % n)) P.1 P.2

set_option maxHeartbeats 2000000 in
theorem has_any (g n cap : Nat) (X Y : Nat → Int) (P : Pt) (w : World) (h : Pts w g n X Y) (hg : g < w.heap.size) (hn3 : 3 ≤ n) (hn8 : n ≤ 8) (hb : ∀ k, k < n → (-65536000 ≤ X k ∧ X k ≤ 65536000) ∧ (-65536000 ≤ Y k ∧ Y k ≤ 65536000))
    (hs : ∀ i k, i < n → k < n → k ≠ i → k ≠ (i + 1) % n → 0 < ara (X i) (Y i) (X ((i + 1) % n)) (Y ((i + 1) % n)) (X k) (Y k)) (hP : Small P) :
    Calls Try.prog 23 #[.slice (some ⟨g, 0, none⟩) n cap, vec P] w fun e w' => ((e = .returned (.bool false) ∧ ¬ HasIn n X Y P) ∨ (e = .returned (.bool true) ∧ HasIn n X Y P)) ∧ Below w.heap.size w w' := by
  have hchk := fun w' (hbl : Below w.heap.size w w') => pcheck_any g n cap X Y w' (h.on hbl hg) (Nat.lt_of_lt_of_le hg hbl.size) hn3 hn8 hb hs
  have HP := Lib.hid h
  have HB := Lib.hid hb
  have HSM := Lib.hid hP
  have hnp : (0 : Int) < n := by omega
  obtain ⟨px, py⟩ := P
  obtain ⟨⟨hp1, hp2⟩, ⟨hp3, hp4⟩⟩ := hP
  clear h hb hs
  go_enter Try.func23, Try.ntmps23
  go_wp2_with (first
    | (go_at_call 39; (with_reducible refine (hchk _ (by repeat (first | exact Below.refl _ _ | apply Below.drew | apply Below.al | apply Below.ex))).mono ?_); rintro e w1 ⟨rfl, hb1⟩; obtain ⟨l0, n0, rfl⟩ := ext_of hb1; clear hb1)
    | (go_at_call 40; (with_reducible refine (within_any _ _ _ hp1 hp2 hp3 hp4).mono ?_); rintro e w1 ⟨rfl, hb1⟩; obtain ⟨l0, n0, rfl⟩ := ext_of hb1; clear hb1))
  rename_i l1 n1 _ _
  obtain ⟨o, ho⟩ : ∃ o, w.heap.size = o := ⟨_, rfl⟩
  obtain ⟨V, hV⟩ : ∃ V, ext (w.alloc (Obj.cells #[Value.int IntKind.i64 px, Value.int IntKind.i64 py] 24)) (l1 ++ l0) n0 = V := ⟨_, rfl⟩
  have hVb := Lib.hid (show Below w.heap.size w V from hV ▸ Below.ex (Below.al (Below.refl _ _) _) _ _)
  have v0 : V.cell? ⟨o, 0, none⟩ = some (.int .i64 px) := by rw [← hV, ← ho]; simp [go_sem]
  have v1 : V.cell? ⟨o, 1, none⟩ = some (.int .i64 py) := by rw [← hV, ← ho]; simp [go_sem]
  have hoV : o < V.heap.size := by rw [← hV, size_ext, ← ho]; simp; omega
  rw [hV]
  simp only [ho]
  clear hV hchk
  go_loopw [17] (fun v17 wr => ∃ i : Nat, v17 = .int .i64 i ∧ i ≤ n ∧ Hid (Below V.heap.size V wr ∧ ∀ k, k < i → 0 ≤ ara (X k) (Y k) (X ((k + 1) % n)) (Y ((k + 1) % n)) px py)) (fun v17 _ => n - (intOf v17).toNat)
  case atStart => exact ⟨0, rfl, Nat.zero_le _, Below.refl _ _, fun k hk => by omega⟩
  case round =>
    obtain ⟨i, rfl, hi, hR⟩ := hrel
    have HW := Lib.hid (hVb.out.trans (hR.out.1.mono hVb.out.size))
    by_cases h0 : i = n
    · have i1 : ¬ (i : Int) < (n : Int) := by omega
      have HI := Lib.hid h0
      clear h0
      go_wp2_with fail
      go_ret
      exact ⟨.inr ⟨rfl, fun k hk => hR.out.2 k (by rw [HI.out]; exact hk)⟩, ho ▸ HW.out⟩
    · have hil : i < n := by omega
      have i1 : (i : Int) < (n : Int) := by omega
      obtain ⟨j, hj⟩ : ∃ j, (i + 1) % n = j := ⟨_, rfl⟩
      have hjn : j < n := by rw [← hj]; exact Nat.mod_lt _ (by omega)
      have e1 : ((i : Int) + 1) % (n : Int) = (j : Int) := by rw [← hj]; push_cast; rfl
      have e2 : ((i : Int) + 1).tmod (n : Int) = (j : Int) := by rw [Int.tmod_eq_emod_of_nonneg (by omega)]; exact e1
      obtain ⟨xi, yi⟩ := HP.out i hil
      obtain ⟨xj, yj⟩ := HP.out j hjn
      have a0 := (HW.out.cell (p := ⟨g, i * 2, none⟩) hg).trans xi
      have a1 := (HW.out.cell (p := ⟨g, i * 2 + 1, none⟩) hg).trans yi
      have b0 := (HW.out.cell (p := ⟨g, j * 2, none⟩) hg).trans xj
      have b1 := (HW.out.cell (p := ⟨g, j * 2 + 1, none⟩) hg).trans yj
      have o0 := (hR.out.1.cell (p := ⟨o, 0, none⟩) hoV).trans v0
      have o1 := (hR.out.1.cell (p := ⟨o, 1, none⟩) hoV).trans v1
      have hgr : g < wr.heap.size := Nat.lt_of_lt_of_le hg HW.out.size
      have hor : o < wr.heap.size := Nat.lt_of_lt_of_le hoV hR.out.1.size
      obtain ⟨xa, hxa⟩ : ∃ x, X i = x := ⟨_, rfl⟩
      obtain ⟨ya, hya⟩ : ∃ x, Y i = x := ⟨_, rfl⟩
      obtain ⟨xb, hxb⟩ : ∃ x, X j = x := ⟨_, rfl⟩
      obtain ⟨yb, hyb⟩ : ∃ x, Y j = x := ⟨_, rfl⟩
      have hBi := HB.out i hil
      have hBj := HB.out j hjn
      rw [hxa, hya] at hBi
      rw [hxb, hyb] at hBj
      have hside := fun w' => side_any xa ya xb yb px py w' (fun z hz => by
        simp only [List.mem_cons, List.not_mem_nil, or_false] at hz
        rcases hz with rfl | rfl | rfl | rfl | rfl | rfl <;> omega)
      obtain ⟨A, hA⟩ : ∃ A, ara xa ya xb yb px py = A := ⟨_, rfl⟩
      have HA : Hid (ara (X i) (Y i) (X ((i + 1) % n)) (Y ((i + 1) % n)) px py = A) := by
        rw [hj, hxa, hya, hxb, hyb]; exact hA
      rw [hxa] at a0
      rw [hya] at a1
      rw [hxb] at b0
      rw [hyb] at b1
      simp only [hA] at hside
      clear xi yi xj yj hxa hya hxb hyb hj hA
      by_cases hneg : A < 0
      · go_wp2_with fail
        refine region_grow (by kernel_rfl) (by kernel_rfl) ?_
        repeat (go_big_quiet_step ((intro _; go_at_call 41; exact grow_of (hside _))))
        refine wpQuiet_nil ?_
        intro _ hw'
        obtain ⟨k9, m9, rfl⟩ := hw'
        have hbe := Lib.hid (Below.ex (Below.al (Below.refl wr.heap.size wr) (Obj.cells #[Value.int IntKind.i64 xa, Value.int IntKind.i64 ya] 24)) k9 m9)
        go_wp2_with fail
        go_ret
        exact ⟨.inl ⟨rfl, fun h => by have := h i hil; rw [HA.out] at this; omega⟩, ho ▸ HW.out.trans (hbe.out.mono HW.out.size)⟩
      · have hpos : 0 ≤ A := by omega
        clear hneg
        go_wp2_with fail
        refine region_grow (by kernel_rfl) (by kernel_rfl) ?_
        repeat (go_big_quiet_step ((intro _; go_at_call 41; exact grow_of (hside _))))
        refine wpQuiet_nil ?_
        intro _ hw'
        obtain ⟨k9, m9, rfl⟩ := hw'
        have hbe := Lib.hid (Below.ex (Below.al (Below.refl wr.heap.size wr) (Obj.cells #[Value.int IntKind.i64 xa, Value.int IntKind.i64 ya] 24)) k9 m9)
        go_wp2_with fail
        go_roundw
        case rel => exact ⟨i + 1, rfl, by omega, hR.out.1.trans (hbe.out.mono hR.out.1.size), fun k hk => by
          by_cases hki : k < i
          · exact hR.out.2 k hki
          · obtain rfl : k = i := by omega
            rw [HA.out]; exact hpos⟩
        case measure => simp [intOf] <;> omega
end Go.Proofs.Ytaiflkjchbpphaa.P
namespace Go.Proofs.Ytaiflkjchbpphaa.P
open Go.RowKit

/-- In a cell. -/
def InCell (X Y : Nat → Int) (z : Nat → Nat) (K : Nat → Nat → Nat) (i : Nat) (P : Pt) : Prop := HasIn (z i) (fun j => X (K i j)) (fun j => Y (K i j)) P

theorem has_bool {g n cap : Nat} {X Y : Nat → Int} {P : Pt} {w : World} (h : Calls Try.prog 23 #[.slice (some ⟨g, 0, none⟩) n cap, vec P] w fun e w' => ((e = .returned (.bool false) ∧ ¬ HasIn n X Y P) ∨ (e = .returned (.bool true) ∧ HasIn n X Y P)) ∧ Below w.heap.size w w') :
    Calls Try.prog 23 #[.slice (some ⟨g, 0, none⟩) n cap, vec P] w fun e w' => ∃ b : Bool, e = .returned (.bool b) ∧ Hid ((b = true ↔ HasIn n X Y P) ∧ Below w.heap.size w w') :=
  h.mono fun e w' ⟨h1, h2⟩ => by
    rcases h1 with ⟨rfl, h1⟩ | ⟨rfl, h1⟩
    · exact ⟨false, rfl, ⟨⟨fun h => (by cases h), fun h => absurd h h1⟩, h2⟩⟩
    · exact ⟨true, rfl, ⟨⟨fun _ => h1, fun _ => rfl⟩, h2⟩⟩

theorem cell_has {pp np cc nc : Nat} {X Y : Nat → Int} {z qc q : Nat → Nat} {K : Nat → Nat → Nat} {w : World} (h : Msh pp np cc nc X Y z qc q K w) (hgood : Good np nc X Y z K) {i : Nat} (hi : i < nc) {P : Pt} (hP : Small P) {g cap : Nat} {w' : World} (hp : Pts w' g (z i) (fun j => X (K i j)) (fun j => Y (K i j))) (hg : g < w'.heap.size) :
    Calls Try.prog 23 #[.slice (some ⟨g, 0, none⟩) (z i) cap, vec P] w' fun e w'' => ∃ b : Bool, e = .returned (.bool b) ∧ Hid ((b = true ↔ InCell X Y z K i P) ∧ Below w'.heap.size w' w'') :=
  have hz := h.z3 i hi
  has_bool (has_any g (z i) cap _ _ P w' hp hg hz.1 (by omega) (fun k hk => hgood.bd _ (h.lt i k hi hk)) (fun a b ha hb h1 h2 => hgood.cv i a b hi ha hb h1 h2) hP)

set_option maxRecDepth 8000 in
set_option maxHeartbeats 4000000 in
theorem find_any (pp np pcap cc nc ccap : Nat) (X Y : Nat → Int) (z qc q : Nat → Nat) (K : Nat → Nat → Nat) (P : Pt) (w : World) (h : Msh pp np cc nc X Y z qc q K w) (hgood : Good np nc X Y z K) (hP : Small P) :
    Calls Try.prog 8 #[.agg #[.slice (some ⟨pp, 0, none⟩) np pcap, .slice (some ⟨cc, 0, none⟩) nc ccap], vec P] w fun e w' => ((∃ i : Nat, e = .returned (.tuple #[.int .i64 i, .int .i64 0]) ∧ i < nc ∧ InCell X Y z K i P ∧ ∀ k, k < i → ¬ InCell X Y z K k P) ∨ (e = .returned (.tuple #[.int .i64 0, .int .i64 4]) ∧ ∀ k, k < nc → ¬ InCell X Y z K k P)) ∧ Below w.heap.size w w' := by
  have hchk := fun w' (hb : Below w.heap.size w w') => mcheck_any pp np pcap cc nc ccap X Y z qc q K w' (h.on hb) hgood
  have hcor := Lib.hid fun w' (hb : Below w.heap.size w w') i (hi : i < nc) => corners_any pp np pcap cc nc ccap i X Y z qc q K w' (h.on hb) hi
  have hhas := Lib.hid fun i (hi : i < nc) (w' : World) (g cap : Nat) hp hg => cell_has h hgood hi hP (g := g) (cap := cap) (w' := w') hp hg
  have n2 := hgood.hnc
  clear h hgood hP
  obtain ⟨px, py⟩ := P
  go_enter Try.func8, Try.ntmps8
  go_wp2_with (go_at_call 22; (with_reducible refine (hchk _ (by repeat (first | exact Below.refl _ _ | apply Below.drew | apply Below.al | apply Below.ex))).mono ?_); rintro e w1 ⟨rfl, hb1⟩; obtain ⟨l0, n0, rfl⟩ := ext_of hb1; clear hb1)
  obtain ⟨o, ho⟩ : ∃ o, w.heap.size = o := ⟨_, rfl⟩
  obtain ⟨V, hV⟩ : ∃ V, ext ((w.alloc (Obj.cells #[.slice (some ⟨pp, 0, none⟩) np pcap, .slice (some ⟨cc, 0, none⟩) nc ccap] 28)).alloc (Obj.cells #[Value.int IntKind.i64 px, Value.int IntKind.i64 py] 24)) l0 n0 = V := ⟨_, rfl⟩
  have hVb := Lib.hid (show Below w.heap.size w V from hV ▸ Below.ex (Below.al (Below.al (Below.refl _ _) _) _) _ _)
  have v0 : V.cell? ⟨o, 0, none⟩ = some (.slice (some ⟨pp, 0, none⟩) np pcap) := by rw [← hV, ← ho]; simp [go_sem]
  have v1 : V.cell? ⟨o, 1, none⟩ = some (.slice (some ⟨cc, 0, none⟩) nc ccap) := by rw [← hV, ← ho]; simp [go_sem]
  have v2 : V.cell? ⟨o + 1, 0, none⟩ = some (.int .i64 px) := by rw [← hV, ← ho]; simp [go_sem]
  have v3 : V.cell? ⟨o + 1, 1, none⟩ = some (.int .i64 py) := by rw [← hV, ← ho]; simp [go_sem]
  have hoV : o + 1 < V.heap.size := by rw [← hV, size_ext, ← ho]; simp; omega
  rw [hV]
  simp only [ho]
  clear hV hchk
  go_loopw [16] (fun v16 wr => ∃ i : Nat, v16 = .int .i64 i ∧ i ≤ nc ∧ Hid (Below V.heap.size V wr ∧ ∀ k, k < i → ¬ InCell X Y z K k (px, py))) (fun v16 _ => nc - (intOf v16).toNat)
  case atStart => exact ⟨0, rfl, Nat.zero_le _, Below.refl _ _, fun k hk => by omega⟩
  case round =>
    obtain ⟨i, rfl, hi, hR⟩ := hrel
    have HW := Lib.hid (hVb.out.trans (hR.out.1.mono hVb.out.size))
    have o0 := (hR.out.1.cell (p := ⟨o, 0, none⟩) (by simp only []; omega)).trans v0
    have o1 := (hR.out.1.cell (p := ⟨o, 1, none⟩) (by simp only []; omega)).trans v1
    have o2 := (hR.out.1.cell (p := ⟨o + 1, 0, none⟩) (by simp only []; omega)).trans v2
    have o3 := (hR.out.1.cell (p := ⟨o + 1, 1, none⟩) (by simp only []; omega)).trans v3
    have hor : o + 1 < wr.heap.size := Nat.lt_of_lt_of_le hoV hR.out.1.size
    have hor' : o < wr.heap.size := by omega
    by_cases h0 : i = nc
    · have i1 : ¬ (i : Int) < (nc : Int) := by omega
      have HI := Lib.hid h0
      clear h0
      go_wp2_with fail
      exact bodyPost_ret (v := .tuple #[.int .i64 0, .int .i64 4]) (by simp [results, Try.results8, go_sem]) rfl ⟨.inr ⟨rfl, fun k hk => hR.out.2 k (by rw [HI.out]; exact hk)⟩, ho ▸ HW.out⟩
    · have hil : i < nc := by omega
      have i1 : (i : Int) < (nc : Int) := by omega
      have hh := Lib.hid (hhas.out i hil)
      clear h0
      go_upto_region 7 with fail
      go_cut [16, 23] from 16 to 25 (fun v16 v23 wx => ∃ b : Bool, v16 = .int .i64 i ∧ v23 = .bool b ∧ (b = true ↔ InCell X Y z K i (px, py)) ∧ Below wr.heap.size wr wx)
      case first =>
        have hwd := Lib.hid HW.out.drew
        go_region_with (first
          | (go_at_call 24; refine (hcor.out _ ?_ i hil).mono ?_; exact hwd.out; rintro e w1 ⟨⟨g, cap, rfl, hp, hg1, hg2⟩, hb⟩; obtain ⟨l1, m1, rfl⟩ := ext_of hb; have HP1 := Lib.hid (And.intro hp (And.intro hg2 hb)); clear hp hg1 hg2 hb)
          | (go_at_call 23; refine (hh.out _ _ _ HP1.out.1 HP1.out.2.1).mono ?_; rintro e w2 ⟨b, rfl, hbb⟩))
        all_goals go_wp2_with fail
        all_goals go_meet
        all_goals exact ⟨b, rfl, rfl, hbb.out.1, ((Below.refl wr.heap.size wr).drew).trans (HP1.out.2.2.trans (hbb.out.2.mono HP1.out.2.2.size))⟩
      case rest =>
        obtain ⟨b, rfl, rfl, hb1, hb2⟩ := hcut
        have HB := Lib.hid hb2
        clear hb2
        cases b
        · have HT : Hid (¬ InCell X Y z K i (px, py)) := fun h => by have := hb1.2 h; cases this
          clear hb1
          go_wp2_with fail
          go_roundw
          case rel =>
            exact ⟨i + 1, rfl, by omega, hR.out.1.trans (HB.out.mono hR.out.1.size), fun k hk => by
              by_cases hki : k < i
              · exact hR.out.2 k hki
              · obtain rfl : k = i := by omega
                exact HT.out⟩
          case measure => simp [intOf] <;> omega
        · have HT := Lib.hid (hb1.1 rfl)
          clear hb1
          go_wp2_with fail
          exact bodyPost_ret (v := .tuple #[.int .i64 i, .int .i64 0]) (by simp [results, Try.results8, go_sem]) rfl ⟨.inl ⟨i, rfl, hil, HT.out, hR.out.2⟩, ho ▸ HW.out.trans (HB.out.mono HW.out.size)⟩
end Go.Proofs.Ytaiflkjchbpphaa.P
namespace Go.Proofs.Ytaiflkjchbpphaa.P
open Go.RowKit

/-- Numbers in a block. -/
def Nums (w : World) (g n : Nat) (V : Nat → Int) : Prop := ∀ j, j < n → w.cell? ⟨g, j, none⟩ = some (.int .i64 (V j))

theorem index_any (g n cap : Nat) (V : Nat → Int) (v : Int) (w : World) (h : Nums w g n V) (hg : g < w.heap.size) (hn : n ≤ 200) :
    Calls Try.prog 43 #[.slice (some ⟨g, 0, none⟩) n cap, .int .i64 v] w fun e w' => ((∃ j : Nat, e = .returned (.int .i64 (j : Int)) ∧ j < n ∧ V j = v ∧ ∀ j', j' < j → V j' ≠ v) ∨ (e = .returned (.int .i64 (-1)) ∧ ∀ j, j < n → V j ≠ v)) ∧ w = w' := by
  have HP := Lib.hid h
  clear h
  go_enter Try.func43, Try.ntmps43
  go_wp2_with fail
  go_loopw [8] (fun v8 wr => ∃ i : Nat, v8 = .int .i64 i ∧ i ≤ n ∧ wr = w ∧ Hid (∀ j, j < i → V j ≠ v)) (fun v8 _ => n - (intOf v8).toNat)
  case atStart => exact ⟨0, rfl, Nat.zero_le _, rfl, fun j hj => by omega⟩
  case round =>
    obtain ⟨i, rfl, hi, rfl, hR⟩ := hrel
    by_cases h0 : i = n
    · have i1 : ¬ (i : Int) < (n : Int) := by omega
      have HI := Lib.hid h0
      clear h0
      go_wp2_with fail
      go_ret
      exact ⟨.inr ⟨rfl, fun j hj => hR.out j (by rw [HI.out]; exact hj)⟩, rfl⟩
    · have hil : i < n := by omega
      have i1 : (i : Int) < (n : Int) := by omega
      have x1 := HP.out i hil
      obtain ⟨x, hx⟩ : ∃ x, V i = x := ⟨_, rfl⟩
      rw [hx] at x1
      have HX := Lib.hid hx
      clear hx h0
      by_cases hv : v = x
      · have e1 : (v == x) = true := by simp [hv]
        have HV := Lib.hid hv
        clear hv
        go_wp2_with fail
        go_ret
        exact ⟨.inl ⟨i, rfl, hil, by rw [HX.out, HV.out], hR.out⟩, rfl⟩
      · have e1 : (v == x) = false := by simp [hv]
        have HV := Lib.hid hv
        clear hv
        go_wp2_with fail
        go_roundw
        case rel => exact ⟨i + 1, rfl, by omega, by trivial, fun j hj => by
          by_cases hji : j < i
          · exact hR.out j hji
          · obtain rfl : j = i := by omega
            rw [HX.out]; exact fun e => HV.out e.symm⟩
        case measure => simp [intOf] <;> omega

theorem contains2_any (g n cap : Nat) (V : Nat → Int) (v : Int) (w : World) (h : Nums w g n V) (hg : g < w.heap.size) (hn : n ≤ 200) (hv : ∃ j, j < n ∧ V j = v) :
    Calls Try.prog 27 #[.slice (some ⟨g, 0, none⟩) n cap, .int .i64 v] w fun e w' => e = .returned (.bool true) ∧ w = w' := by
  have hc : ∀ w', w = w' → Calls Try.prog 43 #[.slice (some ⟨g, 0, none⟩) n cap, .int .i64 v] w' fun e w'' => (∃ j : Nat, e = .returned (.int .i64 (j : Int))) ∧ w' = w'' := fun w' hw => by
    subst hw
    refine (index_any g n cap V v w h hg hn).mono ?_
    rintro e w' ⟨⟨j, rfl, _⟩ | ⟨_, h2⟩, h3⟩
    · exact ⟨⟨j, rfl⟩, h3⟩
    · obtain ⟨j, hj, e⟩ := hv
      exact absurd e (h2 j hj)
  clear h hv
  go_enter Try.func27, Try.ntmps27
  go_wp2_with (go_at_call 43; (with_reducible refine (hc _ (by rfl)).mono ?_); rintro e w1 ⟨⟨j, rfl⟩, rfl⟩)
  go_ret
  exact ⟨by simp, rfl⟩
end Go.Proofs.Ytaiflkjchbpphaa.P
