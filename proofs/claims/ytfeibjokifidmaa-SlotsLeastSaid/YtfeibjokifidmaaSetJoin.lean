/- sets.word, sets.join and the closures that it takes. -/
import Derived.Test.YtfeibjokifidmaaMk
import Derived.Test.YtfeibjokifidmaaSets
import Derived.OpenShut
namespace Go.Proofs.Ytfeibjokifidmaa.Z
open Go.RowKit Go.Proofs.Ytfeibjokifidmaa.M

/-- A set, as it lies in memory. -/
def SetAt (w : World) (v : Value) (s : Sets) : Prop :=
  ∃ (l : List W64) (ad : Option Addr) (c : Nat), v = .slice ad l.length c ∧ Canon l ∧ Z.wd l = s ∧ l.length ≤ c ∧ c ≤ maxLen ∧ (ad = none → c = 0) ∧ ∀ j, j < l.length → ∃ g, ad = some ⟨g, 0, none⟩ ∧ w.cell? ⟨g, j, none⟩ = some (.int .u64 (U (s j)))
theorem SetAt.keep {w w' : World} {v : Value} {s : Sets} (h : SetAt w v s) (hb : Below w.heap.size w w') : SetAt w' v s := by
  obtain ⟨l, ad, c, h1, h2, h3, h4, h5, h6, h7⟩ := h
  refine ⟨l, ad, c, h1, h2, h3, h4, h5, h6, fun j hj => ?_⟩
  obtain ⟨g, h8, h9⟩ := h7 j hj
  exact ⟨g, h8, (hb.cell (p := ⟨g, j, none⟩) (World.block_lt_of_cell? w _ h9)).trans h9⟩
theorem SetAt.ok {w : World} {v : Value} {s : Sets} (h : SetAt w v s) : Ok s := by
  obtain ⟨l, _, _, _, _, rfl, _⟩ := h
  exact wd_ok l
theorem set_nil (w : World) : SetAt w (.slice none 0 0) none' := by
  refine ⟨[], none, 0, rfl, ⟨by simp, fun m h => by simp at h⟩, ?_, Nat.le_refl _, Nat.zero_le _, fun _ => rfl, fun j hj => by simp at hj⟩
  funext k
  unfold Z.wd none'
  simp

attribute [local go_sem ↓] run_mn
def mx (x y : Int) : Int := if y > x then y else x
theorem run_mx (ts : Array TypeId) (t : TypeId) (k : IntKind) (x y : Int) (w : World) : (Builtin.max_ ts t #[.int k x, .int k y]).run Try.prog w = .ok (.int k (mx x y)) w := by
  rw [run_max_int2]; rfl
attribute [local go_sem ↓] run_mx

theorem word_any (v : Value) (s : Sets) (k : Nat) (w : World) (hs : SetAt w v s) :
    Calls Try.prog 59 #[v, .int .i64 k] w fun e w' => e = .returned (.int .u64 (U (s k))) ∧ w = w' := by
  obtain ⟨l, ad, c, rfl, hcan, hwd, hlc, hcm, _, hcell⟩ := hs
  have h64 := hcan.1
  obtain ⟨n, hn⟩ : ∃ n, l.length = n := ⟨_, rfl⟩
  have hmn : mn (n : Int) 64 = (n : Int) := by unfold mn; rw [if_neg (by omega)]
  have hout : n ≤ k → s k = 0#64 := fun h => by rw [← hwd]; exact wd_out (by omega)
  rw [hn] at hlc hcell h64 ⊢
  clear hwd hcan hn
  by_cases hlt : k < n
  · obtain ⟨g, rfl, hg⟩ := hcell k hlt
    clear hcell hout
    obtain ⟨x, hx⟩ : ∃ x, s k = x := ⟨_, rfl⟩
    rw [hx] at hg ⊢
    clear hx
    go_enter Try.func59, Try.ntmps59
    go_wp2
    go_ret
    exact ⟨rfl, rfl⟩
  · have hge : (n : Int) ≤ (k : Int) := by omega
    rw [hout (by omega)]
    clear hcell hout
    go_enter Try.func59, Try.ntmps59
    go_wp2
    go_ret
    exact ⟨rfl, rfl⟩

/-- What a function of two words says. -/
def Bin (F : FuncId) (f : W64 → W64 → W64) : Prop := ∀ (x y : W64) (w : World), Calls Try.prog F #[.int .u64 (U x), .int .u64 (U y)] w fun e w' => e = .returned (.int .u64 (U (f x y))) ∧ w = w'

/-- A function that may be called by its value. -/
def Live (F : FuncId) : Prop := ∀ (args : Array Value) (w : World), Sem.run Try.prog (callFunc F args) w = .ok (.enter F args) w
theorem live53 : Live 53 := by intro args w; go_simp
theorem live54 : Live 54 := by intro args w; go_simp
theorem live55 : Live 55 := by intro args w; go_simp
theorem live57 : Live 57 := by intro args w; go_simp

theorem or_any : Bin 53 orW := by
  intro x y w
  go_enter Try.func53, Try.ntmps53
  go_wp2
  go_ret
  exact ⟨rfl, rfl⟩
theorem and_any : Bin 54 andW := by
  intro x y w
  go_enter Try.func54, Try.ntmps54
  go_wp2
  go_ret
  exact ⟨rfl, rfl⟩
@[go_sem] theorem sub_U (a b : W64) : bits .andNot .u64 (U a) (U b) = U (a &&& ~~~b) := by
  unfold U
  rw [u64_andNot_nat _ _ (by have := a.isLt; omega) (by have := b.isLt; omega), BitVec.toNat_and, BitVec.toNat_not]
theorem sub_any : Bin 55 subW := by
  intro x y w
  go_enter Try.func55, Try.ntmps55
  go_wp2
  go_ret
  exact ⟨rfl, rfl⟩
theorem fst_any : Bin 57 fstW := by
  intro x y w
  go_enter Try.func57, Try.ntmps57
  go_wp2
  go_ret
  exact ⟨rfl, rfl⟩

/-- The first k words that join makes. -/
def made (f : W64 → W64 → W64) (a b : Sets) (k : Nat) : List W64 := (List.range k).map fun j => f (a j) (b j)
theorem made_length (f : W64 → W64 → W64) (a b : Sets) (k : Nat) : (made f a b k).length = k := by simp [made]
theorem made_succ (f : W64 → W64 → W64) (a b : Sets) (k : Nat) : made f a b (k + 1) = made f a b k ++ [f (a k) (b k)] := by
  unfold made; rw [List.range_succ, List.map_append]; rfl
theorem made_at (f : W64 → W64 → W64) (a b : Sets) {k j : Nat} (h : j < k) : (made f a b k)[j]? = some (f (a j) (b j)) := by
  unfold made; rw [List.getElem?_map, List.getElem?_range h]; rfl

/-- What a call that hands back a set says. -/
def Gives (s : Sets) (w : World) (e : Ending) (w' : World) : Prop := ∃ v, e = .returned v ∧ SetAt w' v s ∧ Below w.heap.size w w'

/-- The same, and the words lie in memory that the call has made. -/
def GivesNew (s : Sets) (w : World) (e : Ending) (w' : World) : Prop := ∃ v, e = .returned v ∧ SetAt w' v s ∧ Below w.heap.size w w' ∧ ∀ k, v.ownBlock = some k → w.heap.size ≤ k
theorem GivesNew.gives {s : Sets} {w w' : World} {e : Ending} (h : GivesNew s w e w') : Gives s w e w' := by
  obtain ⟨v, h1, h2, h3, _⟩ := h
  exact ⟨v, h1, h2, h3⟩
/-- The length in a slot. -/
def lenOf : Value → Nat | .slice _ r _ => r | _ => 0

theorem set_made {f : W64 → W64 → W64} {a b : Sets} {n m cap : Nat} {ao : Option Addr} {W : World} (hm : m ≤ n) (hn : n ≤ 64) (hz : ∀ k, n ≤ k → f (a k) (b k) = 0#64) (ht : ∀ j, m ≤ j → j < n → f (a j) (b j) = 0#64)
    (hl : ∀ q, m = q + 1 → f (a q) (b q) ≠ 0#64) (h1 : n ≤ cap) (h2 : cap ≤ maxLen) (h3 : ao = none → cap = 0)
    (hc : ∀ j, j < n → ∃ g, ao = some ⟨g, 0, none⟩ ∧ W.cell? ⟨g, j, none⟩ = some (.int .u64 (U (f (a j) (b j))))) : SetAt W (.slice ao m cap) (jn f a b) := by
  have hl0 : (made f a b m).length = m := made_length f a b m
  refine ⟨made f a b m, ao, cap, by rw [hl0], ⟨by omega, fun q hq => ?_⟩, ?_, by omega, h2, h3, fun j hj => ?_⟩
  · rw [hl0] at hq
    rw [made_at f a b (by omega)]
    exact hl q hq
  · funext k
    rcases Nat.lt_or_ge k m with hk | hk
    · rw [wd_lt (by omega), made_at f a b hk]
      rfl
    · rw [wd_out (by omega)]
      show _ = f (a k) (b k)
      rcases Nat.lt_or_ge k n with h | h
      · exact (ht k hk h).symm
      · exact (hz k h).symm
  · rw [hl0] at hj
    exact hc j (by omega)

set_option maxRecDepth 8000 in
set_option maxHeartbeats 2000000 in
theorem join_new (F : FuncId) (f : W64 → W64 → W64) (hL : Live F) (hF : Bin F f) (hf : f 0#64 0#64 = 0#64) (va vb : Value) (a b : Sets) (w : World) (ha : SetAt w va a) (hb : SetAt w vb b) :
    Calls Try.prog 52 #[va, vb, .func (.func F) #[] #[]] w (GivesNew (jn f a b) w) := by
  obtain ⟨i0, hi0, hz0, hz1, hz2⟩ := info_parts Try.info37
  have HA := Lib.hid ha
  have HB := Lib.hid hb
  obtain ⟨la, ada, ca, rfl, hca, hwa, _, _, _, _⟩ := ha
  obtain ⟨lb, adb, cb, rfl, hcb, hwb, _, _, _, _⟩ := hb
  obtain ⟨na, hna⟩ : ∃ n, la.length = n := ⟨_, rfl⟩
  obtain ⟨nb, hnb⟩ : ∃ n, lb.length = n := ⟨_, rfl⟩
  rw [hna] at HA ⊢
  rw [hnb] at HB ⊢
  have ha64 := hca.1
  have hb64 := hcb.1
  obtain ⟨n, hn⟩ : ∃ n : Nat, mn (mx (na : Int) (nb : Int)) 64 = (n : Int) ∧ na ≤ n ∧ nb ≤ n ∧ n ≤ 64 := by
    refine ⟨max na nb, ?_, by omega, by omega, by omega⟩
    unfold mn mx
    split <;> split <;> omega
  obtain ⟨hmn, hn1, hn2, hn64⟩ := hn
  have hza : ∀ k, n ≤ k → a k = 0#64 := fun k hk => by rw [← hwa]; exact wd_out (by omega)
  have hzb : ∀ k, n ≤ k → b k = 0#64 := fun k hk => by rw [← hwb]; exact wd_out (by omega)
  have HZ : Hid (∀ k, n ≤ k → f (a k) (b k) = 0#64) := fun k hk => by rw [hza k hk, hzb k hk, hf]
  have HF := Lib.hid hF
  have hcall : ∀ (args : Array Value) (w : World), Sem.run Try.prog (callFunc F args) w = .ok (.enter F args) w := hL
  clear hza hzb hwa hwb hca hcb hna hnb hF
  go_enter Try.func52, Try.ntmps52
  go_wp2_with fail
  obtain ⟨C, hC⟩ : ∃ C, w.heap.size = C := ⟨_, rfl⟩
  have HC := Lib.hid hC
  clear hC
  go_loopw [7, 8, 15] (fun v7 _ v15 wr => ∃ k : Nat, k ≤ n ∧ v15 = .int .i64 k ∧ wr.ownsRow C 37 1 v7 k (us (made f a b k)) ∧ C ≤ wr.heap.size ∧ Below C w wr) (fun _ _ v _ => n - (intOf v).toNat)
  case atStart => exact ⟨0, Nat.zero_le _, rfl, World.ownsRow_nil _ _ _ _, Nat.le_of_eq HC.out.symm, Below.refl _ _⟩
  case round =>
    obtain ⟨k, hk, rfl, hO, hCs, hB⟩ := hrel
    have HBR := Lib.hid (show Below w.heap.size w wr by rw [HC.out]; exact hB)
    have HO := Lib.hid hO
    have HBR' := Lib.hid hB
    clear hB hO
    by_cases hlt : k < n
    · have hA := HA.out.keep HBR.out
      have hB := HB.out.keep HBR.out
      have hwa := word_any _ a k wr hA
      have hwb := word_any _ b k wr hB
      have hff := HF.out (a k) (b k) wr
      obtain ⟨x, hx⟩ : ∃ x, a k = x := ⟨_, rfl⟩
      obtain ⟨y, hy⟩ : ∃ y, b k = y := ⟨_, rfl⟩
      have hms := made_succ f a b k
      rw [hx, hy] at hms hff
      rw [hx] at hwa
      rw [hy] at hwb
      obtain ⟨z, hz⟩ : ∃ z, f x y = z := ⟨_, rfl⟩
      rw [hz] at hms hff
      have HWA := Lib.hid hwa
      have HWB := Lib.hid hwb
      have HFF := Lib.hid hff
      have HMS := Lib.hid hms
      clear hA hB hwa hwb hff hms hx hy hz
      go_wp2_with fail
      with_reducible refine HWA.out.mono ?_
      rintro e _ ⟨rfl, rfl⟩
      go_wp2_with fail
      with_reducible refine HWB.out.mono ?_
      rintro e _ ⟨rfl, rfl⟩
      go_wp2_with fail
      with_reducible refine HFF.out.mono ?_
      rintro e _ ⟨rfl, rfl⟩
      go_wp2_with (at_builtin; refine wpList_append_own _ rfl _ _ 36 rfl C 37 i0 (.int .u64 0) 1 8 Try.underlying36 hi0 hz0 hz1 hz2 rfl (by decide) _ k _ rfl (HO.out.alloc _) ⟨wr.heap.size, 0, none⟩ 1 1 [.int .u64 (U z)] rfl rfl (new_one _ _ _) (Ytfeibjokifidmaa.one_ok rfl) (by unfold maxLen; omega) (by omega) (by simp; omega) ?_)
      intro v' w6 hO6 hg6 _
      have hb6 := (HBR'.out.alloc hCs _).grown hg6 (by simp; omega) (fun q hq => (HO.out.lt q hq).1)
      have hsz : C ≤ w6.heap.size := by have := hg6.size; simp at this; omega
      have HO6 := Lib.hid hO6
      have HB6 := Lib.hid hb6
      clear hO6 hg6 hb6
      go_wp2_with fail
      go_roundw
      case rel =>
        refine ⟨k + 1, by omega, by go_num, ?_, hsz, HB6.out⟩
        rw [HMS.out]
        have := HO6.out
        unfold us at this ⊢
        simpa [List.map_append] using this
      case measure => simp [intOf]; omega
    · obtain rfl : k = n := by omega
      obtain ⟨ao, cap, rfl, hnone, _, _⟩ := owns_source HO.out
      have hcell : Hid (∀ j, j < k → ∃ g, ao = some ⟨g, 0, none⟩ ∧ wr.cell? ⟨g, j, none⟩ = some (.int .u64 (U (f (a j) (b j))))) := by
        intro j hj
        obtain ⟨g, c, e, _, _, _, _, _, hcl, _⟩ := owns_open HO.out (by omega)
        injection e with e1 _ _
        refine ⟨g, e1, ?_⟩
        rw [hcl j (by omega)]
        unfold us
        rw [List.getElem?_map, made_at f a b hj]
        rfl
      have hcap : Hid (k ≤ cap ∧ cap ≤ maxLen ∧ (ao = none → cap = 0)) := by
        refine ⟨?_, ?_, fun h => (hnone h).2⟩
        · rcases HO.out.2 with ⟨e, _⟩ | ⟨g, c, cur, e, _, _, h5, _⟩
          · injection e with _ e2 _; omega
          · injection e with _ _ e3; omega
        · rcases HO.out.2 with ⟨e, _⟩ | ⟨g, c, cur, e, _, _, _, h6, _⟩
          · injection e with _ _ e3; unfold maxLen; omega
          · injection e with _ _ e3; omega
      clear hnone
      go_wp2_with fail
      go_loop [7] (fun v7 => ∃ m : Nat, m ≤ k ∧ v7 = .slice ao m cap ∧ Hid (∀ j, m ≤ j → j < k → f (a j) (b j) = 0#64)) (fun v7 => lenOf v7)
      case atStart => exact ⟨k, Nat.le_refl _, rfl, fun j h1 h2 => by omega⟩
      case round =>
        obtain ⟨m, hm, rfl, ht⟩ := hrel
        rcases m with _ | q
        · go_wp2_with fail
          go_ret
          exact ⟨_, rfl, set_made hm hn64 HZ.out ht.out (fun q h => by omega) hcap.out.1 hcap.out.2.1 hcap.out.2.2 hcell.out, HBR.out, fun q hq => by rw [HC.out]; exact (HO.out.lt q (by cases ao <;> exact hq)).1⟩
        · obtain ⟨g, rfl, hgc⟩ := hcell.out q (by omega)
          obtain ⟨x, hx⟩ : ∃ x, f (a q) (b q) = x := ⟨_, rfl⟩
          rw [hx] at hgc
          have HX := Lib.hid hx
          clear hx
          by_cases h0 : x = 0#64
          · have hx0 : (U x == 0) = true := by rw [h0]; rfl
            have hcut : ∀ W : World, (Instr.slice 36 (.slice (some ⟨g, 0, none⟩) (q + 1) cap) none (some (.int .i64 (q : Int))) none).run Try.prog W = .ok (.slice (some ⟨g, 0, none⟩) q cap) W := fun W => run_cut W 36 37 _ (q + 1) cap q i0 Try.underlying36 hi0 (by have := hcap.out.1; omega) (fun h => by cases h)
            have H0 := Lib.hid h0
            clear h0
            go_wp2_with fail
            go_round
            case rel =>
              refine ⟨q, by omega, rfl, fun j h1 h2 => ?_⟩
              rcases Nat.lt_or_ge q j with h | h
              · exact ht.out j (by omega) h2
              · obtain rfl : j = q := by omega
                rw [HX.out, H0.out]
            case measure => simp [lenOf]
          · have hx0 : (U x == 0) = false := by rw [beq_eq_false_iff_ne]; exact fun h => h0 (U_inj h)
            have H0 := Lib.hid h0
            clear h0
            go_wp2_with fail
            go_ret
            refine ⟨_, rfl, set_made hm hn64 HZ.out ht.out (fun q' h => ?_) hcap.out.1 hcap.out.2.1 hcap.out.2.2 hcell.out, HBR.out, fun q hq => by rw [HC.out]; exact (HO.out.lt q hq).1⟩
            obtain rfl : q' = q := by omega
            rw [HX.out]
            exact H0.out
theorem join_set (F : FuncId) (f : W64 → W64 → W64) (hL : Live F) (hF : Bin F f) (hf : f 0#64 0#64 = 0#64) (va vb : Value) (a b : Sets) (w : World) (ha : SetAt w va a) (hb : SetAt w vb b) :
    Calls Try.prog 52 #[va, vb, .func (.func F) #[] #[]] w (Gives (jn f a b) w) :=
  (join_new F f hL hF hf va vb a b w ha hb).mono fun _ _ h => h.gives
end Go.Proofs.Ytfeibjokifidmaa.Z
