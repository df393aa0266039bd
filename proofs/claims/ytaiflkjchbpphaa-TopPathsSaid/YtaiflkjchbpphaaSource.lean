/- The drawing of numbers out of a list: Below, Source.N, From. -/
import Derived.Test.YtaiflkjchbpphaaCellsW
namespace Go.Proofs.Ytaiflkjchbpphaa
open Go.RowKit

theorem tmod_lo (x n : Int) (h1 : 1 ≤ n) (h : x.tmod n < 0) : x.tmod n + n = x % n := by
  rw [Int.tmod_eq_emod] at *
  split at h
  · have := Int.emod_nonneg x (show n ≠ 0 by omega); omega
  · rw [if_neg (by assumption)]; have := Int.natAbs_of_nonneg (show 0 ≤ n by omega); omega
theorem tmod_hi (x n : Int) (h1 : 1 ≤ n) (h : 0 ≤ x.tmod n) : x.tmod n = x % n := by
  rw [Int.tmod_eq_emod] at *
  split at h
  · rw [if_pos (by assumption)]; omega
  · have := Int.emod_lt_of_pos x (show 0 < n by omega); have := Int.natAbs_of_nonneg (show 0 ≤ n by omega); omega

theorem below_any (x n : Int) (w : World) (h1 : 1 ≤ n) (h2 : n ≤ 9223372036854775807) (_h3 : -9223372036854775808 ≤ x) (_h4 : x ≤ 9223372036854775807) :
    Calls Try.prog 16 #[.int .i64 x, .int .i64 n] w fun e w' => e = .returned (.int .i64 (x % n)) ∧ w = w' := by
  go_enter Try.func16, Try.ntmps16
  go_wp2
  · go_ret
    have h : x.tmod n < 0 := by assumption
    have := tmod_lo x n h1 h
    have := Int.emod_nonneg x (show n ≠ 0 by omega)
    have := Int.emod_lt_of_pos x (show 0 < n by omega)
    exact ⟨ret_int (by rw [IntWalk.wrap64_in _ (by omega)]; assumption), rfl⟩
  · go_ret
    have h : 0 ≤ x.tmod n := by assumption
    exact ⟨ret_int (tmod_hi x n h1 h), rfl⟩

/-- A source in block p: the numbers ns, of which i are drawn. -/
structure Src (B p : Nat) (ao : Option Addr) (ns : List Int) (cap i : Nat) (w : World) : Prop where
  s0 : w.cell? ⟨p, 0, none⟩ = some (.slice ao ns.length cap)
  s1 : w.cell? ⟨p, 1, none⟩ = some (.int .i64 (i : Int))
  f1 : w.frozen? ⟨p, 1, none⟩ = false
  pl : p < w.heap.size
  bp : B ≤ p
  src : ∀ x, ao = some x → ∀ (j : Nat) (v : Int), ns[j]? = some v → w.cell? (x.add j) = some (.int .i64 v)
  sb : ∀ x, ao = some x → 0 < ns.length → x.block < B
  sn : ao = none → ns.length = 0
  bd : ∀ v ∈ ns, -9223372036854775808 ≤ v ∧ v ≤ 9223372036854775807
  le : i ≤ ns.length
  hl : ns.length ≤ 17592186044416

theorem add_block (x : Addr) (j : Nat) : (x.add j).block = x.block := by unfold Addr.add; split <;> rfl
theorem Src.step {B p : Nat} {ao : Option Addr} {ns : List Int} {cap i : Nat} {w w' : World} (h : Src B p ao ns cap i w) (hg : w.grownBy w' (some p)) (hi : i + 1 ≤ ns.length) (h0 : w'.cell? ⟨p, 0, none⟩ = w.cell? ⟨p, 0, none⟩) (h1 : w'.cell? ⟨p, 1, none⟩ = some (.int .i64 ((i + 1 : Nat) : Int))) (hf : w'.frozen? ⟨p, 1, none⟩ = false) : Src B p ao ns cap (i + 1) w' := by
  have hbp := h.bp
  refine ⟨h0.trans h.s0, h1, hf, Nat.lt_of_lt_of_le h.pl hg.size, hbp, fun x hx j v hv => ?_, h.sb, h.sn, h.bd, hi, h.hl⟩
  have hxb := h.sb x hx (by
    rcases Nat.eq_zero_or_pos ns.length with e | e
    · rw [List.getElem?_eq_none (by omega)] at hv; cases hv
    · exact e)
  have hpl := h.pl
  rw [hg.cell_far (x.add j) (by rw [add_block]; omega) (by rw [add_block]; intro e; injection e with e; omega)]
  exact h.src x hx j v hv
theorem Src.below {B p : Nat} {ao : Option Addr} {ns : List Int} {cap i : Nat} {w w' : World} (h : Src B p ao ns cap i w) (hb : Below w.heap.size w w') : Src B p ao ns cap i w' := by
  have hbp := h.bp
  have hpl := h.pl
  refine ⟨(hb.cell (p := ⟨p, 0, none⟩) h.pl).trans h.s0, (hb.cell (p := ⟨p, 1, none⟩) h.pl).trans h.s1, (hb.frozen (p := ⟨p, 1, none⟩) h.pl).trans h.f1, Nat.lt_of_lt_of_le h.pl hb.size, hbp, fun x hx j v hv => ?_, h.sb, h.sn, h.bd, h.le, h.hl⟩
  have hxb := h.sb x hx (by
    rcases Nat.eq_zero_or_pos ns.length with e | e
    · rw [List.getElem?_eq_none (by omega)] at hv; cases hv
    · exact e)
  rw [hb.cell (p := x.add j) (by rw [add_block]; omega)]
  exact h.src x hx j v hv

/-- What N says. -/
def Drawn (B p : Nat) (ao : Option Addr) (ns : List Int) (cap n : Nat) (w : World) (e : Ending) (w' : World) : Prop :=
  ∃ r : Nat, e = .returned (.int .i64 (r : Int)) ∧ r < n ∧ (∃ i, Src B p ao ns cap i w') ∧ w.grownBy w' (some p)

set_option maxHeartbeats 1000000 in
theorem n_any (B p : Nat) (ao : Option Addr) (ns : List Int) (cap i n : Nat) (w : World) (h : Src B p ao ns cap i w) (hn : 1 ≤ n) (hn2 : n ≤ 1000) :
    Calls Try.prog 20 #[.pointer (some ⟨p, 0, none⟩), .int .i64 n] w (Drawn B p ao ns cap n w) := by
  have s0 := h.s0
  have s1 := h.s1
  have f1 := h.f1
  have pl := h.pl
  have hle := h.le
  have hhl := h.hl
  have HS := Lib.hid h
  clear h
  by_cases hil : i = ns.length
  · obtain ⟨L, hL⟩ : ∃ L, ns.length = L := ⟨_, rfl⟩
    rw [hL] at s0 hle hil hhl
    subst hil
    go_enter Try.func20, Try.ntmps20
    go_wp2_with fail
    refine region_grow (by kernel_rfl) (by kernel_rfl) ?_
    repeat (go_big_quiet_step ((fail)))
    refine wpQuiet_nil ?_
    intro _ hw'
    obtain ⟨k9, m9, rfl⟩ := hw'
    have hbe := Lib.hid (below_ext w k9 m9)
    go_wp2_with fail
    go_ret
    exact ⟨0, rfl, by omega, ⟨_, HS.out.below hbe.out⟩, ⟨rfl, rfl, rfl, by simp, fun k hk _ => hbe.out.block k hk⟩⟩
  · have hil' : i < ns.length := by omega
    obtain ⟨x, rfl⟩ : ∃ x, ao = some x := by
      cases ao with
      | some x => exact ⟨x, rfl⟩
      | none => have := HS.out.sn rfl; omega
    have hxB := HS.out.sb x rfl (by omega)
    have hbp := HS.out.bp
    have hsrc := HS.out.src x rfl i ns[i] (List.getElem?_eq_getElem hil')
    have hbd := HS.out.bd ns[i] (List.getElem_mem hil')
    obtain ⟨v, hv⟩ : ∃ v, ns[i] = v := ⟨_, rfl⟩
    rw [hv] at hsrc hbd
    clear hv
    obtain ⟨L, hL⟩ : ∃ L, ns.length = L := ⟨_, rfl⟩
    rw [hL] at s0 hle hil' hhl
    have i1 : (i : Int) < (L : Int) := by omega
    go_enter Try.func20, Try.ntmps20
    go_wp2_with fail
    refine region_grow (by kernel_rfl) (by kernel_rfl) ?_
    repeat (go_big_quiet_step ((fail)))
    refine wpQuiet_nil ?_
    intro _ hw'
    obtain ⟨k9, m9, rfl⟩ := hw'
    have hbe := Lib.hid (below_ext w k9 m9)
    have hbl := fun W => below_any v (n : Int) W (by omega) (by omega) hbd.1 hbd.2
    obtain ⟨rr, hrr⟩ : ∃ r : Int, v % (n : Int) = r := ⟨_, rfl⟩
    have hr0 : 0 ≤ rr ∧ rr < n := by rw [← hrr]; exact ⟨Int.emod_nonneg _ (by omega), Int.emod_lt_of_pos _ (by omega)⟩
    obtain ⟨rn, hrn⟩ : ∃ r : Nat, rr = (r : Int) := ⟨rr.toNat, by omega⟩
    subst hrn
    simp only [hrr] at hbl
    clear hrr
    go_wp2_with fail
    obtain ⟨V, hV⟩ : ∃ V, ext (w.setCell ⟨p, 1, none⟩ (.int .i64 ((i : Int) + 1))) k9 m9 = V := ⟨_, rfl⟩
    have hgr : w.grownBy V (some p) := by
      have hb2 := below_ext (w.setCell ⟨p, 1, none⟩ (.int .i64 ((i : Int) + 1))) k9 m9
      rw [hV] at hb2
      refine ⟨hb2.os, hb2.tape, hb2.output, by have := hb2.size; simpa [World.setCell] using this, fun k hk hne => ?_⟩
      rw [hb2.block k (by simpa [World.setCell] using hk)]
      simp only [World.setCell, Array.getElem?_modify]
      rw [if_neg (fun e => hne (by rw [e]))]
    have hVs := hgr.size
    have g0 : V.cell? ⟨p, 0, none⟩ = w.cell? ⟨p, 0, none⟩ := by
      rw [← hV, cell_ext _ _ _ _ _ (by simpa [World.setCell] using pl)]
      exact World.cell?_setCell_other _ _ _ _ (fun e => by have := congrArg Addr.off e; simp only [] at this; omega)
    have g1 : V.cell? ⟨p, 1, none⟩ = some (.int .i64 ((i + 1 : Nat) : Int)) := by
      rw [← hV, cell_ext _ _ _ _ _ (by simpa [World.setCell] using pl), World.cell?_setCell_same _ _ _ s1]; push_cast; rfl
    have gf : V.frozen? ⟨p, 1, none⟩ = false := by
      rw [← hV, frozen_ext _ _ _ _ _ (by simpa [World.setCell] using pl), World.frozen?_setCell]; exact f1
    have HN := Lib.hid (And.intro (HS.out.step hgr (by omega) g0 g1 gf) hgr)
    have hx2 : ∀ k m, (ext V k m).cell? (x.add i) = some (.int .i64 v) := fun k m => by
      rw [(below_ext V k m).cell (p := x.add i) (by rw [add_block]; omega), hgr.cell_far (x.add i) (by rw [add_block]; omega) (by rw [add_block]; intro e; injection e with e; omega)]
      exact hsrc
    have t0 := g0.trans s0
    have t1 : V.cell? ⟨p, 1, none⟩ = some (.int .i64 ((i : Int) + 1)) := by rw [g1]; push_cast; rfl
    have plV : p < V.heap.size := by omega
    clear g0 g1 gf hgr s0 s1 f1 pl
    rw [hV]
    clear hV
    refine region_grow (by kernel_rfl) (by kernel_rfl) ?_
    repeat (go_big_quiet_step ((intro _; go_at_call 16; exact grow_same (hbl _))))
    refine wpQuiet_nil ?_
    intro _ hw'
    obtain ⟨k8, m8, rfl⟩ := hw'
    have hb8 := below_ext V k8 m8
    go_wp2_with fail
    go_ret
    refine ⟨rn, rfl, by omega, ⟨_, HN.out.1.below hb8⟩, ⟨hb8.os.trans HN.out.2.os, hb8.tape.trans HN.out.2.tape, hb8.output.trans HN.out.2.output, Nat.le_trans HN.out.2.size hb8.size, fun k hk hne => ?_⟩⟩
    rw [hb8.block k (Nat.lt_of_lt_of_le hk HN.out.2.size)]
    exact HN.out.2.block k hk hne
end Go.Proofs.Ytaiflkjchbpphaa
