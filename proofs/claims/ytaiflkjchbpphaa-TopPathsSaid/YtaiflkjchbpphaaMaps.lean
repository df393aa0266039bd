/- Maps keyed by two numbers, or by one: what stands in a map's block. -/
import Derived.Test.YtaiflkjchbpphaaFars
import Derived.Maps.OwnSet
namespace Go.Proofs.Ytaiflkjchbpphaa
open Go.RowKit Go.ChangeMaps

@[go_sem] theorem make_map (t : TypeId) (w : World) : Sem.run Try.prog (Instr.makeMap t none) w = Result.ok (Value.map (some w.heap.size)) (w.alloc (.map #[] 0)) := rfl

/-- A key of two numbers. -/
def key2 (p q : Int) : Value := .agg #[.int .i64 p, .int .i64 q]
theorem check2 (e : Bool) (p q : Int) (w : World) : (Instr.checkKey e 10000 90 (key2 p q)).run Try.prog w = .ok () w := by
  cases e <;> kernel_rfl
theorem equalIn2 (n : Nat) (a b c d : Int) (w : World) : (Op.equalIn (n + 1 + 1) 90 (key2 a b) (key2 c d)).run Try.prog w = .ok (a == c && b == d) w := by
  have h3 : ∀ (x y : Int) (w : World), (Op.equalIn (n + 1) 3 (.int .i64 x) (.int .i64 y)).run Try.prog w = .ok (x == y) w := fun x y w => run_equalIn_int w n 3 .i64 .i64 x y Try.underlying3
  unfold key2
  rw [Op.equalIn]
  simp [run_underlying Try.underlying90, go_sem, List.range', h3]
  by_cases h1 : a = c
  · by_cases h2 : b = d
    · simp [h1, h2, go_sem]
    · simp [h1, h2, go_sem]
  · simp [h1, go_sem]
theorem equal2 (a b c d : Int) (w : World) : (Op.equal 90 (key2 a b) (key2 c d)).run Try.prog w = .ok (a == c && b == d) w := equalIn2 9998 a b c d w

/-- What stands at a key. -/
def find2 (L : List (Int × Int × Value)) (p q : Int) : Option Value := (L.find? (fun x => p == x.1 && q == x.2.1)).map (·.2.2)
theorem asking2 (p q : Int) (w : World) : ∀ (es : List MapEntry) (L : List (Int × Int × Value)) (i : Nat), es.map (fun e => (e.key, e.val)) = L.map (fun x => (key2 x.1 x.2.1, x.2.2)) →
    ∃ r, (Instr.findAsking 90 (key2 p q) es i).run Try.prog w = .ok r w ∧ r.map (·.2) = find2 L p q
  | [], [], i, _ => ⟨none, by simp [Instr.findAsking], rfl⟩
  | [], _ :: _, i, h => by simp at h
  | _ :: _, [], i, h => by simp at h
  | e :: es, x :: L, i, h => by
    simp only [List.map_cons, List.cons.injEq, Prod.mk.injEq] at h
    obtain ⟨⟨h1, h2⟩, h3⟩ := h
    obtain ⟨r, hr, hr2⟩ := asking2 p q w es L (i + 1) h3
    rw [Instr.findAsking, h1]
    simp only [Sem.run_bind, equal2, Result.andThen_ok]
    by_cases hk : (p == x.1 && q == x.2.1) = true
    · refine ⟨some (i, e.val), by rw [hk]; simp, ?_⟩
      unfold find2
      simp only [List.find?_cons, hk]
      simp [h2]
    · refine ⟨r, by simp only [Bool.not_eq_true] at hk; rw [hk]; simpa using hr, ?_⟩
      rw [hr2]
      unfold find2
      simp only [Bool.not_eq_true] at hk
      simp only [List.find?_cons, hk]
theorem findKey2 (p q : Int) (w : World) (es : List MapEntry) (L : List (Int × Int × Value)) (h : es.map (fun e => (e.key, e.val)) = L.map (fun x => (key2 x.1 x.2.1, x.2.2))) :
    ∃ r, (Instr.findKey 90 (key2 p q) es).run Try.prog w = .ok r w ∧ r.map (·.2) = find2 L p q := by
  unfold Instr.findKey
  simp only [Sem.run_bind, run_underlying Try.underlying90, Result.andThen_ok]
  cases es with
  | nil =>
    cases L with
    | nil => exact ⟨none, by simp [Instr.findNow], rfl⟩
    | cons x L => simp at h
  | cons e es =>
    have e0 : Instr.findNow (TypeDesc.array 2 3) (key2 p q) (e :: es) 0 = none := by
      unfold Instr.findNow
      have : Instr.sameNow (TypeDesc.array 2 3) (key2 p q) e.key = none := by unfold Instr.sameNow; rfl
      rw [this]
    rw [e0]
    exact asking2 p q w (e :: es) L 0 h

/-- Block b is a map with these keys and values. -/
def M2 (w : World) (b : Nat) (L : List (Int × Int × Value)) : Prop := ∃ es clock, w.heap[b]? = some (.map es clock) ∧ es.toList.map (fun e => (e.key, e.val)) = L.map (fun x => (key2 x.1 x.2.1, x.2.2))
theorem M2.new (w : World) : M2 (w.alloc (.map #[] 0)) w.heap.size [] := ⟨#[], 0, (MapKept.heap_alloc w _).1, rfl⟩
theorem M2.kept {w w' : World} {b : Nat} {L : List (Int × Int × Value)} (h : M2 w b L) (hk : w'.heap[b]? = w.heap[b]?) : M2 w' b L := by
  obtain ⟨es, cl, h1, h2⟩ := h
  exact ⟨es, cl, hk.trans h1, h2⟩
theorem look2 (t e : TypeId) (b : Nat) (L : List (Int × Int × Value)) (z : Value) (w : World) (ht : Try.prog.underlying t = some (.map 90 e)) (hz : (zeroValue e).run Try.prog w = .ok z w) (h : M2 w b L) (p q : Int) (ok : Bool) :
    (Instr.lookup t (.map (some b)) (key2 p q) ok).run Try.prog w = .ok (if ok then .tuple #[(find2 L p q).getD z, .bool (find2 L p q).isSome] else (find2 L p q).getD z) w := by
  obtain ⟨es, cl, h1, h2⟩ := h
  obtain ⟨r, hr, hr2⟩ := findKey2 p q w es.toList L h2
  have hg : (getObj b).run Try.prog w = .ok (.map es cl) w := MapKept.run_getObj_map h1
  unfold Instr.lookup
  simp only [Sem.run_bind, run_underlying ht, Result.andThen_ok, hg, Sem.run_pure, check2, hr]
  rw [← hr2]
  cases r with
  | none => cases ok <;> simp [hz]
  | some x => cases ok <;> simp
theorem put2 (t e : TypeId) (b : Nat) (L : List (Int × Int × Value)) (v : Value) (w : World) (ht : Try.prog.underlying t = some (.map 90 e)) (h : M2 w b L) (p q : Int) (hn : find2 L p q = none) :
    ∃ w', (Instr.mapUpdate t (.map (some b)) (key2 p q) v).run Try.prog w = .ok () w' ∧ M2 w' b (L ++ [(p, q, v)]) ∧ w.grownBy w' (some b) := by
  obtain ⟨es, cl, h1, h2⟩ := h
  obtain ⟨r, hr, hr2⟩ := findKey2 p q w es.toList L h2
  have hg : (getObj b).run Try.prog w = .ok (.map es cl) w := MapKept.run_getObj_map h1
  rw [hn] at hr2
  have hr0 : r = none := by cases r with
    | none => rfl
    | some x => simp at hr2
  subst hr0
  refine ⟨setBlock w b (.map (es.push { key := key2 p q, val := v, born := cl }) (cl + 1)), ?_, ⟨_, _, heap_setBlock_same h1 _, by simp [h2]⟩, ⟨rfl, rfl, rfl, by simp [setBlock], fun i _ hi => heap_setBlock_other h1 _ (fun e => hi (by rw [e]))⟩⟩
  unfold Instr.mapUpdate
  simp only [Sem.run_bind, run_underlying ht, Result.andThen_ok, hg, check2, hr]
  simp [MapKept.run_setObj_map _ h1, setBlock]

/-! ### keyed by one number -/
theorem check1 (e : Bool) (p : Int) (w : World) : (Instr.checkKey e 10000 3 (.int .i64 p)).run Try.prog w = .ok () w := by
  cases e <;> kernel_rfl
def find1 (L : List (Int × Value)) (p : Int) : Option Value := (L.find? (fun x => p == x.1)).map (·.2)
theorem now1 (p : Int) : ∀ (es : List MapEntry) (L : List (Int × Value)) (i : Nat), es.map (fun e => (e.key, e.val)) = L.map (fun x => (Value.int .i64 x.1, x.2)) →
    ∃ r, Instr.findNow (.int .i64) (.int .i64 p) es i = some r ∧ r.map (·.2) = find1 L p
  | [], [], i, _ => ⟨none, by simp [Instr.findNow], rfl⟩
  | [], _ :: _, i, h => by simp at h
  | _ :: _, [], i, h => by simp at h
  | e :: es, x :: L, i, h => by
    simp only [List.map_cons, List.cons.injEq, Prod.mk.injEq] at h
    obtain ⟨⟨h1, h2⟩, h3⟩ := h
    obtain ⟨r, hr, hr2⟩ := now1 p es L (i + 1) h3
    have hs : Instr.sameNow (.int .i64) (.int .i64 p) (.int .i64 x.1) = some (p == x.1) := by simp [Instr.sameNow]
    rw [Instr.findNow, h1, hs]
    by_cases hk : (p == x.1) = true
    · refine ⟨some (i, e.val), by rw [hk], ?_⟩
      unfold find1
      simp only [List.find?_cons, hk]
      simp [h2]
    · simp only [Bool.not_eq_true] at hk
      refine ⟨r, by rw [hk]; exact hr, ?_⟩
      rw [hr2]
      unfold find1
      simp only [List.find?_cons, hk]
theorem findKey1 (p : Int) (w : World) (es : List MapEntry) (L : List (Int × Value)) (h : es.map (fun e => (e.key, e.val)) = L.map (fun x => (Value.int .i64 x.1, x.2))) :
    ∃ r, (Instr.findKey 3 (.int .i64 p) es).run Try.prog w = .ok r w ∧ r.map (·.2) = find1 L p := by
  obtain ⟨r, hr, hr2⟩ := now1 p es L 0 h
  refine ⟨r, ?_, hr2⟩
  unfold Instr.findKey
  simp only [Sem.run_bind, run_underlying Try.underlying3, Result.andThen_ok, hr, Sem.run_pure]
/-- Block b is a map with these keys and values. -/
def M1 (w : World) (b : Nat) (L : List (Int × Value)) : Prop := ∃ es clock, w.heap[b]? = some (.map es clock) ∧ es.toList.map (fun e => (e.key, e.val)) = L.map (fun x => (Value.int .i64 x.1, x.2))
theorem M1.new (w : World) : M1 (w.alloc (.map #[] 0)) w.heap.size [] := ⟨#[], 0, (MapKept.heap_alloc w _).1, rfl⟩
theorem M1.kept {w w' : World} {b : Nat} {L : List (Int × Value)} (h : M1 w b L) (hk : w'.heap[b]? = w.heap[b]?) : M1 w' b L := by
  obtain ⟨es, cl, h1, h2⟩ := h
  exact ⟨es, cl, hk.trans h1, h2⟩
theorem look1 (t e : TypeId) (b : Nat) (L : List (Int × Value)) (z : Value) (w : World) (ht : Try.prog.underlying t = some (.map 3 e)) (hz : (zeroValue e).run Try.prog w = .ok z w) (h : M1 w b L) (p : Int) (ok : Bool) :
    (Instr.lookup t (.map (some b)) (.int .i64 p) ok).run Try.prog w = .ok (if ok then .tuple #[(find1 L p).getD z, .bool (find1 L p).isSome] else (find1 L p).getD z) w := by
  obtain ⟨es, cl, h1, h2⟩ := h
  obtain ⟨r, hr, hr2⟩ := findKey1 p w es.toList L h2
  have hg : (getObj b).run Try.prog w = .ok (.map es cl) w := MapKept.run_getObj_map h1
  unfold Instr.lookup
  simp only [Sem.run_bind, run_underlying ht, Result.andThen_ok, hg, Sem.run_pure, check1, hr]
  rw [← hr2]
  cases r with
  | none => cases ok <;> simp [hz]
  | some x => cases ok <;> simp
theorem put1 (t e : TypeId) (b : Nat) (L : List (Int × Value)) (v : Value) (w : World) (ht : Try.prog.underlying t = some (.map 3 e)) (h : M1 w b L) (p : Int) (hn : find1 L p = none) :
    ∃ w', (Instr.mapUpdate t (.map (some b)) (.int .i64 p) v).run Try.prog w = .ok () w' ∧ M1 w' b (L ++ [(p, v)]) ∧ w.grownBy w' (some b) := by
  obtain ⟨es, cl, h1, h2⟩ := h
  obtain ⟨r, hr, hr2⟩ := findKey1 p w es.toList L h2
  have hg : (getObj b).run Try.prog w = .ok (.map es cl) w := MapKept.run_getObj_map h1
  rw [hn] at hr2
  have hr0 : r = none := by cases r with
    | none => rfl
    | some x => simp at hr2
  subst hr0
  refine ⟨setBlock w b (.map (es.push { key := .int .i64 p, val := v, born := cl }) (cl + 1)), ?_, ⟨_, _, heap_setBlock_same h1 _, by simp [h2]⟩, ⟨rfl, rfl, rfl, by simp [setBlock], fun i _ hi => heap_setBlock_other h1 _ (fun e => hi (by rw [e]))⟩⟩
  unfold Instr.mapUpdate
  simp only [Sem.run_bind, run_underlying ht, Result.andThen_ok, hg, check1, hr]
  simp [MapKept.run_setObj_map _ h1, setBlock]
end Go.Proofs.Ytaiflkjchbpphaa
