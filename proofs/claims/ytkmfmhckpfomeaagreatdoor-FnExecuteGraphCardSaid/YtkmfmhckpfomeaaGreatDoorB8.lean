/- What the walks of this seat rest on, one part: plain facts, and contracts of the functions that they reach. Each states its own condition. -/
import Derived.Test.YtkmfmhckpfomeaaGreatDoorB3
import Derived.MapKept
import Derived.Carry
import Derived.Test.YtkmfmhckpfomeaaGreatDoorB5
import Derived.Test.YtkmfmhckpfomeaaGreatDoorB6
set_option linter.all false
set_option linter.unusedSimpArgs false
set_option linter.unusedVariables false
/- A map with integers for keys, made by the call: what a lookup answers, what an assignment leaves. No condition. -/
namespace Go.Proofs.YtkmfmhckpfomeaaGreatDoor
open Go.RowKit Go.MapKept

structure MapFor (es : Array MapEntry) (f : Int → Option Value) : Prop where
  key : ∀ (i : Nat) (x : MapEntry), es[i]? = some x → ∃ k : Int, x.key = .int .i64 k ∧ f k = some x.val
  has : ∀ k v, f k = some v → ∃ (i : Nat) (x : MapEntry), es[i]? = some x ∧ x.key = .int .i64 k
  one : ∀ (i j : Nat) (x y : MapEntry), es[i]? = some x → es[j]? = some y → x.key = y.key → i = j
/-- Block b is a map with integers for keys: f says what stands at each. -/
def IntMap (w : World) (b : Nat) (f : Int → Option Value) : Prop := ∃ es clock, w.heap[b]? = some (.map es clock) ∧ MapFor es f
def put (f : Int → Option Value) (k : Int) (v : Value) : Int → Option Value := fun x => if x = k then some v else f x
theorem IntMap.lt {w : World} {b : Nat} {f : Int → Option Value} (h : IntMap w b f) : b < w.heap.size := by
  obtain ⟨es, clock, hb, _⟩ := h
  exact (Array.getElem?_eq_some_iff.1 hb).1
theorem IntMap.ext {w w' : World} {b : Nat} {f : Int → Option Value} (h : IntMap w b f) (hx : Ext w w') : IntMap w' b f := by
  have hl := h.lt
  obtain ⟨es, clock, hb, hf⟩ := h
  exact ⟨es, clock, (hx.block hl).trans hb, hf⟩
theorem IntMap.empty (w : World) : IntMap (w.alloc (.map #[] 0)) w.heap.size fun _ => none :=
  ⟨_, _, World.alloc_heap_new w _, ⟨fun i x h => by simp at h, fun k v h => (by cases h), fun i j x y h => by simp at h⟩⟩
theorem isKey_int (k : Int) : IsKey (.int .i64) (.int .i64 k) := by simp [IsKey]
theorem MapFor.keys {es : Array MapEntry} {f : Int → Option Value} (h : MapFor es f) : ∀ x ∈ es.toList, IsKey (.int .i64) x.key := by
  intro x hx
  obtain ⟨i, hi, rfl⟩ := List.getElem_of_mem hx
  obtain ⟨k, hk, _⟩ := h.key i es.toList[i] (by simp at hi ⊢)
  rw [hk]; exact isKey_int k
theorem MapFor.find {es : Array MapEntry} {f : Int → Option Value} (h : MapFor es f) (k : Int) :
    (Instr.findNow (.int .i64) (.int .i64 k) es.toList 0 = some none ∧ f k = none ∧ ∀ (i : Nat) (x : MapEntry), es[i]? = some x → x.key ≠ .int .i64 k) ∨
    ∃ (j : Nat) (e : MapEntry), Instr.findNow (.int .i64) (.int .i64 k) es.toList 0 = some (some (j, e.val)) ∧ es[j]? = some e ∧ e.key = .int .i64 k ∧ f k = some e.val := by
  rcases findNow_spec (isKey_int k) es.toList 0 h.keys with ⟨h1, h2⟩ | ⟨j, e, h1, h2, h3⟩
  · have h2' : ∀ (i : Nat) (x : MapEntry), es[i]? = some x → x.key ≠ .int .i64 k := fun i x hx => h2 x (by have := Array.mem_of_getElem? hx; simpa using this)
    refine .inl ⟨h1, ?_, h2'⟩
    cases hf : f k with
    | none => rfl
    | some v =>
      obtain ⟨i, x, hx, hk⟩ := h.has k v hf
      exact absurd hk (h2' i x hx)
  · have hj : es[j]? = some e := by simpa using h2
    refine .inr ⟨j, e, by simpa using h1, hj, h3, ?_⟩
    obtain ⟨k', hk', hf⟩ := h.key j e hj
    rw [h3] at hk'
    obtain rfl : k = k' := by simpa using hk'
    exact hf

theorem IntMap.lookup {w : World} {b : Nat} {f : Int → Option Value} {t e : TypeId} {z : Value} (ht : Tryz.prog.underlying t = some (.map 3 e)) (hz : (zeroValue e).run Tryz.prog w = .ok z w) (h : IntMap w b f) (k : Int) :
    (Instr.lookup t (.map (some b)) (.int .i64 k) false).run Tryz.prog w = .ok ((f k).getD z) w := by
  obtain ⟨es, clock, hb, hf⟩ := h
  rcases hf.find k with ⟨h1, h2, _⟩ | ⟨j, e0, h1, _, _, h4⟩
  · rw [h2]
    simp [Instr.lookup, run_underlying ht, Go.MapKept.run_getObj_map hb, run_checkKey Tryz.underlying3 (isKey_int k), run_findKey Tryz.underlying3 h1, hz, Result.andThen]
  · rw [h4]
    simp [Instr.lookup, run_underlying ht, Go.MapKept.run_getObj_map hb, run_checkKey Tryz.underlying3 (isKey_int k), run_findKey Tryz.underlying3 h1, Result.andThen]
theorem IntMap.lookup2 {w : World} {b : Nat} {f : Int → Option Value} {t e : TypeId} {z : Value} (ht : Tryz.prog.underlying t = some (.map 3 e)) (hz : (zeroValue e).run Tryz.prog w = .ok z w) (h : IntMap w b f) (k : Int) :
    (Instr.lookup t (.map (some b)) (.int .i64 k) true).run Tryz.prog w = .ok (.tuple #[(f k).getD z, .bool (f k).isSome]) w := by
  obtain ⟨es, clock, hb, hf⟩ := h
  rcases hf.find k with ⟨h1, h2, _⟩ | ⟨j, e0, h1, _, _, h4⟩
  · rw [h2]
    simp [Instr.lookup, run_underlying ht, Go.MapKept.run_getObj_map hb, run_checkKey Tryz.underlying3 (isKey_int k), run_findKey Tryz.underlying3 h1, hz, Result.andThen]
  · rw [h4]
    simp [Instr.lookup, run_underlying ht, Go.MapKept.run_getObj_map hb, run_checkKey Tryz.underlying3 (isKey_int k), run_findKey Tryz.underlying3 h1, Result.andThen]

theorem IntMap.update {w : World} {b : Nat} {f : Int → Option Value} {t e : TypeId} (ht : Tryz.prog.underlying t = some (.map 3 e)) (h : IntMap w b f) (k : Int) (v : Value) :
    ∃ w', (Instr.mapUpdate t (.map (some b)) (.int .i64 k) v).run Tryz.prog w = .ok () w' ∧ IntMap w' b (put f k v) ∧ (∀ W, Ext W w → W.heap.size ≤ b → Ext W w') ∧ w'.heap.size = w.heap.size ∧ ∀ i, i ≠ b → w'.heap[i]? = w.heap[i]? := by
  obtain ⟨es, clock, hb, hf⟩ := h
  have hx : ∀ o : Obj, ∀ W, Ext W w → W.heap.size ≤ b → Ext W { w with heap := w.heap.setIfInBounds b o } := fun o W hx hW =>
    ⟨hx.os, hx.tape, hx.output, by have := hx.size; simpa using this, fun i hi => by
      have := hx.block hi
      simp only
      rw [Array.getElem?_setIfInBounds_ne (by omega)]
      exact this⟩
  rcases hf.find k with ⟨h1, h2, h3⟩ | ⟨j, e0, h1, h2, h3, h4⟩
  · refine ⟨{ w with heap := w.heap.setIfInBounds b (.map (es.push { key := .int .i64 k, val := v, born := clock }) (clock + 1)) }, ?_, ⟨_, _, (heap_set hb).1, ?_, ?_, ?_⟩, hx _, by simp, (heap_set hb).2⟩
    · simp [Instr.mapUpdate, run_underlying ht, Go.MapKept.run_getObj_map hb, run_checkKey Tryz.underlying3 (isKey_int k), run_findKey Tryz.underlying3 h1, Go.MapKept.run_setObj_map _ hb, Result.andThen]
    · intro i x hx
      rw [Array.getElem?_push] at hx
      split at hx
      · cases hx; exact ⟨k, rfl, by simp [put]⟩
      · obtain ⟨k', hk', hf'⟩ := hf.key i x hx
        refine ⟨k', hk', ?_⟩
        unfold put
        rw [if_neg]
        · exact hf'
        · rintro rfl; exact h3 i x hx hk'
    · intro k' v' h'
      unfold put at h'
      by_cases e : k' = k
      · subst e
        exact ⟨es.size, { key := .int .i64 k', val := v, born := clock }, by simp, rfl⟩
      · rw [if_neg e] at h'
        obtain ⟨i, x, hx, hk⟩ := hf.has k' v' h'
        refine ⟨i, x, ?_, hk⟩
        have hi := (Array.getElem?_eq_some_iff.1 hx).1
        rw [Array.getElem?_push, if_neg (by omega)]
        exact hx
    · intro i i' x y hx hy hk
      rw [Array.getElem?_push] at hx hy
      split at hx <;> split at hy
      · omega
      · cases hx; exact absurd hk.symm (h3 _ _ hy)
      · cases hy; exact absurd hk (h3 _ _ hx)
      · exact hf.one i i' x y hx hy hk
  · have hmod : ∀ (i : Nat) (x : MapEntry), (es.modify j fun e => { e with key := .int .i64 k, val := v })[i]? = some x → (i = j ∧ x.key = .int .i64 k ∧ x.val = v) ∨ (i ≠ j ∧ es[i]? = some x) := by
      intro i x hx
      rw [Array.getElem?_modify] at hx
      split at hx
      · rename_i h
        subst h
        rw [h2] at hx
        simp only [Option.map_some, Option.some.injEq] at hx
        subst hx
        exact .inl ⟨rfl, rfl, rfl⟩
      · rename_i h
        exact .inr ⟨fun e => h e.symm, hx⟩
    have hmod' : ∀ (i : Nat) (x : MapEntry), es[i]? = some x → ∃ y : MapEntry, (es.modify j fun e => { e with key := .int .i64 k, val := v })[i]? = some y ∧ y.key = x.key := by
      intro i x hx
      rw [Array.getElem?_modify]
      split
      · rename_i h
        subst h
        rw [h2] at hx ⊢
        cases hx
        exact ⟨_, rfl, h3.symm⟩
      · exact ⟨x, hx, rfl⟩
    refine ⟨{ w with heap := w.heap.setIfInBounds b (.map (es.modify j fun e => { e with key := .int .i64 k, val := v }) clock) }, ?_, ⟨_, _, (heap_set hb).1, ?_, ?_, ?_⟩, hx _, by simp, (heap_set hb).2⟩
    · simp [Instr.mapUpdate, run_underlying ht, Go.MapKept.run_getObj_map hb, run_checkKey Tryz.underlying3 (isKey_int k), run_findKey Tryz.underlying3 h1, h2, h3, run_keyThatStays (isKey_int k), Go.MapKept.run_setObj_map _ hb, Result.andThen]
    · intro i x hx
      rcases hmod i x hx with ⟨rfl, hk, hv⟩ | ⟨hne, hx2⟩
      · exact ⟨k, hk, by rw [hv]; simp [put]⟩
      · obtain ⟨k', hk', hf'⟩ := hf.key i x hx2
        refine ⟨k', hk', ?_⟩
        unfold put
        rw [if_neg]
        · exact hf'
        · rintro rfl; exact hne (hf.one i j x e0 hx2 h2 (hk'.trans h3.symm))
    · intro k' v' h'
      unfold put at h'
      by_cases e : k' = k
      · subst e
        obtain ⟨y, hy, hk⟩ := hmod' j e0 h2
        exact ⟨j, y, hy, hk.trans h3⟩
      · rw [if_neg e] at h'
        obtain ⟨i, x, hx, hk⟩ := hf.has k' v' h'
        obtain ⟨y, hy, hk'⟩ := hmod' i x hx
        exact ⟨i, y, hy, hk'.trans hk⟩
    · intro i i' x y hx hy hk
      rcases hmod i x hx with ⟨e1, hk1, -⟩ | ⟨-, hx2⟩ <;> rcases hmod i' y hy with ⟨e2, hk2, -⟩ | ⟨-, hy2⟩
      · rw [e1, e2]
      · rw [e1]; exact hf.one _ _ _ _ h2 hy2 (h3.trans (hk1.symm.trans hk))
      · rw [e2]; exact hf.one _ _ _ _ hx2 h2 (hk.trans (hk2.trans h3.symm))
      · exact hf.one _ _ _ _ hx2 hy2 hk
end Go.Proofs.YtkmfmhckpfomeaaGreatDoor

/- The asker: the graph and the map of depths. The condition: the list has at most 2^20 numbers. -/
namespace Go.Proofs.YtkmfmhckpfomeaaGreatDoor
open Go.RowKit
open BigFrame

/-- The asker at block b + 1, its map at block b. -/
structure IsAsker (w : World) (b : Nat) (v : Value) (f : Int → Option Value) : Prop where
  map : IntMap w b f
  graph : w.cell? ⟨b + 1, 0, none⟩ = some v
  known : w.cell? ⟨b + 1, 1, none⟩ = some (.map (some b))
  size : b + 1 < w.heap.size
theorem IsAsker.ext {w w' : World} {b : Nat} {v : Value} {f : Int → Option Value} (h : IsAsker w b v f) (hx : Ext w w') : IsAsker w' b v f :=
  ⟨h.map.ext hx, (hx.cell h.size).trans h.graph, (hx.cell h.size).trans h.known, Nat.lt_of_lt_of_le h.size hx.size⟩

theorem askerOf_c (v : Value) (g : List Int) (w : World) (hv : Rd w v g) :
    Calls Tryz.prog 140 #[v] w fun e w' => e = .returned (.pointer (some ⟨w.heap.size + 1, 0, none⟩)) ∧ IsAsker w' w.heap.size v (fun _ => none) ∧ Ext w w' := by
  obtain ⟨a, c, rfl⟩ := hv.form
  clear hv
  have hmk : ∀ w : World, (Instr.makeMap 130 none).run Tryz.prog w = .ok (.map (some w.heap.size)) (w.alloc (.map #[] 0)) := fun w => rfl
  go_enter Tryz.func140, Tryz.ntmps140
  go_wp2
  go_ret
  have h1 := World.alloc_heap_new (w.alloc (.map #[] 0)) (.cells #[.slice a g.length c, .map (some w.heap.size)] 132)
  simp only [World.size_alloc] at h1
  obtain ⟨h2, h3⟩ := two_cells h1
  exact ⟨rfl, ⟨(IntMap.empty w).ext ((Ext.refl _).alloc _), h2, h3, by simp⟩, ((Ext.refl w).alloc _).alloc _⟩

set_option maxHeartbeats 400000 in
theorem split_c (b : Nat) (v : Value) (f : Int → Option Value) (g : List Int) (s x : Nat) (w : World) (ha : IsAsker w b v f) (hv : Rd w v g) (hg : IsGraph g) (hs : s ≤ 4095) (hx : x < g.length) :
    Calls Tryz.prog 143 #[.pointer (some ⟨b + 1, 0, none⟩), .int .i64 s, .int .i64 x] w fun e w' => e = .returned (.tuple #[.int .i64 (qIn g s x : Nat), .int .i64 (without s (qIn g s x) : Nat)]) ∧ Ext w w' := by
  obtain ⟨a, c, rfl⟩ := hv.form
  have HV := Lib.hid hv; have HG := Lib.hid hg
  have c1 := fun u => ((clip_ext w u).cell ha.size (o := 0)).trans ha.graph
  have h3 := ballN_small hg hx
  have e1 := bits_and s (ballN g x) (by omega) (by omega)
  have e2 := bits_andNot s (ballN g x) (by omega) (by omega)
  rw [qIn_without]
  clear hv ha hg
  go_enter Tryz.func143, Tryz.ntmps143
  go_wp2
  refine wp_region_ext (by kernel_rfl) (by kernel_rfl) ?_
  repeat (go_big_quiet_step ((go_at_call 127; exact Calls.clip_of (ball_c _ g x _ (HV.out.ext (clip_ext _ _)) HG.out hx))))
  refine wpQuiet_nil ?_
  rintro _ ⟨u, rfl⟩
  go_wp2
  go_ret2
  exact ⟨rfl, clip_ext _ _⟩
end Go.Proofs.YtkmfmhckpfomeaaGreatDoor

/- Depths of sets, best questions, played questions: plain functions and what holds of them. No program in sight. No condition. -/
namespace Go.Proofs.YtkmfmhckpfomeaaGreatDoor

/-! ### Counting -/
theorem countP_split {α : Type} (p q : α → Bool) : ∀ l : List α, l.countP (fun i => p i && q i) + l.countP (fun i => p i && !q i) = l.countP p
  | [] => rfl
  | a :: l => by
    have := countP_split p q l
    simp only [List.countP_cons]
    cases p a <;> cases q a <;> simp <;> omega
theorem cnt_split (s t : Nat) : cnt (band s t) + cnt (without s t) = cnt s := by
  unfold cnt
  simp only [testBit_band, testBit_without]
  exact countP_split _ _ _
theorem one_blocks : ∀ a, a < 64 → ∀ b, b < 64 → decide (band (64 * a + b) (64 * a + b - 1) = 0) = decide (cnt (64 * a + b) ≤ 1) := by decide +kernel
theorem one_iff {s : Nat} (h : s ≤ 4095) : band s (s - 1) = 0 ↔ cnt s ≤ 1 := by
  have := one_blocks (s / 64) (by omega) (s % 64) (by omega)
  rw [show 64 * (s / 64) + s % 64 = s from by omega] at this
  simpa using this
theorem zero_blocks : ∀ a, a < 64 → ∀ b, b < 64 → decide (cnt (64 * a + b) = 0) = decide (64 * a + b = 0) := by decide +kernel
theorem cnt_zero {s : Nat} (h : s ≤ 4095) : cnt s = 0 ↔ s = 0 := by
  have := zero_blocks (s / 64) (by omega) (s % 64) (by omega)
  rw [show 64 * (s / 64) + s % 64 = s from by omega] at this
  simpa using this

/-! ### The least of some numbers, at most 99 -/
def minTo (f : Nat → Nat) : Nat → Nat
  | 0 => 99
  | k + 1 => min (minTo f k) (f k)
theorem minTo_le (f : Nat → Nat) : ∀ k, minTo f k ≤ 99
  | 0 => Nat.le_refl _
  | k + 1 => Nat.le_trans (Nat.min_le_left _ _) (minTo_le f k)
theorem minTo_at {f : Nat → Nat} {x : Nat} : ∀ {k : Nat}, x < k → minTo f k ≤ f x
  | 0, h => by omega
  | k + 1, h => by
    by_cases e : x = k
    · subst e; exact Nat.min_le_right _ _
    · exact Nat.le_trans (Nat.min_le_left _ _) (minTo_at (show x < k by omega))
theorem minTo_has (f : Nat → Nat) : ∀ k, minTo f k = 99 ∨ ∃ x, x < k ∧ minTo f k = f x
  | 0 => .inl rfl
  | k + 1 => by
    by_cases h : minTo f k ≤ f k
    · rcases minTo_has f k with e | ⟨x, hx, e⟩
      · exact .inl (by show min _ _ = 99; omega)
      · exact .inr ⟨x, by omega, by show min _ _ = _; omega⟩
    · exact .inr ⟨k, by omega, by show min _ _ = _; omega⟩
theorem minTo_congr {f f' : Nat → Nat} : ∀ {k : Nat}, (∀ x, x < k → f x = f' x) → minTo f k = minTo f' k
  | 0, _ => rfl
  | k + 1, h => by
    show min _ _ = min _ _
    rw [minTo_congr (fun x hx => h x (by omega)), h k (by omega)]

/-! ### Parts of a set -/
theorem band_sub_le (s t : Nat) : band s t ≤ s := Nat.and_le_left
theorem without_sub (s t : Nat) : without s t = band s (without s t) := by
  apply Nat.eq_of_testBit_eq
  intro i
  rw [testBit_band, testBit_without]
  cases s.testBit i <;> simp
theorem without_sub_le (s t : Nat) : without s t ≤ s := by
  rw [without_sub]
  exact band_sub_le _ _
theorem without_ne {s t : Nat} (h : band s t ≠ 0) : without s t ≠ s := by
  intro e
  apply h
  apply Nat.eq_of_testBit_eq
  intro i
  have := congrArg (fun z => Nat.testBit z i) e
  simp only [testBit_without] at this
  rw [testBit_band, Nat.zero_testBit]
  revert this
  cases s.testBit i <;> cases t.testBit i <;> simp
theorem without_zero {s t : Nat} : without s t = 0 ↔ band s t = s := by
  constructor
  · intro e
    apply Nat.eq_of_testBit_eq
    intro i
    have := congrArg (fun z => Nat.testBit z i) e
    simp only [testBit_without, Nat.zero_testBit] at this
    rw [testBit_band]
    revert this
    cases s.testBit i <;> cases t.testBit i <;> simp
  · intro e
    apply Nat.eq_of_testBit_eq
    intro i
    have := congrArg (fun z => Nat.testBit z i) e
    simp only [testBit_band] at this
    rw [testBit_without, Nat.zero_testBit]
    revert this
    cases s.testBit i <;> cases t.testBit i <;> simp
theorem qIn_band (g : List Int) (s x : Nat) : band s (qIn g s x) = qIn g s x := by
  unfold qIn
  apply Nat.eq_of_testBit_eq
  intro i
  simp only [testBit_band]
  cases s.testBit i <;> simp
theorem qIn_lt {g : List Int} {s x : Nat} (h : qIn g s x ≠ s) : qIn g s x < s := Nat.lt_of_le_of_ne (qIn_le g s x) h
theorem qOut_lt {g : List Int} {s x : Nat} (h : qIn g s x ≠ 0) : without s (qIn g s x) < s :=
  Nat.lt_of_le_of_ne (without_sub_le _ _) (without_ne (by rw [qIn_band]; exact h))
theorem qOut_zero {g : List Int} {s x : Nat} : without s (qIn g s x) = 0 ↔ qIn g s x = s := by
  rw [without_zero, qIn_band]
theorem q_cnt (g : List Int) (s x : Nat) : cnt (qIn g s x) + cnt (without s (qIn g s x)) = cnt s := by
  have := cnt_split s (qIn g s x)
  rwa [qIn_band] at this

/-! ### The depth of a set: 99 if no questions tell its nodes -/
def dep (g : List Int) (s : Nat) : Nat :=
  if band s (s - 1) = 0 then 0
  else minTo (fun x => if h : qIn g s x ≠ 0 ∧ qIn g s x ≠ s then 1 + max (dep g (qIn g s x)) (dep g (without s (qIn g s x))) else 99) g.length
termination_by s
decreasing_by
  · exact qIn_lt h.2
  · exact qOut_lt h.1
/-- A question tells something. -/
def tells (g : List Int) (s x : Nat) : Bool := decide (qIn g s x ≠ 0) && decide (qIn g s x ≠ s)
theorem tells_iff {g : List Int} {s x : Nat} : tells g s x = true ↔ qIn g s x ≠ 0 ∧ qIn g s x ≠ s := by simp [tells]
/-- The depth behind a question. -/
def depAt (g : List Int) (s x : Nat) : Nat := if tells g s x then 1 + max (dep g (qIn g s x)) (dep g (without s (qIn g s x))) else 99
def depTo (g : List Int) (s k : Nat) : Nat := minTo (depAt g s) k
theorem dep_one {g : List Int} {s : Nat} (h : band s (s - 1) = 0) : dep g s = 0 := by
  rw [dep, if_pos h]
theorem dep_more {g : List Int} {s : Nat} (h : band s (s - 1) ≠ 0) : dep g s = depTo g s g.length := by
  rw [dep, if_neg h]
  apply minTo_congr
  intro x _
  unfold depAt
  by_cases hc : qIn g s x ≠ 0 ∧ qIn g s x ≠ s
  · rw [dif_pos hc, if_pos (tells_iff.2 hc)]
  · rw [dif_neg hc, if_neg (fun h => hc (tells_iff.1 h))]
theorem dep_le (g : List Int) (s : Nat) : dep g s ≤ 99 := by
  by_cases h : band s (s - 1) = 0
  · rw [dep_one h]; omega
  · rw [dep_more h]; exact minTo_le _ _
/-- A depth is below the number of nodes, or 99. -/
theorem dep_cnt (g : List Int) : ∀ n s : Nat, s ≤ n → s ≤ 4095 → s ≠ 0 → dep g s = 99 ∨ dep g s + 1 ≤ cnt s
  | 0, s, h, _, h0 => by omega
  | n + 1, s, h, hs, h0 => by
    by_cases h1 : band s (s - 1) = 0
    · refine .inr ?_
      rw [dep_one h1]
      have := mt (cnt_zero hs).1 h0
      omega
    · rw [dep_more h1]
      rcases minTo_has (depAt g s) g.length with e | ⟨x, hx, e⟩
      · exact .inl e
      · unfold depTo
        rw [e]
        have hle := minTo_le (depAt g s) g.length
        rw [e] at hle
        unfold depAt at hle ⊢
        split
        · rename_i ht
          rw [if_pos ht] at hle
          have ht := tells_iff.1 ht
          have i1 := qIn_lt ht.2
          have i2 := qOut_lt ht.1
          have i3 := mt qOut_zero.1 ht.2
          have c1 := q_cnt g s x
          rcases dep_cnt g n (qIn g s x) (by omega) (by omega) ht.1 with d1 | d1
          · omega
          · rcases dep_cnt g n (without s (qIn g s x)) (by omega) (by omega) i3 with d2 | d2
            · omega
            · right; omega
        · exact .inl rfl
theorem dep_small {g : List Int} {s : Nat} (hs : s ≤ 4095) (h : dep g s ≠ 99) : dep g s ≤ 11 := by
  by_cases h0 : s = 0
  · subst h0
    rw [dep_one (by decide)]; omega
  · have := cnt_le s
    rcases dep_cnt g s s (Nat.le_refl _) hs h0 with e | e
    · exact absurd e h
    · omega
/-- Depths behind a question that tells something, and is not hopeless. -/
theorem depAt_lt {g : List Int} {s x : Nat} (hs : s ≤ 4095) (h : tells g s x = true) : depAt g s x = 100 ∧ (dep g (qIn g s x) = 99 ∨ dep g (without s (qIn g s x)) = 99) ∨ depAt g s x ≤ 12 ∧ depAt g s x = 1 + max (dep g (qIn g s x)) (dep g (without s (qIn g s x))) ∧ dep g (qIn g s x) ≤ 11 ∧ dep g (without s (qIn g s x)) ≤ 11 := by
  have e : depAt g s x = 1 + max (dep g (qIn g s x)) (dep g (without s (qIn g s x))) := by unfold depAt; rw [if_pos h]
  have ht := tells_iff.1 h
  have i1 := qIn_lt ht.2
  have i2 := qOut_lt ht.1
  have l1 := dep_le g (qIn g s x)
  have l2 := dep_le g (without s (qIn g s x))
  by_cases h1 : dep g (qIn g s x) = 99
  · left; omega
  · by_cases h2 : dep g (without s (qIn g s x)) = 99
    · left; omega
    · have := dep_small (by omega) h1
      have := dep_small (by omega) h2
      right; omega

/-! ### The program's spelling: a depth of 99 is 2^20 -/
def never (d : Nat) : Nat := if d = 99 then 1048576 else d
/-- The greater depth of both parts, 2^20 if one of them is empty. -/
def aft (g : List Int) (s x : Nat) : Nat := if tells g s x then max (never (dep g (qIn g s x))) (never (dep g (without s (qIn g s x)))) else 1048576
theorem aft_never {g : List Int} {s x k : Nat} (hs : s ≤ 4095) (h : ¬ aft g s x < 1048576) : min (minTo (depAt g s) k) (depAt g s x) = minTo (depAt g s) k := by
  have hm := minTo_le (depAt g s) k
  cases ht : tells g s x
  · have : depAt g s x = 99 := by unfold depAt; rw [ht]; rfl
    omega
  · rcases depAt_lt hs ht with ⟨e, -⟩ | ⟨e, e1, e2, e3⟩
    · omega
    · exfalso
      apply h
      unfold aft never
      rw [ht, if_pos rfl, if_neg (by omega), if_neg (by omega)]
      omega
theorem aft_some {g : List Int} {s x : Nat} (hs : s ≤ 4095) (h : aft g s x < 1048576) : depAt g s x = aft g s x + 1 ∧ aft g s x ≤ 11 := by
  unfold aft at h ⊢
  split at h
  · rename_i ht
    rw [if_pos ht]
    rcases depAt_lt hs ht with ⟨e, e1⟩ | ⟨e, e1, e2, e3⟩
    · exfalso
      unfold never at h
      rcases e1 with e1 | e1
      · rw [if_pos e1] at h; omega
      · rw [if_pos e1] at h; omega
    · unfold never
      rw [if_neg (by omega), if_neg (by omega)]
      omega
  · omega
theorem never_min {g : List Int} {s x : Nat} (hs : s ≤ 4095) (h : aft g s x < 1048576) : never (depTo g s (x + 1)) = min (never (depTo g s x)) (aft g s x + 1) := by
  obtain ⟨e, hl⟩ := aft_some hs h
  have hm := minTo_le (depAt g s) x
  show never (min (minTo (depAt g s) x) (depAt g s x)) = min (never (minTo (depAt g s) x)) _
  unfold never
  split <;> split <;> omega
theorem never_keep {g : List Int} {s x : Nat} (hs : s ≤ 4095) (h : ¬ aft g s x < 1048576) : never (depTo g s (x + 1)) = never (depTo g s x) := by
  show never (min (minTo (depAt g s) x) (depAt g s x)) = _
  rw [aft_never hs h]; rfl
theorem never_le (d : Nat) (h : d ≤ 99) : never d ≤ 1048576 := by unfold never; split <;> omega
theorem aft_le (g : List Int) (s x : Nat) : aft g s x ≤ 1048576 := by
  have := never_le _ (dep_le g (qIn g s x))
  have := never_le _ (dep_le g (without s (qIn g s x)))
  unfold aft
  split <;> omega
theorem never_eq {d : Nat} (h : d ≤ 99) : never d = 1048576 ↔ d = 99 := by unfold never; split <;> omega

/-! ### The best question -/
def good (g : List Int) (s x : Nat) : Bool := tells g s x && decide (dep g (qIn g s x) < dep g s) && decide (dep g (without s (qIn g s x)) < dep g s)
theorem good_iff {g : List Int} {s x : Nat} : good g s x = true ↔ (qIn g s x ≠ 0 ∧ qIn g s x ≠ s) ∧ dep g (qIn g s x) < dep g s ∧ dep g (without s (qIn g s x)) < dep g s := by
  unfold good
  simp only [Bool.and_eq_true, decide_eq_true_eq, tells_iff, and_assoc]
def bestTo (g : List Int) (s : Nat) : Nat → Nat → Nat
  | 0, _ => 0
  | d + 1, x => if good g s x then x else bestTo g s d (x + 1)
def bestOf (g : List Int) (s : Nat) : Nat := bestTo g s g.length 0
theorem good_aft {g : List Int} {s x : Nat} (hs : s ≤ 4095) (h : dep g s < 99) : good g s x = true ↔ aft g s x < never (dep g s) := by
  have hd := dep_small hs (show dep g s ≠ 99 by omega)
  have hn : never (dep g s) = dep g s := by unfold never; rw [if_neg (by omega)]
  rw [hn]
  cases ht : tells g s x
  · unfold good aft
    rw [ht]
    simp
    omega
  · unfold good aft
    rw [ht]
    have l1 := dep_le g (qIn g s x)
    have l2 := dep_le g (without s (qIn g s x))
    simp only [Bool.true_and, Bool.and_eq_true, decide_eq_true_eq, if_true]
    unfold never
    constructor
    · rintro ⟨h1, h2⟩
      rw [if_neg (by omega), if_neg (by omega)]
      omega
    · intro h
      split at h <;> split at h <;> omega
theorem good_has {g : List Int} {s : Nat} (hs : s ≤ 4095) (h : dep g s < 99) (h0 : dep g s ≠ 0) : ∃ x, x < g.length ∧ good g s x = true := by
  by_cases h1 : band s (s - 1) = 0
  · exact absurd (dep_one h1) h0
  · have e := dep_more h1 (g := g)
    rcases minTo_has (depAt g s) g.length with e1 | ⟨x, hx, e1⟩
    · exfalso
      unfold depTo at e
      omega
    · refine ⟨x, hx, ?_⟩
      unfold depTo at e
      rw [e1] at e
      have ht : tells g s x = true := by
        cases ht : tells g s x
        · exfalso
          unfold depAt at e
          rw [ht] at e
          simp at e
          omega
        · rfl
      rcases depAt_lt hs ht with ⟨e2, -⟩ | ⟨e2, e3, -⟩
      · omega
      · refine good_iff.2 ⟨tells_iff.1 ht, ?_, ?_⟩ <;> omega
theorem bestTo_good {g : List Int} {s : Nat} : ∀ {d x : Nat}, (∃ y, x ≤ y ∧ y < x + d ∧ good g s y = true) → good g s (bestTo g s d x) = true ∧ bestTo g s d x < x + d
  | 0, x, ⟨y, h1, h2, _⟩ => by omega
  | d + 1, x, ⟨y, h1, h2, h3⟩ => by
    unfold bestTo
    split
    · rename_i h
      exact ⟨h, by omega⟩
    · rename_i h
      have : y ≠ x := fun e => h (e ▸ h3)
      have := bestTo_good (d := d) (x := x + 1) ⟨y, by omega, by omega, h3⟩
      exact ⟨this.1, by omega⟩
theorem best_good {g : List Int} {s : Nat} (hs : s ≤ 4095) (h : dep g s < 99) (h0 : dep g s ≠ 0) : good g s (bestOf g s) = true ∧ bestOf g s < g.length := by
  obtain ⟨x, hx, hg⟩ := good_has hs h h0
  have := bestTo_good (d := g.length) (x := 0) ⟨x, by omega, by omega, hg⟩
  exact ⟨this.1, by have := this.2; unfold bestOf; omega⟩
/-- No node ahead of the best one is good. -/
theorem bestTo_first {g : List Int} {s : Nat} : ∀ {d x y : Nat}, x ≤ y → y < bestTo g s d x → y < x + d → good g s y = false
  | 0, x, y, _, _, _ => by omega
  | d + 1, x, y, h1, h2, h3 => by
    unfold bestTo at h2
    split at h2
    · omega
    · rename_i h
      by_cases e : y = x
      · subst e; simpa using h
      · exact bestTo_first (d := d) (x := x + 1) (by omega) h2 (by omega)
/-- Walking from node to node: the best question is still ahead. -/
theorem best_here {g : List Int} {s x : Nat} (h : good g s x = true) (hx : x < g.length) (hb : ∀ y, y < x → good g s y = false) : bestOf g s = x := by
  have h1 := bestTo_good (g := g) (s := s) (d := g.length) (x := 0) ⟨x, by omega, by omega, h⟩
  have h2 : ¬ x < bestOf g s := fun hlt => by
    have := bestTo_first (g := g) (s := s) (d := g.length) (x := 0) (y := x) (by omega) hlt (by omega)
    rw [h] at this; cases this
  have h3 : ¬ bestOf g s < x := fun hlt => by
    have := hb _ hlt
    have h4 := h1.1
    unfold bestOf at this
    rw [h4] at this; cases this
  omega
theorem best_none {g : List Int} {s : Nat} (hb : ∀ y, y < g.length → good g s y = false) : bestOf g s = 0 := by
  have : ∀ d x, x + d ≤ g.length → bestTo g s d x = 0 := by
    intro d
    induction d with
    | zero => intro x _; rfl
    | succ d ih =>
      intro x hx
      unfold bestTo
      rw [hb x (by omega)]
      exact ih (x + 1) (by omega)
  exact this g.length 0 (by omega)

/-! ### Played questions -/
/-- The set behind the best question. -/
def nextOf (g : List Int) (wrong s : Nat) : Nat := if (qIn g s (bestOf g s)).testBit wrong then qIn g s (bestOf g s) else without s (qIn g s (bestOf g s))
def play (g : List Int) (wrong : Nat) : Nat → Nat → List Nat
  | 0, _ => []
  | d + 1, s => if dep g s = 0 then [] else bestOf g s :: play g wrong d (nextOf g wrong s)
theorem next_facts {g : List Int} {wrong s : Nat} (hs : s ≤ 4095) (h : dep g s < 99) (h0 : dep g s ≠ 0) : nextOf g wrong s ≠ 0 ∧ nextOf g wrong s < s ∧ dep g (nextOf g wrong s) < dep g s := by
  have hb := good_iff.1 (best_good hs h h0).1
  unfold nextOf
  split
  · exact ⟨hb.1.1, qIn_lt hb.1.2, hb.2.1⟩
  · exact ⟨mt qOut_zero.1 hb.1.2, qOut_lt hb.1.1, hb.2.2⟩
theorem dep_pos {g : List Int} {s : Nat} (hs : s ≤ 4095) (h0 : s ≠ 0) : dep g s = 0 ↔ cnt s = 1 := by
  have hz := mt (cnt_zero hs).1 h0
  constructor
  · intro h
    by_cases h1 : band s (s - 1) = 0
    · have := (one_iff hs).1 h1
      omega
    · exfalso
      rw [dep_more h1] at h
      rcases minTo_has (depAt g s) g.length with e | ⟨x, hx, e⟩
      · unfold depTo at h; omega
      · unfold depTo at h
        rw [e] at h
        unfold depAt at h
        split at h <;> omega
  · intro h
    exact dep_one ((one_iff hs).2 (by omega))
end Go.Proofs.YtkmfmhckpfomeaaGreatDoor

/- The asker's depths: each set's depth is found, whatever the map of depths already holds. The condition: a graph of at most 12 nodes. -/
namespace Go.Proofs.YtkmfmhckpfomeaaGreatDoor
open Go.RowKit
open BigFrame

/-- w' is w but for new blocks, and for what lies at block b. -/
structure Upd (b : Nat) (w w' : World) : Prop where
  os : w'.os = w.os
  tape : w'.tape = w.tape
  output : w'.output = w.output
  size : w.heap.size ≤ w'.heap.size
  block : ∀ i, i < w.heap.size → i ≠ b → w'.heap[i]? = w.heap[i]?
theorem Upd.refl (b : Nat) (w : World) : Upd b w w := ⟨rfl, rfl, rfl, Nat.le_refl _, fun _ _ _ => rfl⟩
theorem Upd.trans {b : Nat} {x y z : World} (h : Upd b x y) (k : Upd b y z) : Upd b x z :=
  ⟨k.os.trans h.os, k.tape.trans h.tape, k.output.trans h.output, Nat.le_trans h.size k.size, fun i hi hne => (k.block i (Nat.lt_of_lt_of_le hi h.size) hne).trans (h.block i hi hne)⟩
theorem Upd.of_ext {b : Nat} {w w' : World} (h : Ext w w') : Upd b w w' := ⟨h.os, h.tape, h.output, h.size, fun _ hi _ => h.block hi⟩
theorem Ext.upd {b : Nat} {w0 w w' : World} (h : Ext w0 w) (hb : w0.heap.size ≤ b) (k : Upd b w w') : Ext w0 w' :=
  ⟨k.os.trans h.os, k.tape.trans h.tape, k.output.trans h.output, Nat.le_trans h.size k.size, fun i hi => (k.block i (Nat.lt_of_lt_of_le hi h.size) (by omega)).trans (h.block hi)⟩
theorem Upd.cell {b : Nat} {w w' : World} (h : Upd b w w') {x o : Nat} (hx : x < w.heap.size) (hne : x ≠ b) : w'.cell? ⟨x, o, none⟩ = w.cell? ⟨x, o, none⟩ :=
  World.cell?_of_block (a := ⟨x, o, none⟩) (h.block x hx hne)
theorem Upd.frozen {b : Nat} {w w' : World} (h : Upd b w w') {x o : Nat} (hx : x < w.heap.size) (hne : x ≠ b) : w'.frozen? ⟨x, o, none⟩ = w.frozen? ⟨x, o, none⟩ :=
  World.frozen?_of_block (a := ⟨x, o, none⟩) (h.block x hx hne)

theorem Own.upd {w w' : World} {b base : Nat} {v : Value} {xs : List Int} (h : Own w base v xs) (hb : b < base) (hu : Upd b w w') : Own w' base v xs := by
  obtain ⟨h1, h2⟩ := h
  refine ⟨h1, ?_⟩
  rcases h2 with h2 | ⟨g, cap, cur, hv, hg, hh, r⟩
  · exact Or.inl h2
  · exact Or.inr ⟨g, cap, cur, hv, hg, (hu.block g (Array.getElem?_eq_some_iff.1 hh).1 (by omega)).trans hh, r⟩
/-- The map at block b holds nothing but depths. -/
def Known (w : World) (b : Nat) (g : List Int) : Prop := ∃ f, IntMap w b f ∧ ∀ k v, f k = some v → ∃ s : Nat, k = (s : Int) ∧ v = .int .i64 ((never (dep g s) : Nat) : Int)
/-- The asker at block b + 1, made behind the world w0. -/
structure AskOk (w0 : World) (b : Nat) (v : Value) (g : List Int) (w : World) : Prop where
  map : Known w b g
  graph : w.cell? ⟨b + 1, 0, none⟩ = some v
  known : w.cell? ⟨b + 1, 1, none⟩ = some (.map (some b))
  size : b + 1 < w.heap.size
  ext : Ext w0 w
theorem AskOk.next {w0 w w' : World} {b : Nat} {v : Value} {g : List Int} (h : AskOk w0 b v g w) (hx : Ext w w') : AskOk w0 b v g w' :=
  ⟨h.map.imp fun _ hf => ⟨hf.1.ext hx, hf.2⟩, (hx.cell h.size).trans h.graph, (hx.cell h.size).trans h.known, Nat.lt_of_lt_of_le h.size hx.size, h.ext.trans hx⟩
theorem AskOk.is {w0 w : World} {b : Nat} {v : Value} {g : List Int} (h : AskOk w0 b v g w) : ∃ f, IsAsker w b v f :=
  h.map.imp fun _ hf => ⟨hf.1, h.graph, h.known, h.size⟩
theorem AskOk.of {w0 w : World} {b : Nat} {v : Value} {g : List Int} (h : IsAsker w b v (fun _ => none)) (hx : Ext w0 w) : AskOk w0 b v g w :=
  ⟨⟨_, h.map, fun _ _ h => by cases h⟩, h.graph, h.known, h.size, hx⟩

section
variable {w0 : World} {b : Nat} {v : Value} {g : List Int}
set_option maxHeartbeats 1000000 in
theorem after_of (hv : Rd w0 v g) (hg : IsGraph g) (_ : w0.heap.size ≤ b) (s x : Nat) (hs : s ≤ 4095) (hx : x < g.length)
    (ih : ∀ t w, t < s → t ≠ 0 → AskOk w0 b v g w → Calls Tryz.prog 141 #[.pointer (some ⟨b + 1, 0, none⟩), .int .i64 t] w fun e w' => e = .returned (.int .i64 (never (dep g t) : Nat)) ∧ AskOk w0 b v g w' ∧ Upd b w w')
    (w : World) (ha : AskOk w0 b v g w) :
    Calls Tryz.prog 179 #[.pointer (some ⟨b + 1, 0, none⟩), .int .i64 s, .int .i64 x] w fun e w' => e = .returned (.int .i64 (aft g s x : Nat)) ∧ AskOk w0 b v g w' ∧ Upd b w w' := by
  obtain ⟨f, hA⟩ := ha.is
  obtain ⟨I, hI⟩ : ∃ I, I = qIn g s x := ⟨_, rfl⟩
  obtain ⟨O, hO⟩ : ∃ O, O = without s (qIn g s x) := ⟨_, rfl⟩
  have HC : Hid (Calls Tryz.prog 143 #[.pointer (some ⟨b + 1, 0, none⟩), .int .i64 s, .int .i64 x] w fun e w' => e = .returned (.tuple #[.int .i64 (I : Nat), .int .i64 (O : Nat)]) ∧ Ext w w') := by
    rw [hI, hO]; exact split_c b v f g s x w hA (hv.ext ha.ext) hg hs hx
  have HA := Lib.hid ha; have HI := Lib.hid hI; have HO := Lib.hid hO; have HIH := Lib.hid ih
  clear ha hA hI hO ih
  by_cases h1 : I = 0
  · have hI0 : ((I : Int) == 0) = true := by simp [h1]
    go_enter Tryz.func179, Tryz.ntmps179
    go_wp2_with (go_at_call 143; refine HC.out.mono ?_; rintro e w1 ⟨rfl, x1⟩)
    go_ret
    exact ⟨ret_int (by unfold aft tells; rw [← HI.out]; simp [h1]), HA.out.next (by assumption), Upd.of_ext (by assumption)⟩
  · have hI0 : ((I : Int) == 0) = false := by simp [h1]
    by_cases h2 : O = 0
    · have hO0 : ((O : Int) == 0) = true := by simp [h2]
      go_enter Tryz.func179, Tryz.ntmps179
      go_wp2_with (go_at_call 143; refine HC.out.mono ?_; rintro e w1 ⟨rfl, x1⟩)
      go_ret
      exact ⟨ret_int (by unfold aft tells; rw [qOut_zero.1 (HO.out.symm.trans h2)]; simp), HA.out.next (by assumption), Upd.of_ext (by assumption)⟩
    · have hO0 : ((O : Int) == 0) = false := by simp [h2]
      have hT : Hid (tells g s x = true) := tells_iff.2 ⟨by rw [← HI.out]; exact h1, fun e => h2 (HO.out.trans (qOut_zero.2 e))⟩
      have hT' := tells_iff.1 hT.out
      have l1 : I < s := by rw [HI.out]; exact qIn_lt hT'.2
      have l2 : O < s := by rw [HO.out]; exact qOut_lt hT'.1
      go_enter Tryz.func179, Tryz.ntmps179
      go_wp2_with fail
      refine HC.out.mono ?_
      rintro e w1 ⟨rfl, x1⟩
      have A1 := Lib.hid (HA.out.next x1); have U1 := Lib.hid (Upd.of_ext (b := b) x1); clear x1
      go_wp2_with fail
      refine (HIH.out I _ l1 h1 A1.out).mono ?_
      rintro e w2 ⟨rfl, a2, u2⟩
      have A2 := Lib.hid a2; have U2 := Lib.hid (U1.out.trans u2); clear a2 u2
      go_wp2_with fail
      refine (HIH.out O _ l2 h2 A2.out).mono ?_
      rintro e w3 ⟨rfl, a3, u3⟩
      have HR : Hid (aft g s x = max (never (dep g I)) (never (dep g O))) := by
        unfold Hid aft
        rw [hT.out, if_pos rfl, ← HO.out, ← HI.out]
      go_wp2
      all_goals
        go_ret
        exact ⟨ret_int (by rw [HR.out]; omega), a3, U2.out.trans u3⟩

set_option maxRecDepth 100000 in
set_option maxHeartbeats 2000000 in
theorem depth_of (hv : Rd w0 v g) (hg : IsGraph g) (hb : w0.heap.size ≤ b) : ∀ (n s : Nat) (w : World), s ≤ n → s ≤ 4095 → s ≠ 0 → AskOk w0 b v g w →
    Calls Tryz.prog 141 #[.pointer (some ⟨b + 1, 0, none⟩), .int .i64 s] w fun e w' => e = .returned (.int .i64 (never (dep g s) : Nat)) ∧ AskOk w0 b v g w' ∧ Upd b w w' := by
  intro n
  induction n with
  | zero => intro s w h _ h0; omega
  | succ n ih =>
    intro s w hn hs h0 ha
    have hl := hg.le
    obtain ⟨a, c, rfl⟩ := hv.form
    have HA := Lib.hid ha
    have HS := Lib.hid (sizeC s hs)
    have HAF := Lib.hid fun x (hx : x < g.length) => after_of hv hg hb s x hs hx (fun t w ht h0 ha => ih t w (by omega) (by omega) h0 ha)
    have HD : Hid (dep g s = 0 ↔ cnt s = 1) := dep_pos hs h0
    have HM : Hid (band s (s - 1) = 0 ↔ cnt s ≤ 1) := one_iff hs
    have HG := Lib.hid hg
    have hz := mt (cnt_zero hs).1 h0
    clear ih hg
    by_cases h1 : cnt s = 1
    · have hc1 : ((cnt s : Int) == 1) = true := by simp [h1]
      go_enter Tryz.func141, Tryz.ntmps141
      go_wp2_with (go_at_call 65; refine (HS.out _).mono ?_; rintro e w' ⟨rfl, rfl⟩)
      go_ret
      exact ⟨ret_int (by rw [HD.out.2 h1]; rfl), HA.out, Upd.refl _ _⟩
    · have hc1 : ((cnt s : Int) == 1) = false := by simp; omega
      obtain ⟨f, hm, hf⟩ := ha.map
      have HL := Lib.hid (hm.lookup2 Tryz.underlying130 (show (zeroValue 3).run Tryz.prog w = .ok (.int .i64 0) w from rfl) s)
      have HMP := Lib.hid hm
      have c0 := ha.graph
      have c1 := ha.known
      cases hfs : f s with
      | some u =>
        obtain ⟨s', hs', hu⟩ := hf _ _ hfs
        have hs'' : s' = s := by omega
        subst hs'' hu
        have hlk := HL.out
        rw [hfs] at hlk
        simp only [Option.getD_some, Option.isSome_some] at hlk
        clear ha hm hf hfs
        go_enter Tryz.func141, Tryz.ntmps141
        go_wp2_with (go_at_call 65; refine (HS.out _).mono ?_; rintro e w' ⟨rfl, rfl⟩)
        go_ret
        exact ⟨rfl, HA.out, Upd.refl _ _⟩
      | none =>
        have hlk := HL.out
        rw [hfs] at hlk
        simp only [Option.getD_none, Option.isSome_none] at hlk
        clear ha hm hf hfs
        have HMO : Hid (dep g s = depTo g s g.length) := dep_more (mt HM.out.1 (by omega))
        go_enter Tryz.func141, Tryz.ntmps141
        go_wp2_with (go_at_call 65; refine (HS.out _).mono ?_; rintro e w' ⟨rfl, rfl⟩)
        clear hlk c0 c1
        go_loopw [7, 29] (fun d i wr => ∃ k D : Nat, k ≤ g.length ∧ i = .int .i64 k ∧ d = .int .i64 D ∧ Hid (D = never (depTo g s k)) ∧ Hid (D ≤ 1048576) ∧ Hid (AskOk w0 b (.slice a g.length c) g wr) ∧ Hid (Upd b w wr)) (fun _ i _ => g.length - (intOf i).toNat)
        case atStart => exact ⟨0, 1048576, Nat.zero_le _, rfl, rfl, rfl, Nat.le_refl _, HA.out, Upd.refl _ _⟩
        case round =>
          obtain ⟨k, D, hk, rfl, rfl, HDD, HD1, HAR, HU⟩ := hrel
          by_cases hlt : k < g.length
          · have HK := Lib.hid (HAF.out k hlt wr HAR.out)
            by_cases ha : aft g s k < 1048576
            · have HN := Lib.hid (never_min (x := k) hs ha)
              have hA11 := (aft_some hs ha).2
              obtain ⟨A, hA⟩ : ∃ A, A = aft g s k := ⟨_, rfl⟩
              rw [← hA] at ha HN HK hA11
              have hAt : decide ((A : Int) < 1048576) = true := by simp; omega
              clear hA ha
              go_wp2_with fail
              refine HK.out.mono ?_
              rintro e w1 ⟨rfl, a1, u1⟩
              have A1 := Lib.hid a1; have U1 := Lib.hid (HU.out.trans u1); clear a1 u1
              go_wp2
              all_goals
                go_roundw
                case rel => exact ⟨k + 1, min D (A + 1), by omega, by go_num, congrArg (Value.int .i64) (by omega), (congrArg (fun z => min z (A + 1)) HDD.out).trans HN.out.symm, by have := HD1.out; unfold Hid; omega, A1.out, U1.out⟩
                case measure => simp [intOf]; omega
            · have HN := Lib.hid (never_keep (x := k) hs ha)
              obtain ⟨A, hA⟩ : ∃ A, A = aft g s k := ⟨_, rfl⟩
              rw [← hA] at ha HK
              have hAt : decide ((A : Int) < 1048576) = false := by simp; omega
              clear hA ha
              go_wp2_with fail
              refine HK.out.mono ?_
              rintro e w1 ⟨rfl, a1, u1⟩
              have A1 := Lib.hid a1; have U1 := Lib.hid (HU.out.trans u1); clear a1 u1
              go_wp2
              go_roundw
              case rel => exact ⟨k + 1, D, by omega, by go_num, rfl, HDD.out.trans HN.out.symm, HD1, A1.out, U1.out⟩
              case measure => simp [intOf]; omega
          · obtain rfl : k = g.length := by omega
            have ho := HAR.out
            obtain ⟨f2, hm2, hf2⟩ := ho.map
            have c0 := ho.known
            have hsz := ho.size
            obtain ⟨W, hu, m4, hx4, hs4, ho4⟩ := hm2.update Tryz.underlying130 s (.int .i64 D)
            have HO := Lib.hid ho; have M4 := Lib.hid m4; have HX4 := Lib.hid hx4; have HS4 := Lib.hid hs4; have HO4 := Lib.hid ho4; have HF2 := Lib.hid hf2
            clear ho hm2 m4 hx4 hs4 ho4 hf2
            go_wp2
            go_ret
            have UW : Upd b wr W := by
              have hx := HX4.out w0 HO.out.ext hb
              have hy := HO.out.ext
              exact ⟨hx.os.trans hy.os.symm, hx.tape.trans hy.tape.symm, hx.output.trans hy.output.symm, by rw [HS4.out]; exact Nat.le_refl _, fun i _ hne => HO4.out i hne⟩
            refine ⟨ret_int (by rw [HMO.out, ← HDD.out]), ⟨⟨_, M4.out, fun k' u' h => ?_⟩, (UW.cell hsz (by omega)).trans HO.out.graph, (UW.cell hsz (by omega)).trans HO.out.known, by rw [HS4.out]; exact hsz, HO.out.ext.upd hb UW⟩, HU.out.trans UW⟩
            unfold put at h
            split at h
            · rename_i e
              cases h
              exact ⟨s, e, by rw [HMO.out, ← HDD.out]⟩
            · exact HF2.out _ _ h
end
end Go.Proofs.YtkmfmhckpfomeaaGreatDoor
