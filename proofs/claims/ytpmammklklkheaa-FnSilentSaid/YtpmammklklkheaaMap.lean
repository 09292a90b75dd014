/- A map with integers for keys, made by the call: what a lookup answers, what an assignment leaves. No condition. -/
import Derived.Test.YtpmammklklkheaaA2
import Derived.MapKept
import Derived.Carry
namespace Go.Proofs.Ytpmammklklkheaa
open Go.RowKit Go.MapKept

structure MapFor (es : Array MapEntry) (f : Int → Option Value) : Prop where
  key : ∀ (i : Nat) (x : MapEntry), es[i]? = some x → ∃ k : Int, x.key = .int .i64 k ∧ f k = some x.val
  has : ∀ k v, f k = some v → ∃ (i : Nat) (x : MapEntry), es[i]? = some x ∧ x.key = .int .i64 k
  one : ∀ (i j : Nat) (x y : MapEntry), es[i]? = some x → es[j]? = some y → x.key = y.key → i = j
/-- Block b is a map with integers for keys: f says what stands at each. -/
def IntMap (w : World) (b : Nat) (f : Int → Option Value) : Prop := ∃ es clock, w.heap[b]? = some (.map es clock) ∧ MapFor es f
def put (f : Int → Option Value) (k : Int) (v : Value) : Int → Option Value := fun x => if x = k then some v else f x
theorem IntMap.lt {w : World} {b : Nat} {f : Int → Option Value} (h : IntMap w b f) : b < w.heap.size := by
  obtain ⟨es, clock, hb, _⟩ := h
  exact (Array.getElem?_eq_some_iff.1 hb).1
theorem IntMap.ext {w w' : World} {b : Nat} {f : Int → Option Value} (h : IntMap w b f) (hx : Ext w w') : IntMap w' b f := by
  have hl := h.lt
  obtain ⟨es, clock, hb, hf⟩ := h
  exact ⟨es, clock, (hx.block hl).trans hb, hf⟩
theorem IntMap.empty (w : World) : IntMap (w.alloc (.map #[] 0)) w.heap.size fun _ => none :=
  ⟨_, _, World.alloc_heap_new w _, ⟨fun i x h => by simp at h, fun k v h => (by cases h), fun i j x y h => by simp at h⟩⟩
theorem isKey_int (k : Int) : IsKey (.int .i64) (.int .i64 k) := by simp [IsKey]
theorem MapFor.keys {es : Array MapEntry} {f : Int → Option Value} (h : MapFor es f) : ∀ x ∈ es.toList, IsKey (.int .i64) x.key := by
  intro x hx
  obtain ⟨i, hi, rfl⟩ := List.getElem_of_mem hx
  obtain ⟨k, hk, _⟩ := h.key i es.toList[i] (by simp at hi ⊢)
  rw [hk]; exact isKey_int k
theorem MapFor.find {es : Array MapEntry} {f : Int → Option Value} (h : MapFor es f) (k : Int) :
    (Instr.findNow (.int .i64) (.int .i64 k) es.toList 0 = some none ∧ f k = none ∧ ∀ (i : Nat) (x : MapEntry), es[i]? = some x → x.key ≠ .int .i64 k) ∨
    ∃ (j : Nat) (e : MapEntry), Instr.findNow (.int .i64) (.int .i64 k) es.toList 0 = some (some (j, e.val)) ∧ es[j]? = some e ∧ e.key = .int .i64 k ∧ f k = some e.val := by
  rcases findNow_spec (isKey_int k) es.toList 0 h.keys with ⟨h1, h2⟩ | ⟨j, e, h1, h2, h3⟩
  · have h2' : ∀ (i : Nat) (x : MapEntry), es[i]? = some x → x.key ≠ .int .i64 k := fun i x hx => h2 x (by have := Array.mem_of_getElem? hx; simpa using this)
    refine .inl ⟨h1, ?_, h2'⟩
    cases hf : f k with
    | none => rfl
    | some v =>
      obtain ⟨i, x, hx, hk⟩ := h.has k v hf
      exact absurd hk (h2' i x hx)
  · have hj : es[j]? = some e := by simpa using h2
    refine .inr ⟨j, e, by simpa using h1, hj, h3, ?_⟩
    obtain ⟨k', hk', hf⟩ := h.key j e hj
    rw [h3] at hk'
    obtain rfl : k = k' := by simpa using hk'
    exact hf

theorem IntMap.lookup {w : World} {b : Nat} {f : Int → Option Value} {t e : TypeId} {z : Value} (ht : Try.prog.underlying t = some (.map 3 e)) (hz : (zeroValue e).run Try.prog w = .ok z w) (h : IntMap w b f) (k : Int) :
    (Instr.lookup t (.map (some b)) (.int .i64 k) false).run Try.prog w = .ok ((f k).getD z) w := by
  obtain ⟨es, clock, hb, hf⟩ := h
  rcases hf.find k with ⟨h1, h2, _⟩ | ⟨j, e0, h1, _, _, h4⟩
  · rw [h2]
    simp [Instr.lookup, run_underlying ht, Go.MapKept.run_getObj_map hb, run_checkKey Try.underlying3 (isKey_int k), run_findKey Try.underlying3 h1, hz, Result.andThen]
  · rw [h4]
    simp [Instr.lookup, run_underlying ht, Go.MapKept.run_getObj_map hb, run_checkKey Try.underlying3 (isKey_int k), run_findKey Try.underlying3 h1, Result.andThen]
theorem IntMap.lookup2 {w : World} {b : Nat} {f : Int → Option Value} {t e : TypeId} {z : Value} (ht : Try.prog.underlying t = some (.map 3 e)) (hz : (zeroValue e).run Try.prog w = .ok z w) (h : IntMap w b f) (k : Int) :
    (Instr.lookup t (.map (some b)) (.int .i64 k) true).run Try.prog w = .ok (.tuple #[(f k).getD z, .bool (f k).isSome]) w := by
  obtain ⟨es, clock, hb, hf⟩ := h
  rcases hf.find k with ⟨h1, h2, _⟩ | ⟨j, e0, h1, _, _, h4⟩
  · rw [h2]
    simp [Instr.lookup, run_underlying ht, Go.MapKept.run_getObj_map hb, run_checkKey Try.underlying3 (isKey_int k), run_findKey Try.underlying3 h1, hz, Result.andThen]
  · rw [h4]
    simp [Instr.lookup, run_underlying ht, Go.MapKept.run_getObj_map hb, run_checkKey Try.underlying3 (isKey_int k), run_findKey Try.underlying3 h1, Result.andThen]

theorem IntMap.update {w : World} {b : Nat} {f : Int → Option Value} {t e : TypeId} (ht : Try.prog.underlying t = some (.map 3 e)) (h : IntMap w b f) (k : Int) (v : Value) :
    ∃ w', (Instr.mapUpdate t (.map (some b)) (.int .i64 k) v).run Try.prog w = .ok () w' ∧ IntMap w' b (put f k v) ∧ (∀ W, Ext W w → W.heap.size ≤ b → Ext W w') ∧ w'.heap.size = w.heap.size ∧ ∀ i, i ≠ b → w'.heap[i]? = w.heap[i]? := by
  obtain ⟨es, clock, hb, hf⟩ := h
  have hx : ∀ o : Obj, ∀ W, Ext W w → W.heap.size ≤ b → Ext W { w with heap := w.heap.setIfInBounds b o } := fun o W hx hW =>
    ⟨hx.os, hx.tape, hx.output, by have := hx.size; simpa using this, fun i hi => by
      have := hx.block hi
      simp only
      rw [Array.getElem?_setIfInBounds_ne (by omega)]
      exact this⟩
  rcases hf.find k with ⟨h1, h2, h3⟩ | ⟨j, e0, h1, h2, h3, h4⟩
  · refine ⟨{ w with heap := w.heap.setIfInBounds b (.map (es.push { key := .int .i64 k, val := v, born := clock }) (clock + 1)) }, ?_, ⟨_, _, (heap_set hb).1, ?_, ?_, ?_⟩, hx _, by simp, (heap_set hb).2⟩
    · simp [Instr.mapUpdate, run_underlying ht, Go.MapKept.run_getObj_map hb, run_checkKey Try.underlying3 (isKey_int k), run_findKey Try.underlying3 h1, Go.MapKept.run_setObj_map _ hb, Result.andThen]
    · intro i x hx
      rw [Array.getElem?_push] at hx
      split at hx
      · cases hx; exact ⟨k, rfl, by simp [put]⟩
      · obtain ⟨k', hk', hf'⟩ := hf.key i x hx
        refine ⟨k', hk', ?_⟩
        unfold put
        rw [if_neg]
        · exact hf'
        · rintro rfl; exact h3 i x hx hk'
    · intro k' v' h'
      unfold put at h'
      by_cases e : k' = k
      · subst e
        exact ⟨es.size, { key := .int .i64 k', val := v, born := clock }, by simp, rfl⟩
      · rw [if_neg e] at h'
        obtain ⟨i, x, hx, hk⟩ := hf.has k' v' h'
        refine ⟨i, x, ?_, hk⟩
        have hi := (Array.getElem?_eq_some_iff.1 hx).1
        rw [Array.getElem?_push, if_neg (by omega)]
        exact hx
    · intro i i' x y hx hy hk
      rw [Array.getElem?_push] at hx hy
      split at hx <;> split at hy
      · omega
      · cases hx; exact absurd hk.symm (h3 _ _ hy)
      · cases hy; exact absurd hk (h3 _ _ hx)
      · exact hf.one i i' x y hx hy hk
  · have hmod : ∀ (i : Nat) (x : MapEntry), (es.modify j fun e => { e with key := .int .i64 k, val := v })[i]? = some x → (i = j ∧ x.key = .int .i64 k ∧ x.val = v) ∨ (i ≠ j ∧ es[i]? = some x) := by
      intro i x hx
      rw [Array.getElem?_modify] at hx
      split at hx
      · rename_i h
        subst h
        rw [h2] at hx
        simp only [Option.map_some, Option.some.injEq] at hx
        subst hx
        exact .inl ⟨rfl, rfl, rfl⟩
      · rename_i h
        exact .inr ⟨fun e => h e.symm, hx⟩
    have hmod' : ∀ (i : Nat) (x : MapEntry), es[i]? = some x → ∃ y : MapEntry, (es.modify j fun e => { e with key := .int .i64 k, val := v })[i]? = some y ∧ y.key = x.key := by
      intro i x hx
      rw [Array.getElem?_modify]
      split
      · rename_i h
        subst h
        rw [h2] at hx ⊢
        cases hx
        exact ⟨_, rfl, h3.symm⟩
      · exact ⟨x, hx, rfl⟩
    refine ⟨{ w with heap := w.heap.setIfInBounds b (.map (es.modify j fun e => { e with key := .int .i64 k, val := v }) clock) }, ?_, ⟨_, _, (heap_set hb).1, ?_, ?_, ?_⟩, hx _, by simp, (heap_set hb).2⟩
    · simp [Instr.mapUpdate, run_underlying ht, Go.MapKept.run_getObj_map hb, run_checkKey Try.underlying3 (isKey_int k), run_findKey Try.underlying3 h1, h2, h3, run_keyThatStays (isKey_int k), Go.MapKept.run_setObj_map _ hb, Result.andThen]
    · intro i x hx
      rcases hmod i x hx with ⟨rfl, hk, hv⟩ | ⟨hne, hx2⟩
      · exact ⟨k, hk, by rw [hv]; simp [put]⟩
      · obtain ⟨k', hk', hf'⟩ := hf.key i x hx2
        refine ⟨k', hk', ?_⟩
        unfold put
        rw [if_neg]
        · exact hf'
        · rintro rfl; exact hne (hf.one i j x e0 hx2 h2 (hk'.trans h3.symm))
    · intro k' v' h'
      unfold put at h'
      by_cases e : k' = k
      · subst e
        obtain ⟨y, hy, hk⟩ := hmod' j e0 h2
        exact ⟨j, y, hy, hk.trans h3⟩
      · rw [if_neg e] at h'
        obtain ⟨i, x, hx, hk⟩ := hf.has k' v' h'
        obtain ⟨y, hy, hk'⟩ := hmod' i x hx
        exact ⟨i, y, hy, hk'.trans hk⟩
    · intro i i' x y hx hy hk
      rcases hmod i x hx with ⟨e1, hk1, -⟩ | ⟨-, hx2⟩ <;> rcases hmod i' y hy with ⟨e2, hk2, -⟩ | ⟨-, hy2⟩
      · rw [e1, e2]
      · rw [e1]; exact hf.one _ _ _ _ h2 hy2 (h3.trans (hk1.symm.trans hk))
      · rw [e2]; exact hf.one _ _ _ _ hx2 h2 (hk.trans (hk2.trans h3.symm))
      · exact hf.one _ _ _ _ hx2 hy2 hk
end Go.Proofs.Ytpmammklklkheaa
