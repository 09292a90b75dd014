/- What the walks of this seat rest on, one part: plain facts, and contracts of the functions that they reach. Each states its own condition. -/
import Derived.Test.YtkmfmhckpfomeaaGreatDoorB3
import Derived.Test.YtkmfmhckpfomeaaGreatDoorB1
import Derived.MapKept
import Derived.Carry
import Derived.Test.YtkmfmhckpfomeaaGreatDoorB25
import Derived.Test.YtkmfmhckpfomeaaGreatDoorB6
import Derived.Laws.EntriesVeiled
import Derived.Test.YtkmfmhckpfomeaaGreatDoorB24
import Derived.Shelf.RegionOpenPlain
import Derived.Lib.Strings
import Derived.Lib.Builder
import Derived.Lib.UnsafeStr
import Derived.Laws.Externs
set_option linter.all false
set_option linter.unusedSimpArgs false
set_option linter.unusedVariables false
/- A map with strings for keys, made by the call: what a lookup answers, what an assignment leaves. No condition. -/
namespace Go.Proofs.YtkmfmhckpfomeaaGreatDoor
open Go.RowKit Go.MapKept

structure SMapFor (es : Array MapEntry) (f : ByteArray → Option Value) : Prop where
  key : ∀ (i : Nat) (x : MapEntry), es[i]? = some x → ∃ k : ByteArray, x.key = .string k ∧ f k = some x.val
  has : ∀ k v, f k = some v → ∃ (i : Nat) (x : MapEntry), es[i]? = some x ∧ x.key = .string k
  one : ∀ (i j : Nat) (x y : MapEntry), es[i]? = some x → es[j]? = some y → x.key = y.key → i = j
/-- Block b is a map with integers for keys: f says what stands at each. -/
def StrMap (w : World) (b : Nat) (f : ByteArray → Option Value) : Prop := ∃ es clock, w.heap[b]? = some (.map es clock) ∧ SMapFor es f
def putS (f : ByteArray → Option Value) (k : ByteArray) (v : Value) : ByteArray → Option Value := fun x => if x = k then some v else f x
theorem StrMap.lt {w : World} {b : Nat} {f : ByteArray → Option Value} (h : StrMap w b f) : b < w.heap.size := by
  obtain ⟨es, clock, hb, _⟩ := h
  exact (Array.getElem?_eq_some_iff.1 hb).1
theorem StrMap.ext {w w' : World} {b : Nat} {f : ByteArray → Option Value} (h : StrMap w b f) (hx : Ext w w') : StrMap w' b f := by
  have hl := h.lt
  obtain ⟨es, clock, hb, hf⟩ := h
  exact ⟨es, clock, (hx.block hl).trans hb, hf⟩
theorem StrMap.empty (w : World) : StrMap (w.alloc (.map #[] 0)) w.heap.size fun _ => none :=
  ⟨_, _, World.alloc_heap_new w _, ⟨fun i x h => by simp at h, fun k v h => (by cases h), fun i j x y h => by simp at h⟩⟩
theorem isKey_str (k : ByteArray) : IsKey .string (.string k) := by simp [IsKey]
theorem SMapFor.keys {es : Array MapEntry} {f : ByteArray → Option Value} (h : SMapFor es f) : ∀ x ∈ es.toList, IsKey .string x.key := by
  intro x hx
  obtain ⟨i, hi, rfl⟩ := List.getElem_of_mem hx
  obtain ⟨k, hk, _⟩ := h.key i es.toList[i] (by simp at hi ⊢)
  rw [hk]; exact isKey_str k
theorem SMapFor.find {es : Array MapEntry} {f : ByteArray → Option Value} (h : SMapFor es f) (k : ByteArray) :
    (Instr.findNow .string (.string k) es.toList 0 = some none ∧ f k = none ∧ ∀ (i : Nat) (x : MapEntry), es[i]? = some x → x.key ≠ .string k) ∨
    ∃ (j : Nat) (e : MapEntry), Instr.findNow .string (.string k) es.toList 0 = some (some (j, e.val)) ∧ es[j]? = some e ∧ e.key = .string k ∧ f k = some e.val := by
  rcases findNow_spec (isKey_str k) es.toList 0 h.keys with ⟨h1, h2⟩ | ⟨j, e, h1, h2, h3⟩
  · have h2' : ∀ (i : Nat) (x : MapEntry), es[i]? = some x → x.key ≠ .string k := fun i x hx => h2 x (by have := Array.mem_of_getElem? hx; simpa using this)
    refine .inl ⟨h1, ?_, h2'⟩
    cases hf : f k with
    | none => rfl
    | some v =>
      obtain ⟨i, x, hx, hk⟩ := h.has k v hf
      exact absurd hk (h2' i x hx)
  · have hj : es[j]? = some e := by simpa using h2
    refine .inr ⟨j, e, by simpa using h1, hj, h3, ?_⟩
    obtain ⟨k', hk', hf⟩ := h.key j e hj
    rw [h3] at hk'
    obtain rfl : k = k' := by simpa using hk'
    exact hf

theorem StrMap.lookup {w : World} {b : Nat} {f : ByteArray → Option Value} {t e : TypeId} {z : Value} (ht : Tryz.prog.underlying t = some (.map 9 e)) (hz : (zeroValue e).run Tryz.prog w = .ok z w) (h : StrMap w b f) (k : ByteArray) :
    (Instr.lookup t (.map (some b)) (.string k) false).run Tryz.prog w = .ok ((f k).getD z) w := by
  obtain ⟨es, clock, hb, hf⟩ := h
  rcases hf.find k with ⟨h1, h2, _⟩ | ⟨j, e0, h1, _, _, h4⟩
  · rw [h2]
    simp [Instr.lookup, run_underlying ht, Go.MapKept.run_getObj_map hb, run_checkKey Tryz.underlying9 (isKey_str k), run_findKey Tryz.underlying9 h1, hz, Result.andThen]
  · rw [h4]
    simp [Instr.lookup, run_underlying ht, Go.MapKept.run_getObj_map hb, run_checkKey Tryz.underlying9 (isKey_str k), run_findKey Tryz.underlying9 h1, Result.andThen]
theorem StrMap.lookup2 {w : World} {b : Nat} {f : ByteArray → Option Value} {t e : TypeId} {z : Value} (ht : Tryz.prog.underlying t = some (.map 9 e)) (hz : (zeroValue e).run Tryz.prog w = .ok z w) (h : StrMap w b f) (k : ByteArray) :
    (Instr.lookup t (.map (some b)) (.string k) true).run Tryz.prog w = .ok (.tuple #[(f k).getD z, .bool (f k).isSome]) w := by
  obtain ⟨es, clock, hb, hf⟩ := h
  rcases hf.find k with ⟨h1, h2, _⟩ | ⟨j, e0, h1, _, _, h4⟩
  · rw [h2]
    simp [Instr.lookup, run_underlying ht, Go.MapKept.run_getObj_map hb, run_checkKey Tryz.underlying9 (isKey_str k), run_findKey Tryz.underlying9 h1, hz, Result.andThen]
  · rw [h4]
    simp [Instr.lookup, run_underlying ht, Go.MapKept.run_getObj_map hb, run_checkKey Tryz.underlying9 (isKey_str k), run_findKey Tryz.underlying9 h1, Result.andThen]

theorem StrMap.update {w : World} {b : Nat} {f : ByteArray → Option Value} {t e : TypeId} (ht : Tryz.prog.underlying t = some (.map 9 e)) (h : StrMap w b f) (k : ByteArray) (v : Value) :
    ∃ w', (Instr.mapUpdate t (.map (some b)) (.string k) v).run Tryz.prog w = .ok () w' ∧ StrMap w' b (putS f k v) ∧ (∀ W, Ext W w → W.heap.size ≤ b → Ext W w') ∧ w'.heap.size = w.heap.size ∧ ∀ i, i ≠ b → w'.heap[i]? = w.heap[i]? := by
  obtain ⟨es, clock, hb, hf⟩ := h
  have hx : ∀ o : Obj, ∀ W, Ext W w → W.heap.size ≤ b → Ext W { w with heap := w.heap.setIfInBounds b o } := fun o W hx hW =>
    ⟨hx.os, hx.tape, hx.output, by have := hx.size; simpa using this, fun i hi => by
      have := hx.block hi
      simp only
      rw [Array.getElem?_setIfInBounds_ne (by omega)]
      exact this⟩
  rcases hf.find k with ⟨h1, h2, h3⟩ | ⟨j, e0, h1, h2, h3, h4⟩
  · refine ⟨{ w with heap := w.heap.setIfInBounds b (.map (es.push { key := .string k, val := v, born := clock }) (clock + 1)) }, ?_, ⟨_, _, (heap_set hb).1, ?_, ?_, ?_⟩, hx _, by simp, (heap_set hb).2⟩
    · simp [Instr.mapUpdate, run_underlying ht, Go.MapKept.run_getObj_map hb, run_checkKey Tryz.underlying9 (isKey_str k), run_findKey Tryz.underlying9 h1, Go.MapKept.run_setObj_map _ hb, Result.andThen]
    · intro i x hx
      rw [Array.getElem?_push] at hx
      split at hx
      · cases hx; exact ⟨k, rfl, by simp [putS]⟩
      · obtain ⟨k', hk', hf'⟩ := hf.key i x hx
        refine ⟨k', hk', ?_⟩
        unfold putS
        rw [if_neg]
        · exact hf'
        · rintro rfl; exact h3 i x hx hk'
    · intro k' v' h'
      unfold putS at h'
      by_cases e : k' = k
      · subst e
        exact ⟨es.size, { key := .string k', val := v, born := clock }, by simp, rfl⟩
      · rw [if_neg e] at h'
        obtain ⟨i, x, hx, hk⟩ := hf.has k' v' h'
        refine ⟨i, x, ?_, hk⟩
        have hi := (Array.getElem?_eq_some_iff.1 hx).1
        rw [Array.getElem?_push, if_neg (by omega)]
        exact hx
    · intro i i' x y hx hy hk
      rw [Array.getElem?_push] at hx hy
      split at hx <;> split at hy
      · omega
      · cases hx; exact absurd hk.symm (h3 _ _ hy)
      · cases hy; exact absurd hk (h3 _ _ hx)
      · exact hf.one i i' x y hx hy hk
  · have hmod : ∀ (i : Nat) (x : MapEntry), (es.modify j fun e => { e with key := .string k, val := v })[i]? = some x → (i = j ∧ x.key = .string k ∧ x.val = v) ∨ (i ≠ j ∧ es[i]? = some x) := by
      intro i x hx
      rw [Array.getElem?_modify] at hx
      split at hx
      · rename_i h
        subst h
        rw [h2] at hx
        simp only [Option.map_some, Option.some.injEq] at hx
        subst hx
        exact .inl ⟨rfl, rfl, rfl⟩
      · rename_i h
        exact .inr ⟨fun e => h e.symm, hx⟩
    have hmod' : ∀ (i : Nat) (x : MapEntry), es[i]? = some x → ∃ y : MapEntry, (es.modify j fun e => { e with key := .string k, val := v })[i]? = some y ∧ y.key = x.key := by
      intro i x hx
      rw [Array.getElem?_modify]
      split
      · rename_i h
        subst h
        rw [h2] at hx ⊢
        cases hx
        exact ⟨_, rfl, h3.symm⟩
      · exact ⟨x, hx, rfl⟩
    refine ⟨{ w with heap := w.heap.setIfInBounds b (.map (es.modify j fun e => { e with key := .string k, val := v }) clock) }, ?_, ⟨_, _, (heap_set hb).1, ?_, ?_, ?_⟩, hx _, by simp, (heap_set hb).2⟩
    · simp [Instr.mapUpdate, run_underlying ht, Go.MapKept.run_getObj_map hb, run_checkKey Tryz.underlying9 (isKey_str k), run_findKey Tryz.underlying9 h1, h2, h3, run_keyThatStays (isKey_str k), Go.MapKept.run_setObj_map _ hb, Result.andThen]
    · intro i x hx
      rcases hmod i x hx with ⟨rfl, hk, hv⟩ | ⟨hne, hx2⟩
      · exact ⟨k, hk, by rw [hv]; simp [putS]⟩
      · obtain ⟨k', hk', hf'⟩ := hf.key i x hx2
        refine ⟨k', hk', ?_⟩
        unfold putS
        rw [if_neg]
        · exact hf'
        · rintro rfl; exact hne (hf.one i j x e0 hx2 h2 (hk'.trans h3.symm))
    · intro k' v' h'
      unfold putS at h'
      by_cases e : k' = k
      · subst e
        obtain ⟨y, hy, hk⟩ := hmod' j e0 h2
        exact ⟨j, y, hy, hk.trans h3⟩
      · rw [if_neg e] at h'
        obtain ⟨i, x, hx, hk⟩ := hf.has k' v' h'
        obtain ⟨y, hy, hk'⟩ := hmod' i x hx
        exact ⟨i, y, hy, hk'.trans hk⟩
    · intro i i' x y hx hy hk
      rcases hmod i x hx with ⟨e1, hk1, -⟩ | ⟨-, hx2⟩ <;> rcases hmod i' y hy with ⟨e2, hk2, -⟩ | ⟨-, hy2⟩
      · rw [e1, e2]
      · rw [e1]; exact hf.one _ _ _ _ h2 hy2 (h3.trans (hk1.symm.trans hk))
      · rw [e2]; exact hf.one _ _ _ _ hx2 h2 (hk.trans (hk2.trans h3.symm))
      · exact hf.one _ _ _ _ hx2 hy2 hk
end Go.Proofs.YtkmfmhckpfomeaaGreatDoor

/- The table of the commands: what impl.commands makes. No condition. -/
namespace Go.Proofs.YtkmfmhckpfomeaaGreatDoor
open Go.RowKit
open BigFrame
attribute [local go_sem] Oper.semAt_some

def cmdV (n : Int) (f : Nat) : Value := .agg #[.int .i64 n, .func (.func f) #[] #[]]

def cmdF1 : ByteArray → Option Value := putS (fun _ => none) ⟨#[103, 114, 97, 112, 104]⟩ (cmdV (2) 75)
def cmdF2 : ByteArray → Option Value := putS cmdF1 ⟨#[101, 100, 103, 101]⟩ (cmdV (2) 77)
def cmdF3 : ByteArray → Option Value := putS cmdF2 ⟨#[111, 116, 104, 101, 114]⟩ (cmdV (-1) 80)
def cmdF4 : ByteArray → Option Value := putS cmdF3 ⟨#[99, 111, 100, 101]⟩ (cmdV (1) 82)
def cmdF5 : ByteArray → Option Value := putS cmdF4 ⟨#[108, 101, 97, 115, 116]⟩ (cmdV (1) 84)
def cmdF6 : ByteArray → Option Value := putS cmdF5 ⟨#[116, 104, 105, 110]⟩ (cmdV (1) 85)
def cmdF7 : ByteArray → Option Value := putS cmdF6 ⟨#[115, 104, 111, 119]⟩ (cmdV (-1) 87)
def cmdF8 : ByteArray → Option Value := putS cmdF7 ⟨#[115, 101, 116]⟩ (cmdV (-1) 89)
def cmdF9 : ByteArray → Option Value := putS cmdF8 ⟨#[109, 97, 114, 107, 115]⟩ (cmdV (-1) 91)
def cmdF10 : ByteArray → Option Value := putS cmdF9 ⟨#[105, 110]⟩ (cmdV (1) 93)
def cmdF11 : ByteArray → Option Value := putS cmdF10 ⟨#[116, 114, 101, 101]⟩ (cmdV (-1) 96)
def cmdF12 : ByteArray → Option Value := putS cmdF11 ⟨#[109, 111, 115, 116]⟩ (cmdV (-1) 98)
def cmdF13 : ByteArray → Option Value := putS cmdF12 ⟨#[97, 108, 97, 114, 109]⟩ (cmdV (2) 100)
def cmdF14 : ByteArray → Option Value := putS cmdF13 ⟨#[100, 101, 112, 116, 104]⟩ (cmdV (-1) 102)
def cmdF15 : ByteArray → Option Value := putS cmdF14 ⟨#[112, 108, 97, 121]⟩ (cmdV (1) 104)
def cmdF16 : ByteArray → Option Value := putS cmdF15 ⟨#[116, 101, 108, 108, 115]⟩ (cmdV (1) 106)

set_option maxRecDepth 100000 in
set_option maxHeartbeats 4000000 in
theorem commands_c (w : World) : Calls Tryz.prog 51 #[] w fun e w' => ∃ b, e = .returned (.map (some b)) ∧ StrMap w' b cmdF16 ∧ Ext w w' := by
  have hmk : ∀ w : World, (Instr.makeMap 85 none).run Tryz.prog w = .ok (.map (some w.heap.size)) (w.alloc (.map #[] 0)) := fun w => rfl
  have m0 : StrMap (w.alloc (.map #[] 0)) w.heap.size (fun _ => none) := StrMap.empty w
  have x0 : Ext w (w.alloc (.map #[] 0)) := (Ext.refl w).alloc _
  obtain ⟨W1, u1, m1, e1, -, -⟩ := m0.update Tryz.underlying85 ⟨#[103, 114, 97, 112, 104]⟩ (cmdV (2) 75)
  have x1 := e1 w x0 (Nat.le_refl _)
  obtain ⟨W2, u2, m2, e2, -, -⟩ := m1.update Tryz.underlying85 ⟨#[101, 100, 103, 101]⟩ (cmdV (2) 77)
  have x2 := e2 w x1 (Nat.le_refl _)
  obtain ⟨W3, u3, m3, e3, -, -⟩ := m2.update Tryz.underlying85 ⟨#[111, 116, 104, 101, 114]⟩ (cmdV (-1) 80)
  have x3 := e3 w x2 (Nat.le_refl _)
  obtain ⟨W4, u4, m4, e4, -, -⟩ := m3.update Tryz.underlying85 ⟨#[99, 111, 100, 101]⟩ (cmdV (1) 82)
  have x4 := e4 w x3 (Nat.le_refl _)
  obtain ⟨W5, u5, m5, e5, -, -⟩ := m4.update Tryz.underlying85 ⟨#[108, 101, 97, 115, 116]⟩ (cmdV (1) 84)
  have x5 := e5 w x4 (Nat.le_refl _)
  obtain ⟨W6, u6, m6, e6, -, -⟩ := m5.update Tryz.underlying85 ⟨#[116, 104, 105, 110]⟩ (cmdV (1) 85)
  have x6 := e6 w x5 (Nat.le_refl _)
  obtain ⟨W7, u7, m7, e7, -, -⟩ := m6.update Tryz.underlying85 ⟨#[115, 104, 111, 119]⟩ (cmdV (-1) 87)
  have x7 := e7 w x6 (Nat.le_refl _)
  obtain ⟨W8, u8, m8, e8, -, -⟩ := m7.update Tryz.underlying85 ⟨#[115, 101, 116]⟩ (cmdV (-1) 89)
  have x8 := e8 w x7 (Nat.le_refl _)
  obtain ⟨W9, u9, m9, e9, -, -⟩ := m8.update Tryz.underlying85 ⟨#[109, 97, 114, 107, 115]⟩ (cmdV (-1) 91)
  have x9 := e9 w x8 (Nat.le_refl _)
  obtain ⟨W10, u10, m10, e10, -, -⟩ := m9.update Tryz.underlying85 ⟨#[105, 110]⟩ (cmdV (1) 93)
  have x10 := e10 w x9 (Nat.le_refl _)
  obtain ⟨W11, u11, m11, e11, -, -⟩ := m10.update Tryz.underlying85 ⟨#[116, 114, 101, 101]⟩ (cmdV (-1) 96)
  have x11 := e11 w x10 (Nat.le_refl _)
  obtain ⟨W12, u12, m12, e12, -, -⟩ := m11.update Tryz.underlying85 ⟨#[109, 111, 115, 116]⟩ (cmdV (-1) 98)
  have x12 := e12 w x11 (Nat.le_refl _)
  obtain ⟨W13, u13, m13, e13, -, -⟩ := m12.update Tryz.underlying85 ⟨#[97, 108, 97, 114, 109]⟩ (cmdV (2) 100)
  have x13 := e13 w x12 (Nat.le_refl _)
  obtain ⟨W14, u14, m14, e14, -, -⟩ := m13.update Tryz.underlying85 ⟨#[100, 101, 112, 116, 104]⟩ (cmdV (-1) 102)
  have x14 := e14 w x13 (Nat.le_refl _)
  obtain ⟨W15, u15, m15, e15, -, -⟩ := m14.update Tryz.underlying85 ⟨#[112, 108, 97, 121]⟩ (cmdV (1) 104)
  have x15 := e15 w x14 (Nat.le_refl _)
  obtain ⟨W16, u16, m16, e16, -, -⟩ := m15.update Tryz.underlying85 ⟨#[116, 101, 108, 108, 115]⟩ (cmdV (1) 106)
  have x16 := e16 w x15 (Nat.le_refl _)
  have M := Lib.hid m16; have X := Lib.hid x16
  clear m0 x0 m1 x1 m2 x2 m3 x3 m4 x4 m5 x5 m6 x6 m7 x7 m8 x8 m9 x9 m10 x10 m11 x11 m12 x12 m13 x13 m14 x14 m15 x15 m16 x16 e1 e2 e3 e4 e5 e6 e7 e8 e9 e10 e11 e12 e13 e14 e15 e16
  unfold cmdV at u1 u2 u3 u4 u5 u6 u7 u8 u9 u10 u11 u12 u13 u14 u15 u16
  go_enter Tryz.func51, Tryz.ntmps51
  go_wp2
  go_ret
  exact ⟨_, rfl, M.out, X.out⟩
end Go.Proofs.YtkmfmhckpfomeaaGreatDoor

/- A line of a script, the program's side. The condition: the line has at most 2^20 bytes. -/
namespace Go.Proofs.YtkmfmhckpfomeaaGreatDoor
open Go.RowKit
open BigFrame
attribute [local go_sem] Oper.semAt_some

def lookC (i : Nat) : Option Value := if i = 0 then none else some (cmdV (cmdNum i) (cmdFn i))
theorem put_ix {f : ByteArray → Option Value} {w : List UInt8} {n : Nat} {l : List UInt8} {v : Value} (hl : wordOf (n + 1) = l) (hv : some v = lookC (n + 1)) (ih : f ⟨w.toArray⟩ = lookC (cmdIxTo w n)) : putS f ⟨l.toArray⟩ v ⟨w.toArray⟩ = lookC (cmdIxTo w (n + 1)) := by
  unfold putS cmdIxTo
  rw [hl]
  by_cases h : w = l
  · rw [if_pos h, if_pos (by rw [h]), hv]
  · rw [if_neg h, if_neg (fun e => h (by simpa using congrArg (fun b : ByteArray => b.data.toList) e)), ih]
theorem cmdF_ix (w : List UInt8) : cmdF16 ⟨w.toArray⟩ = lookC (cmdIx w) := by
  show _ = lookC (cmdIxTo w 16)
  iterate 16 refine put_ix rfl rfl ?_
  rfl
set_option maxRecDepth 100000 in
theorem zero_cmd (w : World) : (zeroValue 83).run Tryz.prog w = .ok (.agg #[.int .i64 0, .nilFunc]) w := by kernel_rfl
theorem cell_two_new' (w : World) (x y : Value) (t : TypeId) : (w.alloc (.cells #[x, y] t)).cell? ⟨w.heap.size, 1, none⟩ = some y := by
  show (match (w.alloc (.cells #[x, y] t)).heap[w.heap.size]? with | some (.cells c _ _) => c[1]? | _ => none) = some y
  rw [World.alloc_heap_new]
  rfl
theorem cut_rest_le (l : List UInt8) : (Lib.cut l [32]).2.1.length ≤ l.length := by
  rcases free_or_cut 32 l with h | ⟨a, r, rfl, h⟩
  · rw [cut_free h]; exact Nat.zero_le _
  · rw [cut_cut h]; simp; omega
/-- What a known command answers to its numbers, if these are told. -/
noncomputable def ansR (i : Nat) (g : List Int) (c : Nat) : Option (List Nat) → List UInt8 × St
  | none => (noS, g, c)
  | some ns => match cmdR i g c (ns.getD 0 0) (ns.getD 1 0) with
    | none => (noS, g, c)
    | some r => r
theorem number_le {l : List UInt8} {n : Nat} (h : number? l = some n) : n ≤ 9999 := by
  unfold number? at h
  split at h
  · rename_i hc
    rw [Bool.and_eq_true, Bool.and_eq_true, decide_eq_true_iff, decide_eq_true_iff] at hc
    have h1 := numTo_lt (j := l.length) (Nat.le_refl _) (by rw [List.take_length]; exact hc.2)
    rw [List.take_length] at h1
    have h2 : 10 ^ l.length ≤ 10 ^ 4 := Nat.pow_le_pow_right (by omega) hc.1.2
    cases h
    omega
  · cases h
theorem nums_facts : ∀ {ps : List (List UInt8)} {ns : List Nat}, nums ps = some ns → ns.length = ps.length ∧ ∀ z ∈ ns, z ≤ 9999
  | [], ns, h => by cases h; exact ⟨rfl, fun z hz => by cases hz⟩
  | p :: ps, ns, h => by
    rw [nums] at h
    cases hp : number? p with
    | none => rw [hp] at h; cases h
    | some n =>
      rw [hp] at h
      obtain ⟨r, hr, rfl⟩ := Option.map_eq_some_iff.1 h
      obtain ⟨h1, h2⟩ := nums_facts hr
      refine ⟨by simp [h1], fun z hz => ?_⟩
      rcases List.mem_cons.1 hz with rfl | hz
      · exact number_le hp
      · exact h2 z hz
theorem args_facts {many : Nat} {l : List UInt8} {ns : List Nat} (h : argsOf many l = some ns) : ns.length = many ∧ ∀ z ∈ ns, z ≤ 9999 := by
  unfold argsOf at h
  split at h
  · rename_i h2
    have := nums_facts h
    exact ⟨by rw [this.1, h2], this.2⟩
  · cases h
theorem cmdNum_cases : ∀ i, i ≤ 16 → i ≠ 0 → cmdNum i = -1 ∨ cmdNum i = 1 ∨ cmdNum i = 2 := by decide
theorem cmd_enters (i : Nat) (h1 : 1 ≤ i) (h16 : i ≤ 16) : ∀ args w, (callFunc (cmdFn i) args).run Tryz.prog w = .ok (.enter (cmdFn i) args) w := by
  have hcases : i = 1 ∨ i = 2 ∨ i = 3 ∨ i = 4 ∨ i = 5 ∨ i = 6 ∨ i = 7 ∨ i = 8 ∨ i = 9 ∨ i = 10 ∨ i = 11 ∨ i = 12 ∨ i = 13 ∨ i = 14 ∨ i = 15 ∨ i = 16 := by omega
  rcases hcases with rfl | rfl | rfl | rfl | rfl | rfl | rfl | rfl | rfl | rfl | rfl | rfl | rfl | rfl | rfl | rfl
  · exact Go.Proofs.enters_of Tryz.func75 (by kernel_rfl) rfl
  · exact Go.Proofs.enters_of Tryz.func77 (by kernel_rfl) rfl
  · exact Go.Proofs.enters_of Tryz.func80 (by kernel_rfl) rfl
  · exact Go.Proofs.enters_of Tryz.func82 (by kernel_rfl) rfl
  · exact Go.Proofs.enters_of Tryz.func84 (by kernel_rfl) rfl
  · exact Go.Proofs.enters_of Tryz.func85 (by kernel_rfl) rfl
  · exact Go.Proofs.enters_of Tryz.func87 (by kernel_rfl) rfl
  · exact Go.Proofs.enters_of Tryz.func89 (by kernel_rfl) rfl
  · exact Go.Proofs.enters_of Tryz.func91 (by kernel_rfl) rfl
  · exact Go.Proofs.enters_of Tryz.func93 (by kernel_rfl) rfl
  · exact Go.Proofs.enters_of Tryz.func96 (by kernel_rfl) rfl
  · exact Go.Proofs.enters_of Tryz.func98 (by kernel_rfl) rfl
  · exact Go.Proofs.enters_of Tryz.func100 (by kernel_rfl) rfl
  · exact Go.Proofs.enters_of Tryz.func102 (by kernel_rfl) rfl
  · exact Go.Proofs.enters_of Tryz.func104 (by kernel_rfl) rfl
  · exact Go.Proofs.enters_of Tryz.func106 (by kernel_rfl) rfl
set_option maxRecDepth 100000 in
set_option maxHeartbeats 4000000 in
theorem line_c (b : Nat) (g : List Int) (c : Nat) (l : List UInt8) (w : World) (hw : Wd w) (hd : DeskG w b g c) (hl : l.length ≤ 1048576) :
    Calls Tryz.prog 30 #[.pointer (some ⟨b, 0, none⟩), strV l] w fun e w' => e = .returned (strV (lineR g c l).1) ∧ DeskG w' b (lineR g c l).2.1 (lineR g c l).2.2 ∧ Upd b w w' := by
  have HC := Lib.hid (cut_c 32 l w hw hl)
  have HD := Lib.hid hd; have HW := Lib.hid hw; have HLL := Lib.hid hl
  have HR : Hid (lineR g c l = lineR g c l) := rfl
  obtain ⟨r, hr⟩ : ∃ r, r = lineR g c l := ⟨_, rfl⟩
  rw [← hr]
  unfold lineR at hr
  obtain ⟨p, hp⟩ : ∃ p, p = Lib.cut l [32] := ⟨_, rfl⟩
  rw [← hp] at HC hr
  obtain ⟨wd, rest, sp⟩ := p
  dsimp only at hr
  have hix := cmdF_ix wd
  obtain ⟨i, hi⟩ : ∃ i, i = cmdIx wd := ⟨_, rfl⟩
  rw [← hi] at hr hix
  have hi16 : i ≤ 16 := by rw [hi]; exact cmdIx_le _
  have HP := Lib.hid hp
  obtain ⟨S, hS⟩ : ∃ S : ByteArray, S = ⟨wd.toArray⟩ := ⟨_, rfl⟩
  rw [← hS] at hix
  have hsv : strV wd = .string S := by rw [hS]; rfl
  dsimp only at HC
  rw [hsv] at HC
  obtain ⟨R, hR⟩ : ∃ R : Value, R = strV l := ⟨_, rfl⟩
  rw [← hR] at HC ⊢
  clear hw hd hl hp hi hsv hS hR HR
  by_cases h0 : i = 0
  · rw [if_pos (.inl h0)] at hr
    subst h0
    have hix' : cmdF16 S = none := hix
    have HRR := Lib.hid hr
    clear hr hix hi16
    go_enter Tryz.func30, Tryz.ntmps30
    go_wp2_with fail
    refine HC.out.mono ?_
    rintro e w1 ⟨rfl, x1⟩
    have X1 := Lib.hid x1; clear x1
    go_wp2_with fail
    refine (commands_c w1).mono ?_
    rintro e w2 ⟨bm, rfl, m2, x2⟩
    have hlk := m2.lookup2 Tryz.underlying85 (zero_cmd w2) S
    rw [hix'] at hlk
    simp only [Option.getD_none, Option.isSome_none] at hlk
    have X2 := Lib.hid (X1.out.trans x2)
    clear x2 m2 hix'
    go_wp2
    go_ret
    rw [HRR.out]
    exact ⟨rfl, HD.out.ext (X2.out.alloc _), Upd.of_ext (X2.out.alloc _)⟩
  · have hix' : cmdF16 S = some (.agg #[.int .i64 (cmdNum i), .func (.func (cmdFn i)) #[] #[]]) := by rw [hix]; unfold lookC; rw [if_neg h0]; rfl
    have HDO := Lib.hid (cmd_done i (by omega) hi16)
    have HEN : Hid (∀ args w, (callFunc (cmdFn i) args).run Tryz.prog w = .ok (.enter (cmdFn i) args) w) := cmd_enters i (by omega) hi16
    have hcn := cmdNum_cases i hi16 h0
    obtain ⟨N, hN⟩ : ∃ N, N = cmdNum i := ⟨_, rfl⟩
    rw [← hN] at hr hix' HDO hcn
    obtain ⟨f, hf⟩ : ∃ f, f = cmdFn i := ⟨_, rfl⟩
    rw [← hf] at hix' HDO HEN
    clear hf hix hN
    have HRL : Hid (rest.length ≤ 1048576) := by
      have e : rest = (Lib.cut l [32]).2.1 := by rw [← HP.out]
      rw [e]
      exact Nat.le_trans (cut_rest_le l) HLL.out
    by_cases h1 : sp = decide (0 < N)
    · rw [if_neg (fun h => by rcases h with h | h; exact h0 h; exact h h1)] at hr
      rcases hcn with hcn | hcn | hcn
      · -- no number
        subst hcn
        have hsp : sp = false := by rw [h1]; rfl
        subst hsp
        have hr2 : r = match cmdR i g c 0 0 with | none => (noS, g, c) | some r => r := hr
        have HX : Hid (∀ w', Ext w w' → Calls Tryz.prog f #[.pointer (some ⟨b, 0, none⟩), .slice none 0 0] w' (Done w' b g c (cmdR i g c 0 0))) := (fun w' (hx : Ext w w') => HDO.out b (.slice none 0 0) g c [] w' (HW.out.ext hx) (HD.out.ext hx) ⟨none, 0, rfl, .inl rfl⟩ rfl (fun z hz => by cases hz))
        have HRR := Lib.hid hr2
        clear hr hr2 h1 hi16 h0
        have eg := HEN.out
        go_enter Tryz.func30, Tryz.ntmps30
        go_wp2_with fail
        refine HC.out.mono ?_
        rintro e w1 ⟨rfl, x1⟩
        have X1 := Lib.hid x1; clear x1
        go_wp2_with fail
        refine (commands_c w1).mono ?_
        rintro e w2 ⟨bm, rfl, m2, x2⟩
        have hlk := m2.lookup2 Tryz.underlying85 (zero_cmd w2) S
        rw [hix'] at hlk
        simp only [Option.getD_some, Option.isSome_some] at hlk
        have X2 := Lib.hid (X1.out.trans x2)
        clear x2 m2 hix'
        have X4 := Lib.hid (X2.out.alloc (.cells #[.int .i64 (-1), .func (.func f) #[] #[]] 83))
        go_wp2_with fail
        refine (HX.out _ X4.out).mono ?_
        intro e w5 h5
        have hr' := HRR.out
        cases hz : cmdR i g c 0 0 with
        | none =>
          rw [hz] at h5 hr'
          obtain ⟨⟨s5, rfl⟩, d5, u5⟩ := h5
          have D5 := Lib.hid d5; have U5 := Lib.hid ((Upd.of_ext (b := b) X4.out).trans u5)
          have HR5 : Hid (r = (noS, g, c)) := hr'
          clear d5 u5 hr' hz
          go_wp2
          go_ret
          rw [HR5.out]
          exact ⟨rfl, D5.out, U5.out⟩
        | some t5 =>
          rw [hz] at h5 hr'
          obtain ⟨rfl, d5, u5⟩ := h5
          have D5 := Lib.hid d5; have U5 := Lib.hid ((Upd.of_ext (b := b) X4.out).trans u5)
          have HR5 : Hid (r = t5) := hr'
          clear d5 u5 hr' hz
          go_wp2
          go_ret
          rw [HR5.out]
          exact ⟨rfl, D5.out, U5.out⟩
      · -- 1 numbers
        subst hcn
        have hsp : sp = true := by rw [h1]; rfl
        subst hsp
        have HRN := Lib.hid (fun (w1 : World) (hx : Ext w w1) => readNumbers_c rest 1 w1 (HW.out.ext hx) HRL.out (by omega))
        rw [show (((1 : Nat) : Int)) = 1 from rfl] at HRN
        obtain ⟨o, ho⟩ : ∃ o, o = argsOf 1 rest := ⟨_, rfl⟩
        have hr2 : r = ansR i g c o := by rw [ho]; exact hr
        rw [← ho] at HRN
        have HO := Lib.hid ho
        have HRR := Lib.hid hr2
        clear hr hr2 ho h1 hi16 h0
        go_enter Tryz.func30, Tryz.ntmps30
        go_wp2_with fail
        refine HC.out.mono ?_
        rintro e w1 ⟨rfl, x1⟩
        have X1 := Lib.hid x1; clear x1
        go_wp2_with fail
        refine (commands_c w1).mono ?_
        rintro e w2 ⟨bm, rfl, m2, x2⟩
        have hlk := m2.lookup2 Tryz.underlying85 (zero_cmd w2) S
        rw [hix'] at hlk
        simp only [Option.getD_some, Option.isSome_some] at hlk
        have X2 := Lib.hid (X1.out.trans x2)
        clear x2 m2 hix'
        go_wp2_with fail
        have X3 := Lib.hid (X2.out.alloc (.cells #[.int .i64 1, .func (.func f) #[] #[]] 83))
        have c3 : (w2.alloc (.cells #[.int .i64 1, .func (.func f) #[] #[]] 83)).cell? ⟨w2.heap.size, 1, none⟩ = some (.func (.func f) #[] #[]) := cell_two_new' _ _ _ _
        have hs3 : w2.heap.size < (w2.alloc (.cells #[.int .i64 1, .func (.func f) #[] #[]] 83)).heap.size := by simp
        refine (HRN.out _ X3.out).mono ?_
        rintro e w4 ⟨v4, rfl, n4, x4⟩
        have c4 : w4.cell? ⟨w2.heap.size, 1, none⟩ = some (.func (.func f) #[] #[]) := (x4.cell hs3).trans c3
        have X4 := Lib.hid (X3.out.trans x4)
        clear x4 c3 hs3
        cases o with
        | none =>
          obtain rfl := n4
          have HR5 : Hid (r = (noS, g, c)) := HRR.out
          clear HRR
          go_wp2
          go_ret
          rw [HR5.out]
          exact ⟨rfl, HD.out.ext X4.out, Upd.of_ext X4.out⟩
        | some ns =>
          obtain ⟨u4, rfl, o4⟩ := n4
          obtain ⟨hlen, hns⟩ := args_facts HO.out.symm
          obtain ⟨z1, z2, rfl⟩ := o4.form' rfl
          have HX := Lib.hid (fun w' (hx : Ext w w') (hv : Rd w' (.slice z1 (intsOf ns).length z2) (intsOf ns)) => HDO.out b _ g c ns w' (HW.out.ext hx) (HD.out.ext hx) hv hlen hns)
          have O4 := Lib.hid o4.rd
          clear o4 hlen hns
          have eg := HEN.out
          go_wp2_with fail
          refine (HX.out _ X4.out O4.out).mono ?_
          intro e w5 h5
          have hr' : r = match cmdR i g c (ns.getD 0 0) (ns.getD 1 0) with | none => (noS, g, c) | some r => r := HRR.out
          cases hz : cmdR i g c (ns.getD 0 0) (ns.getD 1 0) with
          | none =>
            rw [hz] at h5 hr'
            obtain ⟨⟨s5, rfl⟩, d5, u5⟩ := h5
            have D5 := Lib.hid d5; have U5 := Lib.hid ((Upd.of_ext (b := b) X4.out).trans u5)
            have HR5 : Hid (r = (noS, g, c)) := hr'
            clear d5 u5 hr' hz
            go_wp2
            go_ret
            rw [HR5.out]
            exact ⟨rfl, D5.out, U5.out⟩
          | some t5 =>
            rw [hz] at h5 hr'
            obtain ⟨rfl, d5, u5⟩ := h5
            have D5 := Lib.hid d5; have U5 := Lib.hid ((Upd.of_ext (b := b) X4.out).trans u5)
            have HR5 : Hid (r = t5) := hr'
            clear d5 u5 hr' hz
            go_wp2
            go_ret
            rw [HR5.out]
            exact ⟨rfl, D5.out, U5.out⟩
      · -- 2 numbers
        subst hcn
        have hsp : sp = true := by rw [h1]; rfl
        subst hsp
        have HRN := Lib.hid (fun (w1 : World) (hx : Ext w w1) => readNumbers_c rest 2 w1 (HW.out.ext hx) HRL.out (by omega))
        rw [show (((2 : Nat) : Int)) = 2 from rfl] at HRN
        obtain ⟨o, ho⟩ : ∃ o, o = argsOf 2 rest := ⟨_, rfl⟩
        have hr2 : r = ansR i g c o := by rw [ho]; exact hr
        rw [← ho] at HRN
        have HO := Lib.hid ho
        have HRR := Lib.hid hr2
        clear hr hr2 ho h1 hi16 h0
        go_enter Tryz.func30, Tryz.ntmps30
        go_wp2_with fail
        refine HC.out.mono ?_
        rintro e w1 ⟨rfl, x1⟩
        have X1 := Lib.hid x1; clear x1
        go_wp2_with fail
        refine (commands_c w1).mono ?_
        rintro e w2 ⟨bm, rfl, m2, x2⟩
        have hlk := m2.lookup2 Tryz.underlying85 (zero_cmd w2) S
        rw [hix'] at hlk
        simp only [Option.getD_some, Option.isSome_some] at hlk
        have X2 := Lib.hid (X1.out.trans x2)
        clear x2 m2 hix'
        go_wp2_with fail
        have X3 := Lib.hid (X2.out.alloc (.cells #[.int .i64 2, .func (.func f) #[] #[]] 83))
        have c3 : (w2.alloc (.cells #[.int .i64 2, .func (.func f) #[] #[]] 83)).cell? ⟨w2.heap.size, 1, none⟩ = some (.func (.func f) #[] #[]) := cell_two_new' _ _ _ _
        have hs3 : w2.heap.size < (w2.alloc (.cells #[.int .i64 2, .func (.func f) #[] #[]] 83)).heap.size := by simp
        refine (HRN.out _ X3.out).mono ?_
        rintro e w4 ⟨v4, rfl, n4, x4⟩
        have c4 : w4.cell? ⟨w2.heap.size, 1, none⟩ = some (.func (.func f) #[] #[]) := (x4.cell hs3).trans c3
        have X4 := Lib.hid (X3.out.trans x4)
        clear x4 c3 hs3
        cases o with
        | none =>
          obtain rfl := n4
          have HR5 : Hid (r = (noS, g, c)) := HRR.out
          clear HRR
          go_wp2
          go_ret
          rw [HR5.out]
          exact ⟨rfl, HD.out.ext X4.out, Upd.of_ext X4.out⟩
        | some ns =>
          obtain ⟨u4, rfl, o4⟩ := n4
          obtain ⟨hlen, hns⟩ := args_facts HO.out.symm
          obtain ⟨z1, z2, rfl⟩ := o4.form' rfl
          have HX := Lib.hid (fun w' (hx : Ext w w') (hv : Rd w' (.slice z1 (intsOf ns).length z2) (intsOf ns)) => HDO.out b _ g c ns w' (HW.out.ext hx) (HD.out.ext hx) hv hlen hns)
          have O4 := Lib.hid o4.rd
          clear o4 hlen hns
          have eg := HEN.out
          go_wp2_with fail
          refine (HX.out _ X4.out O4.out).mono ?_
          intro e w5 h5
          have hr' : r = match cmdR i g c (ns.getD 0 0) (ns.getD 1 0) with | none => (noS, g, c) | some r => r := HRR.out
          cases hz : cmdR i g c (ns.getD 0 0) (ns.getD 1 0) with
          | none =>
            rw [hz] at h5 hr'
            obtain ⟨⟨s5, rfl⟩, d5, u5⟩ := h5
            have D5 := Lib.hid d5; have U5 := Lib.hid ((Upd.of_ext (b := b) X4.out).trans u5)
            have HR5 : Hid (r = (noS, g, c)) := hr'
            clear d5 u5 hr' hz
            go_wp2
            go_ret
            rw [HR5.out]
            exact ⟨rfl, D5.out, U5.out⟩
          | some t5 =>
            rw [hz] at h5 hr'
            obtain ⟨rfl, d5, u5⟩ := h5
            have D5 := Lib.hid d5; have U5 := Lib.hid ((Upd.of_ext (b := b) X4.out).trans u5)
            have HR5 : Hid (r = t5) := hr'
            clear d5 u5 hr' hz
            go_wp2
            go_ret
            rw [HR5.out]
            exact ⟨rfl, D5.out, U5.out⟩
    · rw [if_pos (.inr h1)] at hr
      have HRR := Lib.hid hr
      have t1 : (sp == decide (0 < N)) = false := beq_eq_false_iff_ne.2 h1
      clear hr hi16 HDO HEN hcn h1
      go_enter Tryz.func30, Tryz.ntmps30
      go_wp2_with fail
      refine HC.out.mono ?_
      rintro e w1 ⟨rfl, x1⟩
      have X1 := Lib.hid x1; clear x1
      go_wp2_with fail
      refine (commands_c w1).mono ?_
      rintro e w2 ⟨bm, rfl, m2, x2⟩
      have hlk := m2.lookup2 Tryz.underlying85 (zero_cmd w2) S
      rw [hix'] at hlk
      simp only [Option.getD_some, Option.isSome_some] at hlk
      have X2 := Lib.hid (X1.out.trans x2)
      clear x2 m2 hix'
      go_wp2
      go_ret
      rw [HRR.out]
      exact ⟨rfl, HD.out.ext (X2.out.alloc _), Upd.of_ext (X2.out.alloc _)⟩
end Go.Proofs.YtkmfmhckpfomeaaGreatDoor

/- A builder of a text: copyCheck and WriteByte at a builder of the call's own. The condition: at most 2^20 bytes. -/
namespace Go.Proofs.YtkmfmhckpfomeaaGreatDoor
open Go.RowKit
open BigFrame

theorem builder_info : (Tryz.prog.info? 51).map (·.size) = some 2 := by kernel_rfl
theorem builder_lies : liesAt Tryz.prog Tryz.prog.depth 51 (2 / Tryz.prog.cellsOf 51) 0 51 1 = true := by kernel_rfl
theorem info_byte : (Tryz.prog.info? 5).map (fun i => (i.zero, i.size, i.bytes)) = some (some (.int .u8 0), 1, 1) := by kernel_rfl

set_option maxHeartbeats 1000000 in
set_option maxRecDepth 100000 in
theorem copyCheck_used (b : Nat) (w : World) (h0 : w.cell? ⟨b, 0, none⟩ = some (.pointer (some ⟨b, 0, none⟩))) :
    Calls Tryz.prog 49 #[.pointer (some ⟨b, 0, none⟩)] w fun e w' => e = .returned (.tuple #[]) ∧ w' = w := by
  obtain ⟨j, hj, _⟩ := Option.map_eq_some_iff.1 builder_info
  go_enter Tryz.func49, Tryz.ntmps49
  go_wp2
  rw [Lib.run_neq_ptr_same w _ Tryz.underlying49 hj]
  go_wp2
  go_end0
  exact ⟨rfl, rfl⟩

set_option maxHeartbeats 1000000 in
set_option maxRecDepth 100000 in
theorem copyCheck_fresh (b : Nat) (w : World) (h0 : w.cell? ⟨b, 0, none⟩ = some (.pointer none)) (hsh : w.shape? b = some (51, 2)) (hfz : w.frozen? ⟨b, 0, none⟩ = false) :
    Calls Tryz.prog 49 #[.pointer (some ⟨b, 0, none⟩)] w fun e w' => e = .returned (.tuple #[]) ∧ w' = w.setCell ⟨b, 0, none⟩ (.pointer (some ⟨b, 0, none⟩)) := by
  obtain ⟨j, hj, hjs⟩ := Option.map_eq_some_iff.1 builder_info
  go_enter Tryz.func49, Tryz.ntmps49
  go_wp2
  rw [Lib.run_to_unsafe w ⟨b, 0, none⟩ Tryz.underlying49 Tryz.underlying103 hj (by rw [hjs]; decide) hsh (Nat.zero_lt_succ 1)]
  simp only [Result.andThen]
  rw [Oper.upon_value]
  go_wp2
  rw [run_callFunc_extern Tryz.func73 (by kernel_rfl) (by kernel_rfl) (by kernel_rfl) (e := Extern.AbiNoEscape.same) (by kernel_rfl)]
  rw [Lib.run_noEscape]
  simp only [Result.andThen]
  rw [Oper.upon_value]
  go_wp2
  rw [Lib.run_from_unsafe w ⟨b, 0, none⟩ Tryz.underlying103 Tryz.underlying49 hj hsh builder_lies]
  simp only [Result.andThen]
  rw [Oper.upon_value]
  go_wp2
  go_end0
  exact ⟨rfl, rfl⟩
theorem copyCheck_c (B b : Nat) (bs : List Value) (w : World) (h : Lib.IsBuilder 51 5 B b bs w) :
    Calls Tryz.prog 49 #[.pointer (some ⟨b, 0, none⟩)] w fun e w' => e = .returned (.tuple #[]) ∧ Lib.BuilderAt 51 5 B b (.pointer (some ⟨b, 0, none⟩)) bs w' ∧ Below B w w' := by
  rcases h with h | h
  · refine (copyCheck_fresh b w h.cell0 h.shape h.frozen0).mono ?_
    rintro e w' ⟨rfl, rfl⟩
    exact ⟨rfl, h.used _, (Below.refl B w).setCell (p := ⟨b, 0, none⟩) h.1 _⟩
  · refine (copyCheck_used b w h.cell0).mono ?_
    rintro e w' ⟨rfl, rfl⟩
    exact ⟨rfl, h, Below.refl B _⟩

end Go.Proofs.YtkmfmhckpfomeaaGreatDoor

/- A builder of a text: WriteString at a builder of the call's own. The condition: at most 2^20 bytes. -/
namespace Go.Proofs.YtkmfmhckpfomeaaGreatDoor
open Go.RowKit
open BigFrame

set_option maxHeartbeats 2000000 in
set_option maxRecDepth 100000 in
theorem writeString_c (B b : Nat) (bs : List Value) (s : ByteArray) (w : World) (h : Lib.IsBuilder 51 5 B b bs w) (hlen : bs.length + s.size ≤ 1048576) (hBw : B ≤ w.heap.size) :
    Calls Tryz.prog 29 #[.pointer (some ⟨b, 0, none⟩), .string s] w fun e w' => (∃ v, e = .returned v) ∧ Lib.IsBuilder 51 5 B b (bs ++ Lib.strCells s) w' ∧ Below B w w' := by
  obtain ⟨i0, hi, hz0, hz1, hz2⟩ := info_parts info_byte
  have HC := Lib.hid (copyCheck_c B b bs w h)
  clear h
  go_enter Tryz.func29, Tryz.ntmps29
  go_wp2_with fail
  refine HC.out.mono ?_
  rintro e w1 ⟨rfl, h1, hb1⟩
  obtain ⟨hB, v, hbk, hown, hne⟩ := h1
  have c0 : w1.cell? ⟨b, 0, none⟩ = some (.pointer (some ⟨b, 0, none⟩)) := by rw [Lib.cell_of_heap hbk]; rfl
  have c1 : w1.cell? ⟨b, 1, none⟩ = some v := by rw [Lib.cell_of_heap hbk]; rfl
  have hlt : b < w1.heap.size := (Array.getElem?_eq_some_iff.1 hbk).1
  have HK := Lib.hid hbk; have HO := Lib.hid hown; have HN := Lib.hid hne; have HB1 := Lib.hid hb1
  clear hbk hown hne hb1
  go_wp2_with (at_builtin; refine Lib.wpList_append_own_string _ rfl _ _ 22 9 rfl B 5 i0 Tryz.underlying22 Tryz.underlying9 hi hz0 hz1 hz2 _ _ _ rfl HO.out s rfl ?c3 ?c4 ?c5 ?_)
  case c3 => unfold maxLen; omega
  case c4 => omega
  case c5 => have := HB1.out.size; omega
  intro v' w2 hown' hgrow _
  have hb2 : w2.heap[b]? = some (.cells #[.pointer (some ⟨b, 0, none⟩), v] 51 (0, 0)) := by
    rw [hgrow.block b hlt (fun e => HN.out e.symm)]
    exact HK.out
  have d0 : w2.cell? ⟨b, 0, none⟩ = some (.pointer (some ⟨b, 0, none⟩)) := by rw [Lib.cell_of_heap hb2]; rfl
  have d1 : w2.cell? ⟨b, 1, none⟩ = some v := by rw [Lib.cell_of_heap hb2]; rfl
  have f1 : w2.frozen? ⟨b, 1, none⟩ = false := Lib.frozen_of_heap hb2 1
  obtain ⟨ao, n', cap, rfl⟩ : ∃ ao n' cap, v' = .slice ao n' cap := by
    rcases hown'.2 with ⟨hv, _⟩ | ⟨g, cap, cur, hv, _⟩
    · exact ⟨_, _, _, hv⟩
    · exact ⟨_, _, _, hv⟩
  have HB2 := Lib.hid hb2; have HO2 := Lib.hid hown'; have HG := Lib.hid hgrow
  clear hb2 hown' hgrow
  go_wp2
  go_ret2
  refine ⟨⟨_, rfl⟩, .inr ?_, ?_⟩
  · exact Lib.BuilderAt.put (T := 51) (e := 5) hB HB2.out (bs' := bs ++ Lib.strCells s) (by simpa [Lib.strCells_length] using HO2.out) (by decide)
  · exact (HB1.out.grown HG.out (by have := HB1.out.size; omega) (fun k hk => (HO.out.lt k hk).1)).setCell (p := ⟨b, 1, none⟩) hB _
end Go.Proofs.YtkmfmhckpfomeaaGreatDoor
