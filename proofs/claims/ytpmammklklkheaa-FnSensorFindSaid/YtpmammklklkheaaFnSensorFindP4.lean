/- What the walk of FnSensorFind rests on, part 4: plain facts, and contracts of the functions that it reaches. Each states its own condition. -/
import Derived.Test.YtpmammklklkheaaFnSensorFindP3
import Derived.Test.YtpmammklklkheaaFnSensorFindP2
import Derived.MapKept
import Derived.Carry
/- Variables of the call's own; ways out with results that lie in such variables. No condition. -/
namespace Go.Proofs.Ytpmammklklkheaa
open Go.RowKit
open BigFrame

/-- Block b is a variable that holds v. -/
structure Var (w : World) (b : Nat) (v : Value) : Prop where
  cell : w.cell? ⟨b, 0, none⟩ = some v
  frozen : w.frozen? ⟨b, 0, none⟩ = false
  lt : b < w.heap.size
theorem Var.ext {w w' : World} {b : Nat} {v : Value} (h : Var w b v) (hx : Ext w w') : Var w' b v :=
  ⟨(hx.cell h.lt).trans h.cell, (hx.frozen h.lt).trans h.frozen, Nat.lt_of_lt_of_le h.lt hx.size⟩
theorem Var.set {w : World} {b : Nat} {v : Value} (h : Var w b v) (u : Value) : Var (w.setCell ⟨b, 0, none⟩ u) b u :=
  ⟨cell_set h.cell, by simpa using h.frozen, by simpa using h.lt⟩
theorem Var.other {w : World} {b c : Nat} {v : Value} (h : Var w b v) (hne : b ≠ c) (u : Value) : Var (w.setCell ⟨c, 0, none⟩ u) b v :=
  ⟨(World.cell?_setCell_other _ _ _ _ (fun h => hne (congrArg Addr.block h).symm)).trans h.cell, by simpa using h.frozen, by simpa using h.lt⟩
theorem Var.new (w : World) (v : Value) (t : TypeId) : Var (w.alloc (.cells #[v] t)) w.heap.size v := by
  have h := cell_of_heap (World.alloc_heap_new w (.cells #[v] t))
  exact ⟨h.1, h.2, by simp⟩
theorem two_cells {W : World} {b : Nat} {v u : Value} {t : TypeId} (h : W.heap[b]? = some (.cells #[v, u] t (0, 0))) : W.cell? ⟨b, 0, none⟩ = some v ∧ W.cell? ⟨b, 1, none⟩ = some u := by
  constructor <;> simp [World.cell?, h]
/-- Two results that lie in variables of their own. -/
theorem results_pair {fn : Func} {p q : Tmp} {b c : Nat} {x : Int} {y : Bool} (h : fn.results = #[.cell p 3, .cell q 4]) (tmps : Array Value) (W : World)
    (hp : tmps.getD p undef = .pointer (some ⟨b, 0, none⟩)) (hq : tmps.getD q undef = .pointer (some ⟨c, 0, none⟩)) (hb : W.cell? ⟨b, 0, none⟩ = some (.int .i64 x)) (hc : W.cell? ⟨c, 0, none⟩ = some (.bool y)) :
    (results fn tmps).run Try.prog W = .ok (.tuple #[.int .i64 x, .bool y]) W := by
  have hp' : tmps[p]?.getD undef = .pointer (some ⟨b, 0, none⟩) := by simpa using hp
  have hq' : tmps[q]?.getD undef = .pointer (some ⟨c, 0, none⟩) := by simpa using hq
  simp only [results, h]
  simp [go_sem, hp', hq', hb, hc]
theorem leave_pair {fn : Func} {p q : Tmp} {b c : Nat} {x : Int} {y : Bool} {r : Int × Bool} {w W : World} {tmps : Array Value} {ds : List Deferred} (hr : fn.results = #[.cell p 3, .cell q 4])
    (hp : tmps.getD p undef = .pointer (some ⟨b, 0, none⟩)) (hq : tmps.getD q undef = .pointer (some ⟨c, 0, none⟩)) (hb : W.cell? ⟨b, 0, none⟩ = some (.int .i64 x)) (hc : W.cell? ⟨c, 0, none⟩ = some (.bool y))
    (hm : Marks w.heap.size W ds) (hx : Ext w W) (hxy : (x, y) = r) :
    LeavesInM Fence.wide 0 Try.prog fn tmps (fun e w' => e = .returned (pairV r) ∧ Ext w w') ds .returning W :=
  leaves_marks (B := w.heap.size) (.tuple #[.int .i64 x, .bool y]) _ _ hm fun _ hW' => ⟨results_pair hr _ _ hp hq (hW'.cell hb) (hW'.cell hc), ret_pair' hxy, hx.book (Nat.le_refl _) hW'⟩
/-- Three variables that have just been laid. -/
theorem three_new (w : World) (x y z : Value) (t u s : TypeId) :
    ∃ W, W = ((w.alloc (.cells #[x] t)).alloc (.cells #[y] u)).alloc (.cells #[z] s) ∧ Ext w W ∧ W.heap.size = w.heap.size + 3 ∧ Var W w.heap.size x ∧ Var W (w.heap.size + 1) y ∧ Var W (w.heap.size + 1 + 1) z := by
  refine ⟨_, rfl, (((Ext.refl w).alloc _).alloc _).alloc _, by simp, ((Var.new w x t).ext (((Ext.refl _).alloc _).alloc _)), ?_, ?_⟩
  · have := (Var.new (w.alloc (.cells #[x] t)) y u).ext ((Ext.refl _).alloc (.cells #[z] s))
    simpa using this
  · have := Var.new ((w.alloc (.cells #[x] t)).alloc (.cells #[y] u)) z s
    simpa using this
end Go.Proofs.Ytpmammklklkheaa

/- Balls, parts of a set, codes: the small contracts about graphs, of the program and of the reference. The condition: the list has at most 2^20 numbers. -/
namespace Go.Proofs.Ytpmammklklkheaa
open Go.RowKit
open BigFrame

/-- A node and its neighbours. -/
def ballN (g : List Int) (x : Nat) : Nat := bor (gN g x) (2 ^ x)
/-- The nodes of a set that are in a ball. -/
def qIn (g : List Int) (s x : Nat) : Nat := band s (ballN g x)
theorem IsGraph.small {g : List Int} (h : IsGraph g) (i : Nat) : gN g i ≤ 4095 := by
  have := h.lt i
  have := pow_le_12 h.le
  omega
theorem ballN_lt {g : List Int} (h : IsGraph g) {x : Nat} (hx : x < g.length) : ballN g x < 2 ^ g.length :=
  bor_lt (h.lt x) (Nat.pow_lt_pow_right (by omega) hx)
theorem ballN_small {g : List Int} (h : IsGraph g) {x : Nat} (hx : x < g.length) : ballN g x ≤ 4095 := by
  have := ballN_lt h hx
  have := pow_le_12 h.le
  omega
theorem qIn_le (g : List Int) (s x : Nat) : qIn g s x ≤ s := Nat.and_le_left
theorem qIn_without (g : List Int) (s x : Nat) : without s (qIn g s x) = without s (ballN g x) := by
  apply Nat.eq_of_testBit_eq
  intro i
  rw [testBit_without, testBit_without]
  unfold qIn
  rw [testBit_band]
  cases s.testBit i <;> simp
theorem without_le (s t : Nat) (h : s ≤ 4095) : without s t ≤ 4095 := by
  have := without_lt (x := s) (y := t) (n := 12) (by omega)
  omega
theorem node_iff {x : Int} {n : Nat} : inB 0 x ((n : Int) - 1) = true ↔ ∃ k : Nat, x = k ∧ k < n := by
  rw [inB_iff]
  constructor
  · intro h; exact ⟨x.toNat, by omega, by omega⟩
  · rintro ⟨k, rfl, h⟩; omega

set_option maxHeartbeats 400000 in
theorem ball_c (v : Value) (g : List Int) (x : Nat) (w : World) (hv : Rd w v g) (hg : IsGraph g) (hx : x < g.length) :
    Calls Try.prog 80 #[v, .int .i64 x] w fun e w' => e = .returned (.int .i64 (ballN g x : Nat)) ∧ Ext w w' := by
  obtain ⟨a, c, rfl⟩ := hv.form
  obtain ⟨b, o, rfl, -, -, hc⟩ := hv.atI hx
  have c1 := fun u => hc _ (clip_ext w u)
  rw [hg.row x hx] at c1
  have h1 := hg.small x
  have h2 := hg.le
  obtain ⟨p, hp, hp1, hp2, hp3⟩ := pow_var x (by omega)
  have e0 : min x 64 = x := by omega
  have e2 := bits_or (gN g x) p (by omega) (by omega)
  rw [show ballN g x = bor (gN g x) p from by unfold ballN; rw [hp]]
  clear hv hc hg hp
  go_enter Try.func80, Try.ntmps80
  go_wp2
  refine wp_region_ext (by kernel_rfl) (by kernel_rfl) ?_
  repeat (go_big_quiet_step (fail))
  refine wpQuiet_nil ?_
  rintro _ ⟨u, rfl⟩
  go_wp2
  go_ret
  exact ⟨rfl, clip_ext _ _⟩

set_option maxHeartbeats 400000 in
theorem l6qIn_c (v : Value) (g : List Int) (s x : Nat) (w : World) (hv : Rd w v g) (hg : IsGraph g) (hs : s ≤ 4095) (hx : x < g.length) :
    Calls Try.prog 118 #[v, .int .i64 s, .int .i64 x] w fun e w' => e = .returned (.int .i64 (qIn g s x : Nat)) ∧ Ext w w' := by
  obtain ⟨a, c, rfl⟩ := hv.form
  obtain ⟨b, o, rfl, -, -, hc⟩ := hv.atI hx
  have c1 := fun u => hc _ (clip_ext w u)
  rw [hg.row x hx] at c1
  have h1 := hg.small x
  have h2 := hg.le
  have h3 := ballN_small hg hx
  obtain ⟨p, hp, hp1, hp2, hp3⟩ := pow_var x (by omega)
  have e0 : min x 64 = x := by omega
  have e2 := bits_or (gN g x) p (by omega) (by omega)
  have HB : Hid (ballN g x = bor (gN g x) p) := by unfold ballN; rw [hp]; rfl
  rw [← HB.out] at e2
  have e3 := bits_and s (ballN g x) (by omega) (by omega)
  clear hv hc hg hp
  go_enter Try.func118, Try.ntmps118
  go_wp2
  refine wp_region_ext (by kernel_rfl) (by kernel_rfl) ?_
  repeat (go_big_quiet_step (fail))
  refine wpQuiet_nil ?_
  rintro _ ⟨u, rfl⟩
  go_wp2
  go_ret
  exact ⟨rfl, clip_ext _ _⟩

def fits (g : List Int) (s : Int) : Bool := graphIn g && setB s g.length
theorem codeFits_c (v : Value) (g : List Int) (s : Int) (w : World) (hv : Rd w v g) (hm : g.length ≤ 1048576) :
    Calls Try.prog 52 #[v, .int .i64 s] w fun e w' => e = .returned (.bool (fits g s)) ∧ Ext w w' := by
  obtain ⟨a, c, rfl⟩ := hv.form
  have HV := Lib.hid hv; clear hv
  have HM := Lib.hid hm
  cases h0 : graphIn g
  · rw [show fits g s = false from by unfold fits; rw [h0]; rfl]
    go_enter Try.func52, Try.ntmps52
    go_wp2_with (go_at_call 74; refine (graphInI_c _ _ _ HV.out HM.out).mono ?_; rintro e w1 ⟨rfl, x1⟩)
    go_ret
    exact ⟨rfl, by assumption⟩
  · rw [show fits g s = setB s g.length from by unfold fits; rw [h0]; rfl]
    have hl := (graphIn_iff.1 h0).le
    go_enter Try.func52, Try.ntmps52
    go_wp2_with (first | (go_at_call 74; refine (graphInI_c _ _ _ HV.out HM.out).mono ?_; rintro e w1 ⟨rfl, x1⟩) | (go_at_call 76; refine (isSet_c _ g.length (by omega) _).mono ?_; rintro e w' ⟨rfl, rfl⟩))
    go_ret
    exact ⟨rfl, by assumption⟩
theorem fits_iff {g : List Int} {s : Int} : fits g s = true ↔ ∃ k : Nat, s = k ∧ IsGraph g ∧ k < 2 ^ g.length := by
  unfold fits
  rw [Bool.and_eq_true, graphIn_iff, setB_iff]
  exact ⟨fun ⟨h, k, e, hk⟩ => ⟨k, e, h, hk⟩, fun ⟨k, e, h, hk⟩ => ⟨h, k, e, hk⟩⟩
end Go.Proofs.Ytpmammklklkheaa

/- A map with integers for keys, made by the call: what a lookup answers, what an assignment leaves. No condition. -/
namespace Go.Proofs.Ytpmammklklkheaa
open Go.RowKit Go.MapKept

structure MapFor (es : Array MapEntry) (f : Int → Option Value) : Prop where
  key : ∀ (i : Nat) (x : MapEntry), es[i]? = some x → ∃ k : Int, x.key = .int .i64 k ∧ f k = some x.val
  has : ∀ k v, f k = some v → ∃ (i : Nat) (x : MapEntry), es[i]? = some x ∧ x.key = .int .i64 k
  one : ∀ (i j : Nat) (x y : MapEntry), es[i]? = some x → es[j]? = some y → x.key = y.key → i = j
/-- Block b is a map with integers for keys: f says what stands at each. -/
def IntMap (w : World) (b : Nat) (f : Int → Option Value) : Prop := ∃ es clock, w.heap[b]? = some (.map es clock) ∧ MapFor es f
def put (f : Int → Option Value) (k : Int) (v : Value) : Int → Option Value := fun x => if x = k then some v else f x
theorem IntMap.lt {w : World} {b : Nat} {f : Int → Option Value} (h : IntMap w b f) : b < w.heap.size := by
  obtain ⟨es, clock, hb, _⟩ := h
  exact (Array.getElem?_eq_some_iff.1 hb).1
theorem IntMap.ext {w w' : World} {b : Nat} {f : Int → Option Value} (h : IntMap w b f) (hx : Ext w w') : IntMap w' b f := by
  have hl := h.lt
  obtain ⟨es, clock, hb, hf⟩ := h
  exact ⟨es, clock, (hx.block hl).trans hb, hf⟩
theorem IntMap.empty (w : World) : IntMap (w.alloc (.map #[] 0)) w.heap.size fun _ => none :=
  ⟨_, _, World.alloc_heap_new w _, ⟨fun i x h => by simp at h, fun k v h => (by cases h), fun i j x y h => by simp at h⟩⟩
theorem isKey_int (k : Int) : IsKey (.int .i64) (.int .i64 k) := by simp [IsKey]
theorem MapFor.keys {es : Array MapEntry} {f : Int → Option Value} (h : MapFor es f) : ∀ x ∈ es.toList, IsKey (.int .i64) x.key := by
  intro x hx
  obtain ⟨i, hi, rfl⟩ := List.getElem_of_mem hx
  obtain ⟨k, hk, _⟩ := h.key i es.toList[i] (by simp at hi ⊢)
  rw [hk]; exact isKey_int k
theorem MapFor.find {es : Array MapEntry} {f : Int → Option Value} (h : MapFor es f) (k : Int) :
    (Instr.findNow (.int .i64) (.int .i64 k) es.toList 0 = some none ∧ f k = none ∧ ∀ (i : Nat) (x : MapEntry), es[i]? = some x → x.key ≠ .int .i64 k) ∨
    ∃ (j : Nat) (e : MapEntry), Instr.findNow (.int .i64) (.int .i64 k) es.toList 0 = some (some (j, e.val)) ∧ es[j]? = some e ∧ e.key = .int .i64 k ∧ f k = some e.val := by
  rcases findNow_spec (isKey_int k) es.toList 0 h.keys with ⟨h1, h2⟩ | ⟨j, e, h1, h2, h3⟩
  · have h2' : ∀ (i : Nat) (x : MapEntry), es[i]? = some x → x.key ≠ .int .i64 k := fun i x hx => h2 x (by have := Array.mem_of_getElem? hx; simpa using this)
    refine .inl ⟨h1, ?_, h2'⟩
    cases hf : f k with
    | none => rfl
    | some v =>
      obtain ⟨i, x, hx, hk⟩ := h.has k v hf
      exact absurd hk (h2' i x hx)
  · have hj : es[j]? = some e := by simpa using h2
    refine .inr ⟨j, e, by simpa using h1, hj, h3, ?_⟩
    obtain ⟨k', hk', hf⟩ := h.key j e hj
    rw [h3] at hk'
    obtain rfl : k = k' := by simpa using hk'
    exact hf

theorem IntMap.lookup {w : World} {b : Nat} {f : Int → Option Value} {t e : TypeId} {z : Value} (ht : Try.prog.underlying t = some (.map 3 e)) (hz : (zeroValue e).run Try.prog w = .ok z w) (h : IntMap w b f) (k : Int) :
    (Instr.lookup t (.map (some b)) (.int .i64 k) false).run Try.prog w = .ok ((f k).getD z) w := by
  obtain ⟨es, clock, hb, hf⟩ := h
  rcases hf.find k with ⟨h1, h2, _⟩ | ⟨j, e0, h1, _, _, h4⟩
  · rw [h2]
    simp [Instr.lookup, run_underlying ht, Go.MapKept.run_getObj_map hb, run_checkKey Try.underlying3 (isKey_int k), run_findKey Try.underlying3 h1, hz, Result.andThen]
  · rw [h4]
    simp [Instr.lookup, run_underlying ht, Go.MapKept.run_getObj_map hb, run_checkKey Try.underlying3 (isKey_int k), run_findKey Try.underlying3 h1, Result.andThen]
theorem IntMap.lookup2 {w : World} {b : Nat} {f : Int → Option Value} {t e : TypeId} {z : Value} (ht : Try.prog.underlying t = some (.map 3 e)) (hz : (zeroValue e).run Try.prog w = .ok z w) (h : IntMap w b f) (k : Int) :
    (Instr.lookup t (.map (some b)) (.int .i64 k) true).run Try.prog w = .ok (.tuple #[(f k).getD z, .bool (f k).isSome]) w := by
  obtain ⟨es, clock, hb, hf⟩ := h
  rcases hf.find k with ⟨h1, h2, _⟩ | ⟨j, e0, h1, _, _, h4⟩
  · rw [h2]
    simp [Instr.lookup, run_underlying ht, Go.MapKept.run_getObj_map hb, run_checkKey Try.underlying3 (isKey_int k), run_findKey Try.underlying3 h1, hz, Result.andThen]
  · rw [h4]
    simp [Instr.lookup, run_underlying ht, Go.MapKept.run_getObj_map hb, run_checkKey Try.underlying3 (isKey_int k), run_findKey Try.underlying3 h1, Result.andThen]

theorem IntMap.update {w : World} {b : Nat} {f : Int → Option Value} {t e : TypeId} (ht : Try.prog.underlying t = some (.map 3 e)) (h : IntMap w b f) (k : Int) (v : Value) :
    ∃ w', (Instr.mapUpdate t (.map (some b)) (.int .i64 k) v).run Try.prog w = .ok () w' ∧ IntMap w' b (put f k v) ∧ (∀ W, Ext W w → W.heap.size ≤ b → Ext W w') ∧ w'.heap.size = w.heap.size ∧ ∀ i, i ≠ b → w'.heap[i]? = w.heap[i]? := by
  obtain ⟨es, clock, hb, hf⟩ := h
  have hx : ∀ o : Obj, ∀ W, Ext W w → W.heap.size ≤ b → Ext W { w with heap := w.heap.setIfInBounds b o } := fun o W hx hW =>
    ⟨hx.os, hx.tape, hx.output, by have := hx.size; simpa using this, fun i hi => by
      have := hx.block hi
      simp only
      rw [Array.getElem?_setIfInBounds_ne (by omega)]
      exact this⟩
  rcases hf.find k with ⟨h1, h2, h3⟩ | ⟨j, e0, h1, h2, h3, h4⟩
  · refine ⟨{ w with heap := w.heap.setIfInBounds b (.map (es.push { key := .int .i64 k, val := v, born := clock }) (clock + 1)) }, ?_, ⟨_, _, (heap_set hb).1, ?_, ?_, ?_⟩, hx _, by simp, (heap_set hb).2⟩
    · simp [Instr.mapUpdate, run_underlying ht, Go.MapKept.run_getObj_map hb, run_checkKey Try.underlying3 (isKey_int k), run_findKey Try.underlying3 h1, Go.MapKept.run_setObj_map _ hb, Result.andThen]
    · intro i x hx
      rw [Array.getElem?_push] at hx
      split at hx
      · cases hx; exact ⟨k, rfl, by simp [put]⟩
      · obtain ⟨k', hk', hf'⟩ := hf.key i x hx
        refine ⟨k', hk', ?_⟩
        unfold put
        rw [if_neg]
        · exact hf'
        · rintro rfl; exact h3 i x hx hk'
    · intro k' v' h'
      unfold put at h'
      by_cases e : k' = k
      · subst e
        exact ⟨es.size, { key := .int .i64 k', val := v, born := clock }, by simp, rfl⟩
      · rw [if_neg e] at h'
        obtain ⟨i, x, hx, hk⟩ := hf.has k' v' h'
        refine ⟨i, x, ?_, hk⟩
        have hi := (Array.getElem?_eq_some_iff.1 hx).1
        rw [Array.getElem?_push, if_neg (by omega)]
        exact hx
    · intro i i' x y hx hy hk
      rw [Array.getElem?_push] at hx hy
      split at hx <;> split at hy
      · omega
      · cases hx; exact absurd hk.symm (h3 _ _ hy)
      · cases hy; exact absurd hk (h3 _ _ hx)
      · exact hf.one i i' x y hx hy hk
  · have hmod : ∀ (i : Nat) (x : MapEntry), (es.modify j fun e => { e with key := .int .i64 k, val := v })[i]? = some x → (i = j ∧ x.key = .int .i64 k ∧ x.val = v) ∨ (i ≠ j ∧ es[i]? = some x) := by
      intro i x hx
      rw [Array.getElem?_modify] at hx
      split at hx
      · rename_i h
        subst h
        rw [h2] at hx
        simp only [Option.map_some, Option.some.injEq] at hx
        subst hx
        exact .inl ⟨rfl, rfl, rfl⟩
      · rename_i h
        exact .inr ⟨fun e => h e.symm, hx⟩
    have hmod' : ∀ (i : Nat) (x : MapEntry), es[i]? = some x → ∃ y : MapEntry, (es.modify j fun e => { e with key := .int .i64 k, val := v })[i]? = some y ∧ y.key = x.key := by
      intro i x hx
      rw [Array.getElem?_modify]
      split
      · rename_i h
        subst h
        rw [h2] at hx ⊢
        cases hx
        exact ⟨_, rfl, h3.symm⟩
      · exact ⟨x, hx, rfl⟩
    refine ⟨{ w with heap := w.heap.setIfInBounds b (.map (es.modify j fun e => { e with key := .int .i64 k, val := v }) clock) }, ?_, ⟨_, _, (heap_set hb).1, ?_, ?_, ?_⟩, hx _, by simp, (heap_set hb).2⟩
    · simp [Instr.mapUpdate, run_underlying ht, Go.MapKept.run_getObj_map hb, run_checkKey Try.underlying3 (isKey_int k), run_findKey Try.underlying3 h1, h2, h3, run_keyThatStays (isKey_int k), Go.MapKept.run_setObj_map _ hb, Result.andThen]
    · intro i x hx
      rcases hmod i x hx with ⟨rfl, hk, hv⟩ | ⟨hne, hx2⟩
      · exact ⟨k, hk, by rw [hv]; simp [put]⟩
      · obtain ⟨k', hk', hf'⟩ := hf.key i x hx2
        refine ⟨k', hk', ?_⟩
        unfold put
        rw [if_neg]
        · exact hf'
        · rintro rfl; exact hne (hf.one i j x e0 hx2 h2 (hk'.trans h3.symm))
    · intro k' v' h'
      unfold put at h'
      by_cases e : k' = k
      · subst e
        obtain ⟨y, hy, hk⟩ := hmod' j e0 h2
        exact ⟨j, y, hy, hk.trans h3⟩
      · rw [if_neg e] at h'
        obtain ⟨i, x, hx, hk⟩ := hf.has k' v' h'
        obtain ⟨y, hy, hk'⟩ := hmod' i x hx
        exact ⟨i, y, hy, hk'.trans hk⟩
    · intro i i' x y hx hy hk
      rcases hmod i x hx with ⟨e1, hk1, -⟩ | ⟨-, hx2⟩ <;> rcases hmod i' y hy with ⟨e2, hk2, -⟩ | ⟨-, hy2⟩
      · rw [e1, e2]
      · rw [e1]; exact hf.one _ _ _ _ h2 hy2 (h3.trans (hk1.symm.trans hk))
      · rw [e2]; exact hf.one _ _ _ _ hx2 h2 (hk.trans (hk2.trans h3.symm))
      · exact hf.one _ _ _ _ hx2 hy2 hk
end Go.Proofs.Ytpmammklklkheaa

/- The asker: the graph and the map of depths. The condition: the list has at most 2^20 numbers. -/
namespace Go.Proofs.Ytpmammklklkheaa
open Go.RowKit
open BigFrame

/-- The asker at block b + 1, its map at block b. -/
structure IsAsker (w : World) (b : Nat) (v : Value) (f : Int → Option Value) : Prop where
  map : IntMap w b f
  graph : w.cell? ⟨b + 1, 0, none⟩ = some v
  known : w.cell? ⟨b + 1, 1, none⟩ = some (.map (some b))
  size : b + 1 < w.heap.size
theorem IsAsker.ext {w w' : World} {b : Nat} {v : Value} {f : Int → Option Value} (h : IsAsker w b v f) (hx : Ext w w') : IsAsker w' b v f :=
  ⟨h.map.ext hx, (hx.cell h.size).trans h.graph, (hx.cell h.size).trans h.known, Nat.lt_of_lt_of_le h.size hx.size⟩

theorem askerOf_c (v : Value) (g : List Int) (w : World) (hv : Rd w v g) :
    Calls Try.prog 53 #[v] w fun e w' => e = .returned (.pointer (some ⟨w.heap.size + 1, 0, none⟩)) ∧ IsAsker w' w.heap.size v (fun _ => none) ∧ Ext w w' := by
  obtain ⟨a, c, rfl⟩ := hv.form
  clear hv
  have hmk : ∀ w : World, (Instr.makeMap 74 none).run Try.prog w = .ok (.map (some w.heap.size)) (w.alloc (.map #[] 0)) := fun w => rfl
  go_enter Try.func53, Try.ntmps53
  go_wp2
  go_ret
  have h1 := World.alloc_heap_new (w.alloc (.map #[] 0)) (.cells #[.slice a g.length c, .map (some w.heap.size)] 76)
  simp only [World.size_alloc] at h1
  obtain ⟨h2, h3⟩ := two_cells h1
  exact ⟨rfl, ⟨(IntMap.empty w).ext ((Ext.refl _).alloc _), h2, h3, by simp⟩, ((Ext.refl w).alloc _).alloc _⟩

set_option maxHeartbeats 400000 in
theorem split_c (b : Nat) (v : Value) (f : Int → Option Value) (g : List Int) (s x : Nat) (w : World) (ha : IsAsker w b v f) (hv : Rd w v g) (hg : IsGraph g) (hs : s ≤ 4095) (hx : x < g.length) :
    Calls Try.prog 117 #[.pointer (some ⟨b + 1, 0, none⟩), .int .i64 s, .int .i64 x] w fun e w' => e = .returned (.tuple #[.int .i64 (qIn g s x : Nat), .int .i64 (without s (qIn g s x) : Nat)]) ∧ Ext w w' := by
  obtain ⟨a, c, rfl⟩ := hv.form
  have HV := Lib.hid hv; have HG := Lib.hid hg
  have c1 := fun u => ((clip_ext w u).cell ha.size (o := 0)).trans ha.graph
  have h3 := ballN_small hg hx
  have e1 := bits_and s (ballN g x) (by omega) (by omega)
  have e2 := bits_andNot s (ballN g x) (by omega) (by omega)
  rw [qIn_without]
  clear hv ha hg
  go_enter Try.func117, Try.ntmps117
  go_wp2
  refine wp_region_ext (by kernel_rfl) (by kernel_rfl) ?_
  repeat (go_big_quiet_step ((go_at_call 80; exact Calls.clip_of (ball_c _ g x _ (HV.out.ext (clip_ext _ _)) HG.out hx))))
  refine wpQuiet_nil ?_
  rintro _ ⟨u, rfl⟩
  go_wp2
  go_ret2
  exact ⟨rfl, clip_ext _ _⟩
end Go.Proofs.Ytpmammklklkheaa

/- Depths of sets, best questions, played questions: plain functions and what holds of them. No program in sight. No condition. -/
namespace Go.Proofs.Ytpmammklklkheaa

/-! ### Counting -/
theorem countP_split {α : Type} (p q : α → Bool) : ∀ l : List α, l.countP (fun i => p i && q i) + l.countP (fun i => p i && !q i) = l.countP p
  | [] => rfl
  | a :: l => by
    have := countP_split p q l
    simp only [List.countP_cons]
    cases p a <;> cases q a <;> simp <;> omega
theorem cnt_split (s t : Nat) : cnt (band s t) + cnt (without s t) = cnt s := by
  unfold cnt
  simp only [testBit_band, testBit_without]
  exact countP_split _ _ _
theorem one_blocks : ∀ a, a < 64 → ∀ b, b < 64 → decide (band (64 * a + b) (64 * a + b - 1) = 0) = decide (cnt (64 * a + b) ≤ 1) := by decide +kernel
theorem one_iff {s : Nat} (h : s ≤ 4095) : band s (s - 1) = 0 ↔ cnt s ≤ 1 := by
  have := one_blocks (s / 64) (by omega) (s % 64) (by omega)
  rw [show 64 * (s / 64) + s % 64 = s from by omega] at this
  simpa using this
theorem zero_blocks : ∀ a, a < 64 → ∀ b, b < 64 → decide (cnt (64 * a + b) = 0) = decide (64 * a + b = 0) := by decide +kernel
theorem cnt_zero {s : Nat} (h : s ≤ 4095) : cnt s = 0 ↔ s = 0 := by
  have := zero_blocks (s / 64) (by omega) (s % 64) (by omega)
  rw [show 64 * (s / 64) + s % 64 = s from by omega] at this
  simpa using this

/-! ### The least of some numbers, at most 99 -/
def minTo (f : Nat → Nat) : Nat → Nat
  | 0 => 99
  | k + 1 => min (minTo f k) (f k)
theorem minTo_le (f : Nat → Nat) : ∀ k, minTo f k ≤ 99
  | 0 => Nat.le_refl _
  | k + 1 => Nat.le_trans (Nat.min_le_left _ _) (minTo_le f k)
theorem minTo_at {f : Nat → Nat} {x : Nat} : ∀ {k : Nat}, x < k → minTo f k ≤ f x
  | 0, h => by omega
  | k + 1, h => by
    by_cases e : x = k
    · subst e; exact Nat.min_le_right _ _
    · exact Nat.le_trans (Nat.min_le_left _ _) (minTo_at (show x < k by omega))
theorem minTo_has (f : Nat → Nat) : ∀ k, minTo f k = 99 ∨ ∃ x, x < k ∧ minTo f k = f x
  | 0 => .inl rfl
  | k + 1 => by
    by_cases h : minTo f k ≤ f k
    · rcases minTo_has f k with e | ⟨x, hx, e⟩
      · exact .inl (by show min _ _ = 99; omega)
      · exact .inr ⟨x, by omega, by show min _ _ = _; omega⟩
    · exact .inr ⟨k, by omega, by show min _ _ = _; omega⟩
theorem minTo_congr {f f' : Nat → Nat} : ∀ {k : Nat}, (∀ x, x < k → f x = f' x) → minTo f k = minTo f' k
  | 0, _ => rfl
  | k + 1, h => by
    show min _ _ = min _ _
    rw [minTo_congr (fun x hx => h x (by omega)), h k (by omega)]

/-! ### Parts of a set -/
theorem band_sub_le (s t : Nat) : band s t ≤ s := Nat.and_le_left
theorem without_sub (s t : Nat) : without s t = band s (without s t) := by
  apply Nat.eq_of_testBit_eq
  intro i
  rw [testBit_band, testBit_without]
  cases s.testBit i <;> simp
theorem without_sub_le (s t : Nat) : without s t ≤ s := by
  rw [without_sub]
  exact band_sub_le _ _
theorem without_ne {s t : Nat} (h : band s t ≠ 0) : without s t ≠ s := by
  intro e
  apply h
  apply Nat.eq_of_testBit_eq
  intro i
  have := congrArg (fun z => Nat.testBit z i) e
  simp only [testBit_without] at this
  rw [testBit_band, Nat.zero_testBit]
  revert this
  cases s.testBit i <;> cases t.testBit i <;> simp
theorem without_zero {s t : Nat} : without s t = 0 ↔ band s t = s := by
  constructor
  · intro e
    apply Nat.eq_of_testBit_eq
    intro i
    have := congrArg (fun z => Nat.testBit z i) e
    simp only [testBit_without, Nat.zero_testBit] at this
    rw [testBit_band]
    revert this
    cases s.testBit i <;> cases t.testBit i <;> simp
  · intro e
    apply Nat.eq_of_testBit_eq
    intro i
    have := congrArg (fun z => Nat.testBit z i) e
    simp only [testBit_band] at this
    rw [testBit_without, Nat.zero_testBit]
    revert this
    cases s.testBit i <;> cases t.testBit i <;> simp
theorem qIn_band (g : List Int) (s x : Nat) : band s (qIn g s x) = qIn g s x := by
  unfold qIn
  apply Nat.eq_of_testBit_eq
  intro i
  simp only [testBit_band]
  cases s.testBit i <;> simp
theorem qIn_lt {g : List Int} {s x : Nat} (h : qIn g s x ≠ s) : qIn g s x < s := Nat.lt_of_le_of_ne (qIn_le g s x) h
theorem qOut_lt {g : List Int} {s x : Nat} (h : qIn g s x ≠ 0) : without s (qIn g s x) < s :=
  Nat.lt_of_le_of_ne (without_sub_le _ _) (without_ne (by rw [qIn_band]; exact h))
theorem qOut_zero {g : List Int} {s x : Nat} : without s (qIn g s x) = 0 ↔ qIn g s x = s := by
  rw [without_zero, qIn_band]
theorem q_cnt (g : List Int) (s x : Nat) : cnt (qIn g s x) + cnt (without s (qIn g s x)) = cnt s := by
  have := cnt_split s (qIn g s x)
  rwa [qIn_band] at this

/-! ### The depth of a set: 99 if no questions tell its nodes -/
def dep (g : List Int) (s : Nat) : Nat :=
  if band s (s - 1) = 0 then 0
  else minTo (fun x => if h : qIn g s x ≠ 0 ∧ qIn g s x ≠ s then 1 + max (dep g (qIn g s x)) (dep g (without s (qIn g s x))) else 99) g.length
termination_by s
decreasing_by
  · exact qIn_lt h.2
  · exact qOut_lt h.1
/-- A question tells something. -/
def tells (g : List Int) (s x : Nat) : Bool := decide (qIn g s x ≠ 0) && decide (qIn g s x ≠ s)
theorem tells_iff {g : List Int} {s x : Nat} : tells g s x = true ↔ qIn g s x ≠ 0 ∧ qIn g s x ≠ s := by simp [tells]
/-- The depth behind a question. -/
def depAt (g : List Int) (s x : Nat) : Nat := if tells g s x then 1 + max (dep g (qIn g s x)) (dep g (without s (qIn g s x))) else 99
def depTo (g : List Int) (s k : Nat) : Nat := minTo (depAt g s) k
theorem dep_one {g : List Int} {s : Nat} (h : band s (s - 1) = 0) : dep g s = 0 := by
  rw [dep, if_pos h]
theorem dep_more {g : List Int} {s : Nat} (h : band s (s - 1) ≠ 0) : dep g s = depTo g s g.length := by
  rw [dep, if_neg h]
  apply minTo_congr
  intro x _
  unfold depAt
  by_cases hc : qIn g s x ≠ 0 ∧ qIn g s x ≠ s
  · rw [dif_pos hc, if_pos (tells_iff.2 hc)]
  · rw [dif_neg hc, if_neg (fun h => hc (tells_iff.1 h))]
theorem dep_le (g : List Int) (s : Nat) : dep g s ≤ 99 := by
  by_cases h : band s (s - 1) = 0
  · rw [dep_one h]; omega
  · rw [dep_more h]; exact minTo_le _ _
/-- A depth is below the number of nodes, or 99. -/
theorem dep_cnt (g : List Int) : ∀ n s : Nat, s ≤ n → s ≤ 4095 → s ≠ 0 → dep g s = 99 ∨ dep g s + 1 ≤ cnt s
  | 0, s, h, _, h0 => by omega
  | n + 1, s, h, hs, h0 => by
    by_cases h1 : band s (s - 1) = 0
    · refine .inr ?_
      rw [dep_one h1]
      have := mt (cnt_zero hs).1 h0
      omega
    · rw [dep_more h1]
      rcases minTo_has (depAt g s) g.length with e | ⟨x, hx, e⟩
      · exact .inl e
      · unfold depTo
        rw [e]
        have hle := minTo_le (depAt g s) g.length
        rw [e] at hle
        unfold depAt at hle ⊢
        split
        · rename_i ht
          rw [if_pos ht] at hle
          have ht := tells_iff.1 ht
          have i1 := qIn_lt ht.2
          have i2 := qOut_lt ht.1
          have i3 := mt qOut_zero.1 ht.2
          have c1 := q_cnt g s x
          rcases dep_cnt g n (qIn g s x) (by omega) (by omega) ht.1 with d1 | d1
          · omega
          · rcases dep_cnt g n (without s (qIn g s x)) (by omega) (by omega) i3 with d2 | d2
            · omega
            · right; omega
        · exact .inl rfl
theorem dep_small {g : List Int} {s : Nat} (hs : s ≤ 4095) (h : dep g s ≠ 99) : dep g s ≤ 11 := by
  by_cases h0 : s = 0
  · subst h0
    rw [dep_one (by decide)]; omega
  · have := cnt_le s
    rcases dep_cnt g s s (Nat.le_refl _) hs h0 with e | e
    · exact absurd e h
    · omega
/-- Depths behind a question that tells something, and is not hopeless. -/
theorem depAt_lt {g : List Int} {s x : Nat} (hs : s ≤ 4095) (h : tells g s x = true) : depAt g s x = 100 ∧ (dep g (qIn g s x) = 99 ∨ dep g (without s (qIn g s x)) = 99) ∨ depAt g s x ≤ 12 ∧ depAt g s x = 1 + max (dep g (qIn g s x)) (dep g (without s (qIn g s x))) ∧ dep g (qIn g s x) ≤ 11 ∧ dep g (without s (qIn g s x)) ≤ 11 := by
  have e : depAt g s x = 1 + max (dep g (qIn g s x)) (dep g (without s (qIn g s x))) := by unfold depAt; rw [if_pos h]
  have ht := tells_iff.1 h
  have i1 := qIn_lt ht.2
  have i2 := qOut_lt ht.1
  have l1 := dep_le g (qIn g s x)
  have l2 := dep_le g (without s (qIn g s x))
  by_cases h1 : dep g (qIn g s x) = 99
  · left; omega
  · by_cases h2 : dep g (without s (qIn g s x)) = 99
    · left; omega
    · have := dep_small (by omega) h1
      have := dep_small (by omega) h2
      right; omega

/-! ### The program's spelling: a depth of 99 is 2^20 -/
def never (d : Nat) : Nat := if d = 99 then 1048576 else d
/-- The greater depth of both parts, 2^20 if one of them is empty. -/
def aft (g : List Int) (s x : Nat) : Nat := if tells g s x then max (never (dep g (qIn g s x))) (never (dep g (without s (qIn g s x)))) else 1048576
theorem aft_never {g : List Int} {s x k : Nat} (hs : s ≤ 4095) (h : ¬ aft g s x < 1048576) : min (minTo (depAt g s) k) (depAt g s x) = minTo (depAt g s) k := by
  have hm := minTo_le (depAt g s) k
  cases ht : tells g s x
  · have : depAt g s x = 99 := by unfold depAt; rw [ht]; rfl
    omega
  · rcases depAt_lt hs ht with ⟨e, -⟩ | ⟨e, e1, e2, e3⟩
    · omega
    · exfalso
      apply h
      unfold aft never
      rw [ht, if_pos rfl, if_neg (by omega), if_neg (by omega)]
      omega
theorem aft_some {g : List Int} {s x : Nat} (hs : s ≤ 4095) (h : aft g s x < 1048576) : depAt g s x = aft g s x + 1 ∧ aft g s x ≤ 11 := by
  unfold aft at h ⊢
  split at h
  · rename_i ht
    rw [if_pos ht]
    rcases depAt_lt hs ht with ⟨e, e1⟩ | ⟨e, e1, e2, e3⟩
    · exfalso
      unfold never at h
      rcases e1 with e1 | e1
      · rw [if_pos e1] at h; omega
      · rw [if_pos e1] at h; omega
    · unfold never
      rw [if_neg (by omega), if_neg (by omega)]
      omega
  · omega
theorem never_min {g : List Int} {s x : Nat} (hs : s ≤ 4095) (h : aft g s x < 1048576) : never (depTo g s (x + 1)) = min (never (depTo g s x)) (aft g s x + 1) := by
  obtain ⟨e, hl⟩ := aft_some hs h
  have hm := minTo_le (depAt g s) x
  show never (min (minTo (depAt g s) x) (depAt g s x)) = min (never (minTo (depAt g s) x)) _
  unfold never
  split <;> split <;> omega
theorem never_keep {g : List Int} {s x : Nat} (hs : s ≤ 4095) (h : ¬ aft g s x < 1048576) : never (depTo g s (x + 1)) = never (depTo g s x) := by
  show never (min (minTo (depAt g s) x) (depAt g s x)) = _
  rw [aft_never hs h]; rfl
theorem never_le (d : Nat) (h : d ≤ 99) : never d ≤ 1048576 := by unfold never; split <;> omega
theorem aft_le (g : List Int) (s x : Nat) : aft g s x ≤ 1048576 := by
  have := never_le _ (dep_le g (qIn g s x))
  have := never_le _ (dep_le g (without s (qIn g s x)))
  unfold aft
  split <;> omega
theorem never_eq {d : Nat} (h : d ≤ 99) : never d = 1048576 ↔ d = 99 := by unfold never; split <;> omega

/-! ### The best question -/
def good (g : List Int) (s x : Nat) : Bool := tells g s x && decide (dep g (qIn g s x) < dep g s) && decide (dep g (without s (qIn g s x)) < dep g s)
theorem good_iff {g : List Int} {s x : Nat} : good g s x = true ↔ (qIn g s x ≠ 0 ∧ qIn g s x ≠ s) ∧ dep g (qIn g s x) < dep g s ∧ dep g (without s (qIn g s x)) < dep g s := by
  unfold good
  simp only [Bool.and_eq_true, decide_eq_true_eq, tells_iff, and_assoc]
def bestTo (g : List Int) (s : Nat) : Nat → Nat → Nat
  | 0, _ => 0
  | d + 1, x => if good g s x then x else bestTo g s d (x + 1)
def bestOf (g : List Int) (s : Nat) : Nat := bestTo g s g.length 0
theorem good_aft {g : List Int} {s x : Nat} (hs : s ≤ 4095) (h : dep g s < 99) : good g s x = true ↔ aft g s x < never (dep g s) := by
  have hd := dep_small hs (show dep g s ≠ 99 by omega)
  have hn : never (dep g s) = dep g s := by unfold never; rw [if_neg (by omega)]
  rw [hn]
  cases ht : tells g s x
  · unfold good aft
    rw [ht]
    simp
    omega
  · unfold good aft
    rw [ht]
    have l1 := dep_le g (qIn g s x)
    have l2 := dep_le g (without s (qIn g s x))
    simp only [Bool.true_and, Bool.and_eq_true, decide_eq_true_eq, if_true]
    unfold never
    constructor
    · rintro ⟨h1, h2⟩
      rw [if_neg (by omega), if_neg (by omega)]
      omega
    · intro h
      split at h <;> split at h <;> omega
theorem good_has {g : List Int} {s : Nat} (hs : s ≤ 4095) (h : dep g s < 99) (h0 : dep g s ≠ 0) : ∃ x, x < g.length ∧ good g s x = true := by
  by_cases h1 : band s (s - 1) = 0
  · exact absurd (dep_one h1) h0
  · have e := dep_more h1 (g := g)
    rcases minTo_has (depAt g s) g.length with e1 | ⟨x, hx, e1⟩
    · exfalso
      unfold depTo at e
      omega
    · refine ⟨x, hx, ?_⟩
      unfold depTo at e
      rw [e1] at e
      have ht : tells g s x = true := by
        cases ht : tells g s x
        · exfalso
          unfold depAt at e
          rw [ht] at e
          simp at e
          omega
        · rfl
      rcases depAt_lt hs ht with ⟨e2, -⟩ | ⟨e2, e3, -⟩
      · omega
      · refine good_iff.2 ⟨tells_iff.1 ht, ?_, ?_⟩ <;> omega
theorem bestTo_good {g : List Int} {s : Nat} : ∀ {d x : Nat}, (∃ y, x ≤ y ∧ y < x + d ∧ good g s y = true) → good g s (bestTo g s d x) = true ∧ bestTo g s d x < x + d
  | 0, x, ⟨y, h1, h2, _⟩ => by omega
  | d + 1, x, ⟨y, h1, h2, h3⟩ => by
    unfold bestTo
    split
    · rename_i h
      exact ⟨h, by omega⟩
    · rename_i h
      have : y ≠ x := fun e => h (e ▸ h3)
      have := bestTo_good (d := d) (x := x + 1) ⟨y, by omega, by omega, h3⟩
      exact ⟨this.1, by omega⟩
theorem best_good {g : List Int} {s : Nat} (hs : s ≤ 4095) (h : dep g s < 99) (h0 : dep g s ≠ 0) : good g s (bestOf g s) = true ∧ bestOf g s < g.length := by
  obtain ⟨x, hx, hg⟩ := good_has hs h h0
  have := bestTo_good (d := g.length) (x := 0) ⟨x, by omega, by omega, hg⟩
  exact ⟨this.1, by have := this.2; unfold bestOf; omega⟩
/-- No node ahead of the best one is good. -/
theorem bestTo_first {g : List Int} {s : Nat} : ∀ {d x y : Nat}, x ≤ y → y < bestTo g s d x → y < x + d → good g s y = false
  | 0, x, y, _, _, _ => by omega
  | d + 1, x, y, h1, h2, h3 => by
    unfold bestTo at h2
    split at h2
    · omega
    · rename_i h
      by_cases e : y = x
      · subst e; simpa using h
      · exact bestTo_first (d := d) (x := x + 1) (by omega) h2 (by omega)
/-- Walking from node to node: the best question is still ahead. -/
theorem best_here {g : List Int} {s x : Nat} (h : good g s x = true) (hx : x < g.length) (hb : ∀ y, y < x → good g s y = false) : bestOf g s = x := by
  have h1 := bestTo_good (g := g) (s := s) (d := g.length) (x := 0) ⟨x, by omega, by omega, h⟩
  have h2 : ¬ x < bestOf g s := fun hlt => by
    have := bestTo_first (g := g) (s := s) (d := g.length) (x := 0) (y := x) (by omega) hlt (by omega)
    rw [h] at this; cases this
  have h3 : ¬ bestOf g s < x := fun hlt => by
    have := hb _ hlt
    have h4 := h1.1
    unfold bestOf at this
    rw [h4] at this; cases this
  omega
theorem best_none {g : List Int} {s : Nat} (hb : ∀ y, y < g.length → good g s y = false) : bestOf g s = 0 := by
  have : ∀ d x, x + d ≤ g.length → bestTo g s d x = 0 := by
    intro d
    induction d with
    | zero => intro x _; rfl
    | succ d ih =>
      intro x hx
      unfold bestTo
      rw [hb x (by omega)]
      exact ih (x + 1) (by omega)
  exact this g.length 0 (by omega)

/-! ### Played questions -/
/-- The set behind the best question. -/
def nextOf (g : List Int) (wrong s : Nat) : Nat := if (qIn g s (bestOf g s)).testBit wrong then qIn g s (bestOf g s) else without s (qIn g s (bestOf g s))
def play (g : List Int) (wrong : Nat) : Nat → Nat → List Nat
  | 0, _ => []
  | d + 1, s => if dep g s = 0 then [] else bestOf g s :: play g wrong d (nextOf g wrong s)
theorem next_facts {g : List Int} {wrong s : Nat} (hs : s ≤ 4095) (h : dep g s < 99) (h0 : dep g s ≠ 0) : nextOf g wrong s ≠ 0 ∧ nextOf g wrong s < s ∧ dep g (nextOf g wrong s) < dep g s := by
  have hb := good_iff.1 (best_good hs h h0).1
  unfold nextOf
  split
  · exact ⟨hb.1.1, qIn_lt hb.1.2, hb.2.1⟩
  · exact ⟨mt qOut_zero.1 hb.1.2, qOut_lt hb.1.1, hb.2.2⟩
theorem dep_pos {g : List Int} {s : Nat} (hs : s ≤ 4095) (h0 : s ≠ 0) : dep g s = 0 ↔ cnt s = 1 := by
  have hz := mt (cnt_zero hs).1 h0
  constructor
  · intro h
    by_cases h1 : band s (s - 1) = 0
    · have := (one_iff hs).1 h1
      omega
    · exfalso
      rw [dep_more h1] at h
      rcases minTo_has (depAt g s) g.length with e | ⟨x, hx, e⟩
      · unfold depTo at h; omega
      · unfold depTo at h
        rw [e] at h
        unfold depAt at h
        split at h <;> omega
  · intro h
    exact dep_one ((one_iff hs).2 (by omega))
end Go.Proofs.Ytpmammklklkheaa
