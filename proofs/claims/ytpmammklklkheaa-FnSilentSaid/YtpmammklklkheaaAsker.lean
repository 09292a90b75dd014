/- The asker: the graph and the map of depths. The condition: the list has at most 2^20 numbers. -/
import Derived.Test.YtpmammklklkheaaBall
import Derived.Test.YtpmammklklkheaaMap
namespace Go.Proofs.Ytpmammklklkheaa
open Go.RowKit
open BigFrame

/-- The asker at block b + 1, its map at block b. -/
structure IsAsker (w : World) (b : Nat) (v : Value) (f : Int → Option Value) : Prop where
  map : IntMap w b f
  graph : w.cell? ⟨b + 1, 0, none⟩ = some v
  known : w.cell? ⟨b + 1, 1, none⟩ = some (.map (some b))
  size : b + 1 < w.heap.size
theorem IsAsker.ext {w w' : World} {b : Nat} {v : Value} {f : Int → Option Value} (h : IsAsker w b v f) (hx : Ext w w') : IsAsker w' b v f :=
  ⟨h.map.ext hx, (hx.cell h.size).trans h.graph, (hx.cell h.size).trans h.known, Nat.lt_of_lt_of_le h.size hx.size⟩
theorem two_cells {W : World} {b : Nat} {v u : Value} {t : TypeId} (h : W.heap[b]? = some (.cells #[v, u] t (0, 0))) : W.cell? ⟨b, 0, none⟩ = some v ∧ W.cell? ⟨b, 1, none⟩ = some u := by
  constructor <;> simp [World.cell?, h]

theorem askerOf_c (v : Value) (g : List Int) (w : World) (hv : Rd w v g) :
    Calls Try.prog 53 #[v] w fun e w' => e = .returned (.pointer (some ⟨w.heap.size + 1, 0, none⟩)) ∧ IsAsker w' w.heap.size v (fun _ => none) ∧ Ext w w' := by
  obtain ⟨a, c, rfl⟩ := hv.form
  clear hv
  have hmk : ∀ w : World, (Instr.makeMap 74 none).run Try.prog w = .ok (.map (some w.heap.size)) (w.alloc (.map #[] 0)) := fun w => rfl
  go_enter Try.func53, Try.ntmps53
  go_wp2
  go_ret
  have h1 := World.alloc_heap_new (w.alloc (.map #[] 0)) (.cells #[.slice a g.length c, .map (some w.heap.size)] 76)
  simp only [World.size_alloc] at h1
  obtain ⟨h2, h3⟩ := two_cells h1
  exact ⟨rfl, ⟨(IntMap.empty w).ext ((Ext.refl _).alloc _), h2, h3, by simp⟩, ((Ext.refl w).alloc _).alloc _⟩

set_option maxHeartbeats 400000 in
theorem split_c (b : Nat) (v : Value) (f : Int → Option Value) (g : List Int) (s x : Nat) (w : World) (ha : IsAsker w b v f) (hv : Rd w v g) (hg : IsGraph g) (hs : s ≤ 4095) (hx : x < g.length) :
    Calls Try.prog 117 #[.pointer (some ⟨b + 1, 0, none⟩), .int .i64 s, .int .i64 x] w fun e w' => e = .returned (.tuple #[.int .i64 (qIn g s x : Nat), .int .i64 (without s (qIn g s x) : Nat)]) ∧ Ext w w' := by
  obtain ⟨a, c, rfl⟩ := hv.form
  have HV := Lib.hid hv; have HG := Lib.hid hg
  have c1 := fun u => ((clip_ext w u).cell ha.size (o := 0)).trans ha.graph
  have h3 := ballN_small hg hx
  have e1 := bits_and s (ballN g x) (by omega) (by omega)
  have e2 := bits_andNot s (ballN g x) (by omega) (by omega)
  rw [qIn_without]
  clear hv ha hg
  go_enter Try.func117, Try.ntmps117
  go_wp2
  refine wp_region_ext (by kernel_rfl) (by kernel_rfl) ?_
  repeat (go_big_quiet_step ((go_at_call 80; exact Calls.clip_of (ball_c _ g x _ (HV.out.ext (clip_ext _ _)) HG.out hx))))
  refine wpQuiet_nil ?_
  rintro _ ⟨u, rfl⟩
  go_wp2
  go_ret2
  exact ⟨rfl, clip_ext _ _⟩
end Go.Proofs.Ytpmammklklkheaa
