/- Variables of the call's own; ways out with results that lie in such variables. No condition. -/
import Derived.Test.YtpmammklklkheaaGraphI
import Derived.Test.YtpmammklklkheaaAns
namespace Go.Proofs.Ytpmammklklkheaa
open Go.RowKit
open BigFrame

/-- Block b is a variable that holds v. -/
structure Var (w : World) (b : Nat) (v : Value) : Prop where
  cell : w.cell? ⟨b, 0, none⟩ = some v
  frozen : w.frozen? ⟨b, 0, none⟩ = false
  lt : b < w.heap.size
theorem Var.ext {w w' : World} {b : Nat} {v : Value} (h : Var w b v) (hx : Ext w w') : Var w' b v :=
  ⟨(hx.cell h.lt).trans h.cell, (hx.frozen h.lt).trans h.frozen, Nat.lt_of_lt_of_le h.lt hx.size⟩
theorem Var.set {w : World} {b : Nat} {v : Value} (h : Var w b v) (u : Value) : Var (w.setCell ⟨b, 0, none⟩ u) b u :=
  ⟨cell_set h.cell, by simpa using h.frozen, by simpa using h.lt⟩
theorem Var.other {w : World} {b c : Nat} {v : Value} (h : Var w b v) (hne : b ≠ c) (u : Value) : Var (w.setCell ⟨c, 0, none⟩ u) b v :=
  ⟨(World.cell?_setCell_other _ _ _ _ (fun h => hne (congrArg Addr.block h).symm)).trans h.cell, by simpa using h.frozen, by simpa using h.lt⟩
theorem Var.new (w : World) (v : Value) (t : TypeId) : Var (w.alloc (.cells #[v] t)) w.heap.size v := by
  have h := cell_of_heap (World.alloc_heap_new w (.cells #[v] t))
  exact ⟨h.1, h.2, by simp⟩
theorem two_cells {W : World} {b : Nat} {v u : Value} {t : TypeId} (h : W.heap[b]? = some (.cells #[v, u] t (0, 0))) : W.cell? ⟨b, 0, none⟩ = some v ∧ W.cell? ⟨b, 1, none⟩ = some u := by
  constructor <;> simp [World.cell?, h]
/-- Two results that lie in variables of their own. -/
theorem results_pair {fn : Func} {p q : Tmp} {b c : Nat} {x : Int} {y : Bool} (h : fn.results = #[.cell p 3, .cell q 4]) (tmps : Array Value) (W : World)
    (hp : tmps.getD p undef = .pointer (some ⟨b, 0, none⟩)) (hq : tmps.getD q undef = .pointer (some ⟨c, 0, none⟩)) (hb : W.cell? ⟨b, 0, none⟩ = some (.int .i64 x)) (hc : W.cell? ⟨c, 0, none⟩ = some (.bool y)) :
    (results fn tmps).run Try.prog W = .ok (.tuple #[.int .i64 x, .bool y]) W := by
  have hp' : tmps[p]?.getD undef = .pointer (some ⟨b, 0, none⟩) := by simpa using hp
  have hq' : tmps[q]?.getD undef = .pointer (some ⟨c, 0, none⟩) := by simpa using hq
  simp only [results, h]
  simp [go_sem, hp', hq', hb, hc]
theorem leave_pair {fn : Func} {p q : Tmp} {b c : Nat} {x : Int} {y : Bool} {r : Int × Bool} {w W : World} {tmps : Array Value} {ds : List Deferred} (hr : fn.results = #[.cell p 3, .cell q 4])
    (hp : tmps.getD p undef = .pointer (some ⟨b, 0, none⟩)) (hq : tmps.getD q undef = .pointer (some ⟨c, 0, none⟩)) (hb : W.cell? ⟨b, 0, none⟩ = some (.int .i64 x)) (hc : W.cell? ⟨c, 0, none⟩ = some (.bool y))
    (hm : Marks w.heap.size W ds) (hx : Ext w W) (hxy : (x, y) = r) :
    LeavesInM Fence.wide 0 Try.prog fn tmps (fun e w' => e = .returned (pairV r) ∧ Ext w w') ds .returning W :=
  leaves_marks (B := w.heap.size) (.tuple #[.int .i64 x, .bool y]) _ _ hm fun _ hW' => ⟨results_pair hr _ _ hp hq (hW'.cell hb) (hW'.cell hc), ret_pair' hxy, hx.book (Nat.le_refl _) hW'⟩
/-- Three variables that have just been laid. -/
theorem three_new (w : World) (x y z : Value) (t u s : TypeId) :
    ∃ W, W = ((w.alloc (.cells #[x] t)).alloc (.cells #[y] u)).alloc (.cells #[z] s) ∧ Ext w W ∧ W.heap.size = w.heap.size + 3 ∧ Var W w.heap.size x ∧ Var W (w.heap.size + 1) y ∧ Var W (w.heap.size + 1 + 1) z := by
  refine ⟨_, rfl, (((Ext.refl w).alloc _).alloc _).alloc _, by simp, ((Var.new w x t).ext (((Ext.refl _).alloc _).alloc _)), ?_, ?_⟩
  · have := (Var.new (w.alloc (.cells #[x] t)) y u).ext ((Ext.refl _).alloc (.cells #[z] s))
    simpa using this
  · have := Var.new ((w.alloc (.cells #[x] t)).alloc (.cells #[y] u)) z s
    simpa using this
end Go.Proofs.Ytpmammklklkheaa
