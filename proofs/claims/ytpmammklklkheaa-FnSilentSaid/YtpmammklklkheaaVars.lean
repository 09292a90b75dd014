/- Variables of the call's own beside loops over functions; a way out with a list. No condition. -/
import Derived.Test.YtpmammklklkheaaBalls
import Derived.Test.YtpmammklklkheaaDigits
import Derived.Test.YtpmammklklkheaaVar
import Derived.Test.YtpmammklklkheaaBridge
namespace Go.Proofs.Ytpmammklklkheaa
open Go.RowKit
open BigFrame
attribute [local go_sem] Oper.semAt_some

theorem Var.book {B : Nat} {w w' : World} {b : Nat} {v : Value} (h : Var w b v) (hB : Book B w w') (hb : b < B) : Var w' b v := by
  obtain ⟨o, ho⟩ : ∃ o, w.heap[b]? = some o := ⟨_, Array.getElem?_eq_getElem h.lt⟩
  have ho' := hB.block _ _ ho (.inl hb)
  refine ⟨?_, ?_, Nat.lt_of_lt_of_le h.lt hB.size⟩
  · rw [← h.cell]; unfold World.cell?; simp only [ho, ho']
  · rw [← h.frozen]; unfold World.frozen?; simp only [ho, ho']
theorem Var.grown {w w' : World} {b : Nat} {v : Value} {row : Option Nat} (h : Var w b v) (hg : w.grownBy w' row) (hne : some b ≠ row) : Var w' b v := by
  have e := hg.block b h.lt hne
  refine ⟨?_, ?_, Nat.lt_of_lt_of_le h.lt hg.size⟩
  · rw [← h.cell]; unfold World.cell?; simp only [e]
  · rw [← h.frozen]; unfold World.frozen?; simp only [e]
theorem leave_list {fn : Func} {p q : Tmp} {v : Value} {b : Bool} {xs : List Int} {r : List Int × Bool} {w W : World} {tmps : Array Value} {ds : List Deferred} (hr : fn.results = #[.tmp p, .tmp q])
    (hp : tmps.getD p undef = v) (hq : tmps.getD q undef = .bool b) (hm : Marks w.heap.size W ds) (ho : Own W w.heap.size v xs) (hx : Ext w W) (hxy : (xs, b) = r) :
    LeavesInM Fence.wide 0 Try.prog fn tmps (fun e w' => ∃ v, e = .returned (listV v r.2) ∧ Own w' w.heap.size v r.1 ∧ Ext w w') ds .returning W := by
  subst hxy
  refine leaves_marks (B := w.heap.size) (listV v b) _ _ hm fun W' hW' => ⟨?_, v, rfl, ho.book hW', hx.book (Nat.le_refl _) hW'⟩
  rw [results_tmp2 hr, hp, hq]
  rfl

end Go.Proofs.Ytpmammklklkheaa
