/- The least set of wrong items with some answers: the reference and the program compute the same plain function. The condition: the list has at most 2^20 numbers. -/
import Derived.Test.YtdoadigekmlnpaaAns
import Derived.Test.YtdoadigekmlnpaaVar
namespace Go.Proofs.Ytdoadigekmlnpaa
open Go.RowKit
open BigFrame
attribute [local go_sem] Oper.semAt_some

/-- The least number below N with p, and whether there is one. -/
def leastP (p : Nat → Bool) (N : Nat) : Int × Bool :=
  match (List.range N).find? p with
  | some k => ((k : Nat), true)
  | none => (0, false)
theorem leastP_none {p : Nat → Bool} {N : Nat} (h : ∀ j, j < N → p j = false) : leastP p N = (0, false) := by
  unfold leastP
  rw [List.find?_eq_none.2 (fun x hx => by rw [h x (List.mem_range.1 hx)]; decide)]
theorem leastP_some {p : Nat → Bool} {N k : Nat} (hk : k < N) (h : ∀ j, j < k → p j = false) (hp : p k = true) : leastP p N = (((k : Nat) : Int), true) := by
  unfold leastP
  rw [show (List.range N).find? p = some k from by
    rw [List.find?_range_eq_some]
    exact ⟨hp, List.mem_range.2 hk, fun j hj => by rw [h j hj]; rfl⟩]
def goodB (tests : List Int) (d a k : Nat) : Bool := fewB d k && (answersOf tests k == a)
def poolDecode (items : Int) (tests : List Int) (d answers : Int) : Int × Bool :=
  if poolIn items tests && inB 0 d 3 && setB answers tests.length then leastP (goodB tests d.toNat answers.toNat) (2 ^ items.toNat) else (0, false)
theorem answersOf_small {n : Nat} {tests : List Int} (h : IsPool n tests) (m : Nat) : answersOf tests m ≤ 65535 := answersTo_small h.len
theorem few_iff {d k : Nat} : fewB d k = true ↔ cnt k ≤ d := by simp [fewB]

end Go.Proofs.Ytdoadigekmlnpaa
