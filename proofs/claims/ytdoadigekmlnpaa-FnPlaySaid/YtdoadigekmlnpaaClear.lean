/- Whether a pool is clear: the reference and the program compute the same plain function. The condition: the list has at most 2^20 numbers. -/
import Derived.Test.YtdoadigekmlnpaaVar
namespace Go.Proofs.Ytdoadigekmlnpaa
open Go.RowKit
open BigFrame
attribute [local go_sem] Oper.semAt_some

def clearT (i s : Nat) (x : Int) : Bool := x.toNat.testBit i && (band x.toNat s == 0)
def clearI (tests : List Int) (d i k : Nat) : Bool := !(fewB d k && !k.testBit i) || tests.any (clearT i k)
def clearRow (tests : List Int) (d N i : Nat) : Bool := (List.range N).all (clearI tests d i)
def poolClear (items : Int) (tests : List Int) (d : Int) : Bool := poolIn items tests && inB 0 d 3 && (List.range items.toNat).all (clearRow tests d.toNat (2 ^ items.toNat))
theorem range_all_false {N k : Nat} {p : Nat → Bool} (hk : k < N) (h : p k = false) : (List.range N).all p = false := by
  rw [List.all_eq_false]; exact ⟨k, List.mem_range.2 hk, by rw [h]; decide⟩
theorem range_all_true {N : Nat} {p : Nat → Bool} (h : ∀ k, k < N → p k = true) : (List.range N).all p = true := by
  rw [List.all_eq_true]; exact fun k hk => h k (List.mem_range.1 hk)
theorem any_take_succ {xs : List Int} {p : Int → Bool} {k : Nat} (hk : k < xs.length) : (xs.take (k + 1)).any p = ((xs.take k).any p || p (getI xs k)) := by
  rw [List.take_succ_eq_append_getElem hk, List.any_append]
  simp [getI, hk]
theorem few_iff2 {d k : Nat} : fewB d k = true ↔ cnt k ≤ d := by simp [fewB]

end Go.Proofs.Ytdoadigekmlnpaa
