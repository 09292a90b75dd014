/- The pool with a test for each binary digit: the reference and the program compute the same plain list. No condition. -/
import Derived.Test.YtpmammklklkheaaAppend
import Derived.Test.YtpmammklklkheaaPl
namespace Go.Proofs.Ytpmammklklkheaa
open Go.RowKit
open BigFrame

/-- The items below j whose digit of weight p is 1. -/
def digitTo (p : Nat) : Nat → Nat
  | 0 => 0
  | j + 1 => if j / p % 2 = 1 then bor (digitTo p j) (2 ^ j) else digitTo p j
theorem digitTo_lt (p : Nat) : ∀ j, digitTo p j < 2 ^ j
  | 0 => by simp [digitTo]
  | j + 1 => by
    have h := digitTo_lt p j
    unfold digitTo
    split
    · exact bor_lt (Nat.lt_of_lt_of_le h (Nat.pow_le_pow_right (by omega) (by omega))) (Nat.pow_lt_pow_right (by omega) (by omega))
    · exact Nat.lt_of_lt_of_le h (Nat.pow_le_pow_right (by omega) (by omega))
theorem digitTo_small {p j : Nat} (h : j ≤ 12) : digitTo p j ≤ 4095 := by
  have := digitTo_lt p j
  have := pow_le_12 h
  omega
def digitsTo (n k : Nat) : List Int := (List.range k).map fun i => ((digitTo (2 ^ i) n : Nat) : Int)
theorem digitsTo_succ (n k : Nat) : digitsTo n (k + 1) = digitsTo n k ++ [((digitTo (2 ^ k) n : Nat) : Int)] := by simp [digitsTo, List.range_succ]
theorem digitsTo_length (n k : Nat) : (digitsTo n k).length = k := by simp [digitsTo]
def digitsN (n : Nat) : List Int := digitsTo n ((List.range 5).countP fun k => decide (2 ^ k ≤ n - 1))
def digits (a : Int) : List Int × Bool := if inB 1 a 12 then (digitsN a.toNat, true) else ([], false)
theorem digits_end : ∀ n, n ≤ 12 → ∀ k, k ≤ 4 → (k = 0 ∨ 2 ^ (k - 1) ≤ n - 1) → n - 1 < 2 ^ k → (List.range 5).countP (fun k => decide (2 ^ k ≤ n - 1)) = k := by decide
theorem shr_pos : ∀ n, n ≤ 12 → ∀ k, k ≤ 4 → ((0 < shr (n - 1) k) ↔ 2 ^ k ≤ n - 1) := by decide
theorem bit_div (i k : Nat) : i.testBit k = decide (i / 2 ^ k % 2 = 1) := Nat.testBit_eq_decide_div_mod_eq

/-- What a function that returns a list and whether it holds returns. -/
def listV (v : Value) (b : Bool) : Value := .tuple #[v, .bool b]

theorem quo_cases (j p : Nat) : ∃ d, d ≤ j ∧ ((j : Int) / (p : Int)) = (d : Int) ∧ (((d : Int) % 2 == 1) = decide (j / p % 2 = 1)) := by
  refine ⟨j / p, Nat.div_le_self _ _, by simp, ?_⟩
  rw [show ((j / p : Nat) : Int) % 2 = ((j / p % 2 : Nat) : Int) from rfl]
  by_cases h : j / p % 2 = 1
  · rw [h]; rfl
  · have h0 : j / p % 2 = 0 := by omega
    rw [h0]; rfl

end Go.Proofs.Ytpmammklklkheaa
