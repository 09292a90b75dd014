/- The plain functions that the contracts of this seat speak of: sets as numbers, graphs as lists of sets. No program in sight. No condition. -/
namespace Go.Proofs.Ytpmammklklkheaa

/-- A number lies in a range. -/
def inB (lo n hi : Int) : Bool := decide (lo ≤ n) && decide (n ≤ hi)
/-- A number is a set of the first n nodes. -/
def setB (s : Int) (n : Nat) : Bool := inB 0 s (((2 ^ n : Nat) : Int) - 1)
theorem inB_iff {lo n hi : Int} : inB lo n hi = true ↔ lo ≤ n ∧ n ≤ hi := by simp [inB]
theorem inB_not {lo n hi : Int} : inB lo n hi = false ↔ n < lo ∨ hi < n := by
  rw [← Bool.not_eq_true, inB_iff]; omega
theorem setB_iff {s : Int} {n : Nat} : setB s n = true ↔ ∃ m : Nat, s = m ∧ m < 2 ^ n := by
  unfold setB
  rw [inB_iff]
  constructor
  · rintro ⟨h1, h2⟩
    exact ⟨s.toNat, by omega, by omega⟩
  · rintro ⟨m, rfl, h⟩
    omega
theorem pow_le_12 {n : Nat} (h : n ≤ 12) : 2 ^ n ≤ 4096 := Nat.pow_le_pow_right (n := 2) (by omega) h
theorem pow_le_16 {n : Nat} (h : n ≤ 16) : 2 ^ n ≤ 65536 := Nat.pow_le_pow_right (n := 2) (by omega) h

/-! ### Sets as numbers, behind names of their own -/
def band (x y : Nat) : Nat := x &&& y
def bor (x y : Nat) : Nat := x ||| y
def bxor (x y : Nat) : Nat := x ^^^ y
def shr (x k : Nat) : Nat := x >>> k
/-- x without the nodes of y. -/
def without (x y : Nat) : Nat := x ^^^ (x &&& y)
theorem without_lt {x y n : Nat} (hx : x < 2 ^ n) : without x y < 2 ^ n := Nat.xor_lt_two_pow hx (Nat.lt_of_le_of_lt Nat.and_le_left hx)
theorem testBit_without (x y i : Nat) : (without x y).testBit i = (x.testBit i && !y.testBit i) := by
  unfold without
  rw [Nat.testBit_xor, Nat.testBit_and]
  cases x.testBit i <;> cases y.testBit i <;> rfl
theorem testBit_band (x y i : Nat) : (band x y).testBit i = (x.testBit i && y.testBit i) := Nat.testBit_and x y i
theorem testBit_bor (x y i : Nat) : (bor x y).testBit i = (x.testBit i || y.testBit i) := Nat.testBit_or x y i
theorem testBit_bxor (x y i : Nat) : (bxor x y).testBit i = (x.testBit i ^^ y.testBit i) := Nat.testBit_xor x y i
theorem band_lt {x y n : Nat} (hx : x < 2 ^ n) : band x y < 2 ^ n := Nat.lt_of_le_of_lt Nat.and_le_left hx
theorem band_le (x y : Nat) : band x y ≤ y := Nat.and_le_right
theorem bor_lt {x y n : Nat} (hx : x < 2 ^ n) (hy : y < 2 ^ n) : bor x y < 2 ^ n := Nat.or_lt_two_pow hx hy
theorem bxor_lt {x y n : Nat} (hx : x < 2 ^ n) (hy : y < 2 ^ n) : bxor x y < 2 ^ n := Nat.xor_lt_two_pow hx hy

/-- How many of the first 12 nodes are in a set. -/
def cnt (s : Nat) : Nat := (List.range 12).countP fun i => s.testBit i
theorem cnt_le (s : Nat) : cnt s ≤ 12 := by
  unfold cnt
  exact Nat.le_trans List.countP_le_length (by simp)

/-- The number of ones of a number of 64 bits, as Go's library counts them. -/
def pop64 (x : Nat) : Nat :=
  let x := band (x / 2) 6148914691236517205 + band x 6148914691236517205
  let x := band (x / 4) 3689348814741910323 + band x 3689348814741910323
  let x := band (x / 16 + x) 1085102592571150095
  let x := x + x / 256
  let x := x + x / 65536
  let x := x + x / 4294967296
  band x 127
theorem pop64_blocks : ∀ a, a < 64 → ∀ b, b < 64 → pop64 (64 * a + b) = cnt (64 * a + b) := by decide +kernel
theorem pop64_small (i : Nat) (h : i < 4096) : pop64 i = cnt i := by
  have := pop64_blocks (i / 64) (by omega) (i % 64) (by omega)
  rwa [show 64 * (i / 64) + i % 64 = i from by omega] at this
theorem pop64_le (x : Nat) : pop64 x ≤ 127 := band_le _ _

end Go.Proofs.Ytpmammklklkheaa
