/- The plain functions of this seat: graphs, pools. No program in sight. No condition. -/
import Derived.Test.YtpmammklklkheaaPlain
namespace Go.Proofs.Ytpmammklklkheaa

/-! ### Graphs: lists of sets -/
/-- Row i as a number that may be any. -/
def getI (g : List Int) (i : Nat) : Int := g.getD i 0
/-- Row i as a set. -/
def gN (g : List Int) (i : Nat) : Nat := (getI g i).toNat
def rowOk (g : List Int) (i : Nat) : Bool := setB (getI g i) g.length && !(gN g i).testBit i
def symOk (g : List Int) (i k : Nat) : Bool := (gN g i).testBit k == (gN g k).testBit i
def graphIn (g : List Int) : Bool :=
  inB 1 g.length 12 && (List.range g.length).all (rowOk g) && (List.range g.length).all fun i => (List.range g.length).all fun k => symOk g i k
structure IsGraph (g : List Int) : Prop where
  pos : 1 ≤ g.length
  le : g.length ≤ 12
  row : ∀ i, i < g.length → getI g i = (gN g i : Int)
  lt : ∀ i, gN g i < 2 ^ g.length
  self : ∀ i, (gN g i).testBit i = false
  sym : ∀ i k, (gN g i).testBit k = (gN g k).testBit i
theorem getI_out {g : List Int} {i : Nat} (h : g.length ≤ i) : getI g i = 0 := by simp [getI, h]
theorem gN_out {g : List Int} {i : Nat} (h : g.length ≤ i) : gN g i = 0 := by simp [gN, getI_out h]
theorem row_of_set {g : List Int} {i : Nat} (h : setB (getI g i) g.length = true) : getI g i = (gN g i : Int) ∧ gN g i < 2 ^ g.length := by
  obtain ⟨m, hm, hlt⟩ := setB_iff.1 h
  unfold gN
  rw [hm]
  exact ⟨rfl, by simpa using hlt⟩
theorem testBit_out {x n i : Nat} (h : x < 2 ^ n) (hi : n ≤ i) : x.testBit i = false :=
  Nat.testBit_lt_two_pow (Nat.lt_of_lt_of_le h (Nat.pow_le_pow_right (by omega) hi))
theorem graphIn_iff {g : List Int} : graphIn g = true ↔ IsGraph g := by
  unfold graphIn
  simp only [Bool.and_eq_true, List.all_eq_true, List.mem_range, inB_iff, rowOk, symOk, beq_iff_eq, Bool.not_eq_true']
  constructor
  · rintro ⟨⟨⟨h1, h2⟩, h3⟩, h4⟩
    have hlt : ∀ i, gN g i < 2 ^ g.length := fun i => by
      by_cases hi : i < g.length
      · exact (row_of_set (h3 i hi).1).2
      · rw [gN_out (by omega)]; exact Nat.two_pow_pos _
    have hself : ∀ i, (gN g i).testBit i = false := fun i => by
      by_cases hi : i < g.length
      · exact (h3 i hi).2
      · rw [gN_out (by omega)]; exact Nat.zero_testBit _
    refine ⟨by omega, by omega, fun i hi => (row_of_set (h3 i hi).1).1, hlt, hself, fun i k => ?_⟩
    by_cases hi : i < g.length
    · by_cases hk : k < g.length
      · exact h4 i hi k hk
      · rw [testBit_out (hlt i) (by omega), gN_out (i := k) (by omega), Nat.zero_testBit]
    · by_cases hk : k < g.length
      · rw [testBit_out (hlt k) (by omega), gN_out (i := i) (by omega), Nat.zero_testBit]
      · rw [gN_out (i := i) (by omega), gN_out (i := k) (by omega), Nat.zero_testBit, Nat.zero_testBit]
  · intro h
    refine ⟨⟨⟨by have := h.pos; omega, by have := h.le; omega⟩, fun i hi => ⟨setB_iff.2 ⟨gN g i, h.row i hi, h.lt i⟩, h.self i⟩⟩, fun i _ k _ => h.sym i k⟩
theorem graphIn_len {g : List Int} (h : inB 1 g.length 12 = false) : graphIn g = false := by simp [graphIn, h]
theorem graphIn_row {g : List Int} {i : Nat} (hi : i < g.length) (h : rowOk g i = false) : graphIn g = false := by
  cases hg : graphIn g
  · rfl
  · have := graphIn_iff.1 hg
    unfold rowOk at h
    rw [setB_iff.2 ⟨gN g i, this.row i hi, this.lt i⟩, this.self i] at h
    cases h
theorem graphIn_sym {g : List Int} {i k : Nat} (h : (gN g i).testBit k ≠ (gN g k).testBit i) : graphIn g = false := by
  cases hg : graphIn g
  · rfl
  · exact absurd ((graphIn_iff.1 hg).sym i k) h
theorem graphIn_of {g : List Int} (h0 : inB 1 g.length 12 = true) (h1 : ∀ i, i < g.length → rowOk g i = true) (h2 : ∀ i, i < g.length → ∀ k, k < g.length → (gN g i).testBit k = (gN g k).testBit i) : graphIn g = true := by
  unfold graphIn
  simp only [Bool.and_eq_true, List.all_eq_true, List.mem_range, symOk, beq_iff_eq]
  exact ⟨⟨h0, h1⟩, h2⟩

/-! ### Pools -/
def poolIn (items : Int) (tests : List Int) : Bool := inB 1 items 12 && decide (tests.length ≤ 16) && tests.all fun s => setB s items.toNat
structure IsPool (n : Nat) (tests : List Int) : Prop where
  pos : 1 ≤ n
  le : n ≤ 12
  len : tests.length ≤ 16
  row : ∀ i, i < tests.length → getI tests i = (gN tests i : Int)
  lt : ∀ i, gN tests i < 2 ^ n
theorem poolIn_iff {items : Int} {tests : List Int} : poolIn items tests = true ↔ ∃ n : Nat, items = n ∧ IsPool n tests := by
  unfold poolIn
  simp only [Bool.and_eq_true, inB_iff, List.all_eq_true, decide_eq_true_eq]
  constructor
  · rintro ⟨⟨⟨h1, h2⟩, h3⟩, h4⟩
    have hrow : ∀ i, i < tests.length → ∃ m : Nat, getI tests i = m ∧ m < 2 ^ items.toNat := fun i hi => by
      apply setB_iff.1
      apply h4
      unfold getI
      simp [hi]
    refine ⟨items.toNat, by omega, by omega, by omega, h3, fun i hi => ?_, fun i => ?_⟩
    · obtain ⟨m, hm, _⟩ := hrow i hi
      unfold gN; rw [hm]; rfl
    · by_cases hi : i < tests.length
      · obtain ⟨m, hm, hlt⟩ := hrow i hi
        unfold gN; rw [hm]; simpa using hlt
      · rw [gN_out (by omega)]; exact Nat.two_pow_pos _
  · rintro ⟨n, rfl, h⟩
    refine ⟨⟨⟨by have := h.pos; omega, by have := h.le; omega⟩, h.len⟩, fun s hs => ?_⟩
    obtain ⟨i, hi, rfl⟩ := List.getElem_of_mem hs
    have := h.row i hi
    unfold getI at this
    rw [List.getD_eq_getElem?_getD, List.getElem?_eq_getElem hi, Option.getD_some] at this
    rw [this]
    exact setB_iff.2 ⟨_, rfl, h.lt i⟩
def answersTo (tests : List Int) (wrong : Nat) : Nat → Nat
  | 0 => 0
  | k + 1 => if band (gN tests k) wrong ≠ 0 then bor (answersTo tests wrong k) (2 ^ k) else answersTo tests wrong k
def answersOf (tests : List Int) (wrong : Nat) : Nat := answersTo tests wrong tests.length
theorem answersTo_lt (tests : List Int) (wrong : Nat) : ∀ k, answersTo tests wrong k < 2 ^ k
  | 0 => by simp [answersTo]
  | k + 1 => by
    have h := answersTo_lt tests wrong k
    unfold answersTo
    split
    · exact bor_lt (Nat.lt_of_lt_of_le h (Nat.pow_le_pow_right (by omega) (by omega))) (Nat.pow_lt_pow_right (by omega) (by omega))
    · exact Nat.lt_of_lt_of_le h (Nat.pow_le_pow_right (by omega) (by omega))
def leftTo (n : Nat) (tests : List Int) (answers : Nat) : Nat → Nat
  | 0 => 2 ^ n - 1
  | k + 1 => if answers.testBit k then leftTo n tests answers k else without (leftTo n tests answers k) (gN tests k)
def leftOf (n : Nat) (tests : List Int) (answers : Nat) : Nat := leftTo n tests answers tests.length
theorem leftTo_lt (n : Nat) (tests : List Int) (answers : Nat) : ∀ k, leftTo n tests answers k < 2 ^ n
  | 0 => by have := Nat.two_pow_pos n; simp [leftTo]; omega
  | k + 1 => by
    have h := leftTo_lt n tests answers k
    unfold leftTo
    split
    · exact h
    · exact without_lt h

end Go.Proofs.Ytpmammklklkheaa
