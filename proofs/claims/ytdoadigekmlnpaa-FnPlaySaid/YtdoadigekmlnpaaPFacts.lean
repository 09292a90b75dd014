/- What holds of pools: answers, what is left, what tells, what is clear. No program in sight. No condition. -/
import Derived.Test.YtdoadigekmlnpaaClear
import Derived.Test.YtdoadigekmlnpaaDecode
import Derived.Test.YtdoadigekmlnpaaTells
import Derived.Test.YtdoadigekmlnpaaDigits
import Derived.Test.YtdoadigekmlnpaaDep
namespace Go.Proofs.Ytdoadigekmlnpaa

theorem band_ne {x y : Nat} : band x y ≠ 0 ↔ ∃ i, x.testBit i = true ∧ y.testBit i = true := by
  constructor
  · intro h
    apply Classical.byContradiction
    intro hn
    apply h
    apply Nat.eq_of_testBit_eq
    intro i
    rw [testBit_band, Nat.zero_testBit]
    cases hx : x.testBit i
    · rfl
    · cases hy : y.testBit i
      · rfl
      · exact absurd ⟨i, hx, hy⟩ hn
  · rintro ⟨i, h1, h2⟩ e
    have h := testBit_band x y i
    rw [e, h1, h2, Nat.zero_testBit] at h
    cases h
theorem ne_bit {x y : Nat} (h : x ≠ y) : ∃ i, x.testBit i ≠ y.testBit i := by
  apply Classical.byContradiction
  intro hn
  apply h
  apply Nat.eq_of_testBit_eq
  intro i
  apply Classical.byContradiction
  intro h'
  exact hn ⟨i, h'⟩
theorem bit_lt {x n i : Nat} (hx : x < 2 ^ n) (h : x.testBit i = true) : i < n := by
  rcases Nat.lt_or_ge i n with h' | h'
  · exact h'
  · rw [testBit_out hx h'] at h; cases h
theorem testBit_answersTo (tests : List Int) (wrong j : Nat) : ∀ k, (answersTo tests wrong k).testBit j = (decide (j < k) && decide (band (gN tests j) wrong ≠ 0))
  | 0 => by simp [answersTo]
  | k + 1 => by
    have ih := testBit_answersTo tests wrong j k
    have h2 : (2 ^ k).testBit j = decide (k = j) := Nat.testBit_two_pow
    by_cases e : k = j
    · subst e
      unfold answersTo
      split
      · rename_i h
        rw [testBit_bor, h2, ih]
        simp [h]
      · rename_i h
        rw [ih]
        simp [h]
    · have h3 : decide (j < k + 1) = decide (j < k) := by
        by_cases h : j < k
        · rw [decide_eq_true h, decide_eq_true (by omega)]
        · rw [decide_eq_false h, decide_eq_false (by omega)]
      rw [h3]
      unfold answersTo
      split
      · rw [testBit_bor, h2, ih, decide_eq_false e, Bool.or_false]
      · exact ih
theorem answers_bit {tests : List Int} {wrong j : Nat} : (answersOf tests wrong).testBit j = true ↔ j < tests.length ∧ band (gN tests j) wrong ≠ 0 := by
  unfold answersOf
  rw [testBit_answersTo, Bool.and_eq_true, decide_eq_true_iff, decide_eq_true_iff]
theorem leftTo_bit (n : Nat) (tests : List Int) (a i : Nat) : ∀ k, (leftTo n tests a k).testBit i = true ↔ i < n ∧ ∀ j, j < k → a.testBit j = true ∨ (gN tests j).testBit i = false
  | 0 => by
    show (2 ^ n - 1).testBit i = true ↔ _
    rw [Nat.testBit_two_pow_sub_one]
    simp
  | k + 1 => by
    have ih := leftTo_bit n tests a i k
    unfold leftTo
    split
    · rename_i h
      rw [ih]
      constructor
      · rintro ⟨h1, h2⟩
        refine ⟨h1, fun j hj => ?_⟩
        by_cases e : j = k
        · subst e; exact .inl h
        · exact h2 j (by omega)
      · rintro ⟨h1, h2⟩
        exact ⟨h1, fun j hj => h2 j (by omega)⟩
    · rename_i h
      rw [testBit_without, Bool.and_eq_true, ih, Bool.not_eq_true']
      constructor
      · rintro ⟨⟨h1, h2⟩, h3⟩
        refine ⟨h1, fun j hj => ?_⟩
        by_cases e : j = k
        · subst e; exact .inr h3
        · exact h2 j (by omega)
      · rintro ⟨h1, h2⟩
        refine ⟨⟨h1, fun j hj => h2 j (by omega)⟩, ?_⟩
        rcases h2 k (by omega) with h3 | h3
        · exact absurd h3 h
        · exact h3
theorem left_bit {n : Nat} {tests : List Int} {a i : Nat} : (leftOf n tests a).testBit i = true ↔ i < n ∧ ∀ j, j < tests.length → a.testBit j = true ∨ (gN tests j).testBit i = false :=
  leftTo_bit n tests a i tests.length
theorem answers_zero (tests : List Int) : answersOf tests 0 = 0 := by
  apply Nat.eq_of_testBit_eq
  intro i
  rw [Nat.zero_testBit]
  cases h : (answersOf tests 0).testBit i
  · rfl
  · exact absurd (by simp [band]) (answers_bit.1 h).2
theorem answers_bor (tests : List Int) (a b : Nat) : answersOf tests (bor a b) = bor (answersOf tests a) (answersOf tests b) := by
  apply Nat.eq_of_testBit_eq
  intro i
  rw [Bool.eq_iff_iff, testBit_bor, Bool.or_eq_true, answers_bit, answers_bit, answers_bit, band_ne, band_ne, band_ne]
  constructor
  · rintro ⟨h1, j, h2, h3⟩
    rw [testBit_bor, Bool.or_eq_true] at h3
    exact h3.imp (fun h => ⟨h1, j, h2, h⟩) (fun h => ⟨h1, j, h2, h⟩)
  · rintro (⟨h1, j, h2, h3⟩ | ⟨h1, j, h2, h3⟩)
    · exact ⟨h1, j, h2, by rw [testBit_bor, h3, Bool.true_or]⟩
    · exact ⟨h1, j, h2, by rw [testBit_bor, h3, Bool.or_true]⟩
/-- Wrong items are left. -/
theorem wrong_left {n : Nat} {tests : List Int} {wrong : Nat} (hw : wrong < 2 ^ n) : without wrong (leftOf n tests (answersOf tests wrong)) = 0 := by
  apply Nat.eq_of_testBit_eq
  intro i
  rw [testBit_without, Nat.zero_testBit]
  cases h : wrong.testBit i
  · rfl
  · have : (leftOf n tests (answersOf tests wrong)).testBit i = true := by
      refine left_bit.2 ⟨bit_lt hw h, fun j hj => ?_⟩
      cases h2 : (gN tests j).testBit i
      · exact .inr rfl
      · exact .inl (answers_bit.2 ⟨hj, band_ne.2 ⟨i, h2, h⟩⟩)
    rw [this]; rfl
theorem tellsTo_iff {tests : List Int} {d N : Nat} : tellsTo tests d N = true ↔ ∀ k, k < N → cnt k ≤ d → ∀ j, j < k → cnt j ≤ d → answersOf tests j ≠ answersOf tests k := by
  unfold tellsTo seenTo fewB
  simp only [List.all_eq_true, List.mem_range, Bool.not_eq_true', Bool.and_eq_false_iff, decide_eq_false_iff_not, List.any_eq_false, Bool.and_eq_true, decide_eq_true_eq, beq_iff_eq, not_and]
  constructor
  · intro h k hk hc j hj hcj
    rcases h k hk with h1 | h1
    · exact absurd hc h1
    · exact h1 j hj hcj
  · intro h k hk
    by_cases hc : cnt k ≤ d
    · exact .inr fun j hj hcj => h k hk hc j hj hcj
    · exact .inl hc
theorem tells_inj {tests : List Int} {d N : Nat} (h : tellsTo tests d N = true) {j k : Nat} (hj : j < N) (hk : k < N) (cj : cnt j ≤ d) (ck : cnt k ≤ d) (e : answersOf tests j = answersOf tests k) : j = k := by
  rcases Nat.lt_trichotomy j k with h1 | h1 | h1
  · exact absurd e (tellsTo_iff.1 h k hk ck j h1 cj)
  · exact h1
  · exact absurd e.symm (tellsTo_iff.1 h j hj cj k h1 ck)
theorem clear_iff {n : Nat} {tests : List Int} (hP : IsPool n tests) {d : Nat} : (List.range n).all (clearRow tests d (2 ^ n)) = true ↔
    ∀ i, i < n → ∀ k, k < 2 ^ n → cnt k ≤ d → k.testBit i = false → ∃ j, j < tests.length ∧ (gN tests j).testBit i = true ∧ band (gN tests j) k = 0 := by
  have hany : ∀ i k, tests.any (clearT i k) = true ↔ ∃ j, j < tests.length ∧ (gN tests j).testBit i = true ∧ band (gN tests j) k = 0 := by
    intro i k
    rw [List.any_eq_true]
    constructor
    · rintro ⟨x, hx, h⟩
      obtain ⟨j, hj, rfl⟩ := List.getElem_of_mem hx
      unfold clearT at h
      rw [Bool.and_eq_true, beq_iff_eq] at h
      have e : gN tests j = (tests[j]).toNat := by unfold gN getI; simp [hj]
      exact ⟨j, hj, by rw [e]; exact h.1, by rw [e]; exact h.2⟩
    · rintro ⟨j, hj, h1, h2⟩
      refine ⟨tests[j], List.getElem_mem hj, ?_⟩
      have e : gN tests j = (tests[j]).toNat := by unfold gN getI; simp [hj]
      unfold clearT
      rw [← e, h1, h2]; rfl
  unfold clearRow clearI fewB
  simp only [List.all_eq_true, List.mem_range, Bool.or_eq_true, Bool.not_eq_true', Bool.and_eq_false_iff, decide_eq_false_iff_not, hany]
  constructor
  · intro h i hi k hk hc hb
    rcases h i hi k hk with (h1 | h1) | h1
    · exact absurd hc h1
    · rw [hb] at h1; simp at h1
    · exact h1
  · intro h i hi k hk
    by_cases hc : cnt k ≤ d
    · cases hb : k.testBit i
      · exact .inr (h i hi k hk hc hb)
      · exact .inl (.inr (by simp))
    · exact .inl (.inl hc)
theorem cnt_two_pow : ∀ i, i < 12 → cnt (2 ^ i) = 1 := by decide +kernel
theorem cnt_add {k i : Nat} (hi : i < 12) (h : k.testBit i = false) : cnt (bor k (2 ^ i)) = cnt k + 1 := by
  have h1 := cnt_split (bor k (2 ^ i)) k
  have e1 : band (bor k (2 ^ i)) k = k := by
    apply Nat.eq_of_testBit_eq
    intro j
    rw [testBit_band, testBit_bor]
    cases k.testBit j <;> simp
  have e2 : without (bor k (2 ^ i)) k = 2 ^ i := by
    apply Nat.eq_of_testBit_eq
    intro j
    rw [testBit_without, testBit_bor, Nat.testBit_two_pow]
    by_cases e : i = j
    · subst e; rw [h]; simp
    · rw [decide_eq_false e]; cases k.testBit j <;> simp
  rw [e1, e2, cnt_two_pow i hi] at h1
  exact h1.symm
/-- What tells d is clear for d - 1. -/
theorem tells_clear {n : Nat} {tests : List Int} (hP : IsPool n tests) {d : Nat} (h : tellsTo tests (d + 1) (2 ^ n) = true) : (List.range n).all (clearRow tests d (2 ^ n)) = true := by
  rw [clear_iff hP]
  intro i hi k hk hc hb
  have hn := hP.le
  have h1 := cnt_add (show i < 12 by omega) hb
  have hk' : bor k (2 ^ i) < 2 ^ n := bor_lt hk (Nat.pow_lt_pow_right (by omega) hi)
  have hne : k ≠ bor k (2 ^ i) := fun e => by rw [← e] at h1; omega
  have ha : answersOf tests k ≠ answersOf tests (bor k (2 ^ i)) := fun e => hne (tells_inj h hk hk' (by omega) (by omega) e)
  obtain ⟨j, hj⟩ := ne_bit ha
  have hsub : (answersOf tests k).testBit j = true → (answersOf tests (bor k (2 ^ i))).testBit j = true := by
    intro h2; rw [answers_bor, testBit_bor, h2, Bool.true_or]
  have h3 : (answersOf tests (bor k (2 ^ i))).testBit j = true := by
    cases h4 : (answersOf tests (bor k (2 ^ i))).testBit j
    · cases h5 : (answersOf tests k).testBit j
      · rw [h4, h5] at hj; exact absurd rfl hj
      · rw [hsub h5] at h4; cases h4
    · rfl
  have h4 : (answersOf tests k).testBit j = false := by
    cases h5 : (answersOf tests k).testBit j
    · rfl
    · rw [h5, h3] at hj; exact absurd rfl hj
  obtain ⟨h5, h6⟩ := answers_bit.1 h3
  have h7 : band (gN tests j) k = 0 := Classical.byContradiction fun h7 => by rw [answers_bit.2 ⟨h5, h7⟩] at h4; cases h4
  obtain ⟨y, y1, y2⟩ := band_ne.1 h6
  refine ⟨j, h5, ?_, h7⟩
  rw [testBit_bor, Bool.or_eq_true] at y2
  rcases y2 with y2 | y2
  · exact absurd h7 (band_ne.2 ⟨y, y1, y2⟩)
  · rw [Nat.testBit_two_pow, decide_eq_true_iff] at y2
    rw [y2]; exact y1
/-- What is clear tells. -/
theorem clear_tells {n : Nat} {tests : List Int} (hP : IsPool n tests) {d : Nat} (h : (List.range n).all (clearRow tests d (2 ^ n)) = true) : tellsTo tests d (2 ^ n) = true := by
  have hC := (clear_iff hP).1 h
  have key : ∀ a b, a < 2 ^ n → b < 2 ^ n → cnt b ≤ d → answersOf tests a = answersOf tests b → ∀ i, a.testBit i = true → b.testBit i = true := by
    intro a b ha hb cb e i hi
    cases hbi : b.testBit i
    · obtain ⟨j, j1, j2, j3⟩ := hC i (bit_lt ha hi) b hb cb hbi
      have h1 := answers_bit.2 ⟨j1, band_ne.2 ⟨i, j2, hi⟩⟩
      rw [e] at h1
      exact absurd j3 (answers_bit.1 h1).2
    · rfl
  rw [tellsTo_iff]
  intro k hk ck j hj cj e
  have : j = k := by
    apply Nat.eq_of_testBit_eq
    intro i
    rw [Bool.eq_iff_iff]
    exact ⟨key j k (by omega) hk ck e i, key k j hk (by omega) cj e.symm i⟩
  omega
/-- Behind clear pools just the wrong items are left. -/
theorem clear_left {n : Nat} {tests : List Int} (hP : IsPool n tests) {d : Nat} (h : (List.range n).all (clearRow tests d (2 ^ n)) = true) {wrong : Nat} (hw : wrong < 2 ^ n) (hc : cnt wrong ≤ d) : leftOf n tests (answersOf tests wrong) = wrong := by
  have hC := (clear_iff hP).1 h
  apply Nat.eq_of_testBit_eq
  intro i
  rw [Bool.eq_iff_iff, left_bit]
  constructor
  · rintro ⟨h1, h2⟩
    cases hb : wrong.testBit i
    · obtain ⟨j, j1, j2, j3⟩ := hC i h1 wrong hw hc hb
      rcases h2 j j1 with h3 | h3
      · exact absurd j3 (answers_bit.1 h3).2
      · rw [j2] at h3; cases h3
    · rfl
  · intro hb
    refine ⟨bit_lt hw hb, fun j hj => ?_⟩
    cases h2 : (gN tests j).testBit i
    · exact .inr rfl
    · exact .inl (answers_bit.2 ⟨hj, band_ne.2 ⟨i, h2, hb⟩⟩)
theorem tellsTo_less {tests : List Int} {d e N : Nat} (he : e ≤ d) (h : tellsTo tests d N = true) : tellsTo tests e N = true := by
  rw [tellsTo_iff] at h ⊢
  intro k hk ck j hj cj
  exact h k hk (by omega) j hj (by omega)
/-- The pool of the digits: each item answers by itself. -/
theorem digits_self : ∀ n, n ≤ 12 → ∀ i, i < n → answersOf (digitsN n) (2 ^ i) = i := by decide +kernel
theorem digits_many : ∀ n, n ≤ 12 → n ≤ 2 ^ (digitsN n).length := by decide +kernel
end Go.Proofs.Ytdoadigekmlnpaa
