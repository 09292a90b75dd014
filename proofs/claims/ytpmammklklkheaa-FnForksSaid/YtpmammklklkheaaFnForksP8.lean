/- What the walk of FnForks rests on, part 8: plain facts, and contracts of the functions that it reaches. Each states its own condition. -/
import Derived.Test.YtpmammklklkheaaFnForksP7
import Derived.Test.YtpmammklklkheaaFnForksP5
import Derived.Test.YtpmammklklkheaaFnForksP4
import Derived.Test.YtpmammklklkheaaFnForksP6
/- What holds of pools: answers, what is left, what tells, what is clear. No program in sight. No condition. -/
namespace Go.Proofs.Ytpmammklklkheaa

theorem band_ne {x y : Nat} : band x y ≠ 0 ↔ ∃ i, x.testBit i = true ∧ y.testBit i = true := by
  constructor
  · intro h
    apply Classical.byContradiction
    intro hn
    apply h
    apply Nat.eq_of_testBit_eq
    intro i
    rw [testBit_band, Nat.zero_testBit]
    cases hx : x.testBit i
    · rfl
    · cases hy : y.testBit i
      · rfl
      · exact absurd ⟨i, hx, hy⟩ hn
  · rintro ⟨i, h1, h2⟩ e
    have h := testBit_band x y i
    rw [e, h1, h2, Nat.zero_testBit] at h
    cases h
theorem ne_bit {x y : Nat} (h : x ≠ y) : ∃ i, x.testBit i ≠ y.testBit i := by
  apply Classical.byContradiction
  intro hn
  apply h
  apply Nat.eq_of_testBit_eq
  intro i
  apply Classical.byContradiction
  intro h'
  exact hn ⟨i, h'⟩
theorem bit_lt {x n i : Nat} (hx : x < 2 ^ n) (h : x.testBit i = true) : i < n := by
  rcases Nat.lt_or_ge i n with h' | h'
  · exact h'
  · rw [testBit_out hx h'] at h; cases h
theorem testBit_answersTo (tests : List Int) (wrong j : Nat) : ∀ k, (answersTo tests wrong k).testBit j = (decide (j < k) && decide (band (gN tests j) wrong ≠ 0))
  | 0 => by simp [answersTo]
  | k + 1 => by
    have ih := testBit_answersTo tests wrong j k
    have h2 : (2 ^ k).testBit j = decide (k = j) := Nat.testBit_two_pow
    by_cases e : k = j
    · subst e
      unfold answersTo
      split
      · rename_i h
        rw [testBit_bor, h2, ih]
        simp [h]
      · rename_i h
        rw [ih]
        simp [h]
    · have h3 : decide (j < k + 1) = decide (j < k) := by
        by_cases h : j < k
        · rw [decide_eq_true h, decide_eq_true (by omega)]
        · rw [decide_eq_false h, decide_eq_false (by omega)]
      rw [h3]
      unfold answersTo
      split
      · rw [testBit_bor, h2, ih, decide_eq_false e, Bool.or_false]
      · exact ih
theorem answers_bit {tests : List Int} {wrong j : Nat} : (answersOf tests wrong).testBit j = true ↔ j < tests.length ∧ band (gN tests j) wrong ≠ 0 := by
  unfold answersOf
  rw [testBit_answersTo, Bool.and_eq_true, decide_eq_true_iff, decide_eq_true_iff]
theorem leftTo_bit (n : Nat) (tests : List Int) (a i : Nat) : ∀ k, (leftTo n tests a k).testBit i = true ↔ i < n ∧ ∀ j, j < k → a.testBit j = true ∨ (gN tests j).testBit i = false
  | 0 => by
    show (2 ^ n - 1).testBit i = true ↔ _
    rw [Nat.testBit_two_pow_sub_one]
    simp
  | k + 1 => by
    have ih := leftTo_bit n tests a i k
    unfold leftTo
    split
    · rename_i h
      rw [ih]
      constructor
      · rintro ⟨h1, h2⟩
        refine ⟨h1, fun j hj => ?_⟩
        by_cases e : j = k
        · subst e; exact .inl h
        · exact h2 j (by omega)
      · rintro ⟨h1, h2⟩
        exact ⟨h1, fun j hj => h2 j (by omega)⟩
    · rename_i h
      rw [testBit_without, Bool.and_eq_true, ih, Bool.not_eq_true']
      constructor
      · rintro ⟨⟨h1, h2⟩, h3⟩
        refine ⟨h1, fun j hj => ?_⟩
        by_cases e : j = k
        · subst e; exact .inr h3
        · exact h2 j (by omega)
      · rintro ⟨h1, h2⟩
        refine ⟨⟨h1, fun j hj => h2 j (by omega)⟩, ?_⟩
        rcases h2 k (by omega) with h3 | h3
        · exact absurd h3 h
        · exact h3
theorem left_bit {n : Nat} {tests : List Int} {a i : Nat} : (leftOf n tests a).testBit i = true ↔ i < n ∧ ∀ j, j < tests.length → a.testBit j = true ∨ (gN tests j).testBit i = false :=
  leftTo_bit n tests a i tests.length
theorem answers_zero (tests : List Int) : answersOf tests 0 = 0 := by
  apply Nat.eq_of_testBit_eq
  intro i
  rw [Nat.zero_testBit]
  cases h : (answersOf tests 0).testBit i
  · rfl
  · exact absurd (by simp [band]) (answers_bit.1 h).2
theorem answers_bor (tests : List Int) (a b : Nat) : answersOf tests (bor a b) = bor (answersOf tests a) (answersOf tests b) := by
  apply Nat.eq_of_testBit_eq
  intro i
  rw [Bool.eq_iff_iff, testBit_bor, Bool.or_eq_true, answers_bit, answers_bit, answers_bit, band_ne, band_ne, band_ne]
  constructor
  · rintro ⟨h1, j, h2, h3⟩
    rw [testBit_bor, Bool.or_eq_true] at h3
    exact h3.imp (fun h => ⟨h1, j, h2, h⟩) (fun h => ⟨h1, j, h2, h⟩)
  · rintro (⟨h1, j, h2, h3⟩ | ⟨h1, j, h2, h3⟩)
    · exact ⟨h1, j, h2, by rw [testBit_bor, h3, Bool.true_or]⟩
    · exact ⟨h1, j, h2, by rw [testBit_bor, h3, Bool.or_true]⟩
/-- Wrong items are left. -/
theorem wrong_left {n : Nat} {tests : List Int} {wrong : Nat} (hw : wrong < 2 ^ n) : without wrong (leftOf n tests (answersOf tests wrong)) = 0 := by
  apply Nat.eq_of_testBit_eq
  intro i
  rw [testBit_without, Nat.zero_testBit]
  cases h : wrong.testBit i
  · rfl
  · have : (leftOf n tests (answersOf tests wrong)).testBit i = true := by
      refine left_bit.2 ⟨bit_lt hw h, fun j hj => ?_⟩
      cases h2 : (gN tests j).testBit i
      · exact .inr rfl
      · exact .inl (answers_bit.2 ⟨hj, band_ne.2 ⟨i, h2, h⟩⟩)
    rw [this]; rfl
theorem tellsTo_iff {tests : List Int} {d N : Nat} : tellsTo tests d N = true ↔ ∀ k, k < N → cnt k ≤ d → ∀ j, j < k → cnt j ≤ d → answersOf tests j ≠ answersOf tests k := by
  unfold tellsTo seenTo fewB
  simp only [List.all_eq_true, List.mem_range, Bool.not_eq_true', Bool.and_eq_false_iff, decide_eq_false_iff_not, List.any_eq_false, Bool.and_eq_true, decide_eq_true_eq, beq_iff_eq, not_and]
  constructor
  · intro h k hk hc j hj hcj
    rcases h k hk with h1 | h1
    · exact absurd hc h1
    · exact h1 j hj hcj
  · intro h k hk
    by_cases hc : cnt k ≤ d
    · exact .inr fun j hj hcj => h k hk hc j hj hcj
    · exact .inl hc
theorem tells_inj {tests : List Int} {d N : Nat} (h : tellsTo tests d N = true) {j k : Nat} (hj : j < N) (hk : k < N) (cj : cnt j ≤ d) (ck : cnt k ≤ d) (e : answersOf tests j = answersOf tests k) : j = k := by
  rcases Nat.lt_trichotomy j k with h1 | h1 | h1
  · exact absurd e (tellsTo_iff.1 h k hk ck j h1 cj)
  · exact h1
  · exact absurd e.symm (tellsTo_iff.1 h j hj cj k h1 ck)
theorem clear_iff {n : Nat} {tests : List Int} (_ : IsPool n tests) {d : Nat} : (List.range n).all (clearRow tests d (2 ^ n)) = true ↔
    ∀ i, i < n → ∀ k, k < 2 ^ n → cnt k ≤ d → k.testBit i = false → ∃ j, j < tests.length ∧ (gN tests j).testBit i = true ∧ band (gN tests j) k = 0 := by
  have hany : ∀ i k, tests.any (clearT i k) = true ↔ ∃ j, j < tests.length ∧ (gN tests j).testBit i = true ∧ band (gN tests j) k = 0 := by
    intro i k
    rw [List.any_eq_true]
    constructor
    · rintro ⟨x, hx, h⟩
      obtain ⟨j, hj, rfl⟩ := List.getElem_of_mem hx
      unfold clearT at h
      rw [Bool.and_eq_true, beq_iff_eq] at h
      have e : gN tests j = (tests[j]).toNat := by unfold gN getI; simp [hj]
      exact ⟨j, hj, by rw [e]; exact h.1, by rw [e]; exact h.2⟩
    · rintro ⟨j, hj, h1, h2⟩
      refine ⟨tests[j], List.getElem_mem hj, ?_⟩
      have e : gN tests j = (tests[j]).toNat := by unfold gN getI; simp [hj]
      unfold clearT
      rw [← e, h1, h2]; rfl
  unfold clearRow clearI fewB
  simp only [List.all_eq_true, List.mem_range, Bool.or_eq_true, Bool.not_eq_true', Bool.and_eq_false_iff, decide_eq_false_iff_not, hany]
  constructor
  · intro h i hi k hk hc hb
    rcases h i hi k hk with (h1 | h1) | h1
    · exact absurd hc h1
    · rw [hb] at h1; simp at h1
    · exact h1
  · intro h i hi k hk
    by_cases hc : cnt k ≤ d
    · cases hb : k.testBit i
      · exact .inr (h i hi k hk hc hb)
      · exact .inl (.inr (by simp))
    · exact .inl (.inl hc)
theorem cnt_two_pow : ∀ i, i < 12 → cnt (2 ^ i) = 1 := by decide +kernel
theorem cnt_add {k i : Nat} (hi : i < 12) (h : k.testBit i = false) : cnt (bor k (2 ^ i)) = cnt k + 1 := by
  have h1 := cnt_split (bor k (2 ^ i)) k
  have e1 : band (bor k (2 ^ i)) k = k := by
    apply Nat.eq_of_testBit_eq
    intro j
    rw [testBit_band, testBit_bor]
    cases k.testBit j <;> simp
  have e2 : without (bor k (2 ^ i)) k = 2 ^ i := by
    apply Nat.eq_of_testBit_eq
    intro j
    rw [testBit_without, testBit_bor, Nat.testBit_two_pow]
    by_cases e : i = j
    · subst e; rw [h]; simp
    · rw [decide_eq_false e]; cases k.testBit j <;> simp
  rw [e1, e2, cnt_two_pow i hi] at h1
  exact h1.symm
/-- What tells d is clear for d - 1. -/
theorem tells_clear {n : Nat} {tests : List Int} (hP : IsPool n tests) {d : Nat} (h : tellsTo tests (d + 1) (2 ^ n) = true) : (List.range n).all (clearRow tests d (2 ^ n)) = true := by
  rw [clear_iff hP]
  intro i hi k hk hc hb
  have hn := hP.le
  have h1 := cnt_add (show i < 12 by omega) hb
  have hk' : bor k (2 ^ i) < 2 ^ n := bor_lt hk (Nat.pow_lt_pow_right (by omega) hi)
  have hne : k ≠ bor k (2 ^ i) := fun e => by rw [← e] at h1; omega
  have ha : answersOf tests k ≠ answersOf tests (bor k (2 ^ i)) := fun e => hne (tells_inj h hk hk' (by omega) (by omega) e)
  obtain ⟨j, hj⟩ := ne_bit ha
  have hsub : (answersOf tests k).testBit j = true → (answersOf tests (bor k (2 ^ i))).testBit j = true := by
    intro h2; rw [answers_bor, testBit_bor, h2, Bool.true_or]
  have h3 : (answersOf tests (bor k (2 ^ i))).testBit j = true := by
    cases h4 : (answersOf tests (bor k (2 ^ i))).testBit j
    · cases h5 : (answersOf tests k).testBit j
      · rw [h4, h5] at hj; exact absurd rfl hj
      · rw [hsub h5] at h4; cases h4
    · rfl
  have h4 : (answersOf tests k).testBit j = false := by
    cases h5 : (answersOf tests k).testBit j
    · rfl
    · rw [h5, h3] at hj; exact absurd rfl hj
  obtain ⟨h5, h6⟩ := answers_bit.1 h3
  have h7 : band (gN tests j) k = 0 := Classical.byContradiction fun h7 => by rw [answers_bit.2 ⟨h5, h7⟩] at h4; cases h4
  obtain ⟨y, y1, y2⟩ := band_ne.1 h6
  refine ⟨j, h5, ?_, h7⟩
  rw [testBit_bor, Bool.or_eq_true] at y2
  rcases y2 with y2 | y2
  · exact absurd h7 (band_ne.2 ⟨y, y1, y2⟩)
  · rw [Nat.testBit_two_pow, decide_eq_true_iff] at y2
    rw [y2]; exact y1
/-- What is clear tells. -/
theorem clear_tells {n : Nat} {tests : List Int} (hP : IsPool n tests) {d : Nat} (h : (List.range n).all (clearRow tests d (2 ^ n)) = true) : tellsTo tests d (2 ^ n) = true := by
  have hC := (clear_iff hP).1 h
  have key : ∀ a b, a < 2 ^ n → b < 2 ^ n → cnt b ≤ d → answersOf tests a = answersOf tests b → ∀ i, a.testBit i = true → b.testBit i = true := by
    intro a b ha hb cb e i hi
    cases hbi : b.testBit i
    · obtain ⟨j, j1, j2, j3⟩ := hC i (bit_lt ha hi) b hb cb hbi
      have h1 := answers_bit.2 ⟨j1, band_ne.2 ⟨i, j2, hi⟩⟩
      rw [e] at h1
      exact absurd j3 (answers_bit.1 h1).2
    · rfl
  rw [tellsTo_iff]
  intro k hk ck j hj cj e
  have : j = k := by
    apply Nat.eq_of_testBit_eq
    intro i
    rw [Bool.eq_iff_iff]
    exact ⟨key j k (by omega) hk ck e i, key k j hk (by omega) cj e.symm i⟩
  omega
/-- Behind clear pools just the wrong items are left. -/
theorem clear_left {n : Nat} {tests : List Int} (hP : IsPool n tests) {d : Nat} (h : (List.range n).all (clearRow tests d (2 ^ n)) = true) {wrong : Nat} (hw : wrong < 2 ^ n) (hc : cnt wrong ≤ d) : leftOf n tests (answersOf tests wrong) = wrong := by
  have hC := (clear_iff hP).1 h
  apply Nat.eq_of_testBit_eq
  intro i
  rw [Bool.eq_iff_iff, left_bit]
  constructor
  · rintro ⟨h1, h2⟩
    cases hb : wrong.testBit i
    · obtain ⟨j, j1, j2, j3⟩ := hC i h1 wrong hw hc hb
      rcases h2 j j1 with h3 | h3
      · exact absurd j3 (answers_bit.1 h3).2
      · rw [j2] at h3; cases h3
    · rfl
  · intro hb
    refine ⟨bit_lt hw hb, fun j hj => ?_⟩
    cases h2 : (gN tests j).testBit i
    · exact .inr rfl
    · exact .inl (answers_bit.2 ⟨hj, band_ne.2 ⟨i, h2, hb⟩⟩)
theorem tellsTo_less {tests : List Int} {d e N : Nat} (he : e ≤ d) (h : tellsTo tests d N = true) : tellsTo tests e N = true := by
  rw [tellsTo_iff] at h ⊢
  intro k hk ck j hj cj
  exact h k hk (by omega) j hj (by omega)
/-- The pool of the digits: each item answers by itself. -/
theorem digits_self : ∀ n, n ≤ 12 → ∀ i, i < n → answersOf (digitsN n) (2 ^ i) = i := by decide +kernel
theorem digits_many : ∀ n, n ≤ 12 → n ≤ 2 ^ (digitsN n).length := by decide +kernel
end Go.Proofs.Ytpmammklklkheaa

/- Distances in a graph: the plain distance, that it goes both ways, and that the program's list holds it. No program in sight. No condition. -/
namespace Go.Proofs.Ytpmammklklkheaa

theorem testBit_orTo (g : List Int) (e y : Nat) : ∀ k, (orTo g e k).testBit y = true ↔ ∃ z, z < k ∧ e.testBit z = true ∧ (gN g z).testBit y = true
  | 0 => by simp [orTo]
  | k + 1 => by
    have ih := testBit_orTo g e y k
    unfold orTo
    constructor
    · intro h
      split at h
      · rename_i he
        rw [testBit_bor, Bool.or_eq_true] at h
        rcases h with h | h
        · obtain ⟨z, h1, h2⟩ := ih.1 h
          exact ⟨z, by omega, h2⟩
        · exact ⟨k, by omega, he, h⟩
      · obtain ⟨z, h1, h2⟩ := ih.1 h
        exact ⟨z, by omega, h2⟩
    · rintro ⟨z, h1, h2, h3⟩
      by_cases e' : z = k
      · subst e'
        rw [if_pos h2, testBit_bor, h3, Bool.or_true]
      · have := ih.2 ⟨z, by omega, h2, h3⟩
        split
        · rw [testBit_bor, this, Bool.true_or]
        · exact this

/-- The nodes that are at most so many steps away. -/
def reach (g : List Int) (x : Nat) : Nat → Nat
  | 0 => 2 ^ x
  | d + 1 => bor (reach g x d) (orTo g (reach g x d) g.length)
theorem reach_zero {g : List Int} {x y : Nat} : (reach g x 0).testBit y = true ↔ y = x := by
  show (2 ^ x).testBit y = true ↔ _
  rw [Nat.testBit_two_pow]
  simp [eq_comm]
theorem reach_succ {g : List Int} (_ : IsGraph g) {x d y : Nat} : (reach g x (d + 1)).testBit y = true ↔ (reach g x d).testBit y = true ∨ ∃ z, (reach g x d).testBit z = true ∧ (gN g z).testBit y = true := by
  show (bor _ _).testBit y = true ↔ _
  rw [testBit_bor, Bool.or_eq_true, testBit_orTo]
  constructor
  · rintro (h | ⟨z, _, h⟩)
    · exact .inl h
    · exact .inr ⟨z, h⟩
  · rintro (h | ⟨z, h1, h2⟩)
    · exact .inl h
    · refine .inr ⟨z, ?_, h1, h2⟩
      rcases Nat.lt_or_ge z g.length with h | h
      · exact h
      · rw [gN_out h, Nat.zero_testBit] at h2; cases h2
theorem reach_mono {g : List Int} (hg : IsGraph g) {x y : Nat} : ∀ {d e : Nat}, d ≤ e → (reach g x d).testBit y = true → (reach g x e).testBit y = true
  | d, e, h, hd => by
    induction e with
    | zero => obtain rfl : d = 0 := by omega
              exact hd
    | succ e ih =>
      by_cases h' : d = e + 1
      · subst h'; exact hd
      · exact (reach_succ hg).2 (.inl (ih (by omega)))
/-- The first step may be taken apart as well as the last. -/
theorem reach_first {g : List Int} (hg : IsGraph g) {x y : Nat} : ∀ {d : Nat}, (reach g x (d + 1)).testBit y = true ↔ (reach g x d).testBit y = true ∨ ∃ z, (gN g x).testBit z = true ∧ (reach g z d).testBit y = true
  | 0 => by
    rw [reach_succ hg]
    constructor
    · rintro (h | ⟨z, h1, h2⟩)
      · exact .inl h
      · rw [reach_zero] at h1
        subst h1
        exact .inr ⟨y, h2, reach_zero.2 rfl⟩
    · rintro (h | ⟨z, h1, h2⟩)
      · exact .inl h
      · rw [reach_zero] at h2
        subst h2
        exact .inr ⟨x, reach_zero.2 rfl, h1⟩
  | d + 1 => by
    rw [reach_succ hg]
    constructor
    · rintro (h | ⟨z, h1, h2⟩)
      · exact .inl h
      · rcases (reach_first hg).1 h1 with h | ⟨u, h3, h4⟩
        · exact .inl ((reach_succ hg).2 (.inr ⟨z, h, h2⟩))
        · exact .inr ⟨u, h3, (reach_succ hg).2 (.inr ⟨z, h4, h2⟩)⟩
    · rintro (h | ⟨z, h1, h2⟩)
      · exact .inl h
      · rcases (reach_succ hg).1 h2 with h | ⟨u, h3, h4⟩
        · exact .inl ((reach_first hg).2 (.inr ⟨z, h1, h⟩))
        · exact .inr ⟨u, (reach_first hg).2 (.inr ⟨z, h1, h3⟩), h4⟩
theorem reach_symm {g : List Int} (hg : IsGraph g) : ∀ {d x y : Nat}, (reach g x d).testBit y = true → (reach g y d).testBit x = true
  | 0, x, y, h => by rw [reach_zero] at h ⊢; exact h.symm
  | d + 1, x, y, h => by
    rcases (reach_succ hg).1 h with h | ⟨z, h1, h2⟩
    · exact (reach_succ hg).2 (.inl (reach_symm hg h))
    · refine (reach_first hg).2 (.inr ⟨z, ?_, reach_symm hg h1⟩)
      rw [← hg.sym]; exact h2
theorem reach_lt {g : List Int} (hg : IsGraph g) {x : Nat} (hx : x < g.length) : ∀ d, reach g x d < 2 ^ g.length
  | 0 => Nat.pow_lt_pow_right (by omega) hx
  | d + 1 => bor_lt (reach_lt hg hx d) (orTo_lt hg _ _)
theorem reach_small {g : List Int} (hg : IsGraph g) {x : Nat} (hx : x < g.length) (d : Nat) : reach g x d ≤ 4095 := by
  have := reach_lt hg hx d
  have := pow_le_12 hg.le
  omega
theorem reach_stay {g : List Int} {x d : Nat} (h : reach g x (d + 1) = reach g x d) : ∀ k, reach g x (d + k) = reach g x d
  | 0 => rfl
  | k + 1 => by
    have ih := reach_stay h k
    show bor (reach g x (d + k)) (orTo g (reach g x (d + k)) g.length) = _
    rw [ih]
    exact h
theorem cnt_lt_of_lt {s n : Nat} (h : s < 2 ^ n) : cnt s ≤ n := by
  unfold cnt
  have : ∀ m, (List.range m).countP (fun i => s.testBit i) ≤ n := by
    intro m
    induction m with
    | zero => simp
    | succ m ih =>
      rw [List.range_succ, List.countP_append]
      by_cases hm : m < n
      · have h1 : (List.range m).countP (fun i => s.testBit i) ≤ m := by simpa using List.countP_le_length (p := fun i => s.testBit i) (l := List.range m)
        have h2 : [m].countP (fun i => s.testBit i) ≤ 1 := by simpa using List.countP_le_length (p := fun i => s.testBit i) (l := [m])
        omega
      · have : s.testBit m = false := testBit_out h (by omega)
        simp [this]
        exact ih
  exact this 12
theorem cnt_grow {s t : Nat} (ht : t ≤ 4095) (h : ∀ i, s.testBit i = true → t.testBit i = true) (hne : s ≠ t) : cnt s + 1 ≤ cnt t := by
  have h1 := cnt_split t s
  have h2 : band t s = s := by
    apply Nat.eq_of_testBit_eq
    intro i
    rw [testBit_band]
    cases hs : s.testBit i
    · simp
    · rw [h i hs]; rfl
  have h3 : without t s ≠ 0 := fun e => by
    have := without_zero.1 e
    rw [h2] at this
    exact hne this
  have h4 := mt (cnt_zero (without_le t s ht)).1 h3
  rw [h2] at h1
  omega
theorem reach_cnt {g : List Int} (hg : IsGraph g) {x : Nat} (hx : x < g.length) : ∀ d, reach g x (d + 1) ≠ reach g x d → d + 2 ≤ cnt (reach g x (d + 1))
  | 0, h => by
    have h1 := cnt_grow (reach_small hg hx 1) (fun i => reach_mono hg (by omega)) (fun e => h e.symm)
    have h2 := mt (cnt_zero (reach_small hg hx 0)).1 (by show 2 ^ x ≠ 0; have := Nat.two_pow_pos x; omega)
    simp only [Nat.zero_add] at h1 ⊢
    omega
  | d + 1, h => by
    have h1 := cnt_grow (reach_small hg hx (d + 2)) (fun i => reach_mono hg (show d + 1 ≤ d + 2 by omega)) (fun e => h e.symm)
    have h2 : reach g x (d + 1) ≠ reach g x d := fun e => h (by rw [show d + 1 + 1 = d + 2 from rfl, reach_stay e 2, e])
    have := reach_cnt hg hx d h2
    show d + 1 + 2 ≤ cnt (reach g x (d + 2))
    omega
/-- Behind as many steps as there are nodes nothing new is met. -/
theorem reach_end {g : List Int} (hg : IsGraph g) {x : Nat} (hx : x < g.length) : ∀ {d : Nat}, g.length - 1 ≤ d → reach g x d = reach g x (g.length - 1) := by
  intro d hd
  have h : reach g x (g.length - 1 + 1) = reach g x (g.length - 1) := by
    by_cases h : reach g x (g.length - 1 + 1) = reach g x (g.length - 1)
    · exact h
    · have h1 := reach_cnt hg hx _ h
      have h2 := cnt_lt_of_lt (reach_lt hg hx (g.length - 1 + 1))
      omega
  have := reach_stay h (d - (g.length - 1))
  rwa [show g.length - 1 + (d - (g.length - 1)) = d from by omega] at this

/-! ### The distance -/
def fstAt (p : Nat → Bool) : Nat → Nat → Nat
  | 0, d => d
  | f + 1, d => if p d then d else fstAt p f (d + 1)
theorem fstAt_le (p : Nat → Bool) : ∀ f d, fstAt p f d ≤ d + f
  | 0, d => Nat.le_refl _
  | f + 1, d => by
    unfold fstAt
    split
    · omega
    · have := fstAt_le p f (d + 1)
      omega
theorem fstAt_iff {p : Nat → Bool} (hp : ∀ d e, d ≤ e → p d = true → p e = true) : ∀ (f a d : Nat), a ≤ d → d < a + f → (fstAt p f a ≤ d ↔ p d = true)
  | 0, a, d, h1, h2 => by omega
  | f + 1, a, d, h1, h2 => by
    unfold fstAt
    split
    · rename_i h
      exact ⟨fun _ => hp a d h1 h, fun _ => h1⟩
    · rename_i h
      by_cases e : a = d
      · subst e
        constructor
        · intro h3
          exfalso
          have : ∀ f b, b ≤ fstAt p f b := by
            intro f
            induction f with
            | zero => intro b; exact Nat.le_refl _
            | succ f ih =>
              intro b
              unfold fstAt
              split
              · omega
              · have := ih (b + 1); omega
          have := this f (a + 1)
          omega
        · intro h3; exact absurd h3 h
      · exact fstAt_iff hp f (a + 1) d (by omega) (by omega)
/-- The distance of two nodes, 12 for none. -/
def dd (g : List Int) (x y : Nat) : Nat := fstAt (fun d => (reach g x d).testBit y) 12 0
theorem dd_le (g : List Int) (x y : Nat) : dd g x y ≤ 12 := by
  have := fstAt_le (fun d => (reach g x d).testBit y) 12 0
  unfold dd; omega
theorem dd_iff {g : List Int} (hg : IsGraph g) {x y d : Nat} (hd : d ≤ 11) : dd g x y ≤ d ↔ (reach g x d).testBit y = true :=
  fstAt_iff (fun _ _ h => reach_mono hg h) 12 0 d (by omega) (by omega)
theorem dd_symm {g : List Int} (hg : IsGraph g) (x y : Nat) : dd g x y = dd g y x := by
  have h : ∀ x y, dd g x y ≤ dd g y x := by
    intro x y
    by_cases h : dd g y x ≤ 11
    · exact (dd_iff hg h).2 (reach_symm hg ((dd_iff hg h).1 (Nat.le_refl _)))
    · have := dd_le g x y
      omega
  exact Nat.le_antisymm (h x y) (h y x)
/-- A node is met at the distance d + 1 just if it is not nearer and has a neighbour at the distance d. -/
theorem dd_step {g : List Int} (hg : IsGraph g) {x y d : Nat} (hd : d ≤ 10) (h : d < dd g x y) : dd g x y = d + 1 ↔ ∃ z, dd g x z = d ∧ (gN g z).testBit y = true := by
  have h0 : ¬ (reach g x d).testBit y = true := fun h1 => by
    have := (dd_iff hg (show d ≤ 11 by omega)).2 h1
    omega
  constructor
  · intro e
    have h1 := (dd_iff hg (show d + 1 ≤ 11 by omega)).1 (Nat.le_of_eq e)
    rcases (reach_succ hg).1 h1 with h2 | ⟨z, h2, h3⟩
    · exact absurd h2 h0
    · refine ⟨z, Nat.le_antisymm ((dd_iff hg (by omega)).2 h2) ?_, h3⟩
      rcases Nat.lt_or_ge (dd g x z) d with h4 | h4
      · exfalso
        apply h0
        have h5 := (dd_iff hg (show d - 1 ≤ 11 by omega)).1 (show dd g x z ≤ d - 1 by omega)
        have := (reach_succ hg).2 (.inr ⟨z, h5, h3⟩)
        rwa [show d - 1 + 1 = d from by omega] at this
      · exact h4
  · rintro ⟨z, h1, h2⟩
    have h3 := (dd_iff hg (show d ≤ 11 by omega)).1 (Nat.le_of_eq h1)
    have := (dd_iff hg (show d + 1 ≤ 11 by omega)).2 ((reach_succ hg).2 (.inr ⟨z, h3, h2⟩))
    omega
theorem dd_zero {g : List Int} (hg : IsGraph g) {x y : Nat} : dd g x y = 0 ↔ y = x := by
  have := dd_iff hg (x := x) (y := y) (show 0 ≤ 11 by omega)
  rw [reach_zero] at this
  rw [← this]; omega
theorem dd_top {g : List Int} (hg : IsGraph g) {x y : Nat} (hx : x < g.length) (h : dd g x y ≤ 11) : dd g x y ≤ g.length - 1 := by
  have hl := hg.le
  have h1 := (dd_iff hg h).1 (Nat.le_refl _)
  by_cases h2 : g.length - 1 ≤ dd g x y
  · rw [reach_end hg hx h2] at h1
    exact (dd_iff hg (by omega)).2 h1
  · omega

/-! ### The program's list -/
theorem getD_setTo (out : List Int) (edge steps y : Nat) : ∀ k, y < out.length → (setTo out edge steps k).getD y 0 = if edge.testBit y && decide (y < k) then ((steps : Nat) : Int) else out.getD y 0
  | 0, h => by simp [setTo]
  | k + 1, h => by
    have ih := getD_setTo out edge steps y k h
    have hlen := setTo_length out edge steps k
    unfold setTo
    by_cases e : y = k
    · subst e
      split
      · rename_i he
        rw [he, List.getD_eq_getElem?_getD, List.getElem?_set_self (by omega)]
        simp
      · rename_i he
        rw [ih]
        simp [he]
    · have h1 : decide (y < k + 1) = decide (y < k) := by
        by_cases h : y < k
        · rw [decide_eq_true h, decide_eq_true (by omega)]
        · rw [decide_eq_false h, decide_eq_false (by omega)]
      rw [h1]
      split
      · rw [List.getD_eq_getElem?_getD, List.getElem?_set_ne (fun h => e h.symm), ← List.getD_eq_getElem?_getD, ih]
      · exact ih
/-- What the program holds behind k rounds. -/
theorem bfs_facts {g : List Int} (hg : IsGraph g) {x : Nat} (hx : x < g.length) : ∀ k,
    (∀ y, ((bfsAt g x k).seen.testBit y = true ↔ 0 < k ∧ (reach g x (k - 1)).testBit y = true)) ∧
    (∀ y, ((bfsAt g x k).edge.testBit y = true ↔ (reach g x k).testBit y = true ∧ (k = 0 ∨ (reach g x (k - 1)).testBit y = false)))
  | 0 => by
    refine ⟨fun y => ?_, fun y => ?_⟩
    · show (0 : Nat).testBit y = true ↔ _
      simp
    · show (2 ^ x).testBit y = true ↔ (2 ^ x).testBit y = true ∧ _
      simp
  | k + 1 => by
    obtain ⟨h1, h2⟩ := bfs_facts hg hx k
    have hs : ∀ y, ((bor (bfsAt g x k).seen (bfsAt g x k).edge).testBit y = true ↔ (reach g x k).testBit y = true) := fun y => by
      rw [testBit_bor, Bool.or_eq_true, h1, h2]
      constructor
      · rintro (⟨h3, h4⟩ | ⟨h3, -⟩)
        · exact reach_mono hg (by omega) h4
        · exact h3
      · intro h3
        by_cases h0 : k = 0
        · exact .inr ⟨h3, .inl h0⟩
        · cases h4 : (reach g x (k - 1)).testBit y
          · exact .inr ⟨h3, .inr rfl⟩
          · exact .inl ⟨by omega, rfl⟩
    refine ⟨fun y => ?_, fun y => ?_⟩
    · show (bor _ _).testBit y = true ↔ _
      rw [hs]
      simp
    · show (without (orTo g (bfsAt g x k).edge g.length) (bor _ _)).testBit y = true ↔ _
      rw [testBit_without, Bool.and_eq_true, Bool.not_eq_true', testBit_orTo, Nat.add_sub_cancel, ← Bool.not_eq_true, hs]
      constructor
      · rintro ⟨⟨z, _, h3, h4⟩, h5⟩
        refine ⟨(reach_succ hg).2 (.inr ⟨z, ((h2 z).1 h3).1, h4⟩), .inr (by simpa using h5)⟩
      · rintro ⟨h3, h4⟩
        have h4 : (reach g x k).testBit y = false := by
          rcases h4 with h4 | h4
          · omega
          · exact h4
        refine ⟨?_, by rw [h4]; decide⟩
        rcases (reach_succ hg).1 h3 with h5 | ⟨z, h5, h6⟩
        · rw [h4] at h5; cases h5
        · have hz : z < g.length := by
            rcases Nat.lt_or_ge z g.length with h | h
            · exact h
            · rw [gN_out h, Nat.zero_testBit] at h6; cases h6
          refine ⟨z, hz, (h2 z).2 ⟨h5, ?_⟩, h6⟩
          by_cases h0 : k = 0
          · exact .inl h0
          · refine .inr ?_
            cases h7 : (reach g x (k - 1)).testBit z
            · rfl
            · have := (reach_succ hg).2 (.inr ⟨z, h7, h6⟩)
              rw [show k - 1 + 1 = k from by omega, h4] at this
              cases this
theorem bfs_out {g : List Int} (hg : IsGraph g) {x : Nat} (hx : x < g.length) {y : Nat} (hy : y < g.length) : ∀ k, k ≤ 12 → (bfsAt g x k).out.getD y 0 = if dd g x y < k then ((dd g x y : Nat) : Int) else 12
  | 0, _ => by
    show (List.replicate g.length (12 : Int)).getD y 0 = _
    simp [hy]
  | k + 1, hk => by
    have ih := bfs_out hg hx hy k (by omega)
    obtain ⟨_, h2⟩ := bfs_facts hg hx k
    have h3 := bfs_lt hg hx k
    show (setTo (bfsAt g x k).out (bfsAt g x k).edge (bfsAt g x k).steps g.length).getD y 0 = _
    rw [getD_setTo _ _ _ _ _ (by rw [h3.2.2.2]; exact hy), h3.2.2.1, ih, decide_eq_true hy, Bool.and_true]
    have e1 := dd_iff hg (x := x) (y := y) (show k ≤ 11 by omega)
    by_cases he : (bfsAt g x k).edge.testBit y = true
    · rw [if_pos he]
      obtain ⟨h4, h5⟩ := (h2 y).1 he
      have h6 := e1.2 h4
      have h7 : ¬ dd g x y < k := fun h => by
        rcases h5 with h5 | h5
        · omega
        · have := (dd_iff hg (show k - 1 ≤ 11 by omega)).1 (show dd g x y ≤ k - 1 by omega)
          rw [h5] at this; cases this
      rw [if_pos (by omega), show dd g x y = k from by omega]
    · rw [if_neg he]
      by_cases h8 : dd g x y < k
      · rw [if_pos h8, if_pos (by omega)]
      · rw [if_neg h8, if_neg]
        intro h9
        apply he
        refine (h2 y).2 ⟨e1.1 (by omega), ?_⟩
        by_cases h0 : k = 0
        · exact .inl h0
        · refine .inr ?_
          cases h7 : (reach g x (k - 1)).testBit y
          · rfl
          · have := (dd_iff hg (show k - 1 ≤ 11 by omega)).2 h7
            omega
theorem dist_get {g : List Int} (hg : IsGraph g) {x : Nat} (hx : x < g.length) {y : Nat} (hy : y < g.length) : (distOf g x).getD y 0 = ((dd g x y : Nat) : Int) := by
  have hl := hg.le
  have he : (bfsAt g x 12).edge = 0 := by
    apply Nat.eq_of_testBit_eq
    intro i
    rw [Nat.zero_testBit]
    cases h : (bfsAt g x 12).edge.testBit i
    · rfl
    · obtain ⟨h1, h2⟩ := ((bfs_facts hg hx 12).2 i).1 h
      rcases h2 with h2 | h2
      · omega
      · rw [reach_end hg hx (show g.length - 1 ≤ 12 by omega)] at h1
        rw [reach_end hg hx (show g.length - 1 ≤ 12 - 1 by omega), h1] at h2
        cases h2
  rw [dist_at (by omega) he, bfs_out hg hx hy 12 (Nat.le_refl _)]
  have := dd_le g x y
  split
  · rfl
  · rw [show dd g x y = 12 from by omega]; rfl
end Go.Proofs.Ytpmammklklkheaa

/- The marks of all nodes: the reference and the program compute the same plain list. No condition. -/
namespace Go.Proofs.Ytpmammklklkheaa
open Go.RowKit
open BigFrame

def markN (g : List Int) (s i : Nat) : Nat := band (ballN g i) s
def marksTo (g : List Int) (s k : Nat) : List Int := (List.range k).map fun i => ((markN g s i : Nat) : Int)
theorem marksTo_succ (g : List Int) (s k : Nat) : marksTo g s (k + 1) = marksTo g s k ++ [((markN g s k : Nat) : Int)] := by simp [marksTo, List.range_succ]
theorem marksTo_length (g : List Int) (s k : Nat) : (marksTo g s k).length = k := by simp [marksTo]
theorem marksTo_get (g : List Int) (s k i : Nat) (h : i < k) : (marksTo g s k).getD i 0 = ((markN g s i : Nat) : Int) := by simp [marksTo, h]
theorem markN_small {g : List Int} (hg : IsGraph g) {i : Nat} (hi : i < g.length) (s : Nat) : markN g s i ≤ 4095 := Nat.le_trans Nat.and_le_left (ballN_small hg hi)

set_option maxHeartbeats 1000000 in
theorem l2Marks_c (v : Value) (g : List Int) (s : Nat) (w : World) (hv : Rd w v g) (hg : IsGraph g) (hs : s ≤ 4095) :
    Calls Try.prog 73 #[v, .int .i64 s] w fun e w' => ∃ v', e = .returned v' ∧ Own w' w.heap.size v' (marksTo g s g.length) ∧ Ext w w' := by
  obtain ⟨a, c, rfl⟩ := hv.form
  obtain ⟨W, hW⟩ : ∃ W, W = w.alloc (.cells #[] 3) := ⟨_, rfl⟩
  have ho0 : Own W w.heap.size (.slice (some ⟨w.heap.size, 0, none⟩) 0 0) [] := by rw [hW]; exact Own.lit w
  have hx0 : Ext w W := by rw [hW]; exact (Ext.refl _).alloc _
  have hs0 : w.heap.size < W.heap.size := by rw [hW]; simp
  have HW := Lib.hid hW; have HO0 := Lib.hid ho0; have HX0 := Lib.hid hx0; have HV := Lib.hid (hv.ext hx0)
  have HG := Lib.hid hg
  have hl := hg.le
  clear hv hW ho0 hx0 hg
  go_enter Try.func73, Try.ntmps73
  go_wp2_with fail
  rw [← HW.out]
  refine (l1Balls_c _ g _ HV.out HG.out).mono ?_
  rintro e w2 ⟨vb, rfl, ob, x2⟩
  have X2 := Lib.hid x2; clear x2
  rcases ob.get with ⟨rfl, hnil⟩ | ⟨gb, cb, rfl, hgb1, hgb2, hcb, hcells, -⟩
  · have h1 := congrArg List.length hnil
    rw [ballsTo_length, List.length_nil] at h1
    have h2 := HG.out.pos
    omega
  · rw [ballsTo_length] at hcb
    have HC : Hid (∀ i, i < g.length → w2.cell? ⟨gb, i, none⟩ = some (.int .i64 (ballN g i : Nat))) := fun i hi => by
      rw [hcells i (by rw [ballsTo_length]; exact hi), ballsTo_get _ _ _ hi]
    clear hcells ob
    rw [ballsTo_length]
    go_wp2
    go_loopw [5, 7] (fun o i wr => ∃ k : Nat, k ≤ g.length ∧ i = .int .i64 k ∧ Own wr w.heap.size o (marksTo g s k) ∧ Ext w wr ∧ Hid (∀ i, i < g.length → wr.cell? ⟨gb, i, none⟩ = some (.int .i64 (ballN g i : Nat))) ∧ Hid (o.ownBlock ≠ some gb) ∧ gb < wr.heap.size) (fun _ i _ => g.length - (intOf i).toNat)
    case atStart => exact ⟨0, Nat.zero_le _, rfl, HO0.out.ext X2.out, HX0.out.trans X2.out, HC, fun e => by simp [Value.ownBlock] at e; omega, hgb2⟩
    case round =>
      obtain ⟨k, hk, rfl, ho, hx, HC, HN, hgl⟩ := hrel
      have HO := Lib.hid ho; have HX := Lib.hid hx; clear ho hx
      by_cases hlt : k < g.length
      · have c1 := HC.out k hlt
        have hb4 := ballN_small HG.out hlt
        have e1 : bits .and .i64 (ballN g k : Int) (s : Int) = (markN g s k : Int) := bits_and (ballN g k) s (by omega) (by omega)
        go_wp2_with (at_builtin; refine wpList_append_int2 rfl _ _ rfl w.heap.size _ _ rfl (HO.out.alloc _) wr.heap.size _ rfl (one_cell _ _ _) (by rw [marksTo_length]; omega) (by simp; have := HX.out.size; omega) ?_; intro v' w3 ho3 hg3 hn3)
        have HX3 : Hid (Ext w w3) := (HO.out.alloc _).grew (HX.out.alloc _) hg3 (Nat.le_refl _)
        have HO3 : Hid (Own w3 w.heap.size v' (marksTo g s (k + 1))) := by rw [marksTo_succ]; exact ho3
        have HC3 : Hid (∀ i, i < g.length → w3.cell? ⟨gb, i, none⟩ = some (.int .i64 (ballN g i : Nat))) := fun i hi => by
          rw [← HC.out i hi]
          unfold World.cell?
          rw [hg3.block gb (by simp; omega) (fun e => HN.out e.symm), Below.heap_alloc _ _ _ hgl]
        have HN3 : Hid (v'.ownBlock ≠ some gb) := fun e => by
          rcases hn3 gb e with h | h
          · exact HN.out h
          · simp at h; omega
        have hgl3 : gb < w3.heap.size := Nat.lt_of_lt_of_le (by simp; omega) hg3.size
        clear ho3 hg3 hn3
        go_wp2
        go_roundw
        case rel => exact ⟨k + 1, by omega, by go_num, HO3.out, HX3.out, HC3, HN3, hgl3⟩
        case measure => simp [intOf]; omega
      · obtain rfl : k = g.length := by omega
        go_wp2
        go_ret
        exact ⟨_, rfl, HO.out, HX.out⟩

set_option maxHeartbeats 1000000 in
theorem marks_c (b : Nat) (v vb vf : Value) (vs : List Value) (g : List Int) (s : Nat) (w : World) (hb : IsBook w b g v vb vf vs) (hg : IsGraph g) (hs : s ≤ 4095) :
    Calls Try.prog 67 #[.pointer (some ⟨b, 0, none⟩), .int .i64 s] w fun e w' => ∃ v', e = .returned v' ∧ Own w' w.heap.size v' (marksTo g s g.length) ∧ Ext w w' := by
  obtain ⟨base, ob⟩ := hb.hb
  obtain ⟨gb, cb, rfl⟩ := ob.form' (ballsTo_length g g.length)
  have HB := Lib.hid (ob.rd)
  have c1 := hb.balls
  have HG := Lib.hid hg
  have hl := hg.le
  clear ob hb hg
  go_enter Try.func67, Try.ntmps67
  go_wp2
  clear c1
  go_loopw [5, 13] (fun o i wr => ∃ k : Nat, k ≤ g.length ∧ i = .int .i64 k ∧ Own wr w.heap.size o (marksTo g s k) ∧ Ext w wr) (fun _ i _ => g.length - (intOf i).toNat)
  case atStart => exact ⟨0, Nat.zero_le _, rfl, Own.nil _ _, Ext.refl _⟩
  case round =>
    obtain ⟨k, hk, rfl, ho, hx⟩ := hrel
    have HO := Lib.hid ho; have HX := Lib.hid hx; clear ho hx
    by_cases hlt : k < g.length
    · obtain ⟨bb, o, rfl, -, -, hc⟩ := HB.out.atI hlt
      have c1 := hc _ HX.out
      clear hc
      rw [show getI (ballsTo g g.length) k = ((ballN g k : Nat) : Int) from ballsTo_get _ _ _ hlt] at c1
      have hb4 := ballN_small HG.out hlt
      have e1 : bits .and .i64 (ballN g k : Int) (s : Int) = (markN g s k : Int) := bits_and (ballN g k) s (by omega) (by omega)
      go_wp2_with (at_builtin; refine wpList_append_int rfl _ _ rfl w.heap.size _ _ rfl (HO.out.alloc _) wr.heap.size _ rfl (one_cell _ _ _) (by rw [marksTo_length]; omega) (by simp; have := HX.out.size; omega) ?_; intro v' w3 ho3 hg3 hn3)
      have HX3 : Hid (Ext w w3) := (HO.out.alloc _).grew (HX.out.alloc _) hg3 (Nat.le_refl _)
      have HO3 : Hid (Own w3 w.heap.size v' (marksTo g s (k + 1))) := by rw [marksTo_succ]; exact ho3
      clear ho3 hg3 hn3
      go_wp2
      go_roundw
      case rel => exact ⟨k + 1, by omega, by go_num, HO3.out, HX3.out⟩
      case measure => simp [intOf]; omega
    · obtain rfl : k = g.length := by omega
      go_wp2
      go_ret
      exact ⟨_, rfl, HO.out, HX.out⟩
end Go.Proofs.Ytpmammklklkheaa
