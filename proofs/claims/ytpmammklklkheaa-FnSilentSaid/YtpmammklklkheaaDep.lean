/- Depths of sets, best questions, played questions: plain functions and what holds of them. No program in sight. No condition. -/
import Derived.Test.YtpmammklklkheaaBall
namespace Go.Proofs.Ytpmammklklkheaa

/-! ### Counting -/
theorem countP_split {α : Type} (p q : α → Bool) : ∀ l : List α, l.countP (fun i => p i && q i) + l.countP (fun i => p i && !q i) = l.countP p
  | [] => rfl
  | a :: l => by
    have := countP_split p q l
    simp only [List.countP_cons]
    cases p a <;> cases q a <;> simp <;> omega
theorem cnt_split (s t : Nat) : cnt (band s t) + cnt (without s t) = cnt s := by
  unfold cnt
  simp only [testBit_band, testBit_without]
  exact countP_split _ _ _
theorem one_blocks : ∀ a, a < 64 → ∀ b, b < 64 → decide (band (64 * a + b) (64 * a + b - 1) = 0) = decide (cnt (64 * a + b) ≤ 1) := by decide +kernel
theorem one_iff {s : Nat} (h : s ≤ 4095) : band s (s - 1) = 0 ↔ cnt s ≤ 1 := by
  have := one_blocks (s / 64) (by omega) (s % 64) (by omega)
  rw [show 64 * (s / 64) + s % 64 = s from by omega] at this
  simpa using this
theorem zero_blocks : ∀ a, a < 64 → ∀ b, b < 64 → decide (cnt (64 * a + b) = 0) = decide (64 * a + b = 0) := by decide +kernel
theorem cnt_zero {s : Nat} (h : s ≤ 4095) : cnt s = 0 ↔ s = 0 := by
  have := zero_blocks (s / 64) (by omega) (s % 64) (by omega)
  rw [show 64 * (s / 64) + s % 64 = s from by omega] at this
  simpa using this

/-! ### The least of some numbers, at most 99 -/
def minTo (f : Nat → Nat) : Nat → Nat
  | 0 => 99
  | k + 1 => min (minTo f k) (f k)
theorem minTo_le (f : Nat → Nat) : ∀ k, minTo f k ≤ 99
  | 0 => Nat.le_refl _
  | k + 1 => Nat.le_trans (Nat.min_le_left _ _) (minTo_le f k)
theorem minTo_at {f : Nat → Nat} {x : Nat} : ∀ {k : Nat}, x < k → minTo f k ≤ f x
  | 0, h => by omega
  | k + 1, h => by
    by_cases e : x = k
    · subst e; exact Nat.min_le_right _ _
    · exact Nat.le_trans (Nat.min_le_left _ _) (minTo_at (show x < k by omega))
theorem minTo_has (f : Nat → Nat) : ∀ k, minTo f k = 99 ∨ ∃ x, x < k ∧ minTo f k = f x
  | 0 => .inl rfl
  | k + 1 => by
    by_cases h : minTo f k ≤ f k
    · rcases minTo_has f k with e | ⟨x, hx, e⟩
      · exact .inl (by show min _ _ = 99; omega)
      · exact .inr ⟨x, by omega, by show min _ _ = _; omega⟩
    · exact .inr ⟨k, by omega, by show min _ _ = _; omega⟩
theorem minTo_congr {f f' : Nat → Nat} : ∀ {k : Nat}, (∀ x, x < k → f x = f' x) → minTo f k = minTo f' k
  | 0, _ => rfl
  | k + 1, h => by
    show min _ _ = min _ _
    rw [minTo_congr (fun x hx => h x (by omega)), h k (by omega)]

/-! ### Parts of a set -/
theorem band_sub_le (s t : Nat) : band s t ≤ s := Nat.and_le_left
theorem without_sub (s t : Nat) : without s t = band s (without s t) := by
  apply Nat.eq_of_testBit_eq
  intro i
  rw [testBit_band, testBit_without]
  cases s.testBit i <;> simp
theorem without_sub_le (s t : Nat) : without s t ≤ s := by
  rw [without_sub]
  exact band_sub_le _ _
theorem without_ne {s t : Nat} (h : band s t ≠ 0) : without s t ≠ s := by
  intro e
  apply h
  apply Nat.eq_of_testBit_eq
  intro i
  have := congrArg (fun z => Nat.testBit z i) e
  simp only [testBit_without] at this
  rw [testBit_band, Nat.zero_testBit]
  revert this
  cases s.testBit i <;> cases t.testBit i <;> simp
theorem without_zero {s t : Nat} : without s t = 0 ↔ band s t = s := by
  constructor
  · intro e
    apply Nat.eq_of_testBit_eq
    intro i
    have := congrArg (fun z => Nat.testBit z i) e
    simp only [testBit_without, Nat.zero_testBit] at this
    rw [testBit_band]
    revert this
    cases s.testBit i <;> cases t.testBit i <;> simp
  · intro e
    apply Nat.eq_of_testBit_eq
    intro i
    have := congrArg (fun z => Nat.testBit z i) e
    simp only [testBit_band] at this
    rw [testBit_without, Nat.zero_testBit]
    revert this
    cases s.testBit i <;> cases t.testBit i <;> simp
theorem qIn_band (g : List Int) (s x : Nat) : band s (qIn g s x) = qIn g s x := by
  unfold qIn
  apply Nat.eq_of_testBit_eq
  intro i
  simp only [testBit_band]
  cases s.testBit i <;> simp
theorem qIn_lt {g : List Int} {s x : Nat} (h : qIn g s x ≠ s) : qIn g s x < s := Nat.lt_of_le_of_ne (qIn_le g s x) h
theorem qOut_lt {g : List Int} {s x : Nat} (h : qIn g s x ≠ 0) : without s (qIn g s x) < s :=
  Nat.lt_of_le_of_ne (without_sub_le _ _) (without_ne (by rw [qIn_band]; exact h))
theorem qOut_zero {g : List Int} {s x : Nat} : without s (qIn g s x) = 0 ↔ qIn g s x = s := by
  rw [without_zero, qIn_band]
theorem q_cnt (g : List Int) (s x : Nat) : cnt (qIn g s x) + cnt (without s (qIn g s x)) = cnt s := by
  have := cnt_split s (qIn g s x)
  rwa [qIn_band] at this

/-! ### The depth of a set: 99 if no questions tell its nodes -/
def dep (g : List Int) (s : Nat) : Nat :=
  if band s (s - 1) = 0 then 0
  else minTo (fun x => if h : qIn g s x ≠ 0 ∧ qIn g s x ≠ s then 1 + max (dep g (qIn g s x)) (dep g (without s (qIn g s x))) else 99) g.length
termination_by s
decreasing_by
  · exact qIn_lt h.2
  · exact qOut_lt h.1
/-- A question tells something. -/
def tells (g : List Int) (s x : Nat) : Bool := decide (qIn g s x ≠ 0) && decide (qIn g s x ≠ s)
theorem tells_iff {g : List Int} {s x : Nat} : tells g s x = true ↔ qIn g s x ≠ 0 ∧ qIn g s x ≠ s := by simp [tells]
/-- The depth behind a question. -/
def depAt (g : List Int) (s x : Nat) : Nat := if tells g s x then 1 + max (dep g (qIn g s x)) (dep g (without s (qIn g s x))) else 99
def depTo (g : List Int) (s k : Nat) : Nat := minTo (depAt g s) k
theorem dep_one {g : List Int} {s : Nat} (h : band s (s - 1) = 0) : dep g s = 0 := by
  rw [dep, if_pos h]
theorem dep_more {g : List Int} {s : Nat} (h : band s (s - 1) ≠ 0) : dep g s = depTo g s g.length := by
  rw [dep, if_neg h]
  apply minTo_congr
  intro x _
  unfold depAt
  by_cases hc : qIn g s x ≠ 0 ∧ qIn g s x ≠ s
  · rw [dif_pos hc, if_pos (tells_iff.2 hc)]
  · rw [dif_neg hc, if_neg (fun h => hc (tells_iff.1 h))]
theorem dep_le (g : List Int) (s : Nat) : dep g s ≤ 99 := by
  by_cases h : band s (s - 1) = 0
  · rw [dep_one h]; omega
  · rw [dep_more h]; exact minTo_le _ _
/-- A depth is below the number of nodes, or 99. -/
theorem dep_cnt (g : List Int) : ∀ n s : Nat, s ≤ n → s ≤ 4095 → s ≠ 0 → dep g s = 99 ∨ dep g s + 1 ≤ cnt s
  | 0, s, h, _, h0 => by omega
  | n + 1, s, h, hs, h0 => by
    by_cases h1 : band s (s - 1) = 0
    · refine .inr ?_
      rw [dep_one h1]
      have := mt (cnt_zero hs).1 h0
      omega
    · rw [dep_more h1]
      rcases minTo_has (depAt g s) g.length with e | ⟨x, hx, e⟩
      · exact .inl e
      · unfold depTo
        rw [e]
        have hle := minTo_le (depAt g s) g.length
        rw [e] at hle
        unfold depAt at hle ⊢
        split
        · rename_i ht
          rw [if_pos ht] at hle
          have ht := tells_iff.1 ht
          have i1 := qIn_lt ht.2
          have i2 := qOut_lt ht.1
          have i3 := mt qOut_zero.1 ht.2
          have c1 := q_cnt g s x
          rcases dep_cnt g n (qIn g s x) (by omega) (by omega) ht.1 with d1 | d1
          · omega
          · rcases dep_cnt g n (without s (qIn g s x)) (by omega) (by omega) i3 with d2 | d2
            · omega
            · right; omega
        · exact .inl rfl
theorem dep_small {g : List Int} {s : Nat} (hs : s ≤ 4095) (h : dep g s ≠ 99) : dep g s ≤ 11 := by
  by_cases h0 : s = 0
  · subst h0
    rw [dep_one (by decide)]; omega
  · have := cnt_le s
    rcases dep_cnt g s s (Nat.le_refl _) hs h0 with e | e
    · exact absurd e h
    · omega
/-- Depths behind a question that tells something, and is not hopeless. -/
theorem depAt_lt {g : List Int} {s x : Nat} (hs : s ≤ 4095) (h : tells g s x = true) : depAt g s x = 100 ∧ (dep g (qIn g s x) = 99 ∨ dep g (without s (qIn g s x)) = 99) ∨ depAt g s x ≤ 12 ∧ depAt g s x = 1 + max (dep g (qIn g s x)) (dep g (without s (qIn g s x))) ∧ dep g (qIn g s x) ≤ 11 ∧ dep g (without s (qIn g s x)) ≤ 11 := by
  have e : depAt g s x = 1 + max (dep g (qIn g s x)) (dep g (without s (qIn g s x))) := by unfold depAt; rw [if_pos h]
  have ht := tells_iff.1 h
  have i1 := qIn_lt ht.2
  have i2 := qOut_lt ht.1
  have l1 := dep_le g (qIn g s x)
  have l2 := dep_le g (without s (qIn g s x))
  by_cases h1 : dep g (qIn g s x) = 99
  · left; omega
  · by_cases h2 : dep g (without s (qIn g s x)) = 99
    · left; omega
    · have := dep_small (by omega) h1
      have := dep_small (by omega) h2
      right; omega

/-! ### The program's spelling: a depth of 99 is 2^20 -/
def never (d : Nat) : Nat := if d = 99 then 1048576 else d
/-- The greater depth of both parts, 2^20 if one of them is empty. -/
def aft (g : List Int) (s x : Nat) : Nat := if tells g s x then max (never (dep g (qIn g s x))) (never (dep g (without s (qIn g s x)))) else 1048576
theorem aft_never {g : List Int} {s x k : Nat} (hs : s ≤ 4095) (h : ¬ aft g s x < 1048576) : min (minTo (depAt g s) k) (depAt g s x) = minTo (depAt g s) k := by
  have hm := minTo_le (depAt g s) k
  cases ht : tells g s x
  · have : depAt g s x = 99 := by unfold depAt; rw [ht]; rfl
    omega
  · rcases depAt_lt hs ht with ⟨e, -⟩ | ⟨e, e1, e2, e3⟩
    · omega
    · exfalso
      apply h
      unfold aft never
      rw [ht, if_pos rfl, if_neg (by omega), if_neg (by omega)]
      omega
theorem aft_some {g : List Int} {s x : Nat} (hs : s ≤ 4095) (h : aft g s x < 1048576) : depAt g s x = aft g s x + 1 ∧ aft g s x ≤ 11 := by
  unfold aft at h ⊢
  split at h
  · rename_i ht
    rw [if_pos ht]
    rcases depAt_lt hs ht with ⟨e, e1⟩ | ⟨e, e1, e2, e3⟩
    · exfalso
      unfold never at h
      rcases e1 with e1 | e1
      · rw [if_pos e1] at h; omega
      · rw [if_pos e1] at h; omega
    · unfold never
      rw [if_neg (by omega), if_neg (by omega)]
      omega
  · omega
theorem never_min {g : List Int} {s x : Nat} (hs : s ≤ 4095) (h : aft g s x < 1048576) : never (depTo g s (x + 1)) = min (never (depTo g s x)) (aft g s x + 1) := by
  obtain ⟨e, hl⟩ := aft_some hs h
  have hm := minTo_le (depAt g s) x
  show never (min (minTo (depAt g s) x) (depAt g s x)) = min (never (minTo (depAt g s) x)) _
  unfold never
  split <;> split <;> omega
theorem never_keep {g : List Int} {s x : Nat} (hs : s ≤ 4095) (h : ¬ aft g s x < 1048576) : never (depTo g s (x + 1)) = never (depTo g s x) := by
  show never (min (minTo (depAt g s) x) (depAt g s x)) = _
  rw [aft_never hs h]; rfl
theorem never_le (d : Nat) (h : d ≤ 99) : never d ≤ 1048576 := by unfold never; split <;> omega
theorem aft_le (g : List Int) (s x : Nat) : aft g s x ≤ 1048576 := by
  have := never_le _ (dep_le g (qIn g s x))
  have := never_le _ (dep_le g (without s (qIn g s x)))
  unfold aft
  split <;> omega
theorem never_eq {d : Nat} (h : d ≤ 99) : never d = 1048576 ↔ d = 99 := by unfold never; split <;> omega

/-! ### The best question -/
def good (g : List Int) (s x : Nat) : Bool := tells g s x && decide (dep g (qIn g s x) < dep g s) && decide (dep g (without s (qIn g s x)) < dep g s)
theorem good_iff {g : List Int} {s x : Nat} : good g s x = true ↔ (qIn g s x ≠ 0 ∧ qIn g s x ≠ s) ∧ dep g (qIn g s x) < dep g s ∧ dep g (without s (qIn g s x)) < dep g s := by
  unfold good
  simp only [Bool.and_eq_true, decide_eq_true_eq, tells_iff, and_assoc]
def bestTo (g : List Int) (s : Nat) : Nat → Nat → Nat
  | 0, _ => 0
  | d + 1, x => if good g s x then x else bestTo g s d (x + 1)
def bestOf (g : List Int) (s : Nat) : Nat := bestTo g s g.length 0
theorem good_aft {g : List Int} {s x : Nat} (hs : s ≤ 4095) (h : dep g s < 99) : good g s x = true ↔ aft g s x < never (dep g s) := by
  have hd := dep_small hs (show dep g s ≠ 99 by omega)
  have hn : never (dep g s) = dep g s := by unfold never; rw [if_neg (by omega)]
  rw [hn]
  cases ht : tells g s x
  · unfold good aft
    rw [ht]
    simp
    omega
  · unfold good aft
    rw [ht]
    have l1 := dep_le g (qIn g s x)
    have l2 := dep_le g (without s (qIn g s x))
    simp only [Bool.true_and, Bool.and_eq_true, decide_eq_true_eq, if_true]
    unfold never
    constructor
    · rintro ⟨h1, h2⟩
      rw [if_neg (by omega), if_neg (by omega)]
      omega
    · intro h
      split at h <;> split at h <;> omega
theorem good_has {g : List Int} {s : Nat} (hs : s ≤ 4095) (h : dep g s < 99) (h0 : dep g s ≠ 0) : ∃ x, x < g.length ∧ good g s x = true := by
  by_cases h1 : band s (s - 1) = 0
  · exact absurd (dep_one h1) h0
  · have e := dep_more h1 (g := g)
    rcases minTo_has (depAt g s) g.length with e1 | ⟨x, hx, e1⟩
    · exfalso
      unfold depTo at e
      omega
    · refine ⟨x, hx, ?_⟩
      unfold depTo at e
      rw [e1] at e
      have ht : tells g s x = true := by
        cases ht : tells g s x
        · exfalso
          unfold depAt at e
          rw [ht] at e
          simp at e
          omega
        · rfl
      rcases depAt_lt hs ht with ⟨e2, -⟩ | ⟨e2, e3, -⟩
      · omega
      · refine good_iff.2 ⟨tells_iff.1 ht, ?_, ?_⟩ <;> omega
theorem bestTo_good {g : List Int} {s : Nat} : ∀ {d x : Nat}, (∃ y, x ≤ y ∧ y < x + d ∧ good g s y = true) → good g s (bestTo g s d x) = true ∧ bestTo g s d x < x + d
  | 0, x, ⟨y, h1, h2, _⟩ => by omega
  | d + 1, x, ⟨y, h1, h2, h3⟩ => by
    unfold bestTo
    split
    · rename_i h
      exact ⟨h, by omega⟩
    · rename_i h
      have : y ≠ x := fun e => h (e ▸ h3)
      have := bestTo_good (d := d) (x := x + 1) ⟨y, by omega, by omega, h3⟩
      exact ⟨this.1, by omega⟩
theorem best_good {g : List Int} {s : Nat} (hs : s ≤ 4095) (h : dep g s < 99) (h0 : dep g s ≠ 0) : good g s (bestOf g s) = true ∧ bestOf g s < g.length := by
  obtain ⟨x, hx, hg⟩ := good_has hs h h0
  have := bestTo_good (d := g.length) (x := 0) ⟨x, by omega, by omega, hg⟩
  exact ⟨this.1, by have := this.2; unfold bestOf; omega⟩
/-- No node ahead of the best one is good. -/
theorem bestTo_first {g : List Int} {s : Nat} : ∀ {d x y : Nat}, x ≤ y → y < bestTo g s d x → y < x + d → good g s y = false
  | 0, x, y, _, _, _ => by omega
  | d + 1, x, y, h1, h2, h3 => by
    unfold bestTo at h2
    split at h2
    · omega
    · rename_i h
      by_cases e : y = x
      · subst e; simpa using h
      · exact bestTo_first (d := d) (x := x + 1) (by omega) h2 (by omega)
/-- Walking from node to node: the best question is still ahead. -/
theorem best_here {g : List Int} {s x : Nat} (h : good g s x = true) (hx : x < g.length) (hb : ∀ y, y < x → good g s y = false) : bestOf g s = x := by
  have h1 := bestTo_good (g := g) (s := s) (d := g.length) (x := 0) ⟨x, by omega, by omega, h⟩
  have h2 : ¬ x < bestOf g s := fun hlt => by
    have := bestTo_first (g := g) (s := s) (d := g.length) (x := 0) (y := x) (by omega) hlt (by omega)
    rw [h] at this; cases this
  have h3 : ¬ bestOf g s < x := fun hlt => by
    have := hb _ hlt
    have h4 := h1.1
    unfold bestOf at this
    rw [h4] at this; cases this
  omega
theorem best_none {g : List Int} {s : Nat} (hb : ∀ y, y < g.length → good g s y = false) : bestOf g s = 0 := by
  have : ∀ d x, x + d ≤ g.length → bestTo g s d x = 0 := by
    intro d
    induction d with
    | zero => intro x _; rfl
    | succ d ih =>
      intro x hx
      unfold bestTo
      rw [hb x (by omega)]
      exact ih (x + 1) (by omega)
  exact this g.length 0 (by omega)

/-! ### Played questions -/
/-- The set behind the best question. -/
def nextOf (g : List Int) (wrong s : Nat) : Nat := if (qIn g s (bestOf g s)).testBit wrong then qIn g s (bestOf g s) else without s (qIn g s (bestOf g s))
def play (g : List Int) (wrong : Nat) : Nat → Nat → List Nat
  | 0, _ => []
  | d + 1, s => if dep g s = 0 then [] else bestOf g s :: play g wrong d (nextOf g wrong s)
theorem next_facts {g : List Int} {wrong s : Nat} (hs : s ≤ 4095) (h : dep g s < 99) (h0 : dep g s ≠ 0) : nextOf g wrong s ≠ 0 ∧ nextOf g wrong s < s ∧ dep g (nextOf g wrong s) < dep g s := by
  have hb := good_iff.1 (best_good hs h h0).1
  unfold nextOf
  split
  · exact ⟨hb.1.1, qIn_lt hb.1.2, hb.2.1⟩
  · exact ⟨mt qOut_zero.1 hb.1.2, qOut_lt hb.1.1, hb.2.2⟩
theorem dep_pos {g : List Int} {s : Nat} (hs : s ≤ 4095) (h0 : s ≠ 0) : dep g s = 0 ↔ cnt s = 1 := by
  have hz := mt (cnt_zero hs).1 h0
  constructor
  · intro h
    by_cases h1 : band s (s - 1) = 0
    · have := (one_iff hs).1 h1
      omega
    · exfalso
      rw [dep_more h1] at h
      rcases minTo_has (depAt g s) g.length with e | ⟨x, hx, e⟩
      · unfold depTo at h; omega
      · unfold depTo at h
        rw [e] at h
        unfold depAt at h
        split at h <;> omega
  · intro h
    exact dep_one ((one_iff hs).2 (by omega))
end Go.Proofs.Ytpmammklklkheaa
