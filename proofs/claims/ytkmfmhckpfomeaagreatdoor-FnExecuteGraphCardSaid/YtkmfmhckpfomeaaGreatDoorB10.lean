/- What the walks of this seat rest on, one part: plain facts, and contracts of the functions that they reach. Each states its own condition. -/
import Derived.Test.YtkmfmhckpfomeaaGreatDoorB7
import Derived.Test.YtkmfmhckpfomeaaGreatDoorB8
set_option linter.all false
set_option linter.unusedSimpArgs false
set_option linter.unusedVariables false
/- Distances in a graph: the plain distance, that it goes both ways, and that the program's list holds it. No program in sight. No condition. -/
namespace Go.Proofs.YtkmfmhckpfomeaaGreatDoor

theorem testBit_orTo (g : List Int) (e y : Nat) : ∀ k, (orTo g e k).testBit y = true ↔ ∃ z, z < k ∧ e.testBit z = true ∧ (gN g z).testBit y = true
  | 0 => by simp [orTo]
  | k + 1 => by
    have ih := testBit_orTo g e y k
    unfold orTo
    constructor
    · intro h
      split at h
      · rename_i he
        rw [testBit_bor, Bool.or_eq_true] at h
        rcases h with h | h
        · obtain ⟨z, h1, h2⟩ := ih.1 h
          exact ⟨z, by omega, h2⟩
        · exact ⟨k, by omega, he, h⟩
      · obtain ⟨z, h1, h2⟩ := ih.1 h
        exact ⟨z, by omega, h2⟩
    · rintro ⟨z, h1, h2, h3⟩
      by_cases e' : z = k
      · subst e'
        rw [if_pos h2, testBit_bor, h3, Bool.or_true]
      · have := ih.2 ⟨z, by omega, h2, h3⟩
        split
        · rw [testBit_bor, this, Bool.true_or]
        · exact this

/-- The nodes that are at most so many steps away. -/
def reach (g : List Int) (x : Nat) : Nat → Nat
  | 0 => 2 ^ x
  | d + 1 => bor (reach g x d) (orTo g (reach g x d) g.length)
theorem reach_zero {g : List Int} {x y : Nat} : (reach g x 0).testBit y = true ↔ y = x := by
  show (2 ^ x).testBit y = true ↔ _
  rw [Nat.testBit_two_pow]
  simp [eq_comm]
theorem reach_succ {g : List Int} (_ : IsGraph g) {x d y : Nat} : (reach g x (d + 1)).testBit y = true ↔ (reach g x d).testBit y = true ∨ ∃ z, (reach g x d).testBit z = true ∧ (gN g z).testBit y = true := by
  show (bor _ _).testBit y = true ↔ _
  rw [testBit_bor, Bool.or_eq_true, testBit_orTo]
  constructor
  · rintro (h | ⟨z, _, h⟩)
    · exact .inl h
    · exact .inr ⟨z, h⟩
  · rintro (h | ⟨z, h1, h2⟩)
    · exact .inl h
    · refine .inr ⟨z, ?_, h1, h2⟩
      rcases Nat.lt_or_ge z g.length with h | h
      · exact h
      · rw [gN_out h, Nat.zero_testBit] at h2; cases h2
theorem reach_mono {g : List Int} (hg : IsGraph g) {x y : Nat} : ∀ {d e : Nat}, d ≤ e → (reach g x d).testBit y = true → (reach g x e).testBit y = true
  | d, e, h, hd => by
    induction e with
    | zero => obtain rfl : d = 0 := by omega
              exact hd
    | succ e ih =>
      by_cases h' : d = e + 1
      · subst h'; exact hd
      · exact (reach_succ hg).2 (.inl (ih (by omega)))
/-- The first step may be taken apart as well as the last. -/
theorem reach_first {g : List Int} (hg : IsGraph g) {x y : Nat} : ∀ {d : Nat}, (reach g x (d + 1)).testBit y = true ↔ (reach g x d).testBit y = true ∨ ∃ z, (gN g x).testBit z = true ∧ (reach g z d).testBit y = true
  | 0 => by
    rw [reach_succ hg]
    constructor
    · rintro (h | ⟨z, h1, h2⟩)
      · exact .inl h
      · rw [reach_zero] at h1
        subst h1
        exact .inr ⟨y, h2, reach_zero.2 rfl⟩
    · rintro (h | ⟨z, h1, h2⟩)
      · exact .inl h
      · rw [reach_zero] at h2
        subst h2
        exact .inr ⟨x, reach_zero.2 rfl, h1⟩
  | d + 1 => by
    rw [reach_succ hg]
    constructor
    · rintro (h | ⟨z, h1, h2⟩)
      · exact .inl h
      · rcases (reach_first hg).1 h1 with h | ⟨u, h3, h4⟩
        · exact .inl ((reach_succ hg).2 (.inr ⟨z, h, h2⟩))
        · exact .inr ⟨u, h3, (reach_succ hg).2 (.inr ⟨z, h4, h2⟩)⟩
    · rintro (h | ⟨z, h1, h2⟩)
      · exact .inl h
      · rcases (reach_succ hg).1 h2 with h | ⟨u, h3, h4⟩
        · exact .inl ((reach_first hg).2 (.inr ⟨z, h1, h⟩))
        · exact .inr ⟨u, (reach_first hg).2 (.inr ⟨z, h1, h3⟩), h4⟩
theorem reach_symm {g : List Int} (hg : IsGraph g) : ∀ {d x y : Nat}, (reach g x d).testBit y = true → (reach g y d).testBit x = true
  | 0, x, y, h => by rw [reach_zero] at h ⊢; exact h.symm
  | d + 1, x, y, h => by
    rcases (reach_succ hg).1 h with h | ⟨z, h1, h2⟩
    · exact (reach_succ hg).2 (.inl (reach_symm hg h))
    · refine (reach_first hg).2 (.inr ⟨z, ?_, reach_symm hg h1⟩)
      rw [← hg.sym]; exact h2
theorem reach_lt {g : List Int} (hg : IsGraph g) {x : Nat} (hx : x < g.length) : ∀ d, reach g x d < 2 ^ g.length
  | 0 => Nat.pow_lt_pow_right (by omega) hx
  | d + 1 => bor_lt (reach_lt hg hx d) (orTo_lt hg _ _)
theorem reach_small {g : List Int} (hg : IsGraph g) {x : Nat} (hx : x < g.length) (d : Nat) : reach g x d ≤ 4095 := by
  have := reach_lt hg hx d
  have := pow_le_12 hg.le
  omega
theorem reach_stay {g : List Int} {x d : Nat} (h : reach g x (d + 1) = reach g x d) : ∀ k, reach g x (d + k) = reach g x d
  | 0 => rfl
  | k + 1 => by
    have ih := reach_stay h k
    show bor (reach g x (d + k)) (orTo g (reach g x (d + k)) g.length) = _
    rw [ih]
    exact h
theorem cnt_lt_of_lt {s n : Nat} (h : s < 2 ^ n) : cnt s ≤ n := by
  unfold cnt
  have : ∀ m, (List.range m).countP (fun i => s.testBit i) ≤ n := by
    intro m
    induction m with
    | zero => simp
    | succ m ih =>
      rw [List.range_succ, List.countP_append]
      by_cases hm : m < n
      · have h1 : (List.range m).countP (fun i => s.testBit i) ≤ m := by simpa using List.countP_le_length (p := fun i => s.testBit i) (l := List.range m)
        have h2 : [m].countP (fun i => s.testBit i) ≤ 1 := by simpa using List.countP_le_length (p := fun i => s.testBit i) (l := [m])
        omega
      · have : s.testBit m = false := testBit_out h (by omega)
        simp [this]
        exact ih
  exact this 12
theorem cnt_grow {s t : Nat} (ht : t ≤ 4095) (h : ∀ i, s.testBit i = true → t.testBit i = true) (hne : s ≠ t) : cnt s + 1 ≤ cnt t := by
  have h1 := cnt_split t s
  have h2 : band t s = s := by
    apply Nat.eq_of_testBit_eq
    intro i
    rw [testBit_band]
    cases hs : s.testBit i
    · simp
    · rw [h i hs]; rfl
  have h3 : without t s ≠ 0 := fun e => by
    have := without_zero.1 e
    rw [h2] at this
    exact hne this
  have h4 := mt (cnt_zero (without_le t s ht)).1 h3
  rw [h2] at h1
  omega
theorem reach_cnt {g : List Int} (hg : IsGraph g) {x : Nat} (hx : x < g.length) : ∀ d, reach g x (d + 1) ≠ reach g x d → d + 2 ≤ cnt (reach g x (d + 1))
  | 0, h => by
    have h1 := cnt_grow (reach_small hg hx 1) (fun i => reach_mono hg (by omega)) (fun e => h e.symm)
    have h2 := mt (cnt_zero (reach_small hg hx 0)).1 (by show 2 ^ x ≠ 0; have := Nat.two_pow_pos x; omega)
    simp only [Nat.zero_add] at h1 ⊢
    omega
  | d + 1, h => by
    have h1 := cnt_grow (reach_small hg hx (d + 2)) (fun i => reach_mono hg (show d + 1 ≤ d + 2 by omega)) (fun e => h e.symm)
    have h2 : reach g x (d + 1) ≠ reach g x d := fun e => h (by rw [show d + 1 + 1 = d + 2 from rfl, reach_stay e 2, e])
    have := reach_cnt hg hx d h2
    show d + 1 + 2 ≤ cnt (reach g x (d + 2))
    omega
/-- Behind as many steps as there are nodes nothing new is met. -/
theorem reach_end {g : List Int} (hg : IsGraph g) {x : Nat} (hx : x < g.length) : ∀ {d : Nat}, g.length - 1 ≤ d → reach g x d = reach g x (g.length - 1) := by
  intro d hd
  have h : reach g x (g.length - 1 + 1) = reach g x (g.length - 1) := by
    by_cases h : reach g x (g.length - 1 + 1) = reach g x (g.length - 1)
    · exact h
    · have h1 := reach_cnt hg hx _ h
      have h2 := cnt_lt_of_lt (reach_lt hg hx (g.length - 1 + 1))
      omega
  have := reach_stay h (d - (g.length - 1))
  rwa [show g.length - 1 + (d - (g.length - 1)) = d from by omega] at this

/-! ### The distance -/
def fstAt (p : Nat → Bool) : Nat → Nat → Nat
  | 0, d => d
  | f + 1, d => if p d then d else fstAt p f (d + 1)
theorem fstAt_le (p : Nat → Bool) : ∀ f d, fstAt p f d ≤ d + f
  | 0, d => Nat.le_refl _
  | f + 1, d => by
    unfold fstAt
    split
    · omega
    · have := fstAt_le p f (d + 1)
      omega
theorem fstAt_iff {p : Nat → Bool} (hp : ∀ d e, d ≤ e → p d = true → p e = true) : ∀ (f a d : Nat), a ≤ d → d < a + f → (fstAt p f a ≤ d ↔ p d = true)
  | 0, a, d, h1, h2 => by omega
  | f + 1, a, d, h1, h2 => by
    unfold fstAt
    split
    · rename_i h
      exact ⟨fun _ => hp a d h1 h, fun _ => h1⟩
    · rename_i h
      by_cases e : a = d
      · subst e
        constructor
        · intro h3
          exfalso
          have : ∀ f b, b ≤ fstAt p f b := by
            intro f
            induction f with
            | zero => intro b; exact Nat.le_refl _
            | succ f ih =>
              intro b
              unfold fstAt
              split
              · omega
              · have := ih (b + 1); omega
          have := this f (a + 1)
          omega
        · intro h3; exact absurd h3 h
      · exact fstAt_iff hp f (a + 1) d (by omega) (by omega)
/-- The distance of two nodes, 12 for none. -/
def dd (g : List Int) (x y : Nat) : Nat := fstAt (fun d => (reach g x d).testBit y) 12 0
theorem dd_le (g : List Int) (x y : Nat) : dd g x y ≤ 12 := by
  have := fstAt_le (fun d => (reach g x d).testBit y) 12 0
  unfold dd; omega
theorem dd_iff {g : List Int} (hg : IsGraph g) {x y d : Nat} (hd : d ≤ 11) : dd g x y ≤ d ↔ (reach g x d).testBit y = true :=
  fstAt_iff (fun _ _ h => reach_mono hg h) 12 0 d (by omega) (by omega)
theorem dd_symm {g : List Int} (hg : IsGraph g) (x y : Nat) : dd g x y = dd g y x := by
  have h : ∀ x y, dd g x y ≤ dd g y x := by
    intro x y
    by_cases h : dd g y x ≤ 11
    · exact (dd_iff hg h).2 (reach_symm hg ((dd_iff hg h).1 (Nat.le_refl _)))
    · have := dd_le g x y
      omega
  exact Nat.le_antisymm (h x y) (h y x)
/-- A node is met at the distance d + 1 just if it is not nearer and has a neighbour at the distance d. -/
theorem dd_step {g : List Int} (hg : IsGraph g) {x y d : Nat} (hd : d ≤ 10) (h : d < dd g x y) : dd g x y = d + 1 ↔ ∃ z, dd g x z = d ∧ (gN g z).testBit y = true := by
  have h0 : ¬ (reach g x d).testBit y = true := fun h1 => by
    have := (dd_iff hg (show d ≤ 11 by omega)).2 h1
    omega
  constructor
  · intro e
    have h1 := (dd_iff hg (show d + 1 ≤ 11 by omega)).1 (Nat.le_of_eq e)
    rcases (reach_succ hg).1 h1 with h2 | ⟨z, h2, h3⟩
    · exact absurd h2 h0
    · refine ⟨z, Nat.le_antisymm ((dd_iff hg (by omega)).2 h2) ?_, h3⟩
      rcases Nat.lt_or_ge (dd g x z) d with h4 | h4
      · exfalso
        apply h0
        have h5 := (dd_iff hg (show d - 1 ≤ 11 by omega)).1 (show dd g x z ≤ d - 1 by omega)
        have := (reach_succ hg).2 (.inr ⟨z, h5, h3⟩)
        rwa [show d - 1 + 1 = d from by omega] at this
      · exact h4
  · rintro ⟨z, h1, h2⟩
    have h3 := (dd_iff hg (show d ≤ 11 by omega)).1 (Nat.le_of_eq h1)
    have := (dd_iff hg (show d + 1 ≤ 11 by omega)).2 ((reach_succ hg).2 (.inr ⟨z, h3, h2⟩))
    omega
theorem dd_zero {g : List Int} (hg : IsGraph g) {x y : Nat} : dd g x y = 0 ↔ y = x := by
  have := dd_iff hg (x := x) (y := y) (show 0 ≤ 11 by omega)
  rw [reach_zero] at this
  rw [← this]; omega
theorem dd_top {g : List Int} (hg : IsGraph g) {x y : Nat} (hx : x < g.length) (h : dd g x y ≤ 11) : dd g x y ≤ g.length - 1 := by
  have hl := hg.le
  have h1 := (dd_iff hg h).1 (Nat.le_refl _)
  by_cases h2 : g.length - 1 ≤ dd g x y
  · rw [reach_end hg hx h2] at h1
    exact (dd_iff hg (by omega)).2 h1
  · omega

/-! ### The program's list -/
theorem getD_setTo (out : List Int) (edge steps y : Nat) : ∀ k, y < out.length → (setTo out edge steps k).getD y 0 = if edge.testBit y && decide (y < k) then ((steps : Nat) : Int) else out.getD y 0
  | 0, h => by simp [setTo]
  | k + 1, h => by
    have ih := getD_setTo out edge steps y k h
    have hlen := setTo_length out edge steps k
    unfold setTo
    by_cases e : y = k
    · subst e
      split
      · rename_i he
        rw [he, List.getD_eq_getElem?_getD, List.getElem?_set_self (by omega)]
        simp
      · rename_i he
        rw [ih]
        simp [he]
    · have h1 : decide (y < k + 1) = decide (y < k) := by
        by_cases h : y < k
        · rw [decide_eq_true h, decide_eq_true (by omega)]
        · rw [decide_eq_false h, decide_eq_false (by omega)]
      rw [h1]
      split
      · rw [List.getD_eq_getElem?_getD, List.getElem?_set_ne (fun h => e h.symm), ← List.getD_eq_getElem?_getD, ih]
      · exact ih
/-- What the program holds behind k rounds. -/
theorem bfs_facts {g : List Int} (hg : IsGraph g) {x : Nat} (hx : x < g.length) : ∀ k,
    (∀ y, ((bfsAt g x k).seen.testBit y = true ↔ 0 < k ∧ (reach g x (k - 1)).testBit y = true)) ∧
    (∀ y, ((bfsAt g x k).edge.testBit y = true ↔ (reach g x k).testBit y = true ∧ (k = 0 ∨ (reach g x (k - 1)).testBit y = false)))
  | 0 => by
    refine ⟨fun y => ?_, fun y => ?_⟩
    · show (0 : Nat).testBit y = true ↔ _
      simp
    · show (2 ^ x).testBit y = true ↔ (2 ^ x).testBit y = true ∧ _
      simp
  | k + 1 => by
    obtain ⟨h1, h2⟩ := bfs_facts hg hx k
    have hs : ∀ y, ((bor (bfsAt g x k).seen (bfsAt g x k).edge).testBit y = true ↔ (reach g x k).testBit y = true) := fun y => by
      rw [testBit_bor, Bool.or_eq_true, h1, h2]
      constructor
      · rintro (⟨h3, h4⟩ | ⟨h3, -⟩)
        · exact reach_mono hg (by omega) h4
        · exact h3
      · intro h3
        by_cases h0 : k = 0
        · exact .inr ⟨h3, .inl h0⟩
        · cases h4 : (reach g x (k - 1)).testBit y
          · exact .inr ⟨h3, .inr rfl⟩
          · exact .inl ⟨by omega, rfl⟩
    refine ⟨fun y => ?_, fun y => ?_⟩
    · show (bor _ _).testBit y = true ↔ _
      rw [hs]
      simp
    · show (without (orTo g (bfsAt g x k).edge g.length) (bor _ _)).testBit y = true ↔ _
      rw [testBit_without, Bool.and_eq_true, Bool.not_eq_true', testBit_orTo, Nat.add_sub_cancel, ← Bool.not_eq_true, hs]
      constructor
      · rintro ⟨⟨z, _, h3, h4⟩, h5⟩
        refine ⟨(reach_succ hg).2 (.inr ⟨z, ((h2 z).1 h3).1, h4⟩), .inr (by simpa using h5)⟩
      · rintro ⟨h3, h4⟩
        have h4 : (reach g x k).testBit y = false := by
          rcases h4 with h4 | h4
          · omega
          · exact h4
        refine ⟨?_, by rw [h4]; decide⟩
        rcases (reach_succ hg).1 h3 with h5 | ⟨z, h5, h6⟩
        · rw [h4] at h5; cases h5
        · have hz : z < g.length := by
            rcases Nat.lt_or_ge z g.length with h | h
            · exact h
            · rw [gN_out h, Nat.zero_testBit] at h6; cases h6
          refine ⟨z, hz, (h2 z).2 ⟨h5, ?_⟩, h6⟩
          by_cases h0 : k = 0
          · exact .inl h0
          · refine .inr ?_
            cases h7 : (reach g x (k - 1)).testBit z
            · rfl
            · have := (reach_succ hg).2 (.inr ⟨z, h7, h6⟩)
              rw [show k - 1 + 1 = k from by omega, h4] at this
              cases this
theorem bfs_out {g : List Int} (hg : IsGraph g) {x : Nat} (hx : x < g.length) {y : Nat} (hy : y < g.length) : ∀ k, k ≤ 12 → (bfsAt g x k).out.getD y 0 = if dd g x y < k then ((dd g x y : Nat) : Int) else 12
  | 0, _ => by
    show (List.replicate g.length (12 : Int)).getD y 0 = _
    simp [hy]
  | k + 1, hk => by
    have ih := bfs_out hg hx hy k (by omega)
    obtain ⟨_, h2⟩ := bfs_facts hg hx k
    have h3 := bfs_lt hg hx k
    show (setTo (bfsAt g x k).out (bfsAt g x k).edge (bfsAt g x k).steps g.length).getD y 0 = _
    rw [getD_setTo _ _ _ _ _ (by rw [h3.2.2.2]; exact hy), h3.2.2.1, ih, decide_eq_true hy, Bool.and_true]
    have e1 := dd_iff hg (x := x) (y := y) (show k ≤ 11 by omega)
    by_cases he : (bfsAt g x k).edge.testBit y = true
    · rw [if_pos he]
      obtain ⟨h4, h5⟩ := (h2 y).1 he
      have h6 := e1.2 h4
      have h7 : ¬ dd g x y < k := fun h => by
        rcases h5 with h5 | h5
        · omega
        · have := (dd_iff hg (show k - 1 ≤ 11 by omega)).1 (show dd g x y ≤ k - 1 by omega)
          rw [h5] at this; cases this
      rw [if_pos (by omega), show dd g x y = k from by omega]
    · rw [if_neg he]
      by_cases h8 : dd g x y < k
      · rw [if_pos h8, if_pos (by omega)]
      · rw [if_neg h8, if_neg]
        intro h9
        apply he
        refine (h2 y).2 ⟨e1.1 (by omega), ?_⟩
        by_cases h0 : k = 0
        · exact .inl h0
        · refine .inr ?_
          cases h7 : (reach g x (k - 1)).testBit y
          · rfl
          · have := (dd_iff hg (show k - 1 ≤ 11 by omega)).2 h7
            omega
theorem dist_get {g : List Int} (hg : IsGraph g) {x : Nat} (hx : x < g.length) {y : Nat} (hy : y < g.length) : (distOf g x).getD y 0 = ((dd g x y : Nat) : Int) := by
  have hl := hg.le
  have he : (bfsAt g x 12).edge = 0 := by
    apply Nat.eq_of_testBit_eq
    intro i
    rw [Nat.zero_testBit]
    cases h : (bfsAt g x 12).edge.testBit i
    · rfl
    · obtain ⟨h1, h2⟩ := ((bfs_facts hg hx 12).2 i).1 h
      rcases h2 with h2 | h2
      · omega
      · rw [reach_end hg hx (show g.length - 1 ≤ 12 by omega)] at h1
        rw [reach_end hg hx (show g.length - 1 ≤ 12 - 1 by omega), h1] at h2
        cases h2
  rw [dist_at (by omega) he, bfs_out hg hx hy 12 (Nat.le_refl _)]
  have := dd_le g x y
  split
  · rfl
  · rw [show dd g x y = 12 from by omega]; rfl
end Go.Proofs.YtkmfmhckpfomeaaGreatDoor

/- The distances of a node by the reference: the same list as the program's. No condition. -/
namespace Go.Proofs.YtkmfmhckpfomeaaGreatDoor
open Go.RowKit
open BigFrame

/-- Whether node y has been met from the nodes at the distance d, up to the place (i, k). -/
def metAt (g : List Int) (x d i k y : Nat) : Bool := (List.range g.length).any fun j => (decide (j < i) || (decide (j = i) && decide (y < k))) && decide (dd g x j = d) && (gN g j).testBit y
def curAt (g : List Int) (x d i k y : Nat) : Nat := if dd g x y ≤ d then dd g x y else if metAt g x d i k y then d + 1 else 12
def curL (g : List Int) (x d i k : Nat) : List Int := (List.range g.length).map fun y => ((curAt g x d i k y : Nat) : Int)
theorem curL_length (g : List Int) (x d i k : Nat) : (curL g x d i k).length = g.length := by simp [curL]
theorem curL_get (g : List Int) (x d i k : Nat) {y : Nat} (h : y < g.length) : (curL g x d i k).getD y 0 = ((curAt g x d i k y : Nat) : Int) := by simp [curL, h]
theorem metAt_iff {g : List Int} {x d i k y : Nat} : metAt g x d i k y = true ↔ ∃ j, j < g.length ∧ (j < i ∨ j = i ∧ y < k) ∧ dd g x j = d ∧ (gN g j).testBit y = true := by
  unfold metAt
  simp only [List.any_eq_true, List.mem_range, Bool.and_eq_true, Bool.or_eq_true, decide_eq_true_eq, and_assoc]
theorem curL_congr {g : List Int} {x d i k d' i' k' : Nat} (h : ∀ y, y < g.length → curAt g x d i k y = curAt g x d' i' k' y) : curL g x d i k = curL g x d' i' k' := by
  unfold curL
  apply List.map_congr_left
  intro y hy
  rw [h y (List.mem_range.1 hy)]
theorem map_set {n k : Nat} {f f' : Nat → Int} (_ : k < n) (h : ∀ y, y ≠ k → f y = f' y) : ((List.range n).map f).set k (f' k) = (List.range n).map f' := by
  apply List.ext_getElem
  · simp
  · intro i h1 h2
    simp only [List.length_set, List.length_map, List.length_range] at h1
    by_cases e : i = k
    · subst e; simp
    · rw [List.getElem_set_ne (fun h => e h.symm)]
      simp [h i e]
theorem metAt_next {g : List Int} {x d i k y : Nat} (hi : i < g.length) : metAt g x d i (k + 1) y = (metAt g x d i k y || (decide (y = k) && decide (dd g x i = d) && (gN g i).testBit y)) := by
  rw [Bool.eq_iff_iff, Bool.or_eq_true, metAt_iff, metAt_iff, Bool.and_eq_true, Bool.and_eq_true, decide_eq_true_iff, decide_eq_true_iff]
  constructor
  · rintro ⟨j, h1, h2 | ⟨rfl, h2⟩, h3, h4⟩
    · exact .inl ⟨j, h1, .inl h2, h3, h4⟩
    · by_cases e : y = k
      · exact .inr ⟨⟨e, h3⟩, h4⟩
      · exact .inl ⟨j, h1, .inr ⟨rfl, by omega⟩, h3, h4⟩
  · rintro (⟨j, h1, h2 | ⟨rfl, h2⟩, h3, h4⟩ | ⟨⟨e, h3⟩, h4⟩)
    · exact ⟨j, h1, .inl h2, h3, h4⟩
    · exact ⟨j, h1, .inr ⟨rfl, by omega⟩, h3, h4⟩
    · exact ⟨i, hi, .inr ⟨rfl, by omega⟩, h3, h4⟩
theorem curAt_self {g : List Int} {x d i k j : Nat} (hd : d ≤ 11) : curAt g x d i k j = d ↔ dd g x j = d := by
  unfold curAt
  split
  · exact Iff.rfl
  · split <;> omega
/-- The place (i, k) is looked at: what is stored, if anything. -/
def putsAt (g : List Int) (x d i k : Nat) : Bool := decide (dd g x i = d) && (gN g i).testBit k && decide (d + 1 < curAt g x d i k k)
theorem curL_put {g : List Int} {x d i k : Nat} (hi : i < g.length) (hk : k < g.length) (h : putsAt g x d i k = true) : curL g x d i (k + 1) = (curL g x d i k).set k (((d + 1 : Nat) : Int)) := by
  unfold putsAt at h
  simp only [Bool.and_eq_true, decide_eq_true_eq] at h
  obtain ⟨⟨h1, h2⟩, h3⟩ := h
  have e : curAt g x d i (k + 1) k = d + 1 := by
    unfold curAt at h3 ⊢
    split at h3
    · omega
    · rename_i hc
      rw [if_neg hc, metAt_next hi, h2]
      simp [h1]
  unfold curL
  have := map_set (n := g.length) (k := k) (f := fun y => ((curAt g x d i k y : Nat) : Int)) (f' := fun y => ((curAt g x d i (k + 1) y : Nat) : Int)) hk (fun y hy => by
    show ((curAt g x d i k y : Nat) : Int) = ((curAt g x d i (k + 1) y : Nat) : Int)
    unfold curAt
    rw [metAt_next hi, decide_eq_false hy]
    simp)
  rw [← this, e]
theorem curL_skip {g : List Int} {x d i k : Nat} (hi : i < g.length) (hd : d ≤ 11) (h : putsAt g x d i k = false) : curL g x d i (k + 1) = curL g x d i k := by
  apply curL_congr
  intro y _
  by_cases e : y = k
  · subst e
    unfold putsAt at h
    by_cases h1 : dd g x i = d
    · cases h2 : (gN g i).testBit y
      · unfold curAt
        rw [metAt_next hi, h2]
        simp
      · rw [h2, decide_eq_true h1] at h
        have h3 : ¬ d + 1 < curAt g x d i y y := by simpa using h
        unfold curAt at h3 ⊢
        split at h3
        · rename_i hc; rw [if_pos hc, if_pos hc]
        · rename_i hc
          rw [if_neg hc, if_neg hc, metAt_next hi, h2]
          split at h3
          · rename_i hm; rw [hm]; simp
          · simp [h1]
            omega
    · unfold curAt
      rw [metAt_next hi, decide_eq_false h1]
      simp
  · unfold curAt
    rw [metAt_next hi, decide_eq_false e]
    simp
theorem curL_row {g : List Int} {x d i : Nat} : curL g x d (i + 1) 0 = curL g x d i g.length := by
  apply curL_congr
  intro y hy
  have : metAt g x d (i + 1) 0 y = metAt g x d i g.length y := by
    rw [Bool.eq_iff_iff, metAt_iff, metAt_iff]
    constructor
    · rintro ⟨j, h1, h2 | ⟨_, h2⟩, h3, h4⟩
      · by_cases e : j = i
        · exact ⟨j, h1, .inr ⟨e, hy⟩, h3, h4⟩
        · exact ⟨j, h1, .inl (by omega), h3, h4⟩
      · omega
    · rintro ⟨j, h1, h2 | ⟨rfl, _⟩, h3, h4⟩
      · exact ⟨j, h1, .inl (by omega), h3, h4⟩
      · exact ⟨j, h1, .inl (by omega), h3, h4⟩
  unfold curAt
  rw [this]
theorem metAt_all {g : List Int} {x d y : Nat} : metAt g x d g.length 0 y = true ↔ ∃ z, dd g x z = d ∧ (gN g z).testBit y = true := by
  rw [metAt_iff]
  constructor
  · rintro ⟨j, _, _, h3, h4⟩; exact ⟨j, h3, h4⟩
  · rintro ⟨z, h3, h4⟩
    have hz : z < g.length := by
      rcases Nat.lt_or_ge z g.length with h | h
      · exact h
      · rw [gN_out h, Nat.zero_testBit] at h4; cases h4
    exact ⟨z, hz, .inl hz, h3, h4⟩
theorem metAt_zero {g : List Int} {x d y : Nat} : metAt g x d 0 0 y = false := by
  rw [← Bool.not_eq_true, metAt_iff]
  rintro ⟨j, _, h2 | ⟨_, h2⟩, _⟩ <;> omega
theorem curL_round {g : List Int} (hg : IsGraph g) {x d : Nat} (hd : d ≤ 11) : curL g x (d + 1) 0 0 = curL g x d g.length 0 := by
  apply curL_congr
  intro y _
  have hle := dd_le g x y
  unfold curAt
  rw [metAt_zero]
  by_cases h1 : dd g x y ≤ d
  · rw [if_pos h1, if_pos (by omega)]
  · rw [if_neg h1]
    by_cases h10 : d ≤ 10
    · have hs := dd_step hg h10 (show d < dd g x y by omega)
      by_cases h2 : dd g x y = d + 1
      · rw [if_pos (by omega), metAt_all.2 (hs.1 h2), if_pos rfl]; exact h2
      · rw [if_neg (by omega)]
        have : metAt g x d g.length 0 y = false := by
          rw [← Bool.not_eq_true, metAt_all]
          exact fun h => h2 (hs.2 h)
        rw [this]
        simp
    · rw [if_pos (by omega)]
      split <;> omega
theorem curL_start {g : List Int} (hg : IsGraph g) {x : Nat} (hx : x < g.length) : (List.replicate g.length (12 : Int)).set x 0 = curL g x 0 0 0 := by
  apply List.ext_getElem
  · simp [curL_length]
  · intro i h1 h2
    simp only [List.length_set, List.length_replicate] at h1
    have hc : (curL g x 0 0 0)[i]'h2 = ((curAt g x 0 0 0 i : Nat) : Int) := by simp [curL]
    rw [hc]
    unfold curAt
    rw [metAt_zero]
    have hz := dd_zero hg (x := x) (y := i)
    by_cases e : i = x
    · subst e
      rw [List.getElem_set_self, if_pos (by have := hz.2 rfl; omega), hz.2 rfl]; rfl
    · rw [List.getElem_set_ne (fun h => e h.symm), if_neg (by have := mt hz.1 e; omega)]
      simp
theorem curL_end {g : List Int} (hg : IsGraph g) {x : Nat} (hx : x < g.length) : curL g x g.length 0 0 = distOf g x := by
  have hlen := dist_length hg hx
  apply List.ext_getElem
  · rw [curL_length, hlen]
  · intro i h1 h2
    rw [curL_length] at h1
    have hc : (curL g x g.length 0 0)[i]'(by rw [curL_length]; exact h1) = ((curAt g x g.length 0 0 i : Nat) : Int) := by simp [curL]
    have hd : (distOf g x)[i]'h2 = ((dd g x i : Nat) : Int) := by
      have := dist_get hg hx h1
      rw [List.getD_eq_getElem?_getD, List.getElem?_eq_getElem h2] at this
      exact this
    rw [hc, hd]
    unfold curAt
    rw [metAt_zero]
    simp only [Bool.false_eq_true, if_false]
    have hle := dd_le g x i
    by_cases h : dd g x i ≤ 11
    · have := dd_top hg hx h
      rw [if_pos (show dd g x i ≤ g.length by omega)]
    · split <;> omega
theorem replicate_next (k : Nat) : List.replicate k (12 : Int) ++ [12] = List.replicate (k + 1) 12 := (List.replicate_succ' ..).symm

set_option maxRecDepth 100000 in
set_option maxHeartbeats 4000000 in
theorem l1Distances_c (v : Value) (g : List Int) (x : Nat) (w : World) (hv : Rd w v g) (hg : IsGraph g) (hx : x < g.length) :
    Calls Tryz.prog 193 #[v, .int .i64 x] w fun e w' => ∃ v', e = .returned v' ∧ Own w' w.heap.size v' (distOf g x) ∧ Ext w w' := by
  obtain ⟨a, c, rfl⟩ := hv.form
  obtain ⟨W, hW⟩ : ∃ W, W = w.alloc (.cells #[] 3) := ⟨_, rfl⟩
  have ho0 : Own W w.heap.size (.slice (some ⟨w.heap.size, 0, none⟩) 0 0) [] := by rw [hW]; exact Own.lit w
  have hx0 : Ext w W := by rw [hW]; exact (Ext.refl _).alloc _
  have HW := Lib.hid hW; have HO0 := Lib.hid ho0; have HX0 := Lib.hid hx0; have HV := Lib.hid hv
  have HG := Lib.hid hg
  have hl := hg.le
  have hl1 := hg.pos
  clear hv hW ho0 hx0 hg
  go_enter Tryz.func193, Tryz.ntmps193
  go_wp2
  rw [← HW.out]
  go_loopw [5, 6] (fun o i wr => ∃ k : Nat, k ≤ g.length ∧ i = .int .i64 k ∧ Hid (Own wr w.heap.size o (List.replicate k 12)) ∧ Hid (Ext w wr)) (fun _ i _ => g.length - (intOf i).toNat)
  case atStart => exact ⟨0, Nat.zero_le _, rfl, HO0.out, HX0.out⟩
  case round =>
    clear HO0 HX0
    obtain ⟨k, hk, rfl, HO, HX⟩ := hrel
    by_cases hlt : k < g.length
    · go_wp2_with (at_builtin; refine wpList_append_int rfl _ _ rfl w.heap.size _ _ rfl (HO.out.alloc _) wr.heap.size 12 rfl (one_cell wr _ _) (by simp; omega) (by simp; have := HX.out.size; omega) ?_; intro v' w3 ho3 hg3 hn3)
      have HX3 : Hid (Ext w w3) := (HO.out.alloc _).grew (HX.out.alloc _) hg3 (Nat.le_refl _)
      have HO3 : Hid (Own w3 w.heap.size v' (List.replicate (k + 1) 12)) := by rw [← replicate_next]; exact ho3
      clear ho3 hg3 hn3
      go_wp2
      go_roundw
      case rel => exact ⟨k + 1, by omega, by go_num, HO3, HX3⟩
      case measure => simp [intOf]; omega
    · obtain rfl : k = g.length := by omega
      rcases HO.out.get with ⟨h1, h2⟩ | ⟨gb, cb, he, -, hgb, hcb, hcl, hfr⟩
      · have := congrArg List.length h2
        rw [List.length_replicate, List.length_nil] at this
        omega
      · subst he
        rw [List.length_replicate] at hcb hcl
        have c1 : wr.cell? ⟨gb, x, none⟩ = some (.int .i64 12) := by rw [hcl x hx]; simp [hx]
        have f1 := hfr x
        have hO := HO.out.set x 0
        rw [List.length_replicate, curL_start HG.out hx] at hO
        rw [List.length_replicate]
        have hX : Ext w (wr.setCell ⟨gb, x, none⟩ (.int .i64 0)) := HX.out.setCell (HO.out.lt gb rfl).1 _
        obtain ⟨W2, hW2⟩ : ∃ V, V = wr.setCell ⟨gb, x, none⟩ (.int .i64 0) := ⟨_, rfl⟩
        rw [← hW2] at hO hX
        have HW2 := Lib.hid hW2; have HO2 := Lib.hid hO; have HX2 := Lib.hid hX
        have hgbw := (HO.out.lt gb rfl).1
        clear hW2 hO hX hcl hfr HO HX hcb
        go_wp2
        rw [← HW2.out]
        clear c1 f1 HW2
        go_loopw [7] (fun i wr => ∃ d : Nat, d ≤ g.length ∧ i = .int .i64 d ∧ Hid (Own wr w.heap.size (.slice (some ⟨gb, 0, none⟩) g.length cb) (curL g x d 0 0)) ∧ Hid (Ext w wr)) (fun i _ => g.length - (intOf i).toNat)
        case atStart => exact ⟨0, Nat.zero_le _, rfl, HO2.out, HX2.out⟩
        case round =>
          clear HO2 HX2
          obtain ⟨d, hd, rfl, HO, HX⟩ := hrel
          by_cases hld : d < g.length
          · go_wp2
            go_loopw [8] (fun i wr => ∃ j : Nat, j ≤ g.length ∧ i = .int .i64 j ∧ Hid (Own wr w.heap.size (.slice (some ⟨gb, 0, none⟩) g.length cb) (curL g x d j 0)) ∧ Hid (Ext w wr)) (fun i _ => g.length - (intOf i).toNat)
            case atStart => exact ⟨0, Nat.zero_le _, rfl, HO, HX⟩
            case round =>
              clear HO HX
              obtain ⟨i, hi, rfl, HO, HX⟩ := hrel
              by_cases hli : i < g.length
              · go_wp2
                go_loopw [9] (fun q wr => ∃ k : Nat, k ≤ g.length ∧ q = .int .i64 k ∧ Hid (Own wr w.heap.size (.slice (some ⟨gb, 0, none⟩) g.length cb) (curL g x d i k)) ∧ Hid (Ext w wr)) (fun q _ => g.length - (intOf q).toNat)
                case atStart => exact ⟨0, Nat.zero_le _, rfl, HO, HX⟩
                case round =>
                  clear HO HX
                  obtain ⟨k, hk, rfl, HO, HX⟩ := hrel
                  by_cases hlk : k < g.length
                  · obtain ⟨-, -, -, -, hcl, hfr⟩ := HO.out.at
                    have c1 := hcl i hli
                    have c2 := hcl k hlk
                    have f2 := hfr k
                    rw [curL_get g x d i k hli] at c1
                    rw [curL_get g x d i k hlk] at c2
                    have hself := curAt_self (g := g) (x := x) (d := d) (i := i) (k := k) (j := i) (by omega)
                    obtain ⟨bg, og, rfl, -, hbg, hcg⟩ := HV.out.atI hli
                    have cg := hcg _ HX.out
                    rw [HG.out.row i hli] at cg
                    have h4 := HG.out.small i
                    clear hcl hfr hcg
                    have HPUT : Hid (putsAt g x d i k = (decide (dd g x i = d) && (gN g i).testBit k && decide (d + 1 < curAt g x d i k k))) := rfl
                    obtain ⟨ci, hci⟩ : ∃ z, z = curAt g x d i k i := ⟨_, rfl⟩
                    obtain ⟨ck, hck⟩ : ∃ z, z = curAt g x d i k k := ⟨_, rfl⟩
                    rw [← hci] at c1 hself
                    rw [← hck] at c2 HPUT
                    have HBT := Lib.hid (l1Bit_c (gN g i) k (by omega) (by omega))
                    clear hci hck
                    by_cases h1 : dd g x i = d
                    · have hcd := hself.2 h1
                      rw [hcd] at c1
                      rw [decide_eq_true h1] at HPUT
                      clear h1 hself hcd
                      cases h2 : (gN g i).testBit k
                      · rw [h2] at HPUT HBT
                        have HPF : Hid (putsAt g x d i k = false) := by unfold Hid; rw [HPUT.out]; rfl
                        clear h2 HPUT
                        have HS : Hid (curL g x d i (k + 1) = curL g x d i k) := curL_skip hli (by omega) HPF.out
                        go_wp2_with (go_at_call 152; refine (HBT.out _).mono ?_; rintro e w' ⟨rfl, rfl⟩)
                        go_roundw
                        case rel => exact ⟨k + 1, by omega, by go_num, by rw [HS.out]; exact HO, HX⟩
                        case measure => simp [intOf]; omega
                      · rw [h2] at HPUT HBT
                        clear h2
                        by_cases h3 : d + 1 < ck
                        · have HPT : Hid (putsAt g x d i k = true) := by unfold Hid; rw [HPUT.out, decide_eq_true h3]; rfl
                          have hO := HO.out.set k ((d + 1 : Nat) : Int)
                          rw [← curL_put hli hlk HPT.out] at hO
                          have HOS := Lib.hid hO
                          have HXS : Hid (∀ u : Value, Ext w (wr.setCell ⟨gb, k, none⟩ u)) := fun u => HX.out.setCell hgbw u
                          clear hO HPUT
                          go_wp2_with (go_at_call 152; refine (HBT.out _).mono ?_; rintro e w' ⟨rfl, rfl⟩)
                          go_roundw
                          case rel => exact ⟨k + 1, by omega, by go_num, HOS.out, HXS.out _⟩
                          case measure => simp [intOf]; omega
                        · have HPF : Hid (putsAt g x d i k = false) := by unfold Hid; rw [HPUT.out, decide_eq_false h3]; rfl
                          clear HPUT
                          have HS : Hid (curL g x d i (k + 1) = curL g x d i k) := curL_skip hli (by omega) HPF.out
                          go_wp2_with (go_at_call 152; refine (HBT.out _).mono ?_; rintro e w' ⟨rfl, rfl⟩)
                          go_roundw
                          case rel => exact ⟨k + 1, by omega, by go_num, by rw [HS.out]; exact HO, HX⟩
                          case measure => simp [intOf]; omega
                    · have hcd : ((ci : Int) == (d : Int)) = false := by simp; exact fun h => h1 (hself.1 (by omega))
                      have HPF : Hid (putsAt g x d i k = false) := by unfold Hid; rw [HPUT.out, decide_eq_false h1]; rfl
                      clear h1 hself HPUT
                      have HS : Hid (curL g x d i (k + 1) = curL g x d i k) := curL_skip hli (by omega) HPF.out
                      go_wp2_with (go_at_call 152; refine (HBT.out _).mono ?_; rintro e w' ⟨rfl, rfl⟩)
                      go_roundw
                      case rel => exact ⟨k + 1, by omega, by go_num, by rw [HS.out]; exact HO, HX⟩
                      case measure => simp [intOf]; omega
                  · obtain rfl : k = g.length := by omega
                    go_wp2
                    go_roundw
                    case rel => exact ⟨i + 1, by omega, by go_num, by rw [curL_row]; exact HO, HX⟩
                    case measure => simp [intOf]; omega
              · obtain rfl : i = g.length := by omega
                go_wp2
                go_roundw
                case rel => exact ⟨d + 1, by omega, by go_num, by rw [curL_round HG.out (by omega)]; exact HO, HX⟩
                case measure => simp [intOf]; omega
          · obtain rfl : d = g.length := by omega
            go_wp2
            go_ret
            exact ⟨_, rfl, by rw [← curL_end HG.out hx]; exact HO.out, HX.out⟩
end Go.Proofs.YtkmfmhckpfomeaaGreatDoor
