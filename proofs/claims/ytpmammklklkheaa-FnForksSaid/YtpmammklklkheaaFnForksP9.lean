/- What the walk of FnForks rests on, part 9: plain facts, and contracts of the functions that it reaches. Each states its own condition. -/
import Derived.Test.YtpmammklklkheaaFnForksP8
import Derived.Test.YtpmammklklkheaaFnForksP4
import Derived.Test.YtpmammklklkheaaFnForksP5
/- Codes of the four kinds, and how many sensors of a code may fall silent: plain functions and what holds of them. No program in sight. No condition. -/
namespace Go.Proofs.Ytpmammklklkheaa

/-! ### Codes -/
def covN (g : List Int) (s : Nat) : Bool := (List.range g.length).all fun i => decide (markN g s i ≠ 0)
/-- Whether a pair is asked, and its marks are the same. -/
def sameP (g : List Int) (s : Nat) (all : Bool) (i k : Nat) : Bool := (all || (!s.testBit i && !s.testBit k)) && decide (markN g s i = markN g s k)
def apartRow (g : List Int) (s : Nat) (all : Bool) (i : Nat) : Bool := (List.range i).all fun k => !sameP g s all i k
def apartN (g : List Int) (s : Nat) (all : Bool) : Bool := (List.range g.length).all (apartRow g s all)
/-- A node of the code that has unlike distances to two nodes. -/
def farP (g : List Int) (s i k c : Nat) : Bool := s.testBit c && decide (dd g i c ≠ dd g k c)
def resP (g : List Int) (s i k : Nat) : Bool := (List.range g.length).any (farP g s i k)
def resRow (g : List Int) (s i : Nat) : Bool := (List.range i).all (resP g s i)
def resN (g : List Int) (s : Nat) : Bool := (List.range g.length).all (resRow g s)
def kindN (g : List Int) (kind s : Nat) : Bool :=
  if kind = 0 then covN g s else if kind = 1 then covN g s && apartN g s false else if kind = 2 then covN g s && apartN g s true else resN g s
def codeIn (g : List Int) (kind s : Int) : Bool := graphIn g && inB 0 kind 3 && setB s g.length && kindN g kind.toNat s.toNat
theorem covN_iff {g : List Int} {s : Nat} : covN g s = true ↔ ∀ i, i < g.length → markN g s i ≠ 0 := by
  unfold covN; simp [List.all_eq_true]
theorem apartN_iff {g : List Int} {s : Nat} : apartN g s true = true ↔ ∀ i, i < g.length → ∀ k, k < i → markN g s i ≠ markN g s k := by
  unfold apartN apartRow sameP; simp [List.all_eq_true]
theorem kind2_iff {g : List Int} {s : Nat} : kindN g 2 s = true ↔ (∀ i, i < g.length → markN g s i ≠ 0) ∧ ∀ i, i < g.length → ∀ k, k < i → markN g s i ≠ markN g s k := by
  unfold kindN
  rw [if_neg (by decide), if_neg (by decide), if_pos rfl, Bool.and_eq_true, covN_iff, apartN_iff]

/-! ### Silent sensors -/
theorem mark_without (g : List Int) (s t i : Nat) : markN g (without s t) i = without (markN g s i) t := by
  unfold markN
  apply Nat.eq_of_testBit_eq
  intro j
  simp only [testBit_band, testBit_without]
  cases (ballN g i).testBit j <;> simp
theorem mark_sub (g : List Int) (s i : Nat) : band (markN g s i) s = markN g s i := by
  unfold markN
  apply Nat.eq_of_testBit_eq
  intro j
  simp only [testBit_band]
  cases (ballN g i).testBit j <;> simp
theorem without_eq {a b t : Nat} : without a t = without b t ↔ band (bxor a b) t = bxor a b := by
  constructor
  · intro e
    apply Nat.eq_of_testBit_eq
    intro j
    have := congrArg (fun z => Nat.testBit z j) e
    simp only [testBit_without] at this
    rw [testBit_band, testBit_bxor]
    revert this
    cases a.testBit j <;> cases b.testBit j <;> cases t.testBit j <;> simp
  · intro e
    apply Nat.eq_of_testBit_eq
    intro j
    have := congrArg (fun z => Nat.testBit z j) e
    simp only [testBit_band, testBit_bxor] at this
    rw [testBit_without, testBit_without]
    revert this
    cases a.testBit j <;> cases b.testBit j <;> cases t.testBit j <;> simp
theorem cnt_mono {s t : Nat} (h : band s t = s) : cnt s ≤ cnt t := by
  unfold cnt
  apply List.countP_mono_left
  intro i _ hi
  have := congrArg (fun z => Nat.testBit z i) h
  simp only [testBit_band, hi, Bool.true_and] at this
  exact this
theorem band_self_sub {a b c : Nat} (ha : band a c = a) (hb : band b c = b) : band (bxor a b) c = bxor a b := by
  apply Nat.eq_of_testBit_eq
  intro j
  have h1 := congrArg (fun z => Nat.testBit z j) ha
  have h2 := congrArg (fun z => Nat.testBit z j) hb
  simp only [testBit_band] at h1 h2
  rw [testBit_band, testBit_bxor]
  revert h1 h2
  cases a.testBit j <;> cases b.testBit j <;> cases c.testBit j <;> simp
theorem bxor_zero {a b : Nat} : bxor a b = 0 ↔ a = b := by
  constructor
  · intro e
    apply Nat.eq_of_testBit_eq
    intro j
    have := congrArg (fun z => Nat.testBit z j) e
    simp only [testBit_bxor, Nat.zero_testBit] at this
    revert this
    cases a.testBit j <;> cases b.testBit j <;> simp
  · rintro rfl
    unfold bxor
    exact Nat.xor_self a

/-- The least of all marks and differences below row i, and in row i below k, at most 12. -/
def pairMin (g : List Int) (s i : Nat) : Nat → Nat → Nat
  | 0, n => n
  | k + 1, n => min (pairMin g s i k n) (cnt (bxor (markN g s i) (markN g s k)))
def silMin (g : List Int) (s : Nat) : Nat → Nat
  | 0 => 12
  | i + 1 => pairMin g s i i (min (silMin g s i) (cnt (markN g s i)))
theorem pairMin_le (g : List Int) (s i n : Nat) : ∀ k, pairMin g s i k n ≤ n
  | 0 => Nat.le_refl _
  | k + 1 => Nat.le_trans (Nat.min_le_left _ _) (pairMin_le g s i n k)
theorem pairMin_at (g : List Int) (s i n : Nat) : ∀ k j, j < k → pairMin g s i k n ≤ cnt (bxor (markN g s i) (markN g s j))
  | 0, j, h => by omega
  | k + 1, j, h => by
    by_cases e : j = k
    · subst e; exact Nat.min_le_right _ _
    · exact Nat.le_trans (Nat.min_le_left _ _) (pairMin_at g s i n k j (by omega))
theorem pairMin_has (g : List Int) (s i n : Nat) : ∀ k, pairMin g s i k n = n ∨ ∃ j, j < k ∧ pairMin g s i k n = cnt (bxor (markN g s i) (markN g s j))
  | 0 => .inl rfl
  | k + 1 => by
    by_cases h : pairMin g s i k n ≤ cnt (bxor (markN g s i) (markN g s k))
    · have e : pairMin g s i (k + 1) n = pairMin g s i k n := Nat.min_eq_left h
      rcases pairMin_has g s i n k with h1 | ⟨j, h1, h2⟩
      · exact .inl (e.trans h1)
      · exact .inr ⟨j, by omega, e.trans h2⟩
    · exact .inr ⟨k, by omega, Nat.min_eq_right (by omega)⟩
theorem silMin_mono (g : List Int) (s i : Nat) : silMin g s (i + 1) ≤ silMin g s i := Nat.le_trans (pairMin_le _ _ _ _ _) (Nat.min_le_left _ _)
theorem silMin_anti (g : List Int) (s : Nat) : ∀ {i j : Nat}, i ≤ j → silMin g s j ≤ silMin g s i
  | i, j, h => by
    induction j with
    | zero => obtain rfl : i = 0 := by omega
              exact Nat.le_refl _
    | succ j ih =>
      by_cases e : i = j + 1
      · subst e; exact Nat.le_refl _
      · exact Nat.le_trans (silMin_mono g s j) (ih (by omega))
theorem silMin_mark {g : List Int} {s i n : Nat} (h : i < n) : silMin g s n ≤ cnt (markN g s i) :=
  Nat.le_trans (silMin_anti g s (show i + 1 ≤ n from h)) (Nat.le_trans (pairMin_le _ _ _ _ _) (Nat.min_le_right _ _))
theorem silMin_pair {g : List Int} {s i k n : Nat} (h : i < n) (hk : k < i) : silMin g s n ≤ cnt (bxor (markN g s i) (markN g s k)) :=
  Nat.le_trans (silMin_anti g s (show i + 1 ≤ n from h)) (pairMin_at g s i _ i k hk)
theorem silMin_has (g : List Int) (s : Nat) : ∀ n, silMin g s n = 12 ∨ (∃ i, i < n ∧ silMin g s n = cnt (markN g s i)) ∨ ∃ i k, i < n ∧ k < i ∧ silMin g s n = cnt (bxor (markN g s i) (markN g s k))
  | 0 => .inl rfl
  | n + 1 => by
    rcases pairMin_has g s n (min (silMin g s n) (cnt (markN g s n))) n with h | ⟨j, h1, h2⟩
    · have e : silMin g s (n + 1) = min (silMin g s n) (cnt (markN g s n)) := h
      by_cases hc : silMin g s n ≤ cnt (markN g s n)
      · rw [Nat.min_eq_left hc] at e
        rcases silMin_has g s n with h | ⟨i, h1, h2⟩ | ⟨i, k, h1, h2, h3⟩
        · exact .inl (e.trans h)
        · exact .inr (.inl ⟨i, by omega, e.trans h2⟩)
        · exact .inr (.inr ⟨i, k, by omega, h2, e.trans h3⟩)
      · rw [Nat.min_eq_right (by omega)] at e
        exact .inr (.inl ⟨n, by omega, e⟩)
    · exact .inr (.inr ⟨n, j, by omega, h1, h2⟩)
/-- Taking out a set breaks the code just if it holds a mark or a difference. -/
theorem breaks_iff {g : List Int} {s t : Nat} : kindN g 2 (without s t) = false ↔ (∃ i, i < g.length ∧ band (markN g s i) t = markN g s i) ∨ ∃ i k, i < g.length ∧ k < i ∧ band (bxor (markN g s i) (markN g s k)) t = bxor (markN g s i) (markN g s k) := by
  rw [← Bool.not_eq_true, kind2_iff]
  constructor
  · intro h
    by_cases h1 : ∃ i, i < g.length ∧ band (markN g s i) t = markN g s i
    · exact .inl h1
    · by_cases h2 : ∃ i k, i < g.length ∧ k < i ∧ band (bxor (markN g s i) (markN g s k)) t = bxor (markN g s i) (markN g s k)
      · exact .inr h2
      · exfalso
        apply h
        refine ⟨fun i hi e => h1 ⟨i, hi, ?_⟩, fun i hi k hk e => h2 ⟨i, k, hi, hk, ?_⟩⟩
        · rw [mark_without] at e
          exact without_zero.1 e
        · rw [mark_without, mark_without] at e
          exact without_eq.1 e
  · rintro (⟨i, hi, e⟩ | ⟨i, k, hi, hk, e⟩) ⟨h1, h2⟩
    · exact h1 i hi (by rw [mark_without]; exact without_zero.2 e)
    · exact h2 i hi k hk (by rw [mark_without, mark_without]; exact without_eq.2 e)
/-- No set with fewer nodes breaks the code. -/
theorem silMin_low {g : List Int} {s t : Nat} (h : kindN g 2 (without s t) = false) : silMin g s g.length ≤ cnt t := by
  rcases breaks_iff.1 h with ⟨i, hi, e⟩ | ⟨i, k, hi, hk, e⟩
  · exact Nat.le_trans (silMin_mark hi) (cnt_mono e)
  · exact Nat.le_trans (silMin_pair hi hk) (cnt_mono e)
/-- Some part of the code with so many nodes breaks it. -/
theorem silMin_hit {g : List Int} (hg : IsGraph g) (s : Nat) : ∃ t, band t s = t ∧ cnt t = silMin g s g.length ∧ kindN g 2 (without s t) = false := by
  rcases silMin_has g s g.length with h | ⟨i, h1, h2⟩ | ⟨i, k, h1, h2, h3⟩
  · refine ⟨markN g s 0, mark_sub g s 0, ?_, breaks_iff.2 (.inl ⟨0, hg.pos, ?_⟩)⟩
    · have h1 := silMin_mark (g := g) (s := s) (n := g.length) hg.pos
      have h2 := cnt_le (markN g s 0)
      omega
    · exact Nat.and_self _
  · exact ⟨markN g s i, mark_sub g s i, h2.symm, breaks_iff.2 (.inl ⟨i, h1, Nat.and_self _⟩)⟩
  · exact ⟨bxor (markN g s i) (markN g s k), band_self_sub (mark_sub g s i) (mark_sub g s k), h3.symm, breaks_iff.2 (.inr ⟨i, k, h1, h2, Nat.and_self _⟩)⟩

/-! ### The program's way through all parts of a set, downwards -/
theorem band_div (a b : Nat) : band a b / 2 = band (a / 2) (b / 2) := by
  apply Nat.eq_of_testBit_eq
  intro i
  rw [testBit_band, ← Nat.testBit_succ, ← Nat.testBit_succ, ← Nat.testBit_succ, testBit_band]
theorem band_mod (a b : Nat) : band a b % 2 = 1 ↔ a % 2 = 1 ∧ b % 2 = 1 := by
  have := testBit_band a b 0
  simp only [Nat.testBit_zero] at this
  rw [← Bool.and_eq_true_iff.trans (and_congr decide_eq_true_iff decide_eq_true_iff), ← this, decide_eq_true_iff]
/-- The next smaller part of a set: every part below t is at most that. -/
theorem next_part : ∀ (n t s u : Nat), t ≤ n → band t s = t → u < t → band u s = u → u ≤ band (t - 1) s
  | 0, t, s, u, hn, _, hu, _ => by omega
  | n + 1, t, s, u, hn, ht, hu, hus => by
    have t1 := band_div t s
    rw [ht] at t1
    have u1 := band_div u s
    rw [hus] at u1
    have u2 := band_mod u s
    rw [hus] at u2
    have x1 := band_div (t - 1) s
    have x2 := band_mod (t - 1) s
    by_cases ho : t % 2 = 1
    · rw [show (t - 1) / 2 = t / 2 from by omega, ← t1] at x1
      have : band (t - 1) s % 2 = 0 := by
        have := mt x2.1 (by omega)
        omega
      omega
    · have ih := next_part n (t / 2) (s / 2) (u / 2) (by omega) t1.symm (by omega) u1.symm
      rw [show (t - 1) / 2 = t / 2 - 1 from by omega] at x1
      by_cases hm : u % 2 = 1
      · have := x2.2 ⟨by omega, (u2.1 hm).2⟩
        omega
      · omega
/-- What the program knows when all parts above out have been looked at. -/
def SilAt (g : List Int) (s out few : Nat) : Prop :=
  (∀ u, band u s = u → out < u → kindN g 2 (without s u) = false → few ≤ cnt u) ∧ (few = cnt s + 1 ∨ ∃ u, band u s = u ∧ few = cnt u ∧ kindN g 2 (without s u) = false)
theorem sub_of_part {u s : Nat} (h : band u s = u) : u ≤ s := by rw [← h]; exact band_le _ _
theorem SilAt.start (g : List Int) (s : Nat) : SilAt g s s (cnt s + 1) :=
  ⟨fun u hu hlt _ => by have := sub_of_part hu; omega, .inl rfl⟩
def fewNext (g : List Int) (s out few : Nat) : Nat := if decide (cnt out < few) && !kindN g 2 (without s out) then cnt out else few
/-- Behind the look at out: all parts from out on. -/
theorem fewNext_all {g : List Int} {s out few : Nat} (ho : band out s = out) (h : SilAt g s out few) :
    (∀ u, band u s = u → out ≤ u → kindN g 2 (without s u) = false → fewNext g s out few ≤ cnt u) ∧ (fewNext g s out few = cnt s + 1 ∨ ∃ u, band u s = u ∧ fewNext g s out few = cnt u ∧ kindN g 2 (without s u) = false) := by
  unfold fewNext
  cases hk : kindN g 2 (without s out)
  · by_cases hc : cnt out < few
    · rw [decide_eq_true hc]
      refine ⟨fun u hu hle hb => ?_, .inr ⟨out, ho, rfl, hk⟩⟩
      show cnt out ≤ cnt u
      by_cases e : out = u
      · subst e; exact Nat.le_refl _
      · have := h.1 u hu (by omega) hb
        omega
    · rw [decide_eq_false hc]
      refine ⟨fun u hu hle hb => ?_, h.2⟩
      show few ≤ cnt u
      by_cases e : out = u
      · subst e; omega
      · exact h.1 u hu (by omega) hb
  · simp only [Bool.not_true, Bool.and_false]
    refine ⟨fun u hu hle hb => ?_, h.2⟩
    show few ≤ cnt u
    by_cases e : out = u
    · subst e; rw [hk] at hb; cases hb
    · exact h.1 u hu (by omega) hb
theorem SilAt.next {g : List Int} {s out few : Nat} (ho : band out s = out) (h : SilAt g s out few) : SilAt g s (band (out - 1) s) (fewNext g s out few) := by
  obtain ⟨h1, h2⟩ := fewNext_all ho h
  refine ⟨fun u hu hlt hb => h1 u hu ?_ hb, h2⟩
  rcases Nat.lt_or_ge u out with h | h
  · have := next_part out out s u (Nat.le_refl _) ho h hu
    omega
  · exact h
theorem SilAt.done {g : List Int} (hg : IsGraph g) {s few : Nat} (h : SilAt g s 0 few) : fewNext g s 0 few = silMin g s g.length := by
  obtain ⟨h1, h2⟩ := fewNext_all (by simp [band]) h
  obtain ⟨t, t1, t2, t3⟩ := silMin_hit hg s
  have h3 := h1 t t1 (Nat.zero_le _) t3
  have h4 := cnt_mono t1
  rcases h2 with h2 | ⟨u, u1, u2, u3⟩
  · omega
  · have := silMin_low u3
    omega
theorem silAt_pos {g : List Int} {s out few : Nat} (h : SilAt g s out few) : few ≤ cnt s + 1 := by
  rcases h.2 with h | ⟨u, u1, u2, -⟩
  · omega
  · have := cnt_mono u1; omega
theorem part_next {out s : Nat} : band (band (out - 1) s) s = band (out - 1) s := by
  apply Nat.eq_of_testBit_eq
  intro i
  simp only [testBit_band]
  cases s.testBit i <;> simp
end Go.Proofs.Ytpmammklklkheaa

/- What holds of depths, best questions and played questions. No program in sight. No condition. -/
namespace Go.Proofs.Ytpmammklklkheaa

theorem cnt_le_of_sub {s t : Nat} (h : band s t = s) : cnt s ≤ cnt t := by
  unfold cnt
  apply List.countP_mono_left
  intro i _ hi
  have := congrArg (fun z => Nat.testBit z i) h
  simp only [testBit_band, hi, Bool.true_and] at this
  exact this
theorem sub_eq_of_cnt {s t : Nat} (ht : t ≤ 4095) (h : band s t = s) (hc : cnt t ≤ cnt s) : s = t := by
  have h1 := cnt_split t s
  have e : band t s = s := by unfold band at h ⊢; rw [Nat.and_comm]; exact h
  rw [e] at h1
  have h2 : without t s = 0 := (cnt_zero (without_le t s ht)).1 (by omega)
  have h3 := without_zero.1 h2
  rw [e] at h3
  exact h3
theorem qIn_sub {g : List Int} {t s x : Nat} (h : band t s = t) : band (qIn g t x) (qIn g s x) = qIn g t x := by
  unfold qIn
  apply Nat.eq_of_testBit_eq
  intro i
  have := congrArg (fun z => Nat.testBit z i) h
  simp only [testBit_band] at this
  simp only [testBit_band]
  revert this
  cases t.testBit i <;> cases s.testBit i <;> cases (ballN g x).testBit i <;> simp
theorem qOut_sub {g : List Int} {t s x : Nat} (h : band t s = t) : band (without t (qIn g t x)) (without s (qIn g s x)) = without t (qIn g t x) := by
  rw [qIn_without, qIn_without]
  apply Nat.eq_of_testBit_eq
  intro i
  have := congrArg (fun z => Nat.testBit z i) h
  simp only [testBit_band] at this
  simp only [testBit_band, testBit_without]
  revert this
  cases t.testBit i <;> cases s.testBit i <;> cases (ballN g x).testBit i <;> simp
theorem sub_in {g : List Int} {t s x : Nat} (h : band t s = t) (hq : qIn g t x = t) : band t (qIn g s x) = t := by
  have := qIn_sub (x := x) (g := g) h
  rwa [hq] at this
theorem sub_out {g : List Int} {t s x : Nat} (h : band t s = t) (hq : qIn g t x = 0) : band t (without s (qIn g s x)) = t := by
  have := qOut_sub (x := x) (g := g) h
  have e : without t (qIn g t x) = t := by
    rw [hq]
    apply Nat.eq_of_testBit_eq
    intro i
    rw [testBit_without, Nat.zero_testBit]; simp
  rwa [e] at this
theorem best_split {g : List Int} {s : Nat} (_ : s ≤ 4095) (h : dep g s < 99) (h1 : band s (s - 1) ≠ 0) : ∃ x, x < g.length ∧ tells g s x = true ∧ dep g s = 1 + max (dep g (qIn g s x)) (dep g (without s (qIn g s x))) := by
  have h2 := dep_more (g := g) h1
  unfold depTo at h2
  rcases minTo_has (depAt g s) g.length with e | ⟨x, hx, e⟩
  · omega
  · rw [e] at h2
    cases ht : tells g s x
    · unfold depAt at h2; rw [ht] at h2; simp at h2; omega
    · refine ⟨x, hx, ht, ?_⟩
      unfold depAt at h2; rw [ht, if_pos rfl] at h2; exact h2
/-- A part of a set is not deeper. -/
theorem dep_mono (g : List Int) : ∀ n s t : Nat, s ≤ n → s ≤ 4095 → t ≠ 0 → band t s = t → dep g s < 99 → dep g t ≤ dep g s
  | 0, s, t, hn, hs, h0, ht, hd => by
    exfalso
    apply h0
    obtain rfl : s = 0 := by omega
    rw [← ht]; simp [band]
  | n + 1, s, t, hn, hs, h0, ht, hd => by
    have hle : t ≤ s := by rw [← ht]; exact band_le _ _
    by_cases h1 : band s (s - 1) = 0
    · have c1 := (one_iff hs).1 h1
      have c2 := mt (cnt_zero (show t ≤ 4095 by omega)).1 h0
      rw [sub_eq_of_cnt hs ht (by omega)]
      exact Nat.le_refl _
    · obtain ⟨x, hx, hT, e⟩ := best_split hs hd h1
      have hT' := tells_iff.1 hT
      have i1 := qIn_lt hT'.2
      have i2 := qOut_lt hT'.1
      by_cases q0 : qIn g t x = 0
      · have := dep_mono g n (without s (qIn g s x)) t (by omega) (by omega) h0 (sub_out ht q0) (by omega)
        omega
      · by_cases q1 : qIn g t x = t
        · have := dep_mono g n (qIn g s x) t (by omega) (by omega) h0 (sub_in ht q1) (by omega)
          omega
        · have d1 := dep_mono g n (qIn g s x) (qIn g t x) (by omega) (by omega) q0 (qIn_sub ht) (by omega)
          have d2 := dep_mono g n (without s (qIn g s x)) (without t (qIn g t x)) (by omega) (by omega) (mt qOut_zero.1 q1) (qOut_sub ht) (by omega)
          by_cases h2 : band t (t - 1) = 0
          · rw [dep_one h2]; omega
          · have h3 := minTo_at (f := depAt g t) hx
            have h4 := dep_more (g := g) h2
            unfold depTo at h4
            have h5 : depAt g t x = 1 + max (dep g (qIn g t x)) (dep g (without t (qIn g t x))) := by
              unfold depAt; rw [tells_iff.2 ⟨q0, q1⟩, if_pos rfl]
            omega
/-- Depths are not below halving. -/
theorem dep_log (g : List Int) : ∀ n s : Nat, s ≤ n → s ≤ 4095 → s ≠ 0 → dep g s < 99 → cnt s ≤ 2 ^ dep g s
  | 0, s, hn, _, h0, _ => by omega
  | n + 1, s, hn, hs, h0, hd => by
    by_cases h1 : band s (s - 1) = 0
    · have := (one_iff hs).1 h1
      have := Nat.two_pow_pos (dep g s)
      omega
    · obtain ⟨x, hx, hT, e⟩ := best_split hs hd h1
      have hT' := tells_iff.1 hT
      have i1 := qIn_lt hT'.2
      have i2 := qOut_lt hT'.1
      have d1 := dep_log g n (qIn g s x) (by omega) (by omega) hT'.1 (by omega)
      have d2 := dep_log g n (without s (qIn g s x)) (by omega) (by omega) (mt qOut_zero.1 hT'.2) (by omega)
      have hc := q_cnt g s x
      have p1 : 2 ^ dep g (qIn g s x) ≤ 2 ^ (dep g s - 1) := Nat.pow_le_pow_right (by omega) (by omega)
      have p2 : 2 ^ dep g (without s (qIn g s x)) ≤ 2 ^ (dep g s - 1) := Nat.pow_le_pow_right (by omega) (by omega)
      have p3 : 2 ^ dep g s = 2 ^ (dep g s - 1) * 2 := by rw [← Nat.pow_succ]; congr 1; omega
      omega
/-- Behind a best question the deeper part is less deep by one. -/
theorem best_max {g : List Int} {s : Nat} (hs : s ≤ 4095) (h : dep g s < 99) (h0 : dep g s ≠ 0) : max (dep g (qIn g s (bestOf g s))) (dep g (without s (qIn g s (bestOf g s)))) + 1 = dep g s := by
  obtain ⟨hg, hx⟩ := best_good hs h h0
  have h1 := good_iff.1 hg
  have h2 : band s (s - 1) ≠ 0 := fun e => h0 (dep_one e)
  have h3 := dep_more (g := g) h2
  have h4 := minTo_at (f := depAt g s) hx
  unfold depTo at h3
  have h5 : depAt g s (bestOf g s) = 1 + max (dep g (qIn g s (bestOf g s))) (dep g (without s (qIn g s (bestOf g s)))) := by
    unfold depAt; rw [tells_iff.2 h1.1, if_pos rfl]
  omega
end Go.Proofs.Ytpmammklklkheaa

/- Taking sensors out one by one: plain. No condition. -/
namespace Go.Proofs.Ytpmammklklkheaa

theorem low_blocks : ∀ a, a < 64 → ∀ b, b < 64 → (decide (band (64 * a + b) (64 * a + b - 1) = without (64 * a + b) (bxor (64 * a + b) (band (64 * a + b) (64 * a + b - 1)))) && decide (cnt (bxor (64 * a + b) (band (64 * a + b) (64 * a + b - 1))) ≤ 1)) = true := by decide +kernel
/-- Taking out the least sensor takes out one at most. -/
theorem low_out {f : Nat} (h : f ≤ 4095) : ∃ d, cnt d ≤ 1 ∧ band f (f - 1) = without f d := by
  have := low_blocks (f / 64) (by omega) (f % 64) (by omega)
  rw [show 64 * (f / 64) + f % 64 = f from by omega, Bool.and_eq_true, decide_eq_true_iff, decide_eq_true_iff] at this
  exact ⟨_, this.2, this.1⟩
theorem cnt_bor (t d : Nat) : cnt (bor t d) ≤ cnt t + cnt d := by
  have h1 := cnt_split (bor t d) t
  have e1 : band (bor t d) t = t := by
    apply Nat.eq_of_testBit_eq
    intro i
    simp only [testBit_band, testBit_bor]
    cases t.testBit i <;> simp
  have h2 : cnt (without (bor t d) t) ≤ cnt d := by
    apply cnt_le_of_sub
    apply Nat.eq_of_testBit_eq
    intro i
    simp only [testBit_band, testBit_bor, testBit_without]
    cases t.testBit i <;> cases d.testBit i <;> rfl
  rw [e1] at h1
  omega
theorem without_bor (s t d : Nat) : without (without s t) d = without s (bor t d) := by
  apply Nat.eq_of_testBit_eq
  intro i
  simp only [testBit_bor, testBit_without]
  cases s.testBit i <;> cases t.testBit i <;> cases d.testBit i <;> rfl
/-- At most i sensors have been taken out of s. -/
def Taken (s i f : Nat) : Prop := ∃ t, cnt t ≤ i ∧ f = without s t
theorem Taken.start (s : Nat) : Taken s 0 s := ⟨0, by decide, by apply Nat.eq_of_testBit_eq; intro i; simp [testBit_without]⟩
theorem Taken.out {s i f d : Nat} (h : Taken s i f) (hd : cnt d ≤ 1) : Taken s (i + 1) (without f d) := by
  obtain ⟨t, h1, rfl⟩ := h
  refine ⟨bor t d, ?_, without_bor s t d⟩
  have := cnt_bor t d
  omega
theorem Taken.low {s i f : Nat} (h : Taken s i f) (hf : f ≤ 4095) : Taken s (i + 1) (band f (f - 1)) := by
  obtain ⟨d, h1, h2⟩ := low_out hf
  rw [h2]
  exact h.out h1
/-- Fewer sensors than the least mark or difference may be taken out. -/
theorem Taken.kind {g : List Int} {s i f : Nat} (h : Taken s i f) (hi : i < silMin g s g.length) : kindN g 2 f = true := by
  obtain ⟨t, h1, rfl⟩ := h
  cases hk : kindN g 2 (without s t)
  · have := silMin_low hk
    omega
  · rfl
/-- What is told on is not empty. -/
theorem Taken.pos {g : List Int} (hg : IsGraph g) {s i f : Nat} (h : Taken s i f) (hi : i < silMin g s g.length) : f ≠ 0 := by
  intro e
  have h1 := (kind2_iff.1 (h.kind hi)).1 0 (by have := hg.pos; omega)
  rw [e] at h1
  apply h1
  have := mark_sub g 0 0
  rw [← this]
  apply Nat.eq_of_testBit_eq
  intro j
  simp [testBit_band]
end Go.Proofs.Ytpmammklklkheaa

/- The pool of the balls of a set: the reference and the program compute the same plain list. The condition: the list has at most 2^20 numbers. -/
namespace Go.Proofs.Ytpmammklklkheaa
open Go.RowKit
open BigFrame

def pickTo (g : List Int) (s k : Nat) : List Int := ((List.range k).filter fun i => s.testBit i).map fun i => ((ballN g i : Nat) : Int)
theorem pickTo_skip {g : List Int} {s k : Nat} (h : s.testBit k = false) : pickTo g s (k + 1) = pickTo g s k := by simp [pickTo, List.range_succ, h]
theorem pickTo_next {g : List Int} {s k : Nat} (h : s.testBit k = true) : pickTo g s (k + 1) = pickTo g s k ++ [((ballN g k : Nat) : Int)] := by simp [pickTo, List.range_succ, h]
theorem pickTo_length (g : List Int) (s k : Nat) : (pickTo g s k).length ≤ k := by
  unfold pickTo
  rw [List.length_map]
  exact Nat.le_trans (List.length_filter_le _ _) (by simp)
def poolBalls (g : List Int) (code : Int) : List Int × Bool := if fits g code then (pickTo g code.toNat g.length, true) else ([], false)

set_option maxRecDepth 100000 in
set_option maxHeartbeats 1000000 in
theorem poolBallsS_c (v : Value) (g : List Int) (code : Int) (w : World) (hv : Rd w v g) (hm : g.length ≤ 1048576) :
    Calls Try.prog 40 #[v, .int .i64 code] w fun e w' => ∃ v, e = .returned (listV v (poolBalls g code).2) ∧ Own w' w.heap.size v (poolBalls g code).1 ∧ Ext w w' := by
  obtain ⟨a, c, rfl⟩ := hv.form
  obtain ⟨W, hW⟩ : ∃ W, W = w.alloc (.cells #[] 3) := ⟨_, rfl⟩
  have ho0 : Own W w.heap.size (.slice (some ⟨w.heap.size, 0, none⟩) 0 0) [] := by rw [hW]; exact Own.lit w
  have hx0 : Ext w W := by rw [hW]; exact (Ext.refl _).alloc _
  have hs0 : w.heap.size < W.heap.size := by rw [hW]; simp
  have HW := Lib.hid hW; have HO0 := Lib.hid ho0; have HX0 := Lib.hid hx0; have HV := Lib.hid (hv.ext hx0)
  have HM := Lib.hid hm
  clear hv hW ho0 hx0
  cases h0 : graphIn g
  · rw [show poolBalls g code = ([], false) from by unfold poolBalls fits; rw [h0]; rfl]
    go_enter Try.func40, Try.ntmps40
    go_wp2_with fail
    rw [← HW.out]
    refine (graphInS_c _ _ _ HV.out HM.out).mono ?_
    rintro e w1 ⟨rfl, x1⟩
    have X1 := Lib.hid x1; clear x1
    go_wp2
    go_ret2
    exact ⟨_, rfl, HO0.out.ext X1.out, HX0.out.trans X1.out⟩
  · have hG := graphIn_iff.1 h0
    have hl := hG.le
    have HG := Lib.hid hG; clear hG
    cases hs : setB code g.length
    · rw [show poolBalls g code = ([], false) from by unfold poolBalls fits; rw [h0, hs]; rfl]
      go_enter Try.func40, Try.ntmps40
      go_wp2_with fail
      rw [← HW.out]
      refine (graphInS_c _ _ _ HV.out HM.out).mono ?_
      rintro e w1 ⟨rfl, x1⟩
      have X1 := Lib.hid x1; clear x1
      go_wp2_with (go_at_call 64; refine (l2Set_c _ g _ _ (HV.out.ext X1.out) (by omega)).mono ?_; rintro e w' ⟨rfl, rfl⟩)
      go_ret2
      exact ⟨_, rfl, HO0.out.ext X1.out, HX0.out.trans X1.out⟩
    · obtain ⟨s, rfl, hsl⟩ := setB_iff.1 hs
      have hs4 : s ≤ 4095 := by have := pow_le_12 hl; omega
      rw [show poolBalls g s = (pickTo g s g.length, true) from by unfold poolBalls fits; rw [h0, hs]; rfl]
      clear hsl
      go_enter Try.func40, Try.ntmps40
      go_wp2_with fail
      rw [← HW.out]
      refine (graphInS_c _ _ _ HV.out HM.out).mono ?_
      rintro e w1 ⟨rfl, x1⟩
      have X1 := Lib.hid x1; clear x1
      go_wp2_with (go_at_call 64; refine (l2Set_c _ g _ _ (HV.out.ext X1.out) (by omega)).mono ?_; rintro e w' ⟨rfl, rfl⟩)
      refine (l1Balls_c _ g _ (HV.out.ext X1.out) HG.out).mono ?_
      rintro e w2 ⟨vb, rfl, ob, x2⟩
      have hlt2 : w1.heap.size ≤ w2.heap.size := x2.size
      have hlt1 : W.heap.size ≤ w1.heap.size := X1.out.size
      have X2 := Lib.hid (X1.out.trans x2); clear x2
      rcases ob.get with ⟨rfl, hnil⟩ | ⟨gb, cb, rfl, hgb1, hgb2, hcb, hcells, -⟩
      · have h1 := congrArg List.length hnil
        rw [ballsTo_length, List.length_nil] at h1
        have h2 := HG.out.pos
        omega
      · rw [ballsTo_length] at hcb
        have HC : Hid (∀ i, i < g.length → w2.cell? ⟨gb, i, none⟩ = some (.int .i64 (ballN g i : Nat))) := fun i hi => by
          rw [hcells i (by rw [ballsTo_length]; exact hi), ballsTo_get _ _ _ hi]
        clear hcells ob
        rw [ballsTo_length]
        go_wp2
        go_loopw [6, 8] (fun o i wr => ∃ k : Nat, k ≤ g.length ∧ i = .int .i64 k ∧ Own wr w.heap.size o (pickTo g s k) ∧ Ext w wr ∧ Hid (∀ i, i < g.length → wr.cell? ⟨gb, i, none⟩ = some (.int .i64 (ballN g i : Nat))) ∧ Hid (o.ownBlock ≠ some gb) ∧ gb < wr.heap.size) (fun _ i _ => g.length - (intOf i).toNat)
        case atStart => exact ⟨0, Nat.zero_le _, rfl, HO0.out.ext X2.out, HX0.out.trans X2.out, HC, fun e => by simp [Value.ownBlock] at e; omega, hgb2⟩
        case round =>
          obtain ⟨k, hk, rfl, ho, hx, HC, HN, hgl⟩ := hrel
          have HO := Lib.hid ho; have HX := Lib.hid hx; clear ho hx
          by_cases hlt : k < g.length
          · have c1 := HC.out k hlt
            cases hb : s.testBit k
            · have HB := Lib.hid hb
              go_wp2_with (go_at_call 48; refine (l1Bit_c s k (by omega) (by omega) _).mono ?_; rintro e w' ⟨rfl, rfl⟩)
              go_roundw
              case rel => exact ⟨k + 1, by omega, by go_num, by rw [pickTo_skip HB.out]; exact HO.out, HX.out, HC, HN, hgl⟩
              case measure => simp [intOf]; omega
            · have HB := Lib.hid hb
              have HL := Lib.hid (pickTo_length g s k)
              go_wp2_with (first | (go_at_call 48; refine (l1Bit_c s k (by omega) (by omega) _).mono ?_; rintro e w' ⟨rfl, rfl⟩) | (at_builtin; refine wpList_append_int2 rfl _ _ rfl w.heap.size _ _ rfl (HO.out.alloc _) wr.heap.size _ rfl (one_cell _ _ _) (by have := HL.out; omega) (by simp; have := HX.out.size; omega) ?_; intro v' w3 ho3 hg3 hn3))
              have HX3 : Hid (Ext w w3) := (HO.out.alloc _).grew (HX.out.alloc _) hg3 (Nat.le_refl _)
              have HO3 : Hid (Own w3 w.heap.size v' (pickTo g s (k + 1))) := by rw [pickTo_next HB.out]; exact ho3
              have HC3 : Hid (∀ i, i < g.length → w3.cell? ⟨gb, i, none⟩ = some (.int .i64 (ballN g i : Nat))) := fun i hi => by
                rw [← HC.out i hi]
                unfold World.cell?
                rw [hg3.block gb (by simp; omega) (fun e => HN.out e.symm), Below.heap_alloc _ _ _ hgl]
              have HN3 : Hid (v'.ownBlock ≠ some gb) := fun e => by
                rcases hn3 gb e with h | h
                · exact HN.out h
                · simp at h; omega
              have hgl3 : gb < w3.heap.size := Nat.lt_of_lt_of_le (by simp; omega) hg3.size
              clear ho3 hg3 hn3
              go_wp2
              go_roundw
              case rel => exact ⟨k + 1, by omega, by go_num, HO3.out, HX3.out, HC3, HN3, hgl3⟩
              case measure => simp [intOf]; omega
          · obtain rfl : k = g.length := by omega
            go_wp2
            go_ret2
            exact ⟨_, rfl, HO.out, HX.out⟩
end Go.Proofs.Ytpmammklklkheaa
