/- What the walks of this seat rest on, one part: plain facts, and contracts of the functions that they reach. Each states its own condition. -/
import Derived.Test.YtkmfmhckpfomeaaGreatDoorB10
import Derived.Test.YtkmfmhckpfomeaaGreatDoorB9
import Derived.Test.YtkmfmhckpfomeaaGreatDoorB5
import Derived.Test.YtkmfmhckpfomeaaGreatDoorB8
set_option linter.all false
set_option linter.unusedSimpArgs false
set_option linter.unusedVariables false
/- Codes of the four kinds, and how many sensors of a code may fall silent: plain functions and what holds of them. No program in sight. No condition. -/
namespace Go.Proofs.YtkmfmhckpfomeaaGreatDoor

/-! ### Codes -/
def covN (g : List Int) (s : Nat) : Bool := (List.range g.length).all fun i => decide (markN g s i ≠ 0)
/-- Whether a pair is asked, and its marks are the same. -/
def sameP (g : List Int) (s : Nat) (all : Bool) (i k : Nat) : Bool := (all || (!s.testBit i && !s.testBit k)) && decide (markN g s i = markN g s k)
def apartRow (g : List Int) (s : Nat) (all : Bool) (i : Nat) : Bool := (List.range i).all fun k => !sameP g s all i k
def apartN (g : List Int) (s : Nat) (all : Bool) : Bool := (List.range g.length).all (apartRow g s all)
/-- A node of the code that has unlike distances to two nodes. -/
def farP (g : List Int) (s i k c : Nat) : Bool := s.testBit c && decide (dd g i c ≠ dd g k c)
def resP (g : List Int) (s i k : Nat) : Bool := (List.range g.length).any (farP g s i k)
def resRow (g : List Int) (s i : Nat) : Bool := (List.range i).all (resP g s i)
def resN (g : List Int) (s : Nat) : Bool := (List.range g.length).all (resRow g s)
def kindN (g : List Int) (kind s : Nat) : Bool :=
  if kind = 0 then covN g s else if kind = 1 then covN g s && apartN g s false else if kind = 2 then covN g s && apartN g s true else resN g s
def codeIn (g : List Int) (kind s : Int) : Bool := graphIn g && inB 0 kind 3 && setB s g.length && kindN g kind.toNat s.toNat
theorem covN_iff {g : List Int} {s : Nat} : covN g s = true ↔ ∀ i, i < g.length → markN g s i ≠ 0 := by
  unfold covN; simp [List.all_eq_true]
theorem apartN_iff {g : List Int} {s : Nat} : apartN g s true = true ↔ ∀ i, i < g.length → ∀ k, k < i → markN g s i ≠ markN g s k := by
  unfold apartN apartRow sameP; simp [List.all_eq_true]
theorem kind2_iff {g : List Int} {s : Nat} : kindN g 2 s = true ↔ (∀ i, i < g.length → markN g s i ≠ 0) ∧ ∀ i, i < g.length → ∀ k, k < i → markN g s i ≠ markN g s k := by
  unfold kindN
  rw [if_neg (by decide), if_neg (by decide), if_pos rfl, Bool.and_eq_true, covN_iff, apartN_iff]

/-! ### Silent sensors -/
theorem mark_without (g : List Int) (s t i : Nat) : markN g (without s t) i = without (markN g s i) t := by
  unfold markN
  apply Nat.eq_of_testBit_eq
  intro j
  simp only [testBit_band, testBit_without]
  cases (ballN g i).testBit j <;> simp
theorem mark_sub (g : List Int) (s i : Nat) : band (markN g s i) s = markN g s i := by
  unfold markN
  apply Nat.eq_of_testBit_eq
  intro j
  simp only [testBit_band]
  cases (ballN g i).testBit j <;> simp
theorem without_eq {a b t : Nat} : without a t = without b t ↔ band (bxor a b) t = bxor a b := by
  constructor
  · intro e
    apply Nat.eq_of_testBit_eq
    intro j
    have := congrArg (fun z => Nat.testBit z j) e
    simp only [testBit_without] at this
    rw [testBit_band, testBit_bxor]
    revert this
    cases a.testBit j <;> cases b.testBit j <;> cases t.testBit j <;> simp
  · intro e
    apply Nat.eq_of_testBit_eq
    intro j
    have := congrArg (fun z => Nat.testBit z j) e
    simp only [testBit_band, testBit_bxor] at this
    rw [testBit_without, testBit_without]
    revert this
    cases a.testBit j <;> cases b.testBit j <;> cases t.testBit j <;> simp
theorem cnt_mono {s t : Nat} (h : band s t = s) : cnt s ≤ cnt t := by
  unfold cnt
  apply List.countP_mono_left
  intro i _ hi
  have := congrArg (fun z => Nat.testBit z i) h
  simp only [testBit_band, hi, Bool.true_and] at this
  exact this
theorem band_self_sub {a b c : Nat} (ha : band a c = a) (hb : band b c = b) : band (bxor a b) c = bxor a b := by
  apply Nat.eq_of_testBit_eq
  intro j
  have h1 := congrArg (fun z => Nat.testBit z j) ha
  have h2 := congrArg (fun z => Nat.testBit z j) hb
  simp only [testBit_band] at h1 h2
  rw [testBit_band, testBit_bxor]
  revert h1 h2
  cases a.testBit j <;> cases b.testBit j <;> cases c.testBit j <;> simp
theorem bxor_zero {a b : Nat} : bxor a b = 0 ↔ a = b := by
  constructor
  · intro e
    apply Nat.eq_of_testBit_eq
    intro j
    have := congrArg (fun z => Nat.testBit z j) e
    simp only [testBit_bxor, Nat.zero_testBit] at this
    revert this
    cases a.testBit j <;> cases b.testBit j <;> simp
  · rintro rfl
    unfold bxor
    exact Nat.xor_self a

/-- The least of all marks and differences below row i, and in row i below k, at most 12. -/
def pairMin (g : List Int) (s i : Nat) : Nat → Nat → Nat
  | 0, n => n
  | k + 1, n => min (pairMin g s i k n) (cnt (bxor (markN g s i) (markN g s k)))
def silMin (g : List Int) (s : Nat) : Nat → Nat
  | 0 => 12
  | i + 1 => pairMin g s i i (min (silMin g s i) (cnt (markN g s i)))
theorem pairMin_le (g : List Int) (s i n : Nat) : ∀ k, pairMin g s i k n ≤ n
  | 0 => Nat.le_refl _
  | k + 1 => Nat.le_trans (Nat.min_le_left _ _) (pairMin_le g s i n k)
theorem pairMin_at (g : List Int) (s i n : Nat) : ∀ k j, j < k → pairMin g s i k n ≤ cnt (bxor (markN g s i) (markN g s j))
  | 0, j, h => by omega
  | k + 1, j, h => by
    by_cases e : j = k
    · subst e; exact Nat.min_le_right _ _
    · exact Nat.le_trans (Nat.min_le_left _ _) (pairMin_at g s i n k j (by omega))
theorem pairMin_has (g : List Int) (s i n : Nat) : ∀ k, pairMin g s i k n = n ∨ ∃ j, j < k ∧ pairMin g s i k n = cnt (bxor (markN g s i) (markN g s j))
  | 0 => .inl rfl
  | k + 1 => by
    by_cases h : pairMin g s i k n ≤ cnt (bxor (markN g s i) (markN g s k))
    · have e : pairMin g s i (k + 1) n = pairMin g s i k n := Nat.min_eq_left h
      rcases pairMin_has g s i n k with h1 | ⟨j, h1, h2⟩
      · exact .inl (e.trans h1)
      · exact .inr ⟨j, by omega, e.trans h2⟩
    · exact .inr ⟨k, by omega, Nat.min_eq_right (by omega)⟩
theorem silMin_mono (g : List Int) (s i : Nat) : silMin g s (i + 1) ≤ silMin g s i := Nat.le_trans (pairMin_le _ _ _ _ _) (Nat.min_le_left _ _)
theorem silMin_anti (g : List Int) (s : Nat) : ∀ {i j : Nat}, i ≤ j → silMin g s j ≤ silMin g s i
  | i, j, h => by
    induction j with
    | zero => obtain rfl : i = 0 := by omega
              exact Nat.le_refl _
    | succ j ih =>
      by_cases e : i = j + 1
      · subst e; exact Nat.le_refl _
      · exact Nat.le_trans (silMin_mono g s j) (ih (by omega))
theorem silMin_mark {g : List Int} {s i n : Nat} (h : i < n) : silMin g s n ≤ cnt (markN g s i) :=
  Nat.le_trans (silMin_anti g s (show i + 1 ≤ n from h)) (Nat.le_trans (pairMin_le _ _ _ _ _) (Nat.min_le_right _ _))
theorem silMin_pair {g : List Int} {s i k n : Nat} (h : i < n) (hk : k < i) : silMin g s n ≤ cnt (bxor (markN g s i) (markN g s k)) :=
  Nat.le_trans (silMin_anti g s (show i + 1 ≤ n from h)) (pairMin_at g s i _ i k hk)
theorem silMin_has (g : List Int) (s : Nat) : ∀ n, silMin g s n = 12 ∨ (∃ i, i < n ∧ silMin g s n = cnt (markN g s i)) ∨ ∃ i k, i < n ∧ k < i ∧ silMin g s n = cnt (bxor (markN g s i) (markN g s k))
  | 0 => .inl rfl
  | n + 1 => by
    rcases pairMin_has g s n (min (silMin g s n) (cnt (markN g s n))) n with h | ⟨j, h1, h2⟩
    · have e : silMin g s (n + 1) = min (silMin g s n) (cnt (markN g s n)) := h
      by_cases hc : silMin g s n ≤ cnt (markN g s n)
      · rw [Nat.min_eq_left hc] at e
        rcases silMin_has g s n with h | ⟨i, h1, h2⟩ | ⟨i, k, h1, h2, h3⟩
        · exact .inl (e.trans h)
        · exact .inr (.inl ⟨i, by omega, e.trans h2⟩)
        · exact .inr (.inr ⟨i, k, by omega, h2, e.trans h3⟩)
      · rw [Nat.min_eq_right (by omega)] at e
        exact .inr (.inl ⟨n, by omega, e⟩)
    · exact .inr (.inr ⟨n, j, by omega, h1, h2⟩)
/-- Taking out a set breaks the code just if it holds a mark or a difference. -/
theorem breaks_iff {g : List Int} {s t : Nat} : kindN g 2 (without s t) = false ↔ (∃ i, i < g.length ∧ band (markN g s i) t = markN g s i) ∨ ∃ i k, i < g.length ∧ k < i ∧ band (bxor (markN g s i) (markN g s k)) t = bxor (markN g s i) (markN g s k) := by
  rw [← Bool.not_eq_true, kind2_iff]
  constructor
  · intro h
    by_cases h1 : ∃ i, i < g.length ∧ band (markN g s i) t = markN g s i
    · exact .inl h1
    · by_cases h2 : ∃ i k, i < g.length ∧ k < i ∧ band (bxor (markN g s i) (markN g s k)) t = bxor (markN g s i) (markN g s k)
      · exact .inr h2
      · exfalso
        apply h
        refine ⟨fun i hi e => h1 ⟨i, hi, ?_⟩, fun i hi k hk e => h2 ⟨i, k, hi, hk, ?_⟩⟩
        · rw [mark_without] at e
          exact without_zero.1 e
        · rw [mark_without, mark_without] at e
          exact without_eq.1 e
  · rintro (⟨i, hi, e⟩ | ⟨i, k, hi, hk, e⟩) ⟨h1, h2⟩
    · exact h1 i hi (by rw [mark_without]; exact without_zero.2 e)
    · exact h2 i hi k hk (by rw [mark_without, mark_without]; exact without_eq.2 e)
/-- No set with fewer nodes breaks the code. -/
theorem silMin_low {g : List Int} {s t : Nat} (h : kindN g 2 (without s t) = false) : silMin g s g.length ≤ cnt t := by
  rcases breaks_iff.1 h with ⟨i, hi, e⟩ | ⟨i, k, hi, hk, e⟩
  · exact Nat.le_trans (silMin_mark hi) (cnt_mono e)
  · exact Nat.le_trans (silMin_pair hi hk) (cnt_mono e)
/-- Some part of the code with so many nodes breaks it. -/
theorem silMin_hit {g : List Int} (hg : IsGraph g) (s : Nat) : ∃ t, band t s = t ∧ cnt t = silMin g s g.length ∧ kindN g 2 (without s t) = false := by
  rcases silMin_has g s g.length with h | ⟨i, h1, h2⟩ | ⟨i, k, h1, h2, h3⟩
  · refine ⟨markN g s 0, mark_sub g s 0, ?_, breaks_iff.2 (.inl ⟨0, hg.pos, ?_⟩)⟩
    · have h1 := silMin_mark (g := g) (s := s) (n := g.length) hg.pos
      have h2 := cnt_le (markN g s 0)
      omega
    · exact Nat.and_self _
  · exact ⟨markN g s i, mark_sub g s i, h2.symm, breaks_iff.2 (.inl ⟨i, h1, Nat.and_self _⟩)⟩
  · exact ⟨bxor (markN g s i) (markN g s k), band_self_sub (mark_sub g s i) (mark_sub g s k), h3.symm, breaks_iff.2 (.inr ⟨i, k, h1, h2, Nat.and_self _⟩)⟩

/-! ### The program's way through all parts of a set, downwards -/
theorem band_div (a b : Nat) : band a b / 2 = band (a / 2) (b / 2) := by
  apply Nat.eq_of_testBit_eq
  intro i
  rw [testBit_band, ← Nat.testBit_succ, ← Nat.testBit_succ, ← Nat.testBit_succ, testBit_band]
theorem band_mod (a b : Nat) : band a b % 2 = 1 ↔ a % 2 = 1 ∧ b % 2 = 1 := by
  have := testBit_band a b 0
  simp only [Nat.testBit_zero] at this
  rw [← Bool.and_eq_true_iff.trans (and_congr decide_eq_true_iff decide_eq_true_iff), ← this, decide_eq_true_iff]
/-- The next smaller part of a set: every part below t is at most that. -/
theorem next_part : ∀ (n t s u : Nat), t ≤ n → band t s = t → u < t → band u s = u → u ≤ band (t - 1) s
  | 0, t, s, u, hn, _, hu, _ => by omega
  | n + 1, t, s, u, hn, ht, hu, hus => by
    have t1 := band_div t s
    rw [ht] at t1
    have u1 := band_div u s
    rw [hus] at u1
    have u2 := band_mod u s
    rw [hus] at u2
    have x1 := band_div (t - 1) s
    have x2 := band_mod (t - 1) s
    by_cases ho : t % 2 = 1
    · rw [show (t - 1) / 2 = t / 2 from by omega, ← t1] at x1
      have : band (t - 1) s % 2 = 0 := by
        have := mt x2.1 (by omega)
        omega
      omega
    · have ih := next_part n (t / 2) (s / 2) (u / 2) (by omega) t1.symm (by omega) u1.symm
      rw [show (t - 1) / 2 = t / 2 - 1 from by omega] at x1
      by_cases hm : u % 2 = 1
      · have := x2.2 ⟨by omega, (u2.1 hm).2⟩
        omega
      · omega
/-- What the program knows when all parts above out have been looked at. -/
def SilAt (g : List Int) (s out few : Nat) : Prop :=
  (∀ u, band u s = u → out < u → kindN g 2 (without s u) = false → few ≤ cnt u) ∧ (few = cnt s + 1 ∨ ∃ u, band u s = u ∧ few = cnt u ∧ kindN g 2 (without s u) = false)
theorem sub_of_part {u s : Nat} (h : band u s = u) : u ≤ s := by rw [← h]; exact band_le _ _
theorem SilAt.start (g : List Int) (s : Nat) : SilAt g s s (cnt s + 1) :=
  ⟨fun u hu hlt _ => by have := sub_of_part hu; omega, .inl rfl⟩
def fewNext (g : List Int) (s out few : Nat) : Nat := if decide (cnt out < few) && !kindN g 2 (without s out) then cnt out else few
/-- Behind the look at out: all parts from out on. -/
theorem fewNext_all {g : List Int} {s out few : Nat} (ho : band out s = out) (h : SilAt g s out few) :
    (∀ u, band u s = u → out ≤ u → kindN g 2 (without s u) = false → fewNext g s out few ≤ cnt u) ∧ (fewNext g s out few = cnt s + 1 ∨ ∃ u, band u s = u ∧ fewNext g s out few = cnt u ∧ kindN g 2 (without s u) = false) := by
  unfold fewNext
  cases hk : kindN g 2 (without s out)
  · by_cases hc : cnt out < few
    · rw [decide_eq_true hc]
      refine ⟨fun u hu hle hb => ?_, .inr ⟨out, ho, rfl, hk⟩⟩
      show cnt out ≤ cnt u
      by_cases e : out = u
      · subst e; exact Nat.le_refl _
      · have := h.1 u hu (by omega) hb
        omega
    · rw [decide_eq_false hc]
      refine ⟨fun u hu hle hb => ?_, h.2⟩
      show few ≤ cnt u
      by_cases e : out = u
      · subst e; omega
      · exact h.1 u hu (by omega) hb
  · simp only [Bool.not_true, Bool.and_false]
    refine ⟨fun u hu hle hb => ?_, h.2⟩
    show few ≤ cnt u
    by_cases e : out = u
    · subst e; rw [hk] at hb; cases hb
    · exact h.1 u hu (by omega) hb
theorem SilAt.next {g : List Int} {s out few : Nat} (ho : band out s = out) (h : SilAt g s out few) : SilAt g s (band (out - 1) s) (fewNext g s out few) := by
  obtain ⟨h1, h2⟩ := fewNext_all ho h
  refine ⟨fun u hu hlt hb => h1 u hu ?_ hb, h2⟩
  rcases Nat.lt_or_ge u out with h | h
  · have := next_part out out s u (Nat.le_refl _) ho h hu
    omega
  · exact h
theorem SilAt.done {g : List Int} (hg : IsGraph g) {s few : Nat} (h : SilAt g s 0 few) : fewNext g s 0 few = silMin g s g.length := by
  obtain ⟨h1, h2⟩ := fewNext_all (by simp [band]) h
  obtain ⟨t, t1, t2, t3⟩ := silMin_hit hg s
  have h3 := h1 t t1 (Nat.zero_le _) t3
  have h4 := cnt_mono t1
  rcases h2 with h2 | ⟨u, u1, u2, u3⟩
  · omega
  · have := silMin_low u3
    omega
theorem silAt_pos {g : List Int} {s out few : Nat} (h : SilAt g s out few) : few ≤ cnt s + 1 := by
  rcases h.2 with h | ⟨u, u1, u2, -⟩
  · omega
  · have := cnt_mono u1; omega
theorem part_next {out s : Nat} : band (band (out - 1) s) s = band (out - 1) s := by
  apply Nat.eq_of_testBit_eq
  intro i
  simp only [testBit_band]
  cases s.testBit i <;> simp
end Go.Proofs.YtkmfmhckpfomeaaGreatDoor

/- Codes by the reference: the table of distances; whether a set is a code of a kind. No condition. -/
namespace Go.Proofs.YtkmfmhckpfomeaaGreatDoor
open Go.RowKit
open BigFrame

theorem wpList_append_row {ops : Array Oper} {rest : List Oper} {o : Oper} {a : Act} {Q : Exit → Act → World → Prop} {w : World} (hgd : o.guard = none) (s x : Operand)
    (ho : o.op = .call { callee := .builtin .append, args := #[s, x], argTypes := #[70, 70] })
    (base : Nat) (v : Value) (vs : List Value) (hs : a.eval s = v) (hown : OwnRows w base v vs) (g : Nat) (y : Value) (hy : y.oneCell' = true) (hx : a.eval x = .slice (some ⟨g, 0, none⟩) 1 1)
    (hc : w.cell? ⟨g, 0, none⟩ = some y) (hn : vs.length ≤ 1048576) (hb : base ≤ w.heap.size)
    (h : ∀ v' w', OwnRows w' base v' (vs ++ [y]) → w.grownBy w' v.ownBlock → wpList Tryz.prog ops Q rest (a.put o.dst v') w') : wpList Tryz.prog ops Q (o :: rest) a w := by
  obtain ⟨i0, hi, hz0, hz1, hz2⟩ := info_parts info_row
  refine wpList_append_lies w hgd s x 70 ho base 29 i0 (.slice none 0 0) 1 24 Tryz.underlying70 hi hz0 hz1 hz2 rfl (by decide) v vs.length _ hs hown ⟨g, 0, none⟩ 1 1 [y] hx rfl ?_ (fun u hu => by simp at hu; subst hu; exact hy) (by omega) (by unfold maxLen; omega) (by omega) hb _ rfl ?_
  · intro j u hu
    cases j with
    | zero => simp at hu; subst hu; exact hc
    | succ j => simp at hu
  · intro g' cap w' h1 h2 _ _
    refine h _ w' ?_ h2
    unfold OwnRows; simpa using h1
theorem OwnRows.lt {w : World} {base : Nat} {v : Value} {vs : List Value} (h : OwnRows w base v vs) : ∀ k, v.ownBlock = some k → base ≤ k ∧ k < w.heap.size := World.ownsRow.lt h
theorem OwnRows.at {w : World} {base : Nat} {v : Value} {vs : List Value} (h : OwnRows w base v vs) {i : Nat} (hi : i < vs.length) :
    ∃ b c, v = .slice (some ⟨b, 0, none⟩) vs.length c ∧ b < w.heap.size ∧ ∀ j, j < vs.length → w.cell? ⟨b, j, none⟩ = some (vs.getD j undef) := by
  have h0 := h
  obtain ⟨h1, ⟨hv, h2⟩ | ⟨g, cap, cur, hv, hg, hh, h3, h4, h5, h6⟩⟩ := h
  · omega
  · subst hv
    refine ⟨g, cap, rfl, (Array.getElem?_eq_some_iff.1 hh).1, fun j hj => ?_⟩
    rw [World.ownsRow.cellAt h0 j (by omega)]
    simp [hj]
/-- The table of all distances. -/
structure IsTab (w : World) (g : List Int) (v : Value) (vs : List Value) : Prop where
  own : ∃ base, OwnRows w base v vs
  len : vs.length = g.length
  row : ∀ i, i < g.length → Rd w (vs.getD i undef) (distOf g i)
theorem IsTab.ext {w w' : World} {g : List Int} {v : Value} {vs : List Value} (h : IsTab w g v vs) (hx : Ext w w') : IsTab w' g v vs :=
  ⟨h.own.imp fun _ h => h.ext hx, h.len, fun i hi => (h.row i hi).ext hx⟩
/-- Element c of row i. -/
theorem IsTab.get {w : World} {g : List Int} {v : Value} {vs : List Value} (h : IsTab w g v vs) (hg : IsGraph g) :
    ∃ b cap, v = .slice (some ⟨b, 0, none⟩) g.length cap ∧ b < w.heap.size ∧ ∀ i, i < g.length → ∃ r o cr, (∀ w', Ext w w' → w'.cell? ⟨b, i, none⟩ = some (.slice (some ⟨r, o, none⟩) g.length cr)) ∧ ∀ c, c < g.length → ∀ w', Ext w w' → w'.cell? ⟨r, o + c, none⟩ = some (.int .i64 (dd g i c : Nat)) := by
  obtain ⟨base, ho⟩ := h.own
  obtain ⟨b, cap, rfl, hb, hc⟩ := ho.at (i := 0) (by rw [h.len]; exact hg.pos)
  refine ⟨b, cap, by rw [h.len], hb, fun i hi => ?_⟩
  have hr := h.row i hi
  obtain ⟨a, cr, he⟩ := hr.form
  rw [dist_length hg hi] at he
  rw [he] at hr
  obtain ⟨r, o, rfl, -, -, -⟩ := hr.atI (k := 0) (by have := hg.pos; omega)
  refine ⟨r, o, cr, fun w' hx => (hx.cell hb).trans (by rw [hc i (by rw [h.len]; exact hi), he]), fun c hcl w' hx => ?_⟩
  obtain ⟨r', o', he', -, -, hcc⟩ := hr.atI hcl
  obtain ⟨rfl, rfl⟩ : r = r' ∧ o = o' := by simpa using he'
  rw [hcc w' hx]
  congr 2
  exact dist_get hg hi hcl

set_option maxRecDepth 100000 in
set_option maxHeartbeats 1000000 in
theorem l2Table_c (v : Value) (g : List Int) (w : World) (hv : Rd w v g) (hg : IsGraph g) :
    Calls Tryz.prog 161 #[v] w fun e w' => ∃ v' vs, e = .returned v' ∧ IsTab w' g v' vs ∧ Ext w w' := by
  obtain ⟨a, c, rfl⟩ := hv.form
  obtain ⟨W, hW⟩ : ∃ W, W = w.alloc (.cells #[] 29) := ⟨_, rfl⟩
  have ho0 : OwnRows W w.heap.size (.slice (some ⟨w.heap.size, 0, none⟩) 0 0) [] := by rw [hW]; exact World.ownsRow_lit w #[] 0 (Nat.le_refl _) (by unfold maxLen; omega) rfl
  have hx0 : Ext w W := by rw [hW]; exact (Ext.refl _).alloc _
  have hsW : w.heap.size < W.heap.size := by rw [hW]; simp
  have HW := Lib.hid hW; have HO0 := Lib.hid ho0; have HX0 := Lib.hid hx0; have HV := Lib.hid hv
  have HG := Lib.hid hg
  have hl := hg.le
  clear hv hW ho0 hx0 hg
  go_enter Tryz.func161, Tryz.ntmps161
  go_wp2
  rw [← HW.out]
  go_loopw [3, 4] (fun o i wr => ∃ (k : Nat) (vs : List Value), k ≤ g.length ∧ i = .int .i64 k ∧ vs.length = k ∧ Hid (OwnRows wr w.heap.size o vs) ∧ Hid (∀ i, i < k → ∃ base, Own wr base (vs.getD i undef) (distOf g i) ∧ ((vs.getD i undef).ownBlock = none ∨ (vs.getD i undef).ownBlock ≠ o.ownBlock)) ∧ Hid (Ext w wr) ∧ W.heap.size ≤ wr.heap.size) (fun _ i _ => g.length - (intOf i).toNat)
  case atStart => exact ⟨0, [], Nat.zero_le _, rfl, rfl, HO0.out, fun i hi => absurd hi (Nat.not_lt_zero i), HX0.out, Nat.le_refl _⟩
  case round =>
    clear HO0 HX0
    obtain ⟨k, vs, hk, rfl, hvs, HO, HE, HX, hsz⟩ := hrel
    by_cases hlt : k < g.length
    · go_wp2_with fail
      refine (l1Distances_c _ g k _ (HV.out.ext HX.out) HG.out hlt).mono ?_
      rintro e w2 ⟨vd, rfl, od, x2⟩
      have O2 := Lib.hid (HO.out.ext x2); have X2 := Lib.hid (HX.out.trans x2); have OD := Lib.hid od
      have E2 : Hid (∀ i, i < k → ∃ base, Own w2 base (vs.getD i undef) (distOf g i)) := fun i hi => by obtain ⟨base, h, _⟩ := HE.out i hi; exact ⟨base, h.ext x2⟩
      have hsz2 : W.heap.size ≤ w2.heap.size := Nat.le_trans hsz x2.size
      obtain ⟨gd, cd, rfl⟩ := od.form' (dist_length HG.out hlt)
      clear od x2
      go_wp2_with (at_builtin; refine wpList_append_row rfl _ _ rfl w.heap.size _ vs rfl (O2.out.ext ((Ext.refl _).alloc _)) w2.heap.size _ rfl rfl (one_cell _ _ _) (by omega) (by simp; have := X2.out.size; omega) ?_; intro v' w3 ho3 hg3)
      have X3 : Hid (Ext w w3) := (X2.out.alloc _).grown hg3 (fun b hb => (O2.out.lt b hb).1)
      have hsz3 : W.heap.size ≤ w3.heap.size := by have := hg3.size; simp at this; omega
      have O3 := Lib.hid ho3
      have E3 : Hid (∀ i, i < k + 1 → ∃ base, Own w3 base ((vs ++ [Value.slice gd g.length cd]).getD i undef) (distOf g i) ∧ (((vs ++ [Value.slice gd g.length cd]).getD i undef).ownBlock = none ∨ ((vs ++ [Value.slice gd g.length cd]).getD i undef).ownBlock ≠ v'.ownBlock)) := fun i hi => by
        have key : ∃ base, Own w2 base ((vs ++ [Value.slice gd g.length cd]).getD i undef) (distOf g i) := by
          by_cases h : i < k
          · obtain ⟨base, h1⟩ := E2.out i h
            exact ⟨base, by rw [List.getD_eq_getElem?_getD, List.getElem?_append_left (by omega), ← List.getD_eq_getElem?_getD]; exact h1⟩
          · obtain rfl : i = k := by omega
            exact ⟨_, by rw [List.getD_eq_getElem?_getD, List.getElem?_append_right (by omega), hvs]; simpa using OD.out⟩
        obtain ⟨base, h1⟩ := key
        have h2 := (h1.ext ((Ext.refl w2).alloc (.cells #[.slice gd g.length cd] 29)))
        have h3 := h2.kept hg3 (h2.apart (O2.out.ext ((Ext.refl _).alloc _)))
        exact ⟨base, h3, h3.apart ho3⟩
      clear ho3 hg3
      go_wp2
      go_roundw
      case rel => exact ⟨k + 1, _, by omega, by go_num, by simp [hvs], O3.out, E3.out, X3.out, hsz3⟩
      case measure => simp [intOf]; omega
    · obtain rfl : k = g.length := by omega
      go_wp2
      go_ret
      exact ⟨_, vs, rfl, ⟨⟨_, HO.out⟩, hvs, fun i hi => (HE.out i hi).elim fun _ h => h.1.rd⟩, HX.out⟩

set_option maxHeartbeats 1000000 in
theorem l2Covers_c (v : Value) (g : List Int) (s : Nat) (w : World) (hv : Rd w v (marksTo g s g.length)) (hg : IsGraph g) :
    Calls Tryz.prog 194 #[v] w fun e w' => e = .returned (.bool (covN g s)) ∧ w = w' := by
  obtain ⟨a, c, rfl⟩ := hv.form
  rw [marksTo_length] at hv ⊢
  have HV := Lib.hid hv
  have hl := hg.le
  clear hv hg
  go_enter Tryz.func194, Tryz.ntmps194
  go_wp2
  go_loop [3] (fun i => ∃ k : Nat, k ≤ g.length ∧ i = .int .i64 k ∧ Hid (∀ j, j < k → markN g s j ≠ 0)) (fun i => g.length - (intOf i).toNat)
  case atStart => exact ⟨0, Nat.zero_le _, rfl, fun j hj => absurd hj (Nat.not_lt_zero j)⟩
  case round =>
    obtain ⟨k, hk, rfl, HJ⟩ := hrel
    by_cases hlt : k < g.length
    · obtain ⟨b, o, rfl, -, -, hc⟩ := HV.out.atI hlt
      have c1 := hc _ (Ext.refl w)
      rw [show getI (marksTo g s g.length) k = ((markN g s k : Nat) : Int) from marksTo_get _ _ _ _ hlt] at c1
      obtain ⟨m, hm⟩ : ∃ m, m = markN g s k := ⟨_, rfl⟩
      rw [← hm] at c1
      have HM := Lib.hid hm
      clear hc hm
      by_cases hz : m = 0
      · have hz' : ((m : Int) == 0) = true := by simp [hz]
        have HF : Hid (covN g s = false) := by
          unfold Hid
          rw [← Bool.not_eq_true, covN_iff]
          exact fun h => h k hlt (HM.out.symm.trans hz)
        clear hz
        go_wp2
        go_ret
        exact ⟨ret_bool HF.out.symm, rfl⟩
      · have hz' : ((m : Int) == 0) = false := by simp [hz]
        have HZ := Lib.hid hz
        clear hz
        go_wp2
        go_round
        case rel => exact ⟨k + 1, by omega, by go_num, fun j hj => by
          by_cases h : j = k
          · subst h; rw [← HM.out]; exact HZ.out
          · exact HJ.out j (by omega)⟩
        case measure => simp [intOf]; omega
    · obtain rfl : k = g.length := by omega
      go_wp2
      go_ret
      exact ⟨ret_bool (covN_iff.2 HJ.out).symm, rfl⟩

set_option maxHeartbeats 2000000 in
theorem l2ApartT_c (v : Value) (g : List Int) (s : Nat) (w : World) (hv : Rd w v (marksTo g s g.length)) (hg : IsGraph g) (_ : s ≤ 4095) :
    Calls Tryz.prog 195 #[v, .int .i64 s, .bool true] w fun e w' => e = .returned (.bool (apartN g s true)) ∧ Ext w w' := by
  obtain ⟨a, c, rfl⟩ := hv.form
  rw [marksTo_length] at hv ⊢
  have HV := Lib.hid hv
  have hl := hg.le
  clear hv hg
  go_enter Tryz.func195, Tryz.ntmps195
  go_wp2
  go_loopw [7] (fun i wr => ∃ k : Nat, k ≤ g.length ∧ i = .int .i64 k ∧ Hid (∀ j, j < k → apartRow g s true j = true) ∧ Hid (Ext w wr)) (fun i _ => g.length - (intOf i).toNat)
  case atStart => exact ⟨0, Nat.zero_le _, rfl, fun j hj => absurd hj (Nat.not_lt_zero j), Ext.refl _⟩
  case round =>
    obtain ⟨i, hi, rfl, HI, HX⟩ := hrel
    by_cases hlt : i < g.length
    · go_wp2
      go_loopw [8] (fun q wr => ∃ k : Nat, k ≤ i ∧ q = .int .i64 k ∧ Hid (∀ j, j < k → (!sameP g s true i j) = true) ∧ Hid (Ext w wr)) (fun q _ => i - (intOf q).toNat)
      case atStart => exact ⟨0, Nat.zero_le _, rfl, fun j hj => absurd hj (Nat.not_lt_zero j), HX⟩
      case round =>
        clear HX
        obtain ⟨k, hk, rfl, HJ, HX⟩ := hrel
        by_cases hlk : k < i
        · obtain ⟨b, o, rfl, -, -, hc⟩ := HV.out.atI hlt
          have c1 := fun u => hc _ (HX.out.trans (clip_ext wr u))
          rw [show getI (marksTo g s g.length) i = ((markN g s i : Nat) : Int) from marksTo_get _ _ _ _ hlt] at c1
          obtain ⟨b', o', hbo, -, -, hc2⟩ := HV.out.atI (k := k) (by omega)
          obtain ⟨rfl, rfl⟩ : b = b' ∧ o = o' := by simpa using hbo
          have c2 := fun u => hc2 _ (HX.out.trans (clip_ext wr u))
          rw [show getI (marksTo g s g.length) k = ((markN g s k : Nat) : Int) from marksTo_get _ _ _ _ (by omega)] at c2
          obtain ⟨mi, hmi⟩ : ∃ m, m = markN g s i := ⟨_, rfl⟩
          obtain ⟨mk, hmk⟩ : ∃ m, m = markN g s k := ⟨_, rfl⟩
          rw [← hmi] at c1
          rw [← hmk] at c2
          have HMI := Lib.hid hmi; have HMK := Lib.hid hmk
          clear hc hc2 hbo hmi hmk
          by_cases he : mi = mk
          · have he' : ((mi : Int) == (mk : Int)) = true := by simp [he]
            have HF : Hid (apartN g s true = false) := by
              unfold Hid apartN
              refine bears_false hlt ?_
              unfold apartRow
              refine bears_false hlk ?_
              unfold sameP
              rw [Bool.true_or, ← HMI.out, ← HMK.out, decide_eq_true he]; rfl
            clear he
            go_wp2
            refine wp_region_ext (by kernel_rfl) (by kernel_rfl) ?_
            repeat (go_big_quiet_step (fail))
            refine wpQuiet_nil ?_
            rintro _ ⟨u, rfl⟩
            go_wp2
            go_ret
            exact ⟨ret_bool HF.out.symm, HX.out.trans (clip_ext _ _)⟩
          · have he' : ((mi : Int) == (mk : Int)) = false := by simp; omega
            have HN : Hid (sameP g s true i k = false) := by unfold Hid sameP; rw [← HMI.out, ← HMK.out, decide_eq_false he, Bool.and_false]
            clear he
            go_wp2
            refine wp_region_ext (by kernel_rfl) (by kernel_rfl) ?_
            repeat (go_big_quiet_step (fail))
            refine wpQuiet_nil ?_
            rintro _ ⟨u, rfl⟩
            go_wp2
            go_roundw
            case rel => exact ⟨k + 1, by omega, by go_num, fun j hj => by
              by_cases h : j = k
              · subst h; rw [HN.out]; rfl
              · exact HJ.out j (by omega), HX.out.trans (clip_ext _ _)⟩
            case measure => simp [intOf]; omega
        · obtain rfl : k = i := by omega
          go_wp2
          go_roundw
          case rel => exact ⟨k + 1, by omega, by go_num, fun j hj => by
            by_cases h : j = k
            · subst h; exact bears_true HJ.out
            · exact HI.out j (by omega), HX⟩
          case measure => simp [intOf]; omega
    · obtain rfl : i = g.length := by omega
      go_wp2
      go_ret
      exact ⟨ret_bool (bears_true HI.out).symm, HX.out⟩

set_option maxHeartbeats 2000000 in
theorem l2ApartF_c (v : Value) (g : List Int) (s : Nat) (w : World) (hv : Rd w v (marksTo g s g.length)) (hg : IsGraph g) (hs : s ≤ 4095) :
    Calls Tryz.prog 195 #[v, .int .i64 s, .bool false] w fun e w' => e = .returned (.bool (apartN g s false)) ∧ Ext w w' := by
  obtain ⟨a, c, rfl⟩ := hv.form
  rw [marksTo_length] at hv ⊢
  have HV := Lib.hid hv
  have hl := hg.le
  clear hv hg
  go_enter Tryz.func195, Tryz.ntmps195
  go_wp2
  go_loopw [7] (fun i wr => ∃ k : Nat, k ≤ g.length ∧ i = .int .i64 k ∧ Hid (∀ j, j < k → apartRow g s false j = true) ∧ Hid (Ext w wr)) (fun i _ => g.length - (intOf i).toNat)
  case atStart => exact ⟨0, Nat.zero_le _, rfl, fun j hj => absurd hj (Nat.not_lt_zero j), Ext.refl _⟩
  case round =>
    obtain ⟨i, hi, rfl, HI, HX⟩ := hrel
    by_cases hlt : i < g.length
    · go_wp2
      go_loopw [8] (fun q wr => ∃ k : Nat, k ≤ i ∧ q = .int .i64 k ∧ Hid (∀ j, j < k → (!sameP g s false i j) = true) ∧ Hid (Ext w wr)) (fun q _ => i - (intOf q).toNat)
      case atStart => exact ⟨0, Nat.zero_le _, rfl, fun j hj => absurd hj (Nat.not_lt_zero j), HX⟩
      case round =>
        clear HX
        obtain ⟨k, hk, rfl, HJ, HX⟩ := hrel
        by_cases hlk : k < i
        · obtain ⟨b, o, rfl, -, -, hc⟩ := HV.out.atI hlt
          have c1 := fun u => hc _ (HX.out.trans (clip_ext wr u))
          rw [show getI (marksTo g s g.length) i = ((markN g s i : Nat) : Int) from marksTo_get _ _ _ _ hlt] at c1
          obtain ⟨b', o', hbo, -, -, hc2⟩ := HV.out.atI (k := k) (by omega)
          obtain ⟨rfl, rfl⟩ : b = b' ∧ o = o' := by simpa using hbo
          have c2 := fun u => hc2 _ (HX.out.trans (clip_ext wr u))
          rw [show getI (marksTo g s g.length) k = ((markN g s k : Nat) : Int) from marksTo_get _ _ _ _ (by omega)] at c2
          obtain ⟨mi, hmi⟩ : ∃ m, m = markN g s i := ⟨_, rfl⟩
          obtain ⟨mk, hmk⟩ : ∃ m, m = markN g s k := ⟨_, rfl⟩
          rw [← hmi] at c1
          rw [← hmk] at c2
          have HMI := Lib.hid hmi; have HMK := Lib.hid hmk
          clear hc hc2 hbo hmi hmk
          have HTI := Lib.hid (l1Bit_c s i (by omega) (by omega))
          have HTK := Lib.hid (l1Bit_c s k (by omega) (by omega))
          cases hbi : s.testBit i
          · cases hbk : s.testBit k
            · rw [hbi] at HTI
              rw [hbk] at HTK
              have HBI := Lib.hid hbi; have HBK := Lib.hid hbk
              clear hbi hbk
              by_cases he : mi = mk
              · have he' : ((mi : Int) == (mk : Int)) = true := by simp [he]
                have HF : Hid (apartN g s false = false) := by
                  unfold Hid apartN
                  refine bears_false hlt ?_
                  unfold apartRow
                  refine bears_false hlk ?_
                  unfold sameP
                  rw [HBI.out, HBK.out, ← HMI.out, ← HMK.out, decide_eq_true he]; rfl
                clear he
                go_wp2_with (first | (go_at_call 152; with_reducible refine (HTI.out _).mono ?_; rintro e w' ⟨rfl, rfl⟩) | (go_at_call 152; with_reducible refine (HTK.out _).mono ?_; rintro e w' ⟨rfl, rfl⟩))
                refine wp_region_ext (by kernel_rfl) (by kernel_rfl) ?_
                repeat (go_big_quiet_step (fail))
                refine wpQuiet_nil ?_
                rintro _ ⟨u, rfl⟩
                go_wp2
                go_ret
                exact ⟨ret_bool HF.out.symm, HX.out.trans (clip_ext _ _)⟩
              · have he' : ((mi : Int) == (mk : Int)) = false := by simp; omega
                have HN : Hid (sameP g s false i k = false) := by unfold Hid sameP; rw [← HMI.out, ← HMK.out, decide_eq_false he, Bool.and_false]
                clear he
                go_wp2_with (first | (go_at_call 152; with_reducible refine (HTI.out _).mono ?_; rintro e w' ⟨rfl, rfl⟩) | (go_at_call 152; with_reducible refine (HTK.out _).mono ?_; rintro e w' ⟨rfl, rfl⟩))
                refine wp_region_ext (by kernel_rfl) (by kernel_rfl) ?_
                repeat (go_big_quiet_step (fail))
                refine wpQuiet_nil ?_
                rintro _ ⟨u, rfl⟩
                go_wp2
                go_roundw
                case rel => exact ⟨k + 1, by omega, by go_num, fun j hj => by
                  by_cases h : j = k
                  · subst h; rw [HN.out]; rfl
                  · exact HJ.out j (by omega), HX.out.trans (clip_ext _ _)⟩
                case measure => simp [intOf]; omega
            · rw [hbi] at HTI
              rw [hbk] at HTK
              have HBI := Lib.hid hbi; have HBK := Lib.hid hbk
              clear hbi hbk
              have HN : Hid (sameP g s false i k = false) := by unfold Hid sameP; rw [HBI.out, HBK.out]; rfl
              go_wp2_with (first | (go_at_call 152; with_reducible refine (HTI.out _).mono ?_; rintro e w' ⟨rfl, rfl⟩) | (go_at_call 152; with_reducible refine (HTK.out _).mono ?_; rintro e w' ⟨rfl, rfl⟩))
              refine wp_region_ext (by kernel_rfl) (by kernel_rfl) ?_
              repeat (go_big_quiet_step (fail))
              refine wpQuiet_nil ?_
              rintro _ ⟨u, rfl⟩
              go_wp2
              go_roundw
              case rel => exact ⟨k + 1, by omega, by go_num, fun j hj => by
                by_cases h : j = k
                · subst h; rw [HN.out]; rfl
                · exact HJ.out j (by omega), HX.out.trans (clip_ext _ _)⟩
              case measure => simp [intOf]; omega
          · rw [hbi] at HTI
            have HBI := Lib.hid hbi
            clear hbi
            have HN : Hid (sameP g s false i k = false) := by unfold Hid sameP; rw [HBI.out]; rfl
            go_wp2_with (first | (go_at_call 152; with_reducible refine (HTI.out _).mono ?_; rintro e w' ⟨rfl, rfl⟩) | (go_at_call 152; with_reducible refine (HTK.out _).mono ?_; rintro e w' ⟨rfl, rfl⟩))
            refine wp_region_ext (by kernel_rfl) (by kernel_rfl) ?_
            repeat (go_big_quiet_step (fail))
            refine wpQuiet_nil ?_
            rintro _ ⟨u, rfl⟩
            go_wp2
            go_roundw
            case rel => exact ⟨k + 1, by omega, by go_num, fun j hj => by
              by_cases h : j = k
              · subst h; rw [HN.out]; rfl
              · exact HJ.out j (by omega), HX.out.trans (clip_ext _ _)⟩
            case measure => simp [intOf]; omega
        · obtain rfl : k = i := by omega
          go_wp2
          go_roundw
          case rel => exact ⟨k + 1, by omega, by go_num, fun j hj => by
            by_cases h : j = k
            · subst h; exact bears_true HJ.out
            · exact HI.out j (by omega), HX⟩
          case measure => simp [intOf]; omega
    · obtain rfl : i = g.length := by omega
      go_wp2
      go_ret
      exact ⟨ret_bool (bears_true HI.out).symm, HX.out⟩

end Go.Proofs.YtkmfmhckpfomeaaGreatDoor

/- The set with the fewest nodes for which something holds. The condition: at most 4096 sets. -/
namespace Go.Proofs.YtkmfmhckpfomeaaGreatDoor
open Go.RowKit
open BigFrame

def lo (p : Nat → Bool) : Nat → Option Nat
  | 0 => none
  | k + 1 => match lo p k with
    | none => if p k then some k else none
    | some b => if decide (cnt k < cnt b) && p k then some k else some b
theorem lo_none {p : Nat → Bool} {k : Nat} (h : lo p k = none) : lo p (k + 1) = if p k then some k else none := by rw [lo, h]
theorem lo_some {p : Nat → Bool} {k b : Nat} (h : lo p k = some b) : lo p (k + 1) = if decide (cnt k < cnt b) && p k then some k else some b := by rw [lo, h]
theorem lo_lt {p : Nat → Bool} : ∀ (k : Nat) (b : Nat), lo p k = some b → b < k
  | 0, b, h => by cases h
  | k + 1, b, h => by
    cases e : lo p k with
    | none =>
      rw [lo_none e] at h
      split at h
      · cases h; omega
      · cases h
    | some c =>
      have h1 := lo_lt k c e
      rw [lo_some e] at h
      split at h
      · cases h; omega
      · cases h; omega
def loP (o : Option Nat) : Int × Bool := match o with
  | some b => (((b : Nat) : Int), true)
  | none => (0, false)

set_option maxHeartbeats 2000000 in
theorem least_c (N K : Nat) (cap : Array Value) (p : Nat → Bool) (w : World) (h1 : 1 ≤ N) (hN : N ≤ 4096)
    (eg : ∀ args w, (callFunc K args).run Tryz.prog w = .ok (.enter K args) w)
    (hf : ∀ k, k < N → ∀ w', Ext w w' → Calls Tryz.prog K (#[.int .i64 (k : Nat)] ++ cap) w' fun e w'' => e = .returned (.bool (p k)) ∧ Ext w' w'') :
    Calls Tryz.prog 42 #[.int .i64 ((N - 1 : Nat) : Int), .func (.func K) #[] cap] w fun e w' => e = .returned (pairV (loP (lo p N))) ∧ Ext w w' := by
  obtain ⟨M, rfl⟩ : ∃ M, N = M + 1 := ⟨N - 1, by omega⟩
  rw [Nat.add_sub_cancel]
  have HF := Lib.hid hf; clear hf h1
  go_enter Tryz.func42, Tryz.ntmps42
  go_wp2
  go_loopw [6, 7, 8] (fun b f i wr => ∃ (k z : Nat) (q : Bool), k ≤ M + 1 ∧ i = .int .i64 k ∧ b = .int .i64 z ∧ f = .bool q ∧ Hid ((lo p k = none ∧ z = 0 ∧ q = false) ∨ (lo p k = some z ∧ q = true ∧ z ≤ 4095)) ∧ Ext w wr) (fun _ _ i _ => M + 1 - (intOf i).toNat)
  case atStart => exact ⟨0, 0, false, Nat.zero_le _, rfl, rfl, rfl, .inl ⟨rfl, rfl, rfl⟩, Ext.refl _⟩
  case round =>
    obtain ⟨k, z, q, hk, rfl, rfl, rfl, HL, hx⟩ := hrel
    have HX := Lib.hid hx; clear hx
    by_cases hlt : k ≤ M
    · have HF1 := HF.out k (by omega) wr HX.out
      have k4 : k ≤ 4095 := by omega
      have HS := Lib.hid fun w => sizeC k k4 w
      rcases HL.out with ⟨h1, rfl, rfl⟩ | ⟨h1, rfl, hz4⟩
      · have HN := Lib.hid (lo_none h1); clear h1 HL
        cases hp : p k <;> rw [hp] at HF1
        · have HP := Lib.hid hp; clear hp
          go_wp2_with fail
          refine HF1.mono ?_
          rintro e w' ⟨rfl, hx'⟩
          go_wp2
          go_roundw
          case rel => exact ⟨k + 1, 0, false, by omega, by go_num, rfl, rfl, .inl ⟨by rw [HN.out, HP.out]; rfl, rfl, rfl⟩, HX.out.trans hx'⟩
          case measure => simp [intOf]; omega
        · have HP := Lib.hid hp; clear hp
          go_wp2_with fail
          refine HF1.mono ?_
          rintro e w' ⟨rfl, hx'⟩
          go_wp2
          go_roundw
          case rel => exact ⟨k + 1, k, true, by omega, by go_num, rfl, rfl, .inr ⟨by rw [HN.out, HP.out]; rfl, rfl, k4⟩, HX.out.trans hx'⟩
          case measure => simp [intOf]; omega
      · have HN := Lib.hid (lo_some h1); have H1 := Lib.hid h1; clear h1 HL
        have HZ := Lib.hid fun w => sizeC z hz4 w
        by_cases hc : cnt k < cnt z
        · have HC := Lib.hid (decide_eq_true hc)
          have HT : Hid (∀ w, Calls Tryz.prog 65 #[.int .i64 k] w fun e w' => e = .returned (.int .i64 (cnt k : Nat)) ∧ w = w') := HS.out
          cases hp : p k <;> rw [hp] at HF1
          · have HP := Lib.hid hp; clear hp
            have HFh := Lib.hid HF1; clear HF1
            go_wp2_with (first | (go_at_call 65; with_reducible refine (HT.out _).mono ?_; rintro e w' ⟨rfl, rfl⟩) | (go_at_call 65; with_reducible refine (HZ.out _).mono ?_; rintro e w' ⟨rfl, rfl⟩))
            refine HFh.out.mono ?_
            rintro e w' ⟨rfl, hx'⟩
            go_wp2
            go_roundw
            case rel => exact ⟨k + 1, z, true, by omega, by go_num, rfl, rfl, .inr ⟨by rw [HN.out, HP.out, Bool.and_false]; rfl, rfl, hz4⟩, HX.out.trans hx'⟩
            case measure => simp [intOf]; omega
          · have HP := Lib.hid hp; clear hp
            have HFh := Lib.hid HF1; clear HF1
            go_wp2_with (first | (go_at_call 65; with_reducible refine (HT.out _).mono ?_; rintro e w' ⟨rfl, rfl⟩) | (go_at_call 65; with_reducible refine (HZ.out _).mono ?_; rintro e w' ⟨rfl, rfl⟩))
            refine HFh.out.mono ?_
            rintro e w' ⟨rfl, hx'⟩
            go_wp2
            go_roundw
            case rel => exact ⟨k + 1, k, true, by omega, by go_num, rfl, rfl, .inr ⟨by rw [HN.out, HP.out, HC.out]; rfl, rfl, k4⟩, HX.out.trans hx'⟩
            case measure => simp [intOf]; omega
        · have HC := Lib.hid (decide_eq_false hc)
          clear HF1
          go_wp2_with (first | (go_at_call 65; with_reducible refine (HS.out _).mono ?_; rintro e w' ⟨rfl, rfl⟩) | (go_at_call 65; with_reducible refine (HZ.out _).mono ?_; rintro e w' ⟨rfl, rfl⟩))
          go_roundw
          case rel => exact ⟨k + 1, z, true, by omega, by go_num, rfl, rfl, .inr ⟨by rw [HN.out, HC.out]; rfl, rfl, hz4⟩, HX.out⟩
          case measure => simp [intOf]; omega
    · obtain rfl : k = M + 1 := by omega
      go_wp2
      go_ret2
      refine ⟨?_, HX.out⟩
      rcases HL.out with ⟨h1, rfl, rfl⟩ | ⟨h1, rfl, hz4⟩
      · rw [h1]; rfl
      · rw [h1]; rfl
end Go.Proofs.YtkmfmhckpfomeaaGreatDoor

/- What questions and answers leave: the reference and the program compute the same plain function. The condition: both lists have at most 2^20 numbers. -/
namespace Go.Proofs.YtkmfmhckpfomeaaGreatDoor
open Go.RowKit
open BigFrame

def byteAt (s : ByteArray) (k : Nat) : Nat := if h : k < s.size then (s[k]'h).toNat else 0
/-- What is left behind one question. -/
def foundNext (g : List Int) (s : Nat) (x : Int) (c : Nat) : Option Nat :=
  if inB 0 x ((g.length : Int) - 1) then if c = 121 then some (qIn g s x.toNat) else if c = 110 then some (without s (qIn g s x.toNat)) else none else none
def foundTo (g asked : List Int) (said : ByteArray) : Nat → Option Nat
  | 0 => some (2 ^ g.length - 1)
  | k + 1 => (foundTo g asked said k).bind fun s => foundNext g s (getI asked k) (byteAt said k)
theorem foundTo_none {g asked : List Int} {said : ByteArray} {k : Nat} (h : foundTo g asked said k = none) : ∀ d, foundTo g asked said (k + d) = none
  | 0 => h
  | d + 1 => by
    have := foundTo_none h d
    show (foundTo g asked said (k + d)).bind _ = none
    rw [this]; rfl
def pairOf : Option Nat → Int × Bool
  | some s => ((s : Nat), true)
  | none => (0, false)
def askFound (g asked : List Int) (said : ByteArray) : Int × Bool :=
  if graphIn g && decide (asked.length = said.size) && decide (asked.length ≤ 20) then pairOf (foundTo g asked said asked.length) else (0, false)
theorem foundNext_le {g : List Int} {s t : Nat} {x : Int} {c : Nat} (hs : s ≤ 4095) (h : foundNext g s x c = some t) : t ≤ 4095 := by
  unfold foundNext at h
  split at h
  · split at h
    · cases h; exact Nat.le_trans (qIn_le _ _ _) hs
    · split at h
      · cases h; exact without_le _ _ hs
      · cases h
  · cases h
theorem found_stop {g asked : List Int} {said : ByteArray} {k s : Nat} (hk : k < asked.length) (h : foundTo g asked said k = some s) (h' : foundNext g s (getI asked k) (byteAt said k) = none) :
    pairOf (foundTo g asked said asked.length) = (0, false) := by
  have e : foundTo g asked said (k + 1) = none := by show (foundTo g asked said k).bind _ = none; rw [h]; exact h'
  have := foundTo_none e (asked.length - (k + 1))
  rw [show k + 1 + (asked.length - (k + 1)) = asked.length from by omega] at this
  rw [this]; rfl
theorem found_go {g asked : List Int} {said : ByteArray} {k s t : Nat} (h : foundTo g asked said k = some s) (h' : foundNext g s (getI asked k) (byteAt said k) = some t) : foundTo g asked said (k + 1) = some t := by
  show (foundTo g asked said k).bind _ = some t
  rw [h]; exact h'

theorem all_c (v : Value) (g : List Int) (w : World) (hv : Rd w v g) (hg : g.length ≤ 12) :
    Calls Tryz.prog 43 #[v] w fun e w' => e = .returned (.int .i64 ((2 ^ g.length - 1 : Nat) : Int)) ∧ w = w' := by
  obtain ⟨a, c, rfl⟩ := hv.form
  clear hv
  obtain ⟨p, hp, hp1, hp2, hp3⟩ := pow_var g.length (by omega)
  have e0 : min g.length 64 = g.length := by omega
  rw [hp]
  clear hp
  go_enter Tryz.func43, Tryz.ntmps43
  go_wp2
  go_ret
  exact ⟨ret_int (by omega), rfl⟩

end Go.Proofs.YtkmfmhckpfomeaaGreatDoor
