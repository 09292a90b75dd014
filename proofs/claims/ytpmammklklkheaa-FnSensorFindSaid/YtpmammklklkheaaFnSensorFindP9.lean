/- What the walk of FnSensorFind rests on, part 9: plain facts, and contracts of the functions that it reaches. Each states its own condition. -/
import Derived.Test.YtpmammklklkheaaFnSensorFindP8
/- Codes of the four kinds, and how many sensors of a code may fall silent: plain functions and what holds of them. No program in sight. No condition. -/
namespace Go.Proofs.Ytpmammklklkheaa

/-! ### Codes -/
def covN (g : List Int) (s : Nat) : Bool := (List.range g.length).all fun i => decide (markN g s i ≠ 0)
/-- Whether a pair is asked, and its marks are the same. -/
def sameP (g : List Int) (s : Nat) (all : Bool) (i k : Nat) : Bool := (all || (!s.testBit i && !s.testBit k)) && decide (markN g s i = markN g s k)
def apartRow (g : List Int) (s : Nat) (all : Bool) (i : Nat) : Bool := (List.range i).all fun k => !sameP g s all i k
def apartN (g : List Int) (s : Nat) (all : Bool) : Bool := (List.range g.length).all (apartRow g s all)
/-- A node of the code that has unlike distances to two nodes. -/
def farP (g : List Int) (s i k c : Nat) : Bool := s.testBit c && decide (dd g i c ≠ dd g k c)
def resP (g : List Int) (s i k : Nat) : Bool := (List.range g.length).any (farP g s i k)
def resRow (g : List Int) (s i : Nat) : Bool := (List.range i).all (resP g s i)
def resN (g : List Int) (s : Nat) : Bool := (List.range g.length).all (resRow g s)
def kindN (g : List Int) (kind s : Nat) : Bool :=
  if kind = 0 then covN g s else if kind = 1 then covN g s && apartN g s false else if kind = 2 then covN g s && apartN g s true else resN g s
def codeIn (g : List Int) (kind s : Int) : Bool := graphIn g && inB 0 kind 3 && setB s g.length && kindN g kind.toNat s.toNat
theorem covN_iff {g : List Int} {s : Nat} : covN g s = true ↔ ∀ i, i < g.length → markN g s i ≠ 0 := by
  unfold covN; simp [List.all_eq_true]
theorem apartN_iff {g : List Int} {s : Nat} : apartN g s true = true ↔ ∀ i, i < g.length → ∀ k, k < i → markN g s i ≠ markN g s k := by
  unfold apartN apartRow sameP; simp [List.all_eq_true]
theorem kind2_iff {g : List Int} {s : Nat} : kindN g 2 s = true ↔ (∀ i, i < g.length → markN g s i ≠ 0) ∧ ∀ i, i < g.length → ∀ k, k < i → markN g s i ≠ markN g s k := by
  unfold kindN
  rw [if_neg (by decide), if_neg (by decide), if_pos rfl, Bool.and_eq_true, covN_iff, apartN_iff]

/-! ### Silent sensors -/
theorem mark_without (g : List Int) (s t i : Nat) : markN g (without s t) i = without (markN g s i) t := by
  unfold markN
  apply Nat.eq_of_testBit_eq
  intro j
  simp only [testBit_band, testBit_without]
  cases (ballN g i).testBit j <;> simp
theorem mark_sub (g : List Int) (s i : Nat) : band (markN g s i) s = markN g s i := by
  unfold markN
  apply Nat.eq_of_testBit_eq
  intro j
  simp only [testBit_band]
  cases (ballN g i).testBit j <;> simp
theorem without_eq {a b t : Nat} : without a t = without b t ↔ band (bxor a b) t = bxor a b := by
  constructor
  · intro e
    apply Nat.eq_of_testBit_eq
    intro j
    have := congrArg (fun z => Nat.testBit z j) e
    simp only [testBit_without] at this
    rw [testBit_band, testBit_bxor]
    revert this
    cases a.testBit j <;> cases b.testBit j <;> cases t.testBit j <;> simp
  · intro e
    apply Nat.eq_of_testBit_eq
    intro j
    have := congrArg (fun z => Nat.testBit z j) e
    simp only [testBit_band, testBit_bxor] at this
    rw [testBit_without, testBit_without]
    revert this
    cases a.testBit j <;> cases b.testBit j <;> cases t.testBit j <;> simp
theorem cnt_mono {s t : Nat} (h : band s t = s) : cnt s ≤ cnt t := by
  unfold cnt
  apply List.countP_mono_left
  intro i _ hi
  have := congrArg (fun z => Nat.testBit z i) h
  simp only [testBit_band, hi, Bool.true_and] at this
  exact this
theorem band_self_sub {a b c : Nat} (ha : band a c = a) (hb : band b c = b) : band (bxor a b) c = bxor a b := by
  apply Nat.eq_of_testBit_eq
  intro j
  have h1 := congrArg (fun z => Nat.testBit z j) ha
  have h2 := congrArg (fun z => Nat.testBit z j) hb
  simp only [testBit_band] at h1 h2
  rw [testBit_band, testBit_bxor]
  revert h1 h2
  cases a.testBit j <;> cases b.testBit j <;> cases c.testBit j <;> simp
theorem bxor_zero {a b : Nat} : bxor a b = 0 ↔ a = b := by
  constructor
  · intro e
    apply Nat.eq_of_testBit_eq
    intro j
    have := congrArg (fun z => Nat.testBit z j) e
    simp only [testBit_bxor, Nat.zero_testBit] at this
    revert this
    cases a.testBit j <;> cases b.testBit j <;> simp
  · rintro rfl
    unfold bxor
    exact Nat.xor_self a

/-- The least of all marks and differences below row i, and in row i below k, at most 12. -/
def pairMin (g : List Int) (s i : Nat) : Nat → Nat → Nat
  | 0, n => n
  | k + 1, n => min (pairMin g s i k n) (cnt (bxor (markN g s i) (markN g s k)))
def silMin (g : List Int) (s : Nat) : Nat → Nat
  | 0 => 12
  | i + 1 => pairMin g s i i (min (silMin g s i) (cnt (markN g s i)))
theorem pairMin_le (g : List Int) (s i n : Nat) : ∀ k, pairMin g s i k n ≤ n
  | 0 => Nat.le_refl _
  | k + 1 => Nat.le_trans (Nat.min_le_left _ _) (pairMin_le g s i n k)
theorem pairMin_at (g : List Int) (s i n : Nat) : ∀ k j, j < k → pairMin g s i k n ≤ cnt (bxor (markN g s i) (markN g s j))
  | 0, j, h => by omega
  | k + 1, j, h => by
    by_cases e : j = k
    · subst e; exact Nat.min_le_right _ _
    · exact Nat.le_trans (Nat.min_le_left _ _) (pairMin_at g s i n k j (by omega))
theorem pairMin_has (g : List Int) (s i n : Nat) : ∀ k, pairMin g s i k n = n ∨ ∃ j, j < k ∧ pairMin g s i k n = cnt (bxor (markN g s i) (markN g s j))
  | 0 => .inl rfl
  | k + 1 => by
    by_cases h : pairMin g s i k n ≤ cnt (bxor (markN g s i) (markN g s k))
    · have e : pairMin g s i (k + 1) n = pairMin g s i k n := Nat.min_eq_left h
      rcases pairMin_has g s i n k with h1 | ⟨j, h1, h2⟩
      · exact .inl (e.trans h1)
      · exact .inr ⟨j, by omega, e.trans h2⟩
    · exact .inr ⟨k, by omega, Nat.min_eq_right (by omega)⟩
theorem silMin_mono (g : List Int) (s i : Nat) : silMin g s (i + 1) ≤ silMin g s i := Nat.le_trans (pairMin_le _ _ _ _ _) (Nat.min_le_left _ _)
theorem silMin_anti (g : List Int) (s : Nat) : ∀ {i j : Nat}, i ≤ j → silMin g s j ≤ silMin g s i
  | i, j, h => by
    induction j with
    | zero => obtain rfl : i = 0 := by omega
              exact Nat.le_refl _
    | succ j ih =>
      by_cases e : i = j + 1
      · subst e; exact Nat.le_refl _
      · exact Nat.le_trans (silMin_mono g s j) (ih (by omega))
theorem silMin_mark {g : List Int} {s i n : Nat} (h : i < n) : silMin g s n ≤ cnt (markN g s i) :=
  Nat.le_trans (silMin_anti g s (show i + 1 ≤ n from h)) (Nat.le_trans (pairMin_le _ _ _ _ _) (Nat.min_le_right _ _))
theorem silMin_pair {g : List Int} {s i k n : Nat} (h : i < n) (hk : k < i) : silMin g s n ≤ cnt (bxor (markN g s i) (markN g s k)) :=
  Nat.le_trans (silMin_anti g s (show i + 1 ≤ n from h)) (pairMin_at g s i _ i k hk)
theorem silMin_has (g : List Int) (s : Nat) : ∀ n, silMin g s n = 12 ∨ (∃ i, i < n ∧ silMin g s n = cnt (markN g s i)) ∨ ∃ i k, i < n ∧ k < i ∧ silMin g s n = cnt (bxor (markN g s i) (markN g s k))
  | 0 => .inl rfl
  | n + 1 => by
    rcases pairMin_has g s n (min (silMin g s n) (cnt (markN g s n))) n with h | ⟨j, h1, h2⟩
    · have e : silMin g s (n + 1) = min (silMin g s n) (cnt (markN g s n)) := h
      by_cases hc : silMin g s n ≤ cnt (markN g s n)
      · rw [Nat.min_eq_left hc] at e
        rcases silMin_has g s n with h | ⟨i, h1, h2⟩ | ⟨i, k, h1, h2, h3⟩
        · exact .inl (e.trans h)
        · exact .inr (.inl ⟨i, by omega, e.trans h2⟩)
        · exact .inr (.inr ⟨i, k, by omega, h2, e.trans h3⟩)
      · rw [Nat.min_eq_right (by omega)] at e
        exact .inr (.inl ⟨n, by omega, e⟩)
    · exact .inr (.inr ⟨n, j, by omega, h1, h2⟩)
/-- Taking out a set breaks the code just if it holds a mark or a difference. -/
theorem breaks_iff {g : List Int} {s t : Nat} : kindN g 2 (without s t) = false ↔ (∃ i, i < g.length ∧ band (markN g s i) t = markN g s i) ∨ ∃ i k, i < g.length ∧ k < i ∧ band (bxor (markN g s i) (markN g s k)) t = bxor (markN g s i) (markN g s k) := by
  rw [← Bool.not_eq_true, kind2_iff]
  constructor
  · intro h
    by_cases h1 : ∃ i, i < g.length ∧ band (markN g s i) t = markN g s i
    · exact .inl h1
    · by_cases h2 : ∃ i k, i < g.length ∧ k < i ∧ band (bxor (markN g s i) (markN g s k)) t = bxor (markN g s i) (markN g s k)
      · exact .inr h2
      · exfalso
        apply h
        refine ⟨fun i hi e => h1 ⟨i, hi, ?_⟩, fun i hi k hk e => h2 ⟨i, k, hi, hk, ?_⟩⟩
        · rw [mark_without] at e
          exact without_zero.1 e
        · rw [mark_without, mark_without] at e
          exact without_eq.1 e
  · rintro (⟨i, hi, e⟩ | ⟨i, k, hi, hk, e⟩) ⟨h1, h2⟩
    · exact h1 i hi (by rw [mark_without]; exact without_zero.2 e)
    · exact h2 i hi k hk (by rw [mark_without, mark_without]; exact without_eq.2 e)
/-- No set with fewer nodes breaks the code. -/
theorem silMin_low {g : List Int} {s t : Nat} (h : kindN g 2 (without s t) = false) : silMin g s g.length ≤ cnt t := by
  rcases breaks_iff.1 h with ⟨i, hi, e⟩ | ⟨i, k, hi, hk, e⟩
  · exact Nat.le_trans (silMin_mark hi) (cnt_mono e)
  · exact Nat.le_trans (silMin_pair hi hk) (cnt_mono e)
/-- Some part of the code with so many nodes breaks it. -/
theorem silMin_hit {g : List Int} (hg : IsGraph g) (s : Nat) : ∃ t, band t s = t ∧ cnt t = silMin g s g.length ∧ kindN g 2 (without s t) = false := by
  rcases silMin_has g s g.length with h | ⟨i, h1, h2⟩ | ⟨i, k, h1, h2, h3⟩
  · refine ⟨markN g s 0, mark_sub g s 0, ?_, breaks_iff.2 (.inl ⟨0, hg.pos, ?_⟩)⟩
    · have h1 := silMin_mark (g := g) (s := s) (n := g.length) hg.pos
      have h2 := cnt_le (markN g s 0)
      omega
    · exact Nat.and_self _
  · exact ⟨markN g s i, mark_sub g s i, h2.symm, breaks_iff.2 (.inl ⟨i, h1, Nat.and_self _⟩)⟩
  · exact ⟨bxor (markN g s i) (markN g s k), band_self_sub (mark_sub g s i) (mark_sub g s k), h3.symm, breaks_iff.2 (.inr ⟨i, k, h1, h2, Nat.and_self _⟩)⟩

/-! ### The program's way through all parts of a set, downwards -/
theorem band_div (a b : Nat) : band a b / 2 = band (a / 2) (b / 2) := by
  apply Nat.eq_of_testBit_eq
  intro i
  rw [testBit_band, ← Nat.testBit_succ, ← Nat.testBit_succ, ← Nat.testBit_succ, testBit_band]
theorem band_mod (a b : Nat) : band a b % 2 = 1 ↔ a % 2 = 1 ∧ b % 2 = 1 := by
  have := testBit_band a b 0
  simp only [Nat.testBit_zero] at this
  rw [← Bool.and_eq_true_iff.trans (and_congr decide_eq_true_iff decide_eq_true_iff), ← this, decide_eq_true_iff]
/-- The next smaller part of a set: every part below t is at most that. -/
theorem next_part : ∀ (n t s u : Nat), t ≤ n → band t s = t → u < t → band u s = u → u ≤ band (t - 1) s
  | 0, t, s, u, hn, _, hu, _ => by omega
  | n + 1, t, s, u, hn, ht, hu, hus => by
    have t1 := band_div t s
    rw [ht] at t1
    have u1 := band_div u s
    rw [hus] at u1
    have u2 := band_mod u s
    rw [hus] at u2
    have x1 := band_div (t - 1) s
    have x2 := band_mod (t - 1) s
    by_cases ho : t % 2 = 1
    · rw [show (t - 1) / 2 = t / 2 from by omega, ← t1] at x1
      have : band (t - 1) s % 2 = 0 := by
        have := mt x2.1 (by omega)
        omega
      omega
    · have ih := next_part n (t / 2) (s / 2) (u / 2) (by omega) t1.symm (by omega) u1.symm
      rw [show (t - 1) / 2 = t / 2 - 1 from by omega] at x1
      by_cases hm : u % 2 = 1
      · have := x2.2 ⟨by omega, (u2.1 hm).2⟩
        omega
      · omega
/-- What the program knows when all parts above out have been looked at. -/
def SilAt (g : List Int) (s out few : Nat) : Prop :=
  (∀ u, band u s = u → out < u → kindN g 2 (without s u) = false → few ≤ cnt u) ∧ (few = cnt s + 1 ∨ ∃ u, band u s = u ∧ few = cnt u ∧ kindN g 2 (without s u) = false)
theorem sub_of_part {u s : Nat} (h : band u s = u) : u ≤ s := by rw [← h]; exact band_le _ _
theorem SilAt.start (g : List Int) (s : Nat) : SilAt g s s (cnt s + 1) :=
  ⟨fun u hu hlt _ => by have := sub_of_part hu; omega, .inl rfl⟩
def fewNext (g : List Int) (s out few : Nat) : Nat := if decide (cnt out < few) && !kindN g 2 (without s out) then cnt out else few
/-- Behind the look at out: all parts from out on. -/
theorem fewNext_all {g : List Int} {s out few : Nat} (ho : band out s = out) (h : SilAt g s out few) :
    (∀ u, band u s = u → out ≤ u → kindN g 2 (without s u) = false → fewNext g s out few ≤ cnt u) ∧ (fewNext g s out few = cnt s + 1 ∨ ∃ u, band u s = u ∧ fewNext g s out few = cnt u ∧ kindN g 2 (without s u) = false) := by
  unfold fewNext
  cases hk : kindN g 2 (without s out)
  · by_cases hc : cnt out < few
    · rw [decide_eq_true hc]
      refine ⟨fun u hu hle hb => ?_, .inr ⟨out, ho, rfl, hk⟩⟩
      show cnt out ≤ cnt u
      by_cases e : out = u
      · subst e; exact Nat.le_refl _
      · have := h.1 u hu (by omega) hb
        omega
    · rw [decide_eq_false hc]
      refine ⟨fun u hu hle hb => ?_, h.2⟩
      show few ≤ cnt u
      by_cases e : out = u
      · subst e; omega
      · exact h.1 u hu (by omega) hb
  · simp only [Bool.not_true, Bool.and_false]
    refine ⟨fun u hu hle hb => ?_, h.2⟩
    show few ≤ cnt u
    by_cases e : out = u
    · subst e; rw [hk] at hb; cases hb
    · exact h.1 u hu (by omega) hb
theorem SilAt.next {g : List Int} {s out few : Nat} (ho : band out s = out) (h : SilAt g s out few) : SilAt g s (band (out - 1) s) (fewNext g s out few) := by
  obtain ⟨h1, h2⟩ := fewNext_all ho h
  refine ⟨fun u hu hlt hb => h1 u hu ?_ hb, h2⟩
  rcases Nat.lt_or_ge u out with h | h
  · have := next_part out out s u (Nat.le_refl _) ho h hu
    omega
  · exact h
theorem SilAt.done {g : List Int} (hg : IsGraph g) {s few : Nat} (h : SilAt g s 0 few) : fewNext g s 0 few = silMin g s g.length := by
  obtain ⟨h1, h2⟩ := fewNext_all (by simp [band]) h
  obtain ⟨t, t1, t2, t3⟩ := silMin_hit hg s
  have h3 := h1 t t1 (Nat.zero_le _) t3
  have h4 := cnt_mono t1
  rcases h2 with h2 | ⟨u, u1, u2, u3⟩
  · omega
  · have := silMin_low u3
    omega
theorem silAt_pos {g : List Int} {s out few : Nat} (h : SilAt g s out few) : few ≤ cnt s + 1 := by
  rcases h.2 with h | ⟨u, u1, u2, -⟩
  · omega
  · have := cnt_mono u1; omega
theorem part_next {out s : Nat} : band (band (out - 1) s) s = band (out - 1) s := by
  apply Nat.eq_of_testBit_eq
  intro i
  simp only [testBit_band]
  cases s.testBit i <;> simp
end Go.Proofs.Ytpmammklklkheaa

/- Whether a code bears wrong sensors: the reference and the program compute the same plain function. No condition. -/
namespace Go.Proofs.Ytpmammklklkheaa
open Go.RowKit
open BigFrame

def bearP (g : List Int) (s t i k : Nat) : Bool := decide (2 * t + 1 ≤ cnt (bxor (markN g s i) (markN g s k)))
def bearRow (g : List Int) (s t i : Nat) : Bool := decide (2 * t + 1 ≤ cnt (markN g s i)) && (List.range i).all (bearP g s t i)
def bearsN (g : List Int) (s t : Nat) : Bool := (List.range g.length).all (bearRow g s t)
theorem bears_false {N k : Nat} {p : Nat → Bool} (hk : k < N) (h : p k = false) : (List.range N).all p = false := by
  rw [List.all_eq_false]; exact ⟨k, List.mem_range.2 hk, by rw [h]; decide⟩
theorem bears_true {N : Nat} {p : Nat → Bool} (h : ∀ k, k < N → p k = true) : (List.range N).all p = true := by
  rw [List.all_eq_true]; exact fun k hk => h k (List.mem_range.1 hk)
theorem bxor_small {a b : Nat} (ha : a ≤ 4095) (hb : b ≤ 4095) : bxor a b ≤ 4095 := by
  have := bxor_lt (x := a) (y := b) (n := 12) (by omega) (by omega)
  omega

set_option maxHeartbeats 2000000 in
theorem l5Bears_c (v : Value) (g : List Int) (s t : Nat) (w : World) (hv : Rd w v g) (hg : IsGraph g) (hs : s ≤ 4095) (ht : t ≤ 4) :
    Calls Try.prog 66 #[v, .int .i64 s, .int .i64 t] w fun e w' => e = .returned (.bool (bearsN g s t)) ∧ Ext w w' := by
  obtain ⟨a, c, rfl⟩ := hv.form
  have HV := Lib.hid hv; have HG := Lib.hid hg
  have hl := hg.le
  clear hv hg
  go_enter Try.func66, Try.ntmps66
  go_wp2_with fail
  refine (l2Marks_c _ g s _ HV.out HG.out hs).mono ?_
  rintro e w1 ⟨vm, rfl, om, x1⟩
  obtain ⟨gm, cm, rfl⟩ := om.form' (marksTo_length g s g.length)
  have OM := Lib.hid om.rd; have X1 := Lib.hid x1
  clear om x1
  go_wp2
  go_loopw [8] (fun i wr => ∃ k : Nat, k ≤ g.length ∧ i = .int .i64 k ∧ Hid (∀ j, j < k → bearRow g s t j = true) ∧ Ext w1 wr) (fun i _ => g.length - (intOf i).toNat)
  case atStart => exact ⟨0, Nat.zero_le _, rfl, fun j hj => absurd hj (Nat.not_lt_zero j), Ext.refl _⟩
  case round =>
    obtain ⟨i, hi, rfl, HI, hx⟩ := hrel
    have HX := Lib.hid hx; clear hx
    by_cases hlt : i < g.length
    · obtain ⟨b, o, rfl, -, hbl, hc⟩ := OM.out.atI hlt
      have c1 := hc _ HX.out
      rw [show getI (marksTo g s g.length) i = ((markN g s i : Nat) : Int) from marksTo_get _ _ _ _ hlt] at c1
      have m4 := markN_small HG.out hlt s
      clear hc
      by_cases hz : cnt (markN g s i) < 2 * t + 1
      · have HZ : Hid (bearRow g s t i = false) := by unfold bearRow Hid; rw [decide_eq_false (by omega)]; rfl
        go_wp2_with (go_at_call 70; refine (l1Count_c _ (by omega) _).mono ?_; rintro e w' ⟨rfl, rfl⟩)
        go_ret
        exact ⟨ret_bool (bears_false hlt HZ.out).symm, X1.out.trans HX.out⟩
      · have HZ := Lib.hid hz
        go_wp2_with (go_at_call 70; refine (l1Count_c _ (by omega) _).mono ?_; rintro e w' ⟨rfl, rfl⟩)
        clear c1 hz
        obtain ⟨wo, rfl⟩ : ∃ wo : World, wo = wr := ⟨_, rfl⟩
        go_loopw [9] (fun q wr => ∃ k : Nat, k ≤ i ∧ q = .int .i64 k ∧ Hid (∀ j, j < k → bearP g s t i j = true) ∧ Ext w1 wr) (fun q _ => i - (intOf q).toNat)
        case atStart => exact ⟨0, Nat.zero_le _, rfl, fun j hj => absurd hj (Nat.not_lt_zero j), HX.out⟩
        case round =>
          clear HX
          obtain ⟨k, hk, rfl, HJ, hx⟩ := hrel
          have HX := Lib.hid hx; clear hx
          by_cases hlk : k < i
          · obtain ⟨b', o', he, -, -, hc⟩ := OM.out.atI hlt
            obtain ⟨rfl, rfl⟩ : b = b' ∧ o = o' := by simpa using he
            have c1 := fun u => hc _ (HX.out.trans (clip_ext wr u))
            rw [show getI (marksTo g s g.length) i = ((markN g s i : Nat) : Int) from marksTo_get _ _ _ _ hlt] at c1
            clear hc he
            obtain ⟨b', o', he, -, -, hc⟩ := OM.out.atI (k := k) (by omega)
            obtain ⟨rfl, rfl⟩ : b = b' ∧ o = o' := by simpa using he
            have c2 := fun u => hc _ (HX.out.trans (clip_ext wr u))
            rw [show getI (marksTo g s g.length) k = ((markN g s k : Nat) : Int) from marksTo_get _ _ _ _ (by omega)] at c2
            clear hc he
            have n4 := markN_small HG.out (show k < g.length by omega) s
            have e1 := bits_xor (markN g s i) (markN g s k) (by omega) (by omega)
            have x4 := bxor_small m4 n4
            have HL := Lib.hid fun w => l1Count_c (bxor (markN g s i) (markN g s k)) (by omega) w
            by_cases hy : cnt (bxor (markN g s i) (markN g s k)) < 2 * t + 1
            · have HY : Hid (bearP g s t i k = false) := by unfold bearP Hid; rw [decide_eq_false (by omega)]
              go_wp2
              refine wp_region_ext (by kernel_rfl) (by kernel_rfl) ?_
              repeat (go_big_quiet_step ((go_at_call 70; exact Calls.clip_same (HL.out _))))
              refine wpQuiet_nil ?_
              rintro _ ⟨u, rfl⟩
              go_wp2
              go_ret
              exact ⟨ret_bool (bears_false hlt (by unfold bearRow; rw [bears_false hlk HY.out, Bool.and_false])).symm, X1.out.trans (HX.out.trans (clip_ext _ _))⟩
            · have HY : Hid (bearP g s t i k = true) := by unfold bearP Hid; rw [decide_eq_true (by omega)]
              go_wp2
              refine wp_region_ext (by kernel_rfl) (by kernel_rfl) ?_
              repeat (go_big_quiet_step ((go_at_call 70; exact Calls.clip_same (HL.out _))))
              refine wpQuiet_nil ?_
              rintro _ ⟨u, rfl⟩
              go_wp2
              go_roundw
              case rel => exact ⟨k + 1, by omega, by go_num, fun j hj => by
                by_cases h : j = k
                · subst h; exact HY.out
                · exact HJ.out j (by omega), HX.out.trans (clip_ext _ _)⟩
              case measure => simp [intOf]; omega
          · obtain rfl : k = i := by omega
            go_wp2
            go_roundw
            case rel => exact ⟨k + 1, by omega, by go_num, fun j hj => by
              by_cases h : j = k
              · subst h; unfold bearRow; rw [decide_eq_true (by have := HZ.out; omega), bears_true HJ.out]; rfl
              · exact HI.out j (by omega), HX.out⟩
            case measure => simp [intOf]; omega
    · obtain rfl : i = g.length := by omega
      go_wp2
      go_ret
      exact ⟨ret_bool (bears_true HI.out).symm, X1.out.trans HX.out⟩

set_option maxHeartbeats 2000000 in
theorem bears_c (b : Nat) (v vb vf : Value) (vs : List Value) (g : List Int) (s t : Nat) (w : World) (hb : IsBook w b g v vb vf vs) (hg : IsGraph g) (hs : s ≤ 4095) (ht : t ≤ 4) :
    Calls Try.prog 62 #[.pointer (some ⟨b, 0, none⟩), .int .i64 s, .int .i64 t] w fun e w' => e = .returned (.bool (bearsN g s t)) ∧ Ext w w' := by
  have HB := Lib.hid hb; have HG := Lib.hid hg
  have hl := hg.le
  have hl1 := hg.pos
  clear hb hg
  go_enter Try.func62, Try.ntmps62
  go_wp2_with fail
  refine (marks_c b _ _ _ _ g s _ HB.out HG.out hs).mono ?_
  rintro e w1 ⟨vm, rfl, om, x1⟩
  have X1 := Lib.hid x1; clear x1
  rcases om.get with ⟨rfl, hnil⟩ | ⟨gm, cm, rfl, -, -, hcm, hcells, -⟩
  · have h1 := congrArg List.length hnil
    rw [marksTo_length, List.length_nil] at h1
    omega
  · rw [marksTo_length] at hcm
    have HC : Hid (∀ i, i < g.length → w1.cell? ⟨gm, i, none⟩ = some (.int .i64 (markN g s i : Nat))) := fun i hi => by
      rw [hcells i (by rw [marksTo_length]; exact hi), marksTo_get _ _ _ _ hi]
    clear hcells om
    rw [marksTo_length]
    go_wp2
    go_loop [17] (fun i => ∃ k : Nat, k ≤ g.length ∧ i = .int .i64 k ∧ Hid (∀ j, j < k → bearRow g s t j = true)) (fun i => g.length - (intOf i).toNat)
    case atStart => exact ⟨0, Nat.zero_le _, rfl, fun j hj => absurd hj (Nat.not_lt_zero j)⟩
    case round =>
      obtain ⟨i, hi, rfl, HI⟩ := hrel
      by_cases hlt : i < g.length
      · have c1 := HC.out i hlt
        have m4 := markN_small HG.out hlt s
        have HS := Lib.hid fun w => sizeC (markN g s i) m4 w
        by_cases hz : cnt (markN g s i) < 2 * t + 1
        · have HZ : Hid (bearRow g s t i = false) := by unfold bearRow Hid; rw [decide_eq_false (by omega)]; rfl
          go_wp2_with (go_at_call 57; refine (HS.out _).mono ?_; rintro e w' ⟨rfl, rfl⟩)
          go_ret
          exact ⟨ret_bool (bears_false hlt HZ.out).symm, X1.out⟩
        · have HZ := Lib.hid hz
          have hdf : decide ((cnt (markN g s i) : Int) < 2 * (t : Int) + 1) = false := by simp; omega
          go_wp2_with (go_at_call 57; refine (HS.out _).mono ?_; rintro e w' ⟨rfl, rfl⟩)
          try simp only [hdf]
          clear c1 hz hdf HS
          go_loop [32] (fun q => ∃ k : Nat, k ≤ i ∧ q = .int .i64 k ∧ Hid (∀ j, j < k → bearP g s t i j = true)) (fun q => i - (intOf q).toNat)
          case atStart => exact ⟨0, Nat.zero_le _, rfl, fun j hj => absurd hj (Nat.not_lt_zero j)⟩
          case round =>
            obtain ⟨k, hk, rfl, HJ⟩ := hrel
            by_cases hlk : k < i
            · have c2 := HC.out k (by omega)
              have n4 := markN_small HG.out (show k < g.length by omega) s
              have e1 := bits_xor (markN g s i) (markN g s k) (by omega) (by omega)
              have x4 := bxor_small m4 n4
              have HL := Lib.hid fun w => sizeC (bxor (markN g s i) (markN g s k)) x4 w
              by_cases hy : cnt (bxor (markN g s i) (markN g s k)) < 2 * t + 1
              · have HY : Hid (bearP g s t i k = false) := by unfold bearP Hid; rw [decide_eq_false (by omega)]
                go_wp2_with (go_at_call 57; refine (HL.out _).mono ?_; rintro e w' ⟨rfl, rfl⟩)
                go_ret
                exact ⟨ret_bool (bears_false hlt (by unfold bearRow; rw [bears_false hlk HY.out, Bool.and_false])).symm, X1.out⟩
              · have HY : Hid (bearP g s t i k = true) := by unfold bearP Hid; rw [decide_eq_true (by omega)]
                go_wp2_with (go_at_call 57; refine (HL.out _).mono ?_; rintro e w' ⟨rfl, rfl⟩)
                go_round
                case rel => exact ⟨k + 1, by omega, by go_num, fun j hj => by
                  by_cases h : j = k
                  · subst h; exact HY.out
                  · exact HJ.out j (by omega)⟩
                case measure => simp [intOf]; omega
            · obtain rfl : k = i := by omega
              go_wp2
              go_round
              case rel => exact ⟨k + 1, by omega, by go_num, fun j hj => by
                by_cases h : j = k
                · subst h; unfold bearRow; rw [decide_eq_true (by have := HZ.out; omega), bears_true HJ.out]; rfl
                · exact HI.out j (by omega)⟩
              case measure => simp [intOf]; omega
      · obtain rfl : i = g.length := by omega
        go_wp2
        go_ret
        exact ⟨ret_bool (bears_true HI.out).symm, X1.out⟩
end Go.Proofs.Ytpmammklklkheaa
