/- What the walk of FnSensorFind rests on, part 13: plain facts, and contracts of the functions that it reaches. Each states its own condition. -/
import Derived.Test.YtpmammklklkheaaFnSensorFindP8
import Derived.Test.YtpmammklklkheaaFnSensorFindP5
import Derived.Test.YtpmammklklkheaaFnSensorFindP4
import Derived.Test.YtpmammklklkheaaFnSensorFindP3
import Derived.Test.YtpmammklklkheaaFnSensorFindP11
import Derived.Deep.RegionWith
/- The marks of a graph's nodes, told or not: the reference and the program compute the same plain list. The condition: the list has at most 2^20 numbers. -/
namespace Go.Proofs.Ytpmammklklkheaa
open Go.RowKit
open BigFrame

def codeMarks (g : List Int) (s : Int) : List Int × Bool := if fits g s then (marksTo g s.toNat g.length, true) else ([], false)

set_option maxHeartbeats 1000000 in
theorem codeMarksI_c (v : Value) (g : List Int) (s : Int) (w : World) (hv : Rd w v g) (hm : g.length ≤ 1048576) :
    Calls Try.prog 24 #[v, .int .i64 s] w fun e w' => ∃ v', e = .returned (listV v' (codeMarks g s).2) ∧ Own w' w.heap.size v' (codeMarks g s).1 ∧ Ext w w' := by
  obtain ⟨a, c, rfl⟩ := hv.form
  have HV := Lib.hid hv; clear hv
  have HC := Lib.hid (codeFits_c (.slice a g.length c) g s w HV.out hm)
  cases h0 : fits g s
  · rw [show codeMarks g s = ([], false) from by unfold codeMarks; rw [h0]; rfl]
    rw [h0] at HC
    go_enter Try.func24, Try.ntmps24
    go_wp2_with fail
    refine HC.out.mono ?_
    rintro e w1 ⟨rfl, x1⟩
    have X1 := Lib.hid x1; clear x1
    go_wp2
    go_ret2
    exact ⟨_, rfl, Own.nil _ _, X1.out⟩
  · obtain ⟨k, rfl, hG, hk⟩ := fits_iff.1 h0
    have hl := hG.le
    have HG := Lib.hid hG
    have hk4 : k ≤ 4095 := by have := pow_le_12 hl; omega
    rw [show codeMarks g k = (marksTo g k g.length, true) from by unfold codeMarks; rw [h0]; rfl]
    rw [h0] at HC
    clear hk hG
    go_enter Try.func24, Try.ntmps24
    go_wp2_with fail
    refine HC.out.mono ?_
    rintro e w1 ⟨rfl, x1⟩
    have X1 := Lib.hid x1; clear x1
    go_wp2_with fail
    refine (bookOf_c _ g _ (HV.out.ext X1.out) HG.out).mono ?_
    rintro e w2 ⟨b, vb, vf, vs, rfl, -, hb, x2⟩
    have HB := Lib.hid hb; have X2 := Lib.hid (X1.out.trans x2); clear hb x2
    go_wp2_with fail
    refine (marks_c b _ _ _ _ g k _ HB.out HG.out hk4).mono ?_
    rintro e w3 ⟨v3, rfl, o3, x3⟩
    have O3 : Hid (Own w3 w.heap.size v3 (marksTo g k g.length)) := o3.mono X2.out.size
    have X3 := Lib.hid (X2.out.trans x3); clear o3 x3
    go_wp2
    go_ret2
    exact ⟨_, rfl, O3.out, X3.out⟩
set_option maxHeartbeats 1000000 in
theorem codeMarksS_c (v : Value) (g : List Int) (s : Int) (w : World) (hv : Rd w v g) (hm : g.length ≤ 1048576) :
    Calls Try.prog 77 #[v, .int .i64 s] w fun e w' => ∃ v', e = .returned (listV v' (codeMarks g s).2) ∧ Own w' w.heap.size v' (codeMarks g s).1 ∧ Ext w w' := by
  obtain ⟨a, c, rfl⟩ := hv.form
  have HV := Lib.hid hv
  have HC := Lib.hid (graphInS_c (.slice a g.length c) g w hv hm)
  clear hv
  cases h0 : graphIn g
  · rw [show codeMarks g s = ([], false) from by unfold codeMarks fits; rw [h0]; rfl]
    rw [h0] at HC
    go_enter Try.func77, Try.ntmps77
    go_wp2_with fail
    refine HC.out.mono ?_
    rintro e w1 ⟨rfl, x1⟩
    have O1 := Lib.hid (Own.lit w1)
    have X1 := Lib.hid x1; clear x1
    go_wp2
    go_ret2
    exact ⟨_, rfl, O1.out.mono X1.out.size, X1.out.alloc _⟩
  · have hG := graphIn_iff.1 h0
    have hl := hG.le
    have HG := Lib.hid hG; clear hG
    rw [h0] at HC
    cases hs : setB s g.length
    · rw [show codeMarks g s = ([], false) from by unfold codeMarks fits; rw [h0, hs]; rfl]
      go_enter Try.func77, Try.ntmps77
      go_wp2_with fail
      refine HC.out.mono ?_
      rintro e w1 ⟨rfl, x1⟩
      have O1 := Lib.hid (Own.lit w1)
      have X1 := Lib.hid x1; clear x1
      go_wp2_with (go_at_call 64; refine (l2Set_c _ g _ _ (HV.out.ext X1.out) (by omega)).mono ?_; rintro e w' ⟨rfl, rfl⟩)
      go_ret2
      exact ⟨_, rfl, O1.out.mono X1.out.size, X1.out.alloc _⟩
    · obtain ⟨k, rfl, hk⟩ := setB_iff.1 hs
      have hk4 : k ≤ 4095 := by have := pow_le_12 hl; omega
      rw [show codeMarks g k = (marksTo g k g.length, true) from by unfold codeMarks fits; rw [h0, hs]; rfl]
      clear hk
      go_enter Try.func77, Try.ntmps77
      go_wp2_with fail
      refine HC.out.mono ?_
      rintro e w1 ⟨rfl, x1⟩
      have X1 := Lib.hid x1; clear x1
      go_wp2_with (go_at_call 64; refine (l2Set_c _ g _ _ (HV.out.ext X1.out) (by omega)).mono ?_; rintro e w' ⟨rfl, rfl⟩)
      refine (l2Marks_c _ g k _ (HV.out.ext X1.out) HG.out hk4).mono ?_
      rintro e w3 ⟨v3, rfl, o3, x3⟩
      have O3 : Hid (Own w3 w.heap.size v3 (marksTo g k g.length)) := o3.mono X1.out.size
      have X3 := Lib.hid (X1.out.trans x3); clear o3 x3
      go_wp2
      go_ret2
      exact ⟨_, rfl, O3.out, X3.out⟩
end Go.Proofs.Ytpmammklklkheaa

/- The draw of items and tests. The condition: at most 999900 numbers have been drawn. -/
namespace Go.Proofs.Ytpmammklklkheaa
open Go.RowKit
open BigFrame

end Go.Proofs.Ytpmammklklkheaa

/- Whether a pool is clear: the reference and the program compute the same plain function. The condition: the list has at most 2^20 numbers. -/
namespace Go.Proofs.Ytpmammklklkheaa
open Go.RowKit
open BigFrame
attribute [local go_sem] Oper.semAt_some

def clearT (i s : Nat) (x : Int) : Bool := x.toNat.testBit i && (band x.toNat s == 0)
def clearI (tests : List Int) (d i k : Nat) : Bool := !(fewB d k && !k.testBit i) || tests.any (clearT i k)
def clearRow (tests : List Int) (d N i : Nat) : Bool := (List.range N).all (clearI tests d i)
def poolClear (items : Int) (tests : List Int) (d : Int) : Bool := poolIn items tests && inB 0 d 3 && (List.range items.toNat).all (clearRow tests d.toNat (2 ^ items.toNat))
theorem range_all_false {N k : Nat} {p : Nat → Bool} (hk : k < N) (h : p k = false) : (List.range N).all p = false := by
  rw [List.all_eq_false]; exact ⟨k, List.mem_range.2 hk, by rw [h]; decide⟩
theorem range_all_true {N : Nat} {p : Nat → Bool} (h : ∀ k, k < N → p k = true) : (List.range N).all p = true := by
  rw [List.all_eq_true]; exact fun k hk => h k (List.mem_range.1 hk)
theorem any_take_succ {xs : List Int} {p : Int → Bool} {k : Nat} (hk : k < xs.length) : (xs.take (k + 1)).any p = ((xs.take k).any p || p (getI xs k)) := by
  rw [List.take_succ_eq_append_getElem hk, List.any_append]
  simp [getI, hk]
theorem few_iff2 {d k : Nat} : fewB d k = true ↔ cnt k ≤ d := by simp [fewB]

end Go.Proofs.Ytpmammklklkheaa

/- The least set of wrong items with some answers: the reference and the program compute the same plain function. The condition: the list has at most 2^20 numbers. -/
namespace Go.Proofs.Ytpmammklklkheaa
open Go.RowKit
open BigFrame
attribute [local go_sem] Oper.semAt_some

/-- The least number below N with p, and whether there is one. -/
def leastP (p : Nat → Bool) (N : Nat) : Int × Bool :=
  match (List.range N).find? p with
  | some k => ((k : Nat), true)
  | none => (0, false)
theorem leastP_none {p : Nat → Bool} {N : Nat} (h : ∀ j, j < N → p j = false) : leastP p N = (0, false) := by
  unfold leastP
  rw [List.find?_eq_none.2 (fun x hx => by rw [h x (List.mem_range.1 hx)]; decide)]
theorem leastP_some {p : Nat → Bool} {N k : Nat} (hk : k < N) (h : ∀ j, j < k → p j = false) (hp : p k = true) : leastP p N = (((k : Nat) : Int), true) := by
  unfold leastP
  rw [show (List.range N).find? p = some k from by
    rw [List.find?_range_eq_some]
    exact ⟨hp, List.mem_range.2 hk, fun j hj => by rw [h j hj]; rfl⟩]
def goodB (tests : List Int) (d a k : Nat) : Bool := fewB d k && (answersOf tests k == a)
def poolDecode (items : Int) (tests : List Int) (d answers : Int) : Int × Bool :=
  if poolIn items tests && inB 0 d 3 && setB answers tests.length then leastP (goodB tests d.toNat answers.toNat) (2 ^ items.toNat) else (0, false)
theorem answersOf_small {n : Nat} {tests : List Int} (h : IsPool n tests) (m : Nat) : answersOf tests m ≤ 65535 := answersTo_small h.len
theorem few_iff {d k : Nat} : fewB d k = true ↔ cnt k ≤ d := by simp [fewB]

end Go.Proofs.Ytpmammklklkheaa

/- What holds of pools: answers, what is left, what tells, what is clear. No program in sight. No condition. -/
namespace Go.Proofs.Ytpmammklklkheaa

theorem band_ne {x y : Nat} : band x y ≠ 0 ↔ ∃ i, x.testBit i = true ∧ y.testBit i = true := by
  constructor
  · intro h
    apply Classical.byContradiction
    intro hn
    apply h
    apply Nat.eq_of_testBit_eq
    intro i
    rw [testBit_band, Nat.zero_testBit]
    cases hx : x.testBit i
    · rfl
    · cases hy : y.testBit i
      · rfl
      · exact absurd ⟨i, hx, hy⟩ hn
  · rintro ⟨i, h1, h2⟩ e
    have h := testBit_band x y i
    rw [e, h1, h2, Nat.zero_testBit] at h
    cases h
theorem ne_bit {x y : Nat} (h : x ≠ y) : ∃ i, x.testBit i ≠ y.testBit i := by
  apply Classical.byContradiction
  intro hn
  apply h
  apply Nat.eq_of_testBit_eq
  intro i
  apply Classical.byContradiction
  intro h'
  exact hn ⟨i, h'⟩
theorem bit_lt {x n i : Nat} (hx : x < 2 ^ n) (h : x.testBit i = true) : i < n := by
  rcases Nat.lt_or_ge i n with h' | h'
  · exact h'
  · rw [testBit_out hx h'] at h; cases h
theorem testBit_answersTo (tests : List Int) (wrong j : Nat) : ∀ k, (answersTo tests wrong k).testBit j = (decide (j < k) && decide (band (gN tests j) wrong ≠ 0))
  | 0 => by simp [answersTo]
  | k + 1 => by
    have ih := testBit_answersTo tests wrong j k
    have h2 : (2 ^ k).testBit j = decide (k = j) := Nat.testBit_two_pow
    by_cases e : k = j
    · subst e
      unfold answersTo
      split
      · rename_i h
        rw [testBit_bor, h2, ih]
        simp [h]
      · rename_i h
        rw [ih]
        simp [h]
    · have h3 : decide (j < k + 1) = decide (j < k) := by
        by_cases h : j < k
        · rw [decide_eq_true h, decide_eq_true (by omega)]
        · rw [decide_eq_false h, decide_eq_false (by omega)]
      rw [h3]
      unfold answersTo
      split
      · rw [testBit_bor, h2, ih, decide_eq_false e, Bool.or_false]
      · exact ih
theorem answers_bit {tests : List Int} {wrong j : Nat} : (answersOf tests wrong).testBit j = true ↔ j < tests.length ∧ band (gN tests j) wrong ≠ 0 := by
  unfold answersOf
  rw [testBit_answersTo, Bool.and_eq_true, decide_eq_true_iff, decide_eq_true_iff]
theorem leftTo_bit (n : Nat) (tests : List Int) (a i : Nat) : ∀ k, (leftTo n tests a k).testBit i = true ↔ i < n ∧ ∀ j, j < k → a.testBit j = true ∨ (gN tests j).testBit i = false
  | 0 => by
    show (2 ^ n - 1).testBit i = true ↔ _
    rw [Nat.testBit_two_pow_sub_one]
    simp
  | k + 1 => by
    have ih := leftTo_bit n tests a i k
    unfold leftTo
    split
    · rename_i h
      rw [ih]
      constructor
      · rintro ⟨h1, h2⟩
        refine ⟨h1, fun j hj => ?_⟩
        by_cases e : j = k
        · subst e; exact .inl h
        · exact h2 j (by omega)
      · rintro ⟨h1, h2⟩
        exact ⟨h1, fun j hj => h2 j (by omega)⟩
    · rename_i h
      rw [testBit_without, Bool.and_eq_true, ih, Bool.not_eq_true']
      constructor
      · rintro ⟨⟨h1, h2⟩, h3⟩
        refine ⟨h1, fun j hj => ?_⟩
        by_cases e : j = k
        · subst e; exact .inr h3
        · exact h2 j (by omega)
      · rintro ⟨h1, h2⟩
        refine ⟨⟨h1, fun j hj => h2 j (by omega)⟩, ?_⟩
        rcases h2 k (by omega) with h3 | h3
        · exact absurd h3 h
        · exact h3
theorem left_bit {n : Nat} {tests : List Int} {a i : Nat} : (leftOf n tests a).testBit i = true ↔ i < n ∧ ∀ j, j < tests.length → a.testBit j = true ∨ (gN tests j).testBit i = false :=
  leftTo_bit n tests a i tests.length
theorem answers_zero (tests : List Int) : answersOf tests 0 = 0 := by
  apply Nat.eq_of_testBit_eq
  intro i
  rw [Nat.zero_testBit]
  cases h : (answersOf tests 0).testBit i
  · rfl
  · exact absurd (by simp [band]) (answers_bit.1 h).2
theorem answers_bor (tests : List Int) (a b : Nat) : answersOf tests (bor a b) = bor (answersOf tests a) (answersOf tests b) := by
  apply Nat.eq_of_testBit_eq
  intro i
  rw [Bool.eq_iff_iff, testBit_bor, Bool.or_eq_true, answers_bit, answers_bit, answers_bit, band_ne, band_ne, band_ne]
  constructor
  · rintro ⟨h1, j, h2, h3⟩
    rw [testBit_bor, Bool.or_eq_true] at h3
    exact h3.imp (fun h => ⟨h1, j, h2, h⟩) (fun h => ⟨h1, j, h2, h⟩)
  · rintro (⟨h1, j, h2, h3⟩ | ⟨h1, j, h2, h3⟩)
    · exact ⟨h1, j, h2, by rw [testBit_bor, h3, Bool.true_or]⟩
    · exact ⟨h1, j, h2, by rw [testBit_bor, h3, Bool.or_true]⟩
/-- Wrong items are left. -/
theorem wrong_left {n : Nat} {tests : List Int} {wrong : Nat} (hw : wrong < 2 ^ n) : without wrong (leftOf n tests (answersOf tests wrong)) = 0 := by
  apply Nat.eq_of_testBit_eq
  intro i
  rw [testBit_without, Nat.zero_testBit]
  cases h : wrong.testBit i
  · rfl
  · have : (leftOf n tests (answersOf tests wrong)).testBit i = true := by
      refine left_bit.2 ⟨bit_lt hw h, fun j hj => ?_⟩
      cases h2 : (gN tests j).testBit i
      · exact .inr rfl
      · exact .inl (answers_bit.2 ⟨hj, band_ne.2 ⟨i, h2, h⟩⟩)
    rw [this]; rfl
theorem tellsTo_iff {tests : List Int} {d N : Nat} : tellsTo tests d N = true ↔ ∀ k, k < N → cnt k ≤ d → ∀ j, j < k → cnt j ≤ d → answersOf tests j ≠ answersOf tests k := by
  unfold tellsTo seenTo fewB
  simp only [List.all_eq_true, List.mem_range, Bool.not_eq_true', Bool.and_eq_false_iff, decide_eq_false_iff_not, List.any_eq_false, Bool.and_eq_true, decide_eq_true_eq, beq_iff_eq, not_and]
  constructor
  · intro h k hk hc j hj hcj
    rcases h k hk with h1 | h1
    · exact absurd hc h1
    · exact h1 j hj hcj
  · intro h k hk
    by_cases hc : cnt k ≤ d
    · exact .inr fun j hj hcj => h k hk hc j hj hcj
    · exact .inl hc
theorem tells_inj {tests : List Int} {d N : Nat} (h : tellsTo tests d N = true) {j k : Nat} (hj : j < N) (hk : k < N) (cj : cnt j ≤ d) (ck : cnt k ≤ d) (e : answersOf tests j = answersOf tests k) : j = k := by
  rcases Nat.lt_trichotomy j k with h1 | h1 | h1
  · exact absurd e (tellsTo_iff.1 h k hk ck j h1 cj)
  · exact h1
  · exact absurd e.symm (tellsTo_iff.1 h j hj cj k h1 ck)
theorem clear_iff {n : Nat} {tests : List Int} (_ : IsPool n tests) {d : Nat} : (List.range n).all (clearRow tests d (2 ^ n)) = true ↔
    ∀ i, i < n → ∀ k, k < 2 ^ n → cnt k ≤ d → k.testBit i = false → ∃ j, j < tests.length ∧ (gN tests j).testBit i = true ∧ band (gN tests j) k = 0 := by
  have hany : ∀ i k, tests.any (clearT i k) = true ↔ ∃ j, j < tests.length ∧ (gN tests j).testBit i = true ∧ band (gN tests j) k = 0 := by
    intro i k
    rw [List.any_eq_true]
    constructor
    · rintro ⟨x, hx, h⟩
      obtain ⟨j, hj, rfl⟩ := List.getElem_of_mem hx
      unfold clearT at h
      rw [Bool.and_eq_true, beq_iff_eq] at h
      have e : gN tests j = (tests[j]).toNat := by unfold gN getI; simp [hj]
      exact ⟨j, hj, by rw [e]; exact h.1, by rw [e]; exact h.2⟩
    · rintro ⟨j, hj, h1, h2⟩
      refine ⟨tests[j], List.getElem_mem hj, ?_⟩
      have e : gN tests j = (tests[j]).toNat := by unfold gN getI; simp [hj]
      unfold clearT
      rw [← e, h1, h2]; rfl
  unfold clearRow clearI fewB
  simp only [List.all_eq_true, List.mem_range, Bool.or_eq_true, Bool.not_eq_true', Bool.and_eq_false_iff, decide_eq_false_iff_not, hany]
  constructor
  · intro h i hi k hk hc hb
    rcases h i hi k hk with (h1 | h1) | h1
    · exact absurd hc h1
    · rw [hb] at h1; simp at h1
    · exact h1
  · intro h i hi k hk
    by_cases hc : cnt k ≤ d
    · cases hb : k.testBit i
      · exact .inr (h i hi k hk hc hb)
      · exact .inl (.inr (by simp))
    · exact .inl (.inl hc)
theorem cnt_two_pow : ∀ i, i < 12 → cnt (2 ^ i) = 1 := by decide +kernel
theorem cnt_add {k i : Nat} (hi : i < 12) (h : k.testBit i = false) : cnt (bor k (2 ^ i)) = cnt k + 1 := by
  have h1 := cnt_split (bor k (2 ^ i)) k
  have e1 : band (bor k (2 ^ i)) k = k := by
    apply Nat.eq_of_testBit_eq
    intro j
    rw [testBit_band, testBit_bor]
    cases k.testBit j <;> simp
  have e2 : without (bor k (2 ^ i)) k = 2 ^ i := by
    apply Nat.eq_of_testBit_eq
    intro j
    rw [testBit_without, testBit_bor, Nat.testBit_two_pow]
    by_cases e : i = j
    · subst e; rw [h]; simp
    · rw [decide_eq_false e]; cases k.testBit j <;> simp
  rw [e1, e2, cnt_two_pow i hi] at h1
  exact h1.symm
/-- What tells d is clear for d - 1. -/
theorem tells_clear {n : Nat} {tests : List Int} (hP : IsPool n tests) {d : Nat} (h : tellsTo tests (d + 1) (2 ^ n) = true) : (List.range n).all (clearRow tests d (2 ^ n)) = true := by
  rw [clear_iff hP]
  intro i hi k hk hc hb
  have hn := hP.le
  have h1 := cnt_add (show i < 12 by omega) hb
  have hk' : bor k (2 ^ i) < 2 ^ n := bor_lt hk (Nat.pow_lt_pow_right (by omega) hi)
  have hne : k ≠ bor k (2 ^ i) := fun e => by rw [← e] at h1; omega
  have ha : answersOf tests k ≠ answersOf tests (bor k (2 ^ i)) := fun e => hne (tells_inj h hk hk' (by omega) (by omega) e)
  obtain ⟨j, hj⟩ := ne_bit ha
  have hsub : (answersOf tests k).testBit j = true → (answersOf tests (bor k (2 ^ i))).testBit j = true := by
    intro h2; rw [answers_bor, testBit_bor, h2, Bool.true_or]
  have h3 : (answersOf tests (bor k (2 ^ i))).testBit j = true := by
    cases h4 : (answersOf tests (bor k (2 ^ i))).testBit j
    · cases h5 : (answersOf tests k).testBit j
      · rw [h4, h5] at hj; exact absurd rfl hj
      · rw [hsub h5] at h4; cases h4
    · rfl
  have h4 : (answersOf tests k).testBit j = false := by
    cases h5 : (answersOf tests k).testBit j
    · rfl
    · rw [h5, h3] at hj; exact absurd rfl hj
  obtain ⟨h5, h6⟩ := answers_bit.1 h3
  have h7 : band (gN tests j) k = 0 := Classical.byContradiction fun h7 => by rw [answers_bit.2 ⟨h5, h7⟩] at h4; cases h4
  obtain ⟨y, y1, y2⟩ := band_ne.1 h6
  refine ⟨j, h5, ?_, h7⟩
  rw [testBit_bor, Bool.or_eq_true] at y2
  rcases y2 with y2 | y2
  · exact absurd h7 (band_ne.2 ⟨y, y1, y2⟩)
  · rw [Nat.testBit_two_pow, decide_eq_true_iff] at y2
    rw [y2]; exact y1
/-- What is clear tells. -/
theorem clear_tells {n : Nat} {tests : List Int} (hP : IsPool n tests) {d : Nat} (h : (List.range n).all (clearRow tests d (2 ^ n)) = true) : tellsTo tests d (2 ^ n) = true := by
  have hC := (clear_iff hP).1 h
  have key : ∀ a b, a < 2 ^ n → b < 2 ^ n → cnt b ≤ d → answersOf tests a = answersOf tests b → ∀ i, a.testBit i = true → b.testBit i = true := by
    intro a b ha hb cb e i hi
    cases hbi : b.testBit i
    · obtain ⟨j, j1, j2, j3⟩ := hC i (bit_lt ha hi) b hb cb hbi
      have h1 := answers_bit.2 ⟨j1, band_ne.2 ⟨i, j2, hi⟩⟩
      rw [e] at h1
      exact absurd j3 (answers_bit.1 h1).2
    · rfl
  rw [tellsTo_iff]
  intro k hk ck j hj cj e
  have : j = k := by
    apply Nat.eq_of_testBit_eq
    intro i
    rw [Bool.eq_iff_iff]
    exact ⟨key j k (by omega) hk ck e i, key k j hk (by omega) cj e.symm i⟩
  omega
/-- Behind clear pools just the wrong items are left. -/
theorem clear_left {n : Nat} {tests : List Int} (hP : IsPool n tests) {d : Nat} (h : (List.range n).all (clearRow tests d (2 ^ n)) = true) {wrong : Nat} (hw : wrong < 2 ^ n) (hc : cnt wrong ≤ d) : leftOf n tests (answersOf tests wrong) = wrong := by
  have hC := (clear_iff hP).1 h
  apply Nat.eq_of_testBit_eq
  intro i
  rw [Bool.eq_iff_iff, left_bit]
  constructor
  · rintro ⟨h1, h2⟩
    cases hb : wrong.testBit i
    · obtain ⟨j, j1, j2, j3⟩ := hC i h1 wrong hw hc hb
      rcases h2 j j1 with h3 | h3
      · exact absurd j3 (answers_bit.1 h3).2
      · rw [j2] at h3; cases h3
    · rfl
  · intro hb
    refine ⟨bit_lt hw hb, fun j hj => ?_⟩
    cases h2 : (gN tests j).testBit i
    · exact .inr rfl
    · exact .inl (answers_bit.2 ⟨hj, band_ne.2 ⟨i, h2, hb⟩⟩)
theorem tellsTo_less {tests : List Int} {d e N : Nat} (he : e ≤ d) (h : tellsTo tests d N = true) : tellsTo tests e N = true := by
  rw [tellsTo_iff] at h ⊢
  intro k hk ck j hj cj
  exact h k hk (by omega) j hj (by omega)
/-- The pool of the digits: each item answers by itself. -/
theorem digits_self : ∀ n, n ≤ 12 → ∀ i, i < n → answersOf (digitsN n) (2 ^ i) = i := by decide +kernel
theorem digits_many : ∀ n, n ≤ 12 → n ≤ 2 ^ (digitsN n).length := by decide +kernel
end Go.Proofs.Ytpmammklklkheaa

/- The law's own count of nodes; the draw of two sets. The condition of each is typed. -/
namespace Go.Proofs.Ytpmammklklkheaa
open Go.RowKit
open BigFrame

theorem cntTo_all {s : Nat} (h : s ≤ 4095) : ∀ k, 12 ≤ k → cntTo s k = cnt s
  | 0, hk => by omega
  | k + 1, hk => by
    by_cases e : k + 1 = 12
    · rw [e]; rfl
    · rw [cntTo_succ, cntTo_all h k (by omega), testBit_out (show s < 2 ^ 12 by omega) (by omega)]; rfl

set_option maxHeartbeats 1000000 in
theorem sizeL_c (s : Nat) (hs : s ≤ 4095) (w : World) :
    Calls Try.prog 16 #[.int .i64 s] w fun e w' => e = .returned (.int .i64 (cnt s : Nat)) ∧ w = w' := by
  have HC := Lib.hid (cntTo_all hs 30 (by omega))
  go_enter Try.func16, Try.ntmps16
  go_wp2
  go_loop [3, 4] (fun n i => ∃ k D : Nat, k ≤ 30 ∧ i = .int .i64 k ∧ n = .int .i64 D ∧ D ≤ k ∧ Hid (D = cntTo s k)) (fun _ i => 30 - (intOf i).toNat)
  case atStart => exact ⟨0, 0, Nat.zero_le _, rfl, rfl, Nat.le_refl _, rfl⟩
  case round =>
    obtain ⟨k, D, hk, rfl, rfl, hD, HD⟩ := hrel
    by_cases hlt : k < 30
    · have e0 : min k 64 = k := by omega
      have e1 := div_pow_nat s k
      have e2 : bits .and .i64 (shr s k : Int) 1 = (band (shr s k) 1 : Int) := bits_and (shr s k) 1 (Nat.lt_of_le_of_lt (Nat.shiftRight_le _ _) (by omega)) (by omega)
      have e3 := bit_shift s k
      have HN := Lib.hid (cntTo_succ s k)
      cases hb : s.testBit k
      · rw [hb] at e3 HN
        clear hb
        go_wp2
        go_round
        case rel => exact ⟨k + 1, D, by omega, by go_num, by go_num, by omega, by unfold Hid; rw [HN.out, HD.out]; rfl⟩
        case measure => simp [intOf]; omega
      · rw [hb] at e3 HN
        clear hb
        go_wp2
        go_round
        case rel => exact ⟨k + 1, D + 1, by omega, by go_num, by go_num, by omega, by unfold Hid; rw [HN.out, HD.out]; rfl⟩
        case measure => simp [intOf]; omega
    · obtain rfl : k = 30 := by omega
      go_wp2
      go_ret
      exact ⟨ret_int (by rw [HD.out, HC.out]), rfl⟩

theorem bxor_cnt_le (a b : Nat) : cnt (bxor a b) ≤ cnt a + cnt b := by
  unfold cnt
  have : ∀ l : List Nat, l.countP (fun i => (bxor a b).testBit i) ≤ l.countP (fun i => a.testBit i) + l.countP (fun i => b.testBit i) := by
    intro l
    induction l with
    | nil => simp
    | cons x l ih =>
      simp only [List.countP_cons, testBit_bxor] at ih ⊢
      cases a.testBit x <;> cases b.testBit x <;> simp <;> omega
  exact this _
theorem bxor_comm' (a b : Nat) : bxor a b = bxor b a := Nat.xor_comm a b
theorem bxor_eq_zero {a b : Nat} : bxor a b = 0 ↔ a = b := by
  constructor
  · intro e
    apply Nat.eq_of_testBit_eq
    intro j
    have := congrArg (fun z => Nat.testBit z j) e
    simp only [testBit_bxor, Nat.zero_testBit] at this
    revert this
    cases a.testBit j <;> cases b.testBit j <;> simp
  · rintro rfl
    exact Nat.xor_self a
end Go.Proofs.Ytpmammklklkheaa

/- The draws of pools, with what is asked of them; lists that the law compares. The condition: at most 2^20 bytes. -/
namespace Go.Proofs.Ytpmammklklkheaa
open Go.RowKit
open BigFrame

set_option maxHeartbeats 400000 in
/-- Equal lists are the same. -/
theorem sameInts_c (v v' : Value) (xs : List Int) (w : World) (hv : Rd w v xs) (hv' : Rd w v' xs) (hx : xs.length ≤ 1048576) :
    Calls Try.prog 41 #[v, v'] w fun e w' => e = .returned (.bool true) ∧ Ext w w' := by
  obtain ⟨a, c, rfl⟩ := hv.form
  obtain ⟨a', c', rfl⟩ := hv'.form
  have HV := Lib.hid hv; clear hv
  have HV' := Lib.hid hv'; clear hv'
  go_enter Try.func41, Try.ntmps41
  go_wp2
  go_loopw [5] (fun i wr => ∃ k : Nat, k ≤ xs.length ∧ i = .int .i64 k ∧ Ext w wr) (fun i _ => xs.length - (intOf i).toNat)
  case atStart => exact ⟨0, Nat.zero_le _, rfl, Ext.refl _⟩
  case round =>
    obtain ⟨k, hk, rfl, hx⟩ := hrel
    have HX := Lib.hid hx; clear hx
    by_cases hlt : k < xs.length
    · obtain ⟨b, o, rfl, -, -, hc⟩ := HV.out.at hlt
      obtain ⟨b', o', rfl, -, -, hc'⟩ := HV'.out.at hlt
      have c1 := fun u => hc _ (HX.out.trans (clip_ext wr u))
      have c2 := fun u => hc' _ (HX.out.trans (clip_ext wr u))
      clear hc hc'
      go_wp2
      refine wp_region_ext (by kernel_rfl) (by kernel_rfl) ?_
      repeat (go_big_quiet_step (fail))
      refine wpQuiet_nil ?_
      rintro _ ⟨u, rfl⟩
      go_wp2
      go_roundw
      case rel => exact ⟨k + 1, by omega, by go_num, HX.out.trans (clip_ext _ _)⟩
      case measure => simp [intOf]; omega
    · go_wp2
      go_ret
      exact ⟨rfl, HX.out⟩
end Go.Proofs.Ytpmammklklkheaa

/- The draw of items, tests, a number and answers. The condition: at most 2^20 bytes. -/
namespace Go.Proofs.Ytpmammklklkheaa
open Go.RowKit
open BigFrame

/-- Four results. -/
theorem four_results {fn : Func} {t u v x : Tmp} (h : fn.results = #[.tmp t, .tmp u, .tmp v, .tmp x]) (tmps : Array Value) (P : Program) (w : World) :
    (results fn tmps).run P w = .ok (.tuple #[tmps.getD t undef, tmps.getD u undef, tmps.getD v undef, tmps.getD x undef]) w := by
  simp [results, h]
end Go.Proofs.Ytpmammklklkheaa
