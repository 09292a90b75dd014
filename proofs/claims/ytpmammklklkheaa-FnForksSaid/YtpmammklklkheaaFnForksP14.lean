/- What the walk of FnForks rests on, part 14: plain facts, and contracts of the functions that it reaches. Each states its own condition. -/
import Derived.Test.YtpmammklklkheaaFnForksP8
import Derived.Test.YtpmammklklkheaaFnForksP9
import Derived.Test.YtpmammklklkheaaFnForksP13
/- Balls of a set tell one wrong node just for identifying codes; what is found is near: plain. No condition. -/
namespace Go.Proofs.Ytpmammklklkheaa

theorem pick_mem {g : List Int} {s k : Nat} {z : Int} : z ∈ pickTo g s k ↔ ∃ x, x < k ∧ s.testBit x = true ∧ z = ((ballN g x : Nat) : Int) := by
  unfold pickTo
  simp only [List.mem_map, List.mem_filter, List.mem_range]
  constructor
  · rintro ⟨x, ⟨h1, h2⟩, rfl⟩; exact ⟨x, h1, h2, rfl⟩
  · rintro ⟨x, h1, h2, rfl⟩; exact ⟨x, ⟨h1, h2⟩, rfl⟩
theorem gN_mem {l : List Int} {m : Nat} (hm : m < l.length) {b : Nat} (h : l[m] = ((b : Nat) : Int)) : gN l m = b := by
  unfold gN getI
  rw [List.getD_eq_getElem?_getD, List.getElem?_eq_getElem hm, Option.getD_some, h]
  rfl
theorem pick_rows {g : List Int} {s k : Nat} {P : Nat → Prop} : (∀ m, m < (pickTo g s k).length → P (gN (pickTo g s k) m)) ↔ ∀ x, x < k → s.testBit x = true → P (ballN g x) := by
  constructor
  · intro h x hx hs
    obtain ⟨m, hm, e⟩ := List.getElem_of_mem (pick_mem.2 ⟨x, hx, hs, rfl⟩)
    have := h m hm
    rw [gN_mem hm e] at this
    exact this
  · intro h m hm
    obtain ⟨x, hx, hs, e⟩ := pick_mem.1 (List.getElem_mem hm)
    rw [gN_mem hm e]
    exact h x hx hs
theorem answers_eq {tests : List Int} {a b : Nat} : answersOf tests a = answersOf tests b ↔ ∀ m, m < tests.length → (band (gN tests m) a ≠ 0 ↔ band (gN tests m) b ≠ 0) := by
  constructor
  · intro e m hm
    have h1 := answers_bit (tests := tests) (wrong := a) (j := m)
    have h2 := answers_bit (tests := tests) (wrong := b) (j := m)
    rw [e] at h1
    constructor
    · intro h; exact (h2.1 (h1.2 ⟨hm, h⟩)).2
    · intro h; exact (h1.1 (h2.2 ⟨hm, h⟩)).2
  · intro h
    apply Nat.eq_of_testBit_eq
    intro j
    rw [Bool.eq_iff_iff, answers_bit, answers_bit]
    constructor
    · rintro ⟨h1, h2⟩; exact ⟨h1, (h j h1).1 h2⟩
    · rintro ⟨h1, h2⟩; exact ⟨h1, (h j h1).2 h2⟩
theorem band_pow {x i : Nat} : band x (2 ^ i) ≠ 0 ↔ x.testBit i = true := by
  rw [band_ne]
  simp only [Nat.testBit_two_pow, decide_eq_true_eq]
  constructor
  · rintro ⟨j, h, rfl⟩; exact h
  · intro h; exact ⟨i, h, rfl⟩
theorem band_zero' (x : Nat) : band x 0 = 0 := by unfold band; exact Nat.and_zero x
theorem ball_sym {g : List Int} (hg : IsGraph g) (x y : Nat) : (ballN g x).testBit y = (ballN g y).testBit x := by
  unfold ballN
  rw [testBit_bor, testBit_bor, hg.sym x y, Nat.testBit_two_pow, Nat.testBit_two_pow]
  congr 1
  rw [Bool.eq_iff_iff, decide_eq_true_iff, decide_eq_true_iff]
  exact eq_comm
theorem mark_bit {g : List Int} (hg : IsGraph g) (s i x : Nat) : (markN g s i).testBit x = ((ballN g x).testBit i && s.testBit x) := by
  unfold markN
  rw [testBit_band, ball_sym hg]
/-- Equal answers for two nodes, equal marks. -/
theorem mark_eq {g : List Int} (hg : IsGraph g) {s i k : Nat} (hs : s < 2 ^ g.length) : markN g s i = markN g s k ↔ answersOf (pickTo g s g.length) (2 ^ i) = answersOf (pickTo g s g.length) (2 ^ k) := by
  rw [answers_eq, pick_rows (P := fun b => (band b (2 ^ i) ≠ 0 ↔ band b (2 ^ k) ≠ 0))]
  simp only [band_pow]
  constructor
  · intro e x hx hsx
    have := congrArg (fun z => Nat.testBit z x) e
    simp only [mark_bit hg, hsx, Bool.and_true] at this
    rw [this]
  · intro h
    apply Nat.eq_of_testBit_eq
    intro x
    rw [mark_bit hg, mark_bit hg]
    cases hsx : s.testBit x
    · simp
    · rw [Bool.and_true, Bool.and_true, Bool.eq_iff_iff]
      exact h x (bit_lt hs hsx) hsx
theorem mark_zero {g : List Int} (hg : IsGraph g) {s i : Nat} (hs : s < 2 ^ g.length) : markN g s i = 0 ↔ answersOf (pickTo g s g.length) (2 ^ i) = answersOf (pickTo g s g.length) 0 := by
  rw [answers_eq, pick_rows (P := fun b => (band b (2 ^ i) ≠ 0 ↔ band b 0 ≠ 0))]
  simp only [band_pow, band_zero']
  constructor
  · intro e x hx hsx
    have := congrArg (fun z => Nat.testBit z x) e
    simp only [mark_bit hg, hsx, Bool.and_true, Nat.zero_testBit] at this
    rw [this]
    simp
  · intro h
    apply Nat.eq_of_testBit_eq
    intro x
    rw [mark_bit hg, Nat.zero_testBit]
    cases hsx : s.testBit x
    · simp
    · rw [Bool.and_true]
      have := h x (bit_lt hs hsx) hsx
      cases hb : (ballN g x).testBit i
      · rfl
      · exact absurd rfl (this.1 hb)
theorem cnt_one_is {s n : Nat} (hn : n ≤ 12) (hs : s < 2 ^ n) (h : cnt s = 1) : ∃ i, i < n ∧ s = 2 ^ i := by
  have hp := pow_le_12 hn
  have h0 : s ≠ 0 := fun e => by rw [(cnt_zero (by omega)).2 e] at h; cases h
  obtain ⟨i, hi⟩ := ne_bit h0
  rw [Nat.zero_testBit, ne_eq, Bool.not_eq_false] at hi
  refine ⟨i, bit_lt hs hi, ?_⟩
  have h1 : band (2 ^ i) s = 2 ^ i := by
    apply Nat.eq_of_testBit_eq
    intro j
    simp only [testBit_band, Nat.testBit_two_pow]
    by_cases e : i = j
    · subst e; simp [hi]
    · simp [e]
  have := cnt_two_pow i (by have := bit_lt hs hi; omega)
  exact (sub_eq_of_cnt (by omega) h1 (by omega)).symm
theorem balls_tell {g : List Int} (hg : IsGraph g) {s : Nat} (hs : s < 2 ^ g.length) : tellsTo (pickTo g s g.length) 1 (2 ^ g.length) = kindN g 2 s := by
  have hl := hg.le
  have hp := pow_le_12 hl
  have hlt : ∀ i, i < g.length → 2 ^ i < 2 ^ g.length := fun i hi => Nat.pow_lt_pow_right (by omega) hi
  rw [Bool.eq_iff_iff, kind2_iff]
  constructor
  · intro h
    refine ⟨fun i hi e => ?_, fun i hi k hk e => ?_⟩
    · have := tells_inj h (hlt i hi) (Nat.two_pow_pos _) (by rw [cnt_two_pow i (by omega)]; exact Nat.le_refl _) (by decide) ((mark_zero hg hs).1 e)
      have := Nat.two_pow_pos i
      omega
    · have := tells_inj h (hlt i hi) (hlt k (by omega)) (by rw [cnt_two_pow i (by omega)]; exact Nat.le_refl _) (by rw [cnt_two_pow k (by omega)]; exact Nat.le_refl _) ((mark_eq hg hs).1 e)
      have h3 : 2 ^ k < 2 ^ i := Nat.pow_lt_pow_right (by omega) hk
      omega
  · rintro ⟨h1, h2⟩
    rw [tellsTo_iff]
    intro k hk ck j hj cj e
    have ck1 : cnt k = 1 := by
      have := mt (cnt_zero (s := k) (by omega)).1 (by omega)
      omega
    obtain ⟨i, hi, rfl⟩ := cnt_one_is hl hk ck1
    by_cases hj0 : j = 0
    · subst hj0
      exact h1 i hi ((mark_zero hg hs).2 e.symm)
    · have cj1 : cnt j = 1 := by
        have := mt (cnt_zero (s := j) (by omega)).1 hj0
        omega
      obtain ⟨i', hi', rfl⟩ := cnt_one_is hl (show j < 2 ^ g.length by omega) cj1
      have hlt' : i' < i := (Nat.pow_lt_pow_iff_right (by omega)).1 hj
      exact h2 i hi i' hlt' ((mark_eq hg hs).2 e.symm)
theorem cnt_range {s n : Nat} (hs : s < 2 ^ n) (hn : n ≤ 12) : (List.range n).countP (fun i => s.testBit i) = cnt s := by
  obtain ⟨d, hd⟩ : ∃ d, 12 = n + d := ⟨12 - n, by omega⟩
  unfold cnt
  rw [hd]
  clear hd hn
  induction d with
  | zero => rfl
  | succ d ih =>
    rw [ih, show n + (d + 1) = (n + d) + 1 from rfl, List.range_succ, List.countP_append]
    rw [show [n + d].countP (fun i => s.testBit i) = 0 from by simp [testBit_out hs (show n ≤ n + d by omega)]]
    rfl
theorem pick_size {g : List Int} {s : Nat} (hs : s < 2 ^ g.length) (hn : g.length ≤ 12) : (pickTo g s g.length).length = cnt s := by
  unfold pickTo
  rw [List.length_map, ← List.countP_eq_length_filter, cnt_range hs hn]
theorem pick_pool {g : List Int} (hg : IsGraph g) (s : Nat) : IsPool g.length (pickTo g s g.length) := by
  have h1 := pickTo_length g s g.length
  have hl := hg.le
  refine ⟨hg.pos, hl, by omega, fun i hi => ?_, fun i => ?_⟩
  · obtain ⟨x, hx, hsx, e⟩ := pick_mem.1 (List.getElem_mem hi)
    rw [gN_mem hi e]
    unfold getI
    rw [List.getD_eq_getElem?_getD, List.getElem?_eq_getElem hi, Option.getD_some, e]
  · by_cases hi : i < (pickTo g s g.length).length
    · obtain ⟨x, hx, hsx, e⟩ := pick_mem.1 (List.getElem_mem hi)
      rw [gN_mem hi e]
      exact ballN_lt hg hx
    · rw [gN_out (by omega)]; exact Nat.two_pow_pos _
/-- What the law about balls asks. -/
theorem balls_all {g : List Int} {s : Nat} : poolBalls g s = ([], false) ∨ ∃ (l : List Int) (T : Bool), poolBalls g s = (l, true) ∧ l.length ≤ 12 ∧ s ≤ 4095 ∧ l.length = cnt s ∧ poolTells (g.length : Int) l 1 = T ∧ codeIn g 2 s = T := by
  cases hc : fits g s
  · exact .inl (by unfold poolBalls; rw [hc]; rfl)
  · obtain ⟨k, hk, hG, hlt⟩ := fits_iff.1 hc
    obtain rfl : k = s := by omega
    have hl := hG.le
    have hp := pow_le_12 hl
    have h1 := pickTo_length g k g.length
    refine .inr ⟨pickTo g k g.length, kindN g 2 k, by unfold poolBalls; rw [hc]; rfl, by omega, by omega, pick_size hlt hl, ?_, ?_⟩
    · unfold poolTells
      rw [poolIn_iff.2 ⟨_, rfl, pick_pool hG k⟩]
      exact balls_tell hG hlt
    · unfold codeIn
      rw [graphIn_iff.2 hG, setB_iff.2 ⟨k, rfl, hlt⟩]
      rfl

/-! ### What is found is near -/
theorem bears_iff {g : List Int} {s t : Nat} : bearsN g s t = true ↔ ∀ i, i < g.length → 2 * t + 1 ≤ cnt (markN g s i) ∧ ∀ k, k < i → 2 * t + 1 ≤ cnt (bxor (markN g s i) (markN g s k)) := by
  unfold bearsN bearRow bearP
  simp only [List.all_eq_true, List.mem_range, Bool.and_eq_true, decide_eq_true_eq]
theorem cnt_tri (a b c : Nat) : cnt (bxor a c) ≤ cnt (bxor a b) + cnt (bxor b c) := by
  refine Nat.le_trans (cnt_le_of_sub ?_) (cnt_bor (bxor a b) (bxor b c))
  apply Nat.eq_of_testBit_eq
  intro i
  simp only [testBit_band, testBit_bor, testBit_bxor]
  cases a.testBit i <;> cases b.testBit i <;> cases c.testBit i <;> rfl
theorem bxor_swap (a b : Nat) : bxor a b = bxor b a := Nat.xor_comm a b
theorem bxor_zero' (a : Nat) : bxor a 0 = a := Nat.xor_zero a
theorem sensor_parts {g : List Int} {s t : Int} : sensorIn g s t = true ↔ ∃ k y : Nat, s = k ∧ t = y ∧ IsGraph g ∧ k < 2 ^ g.length ∧ y ≤ 4 ∧ bearsN g k y = true := by
  unfold sensorIn
  rw [Bool.and_eq_true, Bool.and_eq_true, fits_iff, inB_iff]
  constructor
  · rintro ⟨⟨⟨k, rfl, hG, hk⟩, h1, h2⟩, h3⟩
    exact ⟨k, t.toNat, rfl, by omega, hG, hk, by omega, h3⟩
  · rintro ⟨k, y, rfl, rfl, hG, hk, hy, hb⟩
    exact ⟨⟨⟨k, rfl, hG, hk⟩, by omega, by omega⟩, hb⟩
theorem bxor_lt_sub {a b s : Nat} (ha : band a s = a) (hb : band b s = b) : without (bxor a b) s = 0 := without_zero.2 (band_self_sub ha hb)
/-- A set near a node's mark finds that node. -/
theorem find_near {g : List Int} {s t al i : Nat} (h : sensorIn g s t = true) (hi : i < g.length) (ha : without al s = 0) (hn : cnt (bxor (markN g s i) al) ≤ t) : sensorFind g s t al = (((i : Nat) : Int), true) := by
  obtain ⟨k, y, hk, hy, hG, hlt, hy4, hb⟩ := sensor_parts.1 h
  obtain rfl : s = k := by omega
  obtain rfl : t = y := by omega
  have hB := bears_iff.1 hb
  unfold sensorFind
  rw [h, show decide ((0 : Int) ≤ (al : Int)) = true from by rw [decide_eq_true_iff]; omega]
  rw [show (without ((al : Int)).toNat ((s : Int)).toNat == 0) = true from by rw [beq_iff_eq]; exact ha]
  rw [if_pos (by rfl)]
  have h1 := cnt_tri (markN g s i) al 0
  rw [bxor_zero', bxor_zero'] at h1
  have h2 := (hB i hi).1
  rw [if_neg (show ¬ cnt ((al : Int)).toNat ≤ ((t : Int)).toNat from by show ¬ cnt al ≤ t; omega)]
  refine leastP_some hi (fun j hj => ?_) ?_
  · have h3 := (hB i hi).2 j hj
    have h4 := cnt_tri (markN g s i) al (markN g s j)
    rw [bxor_swap al] at h4
    show decide (cnt (bxor (markN g s j) al) ≤ t) = false
    rw [decide_eq_false_iff_not]
    omega
  · show decide (cnt (bxor (markN g s i) al) ≤ t) = true
    rw [decide_eq_true_iff]
    exact hn
theorem find_none {g : List Int} {s t : Nat} (h : sensorIn g s t = true) : sensorFind g s t 0 = (-1, true) := by
  unfold sensorFind
  rw [h, show (without ((0 : Int)).toNat ((s : Int)).toNat == 0) = true from by rw [beq_iff_eq]; show without 0 s = 0; rw [without_zero]; unfold band; exact Nat.zero_and s]
  rw [if_pos (by rfl), if_pos (by show cnt 0 ≤ t; rw [show cnt 0 = 0 from by decide]; omega)]
theorem apart_le {a b t : Nat} (h : cnt (bxor a b) ≤ t) : apart a b ≤ (t : Int) := by
  unfold apart
  split
  · show ((cnt (bxor a b) : Nat) : Int) ≤ _
    omega
  · omega
theorem leastP_has {p : Nat → Bool} {N : Nat} {x : Int} (h : leastP p N = (x, true)) : ∃ i : Nat, x = i ∧ i < N ∧ p i = true := by
  unfold leastP at h
  split at h
  · rename_i k hk
    have h1 := List.find?_some hk
    have h2 := List.mem_of_find?_eq_some hk
    simp only [Prod.mk.injEq] at h
    exact ⟨k, h.1.symm, List.mem_range.1 h2, h1⟩
  · cases h
/-- What the law about found nodes asks. -/
theorem find_all {g : List Int} {s t al : Int} : (∃ z, sensorFind g s t al = (z, false)) ∨ ∃ k y A : Nat, s = k ∧ t = y ∧ al = A ∧ IsGraph g ∧ k < 2 ^ g.length ∧ y ≤ 4 ∧ A ≤ 4095 ∧
    ((sensorFind g (k : Int) (y : Int) (A : Int) = (-1, true) ∧ apart 0 (A : Int) ≤ (y : Int)) ∨ ∃ x M : Nat, x < g.length ∧ M ≤ 4095 ∧ M = markN g k x ∧ sensorFind g (k : Int) (y : Int) (A : Int) = (((x : Nat) : Int), true) ∧ apart (M : Int) (A : Int) ≤ (y : Int)) := by
  cases hc : sensorIn g s t && decide (0 ≤ al) && (without al.toNat s.toNat == 0)
  · refine .inl ⟨0, ?_⟩
    unfold sensorFind
    rw [hc]; rfl
  · have hc' := hc
    rw [Bool.and_eq_true, Bool.and_eq_true, decide_eq_true_iff, beq_iff_eq] at hc'
    obtain ⟨⟨h1, h2⟩, h3⟩ := hc'
    obtain ⟨k, y, rfl, rfl, hG, hlt, hy4, hb⟩ := sensor_parts.1 h1
    obtain ⟨A, rfl⟩ : ∃ A : Nat, al = A := ⟨al.toNat, by omega⟩
    have hp := pow_le_12 hG.le
    have hA : A ≤ k := sub_le (show without A k = 0 from h3)
    by_cases hn : cnt A ≤ y
    · refine .inr ⟨k, y, A, rfl, rfl, rfl, hG, hlt, hy4, by omega, .inl ⟨?_, ?_⟩⟩
      · unfold sensorFind
        rw [hc, if_pos rfl, if_pos (show cnt ((A : Int)).toNat ≤ ((y : Int)).toNat from hn)]
      · refine apart_le (a := 0) ?_
        rw [bxor_swap, bxor_zero']; exact hn
    · have e : sensorFind g k y A = leastP (nearP g k y A) g.length := by
        unfold sensorFind
        rw [hc, if_pos rfl, if_neg (show ¬ cnt ((A : Int)).toNat ≤ ((y : Int)).toNat from hn)]
        rfl
      cases hL : leastP (nearP g k y A) g.length with
      | mk z b =>
        cases b
        · exact .inl ⟨z, e.trans hL⟩
        · obtain ⟨i, rfl, hi, hni⟩ := leastP_has hL
          refine .inr ⟨k, y, A, rfl, rfl, rfl, hG, hlt, hy4, by omega, .inr ⟨i, markN g k i, hi, markN_small hG hi k, rfl, e.trans hL, apart_le ?_⟩⟩
          unfold nearP at hni
          rw [decide_eq_true_iff] at hni
          exact hni
end Go.Proofs.Ytpmammklklkheaa

/- Least numbers grow with what is asked; with an identifying code its nodes are questions enough: plain. No condition. -/
namespace Go.Proofs.Ytpmammklklkheaa

theorem lo_none_no {p : Nat → Bool} : ∀ k, lo p k = none → ∀ j, j < k → p j = false
  | 0, _, j, hj => absurd hj (Nat.not_lt_zero j)
  | k + 1, h, j, hj => by
    cases h1 : lo p k with
    | some b => rw [lo_some h1] at h; split at h <;> cases h
    | none =>
      rw [lo_none h1] at h
      by_cases e : j = k
      · subst e
        cases hp : p j
        · rfl
        · rw [hp] at h; cases h
      · exact lo_none_no k h1 j (by omega)
theorem lo_some_is {p : Nat → Bool} : ∀ k b, lo p k = some b → p b = true ∧ ∀ j, j < k → p j = true → cnt b ≤ cnt j
  | 0, b, h => by cases h
  | k + 1, b, h => by
    cases h1 : lo p k with
    | some c =>
      obtain ⟨i1, i2⟩ := lo_some_is k c h1
      rw [lo_some h1] at h
      split at h
      · rename_i hc
        cases h
        rw [Bool.and_eq_true, decide_eq_true_iff] at hc
        refine ⟨hc.2, fun j hj hpj => ?_⟩
        by_cases e : j = k
        · subst e; exact Nat.le_refl _
        · have := i2 j (by omega) hpj; omega
      · rename_i hc
        cases h
        refine ⟨i1, fun j hj hpj => ?_⟩
        by_cases e : j = k
        · subst e
          rw [hpj, Bool.and_true, decide_eq_true_iff] at hc
          omega
        · exact i2 j (by omega) hpj
    | none =>
      have hn := lo_none_no k h1
      rw [lo_none h1] at h
      split at h
      · rename_i hc
        cases h
        refine ⟨hc, fun j hj hpj => ?_⟩
        by_cases e : j = k
        · subst e; exact Nat.le_refl _
        · rw [hn j (by omega)] at hpj; cases hpj
      · cases h
theorem lo_has {p : Nat → Bool} {k j : Nat} (hj : j < k) (hp : p j = true) : ∃ b, lo p k = some b ∧ b < k ∧ p b = true ∧ cnt b ≤ cnt j := by
  cases h : lo p k with
  | none => rw [lo_none_no k h j hj] at hp; cases hp
  | some b => exact ⟨b, rfl, lo_lt k b h, (lo_some_is k b h).1, (lo_some_is k b h).2 j hj hp⟩
theorem least_of {g : List Int} (hg : IsGraph g) {K b : Nat} (hK : K ≤ 3) (h : lo (kindN g K) (2 ^ g.length) = some b) : leastNumber g (K : Int) = (((cnt b : Nat) : Int), true) := by
  have e : codeLeast g (K : Int) = (((b : Nat) : Int), true) := by
    unfold codeLeast
    rw [graphIn_iff.2 hg, show inB 0 (K : Int) 3 = true from inB_iff.2 ⟨by omega, by omega⟩]
    show loP (lo (kindN g K) (2 ^ g.length)) = _
    rw [h]; rfl
  unfold leastNumber
  rw [e]
  rfl
theorem full_bit {n i : Nat} (h : i < n) : (2 ^ n - 1).testBit i = true := by
  rw [Nat.testBit_two_pow_sub_one, decide_eq_true_iff]; exact h
theorem ball_self (g : List Int) (i : Nat) : (ballN g i).testBit i = true := by
  unfold ballN
  rw [testBit_bor, Nat.testBit_two_pow, decide_eq_true rfl, Bool.or_true]
theorem resN_iff {g : List Int} {s : Nat} : resN g s = true ↔ ∀ i, i < g.length → ∀ k, k < i → ∃ c, c < g.length ∧ s.testBit c = true ∧ dd g i c ≠ dd g k c := by
  unfold resN resRow resP farP
  simp only [List.all_eq_true, List.any_eq_true, List.mem_range, Bool.and_eq_true, decide_eq_true_eq]
theorem dd_one {g : List Int} (hg : IsGraph g) {x y : Nat} (h : x ≠ y) : dd g x y = 1 ↔ (gN g x).testBit y = true := by
  have h0 : 0 < dd g x y := by
    have := mt (dd_zero hg (x := x) (y := y)).1 (fun e => h e.symm)
    omega
  rw [dd_step hg (show 0 ≤ 10 by omega) h0]
  constructor
  · rintro ⟨z, h1, h2⟩
    rw [dd_zero hg] at h1
    subst h1
    exact h2
  · intro h2
    exact ⟨x, (dd_zero hg).2 rfl, h2⟩
theorem apartF_iff {g : List Int} {s : Nat} : apartN g s false = true ↔ ∀ i, i < g.length → ∀ k, k < i → s.testBit i = false → s.testBit k = false → markN g s i ≠ markN g s k := by
  unfold apartN apartRow sameP
  simp only [List.all_eq_true, List.mem_range, Bool.false_or, Bool.not_eq_true', Bool.and_eq_false_iff, decide_eq_false_iff_not, Bool.not_eq_false']
  constructor
  · intro h i hi k hk h1 h2
    rcases h i hi k hk with h3 | h3
    · rcases h3 with h3 | h3
      · rw [h1] at h3; cases h3
      · rw [h2] at h3; cases h3
    · exact h3
  · intro h i hi k hk
    cases h1 : s.testBit i
    · cases h2 : s.testBit k
      · exact .inr (h i hi k hk h1 h2)
      · exact .inl (.inr rfl)
    · exact .inl (.inl rfl)
theorem kind1_iff {g : List Int} {s : Nat} : kindN g 1 s = true ↔ covN g s = true ∧ apartN g s false = true := by
  unfold kindN
  rw [if_neg (by decide), if_pos rfl, Bool.and_eq_true]
theorem kind3_eq {g : List Int} {s : Nat} : kindN g 3 s = resN g s := by
  unfold kindN
  rw [if_neg (by decide), if_neg (by decide), if_neg (by decide)]
theorem kind0_eq {g : List Int} {s : Nat} : kindN g 0 s = covN g s := by
  unfold kindN
  rw [if_pos rfl]
theorem kind_two_one {g : List Int} {s : Nat} (h : kindN g 2 s = true) : kindN g 1 s = true := by
  obtain ⟨h1, h2⟩ := kind2_iff.1 h
  exact kind1_iff.2 ⟨covN_iff.2 h1, apartF_iff.2 fun i hi k hk _ _ => h2 i hi k hk⟩
/-- Locating codes are resolving. -/
theorem kind_one_three {g : List Int} (hg : IsGraph g) {s : Nat} (hs : s < 2 ^ g.length) (h : kindN g 1 s = true) : kindN g 3 s = true := by
  obtain ⟨-, h2⟩ := kind1_iff.1 h
  have h2 := apartF_iff.1 h2
  rw [kind3_eq, resN_iff]
  intro i hi k hk
  have hz : ∀ x, dd g x x = 0 := fun x => (dd_zero hg).2 rfl
  cases h3 : s.testBit i
  · cases h4 : s.testBit k
    · obtain ⟨c, hc⟩ := ne_bit (h2 i hi k hk h3 h4)
      rw [mark_bit hg, mark_bit hg, ball_sym hg c i, ball_sym hg c k] at hc
      have hsc : s.testBit c = true := by
        cases e : s.testBit c
        · rw [e] at hc; simp at hc
        · rfl
      rw [hsc, Bool.and_true, Bool.and_true] at hc
      have hci : i ≠ c := fun e => by rw [e, hsc] at h3; cases h3
      have hck : k ≠ c := fun e => by rw [e, hsc] at h4; cases h4
      have f : ∀ x, x ≠ c → ((ballN g x).testBit c = true ↔ dd g x c = 1) := fun x hx => by
        rw [dd_one hg hx]
        unfold ballN
        rw [testBit_bor, Nat.testBit_two_pow, decide_eq_false hx, Bool.or_false]
      refine ⟨c, bit_lt hs hsc, hsc, fun e => hc ?_⟩
      rw [Bool.eq_iff_iff, f i hci, f k hck, e]
    · refine ⟨k, by omega, h4, fun e => ?_⟩
      rw [hz] at e
      have := (dd_zero hg).1 e
      omega
  · refine ⟨i, hi, h3, fun e => ?_⟩
    rw [hz] at e
    have := (dd_zero hg).1 e.symm
    omega
theorem full_one {g : List Int} (hg : IsGraph g) : kindN g 1 (2 ^ g.length - 1) = true := by
  refine kind1_iff.2 ⟨covN_iff.2 fun i hi e => ?_, apartF_iff.2 fun i hi k hk h1 _ => ?_⟩
  · have := mark_bit hg (2 ^ g.length - 1) i i
    rw [e, ball_self, full_bit hi, Nat.zero_testBit] at this
    cases this
  · rw [full_bit hi] at h1; cases h1
/-- What the law about least numbers asks. -/
theorem least_all {g : List Int} {K : Nat} : leastNumber g (K : Int) = (0, false) ∨ ∃ o a b c : Nat, o ≤ 12 ∧ a ≤ 12 ∧ b ≤ 12 ∧ c ≤ 12 ∧ K ≤ 3 ∧ leastNumber g (K : Int) = (((o : Nat) : Int), true) ∧ leastNumber g 0 = (((a : Nat) : Int), true) ∧ leastNumber g 1 = (((b : Nat) : Int), true) ∧ leastNumber g 3 = (((c : Nat) : Int), true) ∧ a ≤ b ∧ c ≤ b ∧ (K = 2 → b ≤ o) := by
  cases hc : graphIn g && inB 0 (K : Int) 3
  · refine .inl ?_
    unfold leastNumber codeLeast
    rw [hc]; rfl
  · have hc' := hc
    rw [Bool.and_eq_true] at hc'
    have hG := graphIn_iff.1 hc'.1
    have hK : K ≤ 3 := by have := inB_iff.1 hc'.2; omega
    have hfull : 2 ^ g.length - 1 < 2 ^ g.length := by have := Nat.two_pow_pos g.length; omega
    have f1 := full_one hG
    obtain ⟨b, hb, hbl, hbp, -⟩ := lo_has hfull f1
    obtain ⟨a, ha, hal, -, hac⟩ := lo_has (p := kindN g 0) hbl (by rw [kind0_eq]; exact (kind1_iff.1 hbp).1)
    obtain ⟨c, hcc, hcl, -, hcb⟩ := lo_has (p := kindN g 3) hbl (kind_one_three hG hbl hbp)
    cases ho : lo (kindN g K) (2 ^ g.length) with
    | none =>
      refine .inl ?_
      have e : codeLeast g (K : Int) = (0, false) := by
        unfold codeLeast
        rw [hc]
        show loP (lo (kindN g K) (2 ^ g.length)) = _
        rw [ho]; rfl
      unfold leastNumber
      rw [e]; rfl
    | some o =>
      have hol := lo_lt _ _ ho
      refine .inr ⟨cnt o, cnt a, cnt b, cnt c, cnt_le _, cnt_le _, cnt_le _, cnt_le _, hK, least_of hG hK ho, least_of (K := 0) hG (by omega) ha, least_of (K := 1) hG (by omega) hb, least_of (K := 3) hG (by omega) hcc, hac, hcb, ?_⟩
      rintro rfl
      exact (lo_some_is _ _ hb).2 o hol (kind_two_one (lo_some_is _ _ ho).1)

/-! ### Questions -/
theorem tell_some {g : List Int} {s x i k : Nat} (hi : s.testBit i = true) (hk : s.testBit k = true) (h : (ballN g x).testBit i ≠ (ballN g x).testBit k) : tells g s x = true := by
  have h1 : ∀ a b, s.testBit a = true → s.testBit b = true → (ballN g x).testBit a = true → (ballN g x).testBit b = false → tells g s x = true := fun a b ha hb h2 h3 => by
    refine tells_iff.2 ⟨fun e => ?_, fun e => ?_⟩
    · have := congrArg (fun z => Nat.testBit z a) e
      unfold qIn at this
      simp only [testBit_band, ha, h2, Nat.zero_testBit] at this
      cases this
    · have := congrArg (fun z => Nat.testBit z b) e
      unfold qIn at this
      simp only [testBit_band, hb, h3] at this
      cases this
  cases e1 : (ballN g x).testBit i
  · cases e2 : (ballN g x).testBit k
    · rw [e1, e2] at h; exact absurd rfl h
    · exact h1 k i hk hi e2 e1
  · cases e2 : (ballN g x).testBit k
    · exact h1 i k hi hk e1 e2
    · rw [e1, e2] at h; exact absurd rfl h
theorem two_of {s : Nat} (hs : s ≤ 4095) (h : band s (s - 1) ≠ 0) : ∃ i k, i ≠ k ∧ s.testBit i = true ∧ s.testBit k = true := by
  have hc : ¬ cnt s ≤ 1 := fun h1 => h ((one_iff hs).2 h1)
  have h0 : s ≠ 0 := fun e => by rw [(cnt_zero hs).2 e] at hc; omega
  obtain ⟨i, hi⟩ := ne_bit h0
  rw [Nat.zero_testBit, ne_eq, Bool.not_eq_false] at hi
  have hs12 : s < 2 ^ 12 := by omega
  have hi12 := bit_lt hs12 hi
  have hne : s ≠ 2 ^ i := fun e => by rw [e, cnt_two_pow i hi12] at hc; omega
  obtain ⟨k, hk⟩ := ne_bit hne
  rw [Nat.testBit_two_pow] at hk
  by_cases e : i = k
  · subst e
    rw [hi, decide_eq_true rfl] at hk
    exact absurd rfl hk
  · rw [decide_eq_false e, ne_eq, Bool.not_eq_false] at hk
    exact ⟨i, k, e, hi, hk⟩
theorem cnt_drop {s x : Nat} (hx : x < 12) (h : s.testBit x = true) : cnt (without s (2 ^ x)) + 1 = cnt s := by
  have h1 := cnt_split s (2 ^ x)
  have e : band s (2 ^ x) = 2 ^ x := by
    apply Nat.eq_of_testBit_eq
    intro j
    simp only [testBit_band, Nat.testBit_two_pow]
    by_cases e : x = j
    · subst e; simp [h]
    · simp [e]
  rw [e, cnt_two_pow x hx] at h1
  omega
/-- If the balls of a set C tell all nodes of s from one another, as many questions as C has nodes are enough. -/
theorem dep_code {g : List Int} (hn : g.length ≤ 12) : ∀ n s C : Nat, cnt C ≤ n → s ≤ 4095 → C < 2 ^ g.length → (∀ i k, i ≠ k → s.testBit i = true → s.testBit k = true → ∃ x, C.testBit x = true ∧ (ballN g x).testBit i ≠ (ballN g x).testBit k) → dep g s ≤ n
  | n, s, C, hc, hs, hC, h => by
    by_cases h1 : band s (s - 1) = 0
    · rw [dep_one h1]; omega
    · obtain ⟨i, k, hik, hi, hk⟩ := two_of hs h1
      obtain ⟨x, hx, hxb⟩ := h i k hik hi hk
      have hxl := bit_lt hC hx
      have ht := tell_some hi hk hxb
      have hdrop := cnt_drop (show x < 12 by omega) hx
      cases n with
      | zero => omega
      | succ n =>
        have ht' := tells_iff.1 ht
        have q1 := qIn_lt ht'.2
        have q2 := qOut_lt ht'.1
        have hC' : without C (2 ^ x) < 2 ^ g.length := without_lt hC
        have step : ∀ t, t ≤ 4095 → (∀ i k, t.testBit i = true → t.testBit k = true → s.testBit i = true ∧ s.testBit k = true ∧ (ballN g x).testBit i = (ballN g x).testBit k) → dep g t ≤ n := fun t ht4 hsub => by
          refine dep_code hn n t (without C (2 ^ x)) (by omega) ht4 hC' fun a b hab ha hb => ?_
          obtain ⟨sa, sb, e⟩ := hsub a b ha hb
          obtain ⟨y, hy, hyb⟩ := h a b hab sa sb
          refine ⟨y, ?_, hyb⟩
          rw [testBit_without, hy, Nat.testBit_two_pow, decide_eq_false (fun e' => hyb (by rw [← e', e]))]
          rfl
        have d1 := step (qIn g s x) (by omega) fun a b ha hb => by
          unfold qIn at ha hb
          rw [testBit_band, Bool.and_eq_true] at ha hb
          exact ⟨ha.1, hb.1, by rw [ha.2, hb.2]⟩
        have d2 := step (without s (qIn g s x)) (by omega) fun a b ha hb => by
          rw [qIn_without, testBit_without, Bool.and_eq_true, Bool.not_eq_true'] at ha hb
          exact ⟨ha.1, hb.1, by rw [ha.2, hb.2]⟩
        rw [dep_more h1]
        have := minTo_at (f := depAt g s) hxl
        unfold depTo
        have e : depAt g s x = 1 + max (dep g (qIn g s x)) (dep g (without s (qIn g s x))) := by unfold depAt; rw [if_pos ht]
        omega
theorem dep_least {g : List Int} (hg : IsGraph g) {s C : Nat} (hs : s < 2 ^ g.length) (hC : C < 2 ^ g.length) (h : kindN g 2 C = true) : dep g s ≤ cnt C := by
  have hl := hg.le
  have hp := pow_le_12 hl
  obtain ⟨-, h2⟩ := kind2_iff.1 h
  refine dep_code hl (cnt C) s C (Nat.le_refl _) (by omega) hC fun i k hik hi hk => ?_
  have hne : markN g C i ≠ markN g C k := by
    rcases Nat.lt_or_ge k i with h3 | h3
    · exact h2 i (bit_lt hs hi) k h3
    · exact fun e => h2 k (bit_lt hs hk) i (by omega) e.symm
  obtain ⟨x, hx⟩ := ne_bit hne
  rw [mark_bit hg, mark_bit hg] at hx
  cases e : C.testBit x
  · rw [e] at hx; simp at hx
  · rw [e, Bool.and_true, Bool.and_true] at hx
    exact ⟨x, e, hx⟩
end Go.Proofs.Ytpmammklklkheaa
