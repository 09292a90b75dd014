/- What the walks of this seat rest on, one part: plain facts, and contracts of the functions that they reach. Each states its own condition. -/
import Derived.Test.YtkmfmhckpfomeaaGreatDoorB15
set_option linter.all false
set_option linter.unusedSimpArgs false
set_option linter.unusedVariables false
/- Least numbers grow with what is asked; with an identifying code its nodes are questions enough: plain. No condition. -/
namespace Go.Proofs.YtkmfmhckpfomeaaGreatDoor

theorem lo_none_no {p : Nat → Bool} : ∀ k, lo p k = none → ∀ j, j < k → p j = false
  | 0, _, j, hj => absurd hj (Nat.not_lt_zero j)
  | k + 1, h, j, hj => by
    cases h1 : lo p k with
    | some b => rw [lo_some h1] at h; split at h <;> cases h
    | none =>
      rw [lo_none h1] at h
      by_cases e : j = k
      · subst e
        cases hp : p j
        · rfl
        · rw [hp] at h; cases h
      · exact lo_none_no k h1 j (by omega)
theorem lo_some_is {p : Nat → Bool} : ∀ k b, lo p k = some b → p b = true ∧ ∀ j, j < k → p j = true → cnt b ≤ cnt j
  | 0, b, h => by cases h
  | k + 1, b, h => by
    cases h1 : lo p k with
    | some c =>
      obtain ⟨i1, i2⟩ := lo_some_is k c h1
      rw [lo_some h1] at h
      split at h
      · rename_i hc
        cases h
        rw [Bool.and_eq_true, decide_eq_true_iff] at hc
        refine ⟨hc.2, fun j hj hpj => ?_⟩
        by_cases e : j = k
        · subst e; exact Nat.le_refl _
        · have := i2 j (by omega) hpj; omega
      · rename_i hc
        cases h
        refine ⟨i1, fun j hj hpj => ?_⟩
        by_cases e : j = k
        · subst e
          rw [hpj, Bool.and_true, decide_eq_true_iff] at hc
          omega
        · exact i2 j (by omega) hpj
    | none =>
      have hn := lo_none_no k h1
      rw [lo_none h1] at h
      split at h
      · rename_i hc
        cases h
        refine ⟨hc, fun j hj hpj => ?_⟩
        by_cases e : j = k
        · subst e; exact Nat.le_refl _
        · rw [hn j (by omega)] at hpj; cases hpj
      · cases h
theorem lo_has {p : Nat → Bool} {k j : Nat} (hj : j < k) (hp : p j = true) : ∃ b, lo p k = some b ∧ b < k ∧ p b = true ∧ cnt b ≤ cnt j := by
  cases h : lo p k with
  | none => rw [lo_none_no k h j hj] at hp; cases hp
  | some b => exact ⟨b, rfl, lo_lt k b h, (lo_some_is k b h).1, (lo_some_is k b h).2 j hj hp⟩
theorem least_of {g : List Int} (hg : IsGraph g) {K b : Nat} (hK : K ≤ 3) (h : lo (kindN g K) (2 ^ g.length) = some b) : leastNumber g (K : Int) = (((cnt b : Nat) : Int), true) := by
  have e : codeLeast g (K : Int) = (((b : Nat) : Int), true) := by
    unfold codeLeast
    rw [graphIn_iff.2 hg, show inB 0 (K : Int) 3 = true from inB_iff.2 ⟨by omega, by omega⟩]
    show loP (lo (kindN g K) (2 ^ g.length)) = _
    rw [h]; rfl
  unfold leastNumber
  rw [e]
  rfl
theorem full_bit {n i : Nat} (h : i < n) : (2 ^ n - 1).testBit i = true := by
  rw [Nat.testBit_two_pow_sub_one, decide_eq_true_iff]; exact h
theorem ball_self (g : List Int) (i : Nat) : (ballN g i).testBit i = true := by
  unfold ballN
  rw [testBit_bor, Nat.testBit_two_pow, decide_eq_true rfl, Bool.or_true]
theorem resN_iff {g : List Int} {s : Nat} : resN g s = true ↔ ∀ i, i < g.length → ∀ k, k < i → ∃ c, c < g.length ∧ s.testBit c = true ∧ dd g i c ≠ dd g k c := by
  unfold resN resRow resP farP
  simp only [List.all_eq_true, List.any_eq_true, List.mem_range, Bool.and_eq_true, decide_eq_true_eq]
theorem dd_one {g : List Int} (hg : IsGraph g) {x y : Nat} (h : x ≠ y) : dd g x y = 1 ↔ (gN g x).testBit y = true := by
  have h0 : 0 < dd g x y := by
    have := mt (dd_zero hg (x := x) (y := y)).1 (fun e => h e.symm)
    omega
  rw [dd_step hg (show 0 ≤ 10 by omega) h0]
  constructor
  · rintro ⟨z, h1, h2⟩
    rw [dd_zero hg] at h1
    subst h1
    exact h2
  · intro h2
    exact ⟨x, (dd_zero hg).2 rfl, h2⟩
theorem apartF_iff {g : List Int} {s : Nat} : apartN g s false = true ↔ ∀ i, i < g.length → ∀ k, k < i → s.testBit i = false → s.testBit k = false → markN g s i ≠ markN g s k := by
  unfold apartN apartRow sameP
  simp only [List.all_eq_true, List.mem_range, Bool.false_or, Bool.not_eq_true', Bool.and_eq_false_iff, decide_eq_false_iff_not, Bool.not_eq_false']
  constructor
  · intro h i hi k hk h1 h2
    rcases h i hi k hk with h3 | h3
    · rcases h3 with h3 | h3
      · rw [h1] at h3; cases h3
      · rw [h2] at h3; cases h3
    · exact h3
  · intro h i hi k hk
    cases h1 : s.testBit i
    · cases h2 : s.testBit k
      · exact .inr (h i hi k hk h1 h2)
      · exact .inl (.inr rfl)
    · exact .inl (.inl rfl)
theorem kind1_iff {g : List Int} {s : Nat} : kindN g 1 s = true ↔ covN g s = true ∧ apartN g s false = true := by
  unfold kindN
  rw [if_neg (by decide), if_pos rfl, Bool.and_eq_true]
theorem kind3_eq {g : List Int} {s : Nat} : kindN g 3 s = resN g s := by
  unfold kindN
  rw [if_neg (by decide), if_neg (by decide), if_neg (by decide)]
theorem kind0_eq {g : List Int} {s : Nat} : kindN g 0 s = covN g s := by
  unfold kindN
  rw [if_pos rfl]
theorem kind_two_one {g : List Int} {s : Nat} (h : kindN g 2 s = true) : kindN g 1 s = true := by
  obtain ⟨h1, h2⟩ := kind2_iff.1 h
  exact kind1_iff.2 ⟨covN_iff.2 h1, apartF_iff.2 fun i hi k hk _ _ => h2 i hi k hk⟩
/-- Locating codes are resolving. -/
theorem kind_one_three {g : List Int} (hg : IsGraph g) {s : Nat} (hs : s < 2 ^ g.length) (h : kindN g 1 s = true) : kindN g 3 s = true := by
  obtain ⟨-, h2⟩ := kind1_iff.1 h
  have h2 := apartF_iff.1 h2
  rw [kind3_eq, resN_iff]
  intro i hi k hk
  have hz : ∀ x, dd g x x = 0 := fun x => (dd_zero hg).2 rfl
  cases h3 : s.testBit i
  · cases h4 : s.testBit k
    · obtain ⟨c, hc⟩ := ne_bit (h2 i hi k hk h3 h4)
      rw [mark_bit hg, mark_bit hg, ball_sym hg c i, ball_sym hg c k] at hc
      have hsc : s.testBit c = true := by
        cases e : s.testBit c
        · rw [e] at hc; simp at hc
        · rfl
      rw [hsc, Bool.and_true, Bool.and_true] at hc
      have hci : i ≠ c := fun e => by rw [e, hsc] at h3; cases h3
      have hck : k ≠ c := fun e => by rw [e, hsc] at h4; cases h4
      have f : ∀ x, x ≠ c → ((ballN g x).testBit c = true ↔ dd g x c = 1) := fun x hx => by
        rw [dd_one hg hx]
        unfold ballN
        rw [testBit_bor, Nat.testBit_two_pow, decide_eq_false hx, Bool.or_false]
      refine ⟨c, bit_lt hs hsc, hsc, fun e => hc ?_⟩
      rw [Bool.eq_iff_iff, f i hci, f k hck, e]
    · refine ⟨k, by omega, h4, fun e => ?_⟩
      rw [hz] at e
      have := (dd_zero hg).1 e
      omega
  · refine ⟨i, hi, h3, fun e => ?_⟩
    rw [hz] at e
    have := (dd_zero hg).1 e.symm
    omega
theorem full_one {g : List Int} (hg : IsGraph g) : kindN g 1 (2 ^ g.length - 1) = true := by
  refine kind1_iff.2 ⟨covN_iff.2 fun i hi e => ?_, apartF_iff.2 fun i hi k hk h1 _ => ?_⟩
  · have := mark_bit hg (2 ^ g.length - 1) i i
    rw [e, ball_self, full_bit hi, Nat.zero_testBit] at this
    cases this
  · rw [full_bit hi] at h1; cases h1
/-- What the law about least numbers asks. -/
theorem least_all {g : List Int} {K : Nat} : leastNumber g (K : Int) = (0, false) ∨ ∃ o a b c : Nat, o ≤ 12 ∧ a ≤ 12 ∧ b ≤ 12 ∧ c ≤ 12 ∧ K ≤ 3 ∧ leastNumber g (K : Int) = (((o : Nat) : Int), true) ∧ leastNumber g 0 = (((a : Nat) : Int), true) ∧ leastNumber g 1 = (((b : Nat) : Int), true) ∧ leastNumber g 3 = (((c : Nat) : Int), true) ∧ a ≤ b ∧ c ≤ b ∧ (K = 2 → b ≤ o) := by
  cases hc : graphIn g && inB 0 (K : Int) 3
  · refine .inl ?_
    unfold leastNumber codeLeast
    rw [hc]; rfl
  · have hc' := hc
    rw [Bool.and_eq_true] at hc'
    have hG := graphIn_iff.1 hc'.1
    have hK : K ≤ 3 := by have := inB_iff.1 hc'.2; omega
    have hfull : 2 ^ g.length - 1 < 2 ^ g.length := by have := Nat.two_pow_pos g.length; omega
    have f1 := full_one hG
    obtain ⟨b, hb, hbl, hbp, -⟩ := lo_has hfull f1
    obtain ⟨a, ha, hal, -, hac⟩ := lo_has (p := kindN g 0) hbl (by rw [kind0_eq]; exact (kind1_iff.1 hbp).1)
    obtain ⟨c, hcc, hcl, -, hcb⟩ := lo_has (p := kindN g 3) hbl (kind_one_three hG hbl hbp)
    cases ho : lo (kindN g K) (2 ^ g.length) with
    | none =>
      refine .inl ?_
      have e : codeLeast g (K : Int) = (0, false) := by
        unfold codeLeast
        rw [hc]
        show loP (lo (kindN g K) (2 ^ g.length)) = _
        rw [ho]; rfl
      unfold leastNumber
      rw [e]; rfl
    | some o =>
      have hol := lo_lt _ _ ho
      refine .inr ⟨cnt o, cnt a, cnt b, cnt c, cnt_le _, cnt_le _, cnt_le _, cnt_le _, hK, least_of hG hK ho, least_of (K := 0) hG (by omega) ha, least_of (K := 1) hG (by omega) hb, least_of (K := 3) hG (by omega) hcc, hac, hcb, ?_⟩
      rintro rfl
      exact (lo_some_is _ _ hb).2 o hol (kind_two_one (lo_some_is _ _ ho).1)

/-! ### Questions -/
theorem tell_some {g : List Int} {s x i k : Nat} (hi : s.testBit i = true) (hk : s.testBit k = true) (h : (ballN g x).testBit i ≠ (ballN g x).testBit k) : tells g s x = true := by
  have h1 : ∀ a b, s.testBit a = true → s.testBit b = true → (ballN g x).testBit a = true → (ballN g x).testBit b = false → tells g s x = true := fun a b ha hb h2 h3 => by
    refine tells_iff.2 ⟨fun e => ?_, fun e => ?_⟩
    · have := congrArg (fun z => Nat.testBit z a) e
      unfold qIn at this
      simp only [testBit_band, ha, h2, Nat.zero_testBit] at this
      cases this
    · have := congrArg (fun z => Nat.testBit z b) e
      unfold qIn at this
      simp only [testBit_band, hb, h3] at this
      cases this
  cases e1 : (ballN g x).testBit i
  · cases e2 : (ballN g x).testBit k
    · rw [e1, e2] at h; exact absurd rfl h
    · exact h1 k i hk hi e2 e1
  · cases e2 : (ballN g x).testBit k
    · exact h1 i k hi hk e1 e2
    · rw [e1, e2] at h; exact absurd rfl h
theorem two_of {s : Nat} (hs : s ≤ 4095) (h : band s (s - 1) ≠ 0) : ∃ i k, i ≠ k ∧ s.testBit i = true ∧ s.testBit k = true := by
  have hc : ¬ cnt s ≤ 1 := fun h1 => h ((one_iff hs).2 h1)
  have h0 : s ≠ 0 := fun e => by rw [(cnt_zero hs).2 e] at hc; omega
  obtain ⟨i, hi⟩ := ne_bit h0
  rw [Nat.zero_testBit, ne_eq, Bool.not_eq_false] at hi
  have hs12 : s < 2 ^ 12 := by omega
  have hi12 := bit_lt hs12 hi
  have hne : s ≠ 2 ^ i := fun e => by rw [e, cnt_two_pow i hi12] at hc; omega
  obtain ⟨k, hk⟩ := ne_bit hne
  rw [Nat.testBit_two_pow] at hk
  by_cases e : i = k
  · subst e
    rw [hi, decide_eq_true rfl] at hk
    exact absurd rfl hk
  · rw [decide_eq_false e, ne_eq, Bool.not_eq_false] at hk
    exact ⟨i, k, e, hi, hk⟩
theorem cnt_drop {s x : Nat} (hx : x < 12) (h : s.testBit x = true) : cnt (without s (2 ^ x)) + 1 = cnt s := by
  have h1 := cnt_split s (2 ^ x)
  have e : band s (2 ^ x) = 2 ^ x := by
    apply Nat.eq_of_testBit_eq
    intro j
    simp only [testBit_band, Nat.testBit_two_pow]
    by_cases e : x = j
    · subst e; simp [h]
    · simp [e]
  rw [e, cnt_two_pow x hx] at h1
  omega
/-- If the balls of a set C tell all nodes of s from one another, as many questions as C has nodes are enough. -/
theorem dep_code {g : List Int} (hn : g.length ≤ 12) : ∀ n s C : Nat, cnt C ≤ n → s ≤ 4095 → C < 2 ^ g.length → (∀ i k, i ≠ k → s.testBit i = true → s.testBit k = true → ∃ x, C.testBit x = true ∧ (ballN g x).testBit i ≠ (ballN g x).testBit k) → dep g s ≤ n
  | n, s, C, hc, hs, hC, h => by
    by_cases h1 : band s (s - 1) = 0
    · rw [dep_one h1]; omega
    · obtain ⟨i, k, hik, hi, hk⟩ := two_of hs h1
      obtain ⟨x, hx, hxb⟩ := h i k hik hi hk
      have hxl := bit_lt hC hx
      have ht := tell_some hi hk hxb
      have hdrop := cnt_drop (show x < 12 by omega) hx
      cases n with
      | zero => omega
      | succ n =>
        have ht' := tells_iff.1 ht
        have q1 := qIn_lt ht'.2
        have q2 := qOut_lt ht'.1
        have hC' : without C (2 ^ x) < 2 ^ g.length := without_lt hC
        have step : ∀ t, t ≤ 4095 → (∀ i k, t.testBit i = true → t.testBit k = true → s.testBit i = true ∧ s.testBit k = true ∧ (ballN g x).testBit i = (ballN g x).testBit k) → dep g t ≤ n := fun t ht4 hsub => by
          refine dep_code hn n t (without C (2 ^ x)) (by omega) ht4 hC' fun a b hab ha hb => ?_
          obtain ⟨sa, sb, e⟩ := hsub a b ha hb
          obtain ⟨y, hy, hyb⟩ := h a b hab sa sb
          refine ⟨y, ?_, hyb⟩
          rw [testBit_without, hy, Nat.testBit_two_pow, decide_eq_false (fun e' => hyb (by rw [← e', e]))]
          rfl
        have d1 := step (qIn g s x) (by omega) fun a b ha hb => by
          unfold qIn at ha hb
          rw [testBit_band, Bool.and_eq_true] at ha hb
          exact ⟨ha.1, hb.1, by rw [ha.2, hb.2]⟩
        have d2 := step (without s (qIn g s x)) (by omega) fun a b ha hb => by
          rw [qIn_without, testBit_without, Bool.and_eq_true, Bool.not_eq_true'] at ha hb
          exact ⟨ha.1, hb.1, by rw [ha.2, hb.2]⟩
        rw [dep_more h1]
        have := minTo_at (f := depAt g s) hxl
        unfold depTo
        have e : depAt g s x = 1 + max (dep g (qIn g s x)) (dep g (without s (qIn g s x))) := by unfold depAt; rw [if_pos ht]
        omega
theorem dep_least {g : List Int} (hg : IsGraph g) {s C : Nat} (hs : s < 2 ^ g.length) (hC : C < 2 ^ g.length) (h : kindN g 2 C = true) : dep g s ≤ cnt C := by
  have hl := hg.le
  have hp := pow_le_12 hl
  obtain ⟨-, h2⟩ := kind2_iff.1 h
  refine dep_code hl (cnt C) s C (Nat.le_refl _) (by omega) hC fun i k hik hi hk => ?_
  have hne : markN g C i ≠ markN g C k := by
    rcases Nat.lt_or_ge k i with h3 | h3
    · exact h2 i (bit_lt hs hi) k h3
    · exact fun e => h2 k (bit_lt hs hk) i (by omega) e.symm
  obtain ⟨x, hx⟩ := ne_bit hne
  rw [mark_bit hg, mark_bit hg] at hx
  cases e : C.testBit x
  · rw [e] at hx; simp at hx
  · rw [e, Bool.and_true, Bool.and_true] at hx
    exact ⟨x, e, hx⟩
end Go.Proofs.YtkmfmhckpfomeaaGreatDoor

/- Trees, their leaves and forks, and that leaves and forks tell the least resolving code: plain. No condition. -/
namespace Go.Proofs.YtkmfmhckpfomeaaGreatDoor

def adj (g : List Int) (x y : Nat) : Prop := (gN g x).testBit y = true
def deg (g : List Int) (x : Nat) : Nat := cnt (gN g x)
theorem adj_symm {g : List Int} (hg : IsGraph g) {x y : Nat} (h : adj g x y) : adj g y x := by unfold adj at *; rw [hg.sym]; exact h
theorem adj_lt {g : List Int} (hg : IsGraph g) {x y : Nat} (h : adj g x y) : x < g.length ∧ y < g.length := ⟨bit_lt (hg.lt y) (adj_symm hg h), bit_lt (hg.lt x) h⟩
theorem adj_ne {g : List Int} (hg : IsGraph g) {x y : Nat} (h : adj g x y) : x ≠ y := fun e => by
  subst e
  unfold adj at h
  rw [hg.self] at h
  cases h
theorem dd_self {g : List Int} (hg : IsGraph g) (x : Nat) : dd g x x = 0 := (dd_zero hg).2 rfl
theorem dd_adj {g : List Int} (hg : IsGraph g) {x y : Nat} (h : adj g x y) : dd g x y = 1 := (dd_one hg (adj_ne hg h)).2 h
/-- Neighbours are nearly as far. -/
theorem near {g : List Int} (hg : IsGraph g) {x y : Nat} (h : adj g x y) (v : Nat) : dd g x v ≤ dd g y v + 1 := by
  have h12 := dd_le g x v
  by_cases hd : dd g y v ≤ 10
  · rw [dd_symm hg x v, dd_symm hg y v] at *
    have h1 := (dd_iff hg (show dd g v y ≤ 11 by omega)).1 (Nat.le_refl _)
    exact (dd_iff hg (show dd g v y + 1 ≤ 11 by omega)).2 ((reach_succ hg).2 (.inr ⟨y, h1, adj_symm hg h⟩))
  · omega

/-! ### Few neighbours -/
theorem bits_none {s a : Nat} (hs : s ≤ 4095) (h : cnt s = 0) (ha : s.testBit a = true) : False := by
  rw [(cnt_zero hs).1 h, Nat.zero_testBit] at ha
  cases ha
theorem bits_drop {s a : Nat} (hs : s ≤ 4095) (ha : s.testBit a = true) : cnt (without s (2 ^ a)) + 1 = cnt s ∧ without s (2 ^ a) ≤ 4095 ∧ ∀ b, (without s (2 ^ a)).testBit b = true ↔ s.testBit b = true ∧ b ≠ a := by
  have ha12 := bit_lt (show s < 2 ^ 12 by omega) ha
  refine ⟨cnt_drop ha12 ha, without_le s _ hs, fun b => ?_⟩
  rw [testBit_without, Nat.testBit_two_pow, Bool.and_eq_true, Bool.not_eq_true', decide_eq_false_iff_not]
  exact and_congr_right fun _ => ⟨fun h e => h e.symm, fun h e => h e.symm⟩
theorem bits_one {s a b : Nat} (hs : s ≤ 4095) (h : cnt s = 1) (ha : s.testBit a = true) (hb : s.testBit b = true) : a = b := by
  obtain ⟨h1, h2, h3⟩ := bits_drop hs ha
  by_cases e : b = a
  · exact e.symm
  · exact (bits_none h2 (by omega) ((h3 b).2 ⟨hb, e⟩)).elim
theorem bits_two {s a b c : Nat} (hs : s ≤ 4095) (h : cnt s = 2) (ha : s.testBit a = true) (hb : s.testBit b = true) (hc : s.testBit c = true) (hba : b ≠ a) (hca : c ≠ a) : b = c := by
  obtain ⟨h1, h2, h3⟩ := bits_drop hs ha
  exact bits_one h2 (by omega) ((h3 b).2 ⟨hb, hba⟩) ((h3 c).2 ⟨hc, hca⟩)
theorem bits_some {s : Nat} (hs : s ≤ 4095) (h : cnt s ≠ 0) : ∃ a, s.testBit a = true := by
  obtain ⟨a, ha⟩ := ne_bit (x := s) (y := 0) (fun e => h ((cnt_zero hs).2 e))
  rw [Nat.zero_testBit, ne_eq, Bool.not_eq_false] at ha
  exact ⟨a, ha⟩
theorem bits_other {s a : Nat} (hs : s ≤ 4095) (h : 2 ≤ cnt s) (ha : s.testBit a = true) : ∃ b, s.testBit b = true ∧ b ≠ a := by
  obtain ⟨h1, h2, h3⟩ := bits_drop hs ha
  obtain ⟨b, hb⟩ := bits_some h2 (by omega)
  exact ⟨b, (h3 b).1 hb⟩
theorem bits_others {s a : Nat} (hs : s ≤ 4095) (h : 3 ≤ cnt s) (ha : s.testBit a = true) : ∃ b c, s.testBit b = true ∧ s.testBit c = true ∧ b ≠ a ∧ c ≠ a ∧ b ≠ c := by
  obtain ⟨h1, h2, h3⟩ := bits_drop hs ha
  obtain ⟨b, hb⟩ := bits_some h2 (by omega)
  obtain ⟨c, hc, hcb⟩ := bits_other h2 (by omega) hb
  exact ⟨b, c, ((h3 b).1 hb).1, ((h3 c).1 hc).1, ((h3 b).1 hb).2, ((h3 c).1 hc).2, fun e => hcb e.symm⟩
theorem bits_pos {s a : Nat} (hs : s ≤ 4095) (ha : s.testBit a = true) : 1 ≤ cnt s := by
  have := (bits_drop hs ha).1
  omega

/-! ### Trees -/
structure IsTree (g : List Int) : Prop where
  graph : IsGraph g
  fin : ∀ x y, x < g.length → y < g.length → dd g x y ≤ 11
  next : ∀ v x, v < g.length → x < g.length → x ≠ v → ∃ z, adj g x z ∧ dd g z v + 1 = dd g x v ∧ ∀ z', adj g x z' → z' ≠ z → dd g z' v = dd g x v + 1
theorem IsTree.small {g : List Int} (ht : IsTree g) (x : Nat) : gN g x ≤ 4095 := ht.graph.small x
theorem IsTree.closer {g : List Int} (ht : IsTree g) {v x z z' : Nat} (hv : v < g.length) (hx : x ≠ v) (h1 : adj g x z) (h2 : dd g z v < dd g x v) (h3 : adj g x z') (h4 : z' ≠ z) : dd g z' v = dd g x v + 1 := by
  obtain ⟨y, y1, y2, y3⟩ := ht.next v x hv (adj_lt ht.graph h1).1 hx
  by_cases e : z = y
  · subst e; exact y3 z' h3 h4
  · have := y3 z h1 e; omega
/-- Over an edge the distance to a node changes by 1. -/
theorem IsTree.step {g : List Int} (ht : IsTree g) {v x a : Nat} (hv : v < g.length) (h : adj g x a) : dd g a v + 1 = dd g x v ∨ dd g a v = dd g x v + 1 := by
  by_cases e : x = v
  · subst e
    right
    rw [dd_self ht.graph, dd_adj ht.graph (adj_symm ht.graph h)]
  · obtain ⟨y, y1, y2, y3⟩ := ht.next v x hv (adj_lt ht.graph h).1 e
    by_cases e' : a = y
    · subst e'; exact .inl y2
    · exact .inr (y3 a h e')
/-- An edge is the only way between its sides. -/
theorem IsTree.bridge {g : List Int} (ht : IsTree g) {x a v w : Nat} (h : adj g x a) (hv : dd g a v < dd g x v) (hw : ¬ dd g a w < dd g x w) (hvw : adj g v w) : v = a ∧ w = x := by
  have hG := ht.graph
  obtain ⟨lv, lw⟩ := adj_lt hG hvw
  obtain ⟨lx, la⟩ := adj_lt hG h
  have s1 := ht.step lv h
  have s2 := ht.step lw h
  have n1 := near hG hvw a
  have n2 := near hG (adj_symm hG hvw) a
  have n3 := near hG hvw x
  have n4 := near hG (adj_symm hG hvw) x
  rw [dd_symm hG a v, dd_symm hG x v] at s1 hv
  rw [dd_symm hG a w, dd_symm hG x w] at s2 hw
  have e1 : dd g w x = dd g v a := by omega
  by_cases hva : v = a
  · subst hva
    rw [dd_self hG] at e1
    exact ⟨rfl, ((dd_zero hG).1 e1).symm⟩
  · exfalso
    obtain ⟨z, z1, z2, z3⟩ := ht.next a v la lv hva
    have n5 := near hG (adj_symm hG h) z
    have n6 := near hG z1 x
    have hvx : v ≠ x := fun e => by
      subst e
      rw [dd_self hG] at s1 hv
      omega
    have hzx : dd g z x < dd g v x := by
      have := near hG h z
      rw [dd_symm hG x z, dd_symm hG a z] at this
      omega
    by_cases e : w = z
    · subst e; omega
    · have := ht.closer lx hvx z1 hzx hvw e
      omega
/-- Beyond an edge everything is as far as the edge and more. -/
theorem IsTree.through {g : List Int} (ht : IsTree g) {x a s : Nat} (h : adj g x a) (hs : s < g.length) (hn : ¬ dd g a s < dd g x s) : ∀ d y, y < g.length → dd g y s ≤ d → dd g a y < dd g x y → dd g x y + dd g x s ≤ dd g y s
  | d, y, hy, hd, hlt => by
    have hG := ht.graph
    have hys : y ≠ s := fun e => by subst e; exact hn hlt
    obtain ⟨z, z1, z2, z3⟩ := ht.next s y hs hy hys
    have hz := (adj_lt hG z1).2
    by_cases hz' : dd g a z < dd g x z
    · cases d with
      | zero => omega
      | succ d =>
        have ih := ht.through h hs hn d z hz (by omega) hz'
        have := near hG z1 x
        rw [dd_symm hG y x, dd_symm hG z x] at this
        omega
    · obtain ⟨rfl, rfl⟩ := ht.bridge h hlt hz' z1
      rw [dd_adj hG h]
      omega
/-- What is nearer to y on the way from x: the last step is the same. -/
theorem IsTree.last {g : List Int} (ht : IsTree g) {x y a w : Nat} (hx : x < g.length) (hy : y < g.length) (hxa : adj g x a) (ha : dd g a y + 1 = dd g x y) (hya : y ≠ a) (hw : adj g y w) (hwx : dd g w x + 1 = dd g y x) : dd g w a + 1 = dd g y a := by
  have hG := ht.graph
  have la := (adj_lt hG hxa).2
  have hyx : y ≠ x := fun e => by subst e; rw [dd_self hG] at hwx; omega
  obtain ⟨z, z1, z2, z3⟩ := ht.next a y la hy hya
  have n1 := near hG hxa z
  rw [dd_symm hG x z, dd_symm hG a z] at n1
  rw [dd_symm hG a y, dd_symm hG x y] at ha
  have hz : dd g z x < dd g y x := by omega
  by_cases e : w = z
  · subst e; exact z2
  · have := ht.closer hx hyx z1 hz hw e
    omega

/-! ### The way from a leaf -/
/-- The k-th step of the way from a leaf l leads from u to m. -/
def Leg (g : List Int) (l : Nat) : Nat → Nat → Nat → Prop
  | 0, u, m => u = l ∧ deg g l = 1 ∧ adj g l m
  | k + 1, m, m' => (∃ u, Leg g l k u m ∧ m' ≠ u) ∧ deg g m = 2 ∧ adj g m m'
theorem leg_adj {g : List Int} {l k u m : Nat} (h : Leg g l k u m) : adj g u m := by
  cases k with
  | zero => obtain ⟨rfl, -, h⟩ := h; exact h
  | succ k => exact h.2.2
theorem leg_leaf {g : List Int} {l : Nat} : ∀ {k u m : Nat}, Leg g l k u m → deg g l = 1
  | 0, _, _, h => h.2.1
  | _ + 1, _, _, ⟨⟨_, h, _⟩, _⟩ => leg_leaf h
theorem leg_det {g : List Int} (hg : IsGraph g) {l : Nat} : ∀ {k u m u' m' : Nat}, Leg g l k u m → Leg g l k u' m' → u = u' ∧ m = m'
  | 0, u, m, u', m', ⟨h1, h2, h3⟩, ⟨k1, k2, k3⟩ => ⟨h1.trans k1.symm, bits_one (hg.small l) h2 h3 k3⟩
  | k + 1, u, m, u', m', ⟨⟨a, h1, h2⟩, h3, h4⟩, ⟨⟨b, k1, k2⟩, k3, k4⟩ => by
    obtain ⟨rfl, rfl⟩ := leg_det hg h1 k1
    exact ⟨rfl, bits_two (hg.small u) h3 (adj_symm hg (leg_adj h1)) h4 k4 h2 k2⟩
theorem leg_inj {g : List Int} (hg : IsGraph g) {l l' : Nat} : ∀ {k k' u m : Nat}, Leg g l k u m → Leg g l' k' u m → l = l' ∧ k = k'
  | 0, 0, u, m, h, h' => ⟨h.1.symm.trans h'.1, rfl⟩
  | 0, k' + 1, u, m, h, h' => by
    have h1 := h.2.1
    have h2 := h'.2.1
    rw [h.1] at h2
    omega
  | k + 1, 0, u, m, h, h' => by
    have h1 := h'.2.1
    have h2 := h.2.1
    rw [h'.1] at h2
    omega
  | k + 1, k' + 1, u, m, ⟨⟨a, h1, h2⟩, h3, h4⟩, ⟨⟨b, k1, k2⟩, k3, k4⟩ => by
    obtain rfl := bits_two (hg.small u) h3 h4 (adj_symm hg (leg_adj h1)) (adj_symm hg (leg_adj k1)) (fun e => h2 e.symm) (fun e => k2 e.symm)
    obtain ⟨r1, r2⟩ := leg_inj hg h1 k1
    exact ⟨r1, by rw [r2]⟩
theorem leg_less {g : List Int} {l : Nat} : ∀ {k u m j : Nat}, Leg g l k u m → j < k → ∃ u' m', Leg g l j u' m' ∧ deg g m' = 2
  | k + 1, u, m, j, ⟨⟨a, h1, h2⟩, h3, h4⟩, hj => by
    by_cases e : j = k
    · subst e; exact ⟨a, u, h1, h3⟩
    · exact leg_less h1 (by omega)
/-- The node f is the fork on the way from l. -/
def Fork (g : List Int) (l f : Nat) : Prop := ∃ k u, Leg g l k u f ∧ 3 ≤ deg g f
theorem fork_stop {g : List Int} (hg : IsGraph g) {l k u f k' u' m' : Nat} (h : Leg g l k u f) (hf : 3 ≤ deg g f) (h' : Leg g l k' u' m') : k' ≤ k := by
  rcases Nat.lt_or_ge k k' with hk | hk
  · obtain ⟨a, b, h1, h2⟩ := leg_less h' hk
    obtain ⟨-, rfl⟩ := leg_det hg h h1
    omega
  · exact hk
theorem fork_one {g : List Int} (hg : IsGraph g) {l k u f k' u' f' : Nat} (h : Leg g l k u f) (hf : 3 ≤ deg g f) (h' : Leg g l k' u' f') (hf' : 3 ≤ deg g f') : u = u' ∧ f = f' := by
  have h1 := fork_stop hg h hf h'
  have h2 := fork_stop hg h' hf' h
  obtain rfl : k = k' := by omega
  exact leg_det hg h h'
theorem fork_uniq {g : List Int} (hg : IsGraph g) {l f f' : Nat} (h : Fork g l f) (h' : Fork g l f') : f = f' := by
  obtain ⟨k, u, h1, h2⟩ := h
  obtain ⟨k', u', h3, h4⟩ := h'
  exact (fork_one hg h1 h2 h3 h4).2
theorem leg_dist {g : List Int} (ht : IsTree g) {l : Nat} : ∀ {k u m : Nat}, Leg g l k u m → dd g u l = k ∧ dd g m l = k + 1
  | 0, u, m, ⟨h1, h2, h3⟩ => by
    subst h1
    exact ⟨dd_self ht.graph u, dd_adj ht.graph (adj_symm ht.graph h3)⟩
  | k + 1, m, m', ⟨⟨u, h1, h2⟩, h3, h4⟩ => by
    have hG := ht.graph
    obtain ⟨d1, d2⟩ := leg_dist ht h1
    have hl : l < g.length := by
      by_cases e : l < g.length
      · exact e
      · have := leg_leaf h1
        unfold deg at this
        rw [gN_out (by omega)] at this
        exact absurd this (by decide)
    refine ⟨d2, ?_⟩
    have hml : m ≠ l := fun e => by rw [e, dd_self hG] at d2; omega
    have := ht.closer hl hml (adj_symm hG (leg_adj h1)) (by omega) h4 h2
    omega
theorem leg_lt {g : List Int} (_ : IsGraph g) {l k u m : Nat} (h : Leg g l k u m) : l < g.length := by
  by_cases e : l < g.length
  · exact e
  · have := leg_leaf h
    unfold deg at this
    rw [gN_out (by omega)] at this
    exact absurd this (by decide)
/-- Every set that holds all leaves of each fork but one. -/
def Full (g : List Int) (S : Nat) : Prop := ∀ l l' f, Fork g l f → Fork g l' f → l ≠ l' → S.testBit l = true ∨ S.testBit l' = true
/-- A side without a node of such a set is one leg. -/
theorem side_leg {g : List Int} (ht : IsTree g) {S : Nat} (hS : Full g S) : ∀ N m x, adj g m x → (∀ v, v < g.length → dd g x v < dd g m v → dd g m v ≤ N) → (∀ v, v < g.length → dd g x v < dd g m v → S.testBit v = false) → ∃ l k, Leg g l k x m
  | N, m, x, ha, hN, hF => by
    have hG := ht.graph
    obtain ⟨lm, lx⟩ := adj_lt hG ha
    have h0 := hN x lx (by rw [dd_self hG, dd_adj hG ha]; omega)
    rw [dd_adj hG ha] at h0
    have hxm := adj_symm hG ha
    cases N with
    | zero => omega
    | succ N =>
      have hsub : ∀ c, adj g x c → c ≠ m → ∀ v, v < g.length → dd g c v < dd g x v → dd g x v < dd g m v ∧ dd g x v ≤ N := fun c hc hcm v hv hlt => by
        have hxv : x ≠ v := fun e => by rw [← e, dd_self hG] at hlt; omega
        have h1 := ht.closer hv hxv hc hlt hxm (fun e => hcm e.symm)
        have h2 := hN v hv (by omega)
        omega
      have ih : ∀ c, adj g x c → c ≠ m → ∃ l k, Leg g l k c x := fun c hc hcm =>
        side_leg ht hS N x c hc (fun v hv hlt => (hsub c hc hcm v hv hlt).2) (fun v hv hlt => hF v hv (hsub c hc hcm v hv hlt).1)
      have hp := bits_pos (hG.small x) hxm
      rcases Nat.lt_or_ge (deg g x) 3 with h3 | h3
      · by_cases h1 : deg g x = 1
        · exact ⟨x, 0, rfl, h1, hxm⟩
        · have h2 : deg g x = 2 := by unfold deg at *; omega
          obtain ⟨c, hc, hcm⟩ := bits_other (hG.small x) (Nat.le_of_eq h2.symm) hxm
          obtain ⟨l, k, hL⟩ := ih c hc hcm
          exact ⟨l, k + 1, ⟨c, hL, fun e => hcm e.symm⟩, h2, hxm⟩
      · exfalso
        obtain ⟨c1, c2, hc1, hc2, n1, n2, n3⟩ := bits_others (hG.small x) h3 hxm
        obtain ⟨l1, k1, L1⟩ := ih c1 hc1 n1
        obtain ⟨l2, k2, L2⟩ := ih c2 hc2 n2
        have hne : l1 ≠ l2 := fun e => by
          subst e
          exact n3 (fork_one hG L1 h3 L2 h3).1
        have f1 := leg_dist ht L1
        have f2 := leg_dist ht L2
        have g1 := hF l1 (leg_lt hG L1) (hsub c1 hc1 n1 l1 (leg_lt hG L1) (by omega)).1
        have g2 := hF l2 (leg_lt hG L2) (hsub c2 hc2 n2 l2 (leg_lt hG L2) (by omega)).1
        rcases hS l1 l2 x ⟨k1, c1, L1, h3⟩ ⟨k2, c2, L2, h3⟩ hne with h | h
        · rw [g1] at h; cases h
        · rw [g2] at h; cases h
theorem full_some {g : List Int} (ht : IsTree g) {S f : Nat} (hS : Full g S) (hf : 3 ≤ deg g f) : ∃ s, s < g.length ∧ S.testBit s = true := by
  have hG := ht.graph
  by_cases h : ∃ s, s < g.length ∧ S.testBit s = true
  · exact h
  · exfalso
    have hF : ∀ v, v < g.length → S.testBit v = false := fun v hv => by
      cases e : S.testBit v
      · rfl
      · exact absurd ⟨v, hv, e⟩ h
    obtain ⟨a, ha⟩ := bits_some (hG.small f) (show cnt (gN g f) ≠ 0 by unfold deg at hf; omega)
    obtain ⟨b, hb, hba⟩ := bits_other (hG.small f) (by unfold deg at hf; omega) ha
    obtain ⟨l1, k1, L1⟩ := side_leg ht hS 12 f a ha (fun v _ _ => dd_le g f v) (fun v hv _ => hF v hv)
    obtain ⟨l2, k2, L2⟩ := side_leg ht hS 12 f b hb (fun v _ _ => dd_le g f v) (fun v hv _ => hF v hv)
    have hne : l1 ≠ l2 := fun e => by
      subst e
      exact hba (fork_one hG L2 hf L1 hf).1
    rcases hS l1 l2 f ⟨k1, a, L1, hf⟩ ⟨k2, b, L2, hf⟩ hne with h1 | h1
    · rw [hF l1 (leg_lt hG L1)] at h1; cases h1
    · rw [hF l2 (leg_lt hG L2)] at h1; cases h1
/-- Such a set of leaves tells all nodes from one another. -/
theorem full_tells {g : List Int} (ht : IsTree g) {S f : Nat} (hS : Full g S) (hf : 3 ≤ deg g f) (hl : ∀ s, S.testBit s = true → deg g s = 1) (hSn : S < 2 ^ g.length) : ∀ D x y, x < g.length → y < g.length → x ≠ y → dd g x y ≤ D → (∀ s, S.testBit s = true → dd g x s = dd g y s) → False
  | D, x, y, lx, ly, hxy, hD, he => by
    have hG := ht.graph
    obtain ⟨s0, ls0, hs0⟩ := full_some ht hS hf
    obtain ⟨a, xa, da, -⟩ := ht.next y x ly lx hxy
    obtain ⟨b, yb, db, -⟩ := ht.next x y lx ly (fun e => hxy e.symm)
    obtain ⟨-, la⟩ := adj_lt hG xa
    obtain ⟨-, lb⟩ := adj_lt hG yb
    have toward : ∀ x y a, x < g.length → y < g.length → x ≠ y → adj g x a → dd g a y + 1 = dd g x y → (∀ s, S.testBit s = true → dd g x s = dd g y s) → ∀ s, S.testBit s = true → dd g a s + 1 = dd g x s := by
      intro x y a lx ly hxy xa da he s hs
      have ls := bit_lt hSn hs
      rcases ht.step ls xa with h | h
      · exact h
      · exfalso
        have h1 := ht.through xa ls (by omega) 12 y ly (dd_le g y s) (by omega)
        have h2 := he s hs
        have h3 : dd g x y = 0 := by omega
        exact hxy ((dd_zero hG).1 h3).symm
    have ta := toward x y a lx ly hxy xa da he
    have tb := toward y x b ly lx (fun e => hxy e.symm) yb db (fun s hs => (he s hs).symm)
    by_cases hya : y = a
    · subst hya
      have h1 := ta s0 hs0
      have h2 := he s0 hs0
      omega
    · have hba := ht.last lx ly xa da hya yb db
      by_cases hab : a = b
      · subst hab
        obtain ⟨l1, k1, L1⟩ := side_leg ht hS 12 a x (adj_symm hG xa) (fun v _ _ => dd_le g a v) (fun v _ hlt => by
          cases e : S.testBit v
          · rfl
          · have := ta v e; omega)
        obtain ⟨l2, k2, L2⟩ := side_leg ht hS 12 a y (adj_symm hG yb) (fun v _ _ => dd_le g a v) (fun v _ hlt => by
          cases e : S.testBit v
          · rfl
          · have := tb v e; omega)
        have d1 := leg_dist ht L1
        have d2 := leg_dist ht L2
        rcases Nat.lt_or_ge (deg g a) 3 with h3 | h3
        · have hsa : a ≠ s0 := fun e => by
            have h1 := hl s0 hs0
            rw [← e] at h1
            exact hxy (bits_one (hG.small a) h1 (adj_symm hG xa) (adj_symm hG yb))
          obtain ⟨z, z1, z2, -⟩ := ht.next s0 a ls0 la hsa
          have h1 := ta s0 hs0
          have h2 := tb s0 hs0
          have hzx : z ≠ x := fun e => by subst e; omega
          have hzy : z ≠ y := fun e => by subst e; omega
          have hd2 : deg g a = 2 := by
            have hp : 2 ≤ deg g a := by
              have q1 := bits_drop (hG.small a) z1
              have q2 := bits_pos q1.2.1 ((q1.2.2 x).2 ⟨adj_symm hG xa, fun e => hzx e.symm⟩)
              unfold deg
              omega
            omega
          exact hxy (bits_two (hG.small a) hd2 z1 (adj_symm hG xa) (adj_symm hG yb) (fun e => hzx e.symm) (fun e => hzy e.symm))
        · have hne : l1 ≠ l2 := fun e => by
            subst e
            exact hxy (fork_one hG L1 h3 L2 h3).1
          rcases hS l1 l2 a ⟨k1, x, L1, h3⟩ ⟨k2, y, L2, h3⟩ hne with h | h
          · have := ta l1 h; omega
          · have := tb l2 h; omega
      · have hlt : dd g a b + 2 ≤ dd g x y := by
          rw [dd_symm hG a b, dd_symm hG x y]
          rw [dd_symm hG a y, dd_symm hG x y] at da
          omega
        cases D with
        | zero => omega
        | succ D =>
          exact full_tells ht hS hf hl hSn D a b la lb hab (by omega) fun s hs => by
            have h1 := ta s hs
            have h2 := tb s hs
            have h3 := he s hs
            omega
theorem full_res {g : List Int} (ht : IsTree g) {S f : Nat} (hS : Full g S) (hf : 3 ≤ deg g f) (hl : ∀ s, S.testBit s = true → deg g s = 1) (hSn : S < 2 ^ g.length) : resN g S = true := by
  rw [resN_iff]
  intro i hi k hk
  by_cases h : ∃ c, c < g.length ∧ S.testBit c = true ∧ dd g i c ≠ dd g k c
  · exact h
  · exfalso
    refine full_tells ht hS hf hl hSn 12 i k hi (by omega) (by omega) (dd_le g i k) fun s hs => ?_
    by_cases e : dd g i s = dd g k s
    · exact e
    · exact absurd ⟨s, bit_lt hSn hs, hs, e⟩ h
/-! ### Resolving sets meet the legs -/
theorem on_leg {g : List Int} (ht : IsTree g) {l c : Nat} (lc : c < g.length) : ∀ {k u m : Nat}, Leg g l k u m → dd g u c < dd g m c → ∃ k' w, Leg g l k' c w
  | 0, u, m, h, hlt => by
    have hG := ht.graph
    obtain ⟨rfl, h2, h3⟩ := h
    by_cases e : u = c
    · subst e; exact ⟨0, m, rfl, h2, h3⟩
    · exfalso
      obtain ⟨z, z1, z2, -⟩ := ht.next c u lc (adj_lt hG h3).1 e
      obtain rfl := bits_one (hG.small u) h2 h3 z1
      omega
  | k + 1, m, m', h, hlt => by
    have hG := ht.graph
    have h' := h
    obtain ⟨⟨u, h1, h2⟩, h3, h4⟩ := h
    by_cases e : m = c
    · subst e; exact ⟨k + 1, m', h'⟩
    · obtain ⟨z, z1, z2, -⟩ := ht.next c m lc (adj_lt hG h4).1 e
      have hzm : z ≠ m' := fun e => by subst e; omega
      obtain rfl := bits_two (hG.small m) h3 h4 (adj_symm hG (leg_adj h1)) z1 (fun e => h2 e.symm) hzm
      exact on_leg ht lc h1 (by omega)
/-- Going back along another leaf's leg one never comes to a fork. -/
theorem no_back {g : List Int} (hg : IsGraph g) {l l' f : Nat} (hf : Fork g l' f) : ∀ {k a b k' : Nat}, Leg g l k a b → Leg g l' k' b a → False
  | 0, a, b, k', h, h' => by
    obtain ⟨rfl, h2, h3⟩ := h
    obtain ⟨kf, u, h4, h5⟩ := hf
    have h6 := fork_stop hg h4 h5 h'
    by_cases e : k' = kf
    · subst e
      obtain ⟨-, rfl⟩ := leg_det hg h4 h'
      omega
    · obtain ⟨p, q, h7, h8⟩ := leg_less h4 (show k' < kf by omega)
      obtain ⟨-, rfl⟩ := leg_det hg h' h7
      omega
  | k + 1, a, b, k', h, h' => by
    obtain ⟨⟨u, h1, h2⟩, h3, h4⟩ := h
    exact no_back hg hf h1 (k' := k' + 1) ⟨⟨b, h', fun e => h2 e.symm⟩, h3, adj_symm hg (leg_adj h1)⟩
/-- No node lies on the legs of two leaves that have forks. -/
theorem leg_apart {g : List Int} (hg : IsGraph g) {l l' f f' c k k' w w' : Nat} (_ : Fork g l f) (hf' : Fork g l' f') (h : Leg g l k c w) (h' : Leg g l' k' c w') : l = l' := by
  cases k with
  | zero =>
    cases k' with
    | zero => exact h.1.symm.trans h'.1
    | succ k' =>
      have h1 := h.2.1
      have h2 := h'.2.1
      rw [h.1] at h2
      omega
  | succ k =>
    cases k' with
    | zero =>
      have h1 := h'.2.1
      have h2 := h.2.1
      rw [h'.1] at h2
      omega
    | succ k' =>
      by_cases e : w = w'
      · subst e; exact (leg_inj hg h h').1
      · exfalso
        obtain ⟨⟨u, h1, h2⟩, h3, h4⟩ := h
        have h'' := h'
        obtain ⟨⟨u', h5, h6⟩, h7, h8⟩ := h'
        obtain rfl := bits_two (hg.small c) h3 h4 h8 (adj_symm hg (leg_adj h1)) (fun e' => e e'.symm) (fun e' => h2 e'.symm)
        exact no_back hg hf' h1 h''

/-! ### Counting -/
theorem cnt_inject (φ : Nat → Nat) : ∀ n A B, cnt A ≤ n → A ≤ 4095 → B ≤ 4095 → (∀ a, A.testBit a = true → B.testBit (φ a) = true) → (∀ a a', A.testBit a = true → A.testBit a' = true → φ a = φ a' → a = a') → cnt A ≤ cnt B
  | n, A, B, hn, hA, hB, h1, h2 => by
    by_cases h0 : cnt A = 0
    · omega
    · obtain ⟨a, ha⟩ := bits_some hA h0
      obtain ⟨a1, a2, a3⟩ := bits_drop hA ha
      obtain ⟨b1, b2, b3⟩ := bits_drop hB (h1 a ha)
      cases n with
      | zero => omega
      | succ n =>
        have := cnt_inject φ n (without A (2 ^ a)) (without B (2 ^ φ a)) (by omega) a2 b2
          (fun x hx => (b3 _).2 ⟨h1 x ((a3 x).1 hx).1, fun e => ((a3 x).1 hx).2 (h2 x a ((a3 x).1 hx).1 ha e)⟩)
          (fun x y hx hy => h2 x y ((a3 x).1 hx).1 ((a3 y).1 hy).1)
        omega
/-- The set of the numbers below k for which p holds. -/
def mask (p : Nat → Bool) : Nat → Nat
  | 0 => 0
  | k + 1 => if p k then bor (mask p k) (2 ^ k) else mask p k
theorem mask_lt (p : Nat → Bool) : ∀ k, mask p k < 2 ^ k
  | 0 => by simp [mask]
  | k + 1 => by
    have h := mask_lt p k
    unfold mask
    split
    · exact bor_lt (Nat.lt_of_lt_of_le h (Nat.pow_le_pow_right (by omega) (by omega))) (Nat.pow_lt_pow_right (by omega) (by omega))
    · exact Nat.lt_of_lt_of_le h (Nat.pow_le_pow_right (by omega) (by omega))
theorem mask_bit (p : Nat → Bool) (i : Nat) : ∀ k, (mask p k).testBit i = (decide (i < k) && p i)
  | 0 => by simp [mask]
  | k + 1 => by
    have ih := mask_bit p i k
    unfold mask
    by_cases e : i = k
    · subst e
      cases hp : p i
      · rw [if_neg (by decide), ih]; simp
      · rw [if_pos rfl, testBit_bor, Nat.testBit_two_pow]; simp
    · have h1 : decide (i < k + 1) = decide (i < k) := by
        rw [Bool.eq_iff_iff, decide_eq_true_iff, decide_eq_true_iff]; omega
      rw [h1]
      split
      · rw [testBit_bor, Nat.testBit_two_pow, ih, decide_eq_false (show ¬ k = i from fun e' => e e'.symm), Bool.or_false]
      · exact ih
theorem mask_small {p : Nat → Bool} {k : Nat} (hk : k ≤ 12) : mask p k ≤ 4095 := by
  have := mask_lt p k
  have := pow_le_12 hk
  omega
def leafB (g : List Int) (x : Nat) : Bool := decide (deg g x = 1)
def leavesN (g : List Int) : Nat := mask (leafB g) g.length
noncomputable def forkB (g : List Int) (f : Nat) : Bool := @decide (∃ l, Fork g l f) (Classical.propDecidable _)
noncomputable def forksN (g : List Int) : Nat := mask (forkB g) g.length
theorem leaves_bit {g : List Int} {x : Nat} : (leavesN g).testBit x = true ↔ x < g.length ∧ deg g x = 1 := by
  unfold leavesN leafB
  rw [mask_bit, Bool.and_eq_true, decide_eq_true_iff, decide_eq_true_iff]
theorem forks_bit {g : List Int} (hg : IsGraph g) {f : Nat} : (forksN g).testBit f = true ↔ ∃ l, Fork g l f := by
  unfold forksN forkB
  rw [mask_bit, Bool.and_eq_true, decide_eq_true_iff, @decide_eq_true_iff _ (Classical.propDecidable _)]
  constructor
  · exact fun h => h.2
  · rintro ⟨l, k, u, h1, h2⟩
    exact ⟨(adj_lt hg (leg_adj h1)).2, l, k, u, h1, h2⟩
theorem fork_leaf {g : List Int} (hg : IsGraph g) {l f : Nat} (h : Fork g l f) : (leavesN g).testBit l = true := by
  obtain ⟨k, u, h1, -⟩ := h
  exact leaves_bit.2 ⟨leg_lt hg h1, leg_leaf h1⟩
theorem leaves_small {g : List Int} (hg : IsGraph g) : leavesN g ≤ 4095 := mask_small hg.le
theorem forks_small {g : List Int} (hg : IsGraph g) : forksN g ≤ 4095 := mask_small hg.le
/-- Every fork has three neighbours, and there are not more forks than leaves. -/
theorem forks_few {g : List Int} (hg : IsGraph g) : cnt (forksN g) ≤ cnt (leavesN g) := by
  refine cnt_inject (fun f => @dite _ (∃ l, Fork g l f) (Classical.propDecidable _) (fun h => Classical.choose h) (fun _ => 0)) 12 _ _ (cnt_le _) (forks_small hg) (leaves_small hg) (fun f hf => ?_) (fun f f' hf hf' e => ?_)
  · have h := (forks_bit hg).1 hf
    simp only [dif_pos h]
    exact fork_leaf hg (Classical.choose_spec h)
  · have h := (forks_bit hg).1 hf
    have h' := (forks_bit hg).1 hf'
    simp only [dif_pos h, dif_pos h'] at e
    have h1 := Classical.choose_spec h
    have h2 := Classical.choose_spec h'
    rw [e] at h1
    exact fork_uniq hg h1 h2
theorem forks_deg {g : List Int} (hg : IsGraph g) {f : Nat} (h : (forksN g).testBit f = true) : 3 ≤ deg g f := by
  obtain ⟨l, k, u, -, h⟩ := (forks_bit hg).1 h
  exact h
end Go.Proofs.YtkmfmhckpfomeaaGreatDoor
