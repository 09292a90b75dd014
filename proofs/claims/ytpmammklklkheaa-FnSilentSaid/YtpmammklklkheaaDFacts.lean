/- What holds of depths, best questions and played questions. No program in sight. No condition. -/
import Derived.Test.YtpmammklklkheaaDep
namespace Go.Proofs.Ytpmammklklkheaa

theorem cnt_le_of_sub {s t : Nat} (h : band s t = s) : cnt s ≤ cnt t := by
  unfold cnt
  apply List.countP_mono_left
  intro i _ hi
  have := congrArg (fun z => Nat.testBit z i) h
  simp only [testBit_band, hi, Bool.true_and] at this
  exact this
theorem sub_eq_of_cnt {s t : Nat} (ht : t ≤ 4095) (h : band s t = s) (hc : cnt t ≤ cnt s) : s = t := by
  have h1 := cnt_split t s
  have e : band t s = s := by unfold band at h ⊢; rw [Nat.and_comm]; exact h
  rw [e] at h1
  have h2 : without t s = 0 := (cnt_zero (without_le t s ht)).1 (by omega)
  have h3 := without_zero.1 h2
  rw [e] at h3
  exact h3
theorem qIn_sub {g : List Int} {t s x : Nat} (h : band t s = t) : band (qIn g t x) (qIn g s x) = qIn g t x := by
  unfold qIn
  apply Nat.eq_of_testBit_eq
  intro i
  have := congrArg (fun z => Nat.testBit z i) h
  simp only [testBit_band] at this
  simp only [testBit_band]
  revert this
  cases t.testBit i <;> cases s.testBit i <;> cases (ballN g x).testBit i <;> simp
theorem qOut_sub {g : List Int} {t s x : Nat} (h : band t s = t) : band (without t (qIn g t x)) (without s (qIn g s x)) = without t (qIn g t x) := by
  rw [qIn_without, qIn_without]
  apply Nat.eq_of_testBit_eq
  intro i
  have := congrArg (fun z => Nat.testBit z i) h
  simp only [testBit_band] at this
  simp only [testBit_band, testBit_without]
  revert this
  cases t.testBit i <;> cases s.testBit i <;> cases (ballN g x).testBit i <;> simp
theorem sub_in {g : List Int} {t s x : Nat} (h : band t s = t) (hq : qIn g t x = t) : band t (qIn g s x) = t := by
  have := qIn_sub (x := x) (g := g) h
  rwa [hq] at this
theorem sub_out {g : List Int} {t s x : Nat} (h : band t s = t) (hq : qIn g t x = 0) : band t (without s (qIn g s x)) = t := by
  have := qOut_sub (x := x) (g := g) h
  have e : without t (qIn g t x) = t := by
    rw [hq]
    apply Nat.eq_of_testBit_eq
    intro i
    rw [testBit_without, Nat.zero_testBit]; simp
  rwa [e] at this
theorem best_split {g : List Int} {s : Nat} (hs : s ≤ 4095) (h : dep g s < 99) (h1 : band s (s - 1) ≠ 0) : ∃ x, x < g.length ∧ tells g s x = true ∧ dep g s = 1 + max (dep g (qIn g s x)) (dep g (without s (qIn g s x))) := by
  have h2 := dep_more (g := g) h1
  unfold depTo at h2
  rcases minTo_has (depAt g s) g.length with e | ⟨x, hx, e⟩
  · omega
  · rw [e] at h2
    cases ht : tells g s x
    · unfold depAt at h2; rw [ht] at h2; simp at h2; omega
    · refine ⟨x, hx, ht, ?_⟩
      unfold depAt at h2; rw [ht, if_pos rfl] at h2; exact h2
/-- A part of a set is not deeper. -/
theorem dep_mono (g : List Int) : ∀ n s t : Nat, s ≤ n → s ≤ 4095 → t ≠ 0 → band t s = t → dep g s < 99 → dep g t ≤ dep g s
  | 0, s, t, hn, hs, h0, ht, hd => by
    exfalso
    apply h0
    obtain rfl : s = 0 := by omega
    rw [← ht]; simp [band]
  | n + 1, s, t, hn, hs, h0, ht, hd => by
    have hle : t ≤ s := by rw [← ht]; exact band_le _ _
    by_cases h1 : band s (s - 1) = 0
    · have c1 := (one_iff hs).1 h1
      have c2 := mt (cnt_zero (show t ≤ 4095 by omega)).1 h0
      rw [sub_eq_of_cnt hs ht (by omega)]
      exact Nat.le_refl _
    · obtain ⟨x, hx, hT, e⟩ := best_split hs hd h1
      have hT' := tells_iff.1 hT
      have i1 := qIn_lt hT'.2
      have i2 := qOut_lt hT'.1
      by_cases q0 : qIn g t x = 0
      · have := dep_mono g n (without s (qIn g s x)) t (by omega) (by omega) h0 (sub_out ht q0) (by omega)
        omega
      · by_cases q1 : qIn g t x = t
        · have := dep_mono g n (qIn g s x) t (by omega) (by omega) h0 (sub_in ht q1) (by omega)
          omega
        · have d1 := dep_mono g n (qIn g s x) (qIn g t x) (by omega) (by omega) q0 (qIn_sub ht) (by omega)
          have d2 := dep_mono g n (without s (qIn g s x)) (without t (qIn g t x)) (by omega) (by omega) (mt qOut_zero.1 q1) (qOut_sub ht) (by omega)
          by_cases h2 : band t (t - 1) = 0
          · rw [dep_one h2]; omega
          · have h3 := minTo_at (f := depAt g t) hx
            have h4 := dep_more (g := g) h2
            unfold depTo at h4
            have h5 : depAt g t x = 1 + max (dep g (qIn g t x)) (dep g (without t (qIn g t x))) := by
              unfold depAt; rw [tells_iff.2 ⟨q0, q1⟩, if_pos rfl]
            omega
/-- Depths are not below halving. -/
theorem dep_log (g : List Int) : ∀ n s : Nat, s ≤ n → s ≤ 4095 → s ≠ 0 → dep g s < 99 → cnt s ≤ 2 ^ dep g s
  | 0, s, hn, _, h0, _ => by omega
  | n + 1, s, hn, hs, h0, hd => by
    by_cases h1 : band s (s - 1) = 0
    · have := (one_iff hs).1 h1
      have := Nat.two_pow_pos (dep g s)
      omega
    · obtain ⟨x, hx, hT, e⟩ := best_split hs hd h1
      have hT' := tells_iff.1 hT
      have i1 := qIn_lt hT'.2
      have i2 := qOut_lt hT'.1
      have d1 := dep_log g n (qIn g s x) (by omega) (by omega) hT'.1 (by omega)
      have d2 := dep_log g n (without s (qIn g s x)) (by omega) (by omega) (mt qOut_zero.1 hT'.2) (by omega)
      have hc := q_cnt g s x
      have p1 : 2 ^ dep g (qIn g s x) ≤ 2 ^ (dep g s - 1) := Nat.pow_le_pow_right (by omega) (by omega)
      have p2 : 2 ^ dep g (without s (qIn g s x)) ≤ 2 ^ (dep g s - 1) := Nat.pow_le_pow_right (by omega) (by omega)
      have p3 : 2 ^ dep g s = 2 ^ (dep g s - 1) * 2 := by rw [← Nat.pow_succ]; congr 1; omega
      omega
/-- Behind a best question the deeper part is less deep by one. -/
theorem best_max {g : List Int} {s : Nat} (hs : s ≤ 4095) (h : dep g s < 99) (h0 : dep g s ≠ 0) : max (dep g (qIn g s (bestOf g s))) (dep g (without s (qIn g s (bestOf g s)))) + 1 = dep g s := by
  obtain ⟨hg, hx⟩ := best_good hs h h0
  have h1 := good_iff.1 hg
  have h2 : band s (s - 1) ≠ 0 := fun e => h0 (dep_one e)
  have h3 := dep_more (g := g) h2
  have h4 := minTo_at (f := depAt g s) hx
  unfold depTo at h3
  have h5 : depAt g s (bestOf g s) = 1 + max (dep g (qIn g s (bestOf g s))) (dep g (without s (qIn g s (bestOf g s)))) := by
    unfold depAt; rw [tells_iff.2 h1.1, if_pos rfl]
  omega
end Go.Proofs.Ytpmammklklkheaa
