/- Taking sensors out one by one: plain. No condition. -/
import Derived.Test.YtpmammklklkheaaCode
import Derived.Test.YtpmammklklkheaaDFacts
namespace Go.Proofs.Ytpmammklklkheaa

theorem low_blocks : ∀ a, a < 64 → ∀ b, b < 64 → (decide (band (64 * a + b) (64 * a + b - 1) = without (64 * a + b) (bxor (64 * a + b) (band (64 * a + b) (64 * a + b - 1)))) && decide (cnt (bxor (64 * a + b) (band (64 * a + b) (64 * a + b - 1))) ≤ 1)) = true := by decide +kernel
/-- Taking out the least sensor takes out one at most. -/
theorem low_out {f : Nat} (h : f ≤ 4095) : ∃ d, cnt d ≤ 1 ∧ band f (f - 1) = without f d := by
  have := low_blocks (f / 64) (by omega) (f % 64) (by omega)
  rw [show 64 * (f / 64) + f % 64 = f from by omega, Bool.and_eq_true, decide_eq_true_iff, decide_eq_true_iff] at this
  exact ⟨_, this.2, this.1⟩
theorem cnt_bor (t d : Nat) : cnt (bor t d) ≤ cnt t + cnt d := by
  have h1 := cnt_split (bor t d) t
  have e1 : band (bor t d) t = t := by
    apply Nat.eq_of_testBit_eq
    intro i
    simp only [testBit_band, testBit_bor]
    cases t.testBit i <;> simp
  have h2 : cnt (without (bor t d) t) ≤ cnt d := by
    apply cnt_le_of_sub
    apply Nat.eq_of_testBit_eq
    intro i
    simp only [testBit_band, testBit_bor, testBit_without]
    cases t.testBit i <;> cases d.testBit i <;> rfl
  rw [e1] at h1
  omega
theorem without_bor (s t d : Nat) : without (without s t) d = without s (bor t d) := by
  apply Nat.eq_of_testBit_eq
  intro i
  simp only [testBit_bor, testBit_without]
  cases s.testBit i <;> cases t.testBit i <;> cases d.testBit i <;> rfl
/-- At most i sensors have been taken out of s. -/
def Taken (s i f : Nat) : Prop := ∃ t, cnt t ≤ i ∧ f = without s t
theorem Taken.start (s : Nat) : Taken s 0 s := ⟨0, by decide, by apply Nat.eq_of_testBit_eq; intro i; simp [testBit_without]⟩
theorem Taken.out {s i f d : Nat} (h : Taken s i f) (hd : cnt d ≤ 1) : Taken s (i + 1) (without f d) := by
  obtain ⟨t, h1, rfl⟩ := h
  refine ⟨bor t d, ?_, without_bor s t d⟩
  have := cnt_bor t d
  omega
theorem Taken.low {s i f : Nat} (h : Taken s i f) (hf : f ≤ 4095) : Taken s (i + 1) (band f (f - 1)) := by
  obtain ⟨d, h1, h2⟩ := low_out hf
  rw [h2]
  exact h.out h1
/-- Fewer sensors than the least mark or difference may be taken out. -/
theorem Taken.kind {g : List Int} {s i f : Nat} (h : Taken s i f) (hi : i < silMin g s g.length) : kindN g 2 f = true := by
  obtain ⟨t, h1, rfl⟩ := h
  cases hk : kindN g 2 (without s t)
  · have := silMin_low hk
    omega
  · rfl
/-- What is told on is not empty. -/
theorem Taken.pos {g : List Int} (hg : IsGraph g) {s i f : Nat} (h : Taken s i f) (hi : i < silMin g s g.length) : f ≠ 0 := by
  intro e
  have h1 := (kind2_iff.1 (h.kind hi)).1 0 (by have := hg.pos; omega)
  rw [e] at h1
  apply h1
  have := mark_sub g 0 0
  rw [← this]
  apply Nat.eq_of_testBit_eq
  intro j
  simp [testBit_band]
end Go.Proofs.Ytpmammklklkheaa
