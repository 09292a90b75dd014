/- The walk of the law FnClearLeft. No condition. -/
import Derived.Test.YtnpkkfaidejljaaDraws
import Derived.Test.YtnpkkfaidejljaaLeft
import Derived.Test.YtnpkkfaidejljaaPFacts
namespace Go.Proofs.Ytnpkkfaidejljaa
open Go.RowKit
open BigFrame

theorem poolClear_iff2 {n d : Nat} {xs : List Int} (h : poolClear n xs d = true) : IsPool n xs ∧ d ≤ 3 ∧ poolIn n xs = true ∧ (List.range n).all (clearRow xs d (2 ^ n)) = true := by
  unfold poolClear at h
  simp only [Bool.and_eq_true] at h
  obtain ⟨m, hm, hP⟩ := poolIn_iff.1 h.1.1
  have : m = n := by omega
  subst this
  have hd := inB_iff.1 h.1.2
  exact ⟨hP, by omega, h.1.1, h.2⟩
theorem cnt_bor_one : ∀ n, n < 6 → cnt (bor (2 ^ n) 1) ≤ 2 ∧ bor (2 ^ n) 1 < 2 ^ (n + 1) := by decide +kernel
theorem pool_clear_left {n d : Nat} {xs : List Int} (h : poolClear n xs d = true) (h1 : 1 ≤ n) (h6 : n ≤ 6) {wr : Nat} (hw : wr = 2 ^ (n - 1) ∧ d ≤ 1 ∨ wr = bor (2 ^ (n - 1)) 1 ∧ 1 < d) :
    ∃ an : Nat, poolAnswers n xs ((wr : Nat) : Int) = (((an : Nat) : Int), true) ∧ ∃ lf : Nat, poolLeft n xs an = (((lf : Nat) : Int), true) ∧ (d = 0 ∨ lf = wr) := by
  obtain ⟨hP, hd, hi, hc⟩ := poolClear_iff2 h
  have hlt : wr < 2 ^ n := by
    rcases hw with ⟨rfl, _⟩ | ⟨rfl, _⟩
    · exact Nat.pow_lt_pow_right (by omega) (by omega)
    · have := (cnt_bor_one (n - 1) (by omega)).2
      rwa [show n - 1 + 1 = n from by omega] at this
  refine ⟨answersOf xs wr, ?_, leftOf n xs (answersOf xs wr), ?_, ?_⟩
  · unfold poolAnswers
    have hs : setB ((wr : Nat) : Int) (n : Int).toNat = true := setB_iff.2 ⟨wr, rfl, hlt⟩
    rw [hi, hs]; rfl
  · unfold poolLeft
    have hs : setB ((answersOf xs wr : Nat) : Int) xs.length = true := setB_iff.2 ⟨_, rfl, answersTo_lt xs wr xs.length⟩
    rw [hi, hs]; rfl
  · by_cases h0 : d = 0
    · exact .inl h0
    · refine .inr (clear_left hP hc hlt ?_)
      rcases hw with ⟨rfl, _⟩ | ⟨rfl, _⟩
      · rw [cnt_two_pow (n - 1) (by omega)]; omega
      · have := (cnt_bor_one (n - 1) (by omega)).1
        omega

set_option maxRecDepth 100000 in
set_option maxHeartbeats 1000000 in
theorem FnClearLeft_walk (v : Value) (bs : List Int) (w : World) (hv : Rb w v bs) :
    Calls Try.prog 18 #[v] w fun e w' => e = .returned (.bool true) ∧ Below w.heap.size w w' := by
  have HV := Lib.hid hv
  obtain ⟨a, c, rfl, -, -⟩ := hv
  go_enter Try.func18, Try.ntmps18
  by_cases hl : bs.length ≤ 1048576
  · go_wp2_with fail
    refine (drawPoolClear_c _ bs w HV.out hl).mono ?_
    rintro e w1 ⟨n, v1, xs, x, rfl, hn1, hn6, hxl, r1, x1⟩
    obtain ⟨a1, c1, rfl⟩ := r1.form
    have hm : xs.length ≤ 1048576 := by omega
    have R1 := Lib.hid r1; have X1 := Lib.hid x1
    clear r1 x1
    go_wp2_with fail
    refine (poolClearI_c n _ xs x w1 R1.out hm).mono ?_
    rintro e w2 ⟨rfl, x2⟩
    have R2 := Lib.hid (R1.out.ext x2); have X2 := Lib.hid (X1.out.trans x2); clear x2
    go_wp2_with fail
    refine (poolClearS_c n _ xs x w2 R2.out hm).mono ?_
    rintro e w3 ⟨rfl, x3⟩
    have R3 := Lib.hid (R2.out.ext x3); have X3 := Lib.hid (X2.out.trans x3); clear x3
    cases hp : poolClear n xs x
    · go_wp2
      go_ret
      exact ⟨rfl, X3.out⟩
    · have hP := poolClear_iff2 hp
      obtain ⟨q, hq⟩ : ∃ q : Nat, (n : Int) - 1 = (q : Int) := ⟨n - 1, by omega⟩
      have hnq : n - 1 = q := by omega
      have hqb : q ≤ 5 := by omega
      obtain ⟨p, hpw, hp1, hp2, hp3⟩ := pow_var q (by omega)
      have hp4 : p ≤ 32 := by rw [← hpw]; exact (Nat.pow_le_pow_right (by omega) (by omega) : 2 ^ q ≤ 2 ^ 5)
      have e0 : min q 64 = q := by omega
      have e1 : bits .or .i64 (p : Int) 1 = ((bor p 1 : Nat) : Int) := bits_or p 1 (by omega) (by omega)
      have HW : Hid (∀ wr, (wr = p ∧ x ≤ 1 ∨ wr = bor p 1 ∧ 1 < x) → ∃ an : Nat, poolAnswers n xs ((wr : Nat) : Int) = (((an : Nat) : Int), true) ∧ ∃ lf : Nat, poolLeft n xs an = (((lf : Nat) : Int), true) ∧ (x = 0 ∨ lf = wr)) := by
        intro wr hwr
        rw [← hpw, ← hnq] at hwr
        exact pool_clear_left hp hn1 hn6 hwr
      clear hpw hnq hP hp
      by_cases hx1 : x ≤ 1
      · have hx' : decide (1 < x) = false := by simp; omega
        have hx'' : ¬ 1 < x := by omega
        obtain ⟨an, ha, lf, hlf, he⟩ := HW.out p (.inl ⟨rfl, hx1⟩)
        have HA := Lib.hid ha; have HLF := Lib.hid hlf
        clear ha hlf HW
        go_wp2_with fail
        refine (poolAnswersI_c n _ xs p w3 R3.out hm).mono ?_
        rintro e w4 ⟨rfl, x4⟩
        rw [HA.out]
        unfold pairV
        have R4 := Lib.hid (R3.out.ext x4); have X4 := Lib.hid (X3.out.trans x4); clear x4
        go_wp2_with fail
        refine (poolLeftI_c n _ xs an w4 R4.out hm).mono ?_
        rintro e w5 ⟨rfl, x5⟩
        rw [HLF.out]
        unfold pairV
        have X5 := Lib.hid (X4.out.trans x5); clear x5
        by_cases hz : x = 0
        · have hz0 : ((x : Int) == 0) = true := by simp [hz]
          clear hz he hx1 hx''
          go_wp2
          go_ret
          exact ⟨rfl, X5.out⟩
        · have hz0 : ((x : Int) == 0) = false := by simp [hz]
          have he' : ((lf : Int) == (p : Int)) = true := by simp; omega
          clear hz he
          go_wp2
          go_ret
          exact ⟨rfl, X5.out⟩

      · have hx' : decide (1 < x) = true := by simp; omega
        have hx'' : 1 < x := by omega
        obtain ⟨wr, hwr⟩ : ∃ wr, wr = bor p 1 := ⟨_, rfl⟩
        obtain ⟨an, ha, lf, hlf, he⟩ := HW.out wr (.inr ⟨hwr, hx''⟩)
        have HA := Lib.hid ha; have HLF := Lib.hid hlf
        rw [← hwr] at e1
        clear ha hlf HW hwr hx1
        go_wp2_with fail
        refine (poolAnswersI_c n _ xs wr w3 R3.out hm).mono ?_
        rintro e w4 ⟨rfl, x4⟩
        rw [HA.out]
        unfold pairV
        have R4 := Lib.hid (R3.out.ext x4); have X4 := Lib.hid (X3.out.trans x4); clear x4
        go_wp2_with fail
        refine (poolLeftI_c n _ xs an w4 R4.out hm).mono ?_
        rintro e w5 ⟨rfl, x5⟩
        rw [HLF.out]
        unfold pairV
        have X5 := Lib.hid (X4.out.trans x5); clear x5
        by_cases hz : x = 0
        · have hz0 : ((x : Int) == 0) = true := by simp [hz]
          clear hz he
          go_wp2
          go_ret
          exact ⟨rfl, X5.out⟩
        · have hz0 : ((x : Int) == 0) = false := by simp [hz]
          have he' : ((lf : Int) == (wr : Int)) = true := by simp; omega
          clear hz he
          go_wp2
          go_ret
          exact ⟨rfl, X5.out⟩

  · go_wp2
    go_ret
    exact ⟨rfl, Below.refl _ _⟩
end Go.Proofs.Ytnpkkfaidejljaa
