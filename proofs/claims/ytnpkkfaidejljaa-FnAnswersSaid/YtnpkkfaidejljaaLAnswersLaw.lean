/- The walk of the law FnAnswers. No condition. -/
import Derived.Test.YtnpkkfaidejljaaDraws
import Derived.Test.YtnpkkfaidejljaaLeft
import Derived.Test.YtnpkkfaidejljaaPFacts
namespace Go.Proofs.Ytnpkkfaidejljaa
open Go.RowKit
open BigFrame

theorem answers_all {n x : Nat} {xs : List Int} (h1 : 1 ≤ n) (h6 : n ≤ 6) : poolAnswers n xs x = (0, false) ∨ (∃ A : Nat, A ≤ 65535 ∧ poolAnswers n xs x = (((A : Nat) : Int), true) ∧ ∃ Y : Nat, Y ≤ 65535 ∧ poolAnswers n xs 1 = (((Y : Nat) : Int), true) ∧ poolAnswers n xs ((bor x 1 : Nat) : Int) = (((bor A Y : Nat) : Int), true) ∧ ∃ LF : Nat, LF ≤ 4095 ∧ poolLeft n xs A = (((LF : Nat) : Int), true) ∧ without x LF = 0 ∧ x ≤ 64) := by
  cases hi : poolIn n xs
  · exact .inl (by unfold poolAnswers; rw [hi]; rfl)
  · cases hs : setB (x : Int) n
    · refine .inl ?_
      unfold poolAnswers
      rw [hi, show (n : Int).toNat = n from rfl, hs]; rfl
    · obtain ⟨m, hm, hP⟩ := poolIn_iff.1 hi
      obtain rfl : m = n := by omega
      obtain ⟨y, hy, hlt⟩ := setB_iff.1 hs
      obtain rfl : y = x := by omega
      have key : ∀ z : Nat, z < 2 ^ m → poolAnswers m xs z = (((answersOf xs z : Nat) : Int), true) := fun z hz => by
        unfold poolAnswers
        rw [hi, show (m : Int).toNat = m from rfl, setB_iff.2 ⟨z, rfl, hz⟩]; rfl
      have h2 : 2 ^ 1 ≤ 2 ^ m := Nat.pow_le_pow_right (by omega) h1
      have h64 : 2 ^ m ≤ 2 ^ 6 := Nat.pow_le_pow_right (by omega) h6
      have hl := hP.len
      refine .inr ⟨answersOf xs y, answersTo_small hl, key y hlt, answersOf xs 1, answersTo_small hl, key 1 (by omega), ?_, leftOf m xs (answersOf xs y), leftTo_small hP.le, ?_, wrong_left hlt, by omega⟩
      · rw [key (bor y 1) (bor_lt hlt (by omega)), answers_bor]
      · unfold poolLeft
        rw [hi, setB_iff.2 ⟨answersOf xs y, rfl, answersTo_lt xs y xs.length⟩]; rfl

set_option maxRecDepth 100000 in
set_option maxHeartbeats 1000000 in
theorem FnAnswers_walk (v : Value) (bs : List Int) (w : World) (hv : Rb w v bs) :
    Calls Try.prog 13 #[v] w fun e w' => e = .returned (.bool true) ∧ Below w.heap.size w w' := by
  have HV := Lib.hid hv
  obtain ⟨a, c, rfl, -, -⟩ := hv
  go_enter Try.func13, Try.ntmps13
  by_cases hl : bs.length ≤ 1048576
  · go_wp2_with fail
    refine (drawPoolAnswers_c _ bs w HV.out hl).mono ?_
    rintro e w1 ⟨n, v1, xs, x, rfl, hn1, hn6, hxl, r1, x1⟩
    obtain ⟨a1, c1, rfl⟩ := r1.form
    have hm : xs.length ≤ 1048576 := by omega
    have R1 := Lib.hid r1; have X1 := Lib.hid x1
    clear r1 x1
    have HC : Hid (poolAnswers n xs x = (0, false) ∨ (∃ A : Nat, A ≤ 65535 ∧ poolAnswers n xs x = (((A : Nat) : Int), true) ∧ ∃ Y : Nat, Y ≤ 65535 ∧ poolAnswers n xs 1 = (((Y : Nat) : Int), true) ∧ poolAnswers n xs ((bor x 1 : Nat) : Int) = (((bor A Y : Nat) : Int), true) ∧ ∃ LF : Nat, LF ≤ 4095 ∧ poolLeft n xs A = (((LF : Nat) : Int), true) ∧ without x LF = 0 ∧ x ≤ 64)) := answers_all hn1 hn6
    rcases HC.out with h0 | ⟨A, hA, hA2, Y, hY, hY2, hB, LF, hLF, hL2, hW, hx6⟩
    · have H0 := Lib.hid h0
      clear HC h0
      go_wp2_with fail
      refine (poolAnswersI_c n _ xs x w1 R1.out hm).mono ?_
      rintro e w2 ⟨rfl, x2⟩
      rw [H0.out]
      unfold pairV
      have R2 := Lib.hid (R1.out.ext x2); have X2 := Lib.hid (X1.out.trans x2); clear x2
      go_wp2_with fail
      refine (poolAnswersS_c n _ xs x w2 R2.out hm).mono ?_
      rintro e w3 ⟨rfl, x3⟩
      rw [H0.out]
      unfold pairV
      have R3 := Lib.hid (R2.out.ext x3); have X3 := Lib.hid (X2.out.trans x3); clear x3
      go_wp2
      go_ret
      exact ⟨rfl, X3.out⟩
    · have HA2 := Lib.hid hA2; have HY2 := Lib.hid hY2; have HB := Lib.hid hB; have HL2 := Lib.hid hL2
      have e1 : bits .or .i64 (x : Int) 1 = ((bor x 1 : Nat) : Int) := bits_or x 1 (by omega) (by omega)
      have e2 := bits_or A Y (by omega) (by omega)
      have e3 := bits_andNot x LF (by omega) (by omega)
      rw [hW] at e3
      obtain ⟨AY, hAY⟩ : ∃ z, z = bor A Y := ⟨_, rfl⟩
      obtain ⟨x1, hx1⟩ : ∃ z, z = bor x 1 := ⟨_, rfl⟩
      rw [← hAY] at e2 HB
      rw [← hx1] at e1 HB
      clear HC hA2 hY2 hB hL2 hW hAY hx1
      go_wp2_with fail
      refine (poolAnswersI_c n _ xs x w1 R1.out hm).mono ?_
      rintro e w2 ⟨rfl, x2⟩
      rw [HA2.out]
      unfold pairV
      have R2 := Lib.hid (R1.out.ext x2); have X2 := Lib.hid (X1.out.trans x2); clear x2
      go_wp2_with fail
      refine (poolAnswersS_c n _ xs x w2 R2.out hm).mono ?_
      rintro e w3 ⟨rfl, x3⟩
      rw [HA2.out]
      unfold pairV
      have R3 := Lib.hid (R2.out.ext x3); have X3 := Lib.hid (X2.out.trans x3); clear x3
      go_wp2_with fail
      refine (poolAnswersI_c n _ xs x1 w3 R3.out hm).mono ?_
      rintro e w4 ⟨rfl, x4⟩
      rw [HB.out]
      unfold pairV
      have R4 := Lib.hid (R3.out.ext x4); have X4 := Lib.hid (X3.out.trans x4); clear x4
      go_wp2_with fail
      refine (poolAnswersI_c n _ xs 1 w4 R4.out hm).mono ?_
      rintro e w5 ⟨rfl, x5⟩
      rw [HY2.out]
      unfold pairV
      have R5 := Lib.hid (R4.out.ext x5); have X5 := Lib.hid (X4.out.trans x5); clear x5
      go_wp2_with fail
      refine (poolLeftI_c n _ xs A w5 R5.out hm).mono ?_
      rintro e w6 ⟨rfl, x6⟩
      rw [HL2.out]
      unfold pairV
      have R6 := Lib.hid (R5.out.ext x6); have X6 := Lib.hid (X5.out.trans x6); clear x6
      go_wp2
      go_ret
      exact ⟨rfl, X6.out⟩
  · go_wp2
    go_ret
    exact ⟨rfl, Below.refl _ _⟩
end Go.Proofs.Ytnpkkfaidejljaa
