/- The walk of the law FnExactPoolDigits. No condition. -/
import Derived.Test.YtbmbgkcnanmbkaaDigits
namespace Go.Proofs.Ytbmbgkcnanmbkaa
open Go.RowKit

theorem digits_len (a : Int) : (digits a).1.length ≤ 5 := by
  unfold digits
  split
  · unfold digitsN; rw [digitsTo_length]; exact Nat.le_trans List.countP_le_length (by simp)
  · simp

set_option maxHeartbeats 1000000 in
theorem FnExactPoolDigits_walk (a0 : Int) (w : World) (_ : (Lit.int .i64 a0).wf = true) :
    Calls Try.prog 4 #[.int .i64 a0] w fun e w' => e = .returned (.bool true) ∧ Below w.heap.size w w' := by
  have hl := digits_len a0
  go_enter Try.func4, Try.ntmps4
  go_wp2_with fail
  refine (poolDigitsS_c _ _).mono ?_
  rintro e w1 ⟨v1, rfl, o1, x1⟩
  unfold listV
  have O1 := Lib.hid o1; have X1 := Lib.hid x1; clear o1 x1
  go_wp2_with fail
  refine (poolDigitsI_c _ _).mono ?_
  rintro e w2 ⟨v2, rfl, o2, x2⟩
  unfold listV
  have O2 := Lib.hid o2; have X2 := Lib.hid x2; clear o2 x2
  go_wp2_with fail
  refine (eqIntS_c _ _ _ _ _ O2.out.rd (O1.out.rd.ext X2.out) (by omega) (by omega)).mono ?_
  rintro e w3 ⟨rfl, x3⟩
  have X3 := Lib.hid (X2.out.trans x3); have O3 := Lib.hid (O2.out.ext x3); clear x3
  simp only [beq_self_eq_true]
  go_wp2_with fail
  refine (markIntS_c _ _ 1 _ _ O3.out (by omega) (by omega)).mono ?_
  rintro e w4 ⟨rfl, o4, g4⟩
  have X4 := Lib.hid (O3.out.grew X3.out g4 (Nat.le_refl _)); have O4 := Lib.hid o4; clear o4 g4
  go_wp2_with fail
  refine (heldIntS_c _ 1 _ _ O4.out.rd (by omega) (by omega)).mono ?_
  rintro e w5 ⟨rfl, x5⟩
  have X5 := Lib.hid (X4.out.trans x5); have O5 := Lib.hid (O4.out.ext x5); clear x5
  go_wp2_with fail
  refine (poolDigitsI_c _ _).mono ?_
  rintro e w6 ⟨v6, rfl, o6, x6⟩
  unfold listV
  have O6 := Lib.hid o6; have X6 := Lib.hid (X5.out.trans x6); have P6 := Lib.hid (O5.out.ext x6); clear o6 x6
  go_wp2_with fail
  refine (eqIntS_c _ _ _ _ _ O6.out.rd (O1.out.rd.ext X6.out) (by omega) (by omega)).mono ?_
  rintro e w7 ⟨rfl, x7⟩
  have X7 := Lib.hid (X6.out.trans x7); have P7 := Lib.hid (P6.out.ext x7); clear x7
  simp only [beq_self_eq_true]
  go_wp2_with fail
  refine (heldIntS_c _ 1 _ _ P7.out.rd (by omega) (by omega)).mono ?_
  rintro e w8 ⟨rfl, x8⟩
  have X8 := Lib.hid (X1.out.trans (X7.out.trans x8)); clear x8
  go_wp2
  go_ret
  exact ⟨rfl, X8.out⟩
end Go.Proofs.Ytbmbgkcnanmbkaa
