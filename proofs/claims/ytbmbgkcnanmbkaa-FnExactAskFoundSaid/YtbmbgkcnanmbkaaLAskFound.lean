/- The walk of the law FnExactAskFound. No condition. -/
import Derived.Test.YtbmbgkcnanmbkaaFound
namespace Go.Proofs.Ytbmbgkcnanmbkaa
open Go.RowKit

set_option maxHeartbeats 2000000 in
theorem FnExactAskFound_walk (v : Value) (xs : List Int) (v' : Value) (ys : List Int) (s : ByteArray) (w : World) (hv : Rd w v xs) (hv' : Rd w v' ys) (_ : s.size ≤ maxLen) :
    Calls Try.prog 9 #[v, v', .string s] w fun e w' => e = .returned (.bool true) ∧ Below w.heap.size w w' := by
  obtain ⟨a, c, rfl⟩ := hv.form
  obtain ⟨a', c', rfl⟩ := hv'.form
  have HV := Lib.hid hv; have HV' := Lib.hid hv'; clear hv hv'
  go_enter Try.func9, Try.ntmps9
  by_cases hl : xs.length ≤ 1048576
  · by_cases hl' : ys.length ≤ 1048576
    · by_cases hl2 : s.size ≤ 1048576
      · go_wp2_with fail
        refine (toIntS_c _ _ _ HV.out hl).mono ?_
        rintro e w1 ⟨v1, rfl, o1, n1, x1⟩
        have O1 := Lib.hid o1; have X1 := Lib.hid x1; clear o1 n1 x1
        go_wp2_with fail
        refine (toIntS_c _ _ _ (HV'.out.ext X1.out) hl').mono ?_
        rintro e w2 ⟨v2, rfl, o2, n2, x2⟩
        have O2 := Lib.hid o2; have P2 := Lib.hid (O1.out.ext x2); have X2 := Lib.hid (X1.out.trans x2); clear o2 n2 x2
        go_wp2_with fail
        refine (askFoundS_c _ _ _ _ _ _ P2.out.rd O2.out.rd hl hl').mono ?_
        rintro e w3 ⟨rfl, x3⟩
        unfold pairV
        have X3 := Lib.hid (X2.out.trans x3); clear x3
        go_wp2_with fail
        refine (toIntS_c _ _ _ (HV.out.ext X3.out) hl).mono ?_
        rintro e w4 ⟨v4, rfl, o4, n4, x4⟩
        have O4 := Lib.hid o4; have X4 := Lib.hid (X3.out.trans x4); clear o4 n4 x4
        go_wp2_with fail
        refine (toIntS_c _ _ _ (HV'.out.ext X4.out) hl').mono ?_
        rintro e w5 ⟨v5, rfl, o5, n5, x5⟩
        have O5 := Lib.hid o5; have P5 := Lib.hid (O4.out.ext x5); have X5 := Lib.hid (X4.out.trans x5); clear o5 n5 x5
        go_wp2_with fail
        refine (askFoundI_c _ _ _ _ _ _ P5.out.rd O5.out.rd hl hl').mono ?_
        rintro e w6 ⟨rfl, x6⟩
        unfold pairV
        have P6 := Lib.hid (P5.out.ext x6); have O6 := Lib.hid (O5.out.ext x6); have X6 := Lib.hid (X5.out.trans x6); clear x6
        go_wp2_with fail
        refine (toIntS_c _ _ _ (HV.out.ext X6.out) hl).mono ?_
        rintro e w7 ⟨v7, rfl, o7, n7, x7⟩
        have O7 := Lib.hid o7; have P7 := Lib.hid (P6.out.ext x7); have Q7 := Lib.hid (O6.out.ext x7); have X7 := Lib.hid (X6.out.trans x7); clear o7 n7 x7
        go_wp2_with fail
        refine (eqIntS_c _ _ _ _ _ P7.out.rd O7.out.rd hl hl).mono ?_
        rintro e w8 ⟨rfl, x8⟩
        have Q8 := Lib.hid (Q7.out.ext x8); have X8 := Lib.hid (X7.out.trans x8); clear x8
        simp only [beq_self_eq_true]
        go_wp2_with fail
        refine (toIntS_c _ _ _ (HV'.out.ext X8.out) hl').mono ?_
        rintro e w9 ⟨v9, rfl, o9, n9, x9⟩
        have O9 := Lib.hid o9; have Q9 := Lib.hid (Q8.out.ext x9); have X9 := Lib.hid (X8.out.trans x9); clear o9 n9 x9
        go_wp2_with fail
        refine (eqIntS_c _ _ _ _ _ Q9.out.rd O9.out.rd hl' hl').mono ?_
        rintro e w10 ⟨rfl, x10⟩
        have X10 := Lib.hid (X9.out.trans x10); clear x10
        simp only [beq_self_eq_true]
        go_wp2
        go_ret
        exact ⟨rfl, X10.out⟩
      · go_wp2
        go_ret
        exact ⟨rfl, Below.refl _ _⟩
    · go_wp2
      go_ret
      exact ⟨rfl, Below.refl _ _⟩
  · go_wp2
    go_ret
    exact ⟨rfl, Below.refl _ _⟩
end Go.Proofs.Ytbmbgkcnanmbkaa
