/- The walk of the law FnExactSensorSilent. No condition. -/
import Derived.Test.YtnpkkfaidejljaaSilent
namespace Go.Proofs.Ytnpkkfaidejljaa
open Go.RowKit

set_option maxHeartbeats 1000000 in
theorem FnExactSensorSilent_walk (v : Value) (xs : List Int) (a1 : Int) (w : World) (hv : Rd w v xs) (_ : (Lit.int .i64 a1).wf = true) :
    Calls Try.prog 8 #[v, .int .i64 a1] w fun e w' => e = .returned (.bool true) ∧ Below w.heap.size w w' := by
  obtain ⟨a, c, rfl⟩ := hv.form
  have HV := Lib.hid hv; clear hv
  go_enter Try.func8, Try.ntmps8
  by_cases hl : xs.length ≤ 1048576
  · go_wp2_with fail
    refine (toIntS_c _ _ _ HV.out hl).mono ?_
    rintro e w1 ⟨v1, rfl, o1, n1, x1⟩
    have O1 := Lib.hid o1; have X1 := Lib.hid x1; clear o1 n1 x1
    go_wp2_with fail
    refine (sensorSilentS_c _ _ _ _ O1.out.rd hl).mono ?_
    rintro e w2 ⟨rfl, x2⟩
    unfold pairV
    have X2 := Lib.hid (X1.out.trans x2); clear x2
    go_wp2_with fail
    refine (toIntS_c _ _ _ (HV.out.ext X2.out) hl).mono ?_
    rintro e w3 ⟨v3, rfl, o3, n3, x3⟩
    have O3 := Lib.hid o3; have X3 := Lib.hid (X2.out.trans x3); clear o3 n3 x3
    go_wp2_with fail
    refine (sensorSilentI_c _ _ _ _ O3.out.rd hl).mono ?_
    rintro e w4 ⟨rfl, x4⟩
    unfold pairV
    have X4 := Lib.hid (X3.out.trans x4); have Y4 := Lib.hid x4; clear x4
    go_wp2_with fail
    refine (toIntS_c _ _ _ (HV.out.ext X4.out) hl).mono ?_
    rintro e w5 ⟨v5, rfl, o5, n5, x5⟩
    have O5 := Lib.hid o5; have X5 := Lib.hid (X4.out.trans x5); have Y5 := Lib.hid (Y4.out.trans x5); clear o5 n5 x5
    go_wp2_with fail
    refine (eqIntS_c _ _ _ _ _ (O3.out.rd.ext Y5.out) O5.out.rd hl hl).mono ?_
    rintro e w6 ⟨rfl, x6⟩
    have X6 := Lib.hid (X5.out.trans x6); clear x6
    simp only [beq_self_eq_true]
    go_wp2
    go_ret
    exact ⟨rfl, X6.out⟩
  · go_wp2
    go_ret
    exact ⟨rfl, Below.refl _ _⟩
end Go.Proofs.Ytnpkkfaidejljaa
