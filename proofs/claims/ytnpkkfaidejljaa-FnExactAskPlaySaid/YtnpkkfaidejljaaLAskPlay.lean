/- The walk of the law FnExactAskPlay. No condition. -/
import Derived.Test.YtnpkkfaidejljaaPlayI
namespace Go.Proofs.Ytnpkkfaidejljaa
open Go.RowKit

theorem askPlay_small (g : List Int) (x : Int) : (askPlay g x).1.length ≤ 99 := by
  unfold askPlay
  split
  · show (played _ _ _ _).length ≤ 99
    unfold played
    rw [List.length_map]
    exact (play_length _ _ _ _).1
  · simp

set_option maxHeartbeats 2000000 in
theorem FnExactAskPlay_walk (v : Value) (xs : List Int) (a1 : Int) (w : World) (hv : Rd w v xs) (_ : (Lit.int .i64 a1).wf = true) :
    Calls Try.prog 5 #[v, .int .i64 a1] w fun e w' => e = .returned (.bool true) ∧ Below w.heap.size w w' := by
  obtain ⟨a, c, rfl⟩ := hv.form
  have HV := Lib.hid hv; clear hv
  have hs := askPlay_small xs a1
  go_enter Try.func5, Try.ntmps5
  by_cases hl : xs.length ≤ 1048576
  · -- the reference
    go_wp2_with fail
    refine (toIntS_c _ _ _ HV.out hl).mono ?_
    rintro e w1 ⟨v1, rfl, o1, n1, x1⟩
    have O1 := Lib.hid o1; have X1 := Lib.hid x1; clear o1 n1 x1
    go_wp2_with fail
    refine (askPlayS_c _ _ _ _ O1.out.rd hl).mono ?_
    rintro e w2 ⟨v2, rfl, o2, x2⟩
    unfold listV
    have O2 := Lib.hid o2; have X2 := Lib.hid (X1.out.trans x2); clear o2 x2
    -- the program
    go_wp2_with fail
    refine (toIntS_c _ _ _ (HV.out.ext X2.out) hl).mono ?_
    rintro e w3 ⟨v3, rfl, o3, n3, x3⟩
    have O3 := Lib.hid o3; have P3 := Lib.hid (O2.out.ext x3); have X3 := Lib.hid (X2.out.trans x3); have Y3 := Lib.hid x3; clear o3 n3 x3
    go_wp2_with fail
    refine (askPlayI_c _ _ _ _ O3.out.rd hl).mono ?_
    rintro e w4 ⟨v4, rfl, o4, x4⟩
    unfold listV
    have O4 := Lib.hid o4; have P4 := Lib.hid (P3.out.ext x4); have Q4 := Lib.hid (O3.out.ext x4); have X4 := Lib.hid (X3.out.trans x4); have Y4 := Lib.hid (Y3.out.trans x4); clear o4 x4
    go_wp2_with fail
    refine (eqIntS_c _ _ _ _ _ O4.out.rd P4.out.rd (by omega) (by omega)).mono ?_
    rintro e w5 ⟨rfl, x5⟩
    have O5 := Lib.hid (O4.out.ext x5); have P5 := Lib.hid (P4.out.ext x5); have Q5 := Lib.hid (Q4.out.ext x5); have X5 := Lib.hid (X4.out.trans x5); have Y5 := Lib.hid (Y4.out.trans x5); clear x5
    simp only [beq_self_eq_true]
    go_wp2_with fail
    refine (toIntS_c _ _ _ (HV.out.ext X5.out) hl).mono ?_
    rintro e w6 ⟨v6, rfl, o6, n6, x6⟩
    have O6 := Lib.hid (O5.out.ext x6); have P6 := Lib.hid (P5.out.ext x6); have Q6 := Lib.hid (Q5.out.ext x6); have R6 := Lib.hid o6; have X6 := Lib.hid (X5.out.trans x6); have Y6 := Lib.hid (Y5.out.trans x6); clear o6 n6 x6
    go_wp2_with fail
    refine (eqIntS_c _ _ _ _ _ Q6.out.rd R6.out.rd hl hl).mono ?_
    rintro e w7 ⟨rfl, x7⟩
    have O7 := Lib.hid (O6.out.ext x7); have P7 := Lib.hid (P6.out.ext x7); have Q7 := Lib.hid (Q6.out.ext x7); have X7 := Lib.hid (X6.out.trans x7); have Y7 := Lib.hid (Y6.out.trans x7); clear x7
    simp only [beq_self_eq_true]
    -- the argument is written over: what was returned stays
    go_wp2_with fail
    refine (markIntS_c _ _ 1 _ _ Q7.out hl (by omega)).mono ?_
    rintro e w8 ⟨rfl, -, g8⟩
    have Y8 := Lib.hid (Q7.out.grew Y7.out g8 (Nat.le_refl _))
    have HLT := Lib.hid (Y3.out.size)
    have O8 : Hid (Own w8 w3.heap.size v4 (askPlay xs a1).1) := O7.out.kept g8 (by
      cases hb : v4.ownBlock with
      | none => exact .inl rfl
      | some b =>
        refine .inr fun e => ?_
        have h1 := (O4.out.lt b hb).1
        have h2 := (O3.out.lt b e.symm).2
        omega)
    clear g8
    go_wp2_with fail
    refine (eqIntS_c _ _ _ _ _ O8.out.rd (O2.out.ext Y8.out).rd (by omega) (by omega)).mono ?_
    rintro e w9 ⟨rfl, x9⟩
    have O9 := Lib.hid (O8.out.ext x9); have Y9 := Lib.hid (Y8.out.trans x9); clear x9
    simp only [beq_self_eq_true]
    -- what was returned is written over: another call makes its own
    go_wp2_with fail
    refine (markIntS_c _ _ 1 _ _ O9.out (by omega) (by omega)).mono ?_
    rintro e w10 ⟨rfl, o10, g10⟩
    have O10 := Lib.hid o10; have Y10 := Lib.hid (O9.out.grew Y9.out g10 HLT.out); clear o10 g10
    go_wp2_with fail
    refine (heldIntS_c _ 1 _ _ O10.out.rd (by omega) (by omega)).mono ?_
    rintro e w11 ⟨rfl, x11⟩
    have O11 := Lib.hid (O10.out.ext x11); have Y11 := Lib.hid (Y10.out.trans x11); clear x11
    go_wp2_with fail
    refine (toIntS_c _ _ _ (HV.out.ext (X2.out.trans Y11.out)) hl).mono ?_
    rintro e w12 ⟨v12, rfl, o12, n12, x12⟩
    have O12 := Lib.hid (O11.out.ext x12); have P12 := Lib.hid o12; have Y12 := Lib.hid (Y11.out.trans x12); clear o12 n12 x12
    go_wp2_with fail
    refine (askPlayI_c _ _ _ _ P12.out.rd hl).mono ?_
    rintro e w13 ⟨v13, rfl, o13, x13⟩
    unfold listV
    have O13 := Lib.hid (O12.out.ext x13); have P13 := Lib.hid o13; have Y13 := Lib.hid (Y12.out.trans x13); clear o13 x13
    go_wp2_with fail
    refine (eqIntS_c _ _ _ _ _ P13.out.rd (O2.out.ext Y13.out).rd (by omega) (by omega)).mono ?_
    rintro e w14 ⟨rfl, x14⟩
    have O14 := Lib.hid (O13.out.ext x14); have Y14 := Lib.hid (Y13.out.trans x14); clear x14
    simp only [beq_self_eq_true]
    go_wp2_with fail
    refine (heldIntS_c _ 1 _ _ O14.out.rd (by omega) (by omega)).mono ?_
    rintro e w15 ⟨rfl, x15⟩
    have X15 := Lib.hid (X2.out.trans (Y14.out.trans x15)); clear x15
    go_wp2
    go_ret
    exact ⟨rfl, X15.out⟩
  · go_wp2
    go_ret
    exact ⟨rfl, Below.refl _ _⟩
end Go.Proofs.Ytnpkkfaidejljaa
