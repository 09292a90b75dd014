/- The walk of the law FnBest. No condition. -/
import Derived.Test.YtnpkkfaidejljaaDAsk
import Derived.Test.YtnpkkfaidejljaaBest
import Derived.Test.YtnpkkfaidejljaaSplit
import Derived.Test.YtnpkkfaidejljaaDFacts
namespace Go.Proofs.Ytnpkkfaidejljaa
open Go.RowKit
open BigFrame

/-- What a best question gives. -/
theorem best_all {g : List Int} {s : Nat} (hs : s < 64) : askBest g s = (0, false) ∨ ∃ X I O D D1 dx dy : Nat, X ≤ 11 ∧ I ≤ 4095 ∧ O ≤ 4095 ∧ D ≤ 11 ∧ askBest g s = (((X : Nat) : Int), true) ∧ askSplit g s X = (((I : Nat) : Int), ((O : Nat) : Int), true) ∧ askDepth g s = (((D : Nat) : Int), true) ∧ askDepth g I = (((dx : Nat) : Int), true) ∧ askDepth g O = (((dy : Nat) : Int), true) ∧ dx < D ∧ dy < D ∧ (D : Int) - 1 = (D1 : Int) ∧ max (dx : Int) (dy : Int) = (D1 : Int) := by
  cases hf : okD g s && decide (dep g s ≠ 0)
  · exact .inl (by unfold askBest; rw [show ((s : Int).toNat) = s from rfl, hf]; rfl)
  · have hb : askBest g s = (((bestOf g s : Nat) : Int), true) := by unfold askBest; rw [show ((s : Int).toNat) = s from rfl, hf]; rfl
    rw [Bool.and_eq_true, decide_eq_true_iff] at hf
    obtain ⟨hok, hd0⟩ := hf
    obtain ⟨k, hk, hG, hlt, hk2, hk0, hd⟩ := okD_iff.1 hok
    obtain rfl : k = s := by omega
    obtain ⟨hgood, hX⟩ := best_good hk2 hd hd0
    obtain ⟨⟨t1, t2⟩, d1, d2⟩ := good_iff.1 hgood
    have hmax := best_max hk2 hd hd0
    have i1 := qIn_le g k (bestOf g k)
    have i2 := without_sub_le k (qIn g k (bestOf g k))
    have hl := hG.le
    refine .inr ⟨bestOf g k, qIn g k (bestOf g k), without k (qIn g k (bestOf g k)), dep g k, dep g k - 1, dep g (qIn g k (bestOf g k)), dep g (without k (qIn g k (bestOf g k))), by omega, by omega, by omega, dep_small hk2 (by omega), hb, ?_, ?_, ?_, ?_, d1, d2, by omega, by omega⟩
    · unfold askSplit
      rw [show fits g (k : Int) = true from fits_iff.2 ⟨k, rfl, hG, hlt⟩, show inB 0 ((bestOf g k : Nat) : Int) ((g.length : Int) - 1) = true from inB_iff.2 ⟨by omega, by omega⟩]
      rfl
    · unfold askDepth; rw [hok]; rfl
    · have ok : okD g ((qIn g k (bestOf g k) : Nat) : Int) = true := okD_iff.2 ⟨_, rfl, hG, by omega, by omega, t1, by omega⟩
      unfold askDepth; rw [ok]; rfl
    · have ok : okD g ((without k (qIn g k (bestOf g k)) : Nat) : Int) = true := okD_iff.2 ⟨_, rfl, hG, by omega, by omega, mt qOut_zero.1 t2, by omega⟩
      unfold askDepth; rw [ok]; rfl

set_option maxRecDepth 100000 in
set_option maxHeartbeats 1000000 in
theorem FnBest_walk (v : Value) (bs : List Int) (w : World) (hv : Rb w v bs) :
    Calls Try.prog 22 #[v] w fun e w' => e = .returned (.bool true) ∧ Below w.heap.size w w' := by
  have HV := Lib.hid hv
  obtain ⟨a, c, rfl, -, -⟩ := hv
  go_enter Try.func22, Try.ntmps22
  by_cases hl : bs.length ≤ 1048576
  · go_wp2_with fail
    refine (drawAskBest_c _ bs w HV.out hl).mono ?_
    rintro e w1 ⟨v1, gs, s, rfl, hn1, hn6, hs, hs64, r1, x1⟩
    obtain ⟨a1, c1, rfl⟩ := r1.form
    have hm : gs.length ≤ 1048576 := by omega
    have R1 := Lib.hid r1; have X1 := Lib.hid x1
    clear r1 x1 hs
    rcases best_all hs64 with h0 | ⟨X, I, O, D, D1, dx, dy, hX, hI, hO, hD, hB, hS, hA, hAx, hAy, hdx, hdy, hD1, hmx⟩
    · have H0 := Lib.hid h0
      clear h0
      go_wp2_with fail
      refine (askBestI_c _ gs s w1 R1.out hm).mono ?_
      rintro e w2 ⟨rfl, x2⟩
      rw [H0.out]
      unfold pairV
      have R2 := Lib.hid (R1.out.ext x2); have X2 := Lib.hid (X1.out.trans x2); clear x2
      go_wp2_with fail
      refine (askBestS_c _ gs s w2 R2.out hm).mono ?_
      rintro e w3 ⟨rfl, x3⟩
      rw [H0.out]
      unfold pairV
      have R3 := Lib.hid (R2.out.ext x3); have X3 := Lib.hid (X2.out.trans x3); clear x3
      go_wp2
      go_ret
      exact ⟨rfl, X3.out⟩
    · have HB := Lib.hid hB; have HS := Lib.hid hS; have HA := Lib.hid hA; have HAx := Lib.hid hAx; have HAy := Lib.hid hAy
      have f1 : decide (dx < D) = true := by simp; omega
      have f2 : decide (dy < D) = true := by simp; omega
      clear hB hS hA hAx hAy
      go_wp2_with fail
      refine (askBestI_c _ gs s w1 R1.out hm).mono ?_
      rintro e w2 ⟨rfl, x2⟩
      rw [HB.out]
      unfold pairV
      have R2 := Lib.hid (R1.out.ext x2); have X2 := Lib.hid (X1.out.trans x2); clear x2
      go_wp2_with fail
      refine (askBestS_c _ gs s w2 R2.out hm).mono ?_
      rintro e w3 ⟨rfl, x3⟩
      rw [HB.out]
      unfold pairV
      have R3 := Lib.hid (R2.out.ext x3); have X3 := Lib.hid (X2.out.trans x3); clear x3
      go_wp2_with fail
      refine (askSplitI_c _ gs s X w3 R3.out hm).mono ?_
      rintro e w4 ⟨rfl, x4⟩
      rw [HS.out]
      unfold triV
      have R4 := Lib.hid (R3.out.ext x4); have X4 := Lib.hid (X3.out.trans x4); clear x4
      go_wp2_with fail
      refine (askDepthI_c _ gs s w4 R4.out hm).mono ?_
      rintro e w5 ⟨rfl, x5⟩
      rw [HA.out]
      unfold pairV
      have R5 := Lib.hid (R4.out.ext x5); have X5 := Lib.hid (X4.out.trans x5); clear x5
      go_wp2_with fail
      refine (askDepthI_c _ gs I w5 R5.out hm).mono ?_
      rintro e w6 ⟨rfl, x6⟩
      rw [HAx.out]
      unfold pairV
      have R6 := Lib.hid (R5.out.ext x6); have X6 := Lib.hid (X5.out.trans x6); clear x6
      go_wp2_with fail
      refine (askDepthI_c _ gs O w6 R6.out hm).mono ?_
      rintro e w7 ⟨rfl, x7⟩
      rw [HAy.out]
      unfold pairV
      have R7 := Lib.hid (R6.out.ext x7); have X7 := Lib.hid (X6.out.trans x7); clear x7
      go_wp2
      all_goals
        go_ret
        exact ⟨ret_bool (by rw [beq_iff_eq]; omega), X7.out⟩
  · go_wp2
    go_ret
    exact ⟨rfl, Below.refl _ _⟩
end Go.Proofs.Ytnpkkfaidejljaa
