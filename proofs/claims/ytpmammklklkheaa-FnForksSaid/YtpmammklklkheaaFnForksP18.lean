/- What the walk of FnForks rests on, part 18: plain facts, and contracts of the functions that it reaches. Each states its own condition. -/
import Derived.Test.YtpmammklklkheaaFnForksP7
import Derived.Test.YtpmammklklkheaaFnForksP17
/- The walk of the law FnForks: forks have three neighbours at least. No condition. -/
namespace Go.Proofs.Ytpmammklklkheaa
open Go.RowKit
open BigFrame

set_option maxRecDepth 100000 in
set_option maxHeartbeats 2000000 in
theorem FnForks_walk (v : Value) (bs : List Int) (w : World) (hv : Rb w v bs) :
    Calls Try.prog 3 #[v] w fun e w' => e = .returned (.bool true) ∧ Below w.heap.size w w' := by
  have HV := Lib.hid hv
  obtain ⟨a, c, rfl, -, -⟩ := hv
  go_enter Try.func3, Try.ntmps3
  by_cases hl : bs.length ≤ 1048576
  · go_wp2_with fail
    refine (drawTreeForks_c _ bs w HV.out hl).mono ?_
    rintro e w1 ⟨v1, gs, rfl, hn1, hn9, hlo, r1, x1⟩
    obtain ⟨a1, cc1, rfl⟩ := r1.form
    have hm : gs.length ≤ 1048576 := by omega
    have R1 := Lib.hid r1; have X1 := Lib.hid x1; have HLO := Lib.hid hlo
    clear r1 x1 hlo
    cases h0 : treeB gs
    · have H0 : Hid (treeForks gs = (0, false)) := by unfold treeForks Hid; rw [h0]; rfl
      clear h0
      go_wp2_with fail
      refine (treeForksI_c _ gs w1 R1.out hm HLO.out).mono ?_
      rintro e w2 ⟨rfl, x2⟩
      rw [H0.out]
      unfold pairV
      have R2 := Lib.hid (R1.out.ext x2); have X2 := Lib.hid (X1.out.trans x2); clear x2
      go_wp2_with fail
      refine (treeForksS_c _ gs w2 R2.out hm).mono ?_
      rintro e w3 ⟨rfl, x3⟩
      rw [H0.out]
      unfold pairV
      have X3 := Lib.hid (X2.out.trans x3); clear x3
      go_wp2
      go_ret
      exact ⟨rfl, X3.out⟩
    · have H0 : Hid (treeForks gs = (((forksN gs : Nat) : Int), true)) := by unfold treeForks Hid; rw [h0]; rfl
      have H1 : Hid (treeLeaves gs = (((leavesN gs : Nat) : Int), true)) := by unfold treeLeaves Hid; rw [h0]; rfl
      have HG := Lib.hid (tree_of h0).graph
      have hf4 := forks_small HG.out
      have hs4 := leaves_small HG.out
      have HFW := Lib.hid (forks_few HG.out)
      have HFD : Hid (∀ f, (forksN gs).testBit f = true → 3 ≤ deg gs f) := fun f hf => forks_deg HG.out hf
      clear h0
      obtain ⟨F, hF⟩ : ∃ F, F = forksN gs := ⟨_, rfl⟩
      obtain ⟨S, hS⟩ : ∃ S, S = leavesN gs := ⟨_, rfl⟩
      rw [← hF] at H0 hf4 HFW HFD
      rw [← hS] at H1 hs4 HFW
      clear hF hS
      go_wp2_with fail
      refine (treeForksI_c _ gs w1 R1.out hm HLO.out).mono ?_
      rintro e w2 ⟨rfl, x2⟩
      rw [H0.out]
      unfold pairV
      have R2 := Lib.hid (R1.out.ext x2); have X2 := Lib.hid (X1.out.trans x2); clear x2
      go_wp2_with fail
      refine (treeForksS_c _ gs w2 R2.out hm).mono ?_
      rintro e w3 ⟨rfl, x3⟩
      rw [H0.out]
      unfold pairV
      have R3 := Lib.hid (R2.out.ext x3); have X3 := Lib.hid (X2.out.trans x3); clear x3
      go_wp2_with fail
      refine (treeLeavesI_c _ gs w3 R3.out hm HLO.out).mono ?_
      rintro e w4 ⟨rfl, x4⟩
      rw [H1.out]
      unfold pairV
      have R4 := Lib.hid (R3.out.ext x4); have X4 := Lib.hid (X3.out.trans x4); clear x4
      go_wp2
      go_loop [10] (fun i => ∃ k : Nat, k ≤ gs.length ∧ i = .int .i64 k) (fun i => gs.length - (intOf i).toNat)
      case atStart => exact ⟨0, Nat.zero_le _, rfl⟩
      case round =>
        obtain ⟨k, hk, rfl⟩ := hrel
        by_cases hlt : k < gs.length
        · have e0 : min k 64 = k := by omega
          have g1 := div_pow_nat F k
          have g2 : bits .and .i64 (shr F k : Int) 1 = (band (shr F k) 1 : Int) := bits_and (shr F k) 1 (Nat.lt_of_le_of_lt (Nat.shiftRight_le _ _) (by omega)) (by omega)
          have g3 := bit_shift F k
          obtain ⟨T, hT⟩ : ∃ T, F.testBit k = T := ⟨_, rfl⟩
          have HT := Lib.hid hT
          rw [hT] at g3
          rw [g3] at g2
          clear hT g3
          cases T
          · have g5 : bits .and .i64 (shr F k : Int) 1 = 0 := g2
            clear g2
            go_wp2
            go_round
            case rel => exact ⟨k + 1, by omega, by go_num⟩
            case measure => simp [intOf]; omega
          · have g5 : bits .and .i64 (shr F k : Int) 1 = 1 := g2
            clear g2
            obtain ⟨b, o, rfl, -, -, hc⟩ := R4.out.atI hlt
            have c1 := hc w4 (Ext.refl w4)
            rw [HG.out.row k hlt] at c1
            have HZ := Lib.hid (sizeL_c (gN gs k) (HG.out.small k) w4)
            have hd := HFD.out k HT.out
            unfold deg at hd
            generalize cnt (gN gs k) = q at hd HZ
            clear hc
            go_wp2_with (go_at_call 16; refine HZ.out.mono ?_; rintro e w' ⟨rfl, rfl⟩)
            go_round
            case rel => exact ⟨k + 1, by omega, by go_num⟩
            case measure => simp [intOf]; omega
        · have HZ1 := Lib.hid (sizeL_c F hf4 w4)
          have HZ2 := Lib.hid (sizeL_c S hs4 w4)
          have f1 : decide (cnt F ≤ cnt S) = true := by rw [decide_eq_true_iff]; exact HFW.out
          generalize cnt F = p at f1 HZ1
          generalize cnt S = q at f1 HZ2
          go_wp2_with fail
          refine HZ1.out.mono ?_
          rintro e w' ⟨rfl, rfl⟩
          go_wp2_with fail
          refine HZ2.out.mono ?_
          rintro e w' ⟨rfl, rfl⟩
          go_wp2
          go_ret
          exact ⟨rfl, X4.out⟩
  · go_wp2
    go_ret
    exact ⟨rfl, Below.refl _ _⟩
end Go.Proofs.Ytpmammklklkheaa
