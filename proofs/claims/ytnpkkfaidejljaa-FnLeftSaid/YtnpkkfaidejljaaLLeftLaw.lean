/- The walk of the law FnLeft. No condition. -/
import Derived.Test.YtnpkkfaidejljaaDraws
import Derived.Test.YtnpkkfaidejljaaLeft
import Derived.Test.YtnpkkfaidejljaaPFacts
namespace Go.Proofs.Ytnpkkfaidejljaa
open Go.RowKit
open BigFrame

def cleanB (xs : List Int) (an i k : Nat) : Bool := (List.range k).any fun j => (gN xs j).testBit i && !an.testBit j
theorem any_next (xs : List Int) (an i k : Nat) : cleanB xs an i (k + 1) = (cleanB xs an i k || ((gN xs k).testBit i && !an.testBit k)) := by
  unfold cleanB
  rw [List.range_succ, List.any_append]; simp
theorem left_all {n : Nat} {xs : List Int} {x : Int} : poolLeft n xs x = (0, false) ∨ (∃ an LF : Nat, x = an ∧ an ≤ 65535 ∧ LF ≤ 4095 ∧ IsPool n xs ∧ poolLeft n xs an = (((LF : Nat) : Int), true) ∧ ∀ i, i < n → LF.testBit i = !cleanB xs an i xs.length) := by
  cases hi : poolIn n xs
  · exact .inl (by unfold poolLeft; rw [hi]; rfl)
  · cases hs : setB x xs.length
    · refine .inl ?_
      unfold poolLeft
      rw [hi, hs]; rfl
    · obtain ⟨m, hm, hP⟩ := poolIn_iff.1 hi
      obtain rfl : m = n := by omega
      obtain ⟨an, rfl, hlt⟩ := setB_iff.1 hs
      have h16 := pow_le_16 hP.len
      refine .inr ⟨an, leftOf m xs an, rfl, by omega, leftTo_small hP.le, hP, ?_, fun i hin => ?_⟩
      · unfold poolLeft
        rw [hi, hs]; rfl
      · rw [Bool.eq_iff_iff, left_bit, Bool.not_eq_true']
        unfold cleanB
        simp only [List.any_eq_false, List.mem_range, Bool.and_eq_true, Bool.not_eq_true', not_and, Bool.not_eq_false]
        constructor
        · rintro ⟨_, h⟩ j hj hb
          rcases h j hj with h | h
          · exact h
          · rw [hb] at h; cases h
        · intro h
          refine ⟨hin, fun j hj => ?_⟩
          cases hb : (gN xs j).testBit i
          · exact .inr rfl
          · exact .inl (h j hj hb)

set_option maxRecDepth 100000 in
set_option maxHeartbeats 1000000 in
theorem FnLeft_walk (v : Value) (bs : List Int) (w : World) (hv : Rb w v bs) :
    Calls Try.prog 14 #[v] w fun e w' => e = .returned (.bool true) ∧ Below w.heap.size w w' := by
  have HV := Lib.hid hv
  obtain ⟨a, c, rfl, -, -⟩ := hv
  go_enter Try.func14, Try.ntmps14
  by_cases hl : bs.length ≤ 1048576
  · go_wp2_with fail
    refine (drawPoolLeft_c _ bs w HV.out hl).mono ?_
    rintro e w1 ⟨n, v1, xs, x, rfl, hn1, hn6, hxl, r1, x1⟩
    obtain ⟨a1, c1, rfl⟩ := r1.form
    have hm : xs.length ≤ 1048576 := by omega
    have R1 := Lib.hid r1; have X1 := Lib.hid x1
    clear r1 x1
    have HC : Hid (poolLeft n xs x = (0, false) ∨ (∃ an LF : Nat, x = an ∧ an ≤ 65535 ∧ LF ≤ 4095 ∧ IsPool n xs ∧ poolLeft n xs an = (((LF : Nat) : Int), true) ∧ ∀ i, i < n → LF.testBit i = !cleanB xs an i xs.length)) := left_all
    rcases HC.out with h0 | ⟨an, LF, rfl, han, hLF, hP, hL, hbit⟩
    · have H0 := Lib.hid h0
      clear HC h0
      go_wp2_with fail
      refine (poolLeftI_c n _ xs x w1 R1.out hm).mono ?_
      rintro e w2 ⟨rfl, x2⟩
      rw [H0.out]
      unfold pairV
      have R2 := Lib.hid (R1.out.ext x2); have X2 := Lib.hid (X1.out.trans x2); clear x2
      go_wp2_with fail
      refine (poolLeftS_c n _ xs x w2 R2.out hm).mono ?_
      rintro e w3 ⟨rfl, x3⟩
      rw [H0.out]
      unfold pairV
      have R3 := Lib.hid (R2.out.ext x3); have X3 := Lib.hid (X2.out.trans x3); clear x3
      go_wp2
      go_ret
      exact ⟨rfl, X3.out⟩
    · have HL := Lib.hid hL; have HBIT := Lib.hid hbit; have HP := Lib.hid hP
      clear HC hL hbit hP
      go_wp2_with fail
      refine (poolLeftI_c n _ xs an w1 R1.out hm).mono ?_
      rintro e w2 ⟨rfl, x2⟩
      rw [HL.out]
      unfold pairV
      have R2 := Lib.hid (R1.out.ext x2); have X2 := Lib.hid (X1.out.trans x2); clear x2
      go_wp2_with fail
      refine (poolLeftS_c n _ xs an w2 R2.out hm).mono ?_
      rintro e w3 ⟨rfl, x3⟩
      rw [HL.out]
      unfold pairV
      have R3 := Lib.hid (R2.out.ext x3); have X3 := Lib.hid (X2.out.trans x3); clear x3
      go_wp2
      go_loopw [10] (fun i wr => ∃ k : Nat, k ≤ n ∧ i = .int .i64 k ∧ Hid (Ext w3 wr)) (fun i _ => n - (intOf i).toNat)
      case atStart => exact ⟨0, Nat.zero_le _, rfl, Ext.refl _⟩
      case round =>
        obtain ⟨i, hi, rfl, HX⟩ := hrel
        by_cases hlt : i < n
        · go_wp2
          go_loopw [11, 12] (fun f q wr => ∃ (k : Nat) (cl : Bool), k ≤ xs.length ∧ f = .bool cl ∧ q = .int .i64 k ∧ Hid (cl = cleanB xs an i k) ∧ Hid (Ext w3 wr)) (fun _ q _ => xs.length - (intOf q).toNat)
          case atStart => exact ⟨0, false, Nat.zero_le _, rfl, rfl, rfl, HX⟩
          case round =>
            clear HX
            obtain ⟨k, cl, hk, rfl, rfl, HCL, HX⟩ := hrel
            by_cases hlk : k < xs.length
            · obtain ⟨b, o, rfl, -, -, hc⟩ := R3.out.atI hlk
              have c1' := hc _ HX.out
              rw [HP.out.row k hlk] at c1'
              have h4 := HP.out.small k
              have e0 : min i 64 = i := by omega
              have e1 := div_pow_nat (gN xs k) i
              have e2 : bits .and .i64 (shr (gN xs k) i : Int) 1 = (band (shr (gN xs k) i) 1 : Int) := bits_and (shr (gN xs k) i) 1 (Nat.lt_of_le_of_lt (Nat.shiftRight_le _ _) (by omega)) (by omega)
              have e3 := testBit_shift (gN xs k) i
              have f0 : min k 64 = k := by omega
              have f1 := div_pow_nat an k
              have f2 : bits .and .i64 (shr an k : Int) 1 = (band (shr an k) 1 : Int) := bits_and (shr an k) 1 (Nat.lt_of_le_of_lt (Nat.shiftRight_le _ _) (by omega)) (by omega)
              have f3 := bit_shift an k
              have HAN : Hid (cleanB xs an i (k + 1) = (cleanB xs an i k || ((gN xs k).testBit i && !an.testBit k))) := any_next _ _ _ _
              clear hc
              cases cl
              · cases hb : (gN xs k).testBit i
                · rw [hb] at e3 HAN
                  have HB1 := Lib.hid hb
                  clear hb
                  go_wp2
                  go_roundw
                  case rel => exact ⟨k + 1, _, by omega, rfl, by go_num, by unfold Hid; rw [HAN.out, ← HCL.out]; rfl, HX⟩
                  case measure => simp [intOf]; omega
                · rw [hb] at e3 HAN
                  clear hb
                  cases ha : an.testBit k
                  · rw [ha] at f3 HAN
                    clear ha
                    go_wp2
                    go_roundw
                    case rel => exact ⟨k + 1, _, by omega, rfl, by go_num, by unfold Hid; rw [HAN.out, ← HCL.out]; rfl, HX⟩
                    case measure => simp [intOf]; omega
                  · rw [ha] at f3 HAN
                    clear ha
                    go_wp2
                    go_roundw
                    case rel => exact ⟨k + 1, _, by omega, rfl, by go_num, by unfold Hid; rw [HAN.out, ← HCL.out]; rfl, HX⟩
                    case measure => simp [intOf]; omega
              · go_wp2
                go_roundw
                case rel => exact ⟨k + 1, _, by omega, rfl, by go_num, by unfold Hid; rw [HAN.out, ← HCL.out]; rfl, HX⟩
                case measure => simp [intOf]; omega
            · obtain rfl : k = xs.length := by omega
              have e0 : min i 64 = i := by omega
              have e1 := div_pow_nat LF i
              have e2 : bits .and .i64 (shr LF i : Int) 1 = (band (shr LF i) 1 : Int) := bits_and (shr LF i) 1 (Nat.lt_of_le_of_lt (Nat.shiftRight_le _ _) (by omega)) (by omega)
              have e3 := testBit_shift LF i
              rw [HBIT.out i hlt, ← HCL.out] at e3
              cases cl
              · go_wp2
                go_roundw
                case rel => exact ⟨i + 1, by omega, by go_num, HX⟩
                case measure => simp [intOf]; omega
              · go_wp2
                go_roundw
                case rel => exact ⟨i + 1, by omega, by go_num, HX⟩
                case measure => simp [intOf]; omega
        · obtain rfl : i = n := by omega
          go_wp2
          go_ret
          exact ⟨rfl, X3.out.trans HX.out⟩
  · go_wp2
    go_ret
    exact ⟨rfl, Below.refl _ _⟩
end Go.Proofs.Ytnpkkfaidejljaa
