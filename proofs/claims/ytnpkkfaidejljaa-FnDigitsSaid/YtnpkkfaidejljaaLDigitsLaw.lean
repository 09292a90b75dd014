/- The walk of the law FnDigits. No condition. -/
import Derived.Test.YtnpkkfaidejljaaDraws
import Derived.Test.YtnpkkfaidejljaaLeft
import Derived.Test.YtnpkkfaidejljaaPFacts
namespace Go.Proofs.Ytnpkkfaidejljaa
open Go.RowKit
open BigFrame

theorem digits_pool : ∀ n : Nat, n ≤ 12 → 1 ≤ n → poolIn (n : Int) (digitsN n) = true := by decide +kernel
theorem digits_answers {n i : Nat} (h1 : 1 ≤ n) (h12 : n ≤ 12) (hi : i < n) : poolAnswers n (digitsN n) ((2 ^ i : Nat) : Int) = (((i : Nat) : Int), true) := by
  unfold poolAnswers
  rw [digits_pool n h12 h1, show (n : Int).toNat = n from rfl, setB_iff.2 ⟨2 ^ i, rfl, Nat.pow_lt_pow_right (by omega) hi⟩]
  show (((answersOf (digitsN n) (2 ^ i) : Nat) : Int), true) = _
  rw [digits_self n h12 i hi]

set_option maxRecDepth 100000 in
set_option maxHeartbeats 1000000 in
theorem FnDigits_walk (v : Value) (bs : List Int) (w : World) (hv : Rb w v bs) :
    Calls Try.prog 11 #[v] w fun e w' => e = .returned (.bool true) ∧ Below w.heap.size w w' := by
  have HV := Lib.hid hv
  obtain ⟨a, c, rfl, -, -⟩ := hv
  go_enter Try.func11, Try.ntmps11
  by_cases hl : bs.length ≤ 1048576
  · go_wp2_with fail
    refine (drawDigits_c _ bs w HV.out hl).mono ?_
    rintro e w1 ⟨n, rfl, hn14, x1⟩
    have X1 := Lib.hid x1
    clear x1
    by_cases hd : 1 ≤ n ∧ n ≤ 12
    · obtain ⟨hn1, hn12⟩ := hd
      have HD : Hid (digits n = (digitsN n, true)) := by unfold Hid digits; rw [show inB 1 n 12 = true from inB_iff.2 ⟨by omega, by omega⟩]; rfl
      have hlen : (digitsN n).length ≤ 5 := by unfold digitsN; rw [digitsTo_length]; exact Nat.le_trans List.countP_le_length (by simp)
      have HPA : Hid (∀ i : Nat, i < n → poolAnswers n (digitsN n) ((2 ^ i : Nat) : Int) = (((i : Nat) : Int), true)) := fun i hi => digits_answers hn1 hn12 hi
      have HMANY := Lib.hid (digits_many n hn12)
      go_wp2_with fail
      refine (poolDigitsI_c n w1).mono ?_
      rintro e w2 ⟨v2, rfl, o2, x2⟩
      rw [HD.out] at o2 ⊢
      unfold listV
      have R2 := Lib.hid o2.rd; have X2 := Lib.hid (X1.out.trans x2); clear x2 o2
      go_wp2_with fail
      refine (poolDigitsS_c n w2).mono ?_
      rintro e w3 ⟨v3, rfl, o3, x3⟩
      rw [HD.out] at o3 ⊢
      unfold listV
      have R3 := Lib.hid (R2.out.ext x3); have Q3 := Lib.hid o3.rd; have X3 := Lib.hid (X2.out.trans x3); clear x3 o3
      go_wp2_with fail
      refine (sameInts_c _ _ (digitsN n) w3 R3.out Q3.out (by omega)).mono ?_
      rintro e w4 ⟨rfl, x4⟩
      have R4 := Lib.hid (R3.out.ext x4); have X4 := Lib.hid (X3.out.trans x4); clear x4
      obtain ⟨a4, c4, rfl⟩ := R4.out.form
      go_wp2
      go_loopw [8] (fun i wr => ∃ k : Nat, k ≤ n ∧ i = .int .i64 k ∧ Hid (Ext w4 wr)) (fun i _ => n - (intOf i).toNat)
      case atStart => exact ⟨0, Nat.zero_le _, rfl, Ext.refl _⟩
      case round =>
        obtain ⟨i, hi, rfl, HX⟩ := hrel
        by_cases hlt : i < n
        · go_wp2
          go_loopw [9] (fun q wr => ∃ k : Nat, k ≤ i ∧ q = .int .i64 k ∧ Hid (Ext w4 wr)) (fun q _ => i - (intOf q).toNat)
          case atStart => exact ⟨0, Nat.zero_le _, rfl, HX⟩
          case round =>
            clear HX
            obtain ⟨k, hk, rfl, HX⟩ := hrel
            by_cases hlk : k < i
            · obtain ⟨pi, hpi, hpi1, hpi2, hpi3⟩ := pow_var i (by omega)
              obtain ⟨pk, hpk, hpk1, hpk2, hpk3⟩ := pow_var k (by omega)
              have ei : min i 64 = i := by omega
              have ek : min k 64 = k := by omega
              have HI := Lib.hid (HPA.out i hlt); have HK := Lib.hid (HPA.out k (by omega))
              rw [hpi] at HI
              rw [hpk] at HK
              have hne : ((i : Int) == (k : Int)) = false := by simp; omega
              clear hpi hpk
              go_wp2_with fail
              refine (poolAnswersI_c n _ (digitsN n) pi _ (R4.out.ext HX.out) (by omega)).mono ?_
              rintro e w5 ⟨rfl, x5⟩
              rw [HI.out]
              unfold pairV
              have X5 := Lib.hid (HX.out.trans x5); clear x5
              go_wp2_with fail
              refine (poolAnswersI_c n _ (digitsN n) pk _ (R4.out.ext X5.out) (by omega)).mono ?_
              rintro e w6 ⟨rfl, x6⟩
              rw [HK.out]
              unfold pairV
              have X6 := Lib.hid (X5.out.trans x6); clear x6
              go_wp2
              go_roundw
              case rel => exact ⟨k + 1, by omega, by go_num, X6.out⟩
              case measure => simp [intOf]; omega
            · obtain rfl : k = i := by omega
              go_wp2
              go_roundw
              case rel => exact ⟨k + 1, by omega, by go_num, HX⟩
              case measure => simp [intOf]; omega
        · obtain rfl : i = n := by omega
          obtain ⟨L, hL⟩ : ∃ L, L = (digitsN i).length := ⟨_, rfl⟩
          have HM2 := HMANY.out
          rw [← hL] at hlen HM2 ⊢
          obtain ⟨pl, hpl, hpl1, hpl2, hpl3⟩ := pow_var L (by omega)
          have el : min L 64 = L := by omega
          rw [hpl] at HM2
          have hge : decide (i ≤ pl) = true := decide_eq_true HM2
          clear hL hpl
          go_wp2
          go_ret
          exact ⟨rfl, X4.out.trans HX.out⟩
    · have HD : Hid (digits n = ([], false)) := by unfold Hid digits; rw [show inB 1 n 12 = false from inB_not.2 (by omega)]; rfl
      clear hd
      go_wp2_with fail
      refine (poolDigitsI_c n w1).mono ?_
      rintro e w2 ⟨v2, rfl, o2, x2⟩
      rw [HD.out] at o2 ⊢
      unfold listV
      have R2 := Lib.hid o2.rd; have X2 := Lib.hid (X1.out.trans x2); clear x2 o2
      go_wp2_with fail
      refine (poolDigitsS_c n w2).mono ?_
      rintro e w3 ⟨v3, rfl, o3, x3⟩
      rw [HD.out] at o3 ⊢
      unfold listV
      have R3 := Lib.hid (R2.out.ext x3); have Q3 := Lib.hid o3.rd; have X3 := Lib.hid (X2.out.trans x3); clear x3 o3
      go_wp2_with fail
      refine (sameInts_c _ _ [] w3 R3.out Q3.out (by simp)).mono ?_
      rintro e w4 ⟨rfl, x4⟩
      have R4 := Lib.hid (R3.out.ext x4); have Q4 := Lib.hid (Q3.out.ext x4); have X4 := Lib.hid (X3.out.trans x4); clear x4
      go_wp2_with fail
      refine (sameInts_c _ _ [] w4 R4.out Q4.out (by simp)).mono ?_
      rintro e w5 ⟨rfl, x5⟩
      have X5 := Lib.hid (X4.out.trans x5); clear x5
      go_wp2
      go_ret
      exact ⟨rfl, X5.out⟩
  · go_wp2
    go_ret
    exact ⟨rfl, Below.refl _ _⟩
end Go.Proofs.Ytnpkkfaidejljaa
