/- The walk of the law FnDecode: what is decoded has the answers. No condition. -/
import Derived.Test.YtnpkkfaidejljaaDDecode
import Derived.Test.YtnpkkfaidejljaaDecode
import Derived.Test.YtnpkkfaidejljaaTells
import Derived.Test.YtnpkkfaidejljaaPFacts
import Derived.Test.YtnpkkfaidejljaaApart
namespace Go.Proofs.Ytnpkkfaidejljaa
open Go.RowKit
open BigFrame

theorem leastP_is {p : Nat → Bool} {N : Nat} : leastP p N = (0, false) ∨ ∃ k, k < N ∧ p k = true ∧ leastP p N = (((k : Nat) : Int), true) := by
  unfold leastP
  cases h : (List.range N).find? p with
  | none => exact .inl rfl
  | some k =>
    have h1 := List.mem_of_find?_eq_some h
    exact .inr ⟨k, List.mem_range.1 h1, List.find?_some h, rfl⟩
theorem decode_all {n d : Nat} {xs : List Int} {ans : Int} (h6 : n ≤ 6) : poolDecode n xs d ans = (0, false) ∨ ∃ k A ck : Nat, k < 2 ^ n ∧ k ≤ 63 ∧ A ≤ 65535 ∧ ans = A ∧ poolDecode n xs d ((A : Nat) : Int) = (((k : Nat) : Int), true) ∧ ck = cnt k ∧ ck ≤ d ∧ poolAnswers n xs k = (((A : Nat) : Int), true) ∧ (∀ z : Nat, z < 2 ^ n → ∃ Y : Nat, Y ≤ 65535 ∧ poolAnswers n xs z = (((Y : Nat) : Int), true) ∧ (poolTells n xs d = true → cnt z ≤ d → Y = A → z = k)) := by
  cases hc : poolIn n xs && inB 0 (d : Int) 3 && setB ans xs.length
  · exact .inl (by unfold poolDecode; rw [hc]; rfl)
  · have hc' := hc
    rw [Bool.and_eq_true, Bool.and_eq_true] at hc'
    obtain ⟨⟨hi, hd⟩, hs⟩ := hc'
    obtain ⟨m, hm, hP⟩ := poolIn_iff.1 hi
    obtain rfl : m = n := by omega
    obtain ⟨A0, hA0, hAlt⟩ := setB_iff.1 hs
    have h64 : 2 ^ m ≤ 2 ^ 6 := Nat.pow_le_pow_right (by omega) h6
    have key : ∀ z : Nat, z < 2 ^ m → poolAnswers m xs z = (((answersOf xs z : Nat) : Int), true) := fun z hz => by
      unfold poolAnswers
      rw [hi, show (m : Int).toNat = m from rfl, setB_iff.2 ⟨z, rfl, hz⟩]; rfl
    have e : poolDecode m xs d ans = leastP (goodB xs d ans.toNat) (2 ^ m) := by unfold poolDecode; rw [hc]; rfl
    rcases leastP_is (p := goodB xs d ans.toNat) (N := 2 ^ m) with h0 | ⟨k, hk, hg, hv⟩
    · exact .inl (e.trans h0)
    · unfold goodB at hg
      rw [Bool.and_eq_true, few_iff, beq_iff_eq] at hg
      have hA : ans = ((answersOf xs k : Nat) : Int) := by rw [hg.2]; omega
      refine .inr ⟨k, answersOf xs k, cnt k, hk, by omega, answersOf_small hP k, hA, by rw [← hA]; exact e.trans hv, rfl, hg.1, key k hk, fun z hz => ⟨answersOf xs z, answersOf_small hP z, key z hz, fun ht hcz hY => ?_⟩⟩
      unfold poolTells at ht
      rw [Bool.and_eq_true] at ht
      exact tells_inj ht.2 hz hk hcz hg.1 hY

set_option maxRecDepth 100000 in
set_option maxHeartbeats 2000000 in
theorem FnDecode_walk (v : Value) (bs : List Int) (w : World) (hv : Rb w v bs) :
    Calls Try.prog 20 #[v] w fun e w' => e = .returned (.bool true) ∧ Below w.heap.size w w' := by
  have HV := Lib.hid hv
  obtain ⟨a, c, rfl, -, -⟩ := hv
  go_enter Try.func20, Try.ntmps20
  by_cases hl : bs.length ≤ 1048576
  · go_wp2_with fail
    refine (drawPoolDecode_c _ bs w HV.out hl).mono ?_
    rintro e w1 ⟨n, v1, xs, d, ans, rfl, hn1, hn6, hxl, hd, r1, x1⟩
    obtain ⟨a1, c1, rfl⟩ := r1.form
    have hm : xs.length ≤ 1048576 := by omega
    have R1 := Lib.hid r1; have X1 := Lib.hid x1
    clear r1 x1
    rcases decode_all (xs := xs) (d := d) (ans := ans) hn6 with h0 | ⟨k, A, ck, hk, hk6, hA, rfl, hD, hck, hckd, hK, hZ⟩
    · have H0 := Lib.hid h0
      clear h0
      go_wp2_with fail
      refine (poolDecodeI_c n _ xs d ans w1 R1.out hm).mono ?_
      rintro e w2 ⟨rfl, x2⟩
      rw [H0.out]
      unfold pairV
      have R2 := Lib.hid (R1.out.ext x2); have X2 := Lib.hid (X1.out.trans x2); clear x2
      go_wp2_with fail
      refine (poolDecodeS_c n _ xs d ans w2 R2.out hm).mono ?_
      rintro e w3 ⟨rfl, x3⟩
      rw [H0.out]
      unfold pairV
      have X3 := Lib.hid (X2.out.trans x3); clear x3
      go_wp2
      go_ret
      exact ⟨rfl, X3.out⟩
    · have HD := Lib.hid hD; have HK := Lib.hid hK; have HZ := Lib.hid hZ; have HCK := Lib.hid hck
      obtain ⟨p, hp, hp1, hp2, hp3⟩ := pow_var n (by omega)
      have hp4 : p ≤ 64 := by rw [← hp]; exact (Nat.pow_le_pow_right (by omega) hn6 : 2 ^ n ≤ 2 ^ 6)
      have e0 : min n 64 = n := by omega
      have HP := Lib.hid hp
      have HSK := Lib.hid (sizeL_c k (by omega))
      have f1 : decide (d < ck) = false := by simp; omega
      clear hD hK hZ hck hp hk
      go_wp2_with fail
      refine (poolDecodeI_c n _ xs d A w1 R1.out hm).mono ?_
      rintro e w2 ⟨rfl, x2⟩
      rw [HD.out]
      unfold pairV
      have R2 := Lib.hid (R1.out.ext x2); have X2 := Lib.hid (X1.out.trans x2); clear x2
      go_wp2_with fail
      refine (poolDecodeS_c n _ xs d A w2 R2.out hm).mono ?_
      rintro e w3 ⟨rfl, x3⟩
      rw [HD.out]
      unfold pairV
      have R3 := Lib.hid (R2.out.ext x3); have X3 := Lib.hid (X2.out.trans x3); clear x3
      go_wp2_with fail
      refine (poolAnswersI_c n _ xs k w3 R3.out hm).mono ?_
      rintro e w4 ⟨rfl, x4⟩
      rw [HK.out]
      unfold pairV
      have R4 := Lib.hid (R3.out.ext x4); have X4 := Lib.hid (X3.out.trans x4); clear x4
      go_wp2_with fail
      refine (HSK.out w4).mono ?_
      rintro e w5 ⟨rfl, z5⟩
      have R5 := R4; have X5 := X4
      rw [z5] at R5 X5
      rw [← HCK.out]
      clear z5
      go_wp2
      go_loopw [13] (fun i wr => ∃ z : Nat, z ≤ p ∧ i = .int .i64 z ∧ Hid (Rd wr (.slice a1 xs.length c1) xs) ∧ Hid (Ext w wr)) (fun i _ => p - (intOf i).toNat)
      case atStart => exact ⟨0, Nat.zero_le _, rfl, R5, X5⟩
      case round =>
        clear R1 R2 R3 R4 R5 X1 X2 X3 X4 X5
        obtain ⟨z, hz, rfl, HR, HX⟩ := hrel
        by_cases hlt : z < p
        · obtain ⟨Y, hY, hYA, hT⟩ := HZ.out z (by rw [HP.out]; exact hlt)
          have HYA := Lib.hid hYA; have HT := Lib.hid hT
          clear hYA hT
          obtain ⟨cz, hcz⟩ : ∃ cz, cz = cnt z := ⟨_, rfl⟩
          have hcz12 : cz ≤ 12 := by rw [hcz]; exact cnt_le z
          have HCZ := Lib.hid hcz
          have HSZ := Lib.hid (sizeL_c z (by omega))
          clear hcz
          go_wp2_with fail
          refine (poolAnswersI_c n _ xs z wr HR.out hm).mono ?_
          rintro e w6 ⟨rfl, x6⟩
          rw [HYA.out]
          unfold pairV
          have R6 := Lib.hid (HR.out.ext x6); have X6 := Lib.hid (HX.out.trans x6); clear x6 HR HX
          go_wp2_with fail
          refine (poolTellsI_c n _ xs d w6 R6.out hm).mono ?_
          rintro e w7 ⟨rfl, x7⟩
          have R7 := Lib.hid (R6.out.ext x7); have X7 := Lib.hid (X6.out.trans x7); clear x7 R6 X6
          obtain ⟨T, hTT⟩ : ∃ T, T = poolTells n xs d := ⟨_, rfl⟩
          have HTT := Lib.hid hTT
          rw [← hTT]
          clear hTT
          cases T
          · go_wp2
            go_roundw
            case rel => exact ⟨z + 1, by omega, by go_num, R7, X7⟩
            case measure => simp [intOf]; omega
          · go_wp2_with fail
            refine (HSZ.out w7).mono ?_
            rintro e w8 ⟨rfl, z8⟩
            have R8 := R7; have X8 := X7
            rw [z8] at R8 X8
            rw [← HCZ.out]
            clear z8 R7 X7
            by_cases hcd : cz ≤ d
            · by_cases hYe : Y = A
              · obtain rfl : z = k := HT.out HTT.out.symm (by rw [← HCZ.out]; exact hcd) hYe
                have g1 : decide (cz ≤ d) = true := by simp; omega
                subst hYe
                go_wp2
                go_roundw
                case rel => exact ⟨z + 1, by omega, by go_num, R8, X8⟩
                case measure => simp [intOf]; omega
              · have g1 : decide (cz ≤ d) = true := by simp; omega
                have g2 : ((Y : Int) == (A : Int)) = false := by simp; omega
                clear hYe
                go_wp2
                go_roundw
                case rel => exact ⟨z + 1, by omega, by go_num, R8, X8⟩
                case measure => simp [intOf]; omega
            · have g1 : decide (cz ≤ d) = false := by simp; omega
              go_wp2
              go_roundw
              case rel => exact ⟨z + 1, by omega, by go_num, R8, X8⟩
              case measure => simp [intOf]; omega
        · obtain rfl : z = p := by omega
          go_wp2
          go_ret
          exact ⟨rfl, HX.out⟩
  · go_wp2
    go_ret
    exact ⟨rfl, Below.refl _ _⟩
end Go.Proofs.Ytnpkkfaidejljaa
