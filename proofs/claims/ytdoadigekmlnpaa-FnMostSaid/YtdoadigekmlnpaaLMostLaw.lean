/- The walk of the law FnMost: codes bear something exactly if they are identifying. No condition. -/
import Derived.Test.YtdoadigekmlnpaaDCode
import Derived.Test.YtdoadigekmlnpaaSensorMost
import Derived.Test.YtdoadigekmlnpaaSilent
namespace Go.Proofs.Ytdoadigekmlnpaa
open Go.RowKit
open BigFrame

set_option maxHeartbeats 1000000 in
theorem drawSensorMost_c (v : Value) (bs : List Int) (w : World) (hv : Rb w v bs) (hm : bs.length ≤ 1048576) :
    Calls Try.prog 55 #[v] w fun e w' => ∃ (v' : Value) (gs : List Int) (s : Nat), e = .returned (.tuple #[v', .int .i64 s]) ∧ 1 ≤ gs.length ∧ gs.length ≤ 7 ∧ s ≤ 4095 ∧ Rd w' v' gs ∧ Ext w w' := by
  have HO := Lib.hid (l6Open_c v bs w hv hm)
  obtain ⟨a, c, rfl, -, -⟩ := hv
  clear hm
  go_enter Try.func55, Try.ntmps55
  go_wp2_with fail
  refine HO.out.mono ?_
  rintro e w1 ⟨rfl, r1, -⟩
  have R1 := Lib.hid r1; clear r1
  go_wp2_with fail
  refine (l91Sensors_c w _ 0 _ R1.out (by omega)).mono ?_
  rintro e w2 ⟨v2, gs, s, rfl, h1, h7, hs, o2, r2⟩
  obtain ⟨ga, gc, rfl⟩ := o2.slice h1
  have R2 := Lib.hid r2; have O2 := Lib.hid o2; clear r2 o2
  go_wp2
  go_ret2
  exact ⟨_, gs, s, rfl, h1, h7, hs, O2.out.rd, R2.out.ext⟩
theorem mostFrom_is {g : List Int} {s : Int} : ∀ m, mostFrom g s m = (0, false) ∨ ∃ T, T < m ∧ mostFrom g s m = (((T : Nat) : Int), true) ∧ sensorIn g s (T : Int) = true ∧ (T + 1 = m ∨ sensorIn g s ((T + 1 : Nat) : Int) = false)
  | 0 => .inl rfl
  | m + 1 => by
    cases h : sensorIn g s (m : Int)
    · have e : mostFrom g s (m + 1) = mostFrom g s m := by unfold mostFrom; rw [h]; cases m <;> rfl
      rw [e]
      rcases mostFrom_is (g := g) (s := s) m with h0 | ⟨T, h1, h2, h3, h4⟩
      · exact .inl h0
      · refine .inr ⟨T, by omega, h2, h3, .inr ?_⟩
        rcases h4 with h4 | h4
        · rw [h4]; exact h
        · exact h4
    · exact .inr ⟨m, by omega, by unfold mostFrom; rw [h]; rfl, h, .inl rfl⟩
theorem bears_min {g : List Int} {s T : Nat} (hT : T ≤ 4) (h : bearsN g s T = true) : 2 * T + 1 ≤ silMin g s g.length := by
  unfold bearsN bearRow bearP at h
  simp only [List.all_eq_true, List.mem_range, Bool.and_eq_true, decide_eq_true_eq] at h
  rcases silMin_has g s g.length with e | ⟨i, hi, e⟩ | ⟨i, k, hi, hk, e⟩
  · omega
  · have := (h i hi).1; omega
  · have := (h i hi).2 k hk; omega
theorem bears_tell {g : List Int} {s T : Nat} (h : bearsN g s T = true) : kindN g 2 s = true := by
  unfold bearsN bearRow bearP at h
  simp only [List.all_eq_true, List.mem_range, Bool.and_eq_true, decide_eq_true_eq] at h
  refine kind2_iff.2 ⟨fun i hi h0 => ?_, fun i hi k hk h0 => ?_⟩
  · have := (h i hi).1
    rw [h0, (cnt_zero (by omega)).2 rfl] at this
    omega
  · have := (h i hi).2 k hk
    rw [bxor_zero.2 h0, (cnt_zero (by omega)).2 rfl] at this
    omega
theorem most_all {g : List Int} {s : Nat} : sensorMost g s = (0, false) ∨ ∃ T T1 T2 n : Nat, T ≤ 4 ∧ (T : Int) + 1 = (T1 : Int) ∧ 2 * (T : Int) = (T2 : Int) ∧ n ≤ 11 ∧ sensorMost g s = (((T : Nat) : Int), true) ∧ sensorIn g s (T : Int) = true ∧ (T = 4 ∨ sensorIn g s (T1 : Int) = false) ∧ sensorSilent g s = (((n : Nat) : Int), true) ∧ T2 ≤ n ∧ codeIn g 2 s = true := by
  rcases mostFrom_is (g := g) (s := (s : Int)) 5 with h0 | ⟨T, h1, h2, h3, h4⟩
  · exact .inl h0
  · have h3' := h3
    unfold sensorIn at h3'
    rw [Bool.and_eq_true, Bool.and_eq_true] at h3'
    obtain ⟨⟨hf, -⟩, hb⟩ := h3'
    have hb' : bearsN g s T = true := hb
    obtain ⟨k, hk, hG, hlt⟩ := fits_iff.1 hf
    obtain rfl : k = s := by omega
    have hmin := bears_min (by omega) hb'
    have hcap : silMin g k g.length ≤ 12 := silMin_anti g k (Nat.zero_le _)
    have hcode : codeIn g 2 (k : Int) = true := by
      unfold codeIn
      rw [graphIn_iff.2 hG, setB_iff.2 ⟨k, rfl, hlt⟩]
      exact bears_tell hb'
    refine .inr ⟨T, T + 1, 2 * T, silMin g k g.length - 1, by omega, by omega, by omega, by omega, h2, h3, h4.imp (fun h => by omega) id, ?_, by omega, hcode⟩
    unfold sensorSilent
    rw [hcode, if_pos rfl]
    exact Prod.ext (show ((silMin g k g.length : Nat) : Int) - 1 = _ by omega) rfl

set_option maxRecDepth 100000 in
set_option maxHeartbeats 2000000 in
theorem FnMost_walk (v : Value) (bs : List Int) (w : World) (hv : Rb w v bs) :
    Calls Try.prog 14 #[v] w fun e w' => e = .returned (.bool true) ∧ Below w.heap.size w w' := by
  have HV := Lib.hid hv
  obtain ⟨a, c, rfl, -, -⟩ := hv
  go_enter Try.func14, Try.ntmps14
  by_cases hl : bs.length ≤ 1048576
  · go_wp2_with fail
    refine (drawSensorMost_c _ bs w HV.out hl).mono ?_
    rintro e w1 ⟨v1, gs, s, rfl, hn1, hn7, hs, r1, x1⟩
    obtain ⟨a1, c1, rfl⟩ := r1.form
    have hm : gs.length ≤ 1048576 := by omega
    have R1 := Lib.hid r1; have X1 := Lib.hid x1
    clear r1 x1
    rcases most_all (g := gs) (s := s) with h0 | ⟨T, T1, T2, n, hT, hT1, hT2, hn, hM, hI, hJ, hS, hle, hC⟩
    · have H0 := Lib.hid h0
      clear h0
      go_wp2_with fail
      refine (sensorMostI_c _ gs s w1 R1.out hm).mono ?_
      rintro e w2 ⟨rfl, x2⟩
      rw [H0.out]
      unfold pairV
      have R2 := Lib.hid (R1.out.ext x2); have X2 := Lib.hid (X1.out.trans x2); clear x2
      go_wp2_with fail
      refine (sensorMostS_c _ gs s w2 R2.out hm).mono ?_
      rintro e w3 ⟨rfl, x3⟩
      rw [H0.out]
      unfold pairV
      have R3 := Lib.hid (R2.out.ext x3); have X3 := Lib.hid (X2.out.trans x3); clear x3
      go_wp2
      go_ret
      exact ⟨rfl, X3.out⟩
    · have HM := Lib.hid hM; have HI := Lib.hid hI; have HJ := Lib.hid hJ; have HS := Lib.hid hS; have HC := Lib.hid hC
      have f1 : decide (T2 ≤ n) = true := by rw [decide_eq_true_iff]; exact hle
      clear hM hI hJ hS hC
      go_wp2_with fail
      refine (sensorMostI_c _ gs s w1 R1.out hm).mono ?_
      rintro e w2 ⟨rfl, x2⟩
      rw [HM.out]
      unfold pairV
      have R2 := Lib.hid (R1.out.ext x2); have X2 := Lib.hid (X1.out.trans x2); clear x2
      go_wp2_with fail
      refine (sensorMostS_c _ gs s w2 R2.out hm).mono ?_
      rintro e w3 ⟨rfl, x3⟩
      rw [HM.out]
      unfold pairV
      have R3 := Lib.hid (R2.out.ext x3); have X3 := Lib.hid (X2.out.trans x3); clear x3
      go_wp2_with fail
      refine (sensorSilentI_c _ gs s w3 R3.out hm).mono ?_
      rintro e w4 ⟨rfl, x4⟩
      rw [HS.out]
      unfold pairV
      have R4 := Lib.hid (R3.out.ext x4); have X4 := Lib.hid (X3.out.trans x4); clear x4
      go_wp2_with fail
      refine (sensorInI_c _ gs s T w4 R4.out hm).mono ?_
      rintro e w5 ⟨rfl, x5⟩
      rw [HI.out]
      have R5 := Lib.hid (R4.out.ext x5); have X5 := Lib.hid (X4.out.trans x5); clear x5
      by_cases h4 : T = 4
      · have g1 : ((T : Int) == 4) = true := by simp [h4]
        clear h4
        go_wp2_with fail
        refine (codeInI_c _ gs 2 s w5 R5.out hm).mono ?_
        rintro e w6 ⟨rfl, x6⟩
        rw [HC.out]
        have R6 := Lib.hid (R5.out.ext x6); have X6 := Lib.hid (X5.out.trans x6); clear x6
        go_wp2
        go_ret
        exact ⟨rfl, X6.out⟩
      · have g1 : ((T : Int) == 4) = false := by simp; omega
        have HJ2 : Hid (sensorIn gs s (T1 : Int) = false) := HJ.out.resolve_left h4
        clear h4
        go_wp2_with fail
        refine (sensorInI_c _ gs s T1 w5 R5.out hm).mono ?_
        rintro e w6 ⟨rfl, x6⟩
        rw [HJ2.out]
        have R6 := Lib.hid (R5.out.ext x6); have X6 := Lib.hid (X5.out.trans x6); clear x6
        go_wp2_with fail
        refine (codeInI_c _ gs 2 s w6 R6.out hm).mono ?_
        rintro e w7 ⟨rfl, x7⟩
        rw [HC.out]
        have R7 := Lib.hid (R6.out.ext x7); have X7 := Lib.hid (X6.out.trans x7); clear x7
        go_wp2
        go_ret
        exact ⟨rfl, X7.out⟩
  · go_wp2
    go_ret
    exact ⟨rfl, Below.refl _ _⟩
end Go.Proofs.Ytdoadigekmlnpaa
