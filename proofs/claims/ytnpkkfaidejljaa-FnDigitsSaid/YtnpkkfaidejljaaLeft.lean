/- What is left of a pool: the reference and the program compute the same plain function. The condition: the list has at most 2^20 numbers. -/
import Derived.Test.YtnpkkfaidejljaaAns
namespace Go.Proofs.Ytnpkkfaidejljaa
open Go.RowKit
open BigFrame

set_option maxHeartbeats 1000000 in
theorem poolLeftS_c (items : Int) (v : Value) (xs : List Int) (ans : Int) (w : World) (hv : Rd w v xs) (hm : xs.length ≤ 1048576) :
    Calls Try.prog 57 #[.int .i64 items, v, .int .i64 ans] w fun e w' => e = .returned (pairV (poolLeft items xs ans)) ∧ Ext w w' := by
  obtain ⟨a, c, rfl⟩ := hv.form
  have HV := Lib.hid hv; clear hv
  have HM := Lib.hid hm
  cases h0 : poolIn items xs
  · have H0 := Lib.hid h0
    go_enter Try.func57, Try.ntmps57
    go_wp2_with (go_at_call 52; refine (poolInS_c _ _ _ _ HV.out HM.out).mono ?_; rintro e w1 ⟨rfl, x1⟩)
    go_ret2
    exact ⟨ret_pair' (by unfold poolLeft; rw [H0.out]; rfl), by assumption⟩
  · obtain ⟨n, rfl, hP⟩ := poolIn_iff.1 h0
    have hn := hP.le
    have hl := hP.len
    have H0 := Lib.hid h0; have HP := Lib.hid hP
    clear hP
    obtain ⟨p, hp, hp1, hp2, hp3⟩ := pow_var n (by omega)
    have HP2 := Lib.hid hp; clear hp
    have e0 : min n 64 = n := by omega
    obtain ⟨p', hp', hp1', hp2', hp3'⟩ := pow_var xs.length (by omega)
    have HP2' := Lib.hid hp'; clear hp'
    have e0' : min xs.length 64 = xs.length := by omega
    cases hs : inB 0 ans ((p' : Int) - 1)
    · have HS : Hid (setB ans xs.length = false) := by unfold setB; rw [HP2'.out]; exact hs
      go_enter Try.func57, Try.ntmps57
      go_wp2_with (first | (go_at_call 52; refine (poolInS_c _ _ _ _ HV.out HM.out).mono ?_; rintro e w1 ⟨rfl, x1⟩) | (go_at_call 93; refine (l6In_c _ _ _ _).mono ?_; rintro e w' ⟨rfl, rfl⟩))
      go_ret2
      exact ⟨ret_pair' (by unfold poolLeft; rw [H0.out, HS.out]; rfl), by assumption⟩
    · have HS : Hid (setB ans xs.length = true) := by unfold setB; rw [HP2'.out]; exact hs
      obtain ⟨m, rfl, hml⟩ := setB_iff.1 HS.out
      have hm4 : m ≤ 65535 := by have := pow_le_16 hl; omega
      clear hml
      go_enter Try.func57, Try.ntmps57
      go_wp2_with fail
      refine (poolInS_c _ _ _ _ HV.out HM.out).mono ?_
      rintro e w1 ⟨rfl, x1⟩
      have X1 := Lib.hid x1; clear x1
      go_wp2_with (go_at_call 93; refine (l6In_c _ _ _ _).mono ?_; rintro e w' ⟨rfl, rfl⟩)
      go_loop [8, 9] (fun o i => ∃ k : Nat, k ≤ xs.length ∧ i = .int .i64 k ∧ o = .int .i64 (leftTo n xs m k : Nat)) (fun _ i => xs.length - (intOf i).toNat)
      case atStart => exact ⟨0, Nat.zero_le _, rfl, by unfold leftTo; rw [HP2.out]; congr 1; omega⟩
      case round =>
        obtain ⟨k, hk, rfl, rfl⟩ := hrel
        have h1 : leftTo n xs m k ≤ 4095 := leftTo_small hn
        have H2 : Hid (leftTo n xs m (k + 1) = if m.testBit k then leftTo n xs m k else without (leftTo n xs m k) (gN xs k)) := rfl
        generalize hq : leftTo n xs m k = q at *
        have H3 := Lib.hid hq; clear hq
        by_cases hlt : k < xs.length
        · obtain ⟨b, o, rfl, -, -, hc⟩ := HV.out.atI hlt
          have c1 := hc _ X1.out
          clear hc
          have r1 := HP.out.row k hlt
          have r2 := HP.out.small k
          rw [r1] at c1
          clear r1
          have e1 := bits_andNot q (gN xs k) (by omega) (by omega)
          cases hz : m.testBit k
          · have HZ := Lib.hid hz
            go_wp2_with (go_at_call 117; refine (l1Bit_c m k (by omega) (by omega) _).mono ?_; rintro e w' ⟨rfl, rfl⟩)
            go_round
            case rel => exact ⟨k + 1, by omega, by go_num, by rw [H2.out, HZ.out]; rfl⟩
            case measure => simp [intOf]; omega
          · have HZ := Lib.hid hz
            go_wp2_with (go_at_call 117; refine (l1Bit_c m k (by omega) (by omega) _).mono ?_; rintro e w' ⟨rfl, rfl⟩)
            go_round
            case rel => exact ⟨k + 1, by omega, by go_num, by rw [H2.out, HZ.out]; rfl⟩
            case measure => simp [intOf]; omega
        · go_wp2
          go_ret2
          obtain rfl : k = xs.length := by omega
          exact ⟨ret_pair' (by unfold poolLeft; rw [H0.out, HS.out, ← H3.out]; rfl), X1.out⟩

set_option maxHeartbeats 1000000 in
theorem poolLeftI_c (items : Int) (v : Value) (xs : List Int) (ans : Int) (w : World) (hv : Rd w v xs) (hm : xs.length ≤ 1048576) :
    Calls Try.prog 55 #[.int .i64 items, v, .int .i64 ans] w fun e w' => e = .returned (pairV (poolLeft items xs ans)) ∧ Ext w w' := by
  obtain ⟨a, c, rfl⟩ := hv.form
  have HV := Lib.hid hv; clear hv
  have HM := Lib.hid hm
  cases h0 : poolIn items xs
  · have H0 := Lib.hid h0
    go_enter Try.func55, Try.ntmps55
    go_wp2_with (go_at_call 51; refine (poolInI_c _ _ _ _ HV.out HM.out).mono ?_; rintro e w1 ⟨rfl, x1⟩)
    go_ret2
    exact ⟨ret_pair' (by unfold poolLeft; rw [H0.out]; rfl), by assumption⟩
  · obtain ⟨n, rfl, hP⟩ := poolIn_iff.1 h0
    have hn := hP.le
    have hl := hP.len
    have H0 := Lib.hid h0; have HP := Lib.hid hP
    clear hP
    obtain ⟨p, hp, hp1, hp2, hp3⟩ := pow_var n (by omega)
    have HP2 := Lib.hid hp; clear hp
    have e0 : min n 64 = n := by omega
    cases hs : setB ans xs.length
    · have HS := Lib.hid hs
      go_enter Try.func55, Try.ntmps55
      go_wp2_with (first | (go_at_call 51; refine (poolInI_c _ _ _ _ HV.out HM.out).mono ?_; rintro e w1 ⟨rfl, x1⟩) | (go_at_call 109; refine (isSet_c _ xs.length (by omega) _).mono ?_; rintro e w' ⟨rfl, rfl⟩))
      go_ret2
      exact ⟨ret_pair' (by unfold poolLeft; rw [H0.out, HS.out]; rfl), by assumption⟩
    · have HS := Lib.hid hs
      obtain ⟨m, rfl, hml⟩ := setB_iff.1 HS.out
      have hm4 : m ≤ 65535 := by have := pow_le_16 hl; omega
      clear hml
      go_enter Try.func55, Try.ntmps55
      go_wp2_with fail
      refine (poolInI_c _ _ _ _ HV.out HM.out).mono ?_
      rintro e w1 ⟨rfl, x1⟩
      have X1 := Lib.hid x1; clear x1
      go_wp2_with (go_at_call 109; refine (isSet_c _ xs.length (by omega) _).mono ?_; rintro e w' ⟨rfl, rfl⟩)
      go_loop [8, 27] (fun o i => ∃ k : Nat, k ≤ xs.length ∧ i = .int .i64 k ∧ o = .int .i64 (leftTo n xs m k : Nat)) (fun _ i => xs.length - (intOf i).toNat)
      case atStart => exact ⟨0, Nat.zero_le _, rfl, by unfold leftTo; rw [HP2.out]; congr 1; omega⟩
      case round =>
        obtain ⟨k, hk, rfl, rfl⟩ := hrel
        have h1 : leftTo n xs m k ≤ 4095 := leftTo_small hn
        have H2 : Hid (leftTo n xs m (k + 1) = if m.testBit k then leftTo n xs m k else without (leftTo n xs m k) (gN xs k)) := rfl
        generalize hq : leftTo n xs m k = q at *
        have H3 := Lib.hid hq; clear hq
        by_cases hlt : k < xs.length
        · obtain ⟨b, o, rfl, -, -, hc⟩ := HV.out.atI hlt
          have c1 := hc _ X1.out
          clear hc
          have r1 := HP.out.row k hlt
          have r2 := HP.out.small k
          rw [r1] at c1
          clear r1
          have e1 := bits_andNot q (gN xs k) (by omega) (by omega)
          cases hz : m.testBit k
          · have HZ := Lib.hid hz
            go_wp2_with (go_at_call 88; refine (has_c m k (by omega) (by omega) _).mono ?_; rintro e w' ⟨rfl, rfl⟩)
            go_round
            case rel => exact ⟨k + 1, by omega, by go_num, by rw [H2.out, HZ.out]; rfl⟩
            case measure => simp [intOf]; omega
          · have HZ := Lib.hid hz
            go_wp2_with (go_at_call 88; refine (has_c m k (by omega) (by omega) _).mono ?_; rintro e w' ⟨rfl, rfl⟩)
            go_round
            case rel => exact ⟨k + 1, by omega, by go_num, by rw [H2.out, HZ.out]; rfl⟩
            case measure => simp [intOf]; omega
        · go_wp2
          go_ret2
          obtain rfl : k = xs.length := by omega
          exact ⟨ret_pair' (by unfold poolLeft; rw [H0.out, HS.out, ← H3.out]; rfl), X1.out⟩
end Go.Proofs.Ytnpkkfaidejljaa
