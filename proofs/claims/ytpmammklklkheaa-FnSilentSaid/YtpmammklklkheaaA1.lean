/- The contracts of the small functions on integers and sets, of the program and of the reference. No condition but the bounds that each names. -/
import Derived.Test.YtpmammklklkheaaProg
import Derived.Test.YtpmammklklkheaaPlain
import Derived.Test.YtpmammklklkheaaCore
namespace Go.Proofs.Ytpmammklklkheaa
open Go.RowKit
open BigFrame

theorem l6In_c (n lo hi : Int) (w : World) :
    Calls Try.prog 65 #[.int .i64 n, .int .i64 lo, .int .i64 hi] w fun e w' => e = .returned (.bool (inB lo n hi)) ∧ w = w' := by
  go_enter Try.func65, Try.ntmps65
  go_wp2
  all_goals (go_ret; refine ⟨?_, rfl⟩; simp [inB]; omega)
theorem in_c (n lo hi : Int) (w : World) :
    Calls Try.prog 100 #[.int .i64 n, .int .i64 lo, .int .i64 hi] w fun e w' => e = .returned (.bool (inB lo n hi)) ∧ w = w' := by
  go_enter Try.func100, Try.ntmps100
  go_wp2
  all_goals (go_ret; refine ⟨?_, rfl⟩; simp [inB]; omega)
theorem has_c (s k : Nat) (hs : s < 2 ^ 62) (hk : k ≤ 62) (w : World) :
    Calls Try.prog 110 #[.int .i64 s, .int .i64 k] w fun e w' => e = .returned (.bool (s.testBit k)) ∧ w = w' := by
  have e0 : min k 64 = k := by omega
  have e1 := div_pow_nat s k
  have e2 : bits .and .i64 (shr s k : Int) 1 = (band (shr s k) 1 : Int) := bits_and (shr s k) 1 (Nat.lt_of_le_of_lt (Nat.shiftRight_le _ _) (by omega)) (by omega)
  have e3 := testBit_shift s k
  go_enter Try.func110, Try.ntmps110
  go_wp2
  go_ret
  exact ⟨rfl, rfl⟩
theorem l1Bit_c (s k : Nat) (hs : s < 2 ^ 62) (hk : k ≤ 62) (w : World) :
    Calls Try.prog 48 #[.int .i64 s, .int .i64 k] w fun e w' => e = .returned (.int .i64 ((s.testBit k).toNat : Nat)) ∧ w = w' := by
  have e0 : min k 64 = k := by omega
  have e1 := div_pow_nat s k
  have e2 : bits .and .i64 (shr s k : Int) 1 = (band (shr s k) 1 : Int) := bits_and (shr s k) 1 (Nat.lt_of_le_of_lt (Nat.shiftRight_le _ _) (by omega)) (by omega)
  have e3 := bit_shift s k
  go_enter Try.func48, Try.ntmps48
  go_wp2
  go_ret
  exact ⟨rfl, rfl⟩
theorem pow_cast (n : Nat) : (2 : Int) ^ n = ((2 ^ n : Nat) : Int) := by simp
theorem pow_var (n : Nat) (h : n ≤ 62) : ∃ p : Nat, 2 ^ n = p ∧ (2 : Int) ^ n = (p : Int) ∧ 1 ≤ p ∧ p ≤ 4611686018427387904 := by
  refine ⟨2 ^ n, rfl, pow_cast n, Nat.one_le_two_pow, ?_⟩
  have : 2 ^ n ≤ 2 ^ 62 := Nat.pow_le_pow_right (by omega) h
  omega
theorem isSet_c (s : Int) (n : Nat) (hn : n ≤ 62) (w : World) :
    Calls Try.prog 76 #[.int .i64 s, .int .i64 n] w fun e w' => e = .returned (.bool (setB s n)) ∧ w = w' := by
  obtain ⟨p, hp, hp1, hp2, hp3⟩ := pow_var n hn
  have HP := Lib.hid hp; clear hp
  have e0 : min n 64 = n := by omega
  go_enter Try.func76, Try.ntmps76
  go_wp2_with (go_at_call 100; refine (in_c _ _ _ _).mono ?_; rintro e w' ⟨rfl, rfl⟩)
  go_ret
  exact ⟨by unfold setB; rw [HP.out]; rfl, rfl⟩

set_option maxHeartbeats 400000 in
theorem pop64_c (x : Nat) (hx : x < 2 ^ 63) (w : World) :
    Calls Try.prog 120 #[.int .u64 x] w fun e w' => e = .returned (.int .i64 (pop64 x : Nat)) ∧ w = w' := by
  obtain ⟨a1, hA1⟩ : ∃ a, a = band (x / 2) 6148914691236517205 := ⟨_, rfl⟩
  obtain ⟨b1, hB1⟩ : ∃ a, a = band x 6148914691236517205 := ⟨_, rfl⟩
  have k1 : a1 ≤ 6148914691236517205 := by rw [hA1]; exact band_le _ _
  have l1 : b1 ≤ 6148914691236517205 := by rw [hB1]; exact band_le _ _
  obtain ⟨a2, hA2⟩ : ∃ a, a = band ((a1 + b1) / 4) 3689348814741910323 := ⟨_, rfl⟩
  obtain ⟨b2, hB2⟩ : ∃ a, a = band (a1 + b1) 3689348814741910323 := ⟨_, rfl⟩
  have k2 : a2 ≤ 3689348814741910323 := by rw [hA2]; exact band_le _ _
  have l2 : b2 ≤ 3689348814741910323 := by rw [hB2]; exact band_le _ _
  obtain ⟨a3, hA3⟩ : ∃ a, a = band ((a2 + b2) / 16 + (a2 + b2)) 1085102592571150095 := ⟨_, rfl⟩
  have k3 : a3 ≤ 1085102592571150095 := by rw [hA3]; exact band_le _ _
  obtain ⟨a4, hA4⟩ : ∃ a, a = a3 + a3 / 256 := ⟨_, rfl⟩
  obtain ⟨a5, hA5⟩ : ∃ a, a = a4 + a4 / 65536 := ⟨_, rfl⟩
  obtain ⟨a6, hA6⟩ : ∃ a, a = a5 + a5 / 4294967296 := ⟨_, rfl⟩
  have hfin : pop64 x = band a6 127 := by rw [hA6, hA5, hA4, hA3, hB2, hA2, hB1, hA1]; rfl
  have e1 : bits .and .u64 ((x : Int) / 2) 6148914691236517205 = (a1 : Int) := by rw [hA1]; exact bits_and_u64 (x / 2) 6148914691236517205 (by omega) (by decide)
  have e2 : bits .and .u64 (x : Int) 6148914691236517205 = (b1 : Int) := by rw [hB1]; exact bits_and_u64 x 6148914691236517205 hx (by decide)
  have e3 : bits .and .u64 (((a1 : Int) + b1) / 4) 3689348814741910323 = (a2 : Int) := by rw [hA2]; exact bits_and_u64 ((a1 + b1) / 4) 3689348814741910323 (by omega) (by decide)
  have e4 : bits .and .u64 ((a1 : Int) + b1) 3689348814741910323 = (b2 : Int) := by
    rw [hB2]
    unfold bits
    show IntKind.u64.wrap ((BitVec.ofInt 64 ((a1 + b1 : Nat) : Int) &&& BitVec.ofInt 64 ((3689348814741910323 : Nat) : Int)).toNat : Int) = _
    rw [BitVec.toNat_and, toNat_ofInt_u64 _ (by omega), toNat_ofInt_u64 _ (by decide)]
    have : a1 + b1 &&& 3689348814741910323 ≤ 3689348814741910323 := Nat.and_le_right
    exact IntWalk.u64_in _ (by omega)
  have e5 : bits .and .u64 (((a2 : Int) + b2) / 16 + (a2 + b2)) 1085102592571150095 = (a3 : Int) := by rw [hA3]; exact bits_and_u64 ((a2 + b2) / 16 + (a2 + b2)) 1085102592571150095 (by omega) (by decide)
  have k6 : a6 < 2 ^ 63 := by omega
  have e6 : bits .and .i64 ((a3 : Int) + a3 / 256 + (a3 + a3 / 256) / 65536 + (a3 + a3 / 256 + (a3 + a3 / 256) / 65536) / 4294967296) 127 = (band a6 127 : Int) := by
    have := bits_and a6 127 k6 (by decide)
    rw [← this, hA6, hA5, hA4]
    simp
  have HF := Lib.hid hfin
  clear hfin hA1 hA2 hA3 hA4 hA5 hA6 hB1 hB2
  go_enter Try.func120, Try.ntmps120
  go_wp2
  go_ret
  rw [HF.out]
  exact ⟨rfl, rfl⟩
theorem size_c (s : Nat) (hs : s < 2 ^ 63) (w : World) :
    Calls Try.prog 57 #[.int .i64 s] w fun e w' => e = .returned (.int .i64 (pop64 s : Nat)) ∧ w = w' := by
  go_enter Try.func57, Try.ntmps57
  go_wp2_with (first | (go_at_call 120; refine (pop64_c _ hs _).mono ?_; rintro e w' ⟨rfl, rfl⟩) | (go_at_call 98; go_in))
  go_ret
  exact ⟨rfl, rfl⟩
end Go.Proofs.Ytpmammklklkheaa
