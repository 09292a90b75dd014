/- The law's own count of nodes; the draw of two sets. The condition of each is typed. -/
import Derived.Test.YtdoadigekmlnpaaDraw
import Derived.Test.YtdoadigekmlnpaaPFacts
namespace Go.Proofs.Ytdoadigekmlnpaa
open Go.RowKit
open BigFrame

theorem cntTo_all {s : Nat} (h : s ≤ 4095) : ∀ k, 12 ≤ k → cntTo s k = cnt s
  | 0, hk => by omega
  | k + 1, hk => by
    by_cases e : k + 1 = 12
    · rw [e]; rfl
    · rw [cntTo_succ, cntTo_all h k (by omega), testBit_out (show s < 2 ^ 12 by omega) (by omega)]; rfl

set_option maxHeartbeats 1000000 in
theorem sizeL_c (s : Nat) (hs : s ≤ 4095) (w : World) :
    Calls Try.prog 20 #[.int .i64 s] w fun e w' => e = .returned (.int .i64 (cnt s : Nat)) ∧ w = w' := by
  have HC := Lib.hid (cntTo_all hs 30 (by omega))
  go_enter Try.func20, Try.ntmps20
  go_wp2
  go_loop [3, 4] (fun n i => ∃ k D : Nat, k ≤ 30 ∧ i = .int .i64 k ∧ n = .int .i64 D ∧ D ≤ k ∧ Hid (D = cntTo s k)) (fun _ i => 30 - (intOf i).toNat)
  case atStart => exact ⟨0, 0, Nat.zero_le _, rfl, rfl, Nat.le_refl _, rfl⟩
  case round =>
    obtain ⟨k, D, hk, rfl, rfl, hD, HD⟩ := hrel
    by_cases hlt : k < 30
    · have e0 : min k 64 = k := by omega
      have e1 := div_pow_nat s k
      have e2 : bits .and .i64 (shr s k : Int) 1 = (band (shr s k) 1 : Int) := bits_and (shr s k) 1 (Nat.lt_of_le_of_lt (Nat.shiftRight_le _ _) (by omega)) (by omega)
      have e3 := bit_shift s k
      have HN := Lib.hid (cntTo_succ s k)
      cases hb : s.testBit k
      · rw [hb] at e3 HN
        clear hb
        go_wp2
        go_round
        case rel => exact ⟨k + 1, D, by omega, by go_num, by go_num, by omega, by unfold Hid; rw [HN.out, HD.out]; rfl⟩
        case measure => simp [intOf]; omega
      · rw [hb] at e3 HN
        clear hb
        go_wp2
        go_round
        case rel => exact ⟨k + 1, D + 1, by omega, by go_num, by go_num, by omega, by unfold Hid; rw [HN.out, HD.out]; rfl⟩
        case measure => simp [intOf]; omega
    · obtain rfl : k = 30 := by omega
      go_wp2
      go_ret
      exact ⟨ret_int (by rw [HD.out, HC.out]), rfl⟩

theorem bxor_cnt_le (a b : Nat) : cnt (bxor a b) ≤ cnt a + cnt b := by
  unfold cnt
  have : ∀ l : List Nat, l.countP (fun i => (bxor a b).testBit i) ≤ l.countP (fun i => a.testBit i) + l.countP (fun i => b.testBit i) := by
    intro l
    induction l with
    | nil => simp
    | cons x l ih =>
      simp only [List.countP_cons, testBit_bxor] at ih ⊢
      cases a.testBit x <;> cases b.testBit x <;> simp <;> omega
  exact this _
theorem bxor_comm' (a b : Nat) : bxor a b = bxor b a := Nat.xor_comm a b
theorem bxor_eq_zero {a b : Nat} : bxor a b = 0 ↔ a = b := by
  constructor
  · intro e
    apply Nat.eq_of_testBit_eq
    intro j
    have := congrArg (fun z => Nat.testBit z j) e
    simp only [testBit_bxor, Nat.zero_testBit] at this
    revert this
    cases a.testBit j <;> cases b.testBit j <;> simp
  · rintro rfl
    exact Nat.xor_self a
end Go.Proofs.Ytdoadigekmlnpaa
