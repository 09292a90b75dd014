/- What the walk of FnPoolBalls rests on, part 15: plain facts, and contracts of the functions that it reaches. Each states its own condition. -/
import Derived.Test.YtpmammklklkheaaFnPoolBallsP5
import Derived.Test.YtpmammklklkheaaFnPoolBallsP13
import Derived.Test.YtpmammklklkheaaFnPoolBallsP14
import Derived.Test.YtpmammklklkheaaFnPoolBallsP12
import Derived.Test.YtpmammklklkheaaFnPoolBallsP11
/- The law's own count of nodes; the draw of two sets. The condition of each is typed. -/
namespace Go.Proofs.Ytpmammklklkheaa
open Go.RowKit
open BigFrame

theorem cntTo_all {s : Nat} (h : s ≤ 4095) : ∀ k, 12 ≤ k → cntTo s k = cnt s
  | 0, hk => by omega
  | k + 1, hk => by
    by_cases e : k + 1 = 12
    · rw [e]; rfl
    · rw [cntTo_succ, cntTo_all h k (by omega), testBit_out (show s < 2 ^ 12 by omega) (by omega)]; rfl

set_option maxHeartbeats 1000000 in
theorem sizeL_c (s : Nat) (hs : s ≤ 4095) (w : World) :
    Calls Try.prog 16 #[.int .i64 s] w fun e w' => e = .returned (.int .i64 (cnt s : Nat)) ∧ w = w' := by
  have HC := Lib.hid (cntTo_all hs 30 (by omega))
  go_enter Try.func16, Try.ntmps16
  go_wp2
  go_loop [3, 4] (fun n i => ∃ k D : Nat, k ≤ 30 ∧ i = .int .i64 k ∧ n = .int .i64 D ∧ D ≤ k ∧ Hid (D = cntTo s k)) (fun _ i => 30 - (intOf i).toNat)
  case atStart => exact ⟨0, 0, Nat.zero_le _, rfl, rfl, Nat.le_refl _, rfl⟩
  case round =>
    obtain ⟨k, D, hk, rfl, rfl, hD, HD⟩ := hrel
    by_cases hlt : k < 30
    · have e0 : min k 64 = k := by omega
      have e1 := div_pow_nat s k
      have e2 : bits .and .i64 (shr s k : Int) 1 = (band (shr s k) 1 : Int) := bits_and (shr s k) 1 (Nat.lt_of_le_of_lt (Nat.shiftRight_le _ _) (by omega)) (by omega)
      have e3 := bit_shift s k
      have HN := Lib.hid (cntTo_succ s k)
      cases hb : s.testBit k
      · rw [hb] at e3 HN
        clear hb
        go_wp2
        go_round
        case rel => exact ⟨k + 1, D, by omega, by go_num, by go_num, by omega, by unfold Hid; rw [HN.out, HD.out]; rfl⟩
        case measure => simp [intOf]; omega
      · rw [hb] at e3 HN
        clear hb
        go_wp2
        go_round
        case rel => exact ⟨k + 1, D + 1, by omega, by go_num, by go_num, by omega, by unfold Hid; rw [HN.out, HD.out]; rfl⟩
        case measure => simp [intOf]; omega
    · obtain rfl : k = 30 := by omega
      go_wp2
      go_ret
      exact ⟨ret_int (by rw [HD.out, HC.out]), rfl⟩

theorem bxor_cnt_le (a b : Nat) : cnt (bxor a b) ≤ cnt a + cnt b := by
  unfold cnt
  have : ∀ l : List Nat, l.countP (fun i => (bxor a b).testBit i) ≤ l.countP (fun i => a.testBit i) + l.countP (fun i => b.testBit i) := by
    intro l
    induction l with
    | nil => simp
    | cons x l ih =>
      simp only [List.countP_cons, testBit_bxor] at ih ⊢
      cases a.testBit x <;> cases b.testBit x <;> simp <;> omega
  exact this _
theorem bxor_comm' (a b : Nat) : bxor a b = bxor b a := Nat.xor_comm a b
theorem bxor_eq_zero {a b : Nat} : bxor a b = 0 ↔ a = b := by
  constructor
  · intro e
    apply Nat.eq_of_testBit_eq
    intro j
    have := congrArg (fun z => Nat.testBit z j) e
    simp only [testBit_bxor, Nat.zero_testBit] at this
    revert this
    cases a.testBit j <;> cases b.testBit j <;> simp
  · rintro rfl
    exact Nat.xor_self a
end Go.Proofs.Ytpmammklklkheaa

/- The draws of pools, with what is asked of them; lists that the law compares. The condition: at most 2^20 bytes. -/
namespace Go.Proofs.Ytpmammklklkheaa
open Go.RowKit
open BigFrame

set_option maxHeartbeats 400000 in
/-- Equal lists are the same. -/
theorem sameInts_c (v v' : Value) (xs : List Int) (w : World) (hv : Rd w v xs) (hv' : Rd w v' xs) (hx : xs.length ≤ 1048576) :
    Calls Try.prog 41 #[v, v'] w fun e w' => e = .returned (.bool true) ∧ Ext w w' := by
  obtain ⟨a, c, rfl⟩ := hv.form
  obtain ⟨a', c', rfl⟩ := hv'.form
  have HV := Lib.hid hv; clear hv
  have HV' := Lib.hid hv'; clear hv'
  go_enter Try.func41, Try.ntmps41
  go_wp2
  go_loopw [5] (fun i wr => ∃ k : Nat, k ≤ xs.length ∧ i = .int .i64 k ∧ Ext w wr) (fun i _ => xs.length - (intOf i).toNat)
  case atStart => exact ⟨0, Nat.zero_le _, rfl, Ext.refl _⟩
  case round =>
    obtain ⟨k, hk, rfl, hx⟩ := hrel
    have HX := Lib.hid hx; clear hx
    by_cases hlt : k < xs.length
    · obtain ⟨b, o, rfl, -, -, hc⟩ := HV.out.at hlt
      obtain ⟨b', o', rfl, -, -, hc'⟩ := HV'.out.at hlt
      have c1 := fun u => hc _ (HX.out.trans (clip_ext wr u))
      have c2 := fun u => hc' _ (HX.out.trans (clip_ext wr u))
      clear hc hc'
      go_wp2
      refine wp_region_ext (by kernel_rfl) (by kernel_rfl) ?_
      repeat (go_big_quiet_step (fail))
      refine wpQuiet_nil ?_
      rintro _ ⟨u, rfl⟩
      go_wp2
      go_roundw
      case rel => exact ⟨k + 1, by omega, by go_num, HX.out.trans (clip_ext _ _)⟩
      case measure => simp [intOf]; omega
    · go_wp2
      go_ret
      exact ⟨rfl, HX.out⟩
end Go.Proofs.Ytpmammklklkheaa

/- The walk of the law FnPoolBalls: balls tell one wrong node exactly for identifying codes. No condition. -/
namespace Go.Proofs.Ytpmammklklkheaa
open Go.RowKit
open BigFrame

set_option maxRecDepth 100000 in
set_option maxHeartbeats 2000000 in
theorem FnPoolBalls_walk (v : Value) (bs : List Int) (w : World) (hv : Rb w v bs) :
    Calls Try.prog 11 #[v] w fun e w' => e = .returned (.bool true) ∧ Below w.heap.size w w' := by
  have HV := Lib.hid hv
  obtain ⟨a, c, rfl, -, -⟩ := hv
  go_enter Try.func11, Try.ntmps11
  by_cases hl : bs.length ≤ 1048576
  · go_wp2_with fail
    refine (drawPoolBalls_c _ bs w HV.out hl).mono ?_
    rintro e w1 ⟨v1, gs, s, rfl, hn1, hn6, hs, r1, x1⟩
    obtain ⟨a1, c1, rfl⟩ := r1.form
    have hm : gs.length ≤ 1048576 := by omega
    have R1 := Lib.hid r1; have X1 := Lib.hid x1
    clear r1 x1
    rcases balls_all (g := gs) (s := s) with h0 | ⟨l, T, hB, hl12, hs4, hsz, hT, hC⟩
    · have H0 := Lib.hid h0
      clear h0
      go_wp2_with fail
      refine (poolBallsI_c _ gs s w1 R1.out hm).mono ?_
      rintro e w2 ⟨v2, rfl, o2, x2⟩
      rw [H0.out] at o2 ⊢
      unfold listV
      have R2 := Lib.hid (R1.out.ext x2); have X2 := Lib.hid (X1.out.trans x2); have O2 := Lib.hid o2.rd; clear x2 o2
      go_wp2_with fail
      refine (poolBallsS_c _ gs s w2 R2.out hm).mono ?_
      rintro e w3 ⟨v3, rfl, o3, x3⟩
      rw [H0.out] at o3 ⊢
      unfold listV
      have X3 := Lib.hid (X2.out.trans x3); have O3 := Lib.hid o3.rd; have P3 := Lib.hid (O2.out.ext x3); clear x3 o3
      go_wp2_with fail
      refine (sameInts_c _ _ [] w3 P3.out O3.out (by simp)).mono ?_
      rintro e w4 ⟨rfl, x4⟩
      have X4 := Lib.hid (X3.out.trans x4); have P4 := Lib.hid (P3.out.ext x4); have O4 := Lib.hid (O3.out.ext x4); clear x4
      go_wp2_with fail
      refine (sameInts_c _ _ [] w4 P4.out O4.out (by simp)).mono ?_
      rintro e w5 ⟨rfl, x5⟩
      have X5 := Lib.hid (X4.out.trans x5); clear x5
      go_wp2
      go_ret
      exact ⟨rfl, X5.out⟩
    · have HB := Lib.hid hB; have HT := Lib.hid hT; have HC := Lib.hid hC; have HZ := Lib.hid hsz
      clear hB hT hC hsz
      go_wp2_with fail
      refine (poolBallsI_c _ gs s w1 R1.out hm).mono ?_
      rintro e w2 ⟨v2, rfl, o2, x2⟩
      rw [HB.out] at o2 ⊢
      unfold listV
      obtain ⟨a2, c2, rfl⟩ := o2.rd.form
      have R2 := Lib.hid (R1.out.ext x2); have X2 := Lib.hid (X1.out.trans x2); have O2 := Lib.hid o2.rd; clear x2 o2
      go_wp2_with fail
      refine (poolBallsS_c _ gs s w2 R2.out hm).mono ?_
      rintro e w3 ⟨v3, rfl, o3, x3⟩
      rw [HB.out] at o3 ⊢
      unfold listV
      have R3 := Lib.hid (R2.out.ext x3); have X3 := Lib.hid (X2.out.trans x3); have O3 := Lib.hid o3.rd; have P3 := Lib.hid (O2.out.ext x3); clear x3 o3
      go_wp2_with fail
      refine (sameInts_c _ _ l w3 P3.out O3.out (by omega)).mono ?_
      rintro e w4 ⟨rfl, x4⟩
      have R4 := Lib.hid (R3.out.ext x4); have X4 := Lib.hid (X3.out.trans x4); have P4 := Lib.hid (P3.out.ext x4); clear x4
      go_wp2_with fail
      refine (sizeL_c s hs4 w4).mono ?_
      rintro e w' ⟨rfl, rfl⟩
      have f1 : ((l.length : Int) == ((cnt s : Nat) : Int)) = true := by rw [beq_iff_eq, HZ.out]
      go_wp2_with fail
      refine (poolTellsI_c _ _ l 1 w4 P4.out (by omega)).mono ?_
      rintro e w5 ⟨rfl, x5⟩
      rw [HT.out]
      have R5 := Lib.hid (R4.out.ext x5); have X5 := Lib.hid (X4.out.trans x5); clear x5
      go_wp2_with fail
      refine (codeInI_c _ gs 2 s w5 R5.out hm).mono ?_
      rintro e w6 ⟨rfl, x6⟩
      rw [HC.out]
      have X6 := Lib.hid (X5.out.trans x6); clear x6
      cases T
      · go_wp2
        go_ret
        exact ⟨rfl, X6.out⟩
      · go_wp2
        go_ret
        exact ⟨rfl, X6.out⟩
  · go_wp2
    go_ret
    exact ⟨rfl, Below.refl _ _⟩
end Go.Proofs.Ytpmammklklkheaa
