/- The draws of pools, with what is asked of them; lists that the law compares. The condition: at most 2^20 bytes. -/
import Derived.Test.YtnpkkfaidejljaaDPool
import Derived.Test.YtnpkkfaidejljaaApart
namespace Go.Proofs.Ytnpkkfaidejljaa
open Go.RowKit
open BigFrame

set_option maxHeartbeats 1000000 in
theorem drawPath_c (v : Value) (bs : List Int) (w : World) (hv : Rb w v bs) (hm : bs.length ≤ 1048576) :
    Calls Try.prog 110 #[v] w fun e w' => ∃ x : Nat, e = .returned (.int .i64 x) ∧ x < 14 ∧ Ext w w' := by
  have HO := Lib.hid (l6Open_c v bs w hv hm)
  obtain ⟨a, c, rfl, -, -⟩ := hv
  clear hm
  go_enter Try.func110, Try.ntmps110
  go_wp2_with fail
  refine HO.out.mono ?_
  rintro e w1 ⟨rfl, r1, -⟩
  have R1 := Lib.hid r1; clear r1
  go_wp2_with fail
  refine (pick_c w _ 0 14 _ R1.out (by omega) (by omega) (by omega)).mono ?_
  rintro e w2 ⟨x1, rfl, hx1, r2, -⟩
  have R2 := Lib.hid r2; clear r2
  go_wp2
  go_ret
  exact ⟨x1, rfl, hx1, R2.out.ext⟩
set_option maxHeartbeats 1000000 in
theorem drawDigits_c (v : Value) (bs : List Int) (w : World) (hv : Rb w v bs) (hm : bs.length ≤ 1048576) :
    Calls Try.prog 45 #[v] w fun e w' => ∃ x : Nat, e = .returned (.int .i64 x) ∧ x < 14 ∧ Ext w w' := by
  have HO := Lib.hid (drawPath_c v bs w hv hm)
  obtain ⟨a, c, rfl, -, -⟩ := hv
  clear hm
  go_enter Try.func45, Try.ntmps45
  go_wp2_with fail
  refine HO.out.mono ?_
  rintro e w1 ⟨x, rfl, hx, x1⟩
  go_wp2
  go_ret
  exact ⟨x, rfl, hx, x1⟩
set_option maxHeartbeats 1000000 in
theorem drawPoolIn_c (v : Value) (bs : List Int) (w : World) (hv : Rb w v bs) (hm : bs.length ≤ 1048576) :
    Calls Try.prog 50 #[v] w fun e w' => ∃ (n : Nat) (v' : Value) (xs : List Int), e = .returned (.tuple #[.int .i64 n, v']) ∧ 1 ≤ n ∧ n ≤ 6 ∧ xs.length ≤ 12 ∧ Rd w' v' xs ∧ Ext w w' := by
  have HO := Lib.hid (l6Open_c v bs w hv hm)
  obtain ⟨a, c, rfl, -, -⟩ := hv
  clear hm
  go_enter Try.func50, Try.ntmps50
  go_wp2_with fail
  refine HO.out.mono ?_
  rintro e w1 ⟨rfl, r1, -⟩
  have R1 := Lib.hid r1; clear r1
  go_wp2_with fail
  refine (l91Pool_c w _ 0 _ R1.out (by omega)).mono ?_
  rintro e w2 ⟨n, v2, xs, rfl, hn1, hn6, hxl, o2, r2⟩
  have R2 := Lib.hid r2; have O2 := Lib.hid o2; clear r2 o2 R1
  go_wp2
  go_ret2
  exact ⟨n, _, xs, rfl, hn1, hn6, hxl, O2.out.rd, R2.out.ext⟩
set_option maxHeartbeats 1000000 in
theorem drawPoolAnswers_c (v : Value) (bs : List Int) (w : World) (hv : Rb w v bs) (hm : bs.length ≤ 1048576) :
    Calls Try.prog 53 #[v] w fun e w' => ∃ (n : Nat) (v' : Value) (xs : List Int) (x : Nat), e = .returned (.tuple #[.int .i64 n, v', .int .i64 x]) ∧ 1 ≤ n ∧ n ≤ 6 ∧ xs.length ≤ 12 ∧ Rd w' v' xs ∧ Ext w w' := by
  have HO := Lib.hid (l6Open_c v bs w hv hm)
  obtain ⟨a, c, rfl, -, -⟩ := hv
  clear hm
  go_enter Try.func53, Try.ntmps53
  go_wp2_with fail
  refine HO.out.mono ?_
  rintro e w1 ⟨rfl, r1, -⟩
  have R1 := Lib.hid r1; clear r1
  go_wp2_with fail
  refine (l91Pool_c w _ 0 _ R1.out (by omega)).mono ?_
  rintro e w2 ⟨n, v2, xs, rfl, hn1, hn6, hxl, o2, r2⟩
  have R2 := Lib.hid r2; have O2 := Lib.hid o2; clear r2 o2 R1
  obtain ⟨p, hp, hp1, hp2, hp3⟩ := pow_var n (by omega)
  have hp4 : p ≤ 64 := by rw [← hp]; exact (Nat.pow_le_pow_right (by omega) hn6 : 2 ^ n ≤ 2 ^ 6)
  have e0 : min n 64 = n := by omega
  clear hp
  obtain ⟨p1, hpp⟩ : ∃ p1 : Nat, (p : Int) + 1 = (p1 : Int) := ⟨p + 1, by omega⟩
  go_wp2_with fail
  refine (pick_c w _ (0 + 20) p1 _ R2.out (by omega) (by omega) (by omega)).mono ?_
  rintro e w3 ⟨x, rfl, hx, r3, u3⟩
  have R3 := Lib.hid r3; have O3 := Lib.hid (O2.out.upd (by omega) u3); clear r3 u3
  go_wp2
  go_ret3
  exact ⟨n, _, xs, x, rfl, hn1, hn6, hxl, O3.out.rd, R3.out.ext⟩
set_option maxHeartbeats 1000000 in
theorem l91Told_c (v : Value) (bs : List Int) (w : World) (hv : Rb w v bs) (hm : bs.length ≤ 1048576) :
    Calls Try.prog 123 #[v] w fun e w' => ∃ (n : Nat) (v' : Value) (xs : List Int) (x : Nat), e = .returned (.tuple #[.int .i64 n, v', .int .i64 x]) ∧ 1 ≤ n ∧ n ≤ 6 ∧ xs.length ≤ 12 ∧ Rd w' v' xs ∧ Ext w w' := by
  have HO := Lib.hid (l6Open_c v bs w hv hm)
  obtain ⟨a, c, rfl, -, -⟩ := hv
  clear hm
  go_enter Try.func123, Try.ntmps123
  go_wp2_with fail
  refine HO.out.mono ?_
  rintro e w1 ⟨rfl, r1, -⟩
  have R1 := Lib.hid r1; clear r1
  go_wp2_with fail
  refine (l91Pool_c w _ 0 _ R1.out (by omega)).mono ?_
  rintro e w2 ⟨n, v2, xs, rfl, hn1, hn6, hxl, o2, r2⟩
  have R2 := Lib.hid r2; have O2 := Lib.hid o2; clear r2 o2 R1
  go_wp2_with fail
  refine (pick_c w _ (0 + 20) 4 _ R2.out (by omega) (by omega) (by omega)).mono ?_
  rintro e w3 ⟨x, rfl, hx, r3, u3⟩
  have R3 := Lib.hid r3; have O3 := Lib.hid (O2.out.upd (by omega) u3); clear r3 u3
  go_wp2_with fail
  refine (pick_c w _ (0 + 20 + 1) 20 _ R3.out (by omega) (by omega) (by omega)).mono ?_
  rintro e w4 ⟨y, rfl, hy, r4, u4⟩
  have R4 := Lib.hid r4; have O4 := Lib.hid (O3.out.upd (by omega) u4); clear r4 u4
  obtain ⟨q, hq, e3⟩ : ∃ i : Nat, i ≤ y ∧ ((y : Int) / 19) = (i : Int) := ⟨y / 19, Nat.div_le_self _ _, by simp⟩
  obtain ⟨z, e4⟩ : ∃ z : Nat, (x : Int) + (q : Int) = (z : Int) := ⟨x + q, by omega⟩
  go_wp2
  go_ret3
  exact ⟨n, _, xs, z, rfl, hn1, hn6, hxl, O4.out.rd, R4.out.ext⟩
set_option maxHeartbeats 1000000 in
theorem drawPoolClear_c (v : Value) (bs : List Int) (w : World) (hv : Rb w v bs) (hm : bs.length ≤ 1048576) :
    Calls Try.prog 65 #[v] w fun e w' => ∃ (n : Nat) (v' : Value) (xs : List Int) (x : Nat), e = .returned (.tuple #[.int .i64 n, v', .int .i64 x]) ∧ 1 ≤ n ∧ n ≤ 6 ∧ xs.length ≤ 12 ∧ Rd w' v' xs ∧ Ext w w' := by
  have HO := Lib.hid (l91Told_c v bs w hv hm)
  obtain ⟨a, c, rfl, -, -⟩ := hv
  clear hm
  go_enter Try.func65, Try.ntmps65
  go_wp2_with fail
  refine HO.out.mono ?_
  rintro e w1 ⟨n, v2, xs, x, rfl, hn1, hn6, hxl, r1, x1⟩
  have HR := Lib.hid r1; have HX := Lib.hid x1; clear r1 x1
  go_wp2
  go_ret3
  exact ⟨n, _, xs, x, rfl, hn1, hn6, hxl, HR.out, HX.out⟩
set_option maxHeartbeats 1000000 in
theorem drawPoolTells_c (v : Value) (bs : List Int) (w : World) (hv : Rb w v bs) (hm : bs.length ≤ 1048576) :
    Calls Try.prog 69 #[v] w fun e w' => ∃ (n : Nat) (v' : Value) (xs : List Int) (x : Nat), e = .returned (.tuple #[.int .i64 n, v', .int .i64 x]) ∧ 1 ≤ n ∧ n ≤ 6 ∧ xs.length ≤ 12 ∧ Rd w' v' xs ∧ Ext w w' := by
  have HO := Lib.hid (l91Told_c v bs w hv hm)
  obtain ⟨a, c, rfl, -, -⟩ := hv
  clear hm
  go_enter Try.func69, Try.ntmps69
  go_wp2_with fail
  refine HO.out.mono ?_
  rintro e w1 ⟨n, v2, xs, x, rfl, hn1, hn6, hxl, r1, x1⟩
  have HR := Lib.hid r1; have HX := Lib.hid x1; clear r1 x1
  go_wp2
  go_ret3
  exact ⟨n, _, xs, x, rfl, hn1, hn6, hxl, HR.out, HX.out⟩
set_option maxHeartbeats 1000000 in
theorem drawPoolLeft_c (v : Value) (bs : List Int) (w : World) (hv : Rb w v bs) (hm : bs.length ≤ 1048576) :
    Calls Try.prog 56 #[v] w fun e w' => ∃ (n : Nat) (v' : Value) (xs : List Int) (x : Int), e = .returned (.tuple #[.int .i64 n, v', .int .i64 x]) ∧ 1 ≤ n ∧ n ≤ 6 ∧ xs.length ≤ 12 ∧ Rd w' v' xs ∧ Ext w w' := by
  have HO := Lib.hid (l6Open_c v bs w hv hm)
  obtain ⟨a, c, rfl, -, -⟩ := hv
  clear hm
  go_enter Try.func56, Try.ntmps56
  go_wp2_with fail
  refine HO.out.mono ?_
  rintro e w1 ⟨rfl, r1, -⟩
  have R1 := Lib.hid r1; clear r1
  go_wp2_with fail
  refine (l91Pool_c w _ 0 _ R1.out (by omega)).mono ?_
  rintro e w2 ⟨n, v2, xs, rfl, hn1, hn6, hxl, o2, r2⟩
  have R2 := Lib.hid r2; have O2 := Lib.hid o2; clear r2 o2 R1
  obtain ⟨p, hp, hp1, hp2, hp3⟩ := pow_var n (by omega)
  have hp4 : p ≤ 64 := by rw [← hp]; exact (Nat.pow_le_pow_right (by omega) hn6 : 2 ^ n ≤ 2 ^ 6)
  have e0 : min n 64 = n := by omega
  clear hp
  go_wp2_with fail
  refine (pick_c w _ (0 + 20) p _ R2.out (by omega) (by omega) (by omega)).mono ?_
  rintro e w3 ⟨x, rfl, hx, r3, u3⟩
  have R3 := Lib.hid r3; have O3 := Lib.hid (O2.out.upd (by omega) u3); clear r3 u3
  go_wp2_with fail
  refine (poolAnswersS_c n v2 xs x w3 O3.out.rd (by omega)).mono ?_
  rintro e w4 ⟨rfl, x4⟩
  have R4 := Lib.hid (R3.out.next x4); have O4 := Lib.hid (O3.out.ext x4); clear x4
  obtain ⟨av, ok, hao⟩ : ∃ av ok, poolAnswers n xs x = (av, ok) := ⟨_, _, rfl⟩
  rw [hao]
  unfold pairV
  obtain ⟨a2, c2, hv2⟩ := O4.out.rd.form
  subst hv2
  obtain ⟨pl, hpl, hpl1, hpl2, hpl3⟩ := pow_var xs.length (by omega)
  have hpl4 : pl ≤ 4096 := by rw [← hpl]; exact pow_le_12 hxl
  have el0 : min xs.length 64 = xs.length := by omega
  obtain ⟨p1, hpp⟩ : ∃ p1 : Nat, (pl : Int) + 1 = (p1 : Int) := ⟨pl + 1, by omega⟩
  clear hpl hao
  cases ok
  · go_wp2_with fail
    refine (pick_c w _ (0 + 20 + 1) p1 _ R4.out (by omega) (by omega) (by omega)).mono ?_
    rintro e w5 ⟨y, rfl, hy, r5, u5⟩
    have R5 := Lib.hid r5; have O5 := Lib.hid (O4.out.upd (by omega) u5); clear r5 u5
    go_wp2
    go_ret3
    exact ⟨n, _, xs, y, rfl, hn1, hn6, hxl, O5.out.rd, R5.out.ext⟩
  · go_wp2_with fail
    refine (pick_c w _ (0 + 20 + 1) 2 _ R4.out (by omega) (by omega) (by omega)).mono ?_
    rintro e w5 ⟨y, rfl, hy, r5, u5⟩
    have R5 := Lib.hid r5; have O5 := Lib.hid (O4.out.upd (by omega) u5); clear r5 u5
    by_cases hy0 : y = 0
    · have hy0' : ((y : Int) == 0) = true := by simp [hy0]
      clear hy0
      go_wp2
      go_ret3
      exact ⟨n, _, xs, av, rfl, hn1, hn6, hxl, O5.out.rd, R5.out.ext⟩
    · have hy0' : ((y : Int) == 0) = false := by simp [hy0]
      clear hy0
      go_wp2_with fail
      refine (pick_c w _ (0 + 20 + 1 + 1) p1 _ R5.out (by omega) (by omega) (by omega)).mono ?_
      rintro e w6 ⟨z, rfl, hz, r6, u6⟩
      have R6 := Lib.hid r6; have O6 := Lib.hid (O5.out.upd (by omega) u6); clear r6 u6
      go_wp2
      go_ret3
      exact ⟨n, _, xs, z, rfl, hn1, hn6, hxl, O6.out.rd, R6.out.ext⟩

set_option maxHeartbeats 400000 in
/-- Equal lists are the same. -/
theorem sameInts_c (v v' : Value) (xs : List Int) (w : World) (hv : Rd w v xs) (hv' : Rd w v' xs) (hx : xs.length ≤ 1048576) :
    Calls Try.prog 48 #[v, v'] w fun e w' => e = .returned (.bool true) ∧ Ext w w' := by
  obtain ⟨a, c, rfl⟩ := hv.form
  obtain ⟨a', c', rfl⟩ := hv'.form
  have HV := Lib.hid hv; clear hv
  have HV' := Lib.hid hv'; clear hv'
  go_enter Try.func48, Try.ntmps48
  go_wp2
  go_loopw [5] (fun i wr => ∃ k : Nat, k ≤ xs.length ∧ i = .int .i64 k ∧ Ext w wr) (fun i _ => xs.length - (intOf i).toNat)
  case atStart => exact ⟨0, Nat.zero_le _, rfl, Ext.refl _⟩
  case round =>
    obtain ⟨k, hk, rfl, hx⟩ := hrel
    have HX := Lib.hid hx; clear hx
    by_cases hlt : k < xs.length
    · obtain ⟨b, o, rfl, -, -, hc⟩ := HV.out.at hlt
      obtain ⟨b', o', rfl, -, -, hc'⟩ := HV'.out.at hlt
      have c1 := fun u => hc _ (HX.out.trans (clip_ext wr u))
      have c2 := fun u => hc' _ (HX.out.trans (clip_ext wr u))
      clear hc hc'
      go_wp2
      refine wp_region_ext (by kernel_rfl) (by kernel_rfl) ?_
      repeat (go_big_quiet_step (fail))
      refine wpQuiet_nil ?_
      rintro _ ⟨u, rfl⟩
      go_wp2
      go_roundw
      case rel => exact ⟨k + 1, by omega, by go_num, HX.out.trans (clip_ext _ _)⟩
      case measure => simp [intOf]; omega
    · go_wp2
      go_ret
      exact ⟨rfl, HX.out⟩
end Go.Proofs.Ytnpkkfaidejljaa
