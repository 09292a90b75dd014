/- The draw of items, tests, a number and answers. The condition: at most 2^20 bytes. -/
import Derived.Test.YtnpkkfaidejljaaDraws
import Derived.Deep.RegionWith
namespace Go.Proofs.Ytnpkkfaidejljaa
open Go.RowKit
open BigFrame

/-- Four results. -/
theorem four_results {fn : Func} {t u v x : Tmp} (h : fn.results = #[.tmp t, .tmp u, .tmp v, .tmp x]) (tmps : Array Value) (P : Program) (w : World) :
    (results fn tmps).run P w = .ok (.tuple #[tmps.getD t undef, tmps.getD u undef, tmps.getD v undef, tmps.getD x undef]) w := by
  simp [results, h]
theorem ans_some (n : Int) (v : Value) (xs : List Int) (z : Int) (w : World) (hv : Rd w v xs) (hm : xs.length ≤ 1048576) :
    Calls Try.prog 54 #[.int .i64 n, v, .int .i64 z] w fun e w' => ∃ (A : Int) (ok : Bool), e = .returned (.tuple #[.int .i64 A, .bool ok]) ∧ Ext w w' :=
  (poolAnswersS_c n v xs z w hv hm).mono fun _ _ ⟨he, hx⟩ => ⟨_, _, he, hx⟩

set_option maxRecDepth 100000 in
set_option maxHeartbeats 4000000 in
theorem drawPoolDecode_c (v : Value) (bs : List Int) (w : World) (hv : Rb w v bs) (hm : bs.length ≤ 1048576) :
    Calls Try.prog 71 #[v] w fun e w' => ∃ (n : Nat) (v' : Value) (xs : List Int) (d : Nat) (ans : Int), e = .returned (.tuple #[.int .i64 n, v', .int .i64 d, .int .i64 ans]) ∧ 1 ≤ n ∧ n ≤ 6 ∧ xs.length ≤ 12 ∧ d < 4 ∧ Rd w' v' xs ∧ Ext w w' := by
  have HO := Lib.hid (l6Open_c v bs w hv hm)
  obtain ⟨a, c, rfl, -, -⟩ := hv
  clear hm
  go_enter Try.func71, Try.ntmps71
  go_wp2_with fail
  refine HO.out.mono ?_
  rintro e w1 ⟨rfl, r1, -⟩
  have R1 := Lib.hid r1; clear r1 HO
  go_wp2_with fail
  refine (l91Pool_c w _ 0 _ R1.out (by omega)).mono ?_
  rintro e w2 ⟨n, v2, xs, rfl, hn1, hn6, hxl, o2, r2⟩
  obtain ⟨b, hb⟩ : ∃ b, b = w.heap.size := ⟨_, rfl⟩
  rw [← hb] at o2 r2 ⊢
  clear hb
  obtain ⟨a2, c2, rfl⟩ := o2.rd.form
  have R2 := Lib.hid r2; have O2 := Lib.hid o2; clear r2 o2 R1
  go_wp2_with fail
  refine (pick_c w b (0 + 20) 4 _ R2.out (by omega) (by omega) (by omega)).mono ?_
  rintro e w3 ⟨d, rfl, hd, r3, u3⟩
  have R3 := Lib.hid r3; have O3 := Lib.hid (O2.out.upd (show b < b + 1 by omega) u3); clear r3 u3 R2 O2
  go_wp2
  go_region_with (first
    | (go_at_call 54; refine (ans_some n _ xs _ _ ?_ (by omega)).mono ?_; exact O5.out.rd; rintro e w6 ⟨A, ok, rfl, x6⟩; have X6 := Lib.hid x6; clear x6)
    | (go_at_call 108; refine (pick_c w b 22 n _ ?_ (by omega) (by omega) (by omega)).mono ?_; exact R4.out; rintro e w5 ⟨y, rfl, hy, r5, u5⟩; have R5 := Lib.hid r5; have O5 := Lib.hid (O4.out.upd (show b < b + 1 by omega) u5); clear r5 u5)
    | (go_at_call 108; refine (pick_c w b 21 n _ ?_ (by omega) (by omega) (by omega)).mono ?_; exact R3.out.next (Ext.refl _).drew; rintro e w4 ⟨x, rfl, hx, r4, u4⟩; have R4 := Lib.hid r4; have O4 := Lib.hid (O3.out.drew.upd (show b < b + 1 by omega) u4); clear r4 u4))
  all_goals
    have R6 := Lib.hid (R5.out.next X6.out); have O6 := Lib.hid (O5.out.ext X6.out)
    clear R5 O5 R4 O4 R3 O3 X6
    simp only [Act.put, Exit.inBlock]
    obtain ⟨L, hL⟩ : ∃ L, L = xs.length := ⟨_, rfl⟩
    rw [← hL] at hxl O6 ⊢
    have HL := Lib.hid hL
    clear hL
    obtain ⟨p, hp, hp1, hp2, hp3⟩ := pow_var L (by omega)
    have hp4 : p ≤ 4096 := by rw [← hp]; exact (Nat.pow_le_pow_right (by omega) hxl : 2 ^ L ≤ 2 ^ 12)
    have e0 : min L 64 = L := by omega
    clear hp
    cases ok
    · go_wp2_with fail
      refine (pick_c w b (22 + 1) p _ R6.out (by omega) (by omega) (by omega)).mono ?_
      rintro e w7 ⟨z, rfl, hz, r7, u7⟩
      have R7 := Lib.hid r7; have O7 := Lib.hid (O6.out.upd (show b < b + 1 by omega) u7); clear r7 u7 R6 O6
      go_wp2
      (try simp only [Exit.inBlock, Exit.then]); refine bodyPost_ret (four_results rfl _ _ _) rfl ?_
      exact ⟨n, _, xs, d, _, rfl, hn1, hn6, by rw [← HL.out]; omega, hd, O7.out.rd, R7.out.ext⟩
    · go_wp2_with fail
      refine (pick_c w b (22 + 1) 3 _ R6.out (by omega) (by omega) (by omega)).mono ?_
      rintro e w7 ⟨z, rfl, hz, r7, u7⟩
      have R7 := Lib.hid r7; have O7 := Lib.hid (O6.out.upd (show b < b + 1 by omega) u7); clear r7 u7 R6 O6
      by_cases hz0 : 0 < z
      · go_wp2
        (try simp only [Exit.inBlock, Exit.then]); refine bodyPost_ret (four_results rfl _ _ _) rfl ?_
        exact ⟨n, _, xs, d, _, rfl, hn1, hn6, by rw [← HL.out]; omega, hd, O7.out.rd, R7.out.ext⟩
      · go_wp2_with fail
        refine (pick_c w b (22 + 1 + 1) p _ R7.out (by omega) (by omega) (by omega)).mono ?_
        rintro e w8 ⟨z8, rfl, hz8, r8, u8⟩
        have R8 := Lib.hid r8; have O8 := Lib.hid (O7.out.upd (show b < b + 1 by omega) u8); clear r8 u8 R7 O7
        go_wp2
        (try simp only [Exit.inBlock, Exit.then]); refine bodyPost_ret (four_results rfl _ _ _) rfl ?_
        exact ⟨n, _, xs, d, _, rfl, hn1, hn6, by rw [← HL.out]; omega, hd, O8.out.rd, R8.out.ext⟩
end Go.Proofs.Ytnpkkfaidejljaa
