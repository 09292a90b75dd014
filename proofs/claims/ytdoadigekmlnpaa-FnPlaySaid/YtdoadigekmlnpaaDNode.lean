/- The draw of a graph and a node. The condition: at most 2^20 bytes. -/
import Derived.Test.YtdoadigekmlnpaaDGraph
import Derived.Test.YtdoadigekmlnpaaGBalls
namespace Go.Proofs.Ytdoadigekmlnpaa
open Go.RowKit
open BigFrame

set_option maxHeartbeats 1000000 in
theorem l91Node_c (v : Value) (bs : List Int) (w : World) (hv : Rb w v bs) (hm : bs.length ≤ 1048576) :
    Calls Try.prog 70 #[v] w fun e w' => ∃ (v' : Value) (gs : List Int) (x : Int), e = .returned (.tuple #[v', .int .i64 x]) ∧ 1 ≤ gs.length ∧ gs.length ≤ 7 ∧ -1 ≤ x ∧ x ≤ 6 ∧ Rd w' v' gs ∧ Ext w w' := by
  have HO := Lib.hid (l6Open_c v bs w hv hm)
  obtain ⟨a, c, rfl, -, -⟩ := hv
  clear hm
  go_enter Try.func70, Try.ntmps70
  go_wp2_with fail
  refine HO.out.mono ?_
  rintro e w1 ⟨rfl, r1, -⟩
  have R1 := Lib.hid r1; clear r1
  go_wp2_with fail
  refine (l91Graph_c w _ 0 7 _ R1.out (by omega) (by omega) (by omega)).mono ?_
  rintro e w2 ⟨v2, gs, rfl, hn1, hn7, o2, r2⟩
  obtain ⟨ga, gc, rfl⟩ := o2.slice hn1
  have R2 := Lib.hid r2; have O2 := Lib.hid o2; clear r2 o2 R1
  obtain ⟨L, hL⟩ : ∃ L, L = gs.length := ⟨_, rfl⟩
  rw [← hL] at hn1 hn7 O2 ⊢
  have HL := Lib.hid hL
  clear hL
  go_wp2_with fail
  refine (pick_c w _ (0 + 200) L _ R2.out (by omega) (by omega) (by omega)).mono ?_
  rintro e w3 ⟨x, rfl, hx, r3, u3⟩
  have R3 := Lib.hid r3; have O3 := Lib.hid (O2.out.upd (by omega) u3); clear r3 u3
  go_wp2_with fail
  refine (pick_c w _ (0 + 200 + 1) 20 _ R3.out (by omega) (by omega) (by omega)).mono ?_
  rintro e w4 ⟨y, rfl, hy, r4, u4⟩
  have R4 := Lib.hid r4; have O4 := Lib.hid (O3.out.upd (by omega) u4); clear r4 u4
  obtain ⟨q, hq, e3⟩ : ∃ i : Nat, i ≤ 1 ∧ ((y : Int) / 19) = (i : Int) := ⟨y / 19, by omega, by simp⟩
  obtain ⟨z, hz1, hz2, e4⟩ : ∃ z : Int, -1 ≤ z ∧ z ≤ 6 ∧ (x : Int) - (q : Int) = z := ⟨_, by omega, by omega, rfl⟩
  go_wp2
  go_ret2
  exact ⟨_, gs, z, rfl, by rw [← HL.out]; omega, by rw [← HL.out]; omega, hz1, hz2, O4.out.rd, R4.out.ext⟩
set_option maxHeartbeats 1000000 in
theorem drawAskPlay_c (v : Value) (bs : List Int) (w : World) (hv : Rb w v bs) (hm : bs.length ≤ 1048576) :
    Calls Try.prog 35 #[v] w fun e w' => ∃ (v' : Value) (gs : List Int) (x : Int), e = .returned (.tuple #[v', .int .i64 x]) ∧ 1 ≤ gs.length ∧ gs.length ≤ 7 ∧ -1 ≤ x ∧ x ≤ 6 ∧ Rd w' v' gs ∧ Ext w w' := by
  have HO := Lib.hid (l91Node_c v bs w hv hm)
  obtain ⟨a, c, rfl, -, -⟩ := hv
  clear hm
  go_enter Try.func35, Try.ntmps35
  go_wp2_with fail
  refine HO.out.mono ?_
  rintro e w1 ⟨v1, gs, s, rfl, h1, h2, h3, h4, r1, x1⟩
  obtain ⟨ga, gc, rfl⟩ := r1.form
  have R1 := Lib.hid r1; have X1 := Lib.hid x1
  clear r1 x1
  go_wp2
  go_ret2
  exact ⟨_, gs, s, rfl, h1, h2, h3, h4, R1.out, X1.out⟩
set_option maxHeartbeats 1000000 in
theorem drawAskAnswers_c (v : Value) (bs : List Int) (w : World) (hv : Rb w v bs) (hm : bs.length ≤ 1048576) :
    Calls Try.prog 21 #[v] w fun e w' => ∃ (v' : Value) (gs : List Int) (x : Int), e = .returned (.tuple #[v', .int .i64 x]) ∧ 1 ≤ gs.length ∧ gs.length ≤ 7 ∧ -1 ≤ x ∧ x ≤ 6 ∧ Rd w' v' gs ∧ Ext w w' := by
  have HO := Lib.hid (l91Node_c v bs w hv hm)
  obtain ⟨a, c, rfl, -, -⟩ := hv
  clear hm
  go_enter Try.func21, Try.ntmps21
  go_wp2_with fail
  refine HO.out.mono ?_
  rintro e w1 ⟨v1, gs, s, rfl, h1, h2, h3, h4, r1, x1⟩
  obtain ⟨ga, gc, rfl⟩ := r1.form
  have R1 := Lib.hid r1; have X1 := Lib.hid x1
  clear r1 x1
  go_wp2
  go_ret2
  exact ⟨_, gs, s, rfl, h1, h2, h3, h4, R1.out, X1.out⟩
end Go.Proofs.Ytdoadigekmlnpaa
