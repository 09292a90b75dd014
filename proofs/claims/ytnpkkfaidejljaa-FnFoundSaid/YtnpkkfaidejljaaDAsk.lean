/- The draws of graphs, sets and nodes; the balls that the program gives. The condition: at most 2^20 bytes. -/
import Derived.Test.YtnpkkfaidejljaaDGraph
import Derived.Test.YtnpkkfaidejljaaBalls
import Derived.Test.YtnpkkfaidejljaaGraphI
namespace Go.Proofs.Ytnpkkfaidejljaa
open Go.RowKit
open BigFrame

theorem Own.slice {w : World} {base : Nat} {v : Value} {xs : List Int} (h : Own w base v xs) (h1 : 1 ≤ xs.length) : ∃ g c, v = .slice (some ⟨g, 0, none⟩) xs.length c := by
  rcases h.get with ⟨rfl, h2⟩ | ⟨g, c, rfl, -⟩
  · rw [h2] at h1; simp at h1
  · exact ⟨g, c, rfl⟩

set_option maxHeartbeats 1000000 in
theorem drawAskSplit_c (v : Value) (bs : List Int) (w : World) (hv : Rb w v bs) (hm : bs.length ≤ 1048576) :
    Calls Try.prog 58 #[v] w fun e w' => ∃ (v' : Value) (gs : List Int) (s x : Nat), e = .returned (.tuple #[v', .int .i64 s, .int .i64 x]) ∧ 1 ≤ gs.length ∧ gs.length ≤ 7 ∧ s ≤ 128 ∧ x < gs.length ∧ Rd w' v' gs ∧ Ext w w' := by
  have HO := Lib.hid (l6Open_c v bs w hv hm)
  obtain ⟨a, c, rfl, -, -⟩ := hv
  clear hm
  go_enter Try.func58, Try.ntmps58
  go_wp2_with fail
  refine HO.out.mono ?_
  rintro e w1 ⟨rfl, r1, -⟩
  have R1 := Lib.hid r1; clear r1
  go_wp2_with fail
  refine (l91Graph_c w _ 0 7 _ R1.out (by omega) (by omega) (by omega)).mono ?_
  rintro e w2 ⟨v2, gs, rfl, hn1, hn7, o2, r2⟩
  obtain ⟨ga, gc, rfl⟩ := o2.slice hn1
  have R2 := Lib.hid r2; have O2 := Lib.hid o2; clear r2 o2 R1
  obtain ⟨L, hL⟩ : ∃ L, L = gs.length := ⟨_, rfl⟩
  rw [← hL] at hn1 hn7 ⊢
  have HL := Lib.hid hL
  clear hL
  obtain ⟨p, hp, hp1, hp2, hp3⟩ := pow_var L (by omega)
  have hp4 : p ≤ 128 := by rw [← hp]; exact (Nat.pow_le_pow_right (by omega) hn7 : 2 ^ L ≤ 2 ^ 7)
  have e0 : min L 64 = L := by omega
  clear hp
  obtain ⟨p1, hpp⟩ : ∃ p1 : Nat, (p : Int) + 1 = (p1 : Int) := ⟨p + 1, by omega⟩
  go_wp2_with fail
  refine (pick_c w _ (0 + 200) p1 _ R2.out (by omega) (by omega) (by omega)).mono ?_
  rintro e w3 ⟨s, rfl, hs, r3, u3⟩
  have R3 := Lib.hid r3; have O3 := Lib.hid (O2.out.upd (by omega) u3); clear r3 u3
  go_wp2_with fail
  refine (pick_c w _ (0 + 200 + 1) L _ R3.out (by omega) (by omega) (by omega)).mono ?_
  rintro e w4 ⟨x, rfl, hx, r4, u4⟩
  have R4 := Lib.hid r4; have O4 := Lib.hid (O3.out.upd (by omega) u4); clear r4 u4
  go_wp2
  go_ret3
  exact ⟨_, gs, s, x, rfl, by rw [← HL.out]; omega, by rw [← HL.out]; omega, by omega, by rw [← HL.out]; omega, by rw [HL.out]; exact O4.out.rd, R4.out.ext⟩
set_option maxHeartbeats 1000000 in
theorem l91Asked_c (v : Value) (bs : List Int) (w : World) (hv : Rb w v bs) (hm : bs.length ≤ 1048576) :
    Calls Try.prog 127 #[v] w fun e w' => ∃ (v' : Value) (gs : List Int) (s : Nat), e = .returned (.tuple #[v', .int .i64 s]) ∧ 1 ≤ gs.length ∧ gs.length ≤ 6 ∧ s < 2 ^ gs.length ∧ s < 64 ∧ Rd w' v' gs ∧ Ext w w' := by
  have HO := Lib.hid (l6Open_c v bs w hv hm)
  obtain ⟨a, c, rfl, -, -⟩ := hv
  clear hm
  go_enter Try.func127, Try.ntmps127
  go_wp2_with fail
  refine HO.out.mono ?_
  rintro e w1 ⟨rfl, r1, -⟩
  have R1 := Lib.hid r1; clear r1
  go_wp2_with fail
  refine (l91Graph_c w _ 0 6 _ R1.out (by omega) (by omega) (by omega)).mono ?_
  rintro e w2 ⟨v2, gs, rfl, hn1, hn7, o2, r2⟩
  obtain ⟨ga, gc, rfl⟩ := o2.slice hn1
  have R2 := Lib.hid r2; have O2 := Lib.hid o2; clear r2 o2 R1
  obtain ⟨L, hL⟩ : ∃ L, L = gs.length := ⟨_, rfl⟩
  rw [← hL] at hn1 hn7 ⊢
  have HL := Lib.hid hL
  clear hL
  obtain ⟨p, hp, hp1, hp2, hp3⟩ := pow_var L (by omega)
  have hp4 : p ≤ 64 := by rw [← hp]; exact (Nat.pow_le_pow_right (by omega) hn7 : 2 ^ L ≤ 2 ^ 6)
  have e0 : min L 64 = L := by omega
  have HP := Lib.hid hp
  clear hp
  go_wp2_with fail
  refine (pick_c w _ (0 + 200) p _ R2.out (by omega) (by omega) (by omega)).mono ?_
  rintro e w3 ⟨s, rfl, hs, r3, u3⟩
  have R3 := Lib.hid r3; have O3 := Lib.hid (O2.out.upd (by omega) u3); clear r3 u3
  go_wp2
  go_ret2
  exact ⟨_, gs, s, rfl, by rw [← HL.out]; omega, by rw [← HL.out]; omega, by rw [← HL.out, HP.out]; omega, by omega, by rw [HL.out]; exact O3.out.rd, R3.out.ext⟩
set_option maxHeartbeats 1000000 in
theorem drawAskDepth_c (v : Value) (bs : List Int) (w : World) (hv : Rb w v bs) (hm : bs.length ≤ 1048576) :
    Calls Try.prog 74 #[v] w fun e w' => ∃ (v' : Value) (gs : List Int) (s : Nat), e = .returned (.tuple #[v', .int .i64 s]) ∧ 1 ≤ gs.length ∧ gs.length ≤ 6 ∧ s < 2 ^ gs.length ∧ s < 64 ∧ Rd w' v' gs ∧ Ext w w' := by
  have HO := Lib.hid (l91Asked_c v bs w hv hm)
  obtain ⟨a, c, rfl, -, -⟩ := hv
  clear hm
  go_enter Try.func74, Try.ntmps74
  go_wp2_with fail
  refine HO.out.mono ?_
  rintro e w1 ⟨v1, gs, s, rfl, h1, h2, h3, h4, r1, x1⟩
  obtain ⟨ga, gc, rfl⟩ := r1.form
  have R1 := Lib.hid r1; have X1 := Lib.hid x1
  clear r1 x1
  go_wp2
  go_ret2
  exact ⟨_, gs, s, rfl, h1, h2, h3, h4, R1.out, X1.out⟩
set_option maxHeartbeats 1000000 in
theorem drawAskBest_c (v : Value) (bs : List Int) (w : World) (hv : Rb w v bs) (hm : bs.length ≤ 1048576) :
    Calls Try.prog 75 #[v] w fun e w' => ∃ (v' : Value) (gs : List Int) (s : Nat), e = .returned (.tuple #[v', .int .i64 s]) ∧ 1 ≤ gs.length ∧ gs.length ≤ 6 ∧ s < 2 ^ gs.length ∧ s < 64 ∧ Rd w' v' gs ∧ Ext w w' := by
  have HO := Lib.hid (l91Asked_c v bs w hv hm)
  obtain ⟨a, c, rfl, -, -⟩ := hv
  clear hm
  go_enter Try.func75, Try.ntmps75
  go_wp2_with fail
  refine HO.out.mono ?_
  rintro e w1 ⟨v1, gs, s, rfl, h1, h2, h3, h4, r1, x1⟩
  obtain ⟨ga, gc, rfl⟩ := r1.form
  have R1 := Lib.hid r1; have X1 := Lib.hid x1
  clear r1 x1
  go_wp2
  go_ret2
  exact ⟨_, gs, s, rfl, h1, h2, h3, h4, R1.out, X1.out⟩
set_option maxHeartbeats 1000000 in
theorem graphBallsI_c (v : Value) (g : List Int) (w : World) (hv : Rd w v g) (hg : IsGraph g) :
    Calls Try.prog 61 #[v] w fun e w' => ∃ v', e = .returned (.tuple #[v', .bool true]) ∧ Rd w' v' (ballsTo g g.length) ∧ Ext w w' := by
  have hg1 := graphIn_iff.2 hg
  have hl := hg.le
  have HG := Lib.hid hg
  have HC := Lib.hid (graphInI_c v g w hv (by omega))
  rw [hg1] at HC
  have HV := Lib.hid hv
  obtain ⟨a, c, rfl⟩ := hv.form
  clear hg hv hg1
  go_enter Try.func61, Try.ntmps61
  go_wp2_with fail
  refine HC.out.mono ?_
  rintro e w1 ⟨rfl, x1⟩
  have X1 := Lib.hid x1; clear x1
  go_wp2_with fail
  refine (balls_c _ g w1 (HV.out.ext X1.out) HG.out).mono ?_
  rintro e w2 ⟨v2, rfl, o2, x2⟩
  have O2 := Lib.hid o2; have X2 := Lib.hid x2; clear o2 x2
  go_wp2
  go_ret2
  exact ⟨_, rfl, O2.out.rd, X1.out.trans X2.out⟩
end Go.Proofs.Ytnpkkfaidejljaa
