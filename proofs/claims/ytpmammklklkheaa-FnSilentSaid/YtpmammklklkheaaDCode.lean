/- The draw of a code, of a graph with a code. The condition: at most 900000 numbers have been drawn; a graph of at most 12 nodes. -/
import Derived.Test.YtpmammklklkheaaDGraph
import Derived.Test.YtpmammklklkheaaGBalls
import Derived.Test.YtpmammklklkheaaCodeIn
namespace Go.Proofs.Ytpmammklklkheaa
open Go.RowKit
open BigFrame

set_option maxRecDepth 100000 in
set_option maxHeartbeats 2000000 in
theorem l91Code_c (w0 : World) (b m : Nat) (v : Value) (gs : List Int) (kind : Int) (w : World) (h : RdOk w0 b m w) (ho : Own w (b + 1) v gs) (hm : m ≤ 900000) (h1 : 1 ≤ gs.length) (h12 : gs.length ≤ 12) :
    Calls Try.prog 99 #[.pointer (some ⟨b, 0, none⟩), v, .int .i64 kind] w fun e w' => ∃ s : Nat, e = .returned (.int .i64 s) ∧ s ≤ 4095 ∧ Own w' (b + 1) v gs ∧ RdOk w0 b (m + 3) w' := by
  obtain ⟨ga, gc, rfl⟩ := ho.slice h1
  have HC := Lib.hid (codeLeastS_c _ gs kind w ho.rd (by omega))
  have HR := Lib.hid h; have HO := Lib.hid ho
  clear h ho
  obtain ⟨L, hL⟩ : ∃ L, L = gs.length := ⟨_, rfl⟩
  rw [← hL] at h1 h12 HC HO ⊢
  clear hL
  obtain ⟨p, hp, hp1, hp2, hp3⟩ := pow_var L (by omega)
  have hp4 : p ≤ 4096 := by rw [← hp]; exact (Nat.pow_le_pow_right (by omega) h12 : 2 ^ L ≤ 2 ^ 12)
  have e0 : min L 64 = L := by omega
  clear hp
  go_enter Try.func99, Try.ntmps99
  go_wp2_with fail
  refine HC.out.mono ?_
  rintro e w1 ⟨rfl, x1⟩
  have R1 := Lib.hid (HR.out.next x1); have O1 := Lib.hid (HO.out.ext x1)
  clear x1 HR HO HC
  unfold pairV
  rcases codeLeast_cases gs kind with hc | ⟨z, hz, hc⟩
  · rw [hc]
    go_wp2_with fail
    refine (pick_c w0 b m p _ R1.out (by omega) (by omega) (by omega)).mono ?_
    rintro e w2 ⟨s, rfl, hs, r2, u2⟩
    have R2 := Lib.hid r2; have O2 := Lib.hid (O1.out.upd (show b < b + 1 by omega) u2); clear r2 u2
    go_wp2
    go_ret
    exact ⟨s, rfl, by omega, O2.out, R2.out.more (by omega)⟩
  · rw [hc]
    go_wp2_with fail
    refine (pick_c w0 b m 2 _ R1.out (by omega) (by omega) (by omega)).mono ?_
    rintro e w2 ⟨x, rfl, hx, r2, u2⟩
    have R2 := Lib.hid r2; have O2 := Lib.hid (O1.out.upd (show b < b + 1 by omega) u2); clear r2 u2
    obtain ⟨b2, hb2⟩ : ∃ t, ((x : Int) == 0) = t := ⟨_, rfl⟩
    cases b2
    · go_wp2_with fail
      refine (pick_c w0 b (m + 1) 2 _ R2.out (by omega) (by omega) (by omega)).mono ?_
      rintro e w3 ⟨y, rfl, hy, r3, u3⟩
      have R3 := Lib.hid r3; have O3 := Lib.hid (O2.out.upd (show b < b + 1 by omega) u3); clear r3 u3
      obtain ⟨b3, hb3⟩ : ∃ t, ((y : Int) == 0) = t := ⟨_, rfl⟩
      cases b3
      · go_wp2_with fail
        refine (pick_c w0 b (m + 1 + 1) p _ R3.out (by omega) (by omega) (by omega)).mono ?_
        rintro e w4 ⟨s, rfl, hs, r4, u4⟩
        have R4 := Lib.hid r4; have O4 := Lib.hid (O3.out.upd (show b < b + 1 by omega) u4); clear r4 u4
        go_wp2
        go_ret
        exact ⟨s, rfl, by omega, O4.out, R4.out⟩
      · go_wp2
        go_ret
        exact ⟨z, rfl, hz, O3.out, R3.out.more (by omega)⟩
    · go_wp2_with fail
      refine (pick_c w0 b (m + 1) L _ R2.out (by omega) (by omega) (by omega)).mono ?_
      rintro e w3 ⟨y, rfl, hy, r3, u3⟩
      have R3 := Lib.hid r3; have O3 := Lib.hid (O2.out.upd (show b < b + 1 by omega) u3); clear r3 u3
      obtain ⟨q, hq, hq1, hq2, hq3⟩ := pow_var y (by omega)
      have hq4 : q ≤ 2048 := by rw [← hq]; exact (Nat.pow_le_pow_right (by omega) (by omega) : 2 ^ y ≤ 2 ^ 11)
      have e1 : min y 64 = y := by omega
      have e2 := bits_or z q (by omega) (by omega)
      have hbo : bor z q ≤ 4095 := by have := bor_lt (x := z) (y := q) (n := 12) (by omega) (by omega); omega
      clear hq
      go_wp2
      go_ret
      exact ⟨bor z q, rfl, hbo, O3.out, R3.out.more (by omega)⟩

set_option maxRecDepth 100000 in
set_option maxHeartbeats 2000000 in
theorem l91Sensors_c (w0 : World) (b m : Nat) (w : World) (h : RdOk w0 b m w) (hm : m ≤ 800000) :
    Calls Try.prog 58 #[.pointer (some ⟨b, 0, none⟩)] w fun e w' => ∃ (v' : Value) (gs : List Int) (s : Nat), e = .returned (.tuple #[v', .int .i64 s]) ∧ 1 ≤ gs.length ∧ gs.length ≤ 7 ∧ s ≤ 4095 ∧ Own w' (b + 1) v' gs ∧ RdOk w0 b (m + 210) w' := by
  have HR := Lib.hid h
  clear h
  go_enter Try.func58, Try.ntmps58
  go_wp2_with fail
  refine (l91Graph_c w0 b m 7 _ HR.out (by omega) (by omega) (by omega)).mono ?_
  rintro e w2 ⟨v2, gs, rfl, hn1, hn7, o2, r2⟩
  obtain ⟨ga, gc, rfl⟩ := o2.slice hn1
  have R2 := Lib.hid r2; have O2 := Lib.hid o2; clear r2 o2 HR
  go_wp2_with fail
  refine (pick_c w0 b (m + 200) 2 _ R2.out (by omega) (by omega) (by omega)).mono ?_
  rintro e w3 ⟨x, rfl, hx, r3, u3⟩
  have R3 := Lib.hid r3; have O3 := Lib.hid (O2.out.upd (show b < b + 1 by omega) u3); clear r3 u3 R2 O2
  obtain ⟨b2, hb2⟩ : ∃ t, ((x : Int) == 0) = t := ⟨_, rfl⟩
  cases b2
  · go_wp2_with fail
    refine (l91Code_c w0 b (m + 200 + 1) _ gs 2 _ R3.out O3.out (by omega) hn1 (by omega)).mono ?_
    rintro e w4 ⟨s, rfl, hs, o4, r4⟩
    have R4 := Lib.hid r4; have O4 := Lib.hid o4; clear r4 o4
    go_wp2
    go_ret2
    exact ⟨_, gs, s, rfl, hn1, hn7, hs, O4.out, R4.out.more (by omega)⟩
  · obtain ⟨L, hL⟩ : ∃ L, L = gs.length := ⟨_, rfl⟩
    have HL := Lib.hid hL
    rw [← hL] at hn1 hn7 O3 ⊢
    clear hL
    obtain ⟨p, hp, hp1, hp2, hp3⟩ := pow_var L (by omega)
    have hp4 : p ≤ 128 := by rw [← hp]; exact (Nat.pow_le_pow_right (by omega) hn7 : 2 ^ L ≤ 2 ^ 7)
    have e0 : min L 64 = L := by omega
    obtain ⟨p1, hpp⟩ : ∃ p1 : Nat, (p : Int) - 1 = (p1 : Int) := ⟨p - 1, by omega⟩
    clear hp
    go_wp2
    refine wp_region_ext (by kernel_rfl) (by kernel_rfl) ?_
    repeat (go_big_quiet_step (fail))
    refine wpQuiet_nil ?_
    rintro _ ⟨u, rfl⟩
    have X4 := Lib.hid (clip_ext w3 u)
    go_wp2
    go_ret2
    exact ⟨_, gs, p1, rfl, by rw [← HL.out]; omega, by rw [← HL.out]; omega, by omega, O3.out.ext X4.out, (R3.out.next X4.out).more (by omega)⟩
end Go.Proofs.Ytpmammklklkheaa
