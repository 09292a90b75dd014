/- What the walk of FnSensorFind rests on, part 14: plain facts, and contracts of the functions that it reaches. Each states its own condition. -/
import Derived.Test.YtpmammklklkheaaFnSensorFindP12
import Derived.Test.YtpmammklklkheaaFnSensorFindP13
import Derived.Test.YtpmammklklkheaaFnSensorFindP4
import Derived.Test.YtpmammklklkheaaFnSensorFindP9
import Derived.Test.YtpmammklklkheaaFnSensorFindP5
/- The draw of a graph, a code, a number and an alarm set. The condition: at most 2^20 bytes. -/
namespace Go.Proofs.Ytpmammklklkheaa
open Go.RowKit
open BigFrame

theorem codeMarks_cases (g : List Int) (s : Int) : codeMarks g s = ([], false) ∨ codeMarks g s = (marksTo g s.toNat g.length, true) := by
  unfold codeMarks
  cases fits g s
  · exact .inl rfl
  · exact .inr rfl
theorem mark_cell {w : World} {base gb c L : Nat} {gs : List Int} {s : Nat} (h : Own w base (.slice (some ⟨gb, 0, none⟩) L c) (marksTo gs s L)) {i : Nat} (hi : i < L) : w.cell? ⟨gb, i, none⟩ = some (.int .i64 (markN gs s i : Nat)) := by
  obtain ⟨-, -, -, h1, h2, -⟩ := h.at
  rw [h2 i hi, marksTo_get _ _ _ _ hi]

set_option maxRecDepth 100000 in
set_option maxHeartbeats 16000000 in
theorem drawSensorFind_c (v : Value) (bs : List Int) (w : World) (hv : Rb w v bs) (hm : bs.length ≤ 1048576) :
    Calls Try.prog 35 #[v] w fun e w' => ∃ (v' : Value) (gs : List Int) (s t : Nat) (al : Int), e = .returned (.tuple #[v', .int .i64 s, .int .i64 t, .int .i64 al]) ∧ 1 ≤ gs.length ∧ gs.length ≤ 7 ∧ s ≤ 4095 ∧ t ≤ 1 ∧ al < 9223372036854775808 ∧ Rd w' v' gs ∧ Ext w w' := by
  have HO := Lib.hid (l6Open_c v bs w hv hm)
  obtain ⟨a, c, rfl, -, -⟩ := hv
  clear hm
  go_enter Try.func35, Try.ntmps35
  go_wp2_with fail
  refine HO.out.mono ?_
  rintro e w1 ⟨rfl, r1, -⟩
  have R1 := Lib.hid r1; clear r1 HO
  go_wp2_with fail
  refine (l91Sensors_c w _ 0 _ R1.out (by omega)).mono ?_
  rintro e w2 ⟨v2, gs, s, rfl, h1, h7, hs, o2, r2⟩
  obtain ⟨b, hb⟩ : ∃ b, b = w.heap.size := ⟨_, rfl⟩
  rw [← hb] at o2 r2 ⊢
  clear hb
  obtain ⟨ga, gc, rfl⟩ := o2.slice h1
  have R2 := Lib.hid r2; have O2 := Lib.hid o2; clear r2 o2 R1
  go_wp2_with fail
  refine (codeMarksS_c _ gs s w2 O2.out.rd (by omega)).mono ?_
  rintro e w3 ⟨v3, rfl, o3, x3⟩
  have R3 := Lib.hid (R2.out.next x3); have O3 := Lib.hid (O2.out.ext x3)
  have M3 := Lib.hid (o3.mono (show b + 1 ≤ w2.heap.size from R2.out.lt.2))
  have HC := Lib.hid (codeMarks_cases gs s)
  clear x3 R2 O2 o3
  obtain ⟨L, hL⟩ : ∃ L, L = gs.length := ⟨_, rfl⟩
  rw [← hL] at h1 h7 O3 HC ⊢
  have HL := Lib.hid hL
  clear hL
  obtain ⟨p, hp, hp1, hp2, hp3⟩ := pow_var L (by omega)
  have hp4 : p ≤ 128 := by rw [← hp]; exact (Nat.pow_le_pow_right (by omega) h7 : 2 ^ L ≤ 2 ^ 7)
  have e0 : min L 64 = L := by omega
  have hpw : IntKind.i64.wrap (p : Int) = (p : Int) := wrap_i64_nat p (by omega)
  clear hp hp3
  rcases HC.out with hM | hM
  · rw [hM] at M3 ⊢
    unfold listV
    clear hM M3 HC
    go_wp2
    refine wp_region_any (by kernel_rfl) ?_
    (try (change wpAny _ _ _ _ _ _ _ (World.drew _)))
    refine wpAny_take (i := 0) (v := ?_) rfl (by kernel_rfl) (by kernel_rfl) (by kernel_rfl) (fun _ _ _ h => h) (Or.inl ⟨by rfl, ?_⟩) ?_
    rotate_left
    · intro w; go_simp
      try with_reducible rfl
    refine wpAny_take (i := 1) (v := ?_) rfl (by kernel_rfl) (by kernel_rfl) (by kernel_rfl) (fun _ _ _ h => h) (Or.inl ⟨by rfl, ?_⟩) ?_
    rotate_left
    · intro w; go_simp
      try with_reducible rfl
    refine wpAny_take (i := 2) (v := ?_) rfl (by kernel_rfl) (by kernel_rfl) (by kernel_rfl) (fun _ _ _ h => h) (Or.inl ⟨by rfl, ?_⟩) ?_
    rotate_left
    · intro w; go_simp
      try with_reducible rfl
    refine wpAny_take (i := 4) (v := ?_) rfl (by kernel_rfl) (by kernel_rfl) (by kernel_rfl) (fun _ _ _ h => h) (Or.inl ⟨by rfl, ?_⟩) ?_
    rotate_left
    · intro w; go_simp
      try with_reducible rfl
    refine wpAny_take (i := 5) (v := ?_) rfl (by kernel_rfl) (by kernel_rfl) (by kernel_rfl) (fun _ _ _ h => h) (Or.inl ⟨by rfl, ?_⟩) ?_
    rotate_left
    · intro w; go_simp
      try with_reducible rfl
    refine wpAny_take (i := 6) (v := ?_) rfl (by kernel_rfl) (by kernel_rfl) (by kernel_rfl) (fun _ _ _ h => h) (Or.inl ⟨by rfl, ?_⟩) ?_
    rotate_left
    · intro w; go_simp
      try with_reducible rfl
    refine wpAny_take (i := 7) (v := ?_) rfl (by kernel_rfl) (by kernel_rfl) (by kernel_rfl) (fun _ _ _ h => h) (Or.inl ⟨by rfl, ?_⟩) ?_
    rotate_left
    · intro w; go_simp
      try with_reducible rfl
    refine wpAny_take (i := 9) (v := ?_) rfl (by kernel_rfl) (by kernel_rfl) (by kernel_rfl) (fun _ _ _ h => h) (Or.inl ⟨by rfl, ?_⟩) ?_
    rotate_left
    · intro w; go_simp
      try with_reducible rfl
    refine wpAny_ready (rs := [3]) (by kernel_rfl) (by simp) ?_
    refine AllReady.cons rfl (fun K hK => ?_) AllReady.nil
    go_simp
    go_wp2_with (go_at_call 59; refine (pick_c w b 210 2 _ ?_ (by omega) (by omega) (by omega)).mono ?_; exact R3.out.next (Ext.refl _).drew; rintro e w4 ⟨x4, rfl, hx4, r4, u4⟩; have R4 := Lib.hid r4; have O4 := Lib.hid (O3.out.drew.upd (show b < b + 1 by omega) u4); clear r4 u4)
    refine wpAny_ready (rs := [8]) (by kernel_rfl) (by simp) ?_
    refine AllReady.cons rfl (fun K hK => ?_) AllReady.nil
    go_simp
    go_wp2_with (go_at_call 59; refine (pick_c w b 211 p _ ?_ (by omega) (by omega) (by omega)).mono ?_; exact R4.out; rintro e w5 ⟨x5, rfl, hx5, r5, u5⟩; have R5 := Lib.hid r5; have O5 := Lib.hid (O4.out.upd (show b < b + 1 by omega) u5); clear r5 u5)
    refine wpAny_take (i := 10) (v := ?_) rfl (by kernel_rfl) (by kernel_rfl) (by kernel_rfl) (fun _ _ _ h => h) (Or.inl ⟨by rfl, ?_⟩) ?_
    rotate_left
    · intro w; go_simp
      try with_reducible rfl
    refine wpAny_take (i := 11) (v := ?_) rfl (by kernel_rfl) (by kernel_rfl) (by kernel_rfl) (fun _ _ _ h => h) (Or.inl ⟨by rfl, ?_⟩) ?_
    rotate_left
    · intro w; go_simp
      try with_reducible rfl
    refine wpAny_take (i := 12) (v := ?_) rfl (by kernel_rfl) (by kernel_rfl) (by kernel_rfl) (fun _ _ _ h => h) (Or.inl ⟨by rfl, ?_⟩) ?_
    rotate_left
    · intro w; go_simp
      try with_reducible rfl
    refine wpAny_take (i := 13) (v := ?_) rfl (by kernel_rfl) (by kernel_rfl) (by kernel_rfl) (fun _ _ _ h => h) (Or.inl ⟨by rfl, ?_⟩) ?_
    rotate_left
    · intro w; go_simp
      try with_reducible rfl
    refine wpAny_ready (rs := [14]) (by kernel_rfl) (by simp) ?_
    refine AllReady.cons rfl (fun K hK => ?_) AllReady.nil
    go_simp
    refine hK _ _ ?_
    clear hK K
    refine wpAny_done (by kernel_rfl) ?_ _
    (try simp only [Act.put, Exit.inBlock])
    go_wp2
    (try simp only [Exit.inBlock, Exit.then]); refine bodyPost_ret (four_results rfl _ _ _) rfl ?_
    exact ⟨_, gs, s, x4, _, rfl, by rw [← HL.out]; omega, by rw [← HL.out]; omega, hs, by omega, Int.lt_of_le_of_lt (bits_hi_i64 _ _ _) (by decide), O5.out.rd, R5.out.ext⟩
  · rw [hM] at M3 ⊢
    unfold listV
    obtain ⟨gb, cb, rfl⟩ := M3.out.slice (by rw [marksTo_length]; exact h1)
    rw [marksTo_length] at M3 ⊢
    clear hM HC
    go_wp2_with fail
    refine (pick_c w b 210 4 _ R3.out (by omega) (by omega) (by omega)).mono ?_
    rintro e w4 ⟨x0, rfl, hx0, r4, u4⟩
    have R4 := Lib.hid r4; have O4 := Lib.hid (O3.out.upd (show b < b + 1 by omega) u4); have M4 := Lib.hid (M3.out.upd (show b < b + 1 by omega) u4); clear r4 u4 R3 O3 M3
    by_cases hz0 : 0 < x0
    · go_wp2
      refine wp_region_any (by kernel_rfl) ?_
      (try (change wpAny _ _ _ _ _ _ _ (World.drew _)))
      refine wpAny_take (i := 0) (v := ?_) rfl (by kernel_rfl) (by kernel_rfl) (by kernel_rfl) (fun _ _ _ h => h) (Or.inl ⟨by rfl, ?_⟩) ?_
      rotate_left
      · intro w; go_simp
        try with_reducible rfl
      refine wpAny_take (i := 1) (v := ?_) rfl (by kernel_rfl) (by kernel_rfl) (by kernel_rfl) (fun _ _ _ h => h) (Or.inl ⟨by rfl, ?_⟩) ?_
      rotate_left
      · intro w; go_simp
        try with_reducible rfl
      refine wpAny_take (i := 2) (v := ?_) rfl (by kernel_rfl) (by kernel_rfl) (by kernel_rfl) (fun _ _ _ h => h) (Or.inl ⟨by rfl, ?_⟩) ?_
      rotate_left
      · intro w; go_simp
        try with_reducible rfl
      refine wpAny_take (i := 4) (v := ?_) rfl (by kernel_rfl) (by kernel_rfl) (by kernel_rfl) (fun _ _ _ h => h) (Or.inl ⟨by rfl, ?_⟩) ?_
      rotate_left
      · intro w; go_simp
        try with_reducible rfl
      refine wpAny_take (i := 5) (v := ?_) rfl (by kernel_rfl) (by kernel_rfl) (by kernel_rfl) (fun _ _ _ h => h) (Or.inl ⟨by rfl, ?_⟩) ?_
      rotate_left
      · intro w; go_simp
        try with_reducible rfl
      refine wpAny_take (i := 6) (v := ?_) rfl (by kernel_rfl) (by kernel_rfl) (by kernel_rfl) (fun _ _ _ h => h) (Or.inl ⟨by rfl, ?_⟩) ?_
      rotate_left
      · intro w; go_simp
        try with_reducible rfl
      refine wpAny_take (i := 7) (v := ?_) rfl (by kernel_rfl) (by kernel_rfl) (by kernel_rfl) (fun _ _ _ h => h) (Or.inl ⟨by rfl, ?_⟩) ?_
      rotate_left
      · intro w; go_simp
        try with_reducible rfl
      refine wpAny_take (i := 11) (v := ?_) rfl (by kernel_rfl) (by kernel_rfl) (by kernel_rfl) (fun _ _ _ h => h) (Or.inl ⟨by rfl, ?_⟩) ?_
      rotate_left
      · intro w; go_simp
        try with_reducible rfl
      refine wpAny_take (i := 12) (v := ?_) rfl (by kernel_rfl) (by kernel_rfl) (by kernel_rfl) (fun _ _ _ h => h) (Or.inl ⟨by rfl, ?_⟩) ?_
      rotate_left
      · intro w; go_simp
        try with_reducible rfl
      refine wpAny_take (i := 13) (v := ?_) rfl (by kernel_rfl) (by kernel_rfl) (by kernel_rfl) (fun _ _ _ h => h) (Or.inl ⟨by rfl, ?_⟩) ?_
      rotate_left
      · intro w; go_simp
        try with_reducible rfl
      refine wpAny_take (i := 14) (v := ?_) rfl (by kernel_rfl) (by kernel_rfl) (by kernel_rfl) (fun _ _ _ h => h) (Or.inl ⟨by rfl, ?_⟩) ?_
      rotate_left
      · intro w; go_simp
        try with_reducible rfl
      refine wpAny_take (i := 18) (v := ?_) rfl (by kernel_rfl) (by kernel_rfl) (by kernel_rfl) (fun _ _ _ h => h) (Or.inl ⟨by rfl, ?_⟩) ?_
      rotate_left
      · intro w; go_simp
        try with_reducible rfl
      refine wpAny_ready (rs := [3]) (by kernel_rfl) (by simp) ?_
      refine AllReady.cons rfl (fun K hK => ?_) AllReady.nil
      go_simp
      go_wp2_with (go_at_call 59; refine (pick_c w b 211 2 _ ?_ (by omega) (by omega) (by omega)).mono ?_; exact R4.out.next (Ext.refl _).drew; rintro e w5 ⟨x5, rfl, hx5, r5, u5⟩; have R5 := Lib.hid r5; have O5 := Lib.hid (O4.out.drew.upd (show b < b + 1 by omega) u5); have M5 := Lib.hid (M4.out.drew.upd (show b < b + 1 by omega) u5); clear r5 u5)
      refine wpAny_ready (rs := [8]) (by kernel_rfl) (by simp) ?_
      refine AllReady.cons rfl (fun K hK => ?_) AllReady.nil
      go_simp
      go_wp2_with (go_at_call 59; refine (pick_c w b 212 L _ ?_ (by omega) (by omega) (by omega)).mono ?_; exact R5.out; rintro e w6 ⟨x6, rfl, hx6, r6, u6⟩; have R6 := Lib.hid r6; have O6 := Lib.hid (O5.out.upd (show b < b + 1 by omega) u6); have M6 := Lib.hid (M5.out.upd (show b < b + 1 by omega) u6); clear r6 u6)
      refine wpAny_take (i := 9) (v := ?_) rfl (by kernel_rfl) (by kernel_rfl) (by kernel_rfl) (fun _ _ _ h => h) (Or.inl ⟨by rfl, ?_⟩) ?_
      rotate_left
      · intro w; go_simp
        try with_reducible rfl
      refine wpAny_ready (rs := [10, 15]) (by kernel_rfl) (by simp) ?_
      refine AllReady.cons rfl (fun K hK => ?_) (AllReady.cons rfl (fun K hK => ?_) AllReady.nil)
      · skip
        have hc6 := mark_cell M6.out hx6
        go_simp
        refine hK _ _ ?_
        clear hK K
        refine wpAny_ready (rs := [15]) (by kernel_rfl) (by simp) ?_
        refine AllReady.cons rfl (fun K hK => ?_) AllReady.nil
        go_simp
        go_wp2_with (go_at_call 59; refine (pick_c w b 213 L _ ?_ (by omega) (by omega) (by omega)).mono ?_; exact R6.out; rintro e w7 ⟨x7, rfl, hx7, r7, u7⟩; have R7 := Lib.hid r7; have O7 := Lib.hid (O6.out.upd (show b < b + 1 by omega) u7); have M7 := Lib.hid (M6.out.upd (show b < b + 1 by omega) u7); clear r7 u7)
        refine wpAny_take (i := 16) (v := ?_) rfl (by kernel_rfl) (by kernel_rfl) (by kernel_rfl) (fun _ _ _ h => h) (Or.inl ⟨by rfl, ?_⟩) ?_
        rotate_left
        · intro w; go_simp
          try with_reducible rfl
        refine wpAny_take (i := 17) (v := ?_) rfl (by kernel_rfl) (by kernel_rfl) (by kernel_rfl) (fun _ _ _ h => h) (Or.inl ⟨by rfl, ?_⟩) ?_
        rotate_left
        · intro w; go_simp
          try with_reducible rfl
        refine wpAny_ready (rs := [19]) (by kernel_rfl) (by simp) ?_
        refine AllReady.cons rfl (fun K hK => ?_) AllReady.nil
        go_simp
        go_wp2_with (go_at_call 59; refine (pick_c w b 214 2 _ ?_ (by omega) (by omega) (by omega)).mono ?_; exact R7.out; rintro e w8 ⟨x8, rfl, hx8, r8, u8⟩; have R8 := Lib.hid r8; have O8 := Lib.hid (O7.out.upd (show b < b + 1 by omega) u8); have M8 := Lib.hid (M7.out.upd (show b < b + 1 by omega) u8); clear r8 u8)
        refine wpAny_take (i := 20) (v := ?_) rfl (by kernel_rfl) (by kernel_rfl) (by kernel_rfl) (fun _ _ _ h => h) (Or.inl ⟨by rfl, ?_⟩) ?_
        rotate_left
        · intro w; go_simp
          try with_reducible rfl
        refine wpAny_take (i := 21) (v := ?_) rfl (by kernel_rfl) (by kernel_rfl) (by kernel_rfl) (fun _ _ _ h => h) (Or.inl ⟨by rfl, ?_⟩) ?_
        rotate_left
        · intro w; go_simp
          try with_reducible rfl
        refine wpAny_take (i := 22) (v := ?_) rfl (by kernel_rfl) (by kernel_rfl) (by kernel_rfl) (fun _ _ _ h => h) (Or.inl ⟨by rfl, ?_⟩) ?_
        rotate_left
        · intro w; go_simp
          try with_reducible rfl
        refine wpAny_take (i := 23) (v := ?_) rfl (by kernel_rfl) (by kernel_rfl) (by kernel_rfl) (fun _ _ _ h => h) (Or.inl ⟨by rfl, ?_⟩) ?_
        rotate_left
        · intro w; go_simp
          try with_reducible rfl
        refine wpAny_take (i := 24) (v := ?_) rfl (by kernel_rfl) (by kernel_rfl) (by kernel_rfl) (fun _ _ _ h => h) (Or.inl ⟨by rfl, ?_⟩) ?_
        rotate_left
        · intro w; go_simp
          try with_reducible rfl
        refine wpAny_ready (rs := [25]) (by kernel_rfl) (by simp) ?_
        refine AllReady.cons rfl (fun K hK => ?_) AllReady.nil
        go_simp
        refine hK _ _ ?_
        clear hK K
        refine wpAny_done (by kernel_rfl) ?_ _
        (try simp only [Act.put, Exit.inBlock])
        go_wp2
        (try simp only [Exit.inBlock, Exit.then]); refine bodyPost_ret (four_results rfl _ _ _) rfl ?_
        exact ⟨_, gs, s, x5, _, rfl, by rw [← HL.out]; omega, by rw [← HL.out]; omega, hs, by omega, Int.lt_of_le_of_lt (bits_hi_i64 _ _ _) (by decide), O8.out.rd, R8.out.ext⟩
      · skip
        go_simp
        go_wp2_with (go_at_call 59; refine (pick_c w b 213 L _ ?_ (by omega) (by omega) (by omega)).mono ?_; exact R6.out; rintro e w7 ⟨x7, rfl, hx7, r7, u7⟩; have R7 := Lib.hid r7; have O7 := Lib.hid (O6.out.upd (show b < b + 1 by omega) u7); have M7 := Lib.hid (M6.out.upd (show b < b + 1 by omega) u7); clear r7 u7)
        refine wpAny_take (i := 16) (v := ?_) rfl (by kernel_rfl) (by kernel_rfl) (by kernel_rfl) (fun _ _ _ h => h) (Or.inl ⟨by rfl, ?_⟩) ?_
        rotate_left
        · intro w; go_simp
          try with_reducible rfl
        refine wpAny_take (i := 17) (v := ?_) rfl (by kernel_rfl) (by kernel_rfl) (by kernel_rfl) (fun _ _ _ h => h) (Or.inl ⟨by rfl, ?_⟩) ?_
        rotate_left
        · intro w; go_simp
          try with_reducible rfl
        refine wpAny_ready (rs := [10, 19]) (by kernel_rfl) (by simp) ?_
        refine AllReady.cons rfl (fun K hK => ?_) (AllReady.cons rfl (fun K hK => ?_) AllReady.nil)
        · skip
          have hc7 := mark_cell M7.out hx6
          go_simp
          refine hK _ _ ?_
          clear hK K
          refine wpAny_ready (rs := [19]) (by kernel_rfl) (by simp) ?_
          refine AllReady.cons rfl (fun K hK => ?_) AllReady.nil
          go_simp
          go_wp2_with (go_at_call 59; refine (pick_c w b 214 2 _ ?_ (by omega) (by omega) (by omega)).mono ?_; exact R7.out; rintro e w8 ⟨x8, rfl, hx8, r8, u8⟩; have R8 := Lib.hid r8; have O8 := Lib.hid (O7.out.upd (show b < b + 1 by omega) u8); have M8 := Lib.hid (M7.out.upd (show b < b + 1 by omega) u8); clear r8 u8)
          refine wpAny_take (i := 20) (v := ?_) rfl (by kernel_rfl) (by kernel_rfl) (by kernel_rfl) (fun _ _ _ h => h) (Or.inl ⟨by rfl, ?_⟩) ?_
          rotate_left
          · intro w; go_simp
            try with_reducible rfl
          refine wpAny_take (i := 21) (v := ?_) rfl (by kernel_rfl) (by kernel_rfl) (by kernel_rfl) (fun _ _ _ h => h) (Or.inl ⟨by rfl, ?_⟩) ?_
          rotate_left
          · intro w; go_simp
            try with_reducible rfl
          refine wpAny_take (i := 22) (v := ?_) rfl (by kernel_rfl) (by kernel_rfl) (by kernel_rfl) (fun _ _ _ h => h) (Or.inl ⟨by rfl, ?_⟩) ?_
          rotate_left
          · intro w; go_simp
            try with_reducible rfl
          refine wpAny_take (i := 23) (v := ?_) rfl (by kernel_rfl) (by kernel_rfl) (by kernel_rfl) (fun _ _ _ h => h) (Or.inl ⟨by rfl, ?_⟩) ?_
          rotate_left
          · intro w; go_simp
            try with_reducible rfl
          refine wpAny_take (i := 24) (v := ?_) rfl (by kernel_rfl) (by kernel_rfl) (by kernel_rfl) (fun _ _ _ h => h) (Or.inl ⟨by rfl, ?_⟩) ?_
          rotate_left
          · intro w; go_simp
            try with_reducible rfl
          refine wpAny_ready (rs := [25]) (by kernel_rfl) (by simp) ?_
          refine AllReady.cons rfl (fun K hK => ?_) AllReady.nil
          go_simp
          refine hK _ _ ?_
          clear hK K
          refine wpAny_done (by kernel_rfl) ?_ _
          (try simp only [Act.put, Exit.inBlock])
          go_wp2
          (try simp only [Exit.inBlock, Exit.then]); refine bodyPost_ret (four_results rfl _ _ _) rfl ?_
          exact ⟨_, gs, s, x5, _, rfl, by rw [← HL.out]; omega, by rw [← HL.out]; omega, hs, by omega, Int.lt_of_le_of_lt (bits_hi_i64 _ _ _) (by decide), O8.out.rd, R8.out.ext⟩
        · skip
          go_simp
          go_wp2_with (go_at_call 59; refine (pick_c w b 214 2 _ ?_ (by omega) (by omega) (by omega)).mono ?_; exact R7.out; rintro e w8 ⟨x8, rfl, hx8, r8, u8⟩; have R8 := Lib.hid r8; have O8 := Lib.hid (O7.out.upd (show b < b + 1 by omega) u8); have M8 := Lib.hid (M7.out.upd (show b < b + 1 by omega) u8); clear r8 u8)
          refine wpAny_take (i := 20) (v := ?_) rfl (by kernel_rfl) (by kernel_rfl) (by kernel_rfl) (fun _ _ _ h => h) (Or.inl ⟨by rfl, ?_⟩) ?_
          rotate_left
          · intro w; go_simp
            try with_reducible rfl
          refine wpAny_take (i := 22) (v := ?_) rfl (by kernel_rfl) (by kernel_rfl) (by kernel_rfl) (fun _ _ _ h => h) (Or.inl ⟨by rfl, ?_⟩) ?_
          rotate_left
          · intro w; go_simp
            try with_reducible rfl
          refine wpAny_take (i := 23) (v := ?_) rfl (by kernel_rfl) (by kernel_rfl) (by kernel_rfl) (fun _ _ _ h => h) (Or.inl ⟨by rfl, ?_⟩) ?_
          rotate_left
          · intro w; go_simp
            try with_reducible rfl
          refine wpAny_take (i := 24) (v := ?_) rfl (by kernel_rfl) (by kernel_rfl) (by kernel_rfl) (fun _ _ _ h => h) (Or.inl ⟨by rfl, ?_⟩) ?_
          rotate_left
          · intro w; go_simp
            try with_reducible rfl
          refine wpAny_ready (rs := [10]) (by kernel_rfl) (by simp) ?_
          refine AllReady.cons rfl (fun K hK => ?_) AllReady.nil
          have hc8 := mark_cell M8.out hx6
          go_simp
          refine hK _ _ ?_
          clear hK K
          refine wpAny_take (i := 21) (v := ?_) rfl (by kernel_rfl) (by kernel_rfl) (by kernel_rfl) (fun _ _ _ h => h) (Or.inl ⟨by rfl, ?_⟩) ?_
          rotate_left
          · intro w; go_simp
            try with_reducible rfl
          refine wpAny_ready (rs := [25]) (by kernel_rfl) (by simp) ?_
          refine AllReady.cons rfl (fun K hK => ?_) AllReady.nil
          go_simp
          refine hK _ _ ?_
          clear hK K
          refine wpAny_done (by kernel_rfl) ?_ _
          (try simp only [Act.put, Exit.inBlock])
          go_wp2
          (try simp only [Exit.inBlock, Exit.then]); refine bodyPost_ret (four_results rfl _ _ _) rfl ?_
          exact ⟨_, gs, s, x5, _, rfl, by rw [← HL.out]; omega, by rw [← HL.out]; omega, hs, by omega, Int.lt_of_le_of_lt (bits_hi_i64 _ _ _) (by decide), O8.out.rd, R8.out.ext⟩
    · clear M4
      go_wp2
      refine wp_region_any (by kernel_rfl) ?_
      (try (change wpAny _ _ _ _ _ _ _ (World.drew _)))
      refine wpAny_take (i := 0) (v := ?_) rfl (by kernel_rfl) (by kernel_rfl) (by kernel_rfl) (fun _ _ _ h => h) (Or.inl ⟨by rfl, ?_⟩) ?_
      rotate_left
      · intro w; go_simp
        try with_reducible rfl
      refine wpAny_take (i := 1) (v := ?_) rfl (by kernel_rfl) (by kernel_rfl) (by kernel_rfl) (fun _ _ _ h => h) (Or.inl ⟨by rfl, ?_⟩) ?_
      rotate_left
      · intro w; go_simp
        try with_reducible rfl
      refine wpAny_take (i := 2) (v := ?_) rfl (by kernel_rfl) (by kernel_rfl) (by kernel_rfl) (fun _ _ _ h => h) (Or.inl ⟨by rfl, ?_⟩) ?_
      rotate_left
      · intro w; go_simp
        try with_reducible rfl
      refine wpAny_take (i := 4) (v := ?_) rfl (by kernel_rfl) (by kernel_rfl) (by kernel_rfl) (fun _ _ _ h => h) (Or.inl ⟨by rfl, ?_⟩) ?_
      rotate_left
      · intro w; go_simp
        try with_reducible rfl
      refine wpAny_take (i := 5) (v := ?_) rfl (by kernel_rfl) (by kernel_rfl) (by kernel_rfl) (fun _ _ _ h => h) (Or.inl ⟨by rfl, ?_⟩) ?_
      rotate_left
      · intro w; go_simp
        try with_reducible rfl
      refine wpAny_take (i := 6) (v := ?_) rfl (by kernel_rfl) (by kernel_rfl) (by kernel_rfl) (fun _ _ _ h => h) (Or.inl ⟨by rfl, ?_⟩) ?_
      rotate_left
      · intro w; go_simp
        try with_reducible rfl
      refine wpAny_take (i := 7) (v := ?_) rfl (by kernel_rfl) (by kernel_rfl) (by kernel_rfl) (fun _ _ _ h => h) (Or.inl ⟨by rfl, ?_⟩) ?_
      rotate_left
      · intro w; go_simp
        try with_reducible rfl
      refine wpAny_take (i := 9) (v := ?_) rfl (by kernel_rfl) (by kernel_rfl) (by kernel_rfl) (fun _ _ _ h => h) (Or.inl ⟨by rfl, ?_⟩) ?_
      rotate_left
      · intro w; go_simp
        try with_reducible rfl
      refine wpAny_ready (rs := [3]) (by kernel_rfl) (by simp) ?_
      refine AllReady.cons rfl (fun K hK => ?_) AllReady.nil
      go_simp
      go_wp2_with (go_at_call 59; refine (pick_c w b 211 2 _ ?_ (by omega) (by omega) (by omega)).mono ?_; exact R4.out.next (Ext.refl _).drew; rintro e w5 ⟨x5, rfl, hx5, r5, u5⟩; have R5 := Lib.hid r5; have O5 := Lib.hid (O4.out.drew.upd (show b < b + 1 by omega) u5); clear r5 u5)
      refine wpAny_ready (rs := [8]) (by kernel_rfl) (by simp) ?_
      refine AllReady.cons rfl (fun K hK => ?_) AllReady.nil
      go_simp
      go_wp2_with (go_at_call 59; refine (pick_c w b 212 p _ ?_ (by omega) (by omega) (by omega)).mono ?_; exact R5.out; rintro e w6 ⟨x6, rfl, hx6, r6, u6⟩; have R6 := Lib.hid r6; have O6 := Lib.hid (O5.out.upd (show b < b + 1 by omega) u6); clear r6 u6)
      refine wpAny_take (i := 10) (v := ?_) rfl (by kernel_rfl) (by kernel_rfl) (by kernel_rfl) (fun _ _ _ h => h) (Or.inl ⟨by rfl, ?_⟩) ?_
      rotate_left
      · intro w; go_simp
        try with_reducible rfl
      refine wpAny_take (i := 11) (v := ?_) rfl (by kernel_rfl) (by kernel_rfl) (by kernel_rfl) (fun _ _ _ h => h) (Or.inl ⟨by rfl, ?_⟩) ?_
      rotate_left
      · intro w; go_simp
        try with_reducible rfl
      refine wpAny_take (i := 12) (v := ?_) rfl (by kernel_rfl) (by kernel_rfl) (by kernel_rfl) (fun _ _ _ h => h) (Or.inl ⟨by rfl, ?_⟩) ?_
      rotate_left
      · intro w; go_simp
        try with_reducible rfl
      refine wpAny_take (i := 13) (v := ?_) rfl (by kernel_rfl) (by kernel_rfl) (by kernel_rfl) (fun _ _ _ h => h) (Or.inl ⟨by rfl, ?_⟩) ?_
      rotate_left
      · intro w; go_simp
        try with_reducible rfl
      refine wpAny_ready (rs := [14]) (by kernel_rfl) (by simp) ?_
      refine AllReady.cons rfl (fun K hK => ?_) AllReady.nil
      go_simp
      refine hK _ _ ?_
      clear hK K
      refine wpAny_done (by kernel_rfl) ?_ _
      (try simp only [Act.put, Exit.inBlock])
      go_wp2
      (try simp only [Exit.inBlock, Exit.then]); refine bodyPost_ret (four_results rfl _ _ _) rfl ?_
      exact ⟨_, gs, s, x5, _, rfl, by rw [← HL.out]; omega, by rw [← HL.out]; omega, hs, by omega, Int.lt_of_le_of_lt (bits_hi_i64 _ _ _) (by decide), O6.out.rd, R6.out.ext⟩
end Go.Proofs.Ytpmammklklkheaa

/- What holds of depths, best questions and played questions. No program in sight. No condition. -/
namespace Go.Proofs.Ytpmammklklkheaa

theorem cnt_le_of_sub {s t : Nat} (h : band s t = s) : cnt s ≤ cnt t := by
  unfold cnt
  apply List.countP_mono_left
  intro i _ hi
  have := congrArg (fun z => Nat.testBit z i) h
  simp only [testBit_band, hi, Bool.true_and] at this
  exact this
theorem sub_eq_of_cnt {s t : Nat} (ht : t ≤ 4095) (h : band s t = s) (hc : cnt t ≤ cnt s) : s = t := by
  have h1 := cnt_split t s
  have e : band t s = s := by unfold band at h ⊢; rw [Nat.and_comm]; exact h
  rw [e] at h1
  have h2 : without t s = 0 := (cnt_zero (without_le t s ht)).1 (by omega)
  have h3 := without_zero.1 h2
  rw [e] at h3
  exact h3
theorem qIn_sub {g : List Int} {t s x : Nat} (h : band t s = t) : band (qIn g t x) (qIn g s x) = qIn g t x := by
  unfold qIn
  apply Nat.eq_of_testBit_eq
  intro i
  have := congrArg (fun z => Nat.testBit z i) h
  simp only [testBit_band] at this
  simp only [testBit_band]
  revert this
  cases t.testBit i <;> cases s.testBit i <;> cases (ballN g x).testBit i <;> simp
theorem qOut_sub {g : List Int} {t s x : Nat} (h : band t s = t) : band (without t (qIn g t x)) (without s (qIn g s x)) = without t (qIn g t x) := by
  rw [qIn_without, qIn_without]
  apply Nat.eq_of_testBit_eq
  intro i
  have := congrArg (fun z => Nat.testBit z i) h
  simp only [testBit_band] at this
  simp only [testBit_band, testBit_without]
  revert this
  cases t.testBit i <;> cases s.testBit i <;> cases (ballN g x).testBit i <;> simp
theorem sub_in {g : List Int} {t s x : Nat} (h : band t s = t) (hq : qIn g t x = t) : band t (qIn g s x) = t := by
  have := qIn_sub (x := x) (g := g) h
  rwa [hq] at this
theorem sub_out {g : List Int} {t s x : Nat} (h : band t s = t) (hq : qIn g t x = 0) : band t (without s (qIn g s x)) = t := by
  have := qOut_sub (x := x) (g := g) h
  have e : without t (qIn g t x) = t := by
    rw [hq]
    apply Nat.eq_of_testBit_eq
    intro i
    rw [testBit_without, Nat.zero_testBit]; simp
  rwa [e] at this
theorem best_split {g : List Int} {s : Nat} (_ : s ≤ 4095) (h : dep g s < 99) (h1 : band s (s - 1) ≠ 0) : ∃ x, x < g.length ∧ tells g s x = true ∧ dep g s = 1 + max (dep g (qIn g s x)) (dep g (without s (qIn g s x))) := by
  have h2 := dep_more (g := g) h1
  unfold depTo at h2
  rcases minTo_has (depAt g s) g.length with e | ⟨x, hx, e⟩
  · omega
  · rw [e] at h2
    cases ht : tells g s x
    · unfold depAt at h2; rw [ht] at h2; simp at h2; omega
    · refine ⟨x, hx, ht, ?_⟩
      unfold depAt at h2; rw [ht, if_pos rfl] at h2; exact h2
/-- A part of a set is not deeper. -/
theorem dep_mono (g : List Int) : ∀ n s t : Nat, s ≤ n → s ≤ 4095 → t ≠ 0 → band t s = t → dep g s < 99 → dep g t ≤ dep g s
  | 0, s, t, hn, hs, h0, ht, hd => by
    exfalso
    apply h0
    obtain rfl : s = 0 := by omega
    rw [← ht]; simp [band]
  | n + 1, s, t, hn, hs, h0, ht, hd => by
    have hle : t ≤ s := by rw [← ht]; exact band_le _ _
    by_cases h1 : band s (s - 1) = 0
    · have c1 := (one_iff hs).1 h1
      have c2 := mt (cnt_zero (show t ≤ 4095 by omega)).1 h0
      rw [sub_eq_of_cnt hs ht (by omega)]
      exact Nat.le_refl _
    · obtain ⟨x, hx, hT, e⟩ := best_split hs hd h1
      have hT' := tells_iff.1 hT
      have i1 := qIn_lt hT'.2
      have i2 := qOut_lt hT'.1
      by_cases q0 : qIn g t x = 0
      · have := dep_mono g n (without s (qIn g s x)) t (by omega) (by omega) h0 (sub_out ht q0) (by omega)
        omega
      · by_cases q1 : qIn g t x = t
        · have := dep_mono g n (qIn g s x) t (by omega) (by omega) h0 (sub_in ht q1) (by omega)
          omega
        · have d1 := dep_mono g n (qIn g s x) (qIn g t x) (by omega) (by omega) q0 (qIn_sub ht) (by omega)
          have d2 := dep_mono g n (without s (qIn g s x)) (without t (qIn g t x)) (by omega) (by omega) (mt qOut_zero.1 q1) (qOut_sub ht) (by omega)
          by_cases h2 : band t (t - 1) = 0
          · rw [dep_one h2]; omega
          · have h3 := minTo_at (f := depAt g t) hx
            have h4 := dep_more (g := g) h2
            unfold depTo at h4
            have h5 : depAt g t x = 1 + max (dep g (qIn g t x)) (dep g (without t (qIn g t x))) := by
              unfold depAt; rw [tells_iff.2 ⟨q0, q1⟩, if_pos rfl]
            omega
/-- Depths are not below halving. -/
theorem dep_log (g : List Int) : ∀ n s : Nat, s ≤ n → s ≤ 4095 → s ≠ 0 → dep g s < 99 → cnt s ≤ 2 ^ dep g s
  | 0, s, hn, _, h0, _ => by omega
  | n + 1, s, hn, hs, h0, hd => by
    by_cases h1 : band s (s - 1) = 0
    · have := (one_iff hs).1 h1
      have := Nat.two_pow_pos (dep g s)
      omega
    · obtain ⟨x, hx, hT, e⟩ := best_split hs hd h1
      have hT' := tells_iff.1 hT
      have i1 := qIn_lt hT'.2
      have i2 := qOut_lt hT'.1
      have d1 := dep_log g n (qIn g s x) (by omega) (by omega) hT'.1 (by omega)
      have d2 := dep_log g n (without s (qIn g s x)) (by omega) (by omega) (mt qOut_zero.1 hT'.2) (by omega)
      have hc := q_cnt g s x
      have p1 : 2 ^ dep g (qIn g s x) ≤ 2 ^ (dep g s - 1) := Nat.pow_le_pow_right (by omega) (by omega)
      have p2 : 2 ^ dep g (without s (qIn g s x)) ≤ 2 ^ (dep g s - 1) := Nat.pow_le_pow_right (by omega) (by omega)
      have p3 : 2 ^ dep g s = 2 ^ (dep g s - 1) * 2 := by rw [← Nat.pow_succ]; congr 1; omega
      omega
/-- Behind a best question the deeper part is less deep by one. -/
theorem best_max {g : List Int} {s : Nat} (hs : s ≤ 4095) (h : dep g s < 99) (h0 : dep g s ≠ 0) : max (dep g (qIn g s (bestOf g s))) (dep g (without s (qIn g s (bestOf g s)))) + 1 = dep g s := by
  obtain ⟨hg, hx⟩ := best_good hs h h0
  have h1 := good_iff.1 hg
  have h2 : band s (s - 1) ≠ 0 := fun e => h0 (dep_one e)
  have h3 := dep_more (g := g) h2
  have h4 := minTo_at (f := depAt g s) hx
  unfold depTo at h3
  have h5 : depAt g s (bestOf g s) = 1 + max (dep g (qIn g s (bestOf g s))) (dep g (without s (qIn g s (bestOf g s)))) := by
    unfold depAt; rw [tells_iff.2 h1.1, if_pos rfl]
  omega
end Go.Proofs.Ytpmammklklkheaa

/- Taking sensors out one by one: plain. No condition. -/
namespace Go.Proofs.Ytpmammklklkheaa

theorem low_blocks : ∀ a, a < 64 → ∀ b, b < 64 → (decide (band (64 * a + b) (64 * a + b - 1) = without (64 * a + b) (bxor (64 * a + b) (band (64 * a + b) (64 * a + b - 1)))) && decide (cnt (bxor (64 * a + b) (band (64 * a + b) (64 * a + b - 1))) ≤ 1)) = true := by decide +kernel
/-- Taking out the least sensor takes out one at most. -/
theorem low_out {f : Nat} (h : f ≤ 4095) : ∃ d, cnt d ≤ 1 ∧ band f (f - 1) = without f d := by
  have := low_blocks (f / 64) (by omega) (f % 64) (by omega)
  rw [show 64 * (f / 64) + f % 64 = f from by omega, Bool.and_eq_true, decide_eq_true_iff, decide_eq_true_iff] at this
  exact ⟨_, this.2, this.1⟩
theorem cnt_bor (t d : Nat) : cnt (bor t d) ≤ cnt t + cnt d := by
  have h1 := cnt_split (bor t d) t
  have e1 : band (bor t d) t = t := by
    apply Nat.eq_of_testBit_eq
    intro i
    simp only [testBit_band, testBit_bor]
    cases t.testBit i <;> simp
  have h2 : cnt (without (bor t d) t) ≤ cnt d := by
    apply cnt_le_of_sub
    apply Nat.eq_of_testBit_eq
    intro i
    simp only [testBit_band, testBit_bor, testBit_without]
    cases t.testBit i <;> cases d.testBit i <;> rfl
  rw [e1] at h1
  omega
theorem without_bor (s t d : Nat) : without (without s t) d = without s (bor t d) := by
  apply Nat.eq_of_testBit_eq
  intro i
  simp only [testBit_bor, testBit_without]
  cases s.testBit i <;> cases t.testBit i <;> cases d.testBit i <;> rfl
/-- At most i sensors have been taken out of s. -/
def Taken (s i f : Nat) : Prop := ∃ t, cnt t ≤ i ∧ f = without s t
theorem Taken.start (s : Nat) : Taken s 0 s := ⟨0, by decide, by apply Nat.eq_of_testBit_eq; intro i; simp [testBit_without]⟩
theorem Taken.out {s i f d : Nat} (h : Taken s i f) (hd : cnt d ≤ 1) : Taken s (i + 1) (without f d) := by
  obtain ⟨t, h1, rfl⟩ := h
  refine ⟨bor t d, ?_, without_bor s t d⟩
  have := cnt_bor t d
  omega
theorem Taken.low {s i f : Nat} (h : Taken s i f) (hf : f ≤ 4095) : Taken s (i + 1) (band f (f - 1)) := by
  obtain ⟨d, h1, h2⟩ := low_out hf
  rw [h2]
  exact h.out h1
/-- Fewer sensors than the least mark or difference may be taken out. -/
theorem Taken.kind {g : List Int} {s i f : Nat} (h : Taken s i f) (hi : i < silMin g s g.length) : kindN g 2 f = true := by
  obtain ⟨t, h1, rfl⟩ := h
  cases hk : kindN g 2 (without s t)
  · have := silMin_low hk
    omega
  · rfl
/-- What is told on is not empty. -/
theorem Taken.pos {g : List Int} (hg : IsGraph g) {s i f : Nat} (h : Taken s i f) (hi : i < silMin g s g.length) : f ≠ 0 := by
  intro e
  have h1 := (kind2_iff.1 (h.kind hi)).1 0 (by have := hg.pos; omega)
  rw [e] at h1
  apply h1
  have := mark_sub g 0 0
  rw [← this]
  apply Nat.eq_of_testBit_eq
  intro j
  simp [testBit_band]
end Go.Proofs.Ytpmammklklkheaa

/- The pool of the balls of a set: the reference and the program compute the same plain list. The condition: the list has at most 2^20 numbers. -/
namespace Go.Proofs.Ytpmammklklkheaa
open Go.RowKit
open BigFrame

def pickTo (g : List Int) (s k : Nat) : List Int := ((List.range k).filter fun i => s.testBit i).map fun i => ((ballN g i : Nat) : Int)
theorem pickTo_skip {g : List Int} {s k : Nat} (h : s.testBit k = false) : pickTo g s (k + 1) = pickTo g s k := by simp [pickTo, List.range_succ, h]
theorem pickTo_next {g : List Int} {s k : Nat} (h : s.testBit k = true) : pickTo g s (k + 1) = pickTo g s k ++ [((ballN g k : Nat) : Int)] := by simp [pickTo, List.range_succ, h]
theorem pickTo_length (g : List Int) (s k : Nat) : (pickTo g s k).length ≤ k := by
  unfold pickTo
  rw [List.length_map]
  exact Nat.le_trans (List.length_filter_le _ _) (by simp)
def poolBalls (g : List Int) (code : Int) : List Int × Bool := if fits g code then (pickTo g code.toNat g.length, true) else ([], false)

set_option maxRecDepth 100000 in
set_option maxHeartbeats 1000000 in
theorem poolBallsS_c (v : Value) (g : List Int) (code : Int) (w : World) (hv : Rd w v g) (hm : g.length ≤ 1048576) :
    Calls Try.prog 40 #[v, .int .i64 code] w fun e w' => ∃ v, e = .returned (listV v (poolBalls g code).2) ∧ Own w' w.heap.size v (poolBalls g code).1 ∧ Ext w w' := by
  obtain ⟨a, c, rfl⟩ := hv.form
  obtain ⟨W, hW⟩ : ∃ W, W = w.alloc (.cells #[] 3) := ⟨_, rfl⟩
  have ho0 : Own W w.heap.size (.slice (some ⟨w.heap.size, 0, none⟩) 0 0) [] := by rw [hW]; exact Own.lit w
  have hx0 : Ext w W := by rw [hW]; exact (Ext.refl _).alloc _
  have hs0 : w.heap.size < W.heap.size := by rw [hW]; simp
  have HW := Lib.hid hW; have HO0 := Lib.hid ho0; have HX0 := Lib.hid hx0; have HV := Lib.hid (hv.ext hx0)
  have HM := Lib.hid hm
  clear hv hW ho0 hx0
  cases h0 : graphIn g
  · rw [show poolBalls g code = ([], false) from by unfold poolBalls fits; rw [h0]; rfl]
    go_enter Try.func40, Try.ntmps40
    go_wp2_with fail
    rw [← HW.out]
    refine (graphInS_c _ _ _ HV.out HM.out).mono ?_
    rintro e w1 ⟨rfl, x1⟩
    have X1 := Lib.hid x1; clear x1
    go_wp2
    go_ret2
    exact ⟨_, rfl, HO0.out.ext X1.out, HX0.out.trans X1.out⟩
  · have hG := graphIn_iff.1 h0
    have hl := hG.le
    have HG := Lib.hid hG; clear hG
    cases hs : setB code g.length
    · rw [show poolBalls g code = ([], false) from by unfold poolBalls fits; rw [h0, hs]; rfl]
      go_enter Try.func40, Try.ntmps40
      go_wp2_with fail
      rw [← HW.out]
      refine (graphInS_c _ _ _ HV.out HM.out).mono ?_
      rintro e w1 ⟨rfl, x1⟩
      have X1 := Lib.hid x1; clear x1
      go_wp2_with (go_at_call 64; refine (l2Set_c _ g _ _ (HV.out.ext X1.out) (by omega)).mono ?_; rintro e w' ⟨rfl, rfl⟩)
      go_ret2
      exact ⟨_, rfl, HO0.out.ext X1.out, HX0.out.trans X1.out⟩
    · obtain ⟨s, rfl, hsl⟩ := setB_iff.1 hs
      have hs4 : s ≤ 4095 := by have := pow_le_12 hl; omega
      rw [show poolBalls g s = (pickTo g s g.length, true) from by unfold poolBalls fits; rw [h0, hs]; rfl]
      clear hsl
      go_enter Try.func40, Try.ntmps40
      go_wp2_with fail
      rw [← HW.out]
      refine (graphInS_c _ _ _ HV.out HM.out).mono ?_
      rintro e w1 ⟨rfl, x1⟩
      have X1 := Lib.hid x1; clear x1
      go_wp2_with (go_at_call 64; refine (l2Set_c _ g _ _ (HV.out.ext X1.out) (by omega)).mono ?_; rintro e w' ⟨rfl, rfl⟩)
      refine (l1Balls_c _ g _ (HV.out.ext X1.out) HG.out).mono ?_
      rintro e w2 ⟨vb, rfl, ob, x2⟩
      have hlt2 : w1.heap.size ≤ w2.heap.size := x2.size
      have hlt1 : W.heap.size ≤ w1.heap.size := X1.out.size
      have X2 := Lib.hid (X1.out.trans x2); clear x2
      rcases ob.get with ⟨rfl, hnil⟩ | ⟨gb, cb, rfl, hgb1, hgb2, hcb, hcells, -⟩
      · have h1 := congrArg List.length hnil
        rw [ballsTo_length, List.length_nil] at h1
        have h2 := HG.out.pos
        omega
      · rw [ballsTo_length] at hcb
        have HC : Hid (∀ i, i < g.length → w2.cell? ⟨gb, i, none⟩ = some (.int .i64 (ballN g i : Nat))) := fun i hi => by
          rw [hcells i (by rw [ballsTo_length]; exact hi), ballsTo_get _ _ _ hi]
        clear hcells ob
        rw [ballsTo_length]
        go_wp2
        go_loopw [6, 8] (fun o i wr => ∃ k : Nat, k ≤ g.length ∧ i = .int .i64 k ∧ Own wr w.heap.size o (pickTo g s k) ∧ Ext w wr ∧ Hid (∀ i, i < g.length → wr.cell? ⟨gb, i, none⟩ = some (.int .i64 (ballN g i : Nat))) ∧ Hid (o.ownBlock ≠ some gb) ∧ gb < wr.heap.size) (fun _ i _ => g.length - (intOf i).toNat)
        case atStart => exact ⟨0, Nat.zero_le _, rfl, HO0.out.ext X2.out, HX0.out.trans X2.out, HC, fun e => by simp [Value.ownBlock] at e; omega, hgb2⟩
        case round =>
          obtain ⟨k, hk, rfl, ho, hx, HC, HN, hgl⟩ := hrel
          have HO := Lib.hid ho; have HX := Lib.hid hx; clear ho hx
          by_cases hlt : k < g.length
          · have c1 := HC.out k hlt
            cases hb : s.testBit k
            · have HB := Lib.hid hb
              go_wp2_with (go_at_call 48; refine (l1Bit_c s k (by omega) (by omega) _).mono ?_; rintro e w' ⟨rfl, rfl⟩)
              go_roundw
              case rel => exact ⟨k + 1, by omega, by go_num, by rw [pickTo_skip HB.out]; exact HO.out, HX.out, HC, HN, hgl⟩
              case measure => simp [intOf]; omega
            · have HB := Lib.hid hb
              have HL := Lib.hid (pickTo_length g s k)
              go_wp2_with (first | (go_at_call 48; refine (l1Bit_c s k (by omega) (by omega) _).mono ?_; rintro e w' ⟨rfl, rfl⟩) | (at_builtin; refine wpList_append_int2 rfl _ _ rfl w.heap.size _ _ rfl (HO.out.alloc _) wr.heap.size _ rfl (one_cell _ _ _) (by have := HL.out; omega) (by simp; have := HX.out.size; omega) ?_; intro v' w3 ho3 hg3 hn3))
              have HX3 : Hid (Ext w w3) := (HO.out.alloc _).grew (HX.out.alloc _) hg3 (Nat.le_refl _)
              have HO3 : Hid (Own w3 w.heap.size v' (pickTo g s (k + 1))) := by rw [pickTo_next HB.out]; exact ho3
              have HC3 : Hid (∀ i, i < g.length → w3.cell? ⟨gb, i, none⟩ = some (.int .i64 (ballN g i : Nat))) := fun i hi => by
                rw [← HC.out i hi]
                unfold World.cell?
                rw [hg3.block gb (by simp; omega) (fun e => HN.out e.symm), Below.heap_alloc _ _ _ hgl]
              have HN3 : Hid (v'.ownBlock ≠ some gb) := fun e => by
                rcases hn3 gb e with h | h
                · exact HN.out h
                · simp at h; omega
              have hgl3 : gb < w3.heap.size := Nat.lt_of_lt_of_le (by simp; omega) hg3.size
              clear ho3 hg3 hn3
              go_wp2
              go_roundw
              case rel => exact ⟨k + 1, by omega, by go_num, HO3.out, HX3.out, HC3, HN3, hgl3⟩
              case measure => simp [intOf]; omega
          · obtain rfl : k = g.length := by omega
            go_wp2
            go_ret2
            exact ⟨_, rfl, HO.out, HX.out⟩
end Go.Proofs.Ytpmammklklkheaa
