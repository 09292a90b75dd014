/- What the walks of this seat rest on, one part: plain facts, and contracts of the functions that they reach. Each states its own condition. -/
import Derived.Test.YtkmfmhckpfomeaaGreatDoorB29
import Derived.Test.YtkmfmhckpfomeaaGreatDoorB14
import Derived.Test.YtkmfmhckpfomeaaGreatDoorB21
import Derived.Test.YtkmfmhckpfomeaaGreatDoorB19
import Derived.Test.YtkmfmhckpfomeaaGreatDoorB24
import Derived.Test.YtkmfmhckpfomeaaGreatDoorB15
import Derived.Test.YtkmfmhckpfomeaaGreatDoorB12
import Derived.Test.YtkmfmhckpfomeaaGreatDoorB6
import Derived.Test.YtkmfmhckpfomeaaGreatDoorB26
set_option linter.all false
set_option linter.unusedSimpArgs false
set_option linter.unusedVariables false
/- A line with one number, the reference's side. The condition: the number is at most 9999. -/
namespace Go.Proofs.YtkmfmhckpfomeaaGreatDoor
open Go.RowKit
open BigFrame
attribute [local go_sem] Oper.semAt_some

set_option maxRecDepth 100000 in
set_option maxHeartbeats 4000000 in
theorem l7One4_c (S : ByteArray) (k m : Nat) (g : List Int) (c x y : Nat) (w : World) (hv : Rd w (.slice (some ⟨k, 0, none⟩) g.length m) g) (hf : Fit g c) (hS : Word S 4) (hx : x ≤ 9999) :
    Calls Tryz.prog 59 #[.agg #[.slice (some ⟨k, 0, none⟩) g.length m, .int .i64 c], .string S, .int .i64 x] w fun e w' => ∃ v', e = .returned (.tuple #[v', strV (nl (cmdR 4 g c x y))]) ∧ StateV w' v' (nextS (cmdR 4 g c x y) g c) ∧ Ext w w' := by
  have t5 : (S.toList == [108, 101, 97, 115, 116]) = false := hS 5 (by omega) (by omega)
  have t6 : (S.toList == [116, 104, 105, 110]) = false := hS 6 (by omega) (by omega)
  have t10 : (S.toList == [105, 110]) = false := hS 10 (by omega) (by omega)
  have t15 : (S.toList == [112, 108, 97, 121]) = false := hS 15 (by omega) (by omega)
  have t16 : (S.toList == [116, 101, 108, 108, 115]) = false := hS 16 (by omega) (by omega)
  obtain ⟨W, hW⟩ : ∃ W, W = (w.alloc (.cells #[.slice (some ⟨k, 0, none⟩) g.length m, .int .i64 c] 58)).alloc (.cells #[.slice none 0 0, .int .i64 0] 58) := ⟨_, rfl⟩
  have hB := Box.of w (.slice (some ⟨k, 0, none⟩) g.length m) (.int .i64 c) (.slice none 0 0) (.int .i64 0) 58 58
  rw [← hW] at hB
  have hl := hf.gr.le
  have hvW := hv.ext hB.ext
  have HW := Lib.hid hW; have HB := Lib.hid hB; have HV := Lib.hid hv
  have a0 := hB.a0
  have a1 := hB.a1
  have HSet := Lib.hid (l2Set_c (.slice (some ⟨k, 0, none⟩) g.length m) g x W hvW (by omega))
  have hsp : setB (x : Int) g.length = decide (x < 2 ^ g.length) := by
    rw [Bool.eq_iff_iff, decide_eq_true_iff, setB_iff]
    exact ⟨fun ⟨m, e, h⟩ => by rw [show x = m from by omega]; exact h, fun h => ⟨x, rfl, h⟩⟩
  rw [hsp] at HSet
  obtain ⟨b, hb⟩ : ∃ b, b = decide (x < 2 ^ g.length) := ⟨_, rfl⟩
  rw [← hb] at HSet
  have HR : Hid (cmdR 4 g c x y = if b then some (okS, g, x) else none) := by
    show (if x < 2 ^ g.length then _ else none) = _
    rw [hb]
    by_cases h : x < 2 ^ g.length
    · rw [if_pos h, decide_eq_true h]; rfl
    · rw [if_neg h, decide_eq_false h]; rfl
  clear hv hf hS hx hB hvW hsp hb hl hW
  have a2 := HB.out.a0
  have a3 := HB.out.a1
  obtain ⟨u2, r2⟩ := HB.out.r0
  obtain ⟨u3, r3⟩ := HB.out.r1
  have f2 := HB.out.fr 0
  have f3 := HB.out.fr 1
  cases b
  · rw [HR.out]
    go_enter Tryz.func59, Tryz.ntmps59
    go_wp2_with fail
    rw [← HW.out]
    refine HSet.out.mono ?_
    rintro e w0 ⟨rfl, rfl⟩
    go_wp2
    obtain ⟨q0, q1, qx⟩ := HB.out.put (.slice (some ⟨k, 0, none⟩) g.length m) (.int .i64 c)
    refine bodyPost_ret (v := .tuple #[.agg #[.slice (some ⟨k, 0, none⟩) g.length m, .int .i64 c], .string ⟨#[110, 111, 10]⟩]) (by simp [results, Tryz.results59, go_sem, q0, q1]) rfl ?_
    exact ⟨_, rfl, ⟨k, m, rfl, HV.out.ext qx⟩, qx⟩
  · rw [HR.out]
    go_enter Tryz.func59, Tryz.ntmps59
    go_wp2_with fail
    rw [← HW.out]
    refine HSet.out.mono ?_
    rintro e w0 ⟨rfl, rfl⟩
    go_wp2
    obtain ⟨q0, q1, qx⟩ := HB.out.put (.slice (some ⟨k, 0, none⟩) g.length m) (.int .i64 x)
    refine bodyPost_ret (v := .tuple #[.agg #[.slice (some ⟨k, 0, none⟩) g.length m, .int .i64 x], .string ⟨#[111, 107, 10]⟩]) (by simp [results, Tryz.results59, go_sem, q0, q1]) rfl ?_
    exact ⟨_, rfl, ⟨k, m, rfl, HV.out.ext qx⟩, qx⟩
set_option maxRecDepth 100000 in
set_option maxHeartbeats 4000000 in
theorem l7One5_c (S : ByteArray) (k m : Nat) (g : List Int) (c x y : Nat) (w : World) (hv : Rd w (.slice (some ⟨k, 0, none⟩) g.length m) g) (hf : Fit g c) (hS : Word S 5) (hx : x ≤ 9999) :
    Calls Tryz.prog 59 #[.agg #[.slice (some ⟨k, 0, none⟩) g.length m, .int .i64 c], .string S, .int .i64 x] w fun e w' => ∃ v', e = .returned (.tuple #[v', strV (nl (cmdR 5 g c x y))]) ∧ StateV w' v' (nextS (cmdR 5 g c x y) g c) ∧ Ext w w' := by
  have t5 : (S.toList == [108, 101, 97, 115, 116]) = true := hS 5 (by omega) (by omega)
  obtain ⟨W, hW⟩ : ∃ W, W = (w.alloc (.cells #[.slice (some ⟨k, 0, none⟩) g.length m, .int .i64 c] 58)).alloc (.cells #[.slice none 0 0, .int .i64 0] 58) := ⟨_, rfl⟩
  have hB := Box.of w (.slice (some ⟨k, 0, none⟩) g.length m) (.int .i64 c) (.slice none 0 0) (.int .i64 0) 58 58
  rw [← hW] at hB
  have hl := hf.gr.le
  have hvW := hv.ext hB.ext
  have HW := Lib.hid hW; have HB := Lib.hid hB; have HV := Lib.hid hv
  have a0 := hB.a0
  have a1 := hB.a1
  have HSet := Lib.hid (l2Set_c (.slice (some ⟨k, 0, none⟩) g.length m) g x W hvW (by omega))
  have hsp : setB (x : Int) g.length = decide (x < 2 ^ g.length) := by
    rw [Bool.eq_iff_iff, decide_eq_true_iff, setB_iff]
    exact ⟨fun ⟨m, e, h⟩ => by rw [show x = m from by omega]; exact h, fun h => ⟨x, rfl, h⟩⟩
  rw [hsp] at HSet
  obtain ⟨b, hb⟩ : ∃ b, b = decide (x < 2 ^ g.length) := ⟨_, rfl⟩
  rw [← hb] at HSet
  have HC := Lib.hid (codeLeastS_c (.slice (some ⟨k, 0, none⟩) g.length m) g x W hvW (by omega))
  have HL : Hid (∀ d, codeLeast g x = (d, true) → ∃ z : Nat, d = z ∧ z < 2 ^ g.length) := fun d h => least_lt h
  have HR : Hid (cmdR 5 g c x y = setR (codeLeast g x) g) := rfl
  obtain ⟨p, hp⟩ : ∃ p, p = codeLeast g x := ⟨_, rfl⟩
  rw [← hp] at HC HL HR
  obtain ⟨d, s⟩ := p
  simp only [pairV] at HC
  rw [HR.out]
  clear hv hf hS hx hB hvW hsp hb hl hp hW
  go_enter Tryz.func59, Tryz.ntmps59
  go_wp2_with fail
  rw [← HW.out]
  refine HSet.out.mono ?_
  rintro e w0 ⟨rfl, rfl⟩
  go_wp2_with fail
  refine HC.out.mono ?_
  rintro e w1 ⟨rfl, x1⟩
  have B1 := Lib.hid (HB.out.go x1)
  clear x1
  have a2 := B1.out.a0
  have a3 := B1.out.a1
  obtain ⟨u2, r2⟩ := B1.out.r0
  obtain ⟨u3, r3⟩ := B1.out.r1
  have f2 := B1.out.fr 0
  have f3 := B1.out.fr 1
  cases s
  · go_wp2
    obtain ⟨q0, q1, qx⟩ := B1.out.put (.slice (some ⟨k, 0, none⟩) g.length m) (.int .i64 c)
    refine bodyPost_ret (v := .tuple #[.agg #[.slice (some ⟨k, 0, none⟩) g.length m, .int .i64 c], .string ⟨#[110, 111, 10]⟩]) (by simp [results, Tryz.results59, go_sem, q0, q1]) rfl ?_
    exact ⟨_, rfl, ⟨k, m, rfl, HV.out.ext qx⟩, qx⟩
  · obtain ⟨z, rfl, hz⟩ := HL.out _ rfl
    clear hz
    go_wp2
    obtain ⟨q0, q1, qx⟩ := B1.out.put (.slice (some ⟨k, 0, none⟩) g.length m) (.int .i64 z)
    refine bodyPost_ret (v := .tuple #[.agg #[.slice (some ⟨k, 0, none⟩) g.length m, .int .i64 z], .string ⟨#[111, 107, 10]⟩]) (by simp [results, Tryz.results59, go_sem, q0, q1]) rfl ?_
    exact ⟨_, rfl, ⟨k, m, rfl, HV.out.ext qx⟩, qx⟩
set_option maxRecDepth 100000 in
set_option maxHeartbeats 4000000 in
theorem l7One6_c (S : ByteArray) (k m : Nat) (g : List Int) (c x y : Nat) (w : World) (hv : Rd w (.slice (some ⟨k, 0, none⟩) g.length m) g) (hf : Fit g c) (hS : Word S 6) (hx : x ≤ 9999) :
    Calls Tryz.prog 59 #[.agg #[.slice (some ⟨k, 0, none⟩) g.length m, .int .i64 c], .string S, .int .i64 x] w fun e w' => ∃ v', e = .returned (.tuple #[v', strV (nl (cmdR 6 g c x y))]) ∧ StateV w' v' (nextS (cmdR 6 g c x y) g c) ∧ Ext w w' := by
  have t5 : (S.toList == [108, 101, 97, 115, 116]) = false := hS 5 (by omega) (by omega)
  have t6 : (S.toList == [116, 104, 105, 110]) = true := hS 6 (by omega) (by omega)
  obtain ⟨W, hW⟩ : ∃ W, W = (w.alloc (.cells #[.slice (some ⟨k, 0, none⟩) g.length m, .int .i64 c] 58)).alloc (.cells #[.slice none 0 0, .int .i64 0] 58) := ⟨_, rfl⟩
  have hB := Box.of w (.slice (some ⟨k, 0, none⟩) g.length m) (.int .i64 c) (.slice none 0 0) (.int .i64 0) 58 58
  rw [← hW] at hB
  have hl := hf.gr.le
  have hvW := hv.ext hB.ext
  have HW := Lib.hid hW; have HB := Lib.hid hB; have HV := Lib.hid hv
  have a0 := hB.a0
  have a1 := hB.a1
  have HSet := Lib.hid (l2Set_c (.slice (some ⟨k, 0, none⟩) g.length m) g x W hvW (by omega))
  have hsp : setB (x : Int) g.length = decide (x < 2 ^ g.length) := by
    rw [Bool.eq_iff_iff, decide_eq_true_iff, setB_iff]
    exact ⟨fun ⟨m, e, h⟩ => by rw [show x = m from by omega]; exact h, fun h => ⟨x, rfl, h⟩⟩
  rw [hsp] at HSet
  obtain ⟨b, hb⟩ : ∃ b, b = decide (x < 2 ^ g.length) := ⟨_, rfl⟩
  rw [← hb] at HSet
  have HC := Lib.hid (codeThinS_c (.slice (some ⟨k, 0, none⟩) g.length m) g x c W hvW (by omega))
  have HL : Hid (∀ d, codeThin g x c = (d, true) → ∃ z : Nat, d = z ∧ z < 2 ^ g.length) := fun d h => thin_lt' hf.lt h
  have HR : Hid (cmdR 6 g c x y = setR (codeThin g x c) g) := rfl
  obtain ⟨p, hp⟩ : ∃ p, p = codeThin g x c := ⟨_, rfl⟩
  rw [← hp] at HC HL HR
  obtain ⟨d, s⟩ := p
  simp only [pairV] at HC
  rw [HR.out]
  clear hv hf hS hx hB hvW hsp hb hl hp hW
  go_enter Tryz.func59, Tryz.ntmps59
  go_wp2_with fail
  rw [← HW.out]
  refine HSet.out.mono ?_
  rintro e w0 ⟨rfl, rfl⟩
  go_wp2_with fail
  refine HC.out.mono ?_
  rintro e w1 ⟨rfl, x1⟩
  have B1 := Lib.hid (HB.out.go x1)
  clear x1
  have a2 := B1.out.a0
  have a3 := B1.out.a1
  obtain ⟨u2, r2⟩ := B1.out.r0
  obtain ⟨u3, r3⟩ := B1.out.r1
  have f2 := B1.out.fr 0
  have f3 := B1.out.fr 1
  cases s
  · go_wp2
    obtain ⟨q0, q1, qx⟩ := B1.out.put (.slice (some ⟨k, 0, none⟩) g.length m) (.int .i64 c)
    refine bodyPost_ret (v := .tuple #[.agg #[.slice (some ⟨k, 0, none⟩) g.length m, .int .i64 c], .string ⟨#[110, 111, 10]⟩]) (by simp [results, Tryz.results59, go_sem, q0, q1]) rfl ?_
    exact ⟨_, rfl, ⟨k, m, rfl, HV.out.ext qx⟩, qx⟩
  · obtain ⟨z, rfl, hz⟩ := HL.out _ rfl
    clear hz
    go_wp2
    obtain ⟨q0, q1, qx⟩ := B1.out.put (.slice (some ⟨k, 0, none⟩) g.length m) (.int .i64 z)
    refine bodyPost_ret (v := .tuple #[.agg #[.slice (some ⟨k, 0, none⟩) g.length m, .int .i64 z], .string ⟨#[111, 107, 10]⟩]) (by simp [results, Tryz.results59, go_sem, q0, q1]) rfl ?_
    exact ⟨_, rfl, ⟨k, m, rfl, HV.out.ext qx⟩, qx⟩
set_option maxRecDepth 100000 in
set_option maxHeartbeats 4000000 in
theorem l7One10_c (S : ByteArray) (k m : Nat) (g : List Int) (c x y : Nat) (w : World) (hv : Rd w (.slice (some ⟨k, 0, none⟩) g.length m) g) (hf : Fit g c) (hS : Word S 10) (hx : x ≤ 9999) :
    Calls Tryz.prog 59 #[.agg #[.slice (some ⟨k, 0, none⟩) g.length m, .int .i64 c], .string S, .int .i64 x] w fun e w' => ∃ v', e = .returned (.tuple #[v', strV (nl (cmdR 10 g c x y))]) ∧ StateV w' v' (nextS (cmdR 10 g c x y) g c) ∧ Ext w w' := by
  have t5 : (S.toList == [108, 101, 97, 115, 116]) = false := hS 5 (by omega) (by omega)
  have t6 : (S.toList == [116, 104, 105, 110]) = false := hS 6 (by omega) (by omega)
  have t10 : (S.toList == [105, 110]) = true := hS 10 (by omega) (by omega)
  obtain ⟨W, hW⟩ : ∃ W, W = (w.alloc (.cells #[.slice (some ⟨k, 0, none⟩) g.length m, .int .i64 c] 58)).alloc (.cells #[.slice none 0 0, .int .i64 0] 58) := ⟨_, rfl⟩
  have hB := Box.of w (.slice (some ⟨k, 0, none⟩) g.length m) (.int .i64 c) (.slice none 0 0) (.int .i64 0) 58 58
  rw [← hW] at hB
  have hl := hf.gr.le
  have hvW := hv.ext hB.ext
  have HW := Lib.hid hW; have HB := Lib.hid hB; have HV := Lib.hid hv
  have a0 := hB.a0
  have a1 := hB.a1
  have HSet := Lib.hid (l2Set_c (.slice (some ⟨k, 0, none⟩) g.length m) g x W hvW (by omega))
  have hsp : setB (x : Int) g.length = decide (x < 2 ^ g.length) := by
    rw [Bool.eq_iff_iff, decide_eq_true_iff, setB_iff]
    exact ⟨fun ⟨m, e, h⟩ => by rw [show x = m from by omega]; exact h, fun h => ⟨x, rfl, h⟩⟩
  rw [hsp] at HSet
  obtain ⟨b, hb⟩ : ∃ b, b = decide (x < 2 ^ g.length) := ⟨_, rfl⟩
  rw [← hb] at HSet
  have HC := Lib.hid (fun u => codeInS_c (.slice (some ⟨k, 0, none⟩) g.length m) g x c (clip W u) (hvW.ext (clip_ext W u)) (by omega))
  obtain ⟨p, hp⟩ : ∃ p, p = codeIn g x c := ⟨_, rfl⟩
  rw [← hp] at HC
  have HY := Lib.hid (l7Yes_c p)
  obtain ⟨z, hz⟩ : ∃ z : List UInt8, z = if p then [121, 101, 115, 10] else [110, 111, 116, 10] := ⟨_, rfl⟩
  rw [← hz] at HY
  have HR : Hid (z = nl (cmdR 10 g c x y)) := by
    show z = yesS (codeIn g x c) ++ [10]
    rw [hz, ← hp]; cases p <;> rfl
  have HN : Hid (nextS (cmdR 10 g c x y) g c = (g, c)) := rfl
  rw [← HR.out, HN.out]
  have a2 := fun u => (hB.go (clip_ext W u)).a0
  have a3 := fun u => (hB.go (clip_ext W u)).a1
  clear hv hf hS hx hB hvW hsp hb hl hp hz hW
  go_enter Tryz.func59, Tryz.ntmps59
  go_wp2_with fail
  rw [← HW.out]
  refine HSet.out.mono ?_
  rintro e w0 ⟨rfl, rfl⟩
  go_wp2
  refine wp_region_tail 8 (by kernel_rfl) (by kernel_rfl) (by kernel_rfl) ?_
  simp only [List.take_succ_cons, List.take_zero, List.drop_succ_cons, List.drop_zero]
  repeat (go_big_quiet_step (first
    | (go_at_call 122; exact Calls.clip_of (HC.out _))
    | (go_at_call 121; exact Calls.clip_of ((HY.out _).mono fun _ _ ⟨h1, h2⟩ => ⟨h1, h2 ▸ Ext.refl _⟩))))
  refine wpQuiet_nil ?_
  rintro _ ⟨u', rfl⟩
  have B3 := Lib.hid (HB.out.go (clip_ext W u'))
  have a4 := B3.out.a0
  have a5 := B3.out.a1
  obtain ⟨u4, r4⟩ := B3.out.r0
  obtain ⟨u5, r5⟩ := B3.out.r1
  have f4 := B3.out.fr 0
  have f5 := B3.out.fr 1
  gi_wp2
  all_goals go_wp2
  all_goals
    skip
    obtain ⟨q0, q1, qx⟩ := B3.out.put (.slice (some ⟨k, 0, none⟩) g.length m) (.int .i64 c)
    refine bodyPost_ret (v := .tuple #[.agg #[.slice (some ⟨k, 0, none⟩) g.length m, .int .i64 c], strV z]) (by simp [results, Tryz.results59, go_sem, q0, q1]) rfl ?_
    exact ⟨_, rfl, ⟨k, m, rfl, HV.out.ext qx⟩, qx⟩
set_option maxRecDepth 100000 in
set_option maxHeartbeats 4000000 in
theorem l7One15_c (S : ByteArray) (k m : Nat) (g : List Int) (c x y : Nat) (w : World) (hv : Rd w (.slice (some ⟨k, 0, none⟩) g.length m) g) (hf : Fit g c) (hS : Word S 15) (hx : x ≤ 9999) :
    Calls Tryz.prog 59 #[.agg #[.slice (some ⟨k, 0, none⟩) g.length m, .int .i64 c], .string S, .int .i64 x] w fun e w' => ∃ v', e = .returned (.tuple #[v', strV (nl (cmdR 15 g c x y))]) ∧ StateV w' v' (nextS (cmdR 15 g c x y) g c) ∧ Ext w w' := by
  have t5 : (S.toList == [108, 101, 97, 115, 116]) = false := hS 5 (by omega) (by omega)
  have t6 : (S.toList == [116, 104, 105, 110]) = false := hS 6 (by omega) (by omega)
  have t10 : (S.toList == [105, 110]) = false := hS 10 (by omega) (by omega)
  have t15 : (S.toList == [112, 108, 97, 121]) = true := hS 15 (by omega) (by omega)
  obtain ⟨W, hW⟩ : ∃ W, W = (w.alloc (.cells #[.slice (some ⟨k, 0, none⟩) g.length m, .int .i64 c] 58)).alloc (.cells #[.slice none 0 0, .int .i64 0] 58) := ⟨_, rfl⟩
  have hB := Box.of w (.slice (some ⟨k, 0, none⟩) g.length m) (.int .i64 c) (.slice none 0 0) (.int .i64 0) 58 58
  rw [← hW] at hB
  have hl := hf.gr.le
  have hvW := hv.ext hB.ext
  have HW := Lib.hid hW; have HB := Lib.hid hB; have HV := Lib.hid hv
  have a0 := hB.a0
  have a1 := hB.a1
  have HSet := Lib.hid (l2Set_c (.slice (some ⟨k, 0, none⟩) g.length m) g x W hvW (by omega))
  have hsp : setB (x : Int) g.length = decide (x < 2 ^ g.length) := by
    rw [Bool.eq_iff_iff, decide_eq_true_iff, setB_iff]
    exact ⟨fun ⟨m, e, h⟩ => by rw [show x = m from by omega]; exact h, fun h => ⟨x, rfl, h⟩⟩
  rw [hsp] at HSet
  obtain ⟨b, hb⟩ : ∃ b, b = decide (x < 2 ^ g.length) := ⟨_, rfl⟩
  rw [← hb] at HSet
  have HC := Lib.hid (askPlayS_c (.slice (some ⟨k, 0, none⟩) g.length m) g x W hvW (by omega))
  obtain ⟨ns, s, h8, h9, h10, h11⟩ : ∃ ns s, askPlay g x = (intsOf ns, s) ∧ (∀ z ∈ ns, z ≤ 1048576) ∧ ns.length ≤ 4096 ∧ cmdR 15 g c x y = if s then some (saidB ns, g, c) else none := by
    show ∃ ns s, askPlay g x = (intsOf ns, s) ∧ (∀ z ∈ ns, z ≤ 1048576) ∧ ns.length ≤ 4096 ∧ (if canPlay g x then some (saidB (play g x 99 (2 ^ g.length - 1)), g, c) else none) = if s then some (saidB ns, g, c) else none
    cases hcp : canPlay g x
    · exact ⟨[], false, by unfold askPlay; rw [hcp]; rfl, fun z h => by (cases h), Nat.zero_le _, rfl⟩
    · have hp := play_small hl x 99 (2 ^ g.length - 1)
      exact ⟨play g x 99 (2 ^ g.length - 1), true, by unfold askPlay; rw [hcp]; rfl, fun z h => Nat.le_trans (hp.2 z h) (by omega), Nat.le_trans hp.1 (by omega), rfl⟩
  rw [h8] at HC
  simp only [listV] at HC
  obtain ⟨z, hz⟩ : ∃ z : List UInt8, z = if s then saidB ns ++ [10] else [110, 111, 10] := ⟨_, rfl⟩
  have HS := Lib.hid (fun (v : Value) (w' : World) (h : Rd w' v (intsOf ns)) => l7Said_c v ns s w' h h9 h10)
  rw [← hz] at HS
  have HR : Hid (z = nl (cmdR 15 g c x y)) := by
    show z = nl (cmdR 15 g c x y)
    rw [hz, h11]; cases s <;> rfl
  have HN : Hid (nextS (cmdR 15 g c x y) g c = (g, c)) := by
    show nextS (cmdR 15 g c x y) g c = _
    rw [h11]; cases s <;> rfl
  rw [← HR.out, HN.out]
  clear hv hf hS hx hB hvW hsp hb hl hz hW h8 h9 h10 h11
  go_enter Tryz.func59, Tryz.ntmps59
  go_wp2_with fail
  rw [← HW.out]
  refine HSet.out.mono ?_
  rintro e w0 ⟨rfl, rfl⟩
  go_wp2_with fail
  refine HC.out.mono ?_
  rintro e w1 ⟨v1, rfl, o1, x1⟩
  have O1 := Lib.hid o1
  have B1 := Lib.hid (HB.out.go x1)
  have HSU := Lib.hid (fun u => HS.out v1 (clip w1 u) (o1.rd.ext (clip_ext w1 u)))
  have a2 := fun u => (B1.out.go (clip_ext w1 u)).a0
  have a3 := fun u => (B1.out.go (clip_ext w1 u)).a1
  clear x1 o1
  go_wp2
  refine wp_region_tail 4 (by kernel_rfl) (by kernel_rfl) (by kernel_rfl) ?_
  simp only [List.take_succ_cons, List.take_zero, List.drop_succ_cons, List.drop_zero]
  repeat (go_big_quiet_step (first
    | (go_at_call 111; exact Calls.clip_of (HSU.out _))))
  refine wpQuiet_nil ?_
  rintro _ ⟨u', rfl⟩
  have B3 := Lib.hid (B1.out.go (clip_ext w1 u'))
  have a4 := B3.out.a0
  have a5 := B3.out.a1
  obtain ⟨u4, r4⟩ := B3.out.r0
  obtain ⟨u5, r5⟩ := B3.out.r1
  have f4 := B3.out.fr 0
  have f5 := B3.out.fr 1
  gi_wp2
  all_goals go_wp2
  all_goals
    skip
    obtain ⟨q0, q1, qx⟩ := B3.out.put (.slice (some ⟨k, 0, none⟩) g.length m) (.int .i64 c)
    refine bodyPost_ret (v := .tuple #[.agg #[.slice (some ⟨k, 0, none⟩) g.length m, .int .i64 c], strV z]) (by simp [results, Tryz.results59, go_sem, q0, q1]) rfl ?_
    exact ⟨_, rfl, ⟨k, m, rfl, HV.out.ext qx⟩, qx⟩
set_option maxRecDepth 100000 in
set_option maxHeartbeats 4000000 in
theorem l7One16_c (S : ByteArray) (k m : Nat) (g : List Int) (c x y : Nat) (w : World) (hv : Rd w (.slice (some ⟨k, 0, none⟩) g.length m) g) (hf : Fit g c) (hS : Word S 16) (hx : x ≤ 9999) :
    Calls Tryz.prog 59 #[.agg #[.slice (some ⟨k, 0, none⟩) g.length m, .int .i64 c], .string S, .int .i64 x] w fun e w' => ∃ v', e = .returned (.tuple #[v', strV (nl (cmdR 16 g c x y))]) ∧ StateV w' v' (nextS (cmdR 16 g c x y) g c) ∧ Ext w w' := by
  have t5 : (S.toList == [108, 101, 97, 115, 116]) = false := hS 5 (by omega) (by omega)
  have t6 : (S.toList == [116, 104, 105, 110]) = false := hS 6 (by omega) (by omega)
  have t10 : (S.toList == [105, 110]) = false := hS 10 (by omega) (by omega)
  have t15 : (S.toList == [112, 108, 97, 121]) = false := hS 15 (by omega) (by omega)
  have t16 : (S.toList == [116, 101, 108, 108, 115]) = true := hS 16 (by omega) (by omega)
  obtain ⟨W, hW⟩ : ∃ W, W = (w.alloc (.cells #[.slice (some ⟨k, 0, none⟩) g.length m, .int .i64 c] 58)).alloc (.cells #[.slice none 0 0, .int .i64 0] 58) := ⟨_, rfl⟩
  have hB := Box.of w (.slice (some ⟨k, 0, none⟩) g.length m) (.int .i64 c) (.slice none 0 0) (.int .i64 0) 58 58
  rw [← hW] at hB
  have hl := hf.gr.le
  have hvW := hv.ext hB.ext
  have HW := Lib.hid hW; have HB := Lib.hid hB; have HV := Lib.hid hv
  have a0 := hB.a0
  have a1 := hB.a1
  have HSet := Lib.hid (l2Set_c (.slice (some ⟨k, 0, none⟩) g.length m) g x W hvW (by omega))
  have hsp : setB (x : Int) g.length = decide (x < 2 ^ g.length) := by
    rw [Bool.eq_iff_iff, decide_eq_true_iff, setB_iff]
    exact ⟨fun ⟨m, e, h⟩ => by rw [show x = m from by omega]; exact h, fun h => ⟨x, rfl, h⟩⟩
  rw [hsp] at HSet
  obtain ⟨b, hb⟩ : ∃ b, b = decide (x < 2 ^ g.length) := ⟨_, rfl⟩
  rw [← hb] at HSet
  have hc := hf.c_le
  have HC := Lib.hid (poolBallsS_c (.slice (some ⟨k, 0, none⟩) g.length m) g c W hvW (by omega))
  have hcm : poolBalls g c = (pickTo g c g.length, true) := by
    unfold poolBalls fits
    rw [graphIn_iff.2 hf.gr, setB_iff.2 ⟨c, rfl, hf.lt⟩]
    rfl
  rw [hcm] at HC
  simp only [listV] at HC
  have hpl := pickTo_length g c g.length
  obtain ⟨ps, hps⟩ : ∃ ps, ps = pickTo g c g.length := ⟨_, rfl⟩
  rw [← hps] at HC hpl
  have HPL := Lib.hid hpl
  have HLL := Lib.hid hl
  obtain ⟨p, hp⟩ : ∃ p, p = poolTells g.length ps x := ⟨_, rfl⟩
  have HPP := Lib.hid hp
  have HY := Lib.hid (l7Yes_c p)
  obtain ⟨z, hz⟩ : ∃ z : List UInt8, z = if p then [121, 101, 115, 10] else [110, 111, 116, 10] := ⟨_, rfl⟩
  rw [← hz] at HY
  have HR : Hid (z = nl (cmdR 16 g c x y)) := by
    show z = yesS (poolTells g.length (pickTo g c g.length) x) ++ [10]
    rw [hz, ← hps, ← hp]; cases p <;> rfl
  have HN : Hid (nextS (cmdR 16 g c x y) g c = (g, c)) := rfl
  rw [← HR.out, HN.out]
  clear hv hf hS hx hB hvW hsp hb hl hp hz hW hc hcm hpl hps
  go_enter Tryz.func59, Tryz.ntmps59
  go_wp2_with fail
  rw [← HW.out]
  refine HSet.out.mono ?_
  rintro e w0 ⟨rfl, rfl⟩
  go_wp2_with fail
  refine HC.out.mono ?_
  rintro e w1 ⟨v1, rfl, o1, x1⟩
  have B1 := Lib.hid (HB.out.go x1)
  have HT := Lib.hid (fun u => poolTellsS_c g.length v1 ps x (clip w1 u) (o1.rd.ext (clip_ext w1 u)) (by have := HPL.out; have := HLL.out; omega))
  rw [← HPP.out] at HT
  have a2 := fun u => (B1.out.go (clip_ext w1 u)).a0
  have a3 := fun u => (B1.out.go (clip_ext w1 u)).a1
  clear x1 o1
  go_wp2
  refine wp_region_tail 8 (by kernel_rfl) (by kernel_rfl) (by kernel_rfl) ?_
  simp only [List.take_succ_cons, List.take_zero, List.drop_succ_cons, List.drop_zero]
  repeat (go_big_quiet_step (first
    | (go_at_call 125; exact Calls.clip_of (HT.out _))
    | (go_at_call 121; exact Calls.clip_of ((HY.out _).mono fun _ _ ⟨h1, h2⟩ => ⟨h1, h2 ▸ Ext.refl _⟩))))
  refine wpQuiet_nil ?_
  rintro _ ⟨u', rfl⟩
  have B3 := Lib.hid (B1.out.go (clip_ext w1 u'))
  have a4 := B3.out.a0
  have a5 := B3.out.a1
  obtain ⟨u4, r4⟩ := B3.out.r0
  obtain ⟨u5, r5⟩ := B3.out.r1
  have f4 := B3.out.fr 0
  have f5 := B3.out.fr 1
  gi_wp2
  all_goals go_wp2
  all_goals
    skip
    obtain ⟨q0, q1, qx⟩ := B3.out.put (.slice (some ⟨k, 0, none⟩) g.length m) (.int .i64 c)
    refine bodyPost_ret (v := .tuple #[.agg #[.slice (some ⟨k, 0, none⟩) g.length m, .int .i64 c], strV z]) (by simp [results, Tryz.results59, go_sem, q0, q1]) rfl ?_
    exact ⟨_, rfl, ⟨k, m, rfl, HV.out.ext qx⟩, qx⟩
end Go.Proofs.YtkmfmhckpfomeaaGreatDoor

/- A line of a script in the reference's words. No program in sight. No condition. -/
namespace Go.Proofs.YtkmfmhckpfomeaaGreatDoor

def manyN (i : Nat) : Nat := [0, 2, 2, 0, 1, 1, 1, 0, 0, 0, 1, 0, 0, 2, 0, 1, 1].getD i 0
theorem kindsN_nat : ∀ i, i ≤ 16 → kindsN i = (manyN i : Nat) := by decide
theorem cmdNum_many : ∀ i, i ≤ 16 → i ≠ 0 → (decide (0 < cmdNum i) = decide (manyN i ≠ 0)) ∧ (manyN i ≠ 0 → (cmdNum i).toNat = manyN i) := by decide
theorem many_word : ∀ i, i ≤ 16 → (manyN i = 2 ↔ i = 1 ∨ i = 2 ∨ i = 13) ∧ (manyN i = 1 ↔ i = 4 ∨ i = 5 ∨ i = 6 ∨ i = 10 ∨ i = 15 ∨ i = 16) ∧ (manyN i = 0 ∨ manyN i = 1 ∨ manyN i = 2) := by decide
theorem bare_num : ∀ i, i ≤ 16 → i ≠ 0 → (decide (0 < cmdNum i) = false ↔ i = 3 ∨ i = 7 ∨ i = 8 ∨ i = 9 ∨ i = 11 ∨ i = 12 ∨ i = 14) := by decide
theorem oneR_next (p : Int × Bool) (g : List Int) (c : Nat) : nextS (oneR p g c) g c = (g, c) := by
  unfold oneR
  split <;> rfl
theorem bare_next {i : Nat} (h : i = 7 ∨ i = 8 ∨ i = 9 ∨ i = 11 ∨ i = 12 ∨ i = 14) (g : List Int) (c a b : Nat) : nextS (cmdR i g c a b) g c = (g, c) := by
  rcases h with rfl | rfl | rfl | rfl | rfl | rfl
  · rfl
  · rfl
  · rfl
  · exact oneR_next _ _ _
  · exact oneR_next _ _ _
  · exact oneR_next _ _ _
theorem ans_out (r : Res) (g : List Int) (c : Nat) : (match r with | none => (noS, g, c) | some r => r : List UInt8 × St).1 ++ [10] = nl r ∧ (match r with | none => (noS, g, c) | some r => r : List UInt8 × St).2 = nextS r g c := by
  cases r with
  | none => exact ⟨rfl, rfl⟩
  | some t => exact ⟨rfl, rfl⟩
theorem line_other {l : List UInt8} (h : (32 : UInt8) ∉ l) (h3 : cmdIx l = 3) (g : List Int) (c : Nat) : lineR g c l = (okS, otherG g, c) := by
  unfold lineR
  rw [cut_free h]
  dsimp only
  rw [h3]
  rfl
theorem line_bare {l : List UInt8} (h : (32 : UInt8) ∉ l) (h3 : cmdIx l ≠ 3) (g : List Int) (c : Nat) : (lineR g c l).1 ++ [10] = bareR (cmdIx l) g c ∧ (lineR g c l).2 = (g, c) := by
  have h16 := cmdIx_le l
  unfold lineR
  rw [cut_free h]
  dsimp only
  obtain ⟨i, hi⟩ : ∃ i, i = cmdIx l := ⟨_, rfl⟩
  rw [← hi] at h3 h16 ⊢
  by_cases hb : i = 7 ∨ i = 8 ∨ i = 9 ∨ i = 11 ∨ i = 12 ∨ i = 14
  · have h0 : i ≠ 0 := by omega
    have hn := (bare_num i h16 h0).2 (by omega)
    rw [if_neg (by rw [hn]; intro h; rcases h with h | h; exact h0 h; exact h rfl)]
    unfold bareR
    rw [if_pos hb]
    have := ans_out (cmdR i g c 0 0) g c
    rw [bare_next hb] at this
    exact this
  · have : i = 0 ∨ false ≠ decide (0 < cmdNum i) := by
      by_cases h0 : i = 0
      · exact .inl h0
      · exact .inr fun e => by
          have := (bare_num i h16 h0).1 e.symm
          omega
    rw [if_pos this]
    unfold bareR
    rw [if_neg hb]
    exact ⟨rfl, rfl⟩
theorem line_what {a r : List UInt8} (h : (32 : UInt8) ∉ a) (h0 : manyN (cmdIx a) = 0) (g : List Int) (c : Nat) : lineR g c (a ++ 32 :: r) = (whatS, g, c) := by
  have h16 := cmdIx_le a
  unfold lineR
  rw [cut_cut h]
  dsimp only
  obtain ⟨i, hi⟩ : ∃ i, i = cmdIx a := ⟨_, rfl⟩
  rw [← hi] at h0 h16 ⊢
  rw [if_pos]
  by_cases hz : i = 0
  · exact .inl hz
  · refine .inr fun e => ?_
    have := (cmdNum_many i h16 hz).1
    rw [h0] at this
    rw [this] at e
    cases e
theorem line_args {a r : List UInt8} (h : (32 : UInt8) ∉ a) (h0 : manyN (cmdIx a) ≠ 0) (g : List Int) (c : Nat) :
    lineR g c (a ++ 32 :: r) = match argsOf (manyN (cmdIx a)) r with | none => (noS, g, c) | some ns => match cmdR (cmdIx a) g c (ns.getD 0 0) (ns.getD 1 0) with | none => (noS, g, c) | some r => r := by
  have h16 := cmdIx_le a
  unfold lineR
  rw [cut_cut h]
  dsimp only
  obtain ⟨i, hi⟩ : ∃ i, i = cmdIx a := ⟨_, rfl⟩
  rw [← hi] at h0 h16 ⊢
  have hz : i ≠ 0 := fun e => h0 (by rw [e]; rfl)
  have hn := cmdNum_many i h16 hz
  have hno : ¬ (i = 0 ∨ true ≠ decide (0 < cmdNum i)) := by
    rintro (h | h)
    · exact hz h
    · exact h (by rw [hn.1, decide_eq_true h0])
  rw [if_neg hno, if_pos rfl, hn.2 h0]
  rfl
end Go.Proofs.YtkmfmhckpfomeaaGreatDoor

/- Numbers read from text: the reference's l7Numbers. The condition: the text has at most 2^20 bytes. -/
namespace Go.Proofs.YtkmfmhckpfomeaaGreatDoor
open Go.RowKit
open BigFrame
attribute [local go_sem] Oper.semAt_some

/-- Between f and i: the bytes of a string. -/
def mid (l : List UInt8) (f i : Nat) : List UInt8 := (l.drop f).take (i - f)
theorem mid_self (l : List UInt8) (f : Nat) : mid l f f = [] := by simp [mid]
theorem mid_next {l : List UInt8} {f i : Nat} (hf : f ≤ i) (hi : i < l.length) : mid l f (i + 1) = mid l f i ++ [l.getD i 0] := by
  unfold mid
  rw [show i + 1 - f = (i - f) + 1 by omega, take_next (by rw [List.length_drop]; omega)]
  congr 2
  simp only [List.getD, List.getElem?_drop]
  rw [show f + (i - f) = i by omega]
theorem mid_rest {l : List UInt8} {f i : Nat} (hf : f ≤ i) (hi : i < l.length) : l.drop f = mid l f i ++ l.getD i 0 :: l.drop (i + 1) := by
  unfold mid
  conv => lhs; rw [← List.take_append_drop (i - f) (l.drop f)]
  rw [List.drop_drop, Nat.add_sub_cancel' hf, List.drop_eq_getElem_cons hi]
  simp [List.getD, List.getElem?_eq_getElem hi]
theorem mid_end {l : List UInt8} {f : Nat} : mid l f l.length = l.drop f := by
  unfold mid
  rw [List.take_of_length_le (by rw [List.length_drop]; omega)]
theorem mid_le (l : List UInt8) (f i : Nat) : (mid l f i).length ≤ l.length := by
  unfold mid; rw [List.length_take, List.length_drop]; omega
theorem IsStr.mid {S : ByteArray} {l : List UInt8} {L : Nat} (h : IsStr S l L) (f i : Nat) : IsStr (S.extract f i) (mid l f i) (mid l f i).length := by
  have e : S.extract f i = ⟨(Go.Proofs.YtkmfmhckpfomeaaGreatDoor.mid l f i).toArray⟩ := by
    apply bytes_eq
    rw [h.eq, Lib.extract_data]
    simp [Go.Proofs.YtkmfmhckpfomeaaGreatDoor.mid]
  refine ⟨e, ?_, rfl⟩
  rw [e]; show (Go.Proofs.YtkmfmhckpfomeaaGreatDoor.mid l f i).toArray.size = _; simp
def numsSV (v : Value) (o : Option (List Nat)) (w : World) (base : Nat) : Prop := match o with
  | none => ∃ u, v = .tuple #[u, .bool false]
  | some ns => ∃ u, v = .tuple #[u, .bool true] ∧ Own w base u (intsOf ns)
theorem nums_cons (p : List UInt8) (r : List (List UInt8)) (done : List Nat) : (nums (p :: r)).map (done ++ ·) = match number? p with | none => none | some n => (nums r).map ((done ++ [n]) ++ ·) := by
  rw [nums]
  cases number? p with
  | none => rfl
  | some n => simp [Option.map_map, Function.comp_def]

set_option maxHeartbeats 2000000 in
theorem l7Numbers_c (l : List UInt8) (w : World) (hl : l.length ≤ 1048576) :
    Calls Tryz.prog 57 #[strV l] w fun e w' => ∃ v, e = .returned v ∧ numsSV v (nums (pieces 32 l)) w' w.heap.size ∧ Ext w w' := by
  obtain ⟨S, L, hS⟩ := IsStr.of l
  rw [hS.val]
  have hsz := hS.size
  have HL := Lib.hid hS.len
  have hL : L ≤ 1048576 := by rw [← hS.len]; exact hl
  have HS := Lib.hid hS
  obtain ⟨N, hN⟩ : ∃ N, N = nums (pieces 32 l) := ⟨_, rfl⟩
  rw [← hN]
  have HNN := Lib.hid hN
  clear hl hS hN
  go_enter Tryz.func57, Tryz.ntmps57
  go_wp2
  go_loopw [4, 5, 6] (fun o q i wr => ∃ (f j : Nat) (done : List Nat), f ≤ j ∧ j ≤ L + 1 ∧ i = .int .i64 j ∧ q = .int .i64 f ∧ done.length ≤ j ∧ Own wr w.heap.size o (intsOf done) ∧ Ext w wr ∧ Hid ((j = L + 1 ∧ N = some done) ∨ (j ≤ L ∧ (32 : UInt8) ∉ mid l f j ∧ N = (nums (pieces 32 (l.drop f))).map (done ++ ·)))) (fun _ _ i _ => L + 2 - (intOf i).toNat)
  case atStart => exact ⟨0, 0, [], Nat.le_refl _, Nat.zero_le _, rfl, rfl, Nat.le_refl _, Own.lit w, (Ext.refl w).alloc _, .inr ⟨Nat.zero_le _, by rw [mid_self]; simp, by rw [HNN.out]; simp⟩⟩
  case round =>
    obtain ⟨f, j, done, hf, hj, rfl, rfl, hdl, ho, hx, HN⟩ := hrel
    have HO := Lib.hid ho; have HX := Lib.hid hx
    clear ho hx
    by_cases hlt : j ≤ L
    · have HN1 : Hid ((32 : UInt8) ∉ mid l f j ∧ N = (nums (pieces 32 (l.drop f))).map (done ++ ·)) := by
        rcases HN.out with ⟨h, _⟩ | ⟨_, h⟩
        · omega
        · exact h
      clear HN
      have HZ := Lib.hid (HS.out.mid f j)
      have hml := Lib.hid (mid_le l f j)
      obtain ⟨Z, hZ⟩ : ∃ Z, Z = S.extract f j := ⟨_, rfl⟩
      have hext : S.extract f j = Z := hZ.symm
      have HC := Lib.hid (l7Number_c (mid l f j) wr (by have := hml.out; rw [HL.out] at this; omega))
      rw [← hZ] at HZ
      rw [HZ.out.val] at HC
      clear hZ
      by_cases hend : j = L
      · have HP : Hid (N = match number? (mid l f j) with | none => none | some n => some (done ++ [n])) := by
          have h1 : l.drop f = mid l f j := by rw [hend, ← HL.out, mid_end]
          have h2 := HN1.out.2
          rw [h1, pieces_free HN1.out.1, nums_cons] at h2
          unfold Hid; rw [h2]
          cases number? (mid l f j) <;> simp [nums]
        subst hend
        generalize hq : mid l f j = p at HP HC
        clear hml HZ HN1 hq
        cases hnum : number? p with
        | none =>
          have hb : numB p = (0, false) := by unfold numB; rw [hnum]
          rw [hb] at HC; simp only [pairV] at HC; rw [hnum] at HP; clear hb
          have HE : Hid (N = none) := HP.out
          clear HP hnum
          go_wp2_with (go_at_call 116; refine HC.out.mono ?_; rintro e w2 ⟨rfl, x2⟩; have X2 := Lib.hid x2; clear x2)
          go_ret2
          exact ⟨_, rfl, by rw [HE.out]; exact ⟨_, rfl⟩, HX.out.trans X2.out⟩
        | some n =>
          have hb : numB p = ((n : Int), true) := by unfold numB; rw [hnum]
          rw [hb] at HC; simp only [pairV] at HC; rw [hnum] at HP; clear hb
          have HE : Hid (N = some (done ++ [n])) := HP.out
          clear HP hnum
          go_wp2_with (first
            | (go_at_call 116; refine HC.out.mono ?_; rintro e w2 ⟨rfl, x2⟩; have X2 := Lib.hid (HX.out.trans x2); have O2 := Lib.hid (HO.out.ext x2); clear x2)
            | (at_builtin; refine wpList_append_int rfl _ _ rfl w.heap.size _ _ rfl (O2.out.alloc _) w2.heap.size n rfl (one_cell w2 _ _) (by unfold intsOf; rw [List.length_map]; omega) (by simp; have := X2.out.size; omega) ?_; intro v' w3 ho3 hg3 hn3))
          have X3 : Hid (Ext w w3) := (O2.out.alloc _).grew (X2.out.alloc _) hg3 (Nat.le_refl _)
          have O3 : Hid (Own w3 w.heap.size v' (intsOf (done ++ [n]))) := by unfold intsOf Hid at *; rw [List.map_append]; exact ho3
          clear ho3 hg3 hn3
          go_wp2
          go_roundw
          case rel => exact ⟨j + 1, j + 1, done ++ [n], Nat.le_refl _, by omega, by go_num, by go_num, by simp; omega, O3.out, X3.out, .inl ⟨rfl, HE.out⟩⟩
          case measure => simp [intOf] <;> omega
      · have hltj : j < L := by omega
        obtain ⟨x, bb, hx, hbb, hb5, hidx⟩ := HS.out.byte hltj
        have hne : ((j : Int) == (L : Int)) = false := by simp; omega
        have hl' : j < l.length := by rw [HL.out]; exact hltj
        by_cases h32 : bb = 32
        · have hx32 : l.getD j 0 = 32 := by rw [hx]; exact UInt8.toNat_inj.1 (by rw [hbb, h32]; rfl)
          have HP : Hid (N = match number? (mid l f j) with | none => none | some n => (nums (pieces 32 (l.drop (j + 1)))).map ((done ++ [n]) ++ ·)) := by
            have h1 := mid_rest hf hl'
            rw [hx32] at h1
            have h2 := HN1.out.2
            rw [h1, pieces_cut _ HN1.out.1, nums_cons] at h2
            exact h2
          have HM : Hid ((32 : UInt8) ∉ mid l (j + 1) (j + 1)) := by unfold Hid; rw [mid_self]; simp
          subst h32
          generalize hq : mid l f j = p at HP HC
          clear hml HZ HN1 hq hx hbb hx32 hl'
          cases hnum : number? p with
          | none =>
            have hb : numB p = (0, false) := by unfold numB; rw [hnum]
            rw [hb] at HC; simp only [pairV] at HC; rw [hnum] at HP; clear hb
            have HE : Hid (N = none) := HP.out
            clear HP hnum
            go_wp2_with (go_at_call 116; refine HC.out.mono ?_; rintro e w2 ⟨rfl, x2⟩; have X2 := Lib.hid x2; clear x2)
            go_ret2
            exact ⟨_, rfl, by rw [HE.out]; exact ⟨_, rfl⟩, HX.out.trans X2.out⟩
          | some n =>
            have hb : numB p = ((n : Int), true) := by unfold numB; rw [hnum]
            rw [hb] at HC; simp only [pairV] at HC; rw [hnum] at HP; clear hb
            have HE : Hid (N = (nums (pieces 32 (l.drop (j + 1)))).map ((done ++ [n]) ++ ·)) := HP.out
            clear HP hnum
            go_wp2_with (first
              | (go_at_call 116; refine HC.out.mono ?_; rintro e w2 ⟨rfl, x2⟩; have X2 := Lib.hid (HX.out.trans x2); have O2 := Lib.hid (HO.out.ext x2); clear x2)
              | (at_builtin; refine wpList_append_int rfl _ _ rfl w.heap.size _ _ rfl (O2.out.alloc _) w2.heap.size n rfl (one_cell w2 _ _) (by unfold intsOf; rw [List.length_map]; omega) (by simp; have := X2.out.size; omega) ?_; intro v' w3 ho3 hg3 hn3))
            have X3 : Hid (Ext w w3) := (O2.out.alloc _).grew (X2.out.alloc _) hg3 (Nat.le_refl _)
            have O3 : Hid (Own w3 w.heap.size v' (intsOf (done ++ [n]))) := by unfold intsOf Hid at *; rw [List.map_append]; exact ho3
            clear ho3 hg3 hn3
            go_wp2
            go_roundw
            case rel => exact ⟨j + 1, j + 1, done ++ [n], Nat.le_refl _, by omega, by go_num, by go_num, by simp; omega, O3.out, X3.out, .inr ⟨by omega, HM.out, HE.out⟩⟩
            case measure => simp [intOf] <;> omega
        · have hb32 : ((bb : Int) == 32) = false := by simp; omega
          have HM : Hid ((32 : UInt8) ∉ mid l f (j + 1)) := by
            unfold Hid
            rw [mid_next hf hl', List.mem_append, hx]
            rintro (h | h)
            · exact HN1.out.1 h
            · simp at h; rw [← h] at hbb; exact h32 hbb.symm
          have HE := Lib.hid HN1.out.2
          clear hml HZ HN1 HC hx hbb hl' h32
          go_wp2
          go_roundw
          case rel => exact ⟨f, j + 1, done, by omega, by omega, by go_num, rfl, by omega, HO.out, HX.out, .inr ⟨by omega, HM.out, HE.out⟩⟩
          case measure => simp [intOf] <;> omega
    · obtain rfl : j = L + 1 := by omega
      have HE : Hid (N = some done) := by
        rcases HN.out with ⟨_, h⟩ | ⟨h, _⟩
        · exact h
        · omega
      clear HN
      go_wp2
      go_ret2
      exact ⟨_, rfl, by rw [HE.out]; exact ⟨_, rfl, HO.out⟩, HX.out⟩
end Go.Proofs.YtkmfmhckpfomeaaGreatDoor

/- A line of a script, the reference's side. The condition: the line has at most 2^20 bytes. -/
namespace Go.Proofs.YtkmfmhckpfomeaaGreatDoor
open Go.RowKit
open BigFrame
attribute [local go_sem] Oper.semAt_some

theorem mid_take (l : List UInt8) (k : Nat) : mid l 0 k = l.take k := by simp [mid]
set_option maxRecDepth 100000 in
set_option maxHeartbeats 4000000 in
theorem lineS_free (k m : Nat) (g : List Int) (c : Nat) (l : List UInt8) (w : World) (hv : Rd w (.slice (some ⟨k, 0, none⟩) g.length m) g) (hf : Fit g c) (hl : l.length ≤ 1048576) (hfr : (32 : UInt8) ∉ l) :
    Calls Tryz.prog 33 #[.agg #[.slice (some ⟨k, 0, none⟩) g.length m, .int .i64 c], strV l] w fun e w' => ∃ v', e = .returned (.tuple #[v', strV ((lineR g c l).1 ++ [10])]) ∧ StateV w' v' (lineR g c l).2 ∧ Ext w w' := by
  obtain ⟨S, L, hS⟩ := IsStr.of l
  have hL : L ≤ 1048576 := by rw [← hS.len]; exact hl
  have hsz := hS.size
  have HS := Lib.hid hS
  have hby : ∀ j, j < L → l.getD j 0 ≠ 32 := fun j hj e => hfr (by rw [← e, List.getD_eq_getElem?_getD, List.getElem?_eq_getElem (by rw [hS.len]; exact hj)]; exact List.getElem_mem _)
  have HBY := Lib.hid hby
  obtain ⟨W, hW⟩ : ∃ W, W = (w.alloc (.cells #[.slice (some ⟨k, 0, none⟩) g.length m, .int .i64 c] 58)).alloc (.cells #[.slice none 0 0, .int .i64 0] 58) := ⟨_, rfl⟩
  have hB := Box.of w (.slice (some ⟨k, 0, none⟩) g.length m) (.int .i64 c) (.slice none 0 0) (.int .i64 0) 58 58
  rw [← hW] at hB
  have HW := Lib.hid hW; have HB := Lib.hid hB; have HV := Lib.hid hv; have HF := Lib.hid hf
  have HFR := Lib.hid hfr
  have he0 : S.extract 0 L = S := by
    rw [(hS.mid 0 L).eq, mid_take, ← hS.len, List.take_length]
    exact hS.eq.symm
  have hWd : Word S (cmdIx l) := by rw [hS.eq]; exact Word.of l
  have HWD := Lib.hid hWd
  rw [hS.val]
  clear hv hf hl hfr hby hS hW hB hWd
  go_enter Tryz.func33, Tryz.ntmps33
  go_wp2
  rw [← HW.out]
  go_loop [6] (fun i => ∃ j : Nat, j ≤ L ∧ i = .int .i64 j) (fun i => L - (intOf i).toNat)
  case atStart => exact ⟨0, Nat.zero_le _, rfl⟩
  case round =>
    obtain ⟨j, hj, rfl⟩ := hrel
    by_cases hlt : j < L
    · obtain ⟨x, b, e1, e2, hb, hidx⟩ := HS.out.byte hlt
      have t1 : ((b : Int) == 32) = false := by
        rw [beq_eq_false_iff_ne]
        intro e
        have h32 : x = 32 := UInt8.toNat_inj.1 (by rw [e2]; show b = 32; omega)
        exact HBY.out j hlt (by rw [e1, h32])
      have d1 : decide ((j : Int) < (L : Int)) = true := decide_eq_true (by omega)
      clear e1 e2
      go_wp2
      go_round
      case rel => exact ⟨j + 1, by omega, by go_num⟩
      case measure => simp [intOf]; omega
    · obtain rfl : j = L := by omega
      have d1 : decide ((j : Int) < (j : Int)) = false := decide_eq_false (by omega)
      have a0 := HB.out.a0
      have a1 := HB.out.a1
      by_cases h3 : cmdIx l = 3
      · have t3 : (S.toList == [111, 116, 104, 101, 114]) = true := (HWD.out 3 (by omega) (by omega)).trans (decide_eq_true h3)
        have HR := Lib.hid (line_other HFR.out h3 g c)
        have HC := Lib.hid (graphOtherS_c (.slice (some ⟨k, 0, none⟩) g.length m) g W (HV.out.ext HB.out.ext) HF.out.gr)
        simp only [listV] at HC
        clear h3
        go_wp2_with fail
        refine HC.out.mono ?_
        rintro e w1 ⟨v1, rfl, o1, x1⟩
        have B1 := Lib.hid (HB.out.go x1)
        obtain ⟨z1, z2, rfl⟩ := o1.slice (by rw [otherG_length]; exact HF.out.gr.pos)
        have O1 := Lib.hid o1
        clear x1 o1
        have a2 := B1.out.a0
        have a3 := B1.out.a1
        obtain ⟨u2, r2⟩ := B1.out.r0
        obtain ⟨u3, r3⟩ := B1.out.r1
        have f2 := B1.out.fr 0
        have f3 := B1.out.fr 1
        go_wp2
        obtain ⟨q0, q1, qx⟩ := B1.out.put (.slice (some ⟨z1, 0, none⟩) (otherG g).length z2) (.int .i64 c)
        refine bodyPost_ret (v := .tuple #[.agg #[.slice (some ⟨z1, 0, none⟩) (otherG g).length z2, .int .i64 c], .string ⟨#[111, 107, 10]⟩]) (by simp [results, Tryz.results33, go_sem, q0, q1]) rfl ?_
        rw [HR.out]
        have hne : z1 ≠ w.heap.size + 1 := fun e => by
          have h1 := O1.out.at.2.2.1
          have h2 := HB.out.rl
          omega
        exact ⟨_, rfl, ⟨z1, z2, rfl, (O1.out.rd.upd hne (Upd.setCell _ (w.heap.size + 1) 0 _)).upd hne (Upd.setCell _ (w.heap.size + 1) 1 _)⟩, qx⟩
      · have t3 : (S.toList == [111, 116, 104, 101, 114]) = false := (HWD.out 3 (by omega) (by omega)).trans (decide_eq_false h3)
        have hr := line_bare HFR.out h3 g c
        obtain ⟨z, hz⟩ : ∃ z, z = bareR (cmdIx l) g c := ⟨_, rfl⟩
        have HR : Hid ((lineR g c l).1 ++ [10] = z) := by rw [hz]; exact hr.1
        have HN : Hid ((lineR g c l).2 = (g, c)) := hr.2
        have HC := Lib.hid (fun u => l7Bare_c S k m g c (clip W u) (HV.out.ext (HB.out.ext.trans (clip_ext W u))) HF.out (cmdIx l) HWD.out)
        rw [← hz] at HC
        have a2 := fun u => (HB.out.go (clip_ext W u)).a0
        have a3 := fun u => (HB.out.go (clip_ext W u)).a1
        clear h3 hr hz
        go_wp2
        refine wp_region_tail 4 (by kernel_rfl) (by kernel_rfl) (by kernel_rfl) ?_
        simp only [List.take_succ_cons, List.take_zero, List.drop_succ_cons, List.drop_zero]
        repeat (go_big_quiet_step (first
          | (go_at_call 55; exact Calls.clip_of (HC.out _))))
        refine wpQuiet_nil ?_
        rintro _ ⟨u', rfl⟩
        have B3 := Lib.hid (HB.out.go (clip_ext W u'))
        have a4 := B3.out.a0
        have a5 := B3.out.a1
        obtain ⟨u4, r4⟩ := B3.out.r0
        obtain ⟨u5, r5⟩ := B3.out.r1
        have f4 := B3.out.fr 0
        have f5 := B3.out.fr 1
        gi_wp2
        all_goals go_wp2
        all_goals
          obtain ⟨q0, q1, qx⟩ := B3.out.put (.slice (some ⟨k, 0, none⟩) g.length m) (.int .i64 c)
          refine bodyPost_ret (v := .tuple #[.agg #[.slice (some ⟨k, 0, none⟩) g.length m, .int .i64 c], strV z]) (by simp [results, Tryz.results33, go_sem, q0, q1]) rfl ?_
          rw [HR.out, HN.out]
          exact ⟨_, rfl, ⟨k, m, rfl, HV.out.ext qx⟩, qx⟩
end Go.Proofs.YtkmfmhckpfomeaaGreatDoor
