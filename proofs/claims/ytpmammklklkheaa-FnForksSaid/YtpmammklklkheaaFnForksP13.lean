/- What the walk of FnForks rests on, part 13: plain facts, and contracts of the functions that it reaches. Each states its own condition. -/
import Derived.Test.YtpmammklklkheaaFnForksP12
import Derived.Test.YtpmammklklkheaaFnForksP10
import Derived.Test.YtpmammklklkheaaFnForksP7
/- Codes, least codes, their numbers: the reference and the program compute the same plain functions. The condition: the list has at most 2^20 numbers. -/
namespace Go.Proofs.Ytpmammklklkheaa
open Go.RowKit
open BigFrame

set_option maxHeartbeats 1000000 in
theorem codeInS_c (v : Value) (g : List Int) (kind s : Int) (w : World) (hv : Rd w v g) (hm : g.length ≤ 1048576) :
    Calls Try.prog 72 #[v, .int .i64 kind, .int .i64 s] w fun e w' => e = .returned (.bool (codeIn g kind s)) ∧ Ext w w' := by
  obtain ⟨a, c, rfl⟩ := hv.form
  have HV := Lib.hid hv; clear hv
  have HM := Lib.hid hm
  cases h0 : graphIn g
  · rw [show codeIn g kind s = false from by unfold codeIn; rw [h0]; rfl]
    go_enter Try.func72, Try.ntmps72
    go_wp2_with fail
    refine (graphInS_c _ _ _ HV.out HM.out).mono ?_
    rintro e w1 ⟨rfl, x1⟩
    have X1 := Lib.hid x1; clear x1
    go_wp2
    go_ret
    exact ⟨rfl, X1.out⟩
  · have hG := graphIn_iff.1 h0
    have hl := hG.le
    have HG := Lib.hid hG; clear hG
    cases hk : inB 0 kind 3
    · rw [show codeIn g kind s = false from by unfold codeIn; rw [hk, Bool.and_false]; rfl]
      go_enter Try.func72, Try.ntmps72
      go_wp2_with fail
      refine (graphInS_c _ _ _ HV.out HM.out).mono ?_
      rintro e w1 ⟨rfl, x1⟩
      have X1 := Lib.hid x1; clear x1
      go_wp2_with (go_at_call 103; refine (l2Kind_c _ _).mono ?_; rintro e w' ⟨rfl, rfl⟩)
      go_ret
      exact ⟨rfl, X1.out⟩
    · cases hs : setB s g.length
      · rw [show codeIn g kind s = false from by unfold codeIn; rw [hs, Bool.and_false]; rfl]
        go_enter Try.func72, Try.ntmps72
        go_wp2_with fail
        refine (graphInS_c _ _ _ HV.out HM.out).mono ?_
        rintro e w1 ⟨rfl, x1⟩
        have X1 := Lib.hid x1; clear x1
        go_wp2_with (first | (go_at_call 103; refine (l2Kind_c _ _).mono ?_; rintro e w' ⟨rfl, rfl⟩) | (go_at_call 64; refine (l2Set_c _ g _ _ (HV.out.ext X1.out) (by omega)).mono ?_; rintro e w' ⟨rfl, rfl⟩))
        go_ret
        exact ⟨rfl, X1.out⟩
      · obtain ⟨k, rfl, hkl⟩ := setB_iff.1 hs
        obtain ⟨K, rfl⟩ : ∃ K : Nat, kind = K := ⟨kind.toNat, by have := inB_iff.1 hk; omega⟩
        have hK3 : K ≤ 3 := by have := inB_iff.1 hk; omega
        have hk4 : k ≤ 4095 := by have := pow_le_12 hl; omega
        have HKL := Lib.hid hkl
        rw [show codeIn g K k = kindN g K k from by unfold codeIn; rw [h0, hk, hs]; rfl]
        clear hkl
        go_enter Try.func72, Try.ntmps72
        go_wp2_with fail
        refine (graphInS_c _ _ _ HV.out HM.out).mono ?_
        rintro e w1 ⟨rfl, x1⟩
        have X1 := Lib.hid x1; clear x1
        go_wp2_with (first | (go_at_call 103; refine (l2Kind_c _ _).mono ?_; rintro e w' ⟨rfl, rfl⟩) | (go_at_call 64; refine (l2Set_c _ g _ _ (HV.out.ext X1.out) (by omega)).mono ?_; rintro e w' ⟨rfl, rfl⟩))
        refine (l2Table_c _ g _ (HV.out.ext X1.out) HG.out).mono ?_
        rintro e w2 ⟨vt, vs, rfl, ht, x2⟩
        have HT := Lib.hid ht; have X2 := Lib.hid (X1.out.trans x2); clear ht x2
        go_wp2_with fail
        refine (l2In_c _ _ vs g K k _ (HV.out.ext X2.out) HT.out HG.out hk4 hK3).mono ?_
        rintro e w3 ⟨rfl, x3⟩
        go_wp2
        go_ret
        exact ⟨rfl, X2.out.trans x3⟩

set_option maxHeartbeats 1000000 in
theorem codeInI_c (v : Value) (g : List Int) (kind s : Int) (w : World) (hv : Rd w v g) (hm : g.length ≤ 1048576) :
    Calls Try.prog 34 #[v, .int .i64 kind, .int .i64 s] w fun e w' => e = .returned (.bool (codeIn g kind s)) ∧ Ext w w' := by
  obtain ⟨a, c, rfl⟩ := hv.form
  have HV := Lib.hid hv; clear hv
  have HM := Lib.hid hm
  cases h0 : graphIn g
  · rw [show codeIn g kind s = false from by unfold codeIn; rw [h0]; rfl]
    go_enter Try.func34, Try.ntmps34
    go_wp2_with fail
    refine (graphInI_c _ _ _ HV.out HM.out).mono ?_
    rintro e w1 ⟨rfl, x1⟩
    have X1 := Lib.hid x1; clear x1
    go_wp2
    go_ret
    exact ⟨rfl, X1.out⟩
  · have hG := graphIn_iff.1 h0
    have hl := hG.le
    have HG := Lib.hid hG; clear hG
    cases hk : inB 0 kind 3
    · rw [show codeIn g kind s = false from by unfold codeIn; rw [hk, Bool.and_false]; rfl]
      go_enter Try.func34, Try.ntmps34
      go_wp2_with fail
      refine (graphInI_c _ _ _ HV.out HM.out).mono ?_
      rintro e w1 ⟨rfl, x1⟩
      have X1 := Lib.hid x1; clear x1
      go_wp2_with (go_at_call 75; refine (isKind_c _ _).mono ?_; rintro e w' ⟨rfl, rfl⟩)
      go_ret
      exact ⟨rfl, X1.out⟩
    · cases hs : setB s g.length
      · rw [show codeIn g kind s = false from by unfold codeIn; rw [hs, Bool.and_false]; rfl]
        go_enter Try.func34, Try.ntmps34
        go_wp2_with fail
        refine (graphInI_c _ _ _ HV.out HM.out).mono ?_
        rintro e w1 ⟨rfl, x1⟩
        have X1 := Lib.hid x1; clear x1
        go_wp2_with (first | (go_at_call 75; refine (isKind_c _ _).mono ?_; rintro e w' ⟨rfl, rfl⟩) | (go_at_call 76; refine (isSet_c _ g.length (by omega) _).mono ?_; rintro e w' ⟨rfl, rfl⟩))
        go_ret
        exact ⟨rfl, X1.out⟩
      · obtain ⟨k, rfl, hkl⟩ := setB_iff.1 hs
        obtain ⟨K, rfl⟩ : ∃ K : Nat, kind = K := ⟨kind.toNat, by have := inB_iff.1 hk; omega⟩
        have hK3 : K ≤ 3 := by have := inB_iff.1 hk; omega
        have hk4 : k ≤ 4095 := by have := pow_le_12 hl; omega
        have HKL := Lib.hid hkl
        rw [show codeIn g K k = kindN g K k from by unfold codeIn; rw [h0, hk, hs]; rfl]
        clear hkl
        go_enter Try.func34, Try.ntmps34
        go_wp2_with fail
        refine (graphInI_c _ _ _ HV.out HM.out).mono ?_
        rintro e w1 ⟨rfl, x1⟩
        have X1 := Lib.hid x1; clear x1
        go_wp2_with (first | (go_at_call 75; refine (isKind_c _ _).mono ?_; rintro e w' ⟨rfl, rfl⟩) | (go_at_call 76; refine (isSet_c _ g.length (by omega) _).mono ?_; rintro e w' ⟨rfl, rfl⟩))
        refine (bookOf_c _ g _ (HV.out.ext X1.out) HG.out).mono ?_
        rintro e w2 ⟨b, vb, vf, vs, rfl, hb, hbk, x2⟩
        have BK := Lib.hid hbk; have X2 := Lib.hid (X1.out.trans x2); clear hbk x2
        go_wp2_with fail
        refine (is_c b _ vb vf vs g K k _ BK.out (HV.out.ext X2.out) HG.out HKL.out hK3).mono ?_
        rintro e w3 ⟨rfl, x3⟩
        go_wp2
        go_ret
        exact ⟨rfl, X2.out.trans x3⟩

/-! ### The least code -/
def codeLeast (g : List Int) (kind : Int) : Int × Bool := if graphIn g && inB 0 kind 3 then loP (lo (kindN g kind.toNat) (2 ^ g.length)) else (0, false)
def leastNumber (g : List Int) (kind : Int) : Int × Bool := if (codeLeast g kind).2 then (((cnt (codeLeast g kind).1.toNat : Nat) : Int), true) else (0, false)
theorem lo_small {p : Nat → Bool} {n z : Nat} (hn : n ≤ 12) (h : lo p (2 ^ n) = some z) : z ≤ 4095 := by
  have := lo_lt _ _ h
  have := pow_le_12 hn
  omega

theorem codeLeast_cases (g : List Int) (kind : Int) : codeLeast g kind = (0, false) ∨ ∃ z : Nat, z ≤ 4095 ∧ codeLeast g kind = (((z : Nat) : Int), true) := by
  unfold codeLeast
  split
  · rename_i h
    rw [Bool.and_eq_true] at h
    have hG := graphIn_iff.1 h.1
    cases hlo : lo (kindN g kind.toNat) (2 ^ g.length) with
    | none => exact .inl rfl
    | some z => exact .inr ⟨z, lo_small hG.le hlo, rfl⟩
  · exact .inl rfl

set_option maxHeartbeats 2000000 in
theorem l2Least_c (v : Value) (g : List Int) (K : Nat) (w : World) (hv : Rd w v g) (hg : IsGraph g) (hK : K ≤ 3) :
    Calls Try.prog 104 #[v, .int .i64 K] w fun e w' => e = .returned (pairV (loP (lo (kindN g K) (2 ^ g.length)))) ∧ Ext w w' := by
  obtain ⟨a, c, rfl⟩ := hv.form
  have HV := Lib.hid hv
  have hl := hg.le
  have HG := Lib.hid hg
  obtain ⟨p, hp, hp1, hp2, hp3⟩ := pow_var g.length (by omega)
  have hp4 : p ≤ 4096 := by rw [← hp]; exact pow_le_12 hl
  have e0 : min g.length 64 = g.length := by omega
  have HP := Lib.hid hp
  clear hg hp hv
  go_enter Try.func104, Try.ntmps104
  go_wp2_with fail
  refine (l2Table_c _ g _ HV.out HG.out).mono ?_
  rintro e w1 ⟨vt, vs, rfl, ht, x1⟩
  have HT := Lib.hid ht; have X1 := Lib.hid x1; clear ht x1
  go_wp2
  go_loopw [7, 8, 9] (fun b m i wr => ∃ (k z M : Nat), k ≤ p ∧ i = .int .i64 k ∧ b = .int .i64 z ∧ m = .int .i64 M ∧ M ≤ 13 ∧ Hid (LoAt (kindN g K) g.length k z M) ∧ Hid (Ext w1 wr)) (fun _ _ i _ => p - (intOf i).toNat)
  case atStart => exact ⟨0, 0, g.length + 1, Nat.zero_le _, rfl, rfl, by go_num, by omega, .inl ⟨rfl, rfl, rfl⟩, Ext.refl _⟩
  case round =>
    obtain ⟨k, z, M, hk, rfl, rfl, rfl, hM, HL, HX⟩ := hrel
    by_cases hlt : k < p
    · have hk4 : k ≤ 4095 := by omega
      have HKP : Hid (k < 2 ^ g.length) := by unfold Hid; rw [HP.out]; exact hlt
      have HC := Lib.hid fun w => l1Count_c k (by omega) w
      have hc12 := cnt_le k
      have HBE := Lib.hid (l2In_c (.slice a g.length c) vt vs g K k wr (HV.out.ext (X1.out.trans HX.out)) (HT.out.ext HX.out) HG.out hk4 hK)
      by_cases hc : cnt k < M
      · cases hb : kindN g K k
        · have HN := Lib.hid (HL.out.skip HKP.out (.inr hb))
          rw [hb] at HBE
          clear hb
          go_wp2_with (go_at_call 70; with_reducible refine (HC.out _).mono ?_; rintro e w' ⟨rfl, rfl⟩)
          refine HBE.out.mono ?_
          rintro e w2 ⟨rfl, x2⟩
          have X2 := Lib.hid (HX.out.trans x2); clear x2
          go_wp2
          go_roundw
          case rel => exact ⟨k + 1, z, M, by omega, by go_num, rfl, rfl, hM, HN.out, X2.out⟩
          case measure => simp [intOf]; omega
        · have HN := Lib.hid (HL.out.take HKP.out hc hb)
          rw [hb] at HBE
          clear hb
          go_wp2_with (go_at_call 70; with_reducible refine (HC.out _).mono ?_; rintro e w' ⟨rfl, rfl⟩)
          refine HBE.out.mono ?_
          rintro e w2 ⟨rfl, x2⟩
          have X2 := Lib.hid (HX.out.trans x2); clear x2
          go_wp2
          go_roundw
          case rel => exact ⟨k + 1, k, cnt k, by omega, by go_num, rfl, rfl, by omega, HN.out, X2.out⟩
          case measure => simp [intOf]; omega
      · have HN := Lib.hid (HL.out.skip HKP.out (.inl hc))
        go_wp2_with (go_at_call 70; with_reducible refine (HC.out _).mono ?_; rintro e w' ⟨rfl, rfl⟩)
        go_roundw
        case rel => exact ⟨k + 1, z, M, by omega, by go_num, rfl, rfl, hM, HN.out, HX.out⟩
        case measure => simp [intOf]; omega
    · obtain rfl : k = p := by omega
      have HF := Lib.hid (HL.out.fin (by rw [HP.out]; exact Nat.le_refl _))
      go_wp2
      go_ret2
      refine ⟨?_, X1.out.trans HX.out⟩
      rw [HP.out, HF.out, show decide (M ≤ g.length) = decide ((M : Int) ≤ (g.length : Int)) from by simp]
      rfl

set_option maxHeartbeats 1000000 in
theorem codeLeastS_c (v : Value) (g : List Int) (kind : Int) (w : World) (hv : Rd w v g) (hm : g.length ≤ 1048576) :
    Calls Try.prog 69 #[v, .int .i64 kind] w fun e w' => e = .returned (pairV (codeLeast g kind)) ∧ Ext w w' := by
  obtain ⟨a, c, rfl⟩ := hv.form
  have HV := Lib.hid hv; clear hv
  have HM := Lib.hid hm
  cases h0 : graphIn g
  · rw [show codeLeast g kind = (0, false) from by unfold codeLeast; rw [h0]; rfl]
    go_enter Try.func69, Try.ntmps69
    go_wp2_with (go_at_call 63; refine (graphInS_c _ _ _ HV.out HM.out).mono ?_; rintro e w1 ⟨rfl, x1⟩)
    go_ret2
    exact ⟨rfl, by assumption⟩
  · have hG := graphIn_iff.1 h0
    have HG := Lib.hid hG; clear hG
    cases hk : inB 0 kind 3
    · rw [show codeLeast g kind = (0, false) from by unfold codeLeast; rw [hk, Bool.and_false]; rfl]
      go_enter Try.func69, Try.ntmps69
      go_wp2_with fail
      refine (graphInS_c _ _ _ HV.out HM.out).mono ?_
      rintro e w1 ⟨rfl, x1⟩
      have X1 := Lib.hid x1; clear x1
      go_wp2_with (go_at_call 103; refine (l2Kind_c _ _).mono ?_; rintro e w' ⟨rfl, rfl⟩)
      go_ret2
      exact ⟨rfl, X1.out⟩
    · obtain ⟨K, rfl⟩ : ∃ K : Nat, kind = K := ⟨kind.toNat, by have := inB_iff.1 hk; omega⟩
      have hK3 : K ≤ 3 := by have := inB_iff.1 hk; omega
      have HR : Hid (codeLeast g K = loP (lo (kindN g K) (2 ^ g.length))) := by unfold Hid codeLeast; rw [h0, hk]; rfl
      go_enter Try.func69, Try.ntmps69
      go_wp2_with fail
      refine (graphInS_c _ _ _ HV.out HM.out).mono ?_
      rintro e w1 ⟨rfl, x1⟩
      have X1 := Lib.hid x1; clear x1
      go_wp2_with (go_at_call 103; refine (l2Kind_c _ _).mono ?_; rintro e w' ⟨rfl, rfl⟩)
      refine (l2Least_c _ g K _ (HV.out.ext X1.out) HG.out hK3).mono ?_
      rintro e w2 ⟨rfl, x2⟩
      rw [← HR.out]
      unfold pairV
      go_wp2
      go_ret2
      exact ⟨rfl, X1.out.trans x2⟩

theorem codeLeast1_enters : ∀ args w, (callFunc 97 args).run Try.prog w = .ok (.enter 97 args) w :=
  Go.Proofs.enters_of Try.func97 (by kernel_rfl) rfl
set_option maxHeartbeats 1000000 in
theorem codeLeast1_c (s K b bc tc : Nat) (v vb vf : Value) (vs : List Value) (g : List Int) (w : World) (hb : IsBook w b g v vb vf vs) (hv : Rd w v g) (hg : IsGraph g) (hs : s < 2 ^ g.length) (hK : K ≤ 3)
    (h1 : w.cell? ⟨bc, 0, none⟩ = some (.pointer (some ⟨b, 0, none⟩))) (h2 : w.cell? ⟨tc, 0, none⟩ = some (.int .i64 K)) :
    Calls Try.prog 97 #[.int .i64 s, .pointer (some ⟨bc, 0, none⟩), .pointer (some ⟨tc, 0, none⟩)] w fun e w' => e = .returned (.bool (kindN g K s)) ∧ Ext w w' := by
  have HB := Lib.hid (is_c b v vb vf vs g K s w hb hv hg hs hK)
  clear hb hg hv hs
  go_enter Try.func97, Try.ntmps97
  go_wp2_with fail
  refine HB.out.mono ?_
  rintro e w1 ⟨rfl, x1⟩
  go_wp2
  go_ret
  exact ⟨rfl, x1⟩

set_option maxRecDepth 100000 in
set_option maxHeartbeats 2000000 in
theorem codeLeastI_c (v : Value) (g : List Int) (t : Int) (w : World) (hv : Rd w v g) (hm : g.length ≤ 1048576) :
    Calls Try.prog 56 #[v, .int .i64 t] w fun e w' => e = .returned (pairV (codeLeast g t)) ∧ Ext w w' := by
  obtain ⟨a, c, rfl⟩ := hv.form
  obtain ⟨W, hW⟩ : ∃ W, W = w.alloc (.cells #[.int .i64 t] 3) := ⟨_, rfl⟩
  have hx0 : Ext w W := by rw [hW]; exact (Ext.refl _).alloc _
  have v0 : Var W w.heap.size (.int .i64 t) := by rw [hW]; exact Var.new _ _ _
  have HW := Lib.hid hW; have HX0 := Lib.hid hx0; have V0 := Lib.hid v0; have HV := Lib.hid (hv.ext hx0)
  have HM := Lib.hid hm
  clear hv hW hx0 v0
  cases h0 : graphIn g
  · rw [show codeLeast g t = (0, false) from by unfold codeLeast; rw [h0]; rfl]
    go_enter Try.func56, Try.ntmps56
    go_wp2_with fail
    rw [← HW.out]
    refine (graphInI_c _ _ _ HV.out HM.out).mono ?_
    rintro e w1 ⟨rfl, x1⟩
    have X1 := Lib.hid (HX0.out.trans x1); clear x1
    go_wp2
    go_ret2
    exact ⟨rfl, X1.out⟩
  · cases ht : inB 0 t 3
    · rw [show codeLeast g t = (0, false) from by unfold codeLeast; rw [ht, Bool.and_false]; rfl]
      go_enter Try.func56, Try.ntmps56
      go_wp2_with fail
      rw [← HW.out]
      refine (graphInI_c _ _ _ HV.out HM.out).mono ?_
      rintro e w1 ⟨rfl, x1⟩
      have X1 := Lib.hid (HX0.out.trans x1)
      have c0 := (V0.out.ext x1).cell
      clear x1
      go_wp2_with (go_at_call 75; refine (isKind_c _ _).mono ?_; rintro e w' ⟨rfl, rfl⟩)
      go_ret2
      exact ⟨rfl, X1.out⟩
    · have hG := graphIn_iff.1 h0
      have hl := hG.le
      have hl1 := hG.pos
      have HG := Lib.hid hG
      obtain ⟨T, rfl⟩ : ∃ T : Nat, t = T := ⟨t.toNat, by have := inB_iff.1 ht; omega⟩
      have hT4 : T ≤ 3 := by have := inB_iff.1 ht; omega
      obtain ⟨p, hp⟩ : ∃ p : Nat, 2 ^ g.length = p := ⟨_, rfl⟩
      have hp4 : p ≤ 4096 := by rw [← hp]; exact pow_le_12 hl
      have hp5 : 1 ≤ p := by rw [← hp]; exact Nat.two_pow_pos _
      have HR : Hid (codeLeast g T = loP (lo (kindN g T) p)) := by unfold Hid codeLeast; rw [h0, ht, hp]; rfl
      have HP := Lib.hid hp
      have HAL := Lib.hid fun w hw => all_c (.slice a g.length c) g w hw hl
      rw [hp] at HAL
      clear hG hp
      go_enter Try.func56, Try.ntmps56
      go_wp2_with fail
      rw [← HW.out]
      refine (graphInI_c _ _ _ HV.out HM.out).mono ?_
      rintro e w1 ⟨rfl, x1⟩
      have X1 := Lib.hid x1
      have c0 := (V0.out.ext x1).cell
      clear x1
      go_wp2_with (go_at_call 75; refine (isKind_c _ _).mono ?_; rintro e w' ⟨rfl, rfl⟩)
      refine (bookOf_c _ g _ (HV.out.ext X1.out) HG.out).mono ?_
      rintro e w2 ⟨b, vb, vf, vs, rfl, hb, hbk, x2⟩
      have BK := Lib.hid hbk; have X2 := Lib.hid (X1.out.trans x2); clear hbk x2 c0
      obtain ⟨W3, hW3⟩ : ∃ V, V = w2.alloc (.cells #[.pointer (some ⟨b, 0, none⟩)] 55) := ⟨_, rfl⟩
      have hx3 : Ext w2 W3 := by rw [hW3]; exact (Ext.refl _).alloc _
      have cg := (BK.out.ext hx3).graph
      have vb3 : Var W3 w2.heap.size (.pointer (some ⟨b, 0, none⟩)) := by rw [hW3]; exact Var.new _ _ _
      have HB3 := Lib.hid (BK.out.ext hx3); have HX3 := Lib.hid (X2.out.trans hx3); have VB3 := Lib.hid vb3; have VT3 := Lib.hid (V0.out.ext (X2.out.trans hx3))
      have HW3 := Lib.hid hW3
      rw [hW3] at cg
      clear hW3 hx3 vb3
      go_wp2_with fail
      rw [← HW3.out]
      refine (HAL.out _ (HV.out.ext HX3.out)).mono ?_
      rintro e w' ⟨rfl, rfl⟩
      go_wp2_with fail
      have HF : ∀ k, k < p → ∀ w', Ext W3 w' → Calls Try.prog 97 (#[.int .i64 (k : Nat)] ++ #[.pointer (some ⟨w2.heap.size, 0, none⟩), .pointer (some ⟨w.heap.size, 0, none⟩)]) w' fun e w'' => e = .returned (.bool (kindN g T k)) ∧ Ext w' w'' := fun k hk w' hx => by
        rw [show (#[.int .i64 (k : Nat)] ++ #[.pointer (some ⟨w2.heap.size, 0, none⟩), .pointer (some ⟨w.heap.size, 0, none⟩)] : Array Value) = #[.int .i64 (k : Nat), .pointer (some ⟨w2.heap.size, 0, none⟩), .pointer (some ⟨w.heap.size, 0, none⟩)] from by simp]
        exact codeLeast1_c k T b w2.heap.size w.heap.size _ vb vf vs g w' (HB3.out.ext hx) ((HV.out.ext HX3.out).ext hx) HG.out (by rw [HP.out]; exact hk) hT4 (VB3.out.ext hx).cell (VT3.out.ext hx).cell
      refine (least_c p 97 #[.pointer (some ⟨w2.heap.size, 0, none⟩), .pointer (some ⟨w.heap.size, 0, none⟩)] (kindN g T) W3 hp5 hp4 codeLeast1_enters HF).mono ?_
      rintro e w4 ⟨rfl, x4⟩
      rw [← HR.out]
      unfold pairV
      have X4 := Lib.hid (HX0.out.trans (HX3.out.trans x4)); clear x4
      go_wp2
      go_ret2
      exact ⟨rfl, X4.out⟩

set_option maxHeartbeats 1000000 in
theorem leastNumberS_c (v : Value) (g : List Int) (kind : Int) (w : World) (hv : Rd w v g) (hm : g.length ≤ 1048576) :
    Calls Try.prog 27 #[v, .int .i64 kind] w fun e w' => e = .returned (pairV (leastNumber g kind)) ∧ Ext w w' := by
  obtain ⟨a, c, rfl⟩ := hv.form
  have HC := Lib.hid (codeLeastS_c _ g kind w hv hm)
  have HF : Hid (codeLeast g kind = (0, false) ∨ ∃ z : Nat, z ≤ 4095 ∧ codeLeast g kind = (((z : Nat) : Int), true)) := codeLeast_cases g kind
  clear hv hm
  rcases HF.out with h | ⟨z, hz, h⟩
  · rw [h] at HC
    rw [show leastNumber g kind = (0, false) from by unfold leastNumber; rw [h]; rfl]
    clear HF h
    go_enter Try.func27, Try.ntmps27
    go_wp2_with fail
    refine HC.out.mono ?_
    rintro e w1 ⟨rfl, x1⟩
    unfold pairV
    have X1 := Lib.hid x1; clear x1
    go_wp2
    go_ret2
    exact ⟨rfl, X1.out⟩
  · rw [h] at HC
    rw [show leastNumber g kind = (((cnt z : Nat) : Int), true) from by unfold leastNumber; rw [h]; rfl]
    clear HF h
    go_enter Try.func27, Try.ntmps27
    go_wp2_with fail
    refine HC.out.mono ?_
    rintro e w1 ⟨rfl, x1⟩
    unfold pairV
    have X1 := Lib.hid x1; clear x1
    go_wp2_with (go_at_call 70; refine (l1Count_c z (by omega) _).mono ?_; rintro e w' ⟨rfl, rfl⟩)
    go_ret2
    exact ⟨rfl, X1.out⟩

set_option maxHeartbeats 1000000 in
theorem leastNumberI_c (v : Value) (g : List Int) (kind : Int) (w : World) (hv : Rd w v g) (hm : g.length ≤ 1048576) :
    Calls Try.prog 20 #[v, .int .i64 kind] w fun e w' => e = .returned (pairV (leastNumber g kind)) ∧ Ext w w' := by
  obtain ⟨a, c, rfl⟩ := hv.form
  have HC := Lib.hid (codeLeastI_c _ g kind w hv hm)
  have HF : Hid (codeLeast g kind = (0, false) ∨ ∃ z : Nat, z ≤ 4095 ∧ codeLeast g kind = (((z : Nat) : Int), true)) := codeLeast_cases g kind
  clear hv hm
  rcases HF.out with h | ⟨z, hz, h⟩
  · rw [h] at HC
    rw [show leastNumber g kind = (0, false) from by unfold leastNumber; rw [h]; rfl]
    clear HF h
    go_enter Try.func20, Try.ntmps20
    go_wp2_with fail
    refine HC.out.mono ?_
    rintro e w1 ⟨rfl, x1⟩
    unfold pairV
    have X1 := Lib.hid x1; clear x1
    have HS := Lib.hid (sizeC 0 (by omega))
    go_wp2_with (go_at_call 57; refine (HS.out _).mono ?_; rintro e w' ⟨rfl, rfl⟩)
    go_ret2
    exact ⟨rfl, X1.out⟩
  · rw [h] at HC
    rw [show leastNumber g kind = (((cnt z : Nat) : Int), true) from by unfold leastNumber; rw [h]; rfl]
    clear HF h
    go_enter Try.func20, Try.ntmps20
    go_wp2_with fail
    refine HC.out.mono ?_
    rintro e w1 ⟨rfl, x1⟩
    unfold pairV
    have X1 := Lib.hid x1; clear x1
    have HS := Lib.hid (sizeC z hz)
    go_wp2_with (go_at_call 57; refine (HS.out _).mono ?_; rintro e w' ⟨rfl, rfl⟩)
    go_ret2
    exact ⟨rfl, X1.out⟩
end Go.Proofs.Ytpmammklklkheaa

/- SensorIn: the reference and the program compute the same plain function. The condition: the list has at most 2^20 numbers. -/
namespace Go.Proofs.Ytpmammklklkheaa
open Go.RowKit
open BigFrame

def sensorIn (g : List Int) (s t : Int) : Bool := fits g s && inB 0 t 4 && bearsN g s.toNat t.toNat

set_option maxHeartbeats 1000000 in
theorem sensorInS_c (v : Value) (g : List Int) (s t : Int) (w : World) (hv : Rd w v g) (hm : g.length ≤ 1048576) :
    Calls Try.prog 23 #[v, .int .i64 s, .int .i64 t] w fun e w' => e = .returned (.bool (sensorIn g s t)) ∧ Ext w w' := by
  obtain ⟨a, c, rfl⟩ := hv.form
  have HV := Lib.hid hv; clear hv
  have HM := Lib.hid hm
  cases h0 : graphIn g
  · rw [show sensorIn g s t = false from by unfold sensorIn fits; rw [h0]; rfl]
    go_enter Try.func23, Try.ntmps23
    go_wp2_with (go_at_call 63; refine (graphInS_c _ _ _ HV.out HM.out).mono ?_; rintro e w1 ⟨rfl, x1⟩)
    go_ret
    exact ⟨rfl, by assumption⟩
  · have hG := graphIn_iff.1 h0
    have hl := hG.le
    have HG := Lib.hid hG; clear hG
    cases hs : setB s g.length
    · rw [show sensorIn g s t = false from by unfold sensorIn fits; rw [h0, hs]; rfl]
      go_enter Try.func23, Try.ntmps23
      go_wp2_with fail
      refine (graphInS_c _ _ _ HV.out HM.out).mono ?_
      rintro e w1 ⟨rfl, x1⟩
      have X1 := Lib.hid x1; clear x1
      go_wp2_with (go_at_call 64; refine (l2Set_c _ g _ _ (HV.out.ext X1.out) (by omega)).mono ?_; rintro e w' ⟨rfl, rfl⟩)
      go_ret
      exact ⟨rfl, X1.out⟩
    · cases ht : inB 0 t 4
      · rw [show sensorIn g s t = false from by unfold sensorIn fits; rw [h0, hs, ht]; rfl]
        go_enter Try.func23, Try.ntmps23
        go_wp2_with fail
        refine (graphInS_c _ _ _ HV.out HM.out).mono ?_
        rintro e w1 ⟨rfl, x1⟩
        have X1 := Lib.hid x1; clear x1
        go_wp2_with (first | (go_at_call 64; refine (l2Set_c _ g _ _ (HV.out.ext X1.out) (by omega)).mono ?_; rintro e w' ⟨rfl, rfl⟩) | (go_at_call 65; refine (l6In_c _ _ _ _).mono ?_; rintro e w' ⟨rfl, rfl⟩))
        go_ret
        exact ⟨rfl, X1.out⟩
      · obtain ⟨k, rfl, hk⟩ := setB_iff.1 hs
        have hk4 : k ≤ 4095 := by have := pow_le_12 hl; omega
        obtain ⟨y, rfl⟩ : ∃ y : Nat, t = y := ⟨t.toNat, by have := inB_iff.1 ht; omega⟩
        have hy : y ≤ 4 := by have := inB_iff.1 ht; omega
        rw [show sensorIn g k y = bearsN g k y from by unfold sensorIn fits; rw [h0, hs, ht]; rfl]
        clear hk
        go_enter Try.func23, Try.ntmps23
        go_wp2_with fail
        refine (graphInS_c _ _ _ HV.out HM.out).mono ?_
        rintro e w1 ⟨rfl, x1⟩
        have X1 := Lib.hid x1; clear x1
        go_wp2_with (first | (go_at_call 64; refine (l2Set_c _ g _ _ (HV.out.ext X1.out) (by omega)).mono ?_; rintro e w' ⟨rfl, rfl⟩) | (go_at_call 65; refine (l6In_c _ _ _ _).mono ?_; rintro e w' ⟨rfl, rfl⟩) | (go_at_call 66; refine (l5Bears_c _ g k y _ (HV.out.ext X1.out) HG.out hk4 hy).mono ?_; rintro e w2 ⟨rfl, x2⟩))
        go_ret
        exact ⟨rfl, X1.out.trans (by assumption)⟩

set_option maxHeartbeats 1000000 in
theorem sensorInI_c (v : Value) (g : List Int) (s t : Int) (w : World) (hv : Rd w v g) (hm : g.length ≤ 1048576) :
    Calls Try.prog 22 #[v, .int .i64 s, .int .i64 t] w fun e w' => e = .returned (.bool (sensorIn g s t)) ∧ Ext w w' := by
  obtain ⟨a, c, rfl⟩ := hv.form
  have HV := Lib.hid hv; clear hv
  have HM := Lib.hid hm
  cases h0 : fits g s
  · rw [show sensorIn g s t = false from by unfold sensorIn; rw [h0]; rfl]
    go_enter Try.func22, Try.ntmps22
    go_wp2_with (go_at_call 52; refine (codeFits_c _ _ _ _ HV.out HM.out).mono ?_; rintro e w1 ⟨rfl, x1⟩)
    go_ret
    exact ⟨rfl, by assumption⟩
  · cases ht : inB 0 t 4
    · rw [show sensorIn g s t = false from by unfold sensorIn; rw [h0, ht]; rfl]
      go_enter Try.func22, Try.ntmps22
      go_wp2_with (first | (go_at_call 52; refine (codeFits_c _ _ _ _ HV.out HM.out).mono ?_; rintro e w1 ⟨rfl, x1⟩) | (go_at_call 60; refine (isBorne_c _ _).mono ?_; rintro e w' ⟨rfl, rfl⟩))
      go_ret
      exact ⟨rfl, by assumption⟩
    · obtain ⟨k, rfl, hG, hk⟩ := fits_iff.1 h0
      have hl := hG.le
      have HG := Lib.hid hG; clear hG
      have hk4 : k ≤ 4095 := by have := pow_le_12 hl; omega
      obtain ⟨y, rfl⟩ : ∃ y : Nat, t = y := ⟨t.toNat, by have := inB_iff.1 ht; omega⟩
      have hy : y ≤ 4 := by have := inB_iff.1 ht; omega
      rw [show sensorIn g k y = bearsN g k y from by unfold sensorIn; rw [h0, ht]; rfl]
      clear hk
      go_enter Try.func22, Try.ntmps22
      go_wp2_with fail
      refine (codeFits_c _ _ _ _ HV.out HM.out).mono ?_
      rintro e w1 ⟨rfl, x1⟩
      have X1 := Lib.hid x1; clear x1
      go_wp2_with (go_at_call 60; refine (isBorne_c _ _).mono ?_; rintro e w' ⟨rfl, rfl⟩)
      refine (bookOf_c _ g _ (HV.out.ext X1.out) HG.out).mono ?_
      rintro e w2 ⟨b, vb, vf, vs, rfl, -, hb, x2⟩
      have HB := Lib.hid hb; have X2 := Lib.hid (X1.out.trans x2); clear hb x2
      go_wp2_with (go_at_call 62; refine (bears_c b _ _ _ _ g k y _ HB.out HG.out hk4 hy).mono ?_; rintro e w3 ⟨rfl, x3⟩)
      go_ret
      exact ⟨rfl, X2.out.trans (by assumption)⟩
end Go.Proofs.Ytpmammklklkheaa

/- SensorFind: the reference and the program compute the same plain function. The condition: the list has at most 2^20 numbers. -/
namespace Go.Proofs.Ytpmammklklkheaa
open Go.RowKit
open BigFrame

def nearP (g : List Int) (s t al i : Nat) : Bool := decide (cnt (bxor (markN g s i) al) ≤ t)
def sensorFind (g : List Int) (s t al : Int) : Int × Bool :=
  if sensorIn g s t && decide (0 ≤ al) && (without al.toNat s.toNat == 0) then if cnt al.toNat ≤ t.toNat then (-1, true) else leastP (nearP g s.toNat t.toNat al.toNat) g.length else (0, false)
theorem sensorIn_iff {g : List Int} {s t : Int} (h : sensorIn g s t = true) : ∃ k y : Nat, s = k ∧ t = y ∧ IsGraph g ∧ k ≤ 4095 ∧ y ≤ 4 := by
  unfold sensorIn at h
  simp only [Bool.and_eq_true] at h
  obtain ⟨k, rfl, hG, hk⟩ := fits_iff.1 h.1.1
  have ht := inB_iff.1 h.1.2
  exact ⟨k, t.toNat, rfl, by omega, hG, by have := pow_le_12 hG.le; omega, by omega⟩
theorem sub_le {a b : Nat} (h : without a b = 0) : a ≤ b := by
  have e : a = band a b := by
    apply Nat.eq_of_testBit_eq
    intro i
    have h1 := congrArg (fun n => n.testBit i) h
    simp only [testBit_without, Nat.zero_testBit] at h1
    rw [testBit_band]
    cases ha : a.testBit i
    · rfl
    · rw [ha, Bool.true_and] at h1
      cases hb : b.testBit i
      · rw [hb] at h1; cases h1
      · rfl
  rw [e]; exact band_le _ _

set_option maxRecDepth 100000 in
set_option maxHeartbeats 2000000 in
theorem sensorFindS_c (v : Value) (g : List Int) (s t al : Int) (w : World) (hal : al < 9223372036854775808) (hv : Rd w v g) (hm : g.length ≤ 1048576) :
    Calls Try.prog 36 #[v, .int .i64 s, .int .i64 t, .int .i64 al] w fun e w' => e = .returned (pairV (sensorFind g s t al)) ∧ Ext w w' := by
  obtain ⟨a, c, rfl⟩ := hv.form
  have HV := Lib.hid hv; clear hv
  have HM := Lib.hid hm
  have HC := Lib.hid (sensorInS_c (.slice a g.length c) g s t w HV.out HM.out)
  cases h0 : sensorIn g s t
  · rw [show sensorFind g s t al = (0, false) from by unfold sensorFind; rw [h0]; rfl]
    go_enter Try.func36, Try.ntmps36
    go_wp2_with (go_at_call 23; refine HC.out.mono ?_; rintro e w1 ⟨rfl, x1⟩)
    go_ret2
    exact ⟨rfl, by assumption⟩
  · obtain ⟨k, y, rfl, rfl, hG, hk4, hy⟩ := sensorIn_iff h0
    have hl := hG.le
    have HG := Lib.hid hG; clear hG
    have H0 := Lib.hid h0
    by_cases hn : al < 0
    · rw [show sensorFind g k y al = (0, false) from by unfold sensorFind; rw [h0, decide_eq_false (by omega)]; rfl]
      go_enter Try.func36, Try.ntmps36
      go_wp2_with (go_at_call 23; refine HC.out.mono ?_; rintro e w1 ⟨rfl, x1⟩)
      go_ret2
      exact ⟨rfl, by assumption⟩
    · obtain ⟨A, rfl⟩ : ∃ A : Nat, al = A := ⟨al.toNat, by omega⟩
      have hA63 : A < 2 ^ 63 := by omega
      have e1 := bits_andNot A k (by omega) (by omega)
      by_cases hz : without A k = 0
      · have hA4 : A ≤ 4095 := Nat.le_trans (sub_le hz) hk4
        have HZ := Lib.hid hz
        have HE : Hid (sensorFind g k y A = if cnt A ≤ y then (-1, true) else leastP (nearP g k y A) g.length) := by
          unfold sensorFind Hid
          rw [h0, decide_eq_true (by omega)]
          simp [hz]
        have e1' : bits .andNot .i64 (A : Int) (k : Int) = 0 := by rw [e1, hz]; rfl
        have hA0 : ((A : Int) < 0) = False := by simp
        have hal' : (A : Int) ≤ 4095 := by omega
        clear e1 hz hA63 hn hal
        by_cases hc : cnt A ≤ y
        · rw [HE.out, if_pos hc]
          go_enter Try.func36, Try.ntmps36
          go_wp2_with fail
          refine HC.out.mono ?_
          rintro e w1 ⟨rfl, x1⟩
          have X1 := Lib.hid x1; clear x1
          go_wp2_with (go_at_call 70; refine (l1Count_c A (by omega) _).mono ?_; rintro e w' ⟨rfl, rfl⟩)
          go_ret2
          exact ⟨rfl, X1.out⟩
        · rw [HE.out, if_neg hc]
          go_enter Try.func36, Try.ntmps36
          go_wp2_with fail
          refine HC.out.mono ?_
          rintro e w1 ⟨rfl, x1⟩
          have X1 := Lib.hid x1; clear x1
          go_wp2_with (go_at_call 70; refine (l1Count_c A (by omega) _).mono ?_; rintro e w' ⟨rfl, rfl⟩)
          refine (l2Marks_c _ g k _ (HV.out.ext X1.out) HG.out hk4).mono ?_
          rintro e w2 ⟨vm, rfl, om, x2⟩
          have X2 := Lib.hid (X1.out.trans x2); clear x2
          obtain ⟨gm, cm, rfl⟩ := om.form' (marksTo_length g k g.length)
          have OM := Lib.hid om.rd; clear om
          go_wp2
          go_loop [11] (fun i => ∃ j : Nat, j ≤ g.length ∧ i = .int .i64 j ∧ Hid (∀ m, m < j → nearP g k y A m = false)) (fun i => g.length - (intOf i).toNat)
          case atStart => exact ⟨0, Nat.zero_le _, rfl, fun m hm => absurd hm (Nat.not_lt_zero m)⟩
          case round =>
            obtain ⟨j, hj, rfl, HJ⟩ := hrel
            by_cases hlt : j < g.length
            · obtain ⟨bb, o, rfl, -, -, hcc⟩ := OM.out.atI hlt
              have c1 := hcc _ (Ext.refl _)
              rw [show getI (marksTo g k g.length) j = ((markN g k j : Nat) : Int) from marksTo_get _ _ _ _ hlt] at c1
              clear hcc
              have m4 := markN_small HG.out hlt k
              have e2 := bits_xor (markN g k j) A (by omega) (by omega)
              have x4 := bxor_small m4 hA4
              by_cases hy2 : cnt (bxor (markN g k j) A) ≤ y
              · have HY : Hid (nearP g k y A j = true) := decide_eq_true hy2
                go_wp2_with (go_at_call 70; refine (l1Count_c _ (by omega) _).mono ?_; rintro e w' ⟨rfl, rfl⟩)
                go_ret2
                exact ⟨ret_pair' (leastP_some hlt HJ.out HY.out).symm, X2.out⟩
              · have HY : Hid (nearP g k y A j = false) := decide_eq_false hy2
                go_wp2_with (go_at_call 70; refine (l1Count_c _ (by omega) _).mono ?_; rintro e w' ⟨rfl, rfl⟩)
                go_round
                case rel => exact ⟨j + 1, by omega, by go_num, fun m hm => by
                  by_cases h : m = j
                  · subst h; exact HY.out
                  · exact HJ.out m (by omega)⟩
                case measure => simp [intOf]; omega
            · obtain rfl : j = g.length := by omega
              go_wp2
              go_ret2
              exact ⟨ret_pair' (leastP_none HJ.out).symm, X2.out⟩
      · have hz' : ((without A k : Nat) : Int) ≠ 0 := by omega
        have hz2 : (((without A k : Nat) : Int) != 0) = true := by simp; omega
        rw [show sensorFind g k y A = (0, false) from by unfold sensorFind; rw [h0, decide_eq_true (by omega)]; simp [hz]]
        clear hz
        go_enter Try.func36, Try.ntmps36
        go_wp2_with (go_at_call 23; refine HC.out.mono ?_; rintro e w1 ⟨rfl, x1⟩)
        go_ret2
        exact ⟨rfl, by assumption⟩

set_option maxRecDepth 100000 in
set_option maxHeartbeats 2000000 in
theorem sensorFindI_c (v : Value) (g : List Int) (s t al : Int) (w : World) (hal : al < 9223372036854775808) (hv : Rd w v g) (hm : g.length ≤ 1048576) :
    Calls Try.prog 25 #[v, .int .i64 s, .int .i64 t, .int .i64 al] w fun e w' => e = .returned (pairV (sensorFind g s t al)) ∧ Ext w w' := by
  obtain ⟨a, c, rfl⟩ := hv.form
  have HV := Lib.hid hv; clear hv
  have HM := Lib.hid hm
  have HC := Lib.hid (sensorInI_c (.slice a g.length c) g s t w HV.out HM.out)
  cases h0 : sensorIn g s t
  · rw [show sensorFind g s t al = (0, false) from by unfold sensorFind; rw [h0]; rfl]
    go_enter Try.func25, Try.ntmps25
    go_wp2_with (go_at_call 22; refine HC.out.mono ?_; rintro e w1 ⟨rfl, x1⟩)
    go_ret2
    exact ⟨rfl, by assumption⟩
  · obtain ⟨k, y, rfl, rfl, hG, hk4, hy⟩ := sensorIn_iff h0
    have hl := hG.le
    have HG := Lib.hid hG; clear hG
    have H0 := Lib.hid h0
    by_cases hn : al < 0
    · rw [show sensorFind g k y al = (0, false) from by unfold sensorFind; rw [h0, decide_eq_false (by omega)]; rfl]
      go_enter Try.func25, Try.ntmps25
      go_wp2_with (go_at_call 22; refine HC.out.mono ?_; rintro e w1 ⟨rfl, x1⟩)
      go_ret2
      exact ⟨rfl, by assumption⟩
    · obtain ⟨A, rfl⟩ : ∃ A : Nat, al = A := ⟨al.toNat, by omega⟩
      have hA63 : A < 2 ^ 63 := by omega
      have e1 := bits_andNot A k (by omega) (by omega)
      by_cases hz : without A k = 0
      · have hA4 : A ≤ 4095 := Nat.le_trans (sub_le hz) hk4
        have HZ := Lib.hid hz
        have HE : Hid (sensorFind g k y A = if cnt A ≤ y then (-1, true) else leastP (nearP g k y A) g.length) := by
          unfold sensorFind Hid
          rw [h0, decide_eq_true (by omega)]
          simp [hz]
        have e1' : bits .andNot .i64 (A : Int) (k : Int) = 0 := by rw [e1, hz]; rfl
        have hA0 : ((A : Int) < 0) = False := by simp
        have hal' : (A : Int) ≤ 4095 := by omega
        clear e1 hz hA63 hn hal
        by_cases hc : cnt A ≤ y
        · rw [HE.out, if_pos hc]
          go_enter Try.func25, Try.ntmps25
          go_wp2_with fail
          refine HC.out.mono ?_
          rintro e w1 ⟨rfl, x1⟩
          have X1 := Lib.hid x1; clear x1
          go_wp2_with (go_at_call 57; refine (sizeC A (by omega) _).mono ?_; rintro e w' ⟨rfl, rfl⟩)
          go_ret2
          exact ⟨rfl, X1.out⟩
        · rw [HE.out, if_neg hc]
          go_enter Try.func25, Try.ntmps25
          go_wp2_with fail
          refine HC.out.mono ?_
          rintro e w1 ⟨rfl, x1⟩
          have X1 := Lib.hid x1; clear x1
          go_wp2_with (go_at_call 57; refine (sizeC A (by omega) _).mono ?_; rintro e w' ⟨rfl, rfl⟩)
          refine (bookOf_c _ g _ (HV.out.ext X1.out) HG.out).mono ?_
          rintro e wb ⟨b, vb, vf, vs, rfl, -, hb, xb⟩
          have HB := Lib.hid hb; have XB := Lib.hid xb; clear hb xb
          go_wp2_with fail
          refine (marks_c b _ _ _ _ g k _ HB.out HG.out hk4).mono ?_
          rintro e w2 ⟨vm, rfl, om, x2'⟩
          have x2 := XB.out.trans x2'
          clear x2'
          have X2 := Lib.hid (X1.out.trans x2); clear x2
          obtain ⟨gm, cm, rfl⟩ := om.form' (marksTo_length g k g.length)
          have OM := Lib.hid om.rd; clear om
          go_wp2
          go_loop [36] (fun i => ∃ j : Nat, j ≤ g.length ∧ i = .int .i64 j ∧ Hid (∀ m, m < j → nearP g k y A m = false)) (fun i => g.length - (intOf i).toNat)
          case atStart => exact ⟨0, Nat.zero_le _, rfl, fun m hm => absurd hm (Nat.not_lt_zero m)⟩
          case round =>
            obtain ⟨j, hj, rfl, HJ⟩ := hrel
            by_cases hlt : j < g.length
            · obtain ⟨bb, o, rfl, -, -, hcc⟩ := OM.out.atI hlt
              have c1 := hcc _ (Ext.refl _)
              rw [show getI (marksTo g k g.length) j = ((markN g k j : Nat) : Int) from marksTo_get _ _ _ _ hlt] at c1
              clear hcc
              have m4 := markN_small HG.out hlt k
              have e2 := bits_xor (markN g k j) A (by omega) (by omega)
              have x4 := bxor_small m4 hA4
              by_cases hy2 : cnt (bxor (markN g k j) A) ≤ y
              · have HY : Hid (nearP g k y A j = true) := decide_eq_true hy2
                go_wp2_with (go_at_call 57; refine (sizeC _ (by omega) _).mono ?_; rintro e w' ⟨rfl, rfl⟩)
                go_ret2
                exact ⟨ret_pair' (leastP_some hlt HJ.out HY.out).symm, X2.out⟩
              · have HY : Hid (nearP g k y A j = false) := decide_eq_false hy2
                go_wp2_with (go_at_call 57; refine (sizeC _ (by omega) _).mono ?_; rintro e w' ⟨rfl, rfl⟩)
                go_round
                case rel => exact ⟨j + 1, by omega, by go_num, fun m hm => by
                  by_cases h : m = j
                  · subst h; exact HY.out
                  · exact HJ.out m (by omega)⟩
                case measure => simp [intOf]; omega
            · obtain rfl : j = g.length := by omega
              go_wp2
              go_ret2
              exact ⟨ret_pair' (leastP_none HJ.out).symm, X2.out⟩
      · have hz' : ((without A k : Nat) : Int) ≠ 0 := by omega
        have hz2 : (((without A k : Nat) : Int) != 0) = true := by simp; omega
        rw [show sensorFind g k y A = (0, false) from by unfold sensorFind; rw [h0, decide_eq_true (by omega)]; simp [hz]]
        clear hz
        go_enter Try.func25, Try.ntmps25
        go_wp2_with (go_at_call 22; refine HC.out.mono ?_; rintro e w1 ⟨rfl, x1⟩)
        go_ret2
        exact ⟨rfl, by assumption⟩
end Go.Proofs.Ytpmammklklkheaa
