/- What the walks of this seat rest on, one part: plain facts, and contracts of the functions that they reach. Each states its own condition. -/
import Derived.Test.YtkmfmhckpfomeaaGreatDoorB13
import Derived.Test.YtkmfmhckpfomeaaGreatDoorB5
import Derived.Test.YtkmfmhckpfomeaaGreatDoorB12
import Derived.Test.YtkmfmhckpfomeaaGreatDoorB6
import Derived.Test.YtkmfmhckpfomeaaGreatDoorB8
import Derived.Test.YtkmfmhckpfomeaaGreatDoorB11
set_option linter.all false
set_option linter.unusedSimpArgs false
set_option linter.unusedVariables false
/- Codes, least codes, their numbers: the reference and the program compute the same plain functions. The condition: the list has at most 2^20 numbers. -/
namespace Go.Proofs.YtkmfmhckpfomeaaGreatDoor
open Go.RowKit
open BigFrame

set_option maxHeartbeats 1000000 in
theorem codeInS_c (v : Value) (g : List Int) (kind s : Int) (w : World) (hv : Rd w v g) (hm : g.length ≤ 1048576) :
    Calls Tryz.prog 122 #[v, .int .i64 kind, .int .i64 s] w fun e w' => e = .returned (.bool (codeIn g kind s)) ∧ Ext w w' := by
  obtain ⟨a, c, rfl⟩ := hv.form
  have HV := Lib.hid hv; clear hv
  have HM := Lib.hid hm
  cases h0 : graphIn g
  · rw [show codeIn g kind s = false from by unfold codeIn; rw [h0]; rfl]
    go_enter Tryz.func122, Tryz.ntmps122
    go_wp2_with fail
    refine (graphInS_c _ _ _ HV.out HM.out).mono ?_
    rintro e w1 ⟨rfl, x1⟩
    have X1 := Lib.hid x1; clear x1
    go_wp2
    go_ret
    exact ⟨rfl, X1.out⟩
  · have hG := graphIn_iff.1 h0
    have hl := hG.le
    have HG := Lib.hid hG; clear hG
    cases hk : inB 0 kind 3
    · rw [show codeIn g kind s = false from by unfold codeIn; rw [hk, Bool.and_false]; rfl]
      go_enter Tryz.func122, Tryz.ntmps122
      go_wp2_with fail
      refine (graphInS_c _ _ _ HV.out HM.out).mono ?_
      rintro e w1 ⟨rfl, x1⟩
      have X1 := Lib.hid x1; clear x1
      go_wp2_with (go_at_call 159; refine (l2Kind_c _ _).mono ?_; rintro e w' ⟨rfl, rfl⟩)
      go_ret
      exact ⟨rfl, X1.out⟩
    · cases hs : setB s g.length
      · rw [show codeIn g kind s = false from by unfold codeIn; rw [hs, Bool.and_false]; rfl]
        go_enter Tryz.func122, Tryz.ntmps122
        go_wp2_with fail
        refine (graphInS_c _ _ _ HV.out HM.out).mono ?_
        rintro e w1 ⟨rfl, x1⟩
        have X1 := Lib.hid x1; clear x1
        go_wp2_with (first | (go_at_call 159; refine (l2Kind_c _ _).mono ?_; rintro e w' ⟨rfl, rfl⟩) | (go_at_call 118; refine (l2Set_c _ g _ _ (HV.out.ext X1.out) (by omega)).mono ?_; rintro e w' ⟨rfl, rfl⟩))
        go_ret
        exact ⟨rfl, X1.out⟩
      · obtain ⟨k, rfl, hkl⟩ := setB_iff.1 hs
        obtain ⟨K, rfl⟩ : ∃ K : Nat, kind = K := ⟨kind.toNat, by have := inB_iff.1 hk; omega⟩
        have hK3 : K ≤ 3 := by have := inB_iff.1 hk; omega
        have hk4 : k ≤ 4095 := by have := pow_le_12 hl; omega
        have HKL := Lib.hid hkl
        rw [show codeIn g K k = kindN g K k from by unfold codeIn; rw [h0, hk, hs]; rfl]
        clear hkl
        go_enter Tryz.func122, Tryz.ntmps122
        go_wp2_with fail
        refine (graphInS_c _ _ _ HV.out HM.out).mono ?_
        rintro e w1 ⟨rfl, x1⟩
        have X1 := Lib.hid x1; clear x1
        go_wp2_with (first | (go_at_call 159; refine (l2Kind_c _ _).mono ?_; rintro e w' ⟨rfl, rfl⟩) | (go_at_call 118; refine (l2Set_c _ g _ _ (HV.out.ext X1.out) (by omega)).mono ?_; rintro e w' ⟨rfl, rfl⟩))
        refine (l2Table_c _ g _ (HV.out.ext X1.out) HG.out).mono ?_
        rintro e w2 ⟨vt, vs, rfl, ht, x2⟩
        have HT := Lib.hid ht; have X2 := Lib.hid (X1.out.trans x2); clear ht x2
        go_wp2_with fail
        refine (l2In_c _ _ vs g K k _ (HV.out.ext X2.out) HT.out HG.out hk4 hK3).mono ?_
        rintro e w3 ⟨rfl, x3⟩
        go_wp2
        go_ret
        exact ⟨rfl, X2.out.trans x3⟩

set_option maxHeartbeats 1000000 in
theorem codeInI_c (v : Value) (g : List Int) (kind s : Int) (w : World) (hv : Rd w v g) (hm : g.length ≤ 1048576) :
    Calls Tryz.prog 95 #[v, .int .i64 kind, .int .i64 s] w fun e w' => e = .returned (.bool (codeIn g kind s)) ∧ Ext w w' := by
  obtain ⟨a, c, rfl⟩ := hv.form
  have HV := Lib.hid hv; clear hv
  have HM := Lib.hid hm
  cases h0 : graphIn g
  · rw [show codeIn g kind s = false from by unfold codeIn; rw [h0]; rfl]
    go_enter Tryz.func95, Tryz.ntmps95
    go_wp2_with fail
    refine (graphInI_c _ _ _ HV.out HM.out).mono ?_
    rintro e w1 ⟨rfl, x1⟩
    have X1 := Lib.hid x1; clear x1
    go_wp2
    go_ret
    exact ⟨rfl, X1.out⟩
  · have hG := graphIn_iff.1 h0
    have hl := hG.le
    have HG := Lib.hid hG; clear hG
    cases hk : inB 0 kind 3
    · rw [show codeIn g kind s = false from by unfold codeIn; rw [hk, Bool.and_false]; rfl]
      go_enter Tryz.func95, Tryz.ntmps95
      go_wp2_with fail
      refine (graphInI_c _ _ _ HV.out HM.out).mono ?_
      rintro e w1 ⟨rfl, x1⟩
      have X1 := Lib.hid x1; clear x1
      go_wp2_with (go_at_call 40; refine (isKind_c _ _).mono ?_; rintro e w' ⟨rfl, rfl⟩)
      go_ret
      exact ⟨rfl, X1.out⟩
    · cases hs : setB s g.length
      · rw [show codeIn g kind s = false from by unfold codeIn; rw [hs, Bool.and_false]; rfl]
        go_enter Tryz.func95, Tryz.ntmps95
        go_wp2_with fail
        refine (graphInI_c _ _ _ HV.out HM.out).mono ?_
        rintro e w1 ⟨rfl, x1⟩
        have X1 := Lib.hid x1; clear x1
        go_wp2_with (first | (go_at_call 40; refine (isKind_c _ _).mono ?_; rintro e w' ⟨rfl, rfl⟩) | (go_at_call 60; refine (isSet_c _ g.length (by omega) _).mono ?_; rintro e w' ⟨rfl, rfl⟩))
        go_ret
        exact ⟨rfl, X1.out⟩
      · obtain ⟨k, rfl, hkl⟩ := setB_iff.1 hs
        obtain ⟨K, rfl⟩ : ∃ K : Nat, kind = K := ⟨kind.toNat, by have := inB_iff.1 hk; omega⟩
        have hK3 : K ≤ 3 := by have := inB_iff.1 hk; omega
        have hk4 : k ≤ 4095 := by have := pow_le_12 hl; omega
        have HKL := Lib.hid hkl
        rw [show codeIn g K k = kindN g K k from by unfold codeIn; rw [h0, hk, hs]; rfl]
        clear hkl
        go_enter Tryz.func95, Tryz.ntmps95
        go_wp2_with fail
        refine (graphInI_c _ _ _ HV.out HM.out).mono ?_
        rintro e w1 ⟨rfl, x1⟩
        have X1 := Lib.hid x1; clear x1
        go_wp2_with (first | (go_at_call 40; refine (isKind_c _ _).mono ?_; rintro e w' ⟨rfl, rfl⟩) | (go_at_call 60; refine (isSet_c _ g.length (by omega) _).mono ?_; rintro e w' ⟨rfl, rfl⟩))
        refine (bookOf_c _ g _ (HV.out.ext X1.out) HG.out).mono ?_
        rintro e w2 ⟨b, vb, vf, vs, rfl, hb, hbk, x2⟩
        have BK := Lib.hid hbk; have X2 := Lib.hid (X1.out.trans x2); clear hbk x2
        go_wp2_with fail
        refine (is_c b _ vb vf vs g K k _ BK.out (HV.out.ext X2.out) HG.out HKL.out hK3).mono ?_
        rintro e w3 ⟨rfl, x3⟩
        go_wp2
        go_ret
        exact ⟨rfl, X2.out.trans x3⟩

/-! ### The least code -/
def codeLeast (g : List Int) (kind : Int) : Int × Bool := if graphIn g && inB 0 kind 3 then loP (lo (kindN g kind.toNat) (2 ^ g.length)) else (0, false)
def leastNumber (g : List Int) (kind : Int) : Int × Bool := if (codeLeast g kind).2 then (((cnt (codeLeast g kind).1.toNat : Nat) : Int), true) else (0, false)
theorem lo_small {p : Nat → Bool} {n z : Nat} (hn : n ≤ 12) (h : lo p (2 ^ n) = some z) : z ≤ 4095 := by
  have := lo_lt _ _ h
  have := pow_le_12 hn
  omega

theorem codeLeast_cases (g : List Int) (kind : Int) : codeLeast g kind = (0, false) ∨ ∃ z : Nat, z ≤ 4095 ∧ codeLeast g kind = (((z : Nat) : Int), true) := by
  unfold codeLeast
  split
  · rename_i h
    rw [Bool.and_eq_true] at h
    have hG := graphIn_iff.1 h.1
    cases hlo : lo (kindN g kind.toNat) (2 ^ g.length) with
    | none => exact .inl rfl
    | some z => exact .inr ⟨z, lo_small hG.le hlo, rfl⟩
  · exact .inl rfl

set_option maxHeartbeats 2000000 in
theorem l2Least_c (v : Value) (g : List Int) (K : Nat) (w : World) (hv : Rd w v g) (hg : IsGraph g) (hK : K ≤ 3) :
    Calls Tryz.prog 160 #[v, .int .i64 K] w fun e w' => e = .returned (pairV (loP (lo (kindN g K) (2 ^ g.length)))) ∧ Ext w w' := by
  obtain ⟨a, c, rfl⟩ := hv.form
  have HV := Lib.hid hv
  have hl := hg.le
  have HG := Lib.hid hg
  obtain ⟨p, hp, hp1, hp2, hp3⟩ := pow_var g.length (by omega)
  have hp4 : p ≤ 4096 := by rw [← hp]; exact pow_le_12 hl
  have e0 : min g.length 64 = g.length := by omega
  have HP := Lib.hid hp
  clear hg hp hv
  go_enter Tryz.func160, Tryz.ntmps160
  go_wp2_with fail
  refine (l2Table_c _ g _ HV.out HG.out).mono ?_
  rintro e w1 ⟨vt, vs, rfl, ht, x1⟩
  have HT := Lib.hid ht; have X1 := Lib.hid x1; clear ht x1
  go_wp2
  go_loopw [7, 8, 9] (fun b m i wr => ∃ (k z M : Nat), k ≤ p ∧ i = .int .i64 k ∧ b = .int .i64 z ∧ m = .int .i64 M ∧ M ≤ 13 ∧ Hid (LoAt (kindN g K) g.length k z M) ∧ Hid (Ext w1 wr)) (fun _ _ i _ => p - (intOf i).toNat)
  case atStart => exact ⟨0, 0, g.length + 1, Nat.zero_le _, rfl, rfl, by go_num, by omega, .inl ⟨rfl, rfl, rfl⟩, Ext.refl _⟩
  case round =>
    obtain ⟨k, z, M, hk, rfl, rfl, rfl, hM, HL, HX⟩ := hrel
    by_cases hlt : k < p
    · have hk4 : k ≤ 4095 := by omega
      have HKP : Hid (k < 2 ^ g.length) := by unfold Hid; rw [HP.out]; exact hlt
      have HC := Lib.hid fun w => l1Count_c k (by omega) w
      have hc12 := cnt_le k
      have HBE := Lib.hid (l2In_c (.slice a g.length c) vt vs g K k wr (HV.out.ext (X1.out.trans HX.out)) (HT.out.ext HX.out) HG.out hk4 hK)
      by_cases hc : cnt k < M
      · cases hb : kindN g K k
        · have HN := Lib.hid (HL.out.skip HKP.out (.inr hb))
          rw [hb] at HBE
          clear hb
          go_wp2_with (go_at_call 156; with_reducible refine (HC.out _).mono ?_; rintro e w' ⟨rfl, rfl⟩)
          refine HBE.out.mono ?_
          rintro e w2 ⟨rfl, x2⟩
          have X2 := Lib.hid (HX.out.trans x2); clear x2
          go_wp2
          go_roundw
          case rel => exact ⟨k + 1, z, M, by omega, by go_num, rfl, rfl, hM, HN.out, X2.out⟩
          case measure => simp [intOf]; omega
        · have HN := Lib.hid (HL.out.take HKP.out hc hb)
          rw [hb] at HBE
          clear hb
          go_wp2_with (go_at_call 156; with_reducible refine (HC.out _).mono ?_; rintro e w' ⟨rfl, rfl⟩)
          refine HBE.out.mono ?_
          rintro e w2 ⟨rfl, x2⟩
          have X2 := Lib.hid (HX.out.trans x2); clear x2
          go_wp2
          go_roundw
          case rel => exact ⟨k + 1, k, cnt k, by omega, by go_num, rfl, rfl, by omega, HN.out, X2.out⟩
          case measure => simp [intOf]; omega
      · have HN := Lib.hid (HL.out.skip HKP.out (.inl hc))
        go_wp2_with (go_at_call 156; with_reducible refine (HC.out _).mono ?_; rintro e w' ⟨rfl, rfl⟩)
        go_roundw
        case rel => exact ⟨k + 1, z, M, by omega, by go_num, rfl, rfl, hM, HN.out, HX.out⟩
        case measure => simp [intOf]; omega
    · obtain rfl : k = p := by omega
      have HF := Lib.hid (HL.out.fin (by rw [HP.out]; exact Nat.le_refl _))
      go_wp2
      go_ret2
      refine ⟨?_, X1.out.trans HX.out⟩
      rw [HP.out, HF.out, show decide (M ≤ g.length) = decide ((M : Int) ≤ (g.length : Int)) from by simp]
      rfl

set_option maxHeartbeats 1000000 in
theorem codeLeastS_c (v : Value) (g : List Int) (kind : Int) (w : World) (hv : Rd w v g) (hm : g.length ≤ 1048576) :
    Calls Tryz.prog 119 #[v, .int .i64 kind] w fun e w' => e = .returned (pairV (codeLeast g kind)) ∧ Ext w w' := by
  obtain ⟨a, c, rfl⟩ := hv.form
  have HV := Lib.hid hv; clear hv
  have HM := Lib.hid hm
  cases h0 : graphIn g
  · rw [show codeLeast g kind = (0, false) from by unfold codeLeast; rw [h0]; rfl]
    go_enter Tryz.func119, Tryz.ntmps119
    go_wp2_with (go_at_call 110; refine (graphInS_c _ _ _ HV.out HM.out).mono ?_; rintro e w1 ⟨rfl, x1⟩)
    go_ret2
    exact ⟨rfl, by assumption⟩
  · have hG := graphIn_iff.1 h0
    have HG := Lib.hid hG; clear hG
    cases hk : inB 0 kind 3
    · rw [show codeLeast g kind = (0, false) from by unfold codeLeast; rw [hk, Bool.and_false]; rfl]
      go_enter Tryz.func119, Tryz.ntmps119
      go_wp2_with fail
      refine (graphInS_c _ _ _ HV.out HM.out).mono ?_
      rintro e w1 ⟨rfl, x1⟩
      have X1 := Lib.hid x1; clear x1
      go_wp2_with (go_at_call 159; refine (l2Kind_c _ _).mono ?_; rintro e w' ⟨rfl, rfl⟩)
      go_ret2
      exact ⟨rfl, X1.out⟩
    · obtain ⟨K, rfl⟩ : ∃ K : Nat, kind = K := ⟨kind.toNat, by have := inB_iff.1 hk; omega⟩
      have hK3 : K ≤ 3 := by have := inB_iff.1 hk; omega
      have HR : Hid (codeLeast g K = loP (lo (kindN g K) (2 ^ g.length))) := by unfold Hid codeLeast; rw [h0, hk]; rfl
      go_enter Tryz.func119, Tryz.ntmps119
      go_wp2_with fail
      refine (graphInS_c _ _ _ HV.out HM.out).mono ?_
      rintro e w1 ⟨rfl, x1⟩
      have X1 := Lib.hid x1; clear x1
      go_wp2_with (go_at_call 159; refine (l2Kind_c _ _).mono ?_; rintro e w' ⟨rfl, rfl⟩)
      refine (l2Least_c _ g K _ (HV.out.ext X1.out) HG.out hK3).mono ?_
      rintro e w2 ⟨rfl, x2⟩
      rw [← HR.out]
      unfold pairV
      go_wp2
      go_ret2
      exact ⟨rfl, X1.out.trans x2⟩

theorem codeLeast1_enters : ∀ args w, (callFunc 44 args).run Tryz.prog w = .ok (.enter 44 args) w :=
  Go.Proofs.enters_of Tryz.func44 (by kernel_rfl) rfl
set_option maxHeartbeats 1000000 in
theorem codeLeast1_c (s K b bc tc : Nat) (v vb vf : Value) (vs : List Value) (g : List Int) (w : World) (hb : IsBook w b g v vb vf vs) (hv : Rd w v g) (hg : IsGraph g) (hs : s < 2 ^ g.length) (hK : K ≤ 3)
    (h1 : w.cell? ⟨bc, 0, none⟩ = some (.pointer (some ⟨b, 0, none⟩))) (h2 : w.cell? ⟨tc, 0, none⟩ = some (.int .i64 K)) :
    Calls Tryz.prog 44 #[.int .i64 s, .pointer (some ⟨bc, 0, none⟩), .pointer (some ⟨tc, 0, none⟩)] w fun e w' => e = .returned (.bool (kindN g K s)) ∧ Ext w w' := by
  have HB := Lib.hid (is_c b v vb vf vs g K s w hb hv hg hs hK)
  clear hb hg hv hs
  go_enter Tryz.func44, Tryz.ntmps44
  go_wp2_with fail
  refine HB.out.mono ?_
  rintro e w1 ⟨rfl, x1⟩
  go_wp2
  go_ret
  exact ⟨rfl, x1⟩

set_option maxRecDepth 100000 in
set_option maxHeartbeats 2000000 in
theorem codeLeastI_c (v : Value) (g : List Int) (t : Int) (w : World) (hv : Rd w v g) (hm : g.length ≤ 1048576) :
    Calls Tryz.prog 18 #[v, .int .i64 t] w fun e w' => e = .returned (pairV (codeLeast g t)) ∧ Ext w w' := by
  obtain ⟨a, c, rfl⟩ := hv.form
  obtain ⟨W, hW⟩ : ∃ W, W = w.alloc (.cells #[.int .i64 t] 3) := ⟨_, rfl⟩
  have hx0 : Ext w W := by rw [hW]; exact (Ext.refl _).alloc _
  have v0 : Var W w.heap.size (.int .i64 t) := by rw [hW]; exact Var.new _ _ _
  have HW := Lib.hid hW; have HX0 := Lib.hid hx0; have V0 := Lib.hid v0; have HV := Lib.hid (hv.ext hx0)
  have HM := Lib.hid hm
  clear hv hW hx0 v0
  cases h0 : graphIn g
  · rw [show codeLeast g t = (0, false) from by unfold codeLeast; rw [h0]; rfl]
    go_enter Tryz.func18, Tryz.ntmps18
    go_wp2_with fail
    rw [← HW.out]
    refine (graphInI_c _ _ _ HV.out HM.out).mono ?_
    rintro e w1 ⟨rfl, x1⟩
    have X1 := Lib.hid (HX0.out.trans x1); clear x1
    go_wp2
    go_ret2
    exact ⟨rfl, X1.out⟩
  · cases ht : inB 0 t 3
    · rw [show codeLeast g t = (0, false) from by unfold codeLeast; rw [ht, Bool.and_false]; rfl]
      go_enter Tryz.func18, Tryz.ntmps18
      go_wp2_with fail
      rw [← HW.out]
      refine (graphInI_c _ _ _ HV.out HM.out).mono ?_
      rintro e w1 ⟨rfl, x1⟩
      have X1 := Lib.hid (HX0.out.trans x1)
      have c0 := (V0.out.ext x1).cell
      clear x1
      go_wp2_with (go_at_call 40; refine (isKind_c _ _).mono ?_; rintro e w' ⟨rfl, rfl⟩)
      go_ret2
      exact ⟨rfl, X1.out⟩
    · have hG := graphIn_iff.1 h0
      have hl := hG.le
      have hl1 := hG.pos
      have HG := Lib.hid hG
      obtain ⟨T, rfl⟩ : ∃ T : Nat, t = T := ⟨t.toNat, by have := inB_iff.1 ht; omega⟩
      have hT4 : T ≤ 3 := by have := inB_iff.1 ht; omega
      obtain ⟨p, hp⟩ : ∃ p : Nat, 2 ^ g.length = p := ⟨_, rfl⟩
      have hp4 : p ≤ 4096 := by rw [← hp]; exact pow_le_12 hl
      have hp5 : 1 ≤ p := by rw [← hp]; exact Nat.two_pow_pos _
      have HR : Hid (codeLeast g T = loP (lo (kindN g T) p)) := by unfold Hid codeLeast; rw [h0, ht, hp]; rfl
      have HP := Lib.hid hp
      have HAL := Lib.hid fun w hw => all_c (.slice a g.length c) g w hw hl
      rw [hp] at HAL
      clear hG hp
      go_enter Tryz.func18, Tryz.ntmps18
      go_wp2_with fail
      rw [← HW.out]
      refine (graphInI_c _ _ _ HV.out HM.out).mono ?_
      rintro e w1 ⟨rfl, x1⟩
      have X1 := Lib.hid x1
      have c0 := (V0.out.ext x1).cell
      clear x1
      go_wp2_with (go_at_call 40; refine (isKind_c _ _).mono ?_; rintro e w' ⟨rfl, rfl⟩)
      refine (bookOf_c _ g _ (HV.out.ext X1.out) HG.out).mono ?_
      rintro e w2 ⟨b, vb, vf, vs, rfl, hb, hbk, x2⟩
      have BK := Lib.hid hbk; have X2 := Lib.hid (X1.out.trans x2); clear hbk x2 c0
      obtain ⟨W3, hW3⟩ : ∃ V, V = w2.alloc (.cells #[.pointer (some ⟨b, 0, none⟩)] 66) := ⟨_, rfl⟩
      have hx3 : Ext w2 W3 := by rw [hW3]; exact (Ext.refl _).alloc _
      have cg := (BK.out.ext hx3).graph
      have vb3 : Var W3 w2.heap.size (.pointer (some ⟨b, 0, none⟩)) := by rw [hW3]; exact Var.new _ _ _
      have HB3 := Lib.hid (BK.out.ext hx3); have HX3 := Lib.hid (X2.out.trans hx3); have VB3 := Lib.hid vb3; have VT3 := Lib.hid (V0.out.ext (X2.out.trans hx3))
      have HW3 := Lib.hid hW3
      rw [hW3] at cg
      clear hW3 hx3 vb3
      go_wp2_with fail
      rw [← HW3.out]
      refine (HAL.out _ (HV.out.ext HX3.out)).mono ?_
      rintro e w' ⟨rfl, rfl⟩
      go_wp2_with fail
      have HF : ∀ k, k < p → ∀ w', Ext W3 w' → Calls Tryz.prog 44 (#[.int .i64 (k : Nat)] ++ #[.pointer (some ⟨w2.heap.size, 0, none⟩), .pointer (some ⟨w.heap.size, 0, none⟩)]) w' fun e w'' => e = .returned (.bool (kindN g T k)) ∧ Ext w' w'' := fun k hk w' hx => by
        rw [show (#[.int .i64 (k : Nat)] ++ #[.pointer (some ⟨w2.heap.size, 0, none⟩), .pointer (some ⟨w.heap.size, 0, none⟩)] : Array Value) = #[.int .i64 (k : Nat), .pointer (some ⟨w2.heap.size, 0, none⟩), .pointer (some ⟨w.heap.size, 0, none⟩)] from by simp]
        exact codeLeast1_c k T b w2.heap.size w.heap.size _ vb vf vs g w' (HB3.out.ext hx) ((HV.out.ext HX3.out).ext hx) HG.out (by rw [HP.out]; exact hk) hT4 (VB3.out.ext hx).cell (VT3.out.ext hx).cell
      refine (least_c p 44 #[.pointer (some ⟨w2.heap.size, 0, none⟩), .pointer (some ⟨w.heap.size, 0, none⟩)] (kindN g T) W3 hp5 hp4 codeLeast1_enters HF).mono ?_
      rintro e w4 ⟨rfl, x4⟩
      rw [← HR.out]
      unfold pairV
      have X4 := Lib.hid (HX0.out.trans (HX3.out.trans x4)); clear x4
      go_wp2
      go_ret2
      exact ⟨rfl, X4.out⟩

end Go.Proofs.YtkmfmhckpfomeaaGreatDoor

/- Whether a pool is clear: the reference and the program compute the same plain function. The condition: the list has at most 2^20 numbers. -/
namespace Go.Proofs.YtkmfmhckpfomeaaGreatDoor
open Go.RowKit
open BigFrame
attribute [local go_sem] Oper.semAt_some

def clearT (i s : Nat) (x : Int) : Bool := x.toNat.testBit i && (band x.toNat s == 0)
def clearI (tests : List Int) (d i k : Nat) : Bool := !(fewB d k && !k.testBit i) || tests.any (clearT i k)
def clearRow (tests : List Int) (d N i : Nat) : Bool := (List.range N).all (clearI tests d i)
def poolClear (items : Int) (tests : List Int) (d : Int) : Bool := poolIn items tests && inB 0 d 3 && (List.range items.toNat).all (clearRow tests d.toNat (2 ^ items.toNat))
theorem range_all_false {N k : Nat} {p : Nat → Bool} (hk : k < N) (h : p k = false) : (List.range N).all p = false := by
  rw [List.all_eq_false]; exact ⟨k, List.mem_range.2 hk, by rw [h]; decide⟩
theorem range_all_true {N : Nat} {p : Nat → Bool} (h : ∀ k, k < N → p k = true) : (List.range N).all p = true := by
  rw [List.all_eq_true]; exact fun k hk => h k (List.mem_range.1 hk)
theorem any_take_succ {xs : List Int} {p : Int → Bool} {k : Nat} (hk : k < xs.length) : (xs.take (k + 1)).any p = ((xs.take k).any p || p (getI xs k)) := by
  rw [List.take_succ_eq_append_getElem hk, List.any_append]
  simp [getI, hk]
theorem few_iff2 {d k : Nat} : fewB d k = true ↔ cnt k ≤ d := by simp [fewB]

end Go.Proofs.YtkmfmhckpfomeaaGreatDoor

/- The least set of wrong items with some answers: the reference and the program compute the same plain function. The condition: the list has at most 2^20 numbers. -/
namespace Go.Proofs.YtkmfmhckpfomeaaGreatDoor
open Go.RowKit
open BigFrame
attribute [local go_sem] Oper.semAt_some

/-- The least number below N with p, and whether there is one. -/
def leastP (p : Nat → Bool) (N : Nat) : Int × Bool :=
  match (List.range N).find? p with
  | some k => ((k : Nat), true)
  | none => (0, false)
theorem leastP_none {p : Nat → Bool} {N : Nat} (h : ∀ j, j < N → p j = false) : leastP p N = (0, false) := by
  unfold leastP
  rw [List.find?_eq_none.2 (fun x hx => by rw [h x (List.mem_range.1 hx)]; decide)]
theorem leastP_some {p : Nat → Bool} {N k : Nat} (hk : k < N) (h : ∀ j, j < k → p j = false) (hp : p k = true) : leastP p N = (((k : Nat) : Int), true) := by
  unfold leastP
  rw [show (List.range N).find? p = some k from by
    rw [List.find?_range_eq_some]
    exact ⟨hp, List.mem_range.2 hk, fun j hj => by rw [h j hj]; rfl⟩]
def goodB (tests : List Int) (d a k : Nat) : Bool := fewB d k && (answersOf tests k == a)
def poolDecode (items : Int) (tests : List Int) (d answers : Int) : Int × Bool :=
  if poolIn items tests && inB 0 d 3 && setB answers tests.length then leastP (goodB tests d.toNat answers.toNat) (2 ^ items.toNat) else (0, false)
theorem answersOf_small {n : Nat} {tests : List Int} (h : IsPool n tests) (m : Nat) : answersOf tests m ≤ 65535 := answersTo_small h.len
theorem few_iff {d k : Nat} : fewB d k = true ↔ cnt k ≤ d := by simp [fewB]

end Go.Proofs.YtkmfmhckpfomeaaGreatDoor

/- What holds of pools: answers, what is left, what tells, what is clear. No program in sight. No condition. -/
namespace Go.Proofs.YtkmfmhckpfomeaaGreatDoor

theorem band_ne {x y : Nat} : band x y ≠ 0 ↔ ∃ i, x.testBit i = true ∧ y.testBit i = true := by
  constructor
  · intro h
    apply Classical.byContradiction
    intro hn
    apply h
    apply Nat.eq_of_testBit_eq
    intro i
    rw [testBit_band, Nat.zero_testBit]
    cases hx : x.testBit i
    · rfl
    · cases hy : y.testBit i
      · rfl
      · exact absurd ⟨i, hx, hy⟩ hn
  · rintro ⟨i, h1, h2⟩ e
    have h := testBit_band x y i
    rw [e, h1, h2, Nat.zero_testBit] at h
    cases h
theorem ne_bit {x y : Nat} (h : x ≠ y) : ∃ i, x.testBit i ≠ y.testBit i := by
  apply Classical.byContradiction
  intro hn
  apply h
  apply Nat.eq_of_testBit_eq
  intro i
  apply Classical.byContradiction
  intro h'
  exact hn ⟨i, h'⟩
theorem bit_lt {x n i : Nat} (hx : x < 2 ^ n) (h : x.testBit i = true) : i < n := by
  rcases Nat.lt_or_ge i n with h' | h'
  · exact h'
  · rw [testBit_out hx h'] at h; cases h
theorem testBit_answersTo (tests : List Int) (wrong j : Nat) : ∀ k, (answersTo tests wrong k).testBit j = (decide (j < k) && decide (band (gN tests j) wrong ≠ 0))
  | 0 => by simp [answersTo]
  | k + 1 => by
    have ih := testBit_answersTo tests wrong j k
    have h2 : (2 ^ k).testBit j = decide (k = j) := Nat.testBit_two_pow
    by_cases e : k = j
    · subst e
      unfold answersTo
      split
      · rename_i h
        rw [testBit_bor, h2, ih]
        simp [h]
      · rename_i h
        rw [ih]
        simp [h]
    · have h3 : decide (j < k + 1) = decide (j < k) := by
        by_cases h : j < k
        · rw [decide_eq_true h, decide_eq_true (by omega)]
        · rw [decide_eq_false h, decide_eq_false (by omega)]
      rw [h3]
      unfold answersTo
      split
      · rw [testBit_bor, h2, ih, decide_eq_false e, Bool.or_false]
      · exact ih
theorem answers_bit {tests : List Int} {wrong j : Nat} : (answersOf tests wrong).testBit j = true ↔ j < tests.length ∧ band (gN tests j) wrong ≠ 0 := by
  unfold answersOf
  rw [testBit_answersTo, Bool.and_eq_true, decide_eq_true_iff, decide_eq_true_iff]
theorem leftTo_bit (n : Nat) (tests : List Int) (a i : Nat) : ∀ k, (leftTo n tests a k).testBit i = true ↔ i < n ∧ ∀ j, j < k → a.testBit j = true ∨ (gN tests j).testBit i = false
  | 0 => by
    show (2 ^ n - 1).testBit i = true ↔ _
    rw [Nat.testBit_two_pow_sub_one]
    simp
  | k + 1 => by
    have ih := leftTo_bit n tests a i k
    unfold leftTo
    split
    · rename_i h
      rw [ih]
      constructor
      · rintro ⟨h1, h2⟩
        refine ⟨h1, fun j hj => ?_⟩
        by_cases e : j = k
        · subst e; exact .inl h
        · exact h2 j (by omega)
      · rintro ⟨h1, h2⟩
        exact ⟨h1, fun j hj => h2 j (by omega)⟩
    · rename_i h
      rw [testBit_without, Bool.and_eq_true, ih, Bool.not_eq_true']
      constructor
      · rintro ⟨⟨h1, h2⟩, h3⟩
        refine ⟨h1, fun j hj => ?_⟩
        by_cases e : j = k
        · subst e; exact .inr h3
        · exact h2 j (by omega)
      · rintro ⟨h1, h2⟩
        refine ⟨⟨h1, fun j hj => h2 j (by omega)⟩, ?_⟩
        rcases h2 k (by omega) with h3 | h3
        · exact absurd h3 h
        · exact h3
theorem left_bit {n : Nat} {tests : List Int} {a i : Nat} : (leftOf n tests a).testBit i = true ↔ i < n ∧ ∀ j, j < tests.length → a.testBit j = true ∨ (gN tests j).testBit i = false :=
  leftTo_bit n tests a i tests.length
theorem answers_zero (tests : List Int) : answersOf tests 0 = 0 := by
  apply Nat.eq_of_testBit_eq
  intro i
  rw [Nat.zero_testBit]
  cases h : (answersOf tests 0).testBit i
  · rfl
  · exact absurd (by simp [band]) (answers_bit.1 h).2
theorem answers_bor (tests : List Int) (a b : Nat) : answersOf tests (bor a b) = bor (answersOf tests a) (answersOf tests b) := by
  apply Nat.eq_of_testBit_eq
  intro i
  rw [Bool.eq_iff_iff, testBit_bor, Bool.or_eq_true, answers_bit, answers_bit, answers_bit, band_ne, band_ne, band_ne]
  constructor
  · rintro ⟨h1, j, h2, h3⟩
    rw [testBit_bor, Bool.or_eq_true] at h3
    exact h3.imp (fun h => ⟨h1, j, h2, h⟩) (fun h => ⟨h1, j, h2, h⟩)
  · rintro (⟨h1, j, h2, h3⟩ | ⟨h1, j, h2, h3⟩)
    · exact ⟨h1, j, h2, by rw [testBit_bor, h3, Bool.true_or]⟩
    · exact ⟨h1, j, h2, by rw [testBit_bor, h3, Bool.or_true]⟩
/-- Wrong items are left. -/
theorem wrong_left {n : Nat} {tests : List Int} {wrong : Nat} (hw : wrong < 2 ^ n) : without wrong (leftOf n tests (answersOf tests wrong)) = 0 := by
  apply Nat.eq_of_testBit_eq
  intro i
  rw [testBit_without, Nat.zero_testBit]
  cases h : wrong.testBit i
  · rfl
  · have : (leftOf n tests (answersOf tests wrong)).testBit i = true := by
      refine left_bit.2 ⟨bit_lt hw h, fun j hj => ?_⟩
      cases h2 : (gN tests j).testBit i
      · exact .inr rfl
      · exact .inl (answers_bit.2 ⟨hj, band_ne.2 ⟨i, h2, h⟩⟩)
    rw [this]; rfl
theorem tellsTo_iff {tests : List Int} {d N : Nat} : tellsTo tests d N = true ↔ ∀ k, k < N → cnt k ≤ d → ∀ j, j < k → cnt j ≤ d → answersOf tests j ≠ answersOf tests k := by
  unfold tellsTo seenTo fewB
  simp only [List.all_eq_true, List.mem_range, Bool.not_eq_true', Bool.and_eq_false_iff, decide_eq_false_iff_not, List.any_eq_false, Bool.and_eq_true, decide_eq_true_eq, beq_iff_eq, not_and]
  constructor
  · intro h k hk hc j hj hcj
    rcases h k hk with h1 | h1
    · exact absurd hc h1
    · exact h1 j hj hcj
  · intro h k hk
    by_cases hc : cnt k ≤ d
    · exact .inr fun j hj hcj => h k hk hc j hj hcj
    · exact .inl hc
theorem tells_inj {tests : List Int} {d N : Nat} (h : tellsTo tests d N = true) {j k : Nat} (hj : j < N) (hk : k < N) (cj : cnt j ≤ d) (ck : cnt k ≤ d) (e : answersOf tests j = answersOf tests k) : j = k := by
  rcases Nat.lt_trichotomy j k with h1 | h1 | h1
  · exact absurd e (tellsTo_iff.1 h k hk ck j h1 cj)
  · exact h1
  · exact absurd e.symm (tellsTo_iff.1 h j hj cj k h1 ck)
theorem clear_iff {n : Nat} {tests : List Int} (_ : IsPool n tests) {d : Nat} : (List.range n).all (clearRow tests d (2 ^ n)) = true ↔
    ∀ i, i < n → ∀ k, k < 2 ^ n → cnt k ≤ d → k.testBit i = false → ∃ j, j < tests.length ∧ (gN tests j).testBit i = true ∧ band (gN tests j) k = 0 := by
  have hany : ∀ i k, tests.any (clearT i k) = true ↔ ∃ j, j < tests.length ∧ (gN tests j).testBit i = true ∧ band (gN tests j) k = 0 := by
    intro i k
    rw [List.any_eq_true]
    constructor
    · rintro ⟨x, hx, h⟩
      obtain ⟨j, hj, rfl⟩ := List.getElem_of_mem hx
      unfold clearT at h
      rw [Bool.and_eq_true, beq_iff_eq] at h
      have e : gN tests j = (tests[j]).toNat := by unfold gN getI; simp [hj]
      exact ⟨j, hj, by rw [e]; exact h.1, by rw [e]; exact h.2⟩
    · rintro ⟨j, hj, h1, h2⟩
      refine ⟨tests[j], List.getElem_mem hj, ?_⟩
      have e : gN tests j = (tests[j]).toNat := by unfold gN getI; simp [hj]
      unfold clearT
      rw [← e, h1, h2]; rfl
  unfold clearRow clearI fewB
  simp only [List.all_eq_true, List.mem_range, Bool.or_eq_true, Bool.not_eq_true', Bool.and_eq_false_iff, decide_eq_false_iff_not, hany]
  constructor
  · intro h i hi k hk hc hb
    rcases h i hi k hk with (h1 | h1) | h1
    · exact absurd hc h1
    · rw [hb] at h1; simp at h1
    · exact h1
  · intro h i hi k hk
    by_cases hc : cnt k ≤ d
    · cases hb : k.testBit i
      · exact .inr (h i hi k hk hc hb)
      · exact .inl (.inr (by simp))
    · exact .inl (.inl hc)
theorem cnt_two_pow : ∀ i, i < 12 → cnt (2 ^ i) = 1 := by decide +kernel
theorem cnt_add {k i : Nat} (hi : i < 12) (h : k.testBit i = false) : cnt (bor k (2 ^ i)) = cnt k + 1 := by
  have h1 := cnt_split (bor k (2 ^ i)) k
  have e1 : band (bor k (2 ^ i)) k = k := by
    apply Nat.eq_of_testBit_eq
    intro j
    rw [testBit_band, testBit_bor]
    cases k.testBit j <;> simp
  have e2 : without (bor k (2 ^ i)) k = 2 ^ i := by
    apply Nat.eq_of_testBit_eq
    intro j
    rw [testBit_without, testBit_bor, Nat.testBit_two_pow]
    by_cases e : i = j
    · subst e; rw [h]; simp
    · rw [decide_eq_false e]; cases k.testBit j <;> simp
  rw [e1, e2, cnt_two_pow i hi] at h1
  exact h1.symm
/-- What tells d is clear for d - 1. -/
theorem tells_clear {n : Nat} {tests : List Int} (hP : IsPool n tests) {d : Nat} (h : tellsTo tests (d + 1) (2 ^ n) = true) : (List.range n).all (clearRow tests d (2 ^ n)) = true := by
  rw [clear_iff hP]
  intro i hi k hk hc hb
  have hn := hP.le
  have h1 := cnt_add (show i < 12 by omega) hb
  have hk' : bor k (2 ^ i) < 2 ^ n := bor_lt hk (Nat.pow_lt_pow_right (by omega) hi)
  have hne : k ≠ bor k (2 ^ i) := fun e => by rw [← e] at h1; omega
  have ha : answersOf tests k ≠ answersOf tests (bor k (2 ^ i)) := fun e => hne (tells_inj h hk hk' (by omega) (by omega) e)
  obtain ⟨j, hj⟩ := ne_bit ha
  have hsub : (answersOf tests k).testBit j = true → (answersOf tests (bor k (2 ^ i))).testBit j = true := by
    intro h2; rw [answers_bor, testBit_bor, h2, Bool.true_or]
  have h3 : (answersOf tests (bor k (2 ^ i))).testBit j = true := by
    cases h4 : (answersOf tests (bor k (2 ^ i))).testBit j
    · cases h5 : (answersOf tests k).testBit j
      · rw [h4, h5] at hj; exact absurd rfl hj
      · rw [hsub h5] at h4; cases h4
    · rfl
  have h4 : (answersOf tests k).testBit j = false := by
    cases h5 : (answersOf tests k).testBit j
    · rfl
    · rw [h5, h3] at hj; exact absurd rfl hj
  obtain ⟨h5, h6⟩ := answers_bit.1 h3
  have h7 : band (gN tests j) k = 0 := Classical.byContradiction fun h7 => by rw [answers_bit.2 ⟨h5, h7⟩] at h4; cases h4
  obtain ⟨y, y1, y2⟩ := band_ne.1 h6
  refine ⟨j, h5, ?_, h7⟩
  rw [testBit_bor, Bool.or_eq_true] at y2
  rcases y2 with y2 | y2
  · exact absurd h7 (band_ne.2 ⟨y, y1, y2⟩)
  · rw [Nat.testBit_two_pow, decide_eq_true_iff] at y2
    rw [y2]; exact y1
/-- What is clear tells. -/
theorem clear_tells {n : Nat} {tests : List Int} (hP : IsPool n tests) {d : Nat} (h : (List.range n).all (clearRow tests d (2 ^ n)) = true) : tellsTo tests d (2 ^ n) = true := by
  have hC := (clear_iff hP).1 h
  have key : ∀ a b, a < 2 ^ n → b < 2 ^ n → cnt b ≤ d → answersOf tests a = answersOf tests b → ∀ i, a.testBit i = true → b.testBit i = true := by
    intro a b ha hb cb e i hi
    cases hbi : b.testBit i
    · obtain ⟨j, j1, j2, j3⟩ := hC i (bit_lt ha hi) b hb cb hbi
      have h1 := answers_bit.2 ⟨j1, band_ne.2 ⟨i, j2, hi⟩⟩
      rw [e] at h1
      exact absurd j3 (answers_bit.1 h1).2
    · rfl
  rw [tellsTo_iff]
  intro k hk ck j hj cj e
  have : j = k := by
    apply Nat.eq_of_testBit_eq
    intro i
    rw [Bool.eq_iff_iff]
    exact ⟨key j k (by omega) hk ck e i, key k j hk (by omega) cj e.symm i⟩
  omega
/-- Behind clear pools just the wrong items are left. -/
theorem clear_left {n : Nat} {tests : List Int} (hP : IsPool n tests) {d : Nat} (h : (List.range n).all (clearRow tests d (2 ^ n)) = true) {wrong : Nat} (hw : wrong < 2 ^ n) (hc : cnt wrong ≤ d) : leftOf n tests (answersOf tests wrong) = wrong := by
  have hC := (clear_iff hP).1 h
  apply Nat.eq_of_testBit_eq
  intro i
  rw [Bool.eq_iff_iff, left_bit]
  constructor
  · rintro ⟨h1, h2⟩
    cases hb : wrong.testBit i
    · obtain ⟨j, j1, j2, j3⟩ := hC i h1 wrong hw hc hb
      rcases h2 j j1 with h3 | h3
      · exact absurd j3 (answers_bit.1 h3).2
      · rw [j2] at h3; cases h3
    · rfl
  · intro hb
    refine ⟨bit_lt hw hb, fun j hj => ?_⟩
    cases h2 : (gN tests j).testBit i
    · exact .inr rfl
    · exact .inl (answers_bit.2 ⟨hj, band_ne.2 ⟨i, h2, hb⟩⟩)
theorem tellsTo_less {tests : List Int} {d e N : Nat} (he : e ≤ d) (h : tellsTo tests d N = true) : tellsTo tests e N = true := by
  rw [tellsTo_iff] at h ⊢
  intro k hk ck j hj cj
  exact h k hk (by omega) j hj (by omega)
/-- The pool of the digits: each item answers by itself. -/
theorem digits_self : ∀ n, n ≤ 12 → ∀ i, i < n → answersOf (digitsN n) (2 ^ i) = i := by decide +kernel
theorem digits_many : ∀ n, n ≤ 12 → n ≤ 2 ^ (digitsN n).length := by decide +kernel
end Go.Proofs.YtkmfmhckpfomeaaGreatDoor

/- What holds of depths, best questions and played questions. No program in sight. No condition. -/
namespace Go.Proofs.YtkmfmhckpfomeaaGreatDoor

theorem cnt_le_of_sub {s t : Nat} (h : band s t = s) : cnt s ≤ cnt t := by
  unfold cnt
  apply List.countP_mono_left
  intro i _ hi
  have := congrArg (fun z => Nat.testBit z i) h
  simp only [testBit_band, hi, Bool.true_and] at this
  exact this
theorem sub_eq_of_cnt {s t : Nat} (ht : t ≤ 4095) (h : band s t = s) (hc : cnt t ≤ cnt s) : s = t := by
  have h1 := cnt_split t s
  have e : band t s = s := by unfold band at h ⊢; rw [Nat.and_comm]; exact h
  rw [e] at h1
  have h2 : without t s = 0 := (cnt_zero (without_le t s ht)).1 (by omega)
  have h3 := without_zero.1 h2
  rw [e] at h3
  exact h3
theorem qIn_sub {g : List Int} {t s x : Nat} (h : band t s = t) : band (qIn g t x) (qIn g s x) = qIn g t x := by
  unfold qIn
  apply Nat.eq_of_testBit_eq
  intro i
  have := congrArg (fun z => Nat.testBit z i) h
  simp only [testBit_band] at this
  simp only [testBit_band]
  revert this
  cases t.testBit i <;> cases s.testBit i <;> cases (ballN g x).testBit i <;> simp
theorem qOut_sub {g : List Int} {t s x : Nat} (h : band t s = t) : band (without t (qIn g t x)) (without s (qIn g s x)) = without t (qIn g t x) := by
  rw [qIn_without, qIn_without]
  apply Nat.eq_of_testBit_eq
  intro i
  have := congrArg (fun z => Nat.testBit z i) h
  simp only [testBit_band] at this
  simp only [testBit_band, testBit_without]
  revert this
  cases t.testBit i <;> cases s.testBit i <;> cases (ballN g x).testBit i <;> simp
theorem sub_in {g : List Int} {t s x : Nat} (h : band t s = t) (hq : qIn g t x = t) : band t (qIn g s x) = t := by
  have := qIn_sub (x := x) (g := g) h
  rwa [hq] at this
theorem sub_out {g : List Int} {t s x : Nat} (h : band t s = t) (hq : qIn g t x = 0) : band t (without s (qIn g s x)) = t := by
  have := qOut_sub (x := x) (g := g) h
  have e : without t (qIn g t x) = t := by
    rw [hq]
    apply Nat.eq_of_testBit_eq
    intro i
    rw [testBit_without, Nat.zero_testBit]; simp
  rwa [e] at this
theorem best_split {g : List Int} {s : Nat} (_ : s ≤ 4095) (h : dep g s < 99) (h1 : band s (s - 1) ≠ 0) : ∃ x, x < g.length ∧ tells g s x = true ∧ dep g s = 1 + max (dep g (qIn g s x)) (dep g (without s (qIn g s x))) := by
  have h2 := dep_more (g := g) h1
  unfold depTo at h2
  rcases minTo_has (depAt g s) g.length with e | ⟨x, hx, e⟩
  · omega
  · rw [e] at h2
    cases ht : tells g s x
    · unfold depAt at h2; rw [ht] at h2; simp at h2; omega
    · refine ⟨x, hx, ht, ?_⟩
      unfold depAt at h2; rw [ht, if_pos rfl] at h2; exact h2
/-- A part of a set is not deeper. -/
theorem dep_mono (g : List Int) : ∀ n s t : Nat, s ≤ n → s ≤ 4095 → t ≠ 0 → band t s = t → dep g s < 99 → dep g t ≤ dep g s
  | 0, s, t, hn, hs, h0, ht, hd => by
    exfalso
    apply h0
    obtain rfl : s = 0 := by omega
    rw [← ht]; simp [band]
  | n + 1, s, t, hn, hs, h0, ht, hd => by
    have hle : t ≤ s := by rw [← ht]; exact band_le _ _
    by_cases h1 : band s (s - 1) = 0
    · have c1 := (one_iff hs).1 h1
      have c2 := mt (cnt_zero (show t ≤ 4095 by omega)).1 h0
      rw [sub_eq_of_cnt hs ht (by omega)]
      exact Nat.le_refl _
    · obtain ⟨x, hx, hT, e⟩ := best_split hs hd h1
      have hT' := tells_iff.1 hT
      have i1 := qIn_lt hT'.2
      have i2 := qOut_lt hT'.1
      by_cases q0 : qIn g t x = 0
      · have := dep_mono g n (without s (qIn g s x)) t (by omega) (by omega) h0 (sub_out ht q0) (by omega)
        omega
      · by_cases q1 : qIn g t x = t
        · have := dep_mono g n (qIn g s x) t (by omega) (by omega) h0 (sub_in ht q1) (by omega)
          omega
        · have d1 := dep_mono g n (qIn g s x) (qIn g t x) (by omega) (by omega) q0 (qIn_sub ht) (by omega)
          have d2 := dep_mono g n (without s (qIn g s x)) (without t (qIn g t x)) (by omega) (by omega) (mt qOut_zero.1 q1) (qOut_sub ht) (by omega)
          by_cases h2 : band t (t - 1) = 0
          · rw [dep_one h2]; omega
          · have h3 := minTo_at (f := depAt g t) hx
            have h4 := dep_more (g := g) h2
            unfold depTo at h4
            have h5 : depAt g t x = 1 + max (dep g (qIn g t x)) (dep g (without t (qIn g t x))) := by
              unfold depAt; rw [tells_iff.2 ⟨q0, q1⟩, if_pos rfl]
            omega
/-- Depths are not below halving. -/
theorem dep_log (g : List Int) : ∀ n s : Nat, s ≤ n → s ≤ 4095 → s ≠ 0 → dep g s < 99 → cnt s ≤ 2 ^ dep g s
  | 0, s, hn, _, h0, _ => by omega
  | n + 1, s, hn, hs, h0, hd => by
    by_cases h1 : band s (s - 1) = 0
    · have := (one_iff hs).1 h1
      have := Nat.two_pow_pos (dep g s)
      omega
    · obtain ⟨x, hx, hT, e⟩ := best_split hs hd h1
      have hT' := tells_iff.1 hT
      have i1 := qIn_lt hT'.2
      have i2 := qOut_lt hT'.1
      have d1 := dep_log g n (qIn g s x) (by omega) (by omega) hT'.1 (by omega)
      have d2 := dep_log g n (without s (qIn g s x)) (by omega) (by omega) (mt qOut_zero.1 hT'.2) (by omega)
      have hc := q_cnt g s x
      have p1 : 2 ^ dep g (qIn g s x) ≤ 2 ^ (dep g s - 1) := Nat.pow_le_pow_right (by omega) (by omega)
      have p2 : 2 ^ dep g (without s (qIn g s x)) ≤ 2 ^ (dep g s - 1) := Nat.pow_le_pow_right (by omega) (by omega)
      have p3 : 2 ^ dep g s = 2 ^ (dep g s - 1) * 2 := by rw [← Nat.pow_succ]; congr 1; omega
      omega
/-- Behind a best question the deeper part is less deep by one. -/
theorem best_max {g : List Int} {s : Nat} (hs : s ≤ 4095) (h : dep g s < 99) (h0 : dep g s ≠ 0) : max (dep g (qIn g s (bestOf g s))) (dep g (without s (qIn g s (bestOf g s)))) + 1 = dep g s := by
  obtain ⟨hg, hx⟩ := best_good hs h h0
  have h1 := good_iff.1 hg
  have h2 : band s (s - 1) ≠ 0 := fun e => h0 (dep_one e)
  have h3 := dep_more (g := g) h2
  have h4 := minTo_at (f := depAt g s) hx
  unfold depTo at h3
  have h5 : depAt g s (bestOf g s) = 1 + max (dep g (qIn g s (bestOf g s))) (dep g (without s (qIn g s (bestOf g s)))) := by
    unfold depAt; rw [tells_iff.2 h1.1, if_pos rfl]
  omega
end Go.Proofs.YtkmfmhckpfomeaaGreatDoor

/- Taking sensors out one by one: plain. No condition. -/
namespace Go.Proofs.YtkmfmhckpfomeaaGreatDoor

theorem low_blocks : ∀ a, a < 64 → ∀ b, b < 64 → (decide (band (64 * a + b) (64 * a + b - 1) = without (64 * a + b) (bxor (64 * a + b) (band (64 * a + b) (64 * a + b - 1)))) && decide (cnt (bxor (64 * a + b) (band (64 * a + b) (64 * a + b - 1))) ≤ 1)) = true := by decide +kernel
/-- Taking out the least sensor takes out one at most. -/
theorem low_out {f : Nat} (h : f ≤ 4095) : ∃ d, cnt d ≤ 1 ∧ band f (f - 1) = without f d := by
  have := low_blocks (f / 64) (by omega) (f % 64) (by omega)
  rw [show 64 * (f / 64) + f % 64 = f from by omega, Bool.and_eq_true, decide_eq_true_iff, decide_eq_true_iff] at this
  exact ⟨_, this.2, this.1⟩
theorem cnt_bor (t d : Nat) : cnt (bor t d) ≤ cnt t + cnt d := by
  have h1 := cnt_split (bor t d) t
  have e1 : band (bor t d) t = t := by
    apply Nat.eq_of_testBit_eq
    intro i
    simp only [testBit_band, testBit_bor]
    cases t.testBit i <;> simp
  have h2 : cnt (without (bor t d) t) ≤ cnt d := by
    apply cnt_le_of_sub
    apply Nat.eq_of_testBit_eq
    intro i
    simp only [testBit_band, testBit_bor, testBit_without]
    cases t.testBit i <;> cases d.testBit i <;> rfl
  rw [e1] at h1
  omega
theorem without_bor (s t d : Nat) : without (without s t) d = without s (bor t d) := by
  apply Nat.eq_of_testBit_eq
  intro i
  simp only [testBit_bor, testBit_without]
  cases s.testBit i <;> cases t.testBit i <;> cases d.testBit i <;> rfl
/-- At most i sensors have been taken out of s. -/
def Taken (s i f : Nat) : Prop := ∃ t, cnt t ≤ i ∧ f = without s t
theorem Taken.start (s : Nat) : Taken s 0 s := ⟨0, by decide, by apply Nat.eq_of_testBit_eq; intro i; simp [testBit_without]⟩
theorem Taken.out {s i f d : Nat} (h : Taken s i f) (hd : cnt d ≤ 1) : Taken s (i + 1) (without f d) := by
  obtain ⟨t, h1, rfl⟩ := h
  refine ⟨bor t d, ?_, without_bor s t d⟩
  have := cnt_bor t d
  omega
theorem Taken.low {s i f : Nat} (h : Taken s i f) (hf : f ≤ 4095) : Taken s (i + 1) (band f (f - 1)) := by
  obtain ⟨d, h1, h2⟩ := low_out hf
  rw [h2]
  exact h.out h1
/-- Fewer sensors than the least mark or difference may be taken out. -/
theorem Taken.kind {g : List Int} {s i f : Nat} (h : Taken s i f) (hi : i < silMin g s g.length) : kindN g 2 f = true := by
  obtain ⟨t, h1, rfl⟩ := h
  cases hk : kindN g 2 (without s t)
  · have := silMin_low hk
    omega
  · rfl
/-- What is told on is not empty. -/
theorem Taken.pos {g : List Int} (hg : IsGraph g) {s i f : Nat} (h : Taken s i f) (hi : i < silMin g s g.length) : f ≠ 0 := by
  intro e
  have h1 := (kind2_iff.1 (h.kind hi)).1 0 (by have := hg.pos; omega)
  rw [e] at h1
  apply h1
  have := mark_sub g 0 0
  rw [← this]
  apply Nat.eq_of_testBit_eq
  intro j
  simp [testBit_band]
end Go.Proofs.YtkmfmhckpfomeaaGreatDoor
