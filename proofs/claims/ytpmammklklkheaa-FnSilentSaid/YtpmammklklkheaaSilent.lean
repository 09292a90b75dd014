/- Silent sensors: the reference and the program compute the same plain function. The condition: the list has at most 2^20 numbers. -/
import Derived.Test.YtpmammklklkheaaCodeIn
namespace Go.Proofs.Ytpmammklklkheaa
open Go.RowKit
open BigFrame

def sensorSilent (g : List Int) (s : Int) : Int × Bool := if codeIn g 2 s then (((silMin g s.toNat g.length : Nat) : Int) - 1, true) else (0, false)
theorem codeIn_iff {g : List Int} {kind s : Int} (h : codeIn g kind s = true) : ∃ K k : Nat, kind = K ∧ K ≤ 3 ∧ s = k ∧ k < 2 ^ g.length ∧ k ≤ 4095 ∧ IsGraph g ∧ kindN g K k = true := by
  unfold codeIn at h
  simp only [Bool.and_eq_true] at h
  obtain ⟨⟨⟨h0, h1⟩, h2⟩, h3⟩ := h
  obtain ⟨k, rfl, hk⟩ := setB_iff.1 h2
  have hG := graphIn_iff.1 h0
  have hb := inB_iff.1 h1
  exact ⟨kind.toNat, k, by omega, by omega, rfl, hk, by have := pow_le_12 hG.le; omega, hG, h3⟩
theorem silMin_le (g : List Int) (s n : Nat) : silMin g s n ≤ 12 := silMin_anti g s (Nat.zero_le n)

set_option maxHeartbeats 2000000 in
theorem sensorSilentS_c (v : Value) (g : List Int) (s : Int) (w : World) (hv : Rd w v g) (hm : g.length ≤ 1048576) :
    Calls Try.prog 33 #[v, .int .i64 s] w fun e w' => e = .returned (pairV (sensorSilent g s)) ∧ Ext w w' := by
  obtain ⟨a, c, rfl⟩ := hv.form
  have HV := Lib.hid hv
  have HC := Lib.hid (codeInS_c _ g 2 s w hv hm)
  clear hv hm
  cases h0 : codeIn g 2 s
  · rw [h0] at HC
    rw [show sensorSilent g s = (0, false) from by unfold sensorSilent; rw [h0]; rfl]
    go_enter Try.func33, Try.ntmps33
    go_wp2_with fail
    refine HC.out.mono ?_
    rintro e w1 ⟨rfl, x1⟩
    go_wp2
    go_ret2
    exact ⟨rfl, x1⟩
  · rw [h0] at HC
    obtain ⟨K, k, -, -, rfl, hk, hk4, hG, -⟩ := codeIn_iff h0
    rw [show sensorSilent g k = (((silMin g k g.length : Nat) : Int) - 1, true) from by unfold sensorSilent; rw [h0]; rfl]
    have HG := Lib.hid hG
    have hl := hG.le
    clear h0 hG hk
    go_enter Try.func33, Try.ntmps33
    go_wp2_with fail
    refine HC.out.mono ?_
    rintro e w1 ⟨rfl, x1⟩
    have X1 := Lib.hid x1; clear x1
    go_wp2_with fail
    refine (l2Marks_c _ g k _ (HV.out.ext X1.out) HG.out hk4).mono ?_
    rintro e w2 ⟨vm, rfl, om, x2⟩
    obtain ⟨gm, cm, rfl⟩ := om.form' (marksTo_length g k g.length)
    have OM := Lib.hid om.rd; have X2 := Lib.hid (X1.out.trans x2)
    clear om x2
    go_wp2
    go_loopw [7, 8] (fun m i wr => ∃ (i' M : Nat), i' ≤ g.length ∧ i = .int .i64 i' ∧ m = .int .i64 M ∧ M ≤ 12 ∧ Hid (M = silMin g k i') ∧ Hid (Ext w2 wr)) (fun _ i _ => g.length - (intOf i).toNat)
    case atStart => exact ⟨0, 12, Nat.zero_le _, rfl, rfl, Nat.le_refl _, rfl, Ext.refl _⟩
    case round =>
      obtain ⟨i, M, hi, rfl, rfl, hM, HMM, HX⟩ := hrel
      by_cases hlt : i < g.length
      · obtain ⟨b, o, rfl, -, -, hc⟩ := OM.out.atI hlt
        have c1 := hc _ HX.out
        rw [show getI (marksTo g k g.length) i = ((markN g k i : Nat) : Int) from marksTo_get _ _ _ _ hlt] at c1
        have m4 := markN_small HG.out hlt k
        have HL := Lib.hid (l1Count_c (markN g k i) (by omega))
        obtain ⟨mi, hmi⟩ : ∃ m, m = markN g k i := ⟨_, rfl⟩
        rw [← hmi] at c1 m4 HL
        have HMI := Lib.hid hmi
        have hcnt := cnt_le mi
        clear hc hmi
        go_wp2_with (go_at_call 70; refine (HL.out _).mono ?_; rintro e w' ⟨rfl, rfl⟩)
        all_goals
          go_loopw [7, 9] (fun m q wr => ∃ (k' M' : Nat), k' ≤ i ∧ q = .int .i64 k' ∧ m = .int .i64 M' ∧ M' ≤ 12 ∧ Hid (M' = pairMin g k i k' (min (silMin g k i) (cnt mi))) ∧ Hid (Ext w2 wr)) (fun _ q _ => i - (intOf q).toNat)
          case atStart => exact ⟨0, min M (cnt mi), Nat.zero_le _, rfl, congrArg (Value.int .i64) (by omega), by omega, by (unfold Hid; rw [← HMM.out]; rfl), HX⟩
          case round =>
            clear HX c1
            obtain ⟨k', M', hk', rfl, rfl, hM', HMM', HX⟩ := hrel
            by_cases hlk : k' < i
            · obtain ⟨b', o', hbo, -, -, hc⟩ := OM.out.atI hlt
              obtain ⟨rfl, rfl⟩ : b = b' ∧ o = o' := by simpa using hbo
              have c1 := fun u => hc _ (HX.out.trans (clip_ext wr u))
              rw [show getI (marksTo g k g.length) i = ((markN g k i : Nat) : Int) from marksTo_get _ _ _ _ hlt, ← HMI.out] at c1
              obtain ⟨b', o', hbo2, -, -, hc2⟩ := OM.out.atI (k := k') (by omega)
              obtain ⟨rfl, rfl⟩ : b = b' ∧ o = o' := by simpa using hbo2
              have c2 := fun u => hc2 _ (HX.out.trans (clip_ext wr u))
              rw [show getI (marksTo g k g.length) k' = ((markN g k k' : Nat) : Int) from marksTo_get _ _ _ _ (by omega)] at c2
              have n4 := markN_small HG.out (show k' < g.length by omega) k
              have HPN : Hid (pairMin g k i (k' + 1) (min (silMin g k i) (cnt mi)) = min M' (cnt (bxor mi (markN g k k')))) := by unfold Hid; rw [HMM'.out, HMI.out]; rfl
              obtain ⟨mk, hmk⟩ : ∃ m, m = markN g k k' := ⟨_, rfl⟩
              rw [← hmk] at c2 n4 HPN
              have e1 := bits_xor mi mk (by omega) (by omega)
              have x4 := bxor_small m4 n4
              have HLX := Lib.hid fun w => l1Count_c (bxor mi mk) (by omega) w
              have hcx := cnt_le (bxor mi mk)
              obtain ⟨cx, hcx'⟩ : ∃ m, m = cnt (bxor mi mk) := ⟨_, rfl⟩
              rw [← hcx'] at HPN HLX hcx
              clear hc hc2 hbo hbo2 hmk hcx'
              go_wp2
              refine wp_region_ext (by kernel_rfl) (by kernel_rfl) ?_
              repeat (go_big_quiet_step ((go_at_call 70; exact Calls.clip_same (HLX.out _))))
              all_goals
                refine wpQuiet_nil ?_
                rintro _ ⟨u, rfl⟩
                go_wp2
              all_goals
                go_roundw
                case rel => exact ⟨k' + 1, min M' cx, by omega, by go_num, congrArg (Value.int .i64) (by omega), by omega, HPN.out.symm, HX.out.trans (clip_ext _ _)⟩
                case measure => simp [intOf]; omega
            · obtain rfl : k' = i := by omega
              go_wp2
              go_roundw
              case rel => exact ⟨k' + 1, M', by omega, by go_num, rfl, hM', by (unfold Hid; rw [HMM'.out, HMI.out]; rfl), HX⟩
              case measure => simp [intOf]; omega
      · obtain rfl : i = g.length := by omega
        go_wp2
        go_ret2
        exact ⟨by rw [← HMM.out]; rfl, X2.out.trans HX.out⟩

set_option maxHeartbeats 2000000 in
theorem sensorSilentI_c (v : Value) (g : List Int) (s : Int) (w : World) (hv : Rd w v g) (hm : g.length ≤ 1048576) :
    Calls Try.prog 32 #[v, .int .i64 s] w fun e w' => e = .returned (pairV (sensorSilent g s)) ∧ Ext w w' := by
  obtain ⟨a, c, rfl⟩ := hv.form
  have HV := Lib.hid hv
  have HC := Lib.hid (codeInI_c _ g 2 s w hv hm)
  clear hv hm
  cases h0 : codeIn g 2 s
  · rw [h0] at HC
    rw [show sensorSilent g s = (0, false) from by unfold sensorSilent; rw [h0]; rfl]
    go_enter Try.func32, Try.ntmps32
    go_wp2_with fail
    refine HC.out.mono ?_
    rintro e w1 ⟨rfl, x1⟩
    go_wp2
    go_ret2
    exact ⟨rfl, x1⟩
  · rw [h0] at HC
    obtain ⟨K, k, -, -, rfl, hk, hk4, hG, -⟩ := codeIn_iff h0
    obtain ⟨s, rfl⟩ : ∃ s, s = k := ⟨k, rfl⟩
    rw [show sensorSilent g s = (((silMin g s g.length : Nat) : Int) - 1, true) from by unfold sensorSilent; rw [h0]; rfl]
    have HG := Lib.hid hG
    have HK := Lib.hid hk
    have HS0 := Lib.hid (sizeC s hk4)
    have hc12 := cnt_le s
    clear h0 hG hk
    go_enter Try.func32, Try.ntmps32
    go_wp2_with fail
    refine HC.out.mono ?_
    rintro e w1 ⟨rfl, x1⟩
    have X1 := Lib.hid x1; clear x1
    go_wp2_with fail
    refine (bookOf_c _ g _ (HV.out.ext X1.out) HG.out).mono ?_
    rintro e w2 ⟨b, vb, vf, vs, rfl, hb, hbk, x2⟩
    have BK := Lib.hid hbk; have X2 := Lib.hid (X1.out.trans x2); clear hbk x2
    go_wp2_with (go_at_call 57; refine (HS0.out _).mono ?_; rintro e w' ⟨rfl, rfl⟩)
    go_loopw [7, 8] (fun f q wr => ∃ (o F : Nat), q = .int .i64 o ∧ f = .int .i64 F ∧ band o s = o ∧ Hid (SilAt g s o F) ∧ F ≤ 13 ∧ Hid (Ext w2 wr)) (fun _ q _ => (intOf q).toNat)
    case atStart => exact ⟨s, cnt s + 1, rfl, by go_num, Nat.and_self _, SilAt.start g s, by omega, Ext.refl _⟩
    case round =>
      obtain ⟨o, F, rfl, rfl, hpo, HSI, hF, HX⟩ := hrel
      have ho4 : o ≤ 4095 := Nat.le_trans (sub_of_part hpo) hk4
      have HPO := Lib.hid hpo
      have HS := Lib.hid (sizeC o ho4)
      have hco := cnt_le o
      have e1 := bits_andNot s o (by omega) (by omega)
      have HIS : Hid (Calls Try.prog 71 #[.pointer (some ⟨b, 0, none⟩), .int .i64 2, .int .i64 (without s o : Nat)] wr fun e w' => e = .returned (.bool (kindN g 2 (without s o))) ∧ Ext wr w') :=
        is_c b _ vb vf vs g 2 (without s o) wr (BK.out.ext HX.out) (HV.out.ext (X2.out.trans HX.out)) HG.out (without_lt HK.out) (by omega)
      clear hpo
      by_cases hc : cnt o < F
      · cases hkn : kindN g 2 (without s o)
        · have HFN : Hid (fewNext g s o F = cnt o) := by unfold Hid fewNext; rw [decide_eq_true hc, hkn]; rfl
          rw [hkn] at HIS
          clear hkn
          by_cases hz : o = 0
          · have hz0 : ((o : Int) == 0) = true := by simp [hz]
            have HF : Hid (cnt o = silMin g s g.length) := by
              have h1 := HSI.out
              rw [hz] at h1
              have h2 := SilAt.done HG.out h1
              rw [← hz] at h2
              exact HFN.out.symm.trans h2
            clear hz
            go_wp2_with (go_at_call 57; refine (HS.out _).mono ?_; rintro e w' ⟨rfl, rfl⟩)
            refine HIS.out.mono ?_
            rintro e w3 ⟨rfl, x3⟩
            have X3 := Lib.hid (HX.out.trans x3); clear x3
            go_wp2_with (go_at_call 57; refine (HS.out _).mono ?_; rintro e w' ⟨rfl, rfl⟩)
            go_ret2
            exact ⟨congrArg (fun z : Nat => Ending.returned (pairV (((z : Nat) : Int) - 1, true))) HF.out, X2.out.trans X3.out⟩
          · have hz0 : ((o : Int) == 0) = false := by simp [hz]
            have e3 := bits_and (o - 1) s (by omega) (by omega)
            rw [show ((o - 1 : Nat) : Int) = (o : Int) - 1 from by omega] at e3
            have HNX := Lib.hid (HSI.out.next HPO.out)
            rw [HFN.out] at HNX
            have hnl : band (o - 1) s ≤ o - 1 := band_sub_le _ _
            go_wp2_with (go_at_call 57; refine (HS.out _).mono ?_; rintro e w' ⟨rfl, rfl⟩)
            refine HIS.out.mono ?_
            rintro e w3 ⟨rfl, x3⟩
            have X3 := Lib.hid (HX.out.trans x3); clear x3
            go_wp2_with (go_at_call 57; refine (HS.out _).mono ?_; rintro e w' ⟨rfl, rfl⟩)
            go_roundw
            case rel => exact ⟨band (o - 1) s, cnt o, rfl, rfl, part_next, HNX.out, by omega, X3.out⟩
            case measure => simp [intOf]; omega
        · have HFN : Hid (fewNext g s o F = F) := by unfold Hid fewNext; rw [hkn]; simp
          rw [hkn] at HIS
          clear hkn
          by_cases hz : o = 0
          · have hz0 : ((o : Int) == 0) = true := by simp [hz]
            have HF : Hid (F = silMin g s g.length) := by
              have h1 := HSI.out
              rw [hz] at h1
              have h2 := SilAt.done HG.out h1
              rw [← hz] at h2
              exact HFN.out.symm.trans h2
            clear hz
            go_wp2_with (go_at_call 57; refine (HS.out _).mono ?_; rintro e w' ⟨rfl, rfl⟩)
            refine HIS.out.mono ?_
            rintro e w3 ⟨rfl, x3⟩
            have X3 := Lib.hid (HX.out.trans x3); clear x3
            go_wp2_with (go_at_call 57; refine (HS.out _).mono ?_; rintro e w' ⟨rfl, rfl⟩)
            go_ret2
            exact ⟨congrArg (fun z : Nat => Ending.returned (pairV (((z : Nat) : Int) - 1, true))) HF.out, X2.out.trans X3.out⟩
          · have hz0 : ((o : Int) == 0) = false := by simp [hz]
            have e3 := bits_and (o - 1) s (by omega) (by omega)
            rw [show ((o - 1 : Nat) : Int) = (o : Int) - 1 from by omega] at e3
            have HNX := Lib.hid (HSI.out.next HPO.out)
            rw [HFN.out] at HNX
            have hnl : band (o - 1) s ≤ o - 1 := band_sub_le _ _
            go_wp2_with (go_at_call 57; refine (HS.out _).mono ?_; rintro e w' ⟨rfl, rfl⟩)
            refine HIS.out.mono ?_
            rintro e w3 ⟨rfl, x3⟩
            have X3 := Lib.hid (HX.out.trans x3); clear x3
            go_wp2_with (go_at_call 57; refine (HS.out _).mono ?_; rintro e w' ⟨rfl, rfl⟩)
            go_roundw
            case rel => exact ⟨band (o - 1) s, F, rfl, rfl, part_next, HNX.out, by omega, X3.out⟩
            case measure => simp [intOf]; omega
      · have HFN : Hid (fewNext g s o F = F) := by unfold Hid fewNext; rw [decide_eq_false hc]; rfl
        by_cases hz : o = 0
        · have hz0 : ((o : Int) == 0) = true := by simp [hz]
          have HF : Hid (F = silMin g s g.length) := by
            have h1 := HSI.out
            rw [hz] at h1
            have h2 := SilAt.done HG.out h1
            rw [← hz] at h2
            exact HFN.out.symm.trans h2
          clear hz
          go_wp2_with (go_at_call 57; refine (HS.out _).mono ?_; rintro e w' ⟨rfl, rfl⟩)
          go_ret2
          exact ⟨congrArg (fun z : Nat => Ending.returned (pairV (((z : Nat) : Int) - 1, true))) HF.out, X2.out.trans HX.out⟩
        · have hz0 : ((o : Int) == 0) = false := by simp [hz]
          have e3 := bits_and (o - 1) s (by omega) (by omega)
          rw [show ((o - 1 : Nat) : Int) = (o : Int) - 1 from by omega] at e3
          have HNX := Lib.hid (HSI.out.next HPO.out)
          rw [HFN.out] at HNX
          have hnl : band (o - 1) s ≤ o - 1 := band_sub_le _ _
          go_wp2_with (go_at_call 57; refine (HS.out _).mono ?_; rintro e w' ⟨rfl, rfl⟩)
          go_roundw
          case rel => exact ⟨band (o - 1) s, F, rfl, rfl, part_next, HNX.out, by omega, HX.out⟩
          case measure => simp [intOf]; omega

end Go.Proofs.Ytpmammklklkheaa
