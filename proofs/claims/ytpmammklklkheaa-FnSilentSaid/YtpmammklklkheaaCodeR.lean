/- Codes by the reference: resolving codes; whether a set is a code of a kind; the least code. The condition: the list has at most 2^20 numbers. -/
import Derived.Test.YtpmammklklkheaaCodeS
import Derived.Test.YtpmammklklkheaaSensorLeast
namespace Go.Proofs.Ytpmammklklkheaa
open Go.RowKit
open BigFrame

theorem any_succ (p : Nat → Bool) (c : Nat) : (List.range (c + 1)).any p = ((List.range c).any p || p c) := by
  rw [List.range_succ, List.any_append]; simp
theorem any_more {p : Nat → Bool} {c n : Nat} (h : c ≤ n) (ht : (List.range c).any p = true) : (List.range n).any p = true := by
  rw [List.any_eq_true] at ht ⊢
  obtain ⟨x, hx, hp⟩ := ht
  exact ⟨x, List.mem_range.2 (by have := List.mem_range.1 hx; omega), hp⟩

set_option maxRecDepth 100000 in
set_option maxHeartbeats 4000000 in
theorem l2Resolves_c (v : Value) (vs : List Value) (g : List Int) (s : Nat) (w : World) (ht : IsTab w g v vs) (hg : IsGraph g) (hs : s ≤ 4095) :
    Calls Try.prog 124 #[v, .int .i64 s] w fun e w' => e = .returned (.bool (resN g s)) ∧ Ext w w' := by
  obtain ⟨bt, ct, rfl, hbt, hget⟩ := ht.get hg
  have HT := Lib.hid hget
  have hl := hg.le
  clear ht hg hget
  go_enter Try.func124, Try.ntmps124
  go_wp2
  go_loopw [5] (fun i wr => ∃ k : Nat, k ≤ g.length ∧ i = .int .i64 k ∧ Hid (∀ j, j < k → resRow g s j = true) ∧ Hid (Ext w wr)) (fun i _ => g.length - (intOf i).toNat)
  case atStart => exact ⟨0, Nat.zero_le _, rfl, fun j hj => absurd hj (Nat.not_lt_zero j), Ext.refl _⟩
  case round =>
    obtain ⟨i, hi, rfl, HI, HX⟩ := hrel
    by_cases hlt : i < g.length
    · go_wp2
      go_loopw [6] (fun q wr => ∃ k : Nat, k ≤ i ∧ q = .int .i64 k ∧ Hid (∀ j, j < k → resP g s i j = true) ∧ Hid (Ext w wr)) (fun q _ => i - (intOf q).toNat)
      case atStart => exact ⟨0, Nat.zero_le _, rfl, fun j hj => absurd hj (Nat.not_lt_zero j), HX⟩
      case round =>
        clear HX
        obtain ⟨k, hk, rfl, HJ, HX⟩ := hrel
        by_cases hlk : k < i
        · go_wp2
          go_loopw [7, 8] (fun f q wr => ∃ (c : Nat) (ok : Bool), c ≤ g.length ∧ f = .bool ok ∧ q = .int .i64 c ∧ Hid (ok = (List.range c).any (farP g s i k)) ∧ Hid (Ext w wr)) (fun _ q _ => g.length - (intOf q).toNat)
          case atStart => exact ⟨0, false, Nat.zero_le _, rfl, rfl, rfl, HX⟩
          case round =>
            clear HX
            obtain ⟨c, ok, hc, rfl, rfl, HOK, HX⟩ := hrel
            cases hok : ok
            · rw [hok] at HOK
              clear hok
              by_cases hlc : c < g.length
              · obtain ⟨ri, oi, ci, hi1, hi2⟩ := HT.out i hlt
                obtain ⟨rk, ok', ck, hk1, hk2⟩ := HT.out k (by omega)
                have c1 := fun u => hi1 _ (HX.out.trans (clip_ext wr u))
                have c2 := fun u => hi2 c hlc _ (HX.out.trans (clip_ext wr u))
                have c3 := fun u => hk1 _ (HX.out.trans (clip_ext wr u))
                have c4 := fun u => hk2 c hlc _ (HX.out.trans (clip_ext wr u))
                have hd1 := dd_le g i c
                have hd2 := dd_le g k c
                obtain ⟨di, hdi⟩ : ∃ d, d = dd g i c := ⟨_, rfl⟩
                obtain ⟨dk, hdk⟩ : ∃ d, d = dd g k c := ⟨_, rfl⟩
                rw [← hdi] at c2 hd1
                rw [← hdk] at c4 hd2
                have HDI := Lib.hid hdi; have HDK := Lib.hid hdk
                have HBT := Lib.hid (l1Bit_c s c (by omega) (by omega))
                clear hi1 hi2 hk1 hk2 hdi hdk
                cases hbs : s.testBit c
                · have HFP : Hid (farP g s i k c = false) := by unfold Hid farP; rw [hbs]; rfl
                  rw [hbs] at HBT
                  clear hbs
                  go_wp2
                  refine wp_region_ext (by kernel_rfl) (by kernel_rfl) ?_
                  repeat (go_big_quiet_step ((go_at_call 48; exact Calls.clip_same (HBT.out _))))
                  refine wpQuiet_nil ?_
                  rintro _ ⟨u, rfl⟩
                  go_wp2
                  go_roundw
                  case rel => exact ⟨c + 1, _, by omega, rfl, by go_num, by unfold Hid; rw [any_succ, ← HOK.out, HFP.out]; rfl, HX.out.trans (clip_ext _ _)⟩
                  case measure => simp [intOf]; omega
                · rw [hbs] at HBT
                  by_cases he : di = dk
                  · have he' : ((di : Int) != (dk : Int)) = false := by simp [he]
                    have HFP : Hid (farP g s i k c = false) := by unfold Hid farP; rw [← HDI.out, ← HDK.out]; simp [he]
                    clear hbs he
                    go_wp2
                    refine wp_region_ext (by kernel_rfl) (by kernel_rfl) ?_
                    repeat (go_big_quiet_step ((go_at_call 48; exact Calls.clip_same (HBT.out _))))
                    refine wpQuiet_nil ?_
                    rintro _ ⟨u, rfl⟩
                    go_wp2
                    go_roundw
                    case rel => exact ⟨c + 1, _, by omega, rfl, by go_num, by unfold Hid; rw [any_succ, ← HOK.out, HFP.out]; rfl, HX.out.trans (clip_ext _ _)⟩
                    case measure => simp [intOf]; omega
                  · have he' : ((di : Int) != (dk : Int)) = true := by simp; omega
                    have HFP : Hid (farP g s i k c = true) := by unfold Hid farP; rw [hbs, ← HDI.out, ← HDK.out]; simp [he]
                    clear hbs he
                    go_wp2
                    refine wp_region_ext (by kernel_rfl) (by kernel_rfl) ?_
                    repeat (go_big_quiet_step ((go_at_call 48; exact Calls.clip_same (HBT.out _))))
                    refine wpQuiet_nil ?_
                    rintro _ ⟨u, rfl⟩
                    go_wp2
                    go_roundw
                    case rel => exact ⟨c + 1, _, by omega, rfl, by go_num, by unfold Hid; rw [any_succ, ← HOK.out, HFP.out]; rfl, HX.out.trans (clip_ext _ _)⟩
                    case measure => simp [intOf]; omega
              · obtain rfl : c = g.length := by omega
                have HF : Hid (resN g s = false) := by
                  unfold Hid resN
                  refine bears_false hlt ?_
                  unfold resRow
                  exact bears_false hlk HOK.out.symm
                go_wp2
                go_ret
                exact ⟨ret_bool HF.out.symm, HX.out⟩
            · rw [hok] at HOK
              clear hok
              have HT1 : Hid (resP g s i k = true) := any_more hc HOK.out.symm
              by_cases hlc : c < g.length
              · go_wp2
                go_roundw
                case rel => exact ⟨k + 1, by omega, by go_num, fun j hj => by
                  by_cases h : j = k
                  · subst h; exact HT1.out
                  · exact HJ.out j (by omega), HX⟩
                case measure => simp [intOf]; omega
              · go_wp2
                go_roundw
                case rel => exact ⟨k + 1, by omega, by go_num, fun j hj => by
                  by_cases h : j = k
                  · subst h; exact HT1.out
                  · exact HJ.out j (by omega), HX⟩
                case measure => simp [intOf]; omega
        · obtain rfl : k = i := by omega
          go_wp2
          go_roundw
          case rel => exact ⟨k + 1, by omega, by go_num, fun j hj => by
            by_cases h : j = k
            · subst h; exact bears_true HJ.out
            · exact HI.out j (by omega), HX⟩
          case measure => simp [intOf]; omega
    · obtain rfl : i = g.length := by omega
      go_wp2
      go_ret
      exact ⟨ret_bool (bears_true HI.out).symm, HX.out⟩

set_option maxHeartbeats 1000000 in
theorem l2In_c (v vt : Value) (vs : List Value) (g : List Int) (K s : Nat) (w : World) (hv : Rd w v g) (ht : IsTab w g vt vs) (hg : IsGraph g) (hs : s ≤ 4095) (hK : K ≤ 3) :
    Calls Try.prog 108 #[v, vt, .int .i64 K, .int .i64 s] w fun e w' => e = .returned (.bool (kindN g K s)) ∧ Ext w w' := by
  obtain ⟨a, c, rfl⟩ := hv.form
  have HM := Lib.hid (l2Marks_c _ g s w hv hg hs)
  have HT := Lib.hid ht; have HG := Lib.hid hg
  clear hv ht hg
  have enter : ∀ (K : Nat), K ≤ 3 → kindN g K s = (if K = 0 then covN g s else if K = 1 then covN g s && apartN g s false else if K = 2 then covN g s && apartN g s true else resN g s) := fun _ _ => rfl
  rw [enter K hK]
  clear enter
  obtain rfl | rfl | rfl | rfl : K = 0 ∨ K = 1 ∨ K = 2 ∨ K = 3 := by omega
  · go_enter Try.func108, Try.ntmps108
    go_wp2_with fail
    refine HM.out.mono ?_
    rintro e w1 ⟨vm, rfl, om, x1⟩
    have OM := Lib.hid om.rd; have X1 := Lib.hid x1; clear om x1
    go_wp2_with (go_at_call 122; refine (l2Covers_c _ g s _ OM.out HG.out).mono ?_; rintro e w' ⟨rfl, rfl⟩)
    go_ret
    exact ⟨rfl, X1.out⟩
  · cases hc : covN g s
    · go_enter Try.func108, Try.ntmps108
      go_wp2_with fail
      refine HM.out.mono ?_
      rintro e w1 ⟨vm, rfl, om, x1⟩
      have OM := Lib.hid om.rd; have X1 := Lib.hid x1; clear om x1
      go_wp2_with (go_at_call 122; refine (l2Covers_c _ g s _ OM.out HG.out).mono ?_; rintro e w' ⟨rfl, rfl⟩)
      go_ret
      exact ⟨rfl, X1.out⟩
    · go_enter Try.func108, Try.ntmps108
      go_wp2_with fail
      refine HM.out.mono ?_
      rintro e w1 ⟨vm, rfl, om, x1⟩
      have OM := Lib.hid om.rd; have X1 := Lib.hid x1; clear om x1
      go_wp2_with (first | (go_at_call 122; refine (l2Covers_c _ g s _ OM.out HG.out).mono ?_; rintro e w' ⟨rfl, rfl⟩) | (go_at_call 123; refine (l2ApartF_c _ g s _ OM.out HG.out hs).mono ?_; rintro e w2 ⟨rfl, x2⟩))
      go_ret
      exact ⟨rfl, X1.out.trans (by assumption)⟩
  · cases hc : covN g s
    · go_enter Try.func108, Try.ntmps108
      go_wp2_with fail
      refine HM.out.mono ?_
      rintro e w1 ⟨vm, rfl, om, x1⟩
      have OM := Lib.hid om.rd; have X1 := Lib.hid x1; clear om x1
      go_wp2_with (go_at_call 122; refine (l2Covers_c _ g s _ OM.out HG.out).mono ?_; rintro e w' ⟨rfl, rfl⟩)
      go_ret
      exact ⟨rfl, X1.out⟩
    · go_enter Try.func108, Try.ntmps108
      go_wp2_with fail
      refine HM.out.mono ?_
      rintro e w1 ⟨vm, rfl, om, x1⟩
      have OM := Lib.hid om.rd; have X1 := Lib.hid x1; clear om x1
      go_wp2_with (first | (go_at_call 122; refine (l2Covers_c _ g s _ OM.out HG.out).mono ?_; rintro e w' ⟨rfl, rfl⟩) | (go_at_call 123; refine (l2ApartT_c _ g s _ OM.out HG.out hs).mono ?_; rintro e w2 ⟨rfl, x2⟩))
      go_ret
      exact ⟨rfl, X1.out.trans (by assumption)⟩
  · go_enter Try.func108, Try.ntmps108
    go_wp2_with fail
    refine HM.out.mono ?_
    rintro e w1 ⟨vm, rfl, om, x1⟩
    have X1 := Lib.hid x1
    clear om x1
    go_wp2_with (go_at_call 124; refine (l2Resolves_c _ vs g s _ (HT.out.ext X1.out) HG.out hs).mono ?_; rintro e w2 ⟨rfl, x2⟩)
    go_ret
    exact ⟨rfl, X1.out.trans (by assumption)⟩
end Go.Proofs.Ytpmammklklkheaa
