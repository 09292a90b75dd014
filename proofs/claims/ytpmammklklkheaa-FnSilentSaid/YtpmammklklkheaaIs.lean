/- Whether a set is a code of a kind, and the check ahead of it: the reference and the program compute the same plain function. The condition: the list has at most 2^20 numbers. -/
import Derived.Test.YtpmammklklkheaaResolve
import Derived.Test.YtpmammklklkheaaShelf
namespace Go.Proofs.Ytpmammklklkheaa
open Go.RowKit
open BigFrame

theorem contains_cov {g : List Int} {s : Nat} : ((marksTo g s g.length).take g.length).contains (0 : Int) = !covN g s := by
  rw [List.take_of_length_le (by rw [marksTo_length]; exact Nat.le_refl _), Bool.eq_iff_iff, Bool.not_eq_true', ← Bool.not_eq_true, covN_iff, List.contains_iff_mem]
  unfold marksTo
  simp only [List.mem_map, List.mem_range]
  constructor
  · rintro ⟨i, hi, e⟩ h
    exact h i hi (by omega)
  · intro h
    apply Classical.byContradiction
    intro hn
    exact h fun i hi e => hn ⟨i, hi, by omega⟩

set_option maxRecDepth 100000 in
set_option maxHeartbeats 2000000 in
theorem is_c (b : Nat) (v vb vf : Value) (vs : List Value) (g : List Int) (K s : Nat) (w : World) (hb : IsBook w b g v vb vf vs) (hv : Rd w v g) (hg : IsGraph g) (hs : s < 2 ^ g.length) (hK : K ≤ 3) :
    Calls Try.prog 71 #[.pointer (some ⟨b, 0, none⟩), .int .i64 K, .int .i64 s] w fun e w' => e = .returned (.bool (kindN g K s)) ∧ Ext w w' := by
  have hl := hg.le
  have hl1 := hg.pos
  have hs4 : s ≤ 4095 := by have := pow_le_12 hl; omega
  obtain ⟨a, c, rfl⟩ := hv.form
  have HM := Lib.hid (marks_c b _ _ _ _ g s w hb hg hs4)
  have HR := Lib.hid (resolves_c b _ vb vf vs g s w hb hg hs ⟨a, c, rfl⟩)
  have HB := Lib.hid hb; have HG := Lib.hid hg; have HV := Lib.hid hv
  have cg := hb.graph
  have HAL := Lib.hid fun w hw => all_c (.slice a g.length c) g w hw hl
  obtain ⟨p, hp⟩ : ∃ p : Nat, 2 ^ g.length = p := ⟨_, rfl⟩
  have hp4 : p ≤ 4096 := by rw [← hp]; exact pow_le_12 hl
  have hp5 : 1 ≤ p := by rw [← hp]; exact Nat.two_pow_pos _
  rw [hp] at HAL
  have HU1 : Hid (p - 1 < 2 ^ g.length ∧ unlikeN g s (p - 1) = apartN g s true) := ⟨by rw [hp]; omega, unlikeN_apart fun j hj => by rw [← hp, Nat.testBit_two_pow_sub_one]; simp [hj]⟩
  have HU2 : Hid (without (p - 1) s < 2 ^ g.length ∧ unlikeN g s (without (p - 1) s) = apartN g s false) := ⟨without_lt HU1.out.1, unlikeN_apart fun j hj => by rw [testBit_without, ← hp, Nat.testBit_two_pow_sub_one]; simp [hj]⟩
  have e2 := bits_andNot (p - 1) s (by omega) (by omega)
  clear hb hg hv hp hs
  obtain rfl | rfl | rfl | rfl : K = 0 ∨ K = 1 ∨ K = 2 ∨ K = 3 := by omega
  · have HKN : Hid (kindN g 0 s = covN g s) := rfl
    rw [HKN.out]
    go_enter Try.func71, Try.ntmps71
    go_wp2_with fail
    refine HM.out.mono ?_
    rintro e w1 ⟨vm, rfl, om, x1⟩
    have X1 := Lib.hid x1; clear x1
    have rm := om.rd
    rcases om.get with ⟨rfl, hnil⟩ | ⟨gm, cm, rfl, -, -, hcm, hcells, -⟩
    · have h1 := congrArg List.length hnil
      rw [marksTo_length, List.length_nil] at h1
      omega
    · rw [marksTo_length] at hcm hcells rm ⊢
      have OM := Lib.hid rm
      have HCT := Lib.hid (Try.slices_Contains_int gm 0 g.length cm (marksTo g s g.length) 0 w1 (by rw [marksTo_length]; exact Nat.le_refl _) (by omega) (fun j hj => by rw [marksTo_length] at hj; rw [Nat.zero_add]; exact hcells j hj))
      rw [contains_cov] at HCT
      have ck := (HB.out.ext X1.out).graph
      clear hcells om rm
      cases hcv : covN g s
      · rw [hcv] at HCT
        have HCV := Lib.hid hcv
        clear hcv
        go_wp2_with fail
        refine HCT.out.mono ?_
        rintro e w' ⟨rfl, rfl⟩
        go_wp2
        go_ret
        exact ⟨ret_bool (by rw [HCV.out]), X1.out⟩
      · rw [hcv] at HCT
        have HCV := Lib.hid hcv
        clear hcv
        go_wp2_with fail
        refine HCT.out.mono ?_
        rintro e w' ⟨rfl, rfl⟩
        go_wp2
        go_ret
        exact ⟨ret_bool HCV.out.symm, X1.out⟩
  · have HKN : Hid (kindN g 1 s = (covN g s && apartN g s false)) := rfl
    rw [HKN.out]
    go_enter Try.func71, Try.ntmps71
    go_wp2_with fail
    refine HM.out.mono ?_
    rintro e w1 ⟨vm, rfl, om, x1⟩
    have X1 := Lib.hid x1; clear x1
    have rm := om.rd
    rcases om.get with ⟨rfl, hnil⟩ | ⟨gm, cm, rfl, -, -, hcm, hcells, -⟩
    · have h1 := congrArg List.length hnil
      rw [marksTo_length, List.length_nil] at h1
      omega
    · rw [marksTo_length] at hcm hcells rm ⊢
      have OM := Lib.hid rm
      have HCT := Lib.hid (Try.slices_Contains_int gm 0 g.length cm (marksTo g s g.length) 0 w1 (by rw [marksTo_length]; exact Nat.le_refl _) (by omega) (fun j hj => by rw [marksTo_length] at hj; rw [Nat.zero_add]; exact hcells j hj))
      rw [contains_cov] at HCT
      have ck := (HB.out.ext X1.out).graph
      clear hcells om rm
      cases hcv : covN g s
      · rw [hcv] at HCT
        have HCV := Lib.hid hcv
        clear hcv
        go_wp2_with fail
        refine HCT.out.mono ?_
        rintro e w' ⟨rfl, rfl⟩
        go_wp2
        go_ret
        exact ⟨ret_bool (by rw [HCV.out]; rfl), X1.out⟩
      · rw [hcv] at HCT
        have HCV := Lib.hid hcv
        clear hcv
        go_wp2_with fail
        refine HCT.out.mono ?_
        rintro e w' ⟨rfl, rfl⟩
        go_wp2_with fail
        refine (HAL.out _ (HV.out.ext X1.out)).mono ?_
        rintro e w' ⟨rfl, rfl⟩
        clear ck
        go_wp2_with fail
        refine (unlike_c _ g s (without (p - 1) s) _ OM.out HG.out HU2.out.1).mono ?_
        rintro e w2 ⟨rfl, x2⟩
        rw [HU2.out.2]
        have X2 := Lib.hid (X1.out.trans x2); clear x2
        go_wp2
        go_ret
        exact ⟨ret_bool (by rw [HCV.out]; rfl), X2.out⟩
  · have HKN : Hid (kindN g 2 s = (covN g s && apartN g s true)) := rfl
    rw [HKN.out]
    go_enter Try.func71, Try.ntmps71
    go_wp2_with fail
    refine HM.out.mono ?_
    rintro e w1 ⟨vm, rfl, om, x1⟩
    have X1 := Lib.hid x1; clear x1
    have rm := om.rd
    rcases om.get with ⟨rfl, hnil⟩ | ⟨gm, cm, rfl, -, -, hcm, hcells, -⟩
    · have h1 := congrArg List.length hnil
      rw [marksTo_length, List.length_nil] at h1
      omega
    · rw [marksTo_length] at hcm hcells rm ⊢
      have OM := Lib.hid rm
      have HCT := Lib.hid (Try.slices_Contains_int gm 0 g.length cm (marksTo g s g.length) 0 w1 (by rw [marksTo_length]; exact Nat.le_refl _) (by omega) (fun j hj => by rw [marksTo_length] at hj; rw [Nat.zero_add]; exact hcells j hj))
      rw [contains_cov] at HCT
      have ck := (HB.out.ext X1.out).graph
      clear hcells om rm
      cases hcv : covN g s
      · rw [hcv] at HCT
        have HCV := Lib.hid hcv
        clear hcv
        go_wp2_with fail
        refine HCT.out.mono ?_
        rintro e w' ⟨rfl, rfl⟩
        go_wp2
        go_ret
        exact ⟨ret_bool (by rw [HCV.out]; rfl), X1.out⟩
      · rw [hcv] at HCT
        have HCV := Lib.hid hcv
        clear hcv
        go_wp2_with fail
        refine HCT.out.mono ?_
        rintro e w' ⟨rfl, rfl⟩
        go_wp2_with fail
        refine (HAL.out _ (HV.out.ext X1.out)).mono ?_
        rintro e w' ⟨rfl, rfl⟩
        clear ck
        go_wp2_with fail
        refine (unlike_c _ g s (p - 1) _ OM.out HG.out HU1.out.1).mono ?_
        rintro e w2 ⟨rfl, x2⟩
        rw [HU1.out.2]
        have X2 := Lib.hid (X1.out.trans x2); clear x2
        go_wp2
        go_ret
        exact ⟨ret_bool (by rw [HCV.out]; rfl), X2.out⟩
  · have HKN : Hid (kindN g 3 s = resN g s) := rfl
    rw [HKN.out]
    go_enter Try.func71, Try.ntmps71
    go_wp2_with fail
    refine HR.out.mono ?_
    rintro e w1 ⟨rfl, x1⟩
    go_wp2
    go_ret
    exact ⟨rfl, x1⟩
end Go.Proofs.Ytpmammklklkheaa
