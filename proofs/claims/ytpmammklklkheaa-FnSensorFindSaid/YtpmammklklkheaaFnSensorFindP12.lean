/- What the walk of FnSensorFind rests on, part 12: plain facts, and contracts of the functions that it reaches. Each states its own condition. -/
import Derived.Shelf.Slices.Turned
import Derived.Test.YtpmammklklkheaaProg
import Derived.Test.YtpmammklklkheaaFnSensorFindP11
import Derived.Test.YtpmammklklkheaaFnSensorFindP7
/-
  The contracts of the library at this program, as the kit's tools lay them. No condition.
-/
namespace Go.Proofs.Ytpmammklklkheaa
open Go.Shelf
def Try.lays108_ren : Go.Shelf.Ren := ⟨fun | 108 => 121 | n => n, fun | 28 => 23 | 3 => 3 | 0 => 0 | 4 => 4 | n => n, fun | n => n⟩
theorem Try.lays108 : Go.Proofs.Lays.n108 Try.prog Try.lays108_ren := {
  mixed := by kernel_rfl
  f108 := Try.func121.trans (congrArg some (by kernel_rfl))
  t0 := Try.underlying0
  a0 := Try.isAgg0
  z0 := Try.sizeOf0
  v0 := Try.zeroValue0
  t3 := Try.underlying3
  a3 := Try.isAgg3
  z3 := Try.sizeOf3
  v3 := Try.zeroValue3
  t4 := Try.underlying4
  a4 := Try.isAgg4
  z4 := Try.sizeOf4
  v4 := Try.zeroValue4
  t28 := Try.underlying23
  a28 := Try.isAgg23
  z28 := Try.sizeOf23
  v28 := Try.zeroValue23 }
open Go.Lib in
/-- slices.Index at []int: "Index returns the index of the first occurrence of v in s, or -1 if not present.": IT RETURNS 'Lib.idxOf (the elements) v'; the world is as it was. 'zs': what the cells behind the slice's address hold (its spare capacity too, if you have it); 'zs.take n': its elements. (LAID: no walk: one application.) -/
theorem Try.slices_Index_int (b off n c : Nat) (zs : List Int) (x : Int) (w : World) (hz : n ≤ zs.length) (hbig : n ≤ 9223372036854775807) (hc : ∀ j, j < zs.length → w.cell? ⟨b, off + j, none⟩ = some (.int .i64 (zs.getD j 0))) :
    Calls Try.prog 121 #[.slice (some ⟨b, off, none⟩) n c, .int .i64 x] w fun e w' => e = .returned (.int .i64 (Lib.idxOf (zs.take n) x)) ∧ w' = w := Any.slices_Index_int Try.lays108 b off n c zs x w hz hbig hc
open Go.Lib in
/-- The same at a slice of length 0, a nil one too: no cell is known, none is asked for. (LAID: no walk: one application.) -/
theorem Try.slices_Index_int_empty (a : Option Addr) (c : Nat) (x : Int) (w : World) :
    Calls Try.prog 121 #[.slice a 0 c, .int .i64 x] w fun e w' => e = .returned (.int .i64 (Lib.idxOf [] x)) ∧ w' = w := Any.slices_Index_int_empty Try.lays108 a c x w
def Try.lays107_ren : Go.Shelf.Ren := ⟨fun | 107 => 106 | 108 => 121 | n => n, fun | 28 => 23 | 3 => 3 | 4 => 4 | 0 => 0 | n => n, fun | n => n⟩
theorem Try.lays107 : Go.Proofs.Lays.n107 Try.prog Try.lays107_ren := {
  mixed := by kernel_rfl
  f107 := Try.func106.trans (congrArg some (by kernel_rfl))
  f108 := Try.func121.trans (congrArg some (by kernel_rfl))
  t0 := Try.underlying0
  a0 := Try.isAgg0
  z0 := Try.sizeOf0
  v0 := Try.zeroValue0
  t3 := Try.underlying3
  a3 := Try.isAgg3
  z3 := Try.sizeOf3
  v3 := Try.zeroValue3
  t4 := Try.underlying4
  a4 := Try.isAgg4
  z4 := Try.sizeOf4
  v4 := Try.zeroValue4
  t28 := Try.underlying23
  a28 := Try.isAgg23
  z28 := Try.sizeOf23
  v28 := Try.zeroValue23 }
open Go.Lib in
/-- slices.Contains at []int: "Contains reports whether v is present in s.": IT RETURNS 'elements.contains v'; the world is as it was. ITS CALLEE slices.Index IS MET BY ITS OWN CONTRACT OFF THE SHELF (lay that first): no loop is walked here. (LAID: no walk: one application.) -/
theorem Try.slices_Contains_int (b off n c : Nat) (zs : List Int) (x : Int) (w : World) (hz : n ≤ zs.length) (hbig : n ≤ 9223372036854775807) (hc : ∀ j, j < zs.length → w.cell? ⟨b, off + j, none⟩ = some (.int .i64 (zs.getD j 0))) :
    Calls Try.prog 106 #[.slice (some ⟨b, off, none⟩) n c, .int .i64 x] w fun e w' => e = .returned (.bool ((zs.take n).contains x)) ∧ w' = w := Any.slices_Contains_int Try.lays107 b off n c zs x w hz hbig hc
open Go.Lib in
/-- The same at a slice of length 0, a nil one too. (LAID: no walk: one application.) -/
theorem Try.slices_Contains_int_empty (a : Option Addr) (c : Nat) (x : Int) (w : World) :
    Calls Try.prog 106 #[.slice a 0 c, .int .i64 x] w fun e w' => e = .returned (.bool false) ∧ w' = w := Any.slices_Contains_int_empty Try.lays107 a c x w
end Go.Proofs.Ytpmammklklkheaa

/- Whether a set is a code of a kind, and the check ahead of it: the reference and the program compute the same plain function. The condition: the list has at most 2^20 numbers. -/
namespace Go.Proofs.Ytpmammklklkheaa
open Go.RowKit
open BigFrame

theorem contains_cov {g : List Int} {s : Nat} : ((marksTo g s g.length).take g.length).contains (0 : Int) = !covN g s := by
  rw [List.take_of_length_le (by rw [marksTo_length]; exact Nat.le_refl _), Bool.eq_iff_iff, Bool.not_eq_true', ← Bool.not_eq_true, covN_iff, List.contains_iff_mem]
  unfold marksTo
  simp only [List.mem_map, List.mem_range]
  constructor
  · rintro ⟨i, hi, e⟩ h
    exact h i hi (by omega)
  · intro h
    apply Classical.byContradiction
    intro hn
    exact h fun i hi e => hn ⟨i, hi, by omega⟩

set_option maxRecDepth 100000 in
set_option maxHeartbeats 2000000 in
theorem is_c (b : Nat) (v vb vf : Value) (vs : List Value) (g : List Int) (K s : Nat) (w : World) (hb : IsBook w b g v vb vf vs) (hv : Rd w v g) (hg : IsGraph g) (hs : s < 2 ^ g.length) (hK : K ≤ 3) :
    Calls Try.prog 71 #[.pointer (some ⟨b, 0, none⟩), .int .i64 K, .int .i64 s] w fun e w' => e = .returned (.bool (kindN g K s)) ∧ Ext w w' := by
  have hl := hg.le
  have hl1 := hg.pos
  have hs4 : s ≤ 4095 := by have := pow_le_12 hl; omega
  obtain ⟨a, c, rfl⟩ := hv.form
  have HM := Lib.hid (marks_c b _ _ _ _ g s w hb hg hs4)
  have HR := Lib.hid (resolves_c b _ vb vf vs g s w hb hg hs ⟨a, c, rfl⟩)
  have HB := Lib.hid hb; have HG := Lib.hid hg; have HV := Lib.hid hv
  have cg := hb.graph
  have HAL := Lib.hid fun w hw => all_c (.slice a g.length c) g w hw hl
  obtain ⟨p, hp⟩ : ∃ p : Nat, 2 ^ g.length = p := ⟨_, rfl⟩
  have hp4 : p ≤ 4096 := by rw [← hp]; exact pow_le_12 hl
  have hp5 : 1 ≤ p := by rw [← hp]; exact Nat.two_pow_pos _
  rw [hp] at HAL
  have HU1 : Hid (p - 1 < 2 ^ g.length ∧ unlikeN g s (p - 1) = apartN g s true) := ⟨by rw [hp]; omega, unlikeN_apart fun j hj => by rw [← hp, Nat.testBit_two_pow_sub_one]; simp [hj]⟩
  have HU2 : Hid (without (p - 1) s < 2 ^ g.length ∧ unlikeN g s (without (p - 1) s) = apartN g s false) := ⟨without_lt HU1.out.1, unlikeN_apart fun j hj => by rw [testBit_without, ← hp, Nat.testBit_two_pow_sub_one]; simp [hj]⟩
  have e2 := bits_andNot (p - 1) s (by omega) (by omega)
  clear hb hg hv hp hs
  obtain rfl | rfl | rfl | rfl : K = 0 ∨ K = 1 ∨ K = 2 ∨ K = 3 := by omega
  · have HKN : Hid (kindN g 0 s = covN g s) := rfl
    rw [HKN.out]
    go_enter Try.func71, Try.ntmps71
    go_wp2_with fail
    refine HM.out.mono ?_
    rintro e w1 ⟨vm, rfl, om, x1⟩
    have X1 := Lib.hid x1; clear x1
    have rm := om.rd
    rcases om.get with ⟨rfl, hnil⟩ | ⟨gm, cm, rfl, -, -, hcm, hcells, -⟩
    · have h1 := congrArg List.length hnil
      rw [marksTo_length, List.length_nil] at h1
      omega
    · rw [marksTo_length] at hcm hcells rm ⊢
      have OM := Lib.hid rm
      have HCT := Lib.hid (Try.slices_Contains_int gm 0 g.length cm (marksTo g s g.length) 0 w1 (by rw [marksTo_length]; exact Nat.le_refl _) (by omega) (fun j hj => by rw [marksTo_length] at hj; rw [Nat.zero_add]; exact hcells j hj))
      rw [contains_cov] at HCT
      have ck := (HB.out.ext X1.out).graph
      clear hcells om rm
      cases hcv : covN g s
      · rw [hcv] at HCT
        have HCV := Lib.hid hcv
        clear hcv
        go_wp2_with fail
        refine HCT.out.mono ?_
        rintro e w' ⟨rfl, rfl⟩
        go_wp2
        go_ret
        exact ⟨ret_bool (by rw [HCV.out]), X1.out⟩
      · rw [hcv] at HCT
        have HCV := Lib.hid hcv
        clear hcv
        go_wp2_with fail
        refine HCT.out.mono ?_
        rintro e w' ⟨rfl, rfl⟩
        go_wp2
        go_ret
        exact ⟨ret_bool HCV.out.symm, X1.out⟩
  · have HKN : Hid (kindN g 1 s = (covN g s && apartN g s false)) := rfl
    rw [HKN.out]
    go_enter Try.func71, Try.ntmps71
    go_wp2_with fail
    refine HM.out.mono ?_
    rintro e w1 ⟨vm, rfl, om, x1⟩
    have X1 := Lib.hid x1; clear x1
    have rm := om.rd
    rcases om.get with ⟨rfl, hnil⟩ | ⟨gm, cm, rfl, -, -, hcm, hcells, -⟩
    · have h1 := congrArg List.length hnil
      rw [marksTo_length, List.length_nil] at h1
      omega
    · rw [marksTo_length] at hcm hcells rm ⊢
      have OM := Lib.hid rm
      have HCT := Lib.hid (Try.slices_Contains_int gm 0 g.length cm (marksTo g s g.length) 0 w1 (by rw [marksTo_length]; exact Nat.le_refl _) (by omega) (fun j hj => by rw [marksTo_length] at hj; rw [Nat.zero_add]; exact hcells j hj))
      rw [contains_cov] at HCT
      have ck := (HB.out.ext X1.out).graph
      clear hcells om rm
      cases hcv : covN g s
      · rw [hcv] at HCT
        have HCV := Lib.hid hcv
        clear hcv
        go_wp2_with fail
        refine HCT.out.mono ?_
        rintro e w' ⟨rfl, rfl⟩
        go_wp2
        go_ret
        exact ⟨ret_bool (by rw [HCV.out]; rfl), X1.out⟩
      · rw [hcv] at HCT
        have HCV := Lib.hid hcv
        clear hcv
        go_wp2_with fail
        refine HCT.out.mono ?_
        rintro e w' ⟨rfl, rfl⟩
        go_wp2_with fail
        refine (HAL.out _ (HV.out.ext X1.out)).mono ?_
        rintro e w' ⟨rfl, rfl⟩
        clear ck
        go_wp2_with fail
        refine (unlike_c _ g s (without (p - 1) s) _ OM.out HG.out HU2.out.1).mono ?_
        rintro e w2 ⟨rfl, x2⟩
        rw [HU2.out.2]
        have X2 := Lib.hid (X1.out.trans x2); clear x2
        go_wp2
        go_ret
        exact ⟨ret_bool (by rw [HCV.out]; rfl), X2.out⟩
  · have HKN : Hid (kindN g 2 s = (covN g s && apartN g s true)) := rfl
    rw [HKN.out]
    go_enter Try.func71, Try.ntmps71
    go_wp2_with fail
    refine HM.out.mono ?_
    rintro e w1 ⟨vm, rfl, om, x1⟩
    have X1 := Lib.hid x1; clear x1
    have rm := om.rd
    rcases om.get with ⟨rfl, hnil⟩ | ⟨gm, cm, rfl, -, -, hcm, hcells, -⟩
    · have h1 := congrArg List.length hnil
      rw [marksTo_length, List.length_nil] at h1
      omega
    · rw [marksTo_length] at hcm hcells rm ⊢
      have OM := Lib.hid rm
      have HCT := Lib.hid (Try.slices_Contains_int gm 0 g.length cm (marksTo g s g.length) 0 w1 (by rw [marksTo_length]; exact Nat.le_refl _) (by omega) (fun j hj => by rw [marksTo_length] at hj; rw [Nat.zero_add]; exact hcells j hj))
      rw [contains_cov] at HCT
      have ck := (HB.out.ext X1.out).graph
      clear hcells om rm
      cases hcv : covN g s
      · rw [hcv] at HCT
        have HCV := Lib.hid hcv
        clear hcv
        go_wp2_with fail
        refine HCT.out.mono ?_
        rintro e w' ⟨rfl, rfl⟩
        go_wp2
        go_ret
        exact ⟨ret_bool (by rw [HCV.out]; rfl), X1.out⟩
      · rw [hcv] at HCT
        have HCV := Lib.hid hcv
        clear hcv
        go_wp2_with fail
        refine HCT.out.mono ?_
        rintro e w' ⟨rfl, rfl⟩
        go_wp2_with fail
        refine (HAL.out _ (HV.out.ext X1.out)).mono ?_
        rintro e w' ⟨rfl, rfl⟩
        clear ck
        go_wp2_with fail
        refine (unlike_c _ g s (p - 1) _ OM.out HG.out HU1.out.1).mono ?_
        rintro e w2 ⟨rfl, x2⟩
        rw [HU1.out.2]
        have X2 := Lib.hid (X1.out.trans x2); clear x2
        go_wp2
        go_ret
        exact ⟨ret_bool (by rw [HCV.out]; rfl), X2.out⟩
  · have HKN : Hid (kindN g 3 s = resN g s) := rfl
    rw [HKN.out]
    go_enter Try.func71, Try.ntmps71
    go_wp2_with fail
    refine HR.out.mono ?_
    rintro e w1 ⟨rfl, x1⟩
    go_wp2
    go_ret
    exact ⟨rfl, x1⟩
end Go.Proofs.Ytpmammklklkheaa

/- Codes, least codes, their numbers: the reference and the program compute the same plain functions. The condition: the list has at most 2^20 numbers. -/
namespace Go.Proofs.Ytpmammklklkheaa
open Go.RowKit
open BigFrame

set_option maxHeartbeats 1000000 in
theorem codeInS_c (v : Value) (g : List Int) (kind s : Int) (w : World) (hv : Rd w v g) (hm : g.length ≤ 1048576) :
    Calls Try.prog 72 #[v, .int .i64 kind, .int .i64 s] w fun e w' => e = .returned (.bool (codeIn g kind s)) ∧ Ext w w' := by
  obtain ⟨a, c, rfl⟩ := hv.form
  have HV := Lib.hid hv; clear hv
  have HM := Lib.hid hm
  cases h0 : graphIn g
  · rw [show codeIn g kind s = false from by unfold codeIn; rw [h0]; rfl]
    go_enter Try.func72, Try.ntmps72
    go_wp2_with fail
    refine (graphInS_c _ _ _ HV.out HM.out).mono ?_
    rintro e w1 ⟨rfl, x1⟩
    have X1 := Lib.hid x1; clear x1
    go_wp2
    go_ret
    exact ⟨rfl, X1.out⟩
  · have hG := graphIn_iff.1 h0
    have hl := hG.le
    have HG := Lib.hid hG; clear hG
    cases hk : inB 0 kind 3
    · rw [show codeIn g kind s = false from by unfold codeIn; rw [hk, Bool.and_false]; rfl]
      go_enter Try.func72, Try.ntmps72
      go_wp2_with fail
      refine (graphInS_c _ _ _ HV.out HM.out).mono ?_
      rintro e w1 ⟨rfl, x1⟩
      have X1 := Lib.hid x1; clear x1
      go_wp2_with (go_at_call 103; refine (l2Kind_c _ _).mono ?_; rintro e w' ⟨rfl, rfl⟩)
      go_ret
      exact ⟨rfl, X1.out⟩
    · cases hs : setB s g.length
      · rw [show codeIn g kind s = false from by unfold codeIn; rw [hs, Bool.and_false]; rfl]
        go_enter Try.func72, Try.ntmps72
        go_wp2_with fail
        refine (graphInS_c _ _ _ HV.out HM.out).mono ?_
        rintro e w1 ⟨rfl, x1⟩
        have X1 := Lib.hid x1; clear x1
        go_wp2_with (first | (go_at_call 103; refine (l2Kind_c _ _).mono ?_; rintro e w' ⟨rfl, rfl⟩) | (go_at_call 64; refine (l2Set_c _ g _ _ (HV.out.ext X1.out) (by omega)).mono ?_; rintro e w' ⟨rfl, rfl⟩))
        go_ret
        exact ⟨rfl, X1.out⟩
      · obtain ⟨k, rfl, hkl⟩ := setB_iff.1 hs
        obtain ⟨K, rfl⟩ : ∃ K : Nat, kind = K := ⟨kind.toNat, by have := inB_iff.1 hk; omega⟩
        have hK3 : K ≤ 3 := by have := inB_iff.1 hk; omega
        have hk4 : k ≤ 4095 := by have := pow_le_12 hl; omega
        have HKL := Lib.hid hkl
        rw [show codeIn g K k = kindN g K k from by unfold codeIn; rw [h0, hk, hs]; rfl]
        clear hkl
        go_enter Try.func72, Try.ntmps72
        go_wp2_with fail
        refine (graphInS_c _ _ _ HV.out HM.out).mono ?_
        rintro e w1 ⟨rfl, x1⟩
        have X1 := Lib.hid x1; clear x1
        go_wp2_with (first | (go_at_call 103; refine (l2Kind_c _ _).mono ?_; rintro e w' ⟨rfl, rfl⟩) | (go_at_call 64; refine (l2Set_c _ g _ _ (HV.out.ext X1.out) (by omega)).mono ?_; rintro e w' ⟨rfl, rfl⟩))
        refine (l2Table_c _ g _ (HV.out.ext X1.out) HG.out).mono ?_
        rintro e w2 ⟨vt, vs, rfl, ht, x2⟩
        have HT := Lib.hid ht; have X2 := Lib.hid (X1.out.trans x2); clear ht x2
        go_wp2_with fail
        refine (l2In_c _ _ vs g K k _ (HV.out.ext X2.out) HT.out HG.out hk4 hK3).mono ?_
        rintro e w3 ⟨rfl, x3⟩
        go_wp2
        go_ret
        exact ⟨rfl, X2.out.trans x3⟩

set_option maxHeartbeats 1000000 in
theorem codeInI_c (v : Value) (g : List Int) (kind s : Int) (w : World) (hv : Rd w v g) (hm : g.length ≤ 1048576) :
    Calls Try.prog 34 #[v, .int .i64 kind, .int .i64 s] w fun e w' => e = .returned (.bool (codeIn g kind s)) ∧ Ext w w' := by
  obtain ⟨a, c, rfl⟩ := hv.form
  have HV := Lib.hid hv; clear hv
  have HM := Lib.hid hm
  cases h0 : graphIn g
  · rw [show codeIn g kind s = false from by unfold codeIn; rw [h0]; rfl]
    go_enter Try.func34, Try.ntmps34
    go_wp2_with fail
    refine (graphInI_c _ _ _ HV.out HM.out).mono ?_
    rintro e w1 ⟨rfl, x1⟩
    have X1 := Lib.hid x1; clear x1
    go_wp2
    go_ret
    exact ⟨rfl, X1.out⟩
  · have hG := graphIn_iff.1 h0
    have hl := hG.le
    have HG := Lib.hid hG; clear hG
    cases hk : inB 0 kind 3
    · rw [show codeIn g kind s = false from by unfold codeIn; rw [hk, Bool.and_false]; rfl]
      go_enter Try.func34, Try.ntmps34
      go_wp2_with fail
      refine (graphInI_c _ _ _ HV.out HM.out).mono ?_
      rintro e w1 ⟨rfl, x1⟩
      have X1 := Lib.hid x1; clear x1
      go_wp2_with (go_at_call 75; refine (isKind_c _ _).mono ?_; rintro e w' ⟨rfl, rfl⟩)
      go_ret
      exact ⟨rfl, X1.out⟩
    · cases hs : setB s g.length
      · rw [show codeIn g kind s = false from by unfold codeIn; rw [hs, Bool.and_false]; rfl]
        go_enter Try.func34, Try.ntmps34
        go_wp2_with fail
        refine (graphInI_c _ _ _ HV.out HM.out).mono ?_
        rintro e w1 ⟨rfl, x1⟩
        have X1 := Lib.hid x1; clear x1
        go_wp2_with (first | (go_at_call 75; refine (isKind_c _ _).mono ?_; rintro e w' ⟨rfl, rfl⟩) | (go_at_call 76; refine (isSet_c _ g.length (by omega) _).mono ?_; rintro e w' ⟨rfl, rfl⟩))
        go_ret
        exact ⟨rfl, X1.out⟩
      · obtain ⟨k, rfl, hkl⟩ := setB_iff.1 hs
        obtain ⟨K, rfl⟩ : ∃ K : Nat, kind = K := ⟨kind.toNat, by have := inB_iff.1 hk; omega⟩
        have hK3 : K ≤ 3 := by have := inB_iff.1 hk; omega
        have hk4 : k ≤ 4095 := by have := pow_le_12 hl; omega
        have HKL := Lib.hid hkl
        rw [show codeIn g K k = kindN g K k from by unfold codeIn; rw [h0, hk, hs]; rfl]
        clear hkl
        go_enter Try.func34, Try.ntmps34
        go_wp2_with fail
        refine (graphInI_c _ _ _ HV.out HM.out).mono ?_
        rintro e w1 ⟨rfl, x1⟩
        have X1 := Lib.hid x1; clear x1
        go_wp2_with (first | (go_at_call 75; refine (isKind_c _ _).mono ?_; rintro e w' ⟨rfl, rfl⟩) | (go_at_call 76; refine (isSet_c _ g.length (by omega) _).mono ?_; rintro e w' ⟨rfl, rfl⟩))
        refine (bookOf_c _ g _ (HV.out.ext X1.out) HG.out).mono ?_
        rintro e w2 ⟨b, vb, vf, vs, rfl, hb, hbk, x2⟩
        have BK := Lib.hid hbk; have X2 := Lib.hid (X1.out.trans x2); clear hbk x2
        go_wp2_with fail
        refine (is_c b _ vb vf vs g K k _ BK.out (HV.out.ext X2.out) HG.out HKL.out hK3).mono ?_
        rintro e w3 ⟨rfl, x3⟩
        go_wp2
        go_ret
        exact ⟨rfl, X2.out.trans x3⟩

/-! ### The least code -/
def codeLeast (g : List Int) (kind : Int) : Int × Bool := if graphIn g && inB 0 kind 3 then loP (lo (kindN g kind.toNat) (2 ^ g.length)) else (0, false)
def leastNumber (g : List Int) (kind : Int) : Int × Bool := if (codeLeast g kind).2 then (((cnt (codeLeast g kind).1.toNat : Nat) : Int), true) else (0, false)
theorem lo_small {p : Nat → Bool} {n z : Nat} (hn : n ≤ 12) (h : lo p (2 ^ n) = some z) : z ≤ 4095 := by
  have := lo_lt _ _ h
  have := pow_le_12 hn
  omega

theorem codeLeast_cases (g : List Int) (kind : Int) : codeLeast g kind = (0, false) ∨ ∃ z : Nat, z ≤ 4095 ∧ codeLeast g kind = (((z : Nat) : Int), true) := by
  unfold codeLeast
  split
  · rename_i h
    rw [Bool.and_eq_true] at h
    have hG := graphIn_iff.1 h.1
    cases hlo : lo (kindN g kind.toNat) (2 ^ g.length) with
    | none => exact .inl rfl
    | some z => exact .inr ⟨z, lo_small hG.le hlo, rfl⟩
  · exact .inl rfl

set_option maxHeartbeats 2000000 in
theorem l2Least_c (v : Value) (g : List Int) (K : Nat) (w : World) (hv : Rd w v g) (hg : IsGraph g) (hK : K ≤ 3) :
    Calls Try.prog 104 #[v, .int .i64 K] w fun e w' => e = .returned (pairV (loP (lo (kindN g K) (2 ^ g.length)))) ∧ Ext w w' := by
  obtain ⟨a, c, rfl⟩ := hv.form
  have HV := Lib.hid hv
  have hl := hg.le
  have HG := Lib.hid hg
  obtain ⟨p, hp, hp1, hp2, hp3⟩ := pow_var g.length (by omega)
  have hp4 : p ≤ 4096 := by rw [← hp]; exact pow_le_12 hl
  have e0 : min g.length 64 = g.length := by omega
  have HP := Lib.hid hp
  clear hg hp hv
  go_enter Try.func104, Try.ntmps104
  go_wp2_with fail
  refine (l2Table_c _ g _ HV.out HG.out).mono ?_
  rintro e w1 ⟨vt, vs, rfl, ht, x1⟩
  have HT := Lib.hid ht; have X1 := Lib.hid x1; clear ht x1
  go_wp2
  go_loopw [7, 8, 9] (fun b m i wr => ∃ (k z M : Nat), k ≤ p ∧ i = .int .i64 k ∧ b = .int .i64 z ∧ m = .int .i64 M ∧ M ≤ 13 ∧ Hid (LoAt (kindN g K) g.length k z M) ∧ Hid (Ext w1 wr)) (fun _ _ i _ => p - (intOf i).toNat)
  case atStart => exact ⟨0, 0, g.length + 1, Nat.zero_le _, rfl, rfl, by go_num, by omega, .inl ⟨rfl, rfl, rfl⟩, Ext.refl _⟩
  case round =>
    obtain ⟨k, z, M, hk, rfl, rfl, rfl, hM, HL, HX⟩ := hrel
    by_cases hlt : k < p
    · have hk4 : k ≤ 4095 := by omega
      have HKP : Hid (k < 2 ^ g.length) := by unfold Hid; rw [HP.out]; exact hlt
      have HC := Lib.hid fun w => l1Count_c k (by omega) w
      have hc12 := cnt_le k
      have HBE := Lib.hid (l2In_c (.slice a g.length c) vt vs g K k wr (HV.out.ext (X1.out.trans HX.out)) (HT.out.ext HX.out) HG.out hk4 hK)
      by_cases hc : cnt k < M
      · cases hb : kindN g K k
        · have HN := Lib.hid (HL.out.skip HKP.out (.inr hb))
          rw [hb] at HBE
          clear hb
          go_wp2_with (go_at_call 70; with_reducible refine (HC.out _).mono ?_; rintro e w' ⟨rfl, rfl⟩)
          refine HBE.out.mono ?_
          rintro e w2 ⟨rfl, x2⟩
          have X2 := Lib.hid (HX.out.trans x2); clear x2
          go_wp2
          go_roundw
          case rel => exact ⟨k + 1, z, M, by omega, by go_num, rfl, rfl, hM, HN.out, X2.out⟩
          case measure => simp [intOf]; omega
        · have HN := Lib.hid (HL.out.take HKP.out hc hb)
          rw [hb] at HBE
          clear hb
          go_wp2_with (go_at_call 70; with_reducible refine (HC.out _).mono ?_; rintro e w' ⟨rfl, rfl⟩)
          refine HBE.out.mono ?_
          rintro e w2 ⟨rfl, x2⟩
          have X2 := Lib.hid (HX.out.trans x2); clear x2
          go_wp2
          go_roundw
          case rel => exact ⟨k + 1, k, cnt k, by omega, by go_num, rfl, rfl, by omega, HN.out, X2.out⟩
          case measure => simp [intOf]; omega
      · have HN := Lib.hid (HL.out.skip HKP.out (.inl hc))
        go_wp2_with (go_at_call 70; with_reducible refine (HC.out _).mono ?_; rintro e w' ⟨rfl, rfl⟩)
        go_roundw
        case rel => exact ⟨k + 1, z, M, by omega, by go_num, rfl, rfl, hM, HN.out, HX.out⟩
        case measure => simp [intOf]; omega
    · obtain rfl : k = p := by omega
      have HF := Lib.hid (HL.out.fin (by rw [HP.out]; exact Nat.le_refl _))
      go_wp2
      go_ret2
      refine ⟨?_, X1.out.trans HX.out⟩
      rw [HP.out, HF.out, show decide (M ≤ g.length) = decide ((M : Int) ≤ (g.length : Int)) from by simp]
      rfl

set_option maxHeartbeats 1000000 in
theorem codeLeastS_c (v : Value) (g : List Int) (kind : Int) (w : World) (hv : Rd w v g) (hm : g.length ≤ 1048576) :
    Calls Try.prog 69 #[v, .int .i64 kind] w fun e w' => e = .returned (pairV (codeLeast g kind)) ∧ Ext w w' := by
  obtain ⟨a, c, rfl⟩ := hv.form
  have HV := Lib.hid hv; clear hv
  have HM := Lib.hid hm
  cases h0 : graphIn g
  · rw [show codeLeast g kind = (0, false) from by unfold codeLeast; rw [h0]; rfl]
    go_enter Try.func69, Try.ntmps69
    go_wp2_with (go_at_call 63; refine (graphInS_c _ _ _ HV.out HM.out).mono ?_; rintro e w1 ⟨rfl, x1⟩)
    go_ret2
    exact ⟨rfl, by assumption⟩
  · have hG := graphIn_iff.1 h0
    have HG := Lib.hid hG; clear hG
    cases hk : inB 0 kind 3
    · rw [show codeLeast g kind = (0, false) from by unfold codeLeast; rw [hk, Bool.and_false]; rfl]
      go_enter Try.func69, Try.ntmps69
      go_wp2_with fail
      refine (graphInS_c _ _ _ HV.out HM.out).mono ?_
      rintro e w1 ⟨rfl, x1⟩
      have X1 := Lib.hid x1; clear x1
      go_wp2_with (go_at_call 103; refine (l2Kind_c _ _).mono ?_; rintro e w' ⟨rfl, rfl⟩)
      go_ret2
      exact ⟨rfl, X1.out⟩
    · obtain ⟨K, rfl⟩ : ∃ K : Nat, kind = K := ⟨kind.toNat, by have := inB_iff.1 hk; omega⟩
      have hK3 : K ≤ 3 := by have := inB_iff.1 hk; omega
      have HR : Hid (codeLeast g K = loP (lo (kindN g K) (2 ^ g.length))) := by unfold Hid codeLeast; rw [h0, hk]; rfl
      go_enter Try.func69, Try.ntmps69
      go_wp2_with fail
      refine (graphInS_c _ _ _ HV.out HM.out).mono ?_
      rintro e w1 ⟨rfl, x1⟩
      have X1 := Lib.hid x1; clear x1
      go_wp2_with (go_at_call 103; refine (l2Kind_c _ _).mono ?_; rintro e w' ⟨rfl, rfl⟩)
      refine (l2Least_c _ g K _ (HV.out.ext X1.out) HG.out hK3).mono ?_
      rintro e w2 ⟨rfl, x2⟩
      rw [← HR.out]
      unfold pairV
      go_wp2
      go_ret2
      exact ⟨rfl, X1.out.trans x2⟩

theorem codeLeast1_enters : ∀ args w, (callFunc 97 args).run Try.prog w = .ok (.enter 97 args) w :=
  Go.Proofs.enters_of Try.func97 (by kernel_rfl) rfl
set_option maxHeartbeats 1000000 in
theorem codeLeast1_c (s K b bc tc : Nat) (v vb vf : Value) (vs : List Value) (g : List Int) (w : World) (hb : IsBook w b g v vb vf vs) (hv : Rd w v g) (hg : IsGraph g) (hs : s < 2 ^ g.length) (hK : K ≤ 3)
    (h1 : w.cell? ⟨bc, 0, none⟩ = some (.pointer (some ⟨b, 0, none⟩))) (h2 : w.cell? ⟨tc, 0, none⟩ = some (.int .i64 K)) :
    Calls Try.prog 97 #[.int .i64 s, .pointer (some ⟨bc, 0, none⟩), .pointer (some ⟨tc, 0, none⟩)] w fun e w' => e = .returned (.bool (kindN g K s)) ∧ Ext w w' := by
  have HB := Lib.hid (is_c b v vb vf vs g K s w hb hv hg hs hK)
  clear hb hg hv hs
  go_enter Try.func97, Try.ntmps97
  go_wp2_with fail
  refine HB.out.mono ?_
  rintro e w1 ⟨rfl, x1⟩
  go_wp2
  go_ret
  exact ⟨rfl, x1⟩

set_option maxRecDepth 100000 in
set_option maxHeartbeats 2000000 in
theorem codeLeastI_c (v : Value) (g : List Int) (t : Int) (w : World) (hv : Rd w v g) (hm : g.length ≤ 1048576) :
    Calls Try.prog 56 #[v, .int .i64 t] w fun e w' => e = .returned (pairV (codeLeast g t)) ∧ Ext w w' := by
  obtain ⟨a, c, rfl⟩ := hv.form
  obtain ⟨W, hW⟩ : ∃ W, W = w.alloc (.cells #[.int .i64 t] 3) := ⟨_, rfl⟩
  have hx0 : Ext w W := by rw [hW]; exact (Ext.refl _).alloc _
  have v0 : Var W w.heap.size (.int .i64 t) := by rw [hW]; exact Var.new _ _ _
  have HW := Lib.hid hW; have HX0 := Lib.hid hx0; have V0 := Lib.hid v0; have HV := Lib.hid (hv.ext hx0)
  have HM := Lib.hid hm
  clear hv hW hx0 v0
  cases h0 : graphIn g
  · rw [show codeLeast g t = (0, false) from by unfold codeLeast; rw [h0]; rfl]
    go_enter Try.func56, Try.ntmps56
    go_wp2_with fail
    rw [← HW.out]
    refine (graphInI_c _ _ _ HV.out HM.out).mono ?_
    rintro e w1 ⟨rfl, x1⟩
    have X1 := Lib.hid (HX0.out.trans x1); clear x1
    go_wp2
    go_ret2
    exact ⟨rfl, X1.out⟩
  · cases ht : inB 0 t 3
    · rw [show codeLeast g t = (0, false) from by unfold codeLeast; rw [ht, Bool.and_false]; rfl]
      go_enter Try.func56, Try.ntmps56
      go_wp2_with fail
      rw [← HW.out]
      refine (graphInI_c _ _ _ HV.out HM.out).mono ?_
      rintro e w1 ⟨rfl, x1⟩
      have X1 := Lib.hid (HX0.out.trans x1)
      have c0 := (V0.out.ext x1).cell
      clear x1
      go_wp2_with (go_at_call 75; refine (isKind_c _ _).mono ?_; rintro e w' ⟨rfl, rfl⟩)
      go_ret2
      exact ⟨rfl, X1.out⟩
    · have hG := graphIn_iff.1 h0
      have hl := hG.le
      have hl1 := hG.pos
      have HG := Lib.hid hG
      obtain ⟨T, rfl⟩ : ∃ T : Nat, t = T := ⟨t.toNat, by have := inB_iff.1 ht; omega⟩
      have hT4 : T ≤ 3 := by have := inB_iff.1 ht; omega
      obtain ⟨p, hp⟩ : ∃ p : Nat, 2 ^ g.length = p := ⟨_, rfl⟩
      have hp4 : p ≤ 4096 := by rw [← hp]; exact pow_le_12 hl
      have hp5 : 1 ≤ p := by rw [← hp]; exact Nat.two_pow_pos _
      have HR : Hid (codeLeast g T = loP (lo (kindN g T) p)) := by unfold Hid codeLeast; rw [h0, ht, hp]; rfl
      have HP := Lib.hid hp
      have HAL := Lib.hid fun w hw => all_c (.slice a g.length c) g w hw hl
      rw [hp] at HAL
      clear hG hp
      go_enter Try.func56, Try.ntmps56
      go_wp2_with fail
      rw [← HW.out]
      refine (graphInI_c _ _ _ HV.out HM.out).mono ?_
      rintro e w1 ⟨rfl, x1⟩
      have X1 := Lib.hid x1
      have c0 := (V0.out.ext x1).cell
      clear x1
      go_wp2_with (go_at_call 75; refine (isKind_c _ _).mono ?_; rintro e w' ⟨rfl, rfl⟩)
      refine (bookOf_c _ g _ (HV.out.ext X1.out) HG.out).mono ?_
      rintro e w2 ⟨b, vb, vf, vs, rfl, hb, hbk, x2⟩
      have BK := Lib.hid hbk; have X2 := Lib.hid (X1.out.trans x2); clear hbk x2 c0
      obtain ⟨W3, hW3⟩ : ∃ V, V = w2.alloc (.cells #[.pointer (some ⟨b, 0, none⟩)] 55) := ⟨_, rfl⟩
      have hx3 : Ext w2 W3 := by rw [hW3]; exact (Ext.refl _).alloc _
      have cg := (BK.out.ext hx3).graph
      have vb3 : Var W3 w2.heap.size (.pointer (some ⟨b, 0, none⟩)) := by rw [hW3]; exact Var.new _ _ _
      have HB3 := Lib.hid (BK.out.ext hx3); have HX3 := Lib.hid (X2.out.trans hx3); have VB3 := Lib.hid vb3; have VT3 := Lib.hid (V0.out.ext (X2.out.trans hx3))
      have HW3 := Lib.hid hW3
      rw [hW3] at cg
      clear hW3 hx3 vb3
      go_wp2_with fail
      rw [← HW3.out]
      refine (HAL.out _ (HV.out.ext HX3.out)).mono ?_
      rintro e w' ⟨rfl, rfl⟩
      go_wp2_with fail
      have HF : ∀ k, k < p → ∀ w', Ext W3 w' → Calls Try.prog 97 (#[.int .i64 (k : Nat)] ++ #[.pointer (some ⟨w2.heap.size, 0, none⟩), .pointer (some ⟨w.heap.size, 0, none⟩)]) w' fun e w'' => e = .returned (.bool (kindN g T k)) ∧ Ext w' w'' := fun k hk w' hx => by
        rw [show (#[.int .i64 (k : Nat)] ++ #[.pointer (some ⟨w2.heap.size, 0, none⟩), .pointer (some ⟨w.heap.size, 0, none⟩)] : Array Value) = #[.int .i64 (k : Nat), .pointer (some ⟨w2.heap.size, 0, none⟩), .pointer (some ⟨w.heap.size, 0, none⟩)] from by simp]
        exact codeLeast1_c k T b w2.heap.size w.heap.size _ vb vf vs g w' (HB3.out.ext hx) ((HV.out.ext HX3.out).ext hx) HG.out (by rw [HP.out]; exact hk) hT4 (VB3.out.ext hx).cell (VT3.out.ext hx).cell
      refine (least_c p 97 #[.pointer (some ⟨w2.heap.size, 0, none⟩), .pointer (some ⟨w.heap.size, 0, none⟩)] (kindN g T) W3 hp5 hp4 codeLeast1_enters HF).mono ?_
      rintro e w4 ⟨rfl, x4⟩
      rw [← HR.out]
      unfold pairV
      have X4 := Lib.hid (HX0.out.trans (HX3.out.trans x4)); clear x4
      go_wp2
      go_ret2
      exact ⟨rfl, X4.out⟩

set_option maxHeartbeats 1000000 in
theorem leastNumberS_c (v : Value) (g : List Int) (kind : Int) (w : World) (hv : Rd w v g) (hm : g.length ≤ 1048576) :
    Calls Try.prog 27 #[v, .int .i64 kind] w fun e w' => e = .returned (pairV (leastNumber g kind)) ∧ Ext w w' := by
  obtain ⟨a, c, rfl⟩ := hv.form
  have HC := Lib.hid (codeLeastS_c _ g kind w hv hm)
  have HF : Hid (codeLeast g kind = (0, false) ∨ ∃ z : Nat, z ≤ 4095 ∧ codeLeast g kind = (((z : Nat) : Int), true)) := codeLeast_cases g kind
  clear hv hm
  rcases HF.out with h | ⟨z, hz, h⟩
  · rw [h] at HC
    rw [show leastNumber g kind = (0, false) from by unfold leastNumber; rw [h]; rfl]
    clear HF h
    go_enter Try.func27, Try.ntmps27
    go_wp2_with fail
    refine HC.out.mono ?_
    rintro e w1 ⟨rfl, x1⟩
    unfold pairV
    have X1 := Lib.hid x1; clear x1
    go_wp2
    go_ret2
    exact ⟨rfl, X1.out⟩
  · rw [h] at HC
    rw [show leastNumber g kind = (((cnt z : Nat) : Int), true) from by unfold leastNumber; rw [h]; rfl]
    clear HF h
    go_enter Try.func27, Try.ntmps27
    go_wp2_with fail
    refine HC.out.mono ?_
    rintro e w1 ⟨rfl, x1⟩
    unfold pairV
    have X1 := Lib.hid x1; clear x1
    go_wp2_with (go_at_call 70; refine (l1Count_c z (by omega) _).mono ?_; rintro e w' ⟨rfl, rfl⟩)
    go_ret2
    exact ⟨rfl, X1.out⟩

set_option maxHeartbeats 1000000 in
theorem leastNumberI_c (v : Value) (g : List Int) (kind : Int) (w : World) (hv : Rd w v g) (hm : g.length ≤ 1048576) :
    Calls Try.prog 20 #[v, .int .i64 kind] w fun e w' => e = .returned (pairV (leastNumber g kind)) ∧ Ext w w' := by
  obtain ⟨a, c, rfl⟩ := hv.form
  have HC := Lib.hid (codeLeastI_c _ g kind w hv hm)
  have HF : Hid (codeLeast g kind = (0, false) ∨ ∃ z : Nat, z ≤ 4095 ∧ codeLeast g kind = (((z : Nat) : Int), true)) := codeLeast_cases g kind
  clear hv hm
  rcases HF.out with h | ⟨z, hz, h⟩
  · rw [h] at HC
    rw [show leastNumber g kind = (0, false) from by unfold leastNumber; rw [h]; rfl]
    clear HF h
    go_enter Try.func20, Try.ntmps20
    go_wp2_with fail
    refine HC.out.mono ?_
    rintro e w1 ⟨rfl, x1⟩
    unfold pairV
    have X1 := Lib.hid x1; clear x1
    have HS := Lib.hid (sizeC 0 (by omega))
    go_wp2_with (go_at_call 57; refine (HS.out _).mono ?_; rintro e w' ⟨rfl, rfl⟩)
    go_ret2
    exact ⟨rfl, X1.out⟩
  · rw [h] at HC
    rw [show leastNumber g kind = (((cnt z : Nat) : Int), true) from by unfold leastNumber; rw [h]; rfl]
    clear HF h
    go_enter Try.func20, Try.ntmps20
    go_wp2_with fail
    refine HC.out.mono ?_
    rintro e w1 ⟨rfl, x1⟩
    unfold pairV
    have X1 := Lib.hid x1; clear x1
    have HS := Lib.hid (sizeC z hz)
    go_wp2_with (go_at_call 57; refine (HS.out _).mono ?_; rintro e w' ⟨rfl, rfl⟩)
    go_ret2
    exact ⟨rfl, X1.out⟩
end Go.Proofs.Ytpmammklklkheaa

/- The draw of a code, of a graph with a code. The condition: at most 900000 numbers have been drawn; a graph of at most 12 nodes. -/
namespace Go.Proofs.Ytpmammklklkheaa
open Go.RowKit
open BigFrame

set_option maxRecDepth 100000 in
set_option maxHeartbeats 2000000 in
theorem l91Code_c (w0 : World) (b m : Nat) (v : Value) (gs : List Int) (kind : Int) (w : World) (h : RdOk w0 b m w) (ho : Own w (b + 1) v gs) (hm : m ≤ 900000) (h1 : 1 ≤ gs.length) (h12 : gs.length ≤ 12) :
    Calls Try.prog 99 #[.pointer (some ⟨b, 0, none⟩), v, .int .i64 kind] w fun e w' => ∃ s : Nat, e = .returned (.int .i64 s) ∧ s ≤ 4095 ∧ Own w' (b + 1) v gs ∧ RdOk w0 b (m + 3) w' := by
  obtain ⟨ga, gc, rfl⟩ := ho.slice h1
  have HC := Lib.hid (codeLeastS_c _ gs kind w ho.rd (by omega))
  have HR := Lib.hid h; have HO := Lib.hid ho
  clear h ho
  obtain ⟨L, hL⟩ : ∃ L, L = gs.length := ⟨_, rfl⟩
  rw [← hL] at h1 h12 HC HO ⊢
  clear hL
  obtain ⟨p, hp, hp1, hp2, hp3⟩ := pow_var L (by omega)
  have hp4 : p ≤ 4096 := by rw [← hp]; exact (Nat.pow_le_pow_right (by omega) h12 : 2 ^ L ≤ 2 ^ 12)
  have e0 : min L 64 = L := by omega
  clear hp
  go_enter Try.func99, Try.ntmps99
  go_wp2_with fail
  refine HC.out.mono ?_
  rintro e w1 ⟨rfl, x1⟩
  have R1 := Lib.hid (HR.out.next x1); have O1 := Lib.hid (HO.out.ext x1)
  clear x1 HR HO HC
  unfold pairV
  rcases codeLeast_cases gs kind with hc | ⟨z, hz, hc⟩
  · rw [hc]
    go_wp2_with fail
    refine (pick_c w0 b m p _ R1.out (by omega) (by omega) (by omega)).mono ?_
    rintro e w2 ⟨s, rfl, hs, r2, u2⟩
    have R2 := Lib.hid r2; have O2 := Lib.hid (O1.out.upd (show b < b + 1 by omega) u2); clear r2 u2
    go_wp2
    go_ret
    exact ⟨s, rfl, by omega, O2.out, R2.out.more (by omega)⟩
  · rw [hc]
    go_wp2_with fail
    refine (pick_c w0 b m 2 _ R1.out (by omega) (by omega) (by omega)).mono ?_
    rintro e w2 ⟨x, rfl, hx, r2, u2⟩
    have R2 := Lib.hid r2; have O2 := Lib.hid (O1.out.upd (show b < b + 1 by omega) u2); clear r2 u2
    obtain ⟨b2, hb2⟩ : ∃ t, ((x : Int) == 0) = t := ⟨_, rfl⟩
    cases b2
    · go_wp2_with fail
      refine (pick_c w0 b (m + 1) 2 _ R2.out (by omega) (by omega) (by omega)).mono ?_
      rintro e w3 ⟨y, rfl, hy, r3, u3⟩
      have R3 := Lib.hid r3; have O3 := Lib.hid (O2.out.upd (show b < b + 1 by omega) u3); clear r3 u3
      obtain ⟨b3, hb3⟩ : ∃ t, ((y : Int) == 0) = t := ⟨_, rfl⟩
      cases b3
      · go_wp2_with fail
        refine (pick_c w0 b (m + 1 + 1) p _ R3.out (by omega) (by omega) (by omega)).mono ?_
        rintro e w4 ⟨s, rfl, hs, r4, u4⟩
        have R4 := Lib.hid r4; have O4 := Lib.hid (O3.out.upd (show b < b + 1 by omega) u4); clear r4 u4
        go_wp2
        go_ret
        exact ⟨s, rfl, by omega, O4.out, R4.out⟩
      · go_wp2
        go_ret
        exact ⟨z, rfl, hz, O3.out, R3.out.more (by omega)⟩
    · go_wp2_with fail
      refine (pick_c w0 b (m + 1) L _ R2.out (by omega) (by omega) (by omega)).mono ?_
      rintro e w3 ⟨y, rfl, hy, r3, u3⟩
      have R3 := Lib.hid r3; have O3 := Lib.hid (O2.out.upd (show b < b + 1 by omega) u3); clear r3 u3
      obtain ⟨q, hq, hq1, hq2, hq3⟩ := pow_var y (by omega)
      have hq4 : q ≤ 2048 := by rw [← hq]; exact (Nat.pow_le_pow_right (by omega) (by omega) : 2 ^ y ≤ 2 ^ 11)
      have e1 : min y 64 = y := by omega
      have e2 := bits_or z q (by omega) (by omega)
      have hbo : bor z q ≤ 4095 := by have := bor_lt (x := z) (y := q) (n := 12) (by omega) (by omega); omega
      clear hq
      go_wp2
      go_ret
      exact ⟨bor z q, rfl, hbo, O3.out, R3.out.more (by omega)⟩

set_option maxRecDepth 100000 in
set_option maxHeartbeats 2000000 in
theorem l91Sensors_c (w0 : World) (b m : Nat) (w : World) (h : RdOk w0 b m w) (hm : m ≤ 800000) :
    Calls Try.prog 58 #[.pointer (some ⟨b, 0, none⟩)] w fun e w' => ∃ (v' : Value) (gs : List Int) (s : Nat), e = .returned (.tuple #[v', .int .i64 s]) ∧ 1 ≤ gs.length ∧ gs.length ≤ 7 ∧ s ≤ 4095 ∧ Own w' (b + 1) v' gs ∧ RdOk w0 b (m + 210) w' := by
  have HR := Lib.hid h
  clear h
  go_enter Try.func58, Try.ntmps58
  go_wp2_with fail
  refine (l91Graph_c w0 b m 7 _ HR.out (by omega) (by omega) (by omega)).mono ?_
  rintro e w2 ⟨v2, gs, rfl, hn1, hn7, o2, r2⟩
  obtain ⟨ga, gc, rfl⟩ := o2.slice hn1
  have R2 := Lib.hid r2; have O2 := Lib.hid o2; clear r2 o2 HR
  go_wp2_with fail
  refine (pick_c w0 b (m + 200) 2 _ R2.out (by omega) (by omega) (by omega)).mono ?_
  rintro e w3 ⟨x, rfl, hx, r3, u3⟩
  have R3 := Lib.hid r3; have O3 := Lib.hid (O2.out.upd (show b < b + 1 by omega) u3); clear r3 u3 R2 O2
  obtain ⟨b2, hb2⟩ : ∃ t, ((x : Int) == 0) = t := ⟨_, rfl⟩
  cases b2
  · go_wp2_with fail
    refine (l91Code_c w0 b (m + 200 + 1) _ gs 2 _ R3.out O3.out (by omega) hn1 (by omega)).mono ?_
    rintro e w4 ⟨s, rfl, hs, o4, r4⟩
    have R4 := Lib.hid r4; have O4 := Lib.hid o4; clear r4 o4
    go_wp2
    go_ret2
    exact ⟨_, gs, s, rfl, hn1, hn7, hs, O4.out, R4.out.more (by omega)⟩
  · obtain ⟨L, hL⟩ : ∃ L, L = gs.length := ⟨_, rfl⟩
    have HL := Lib.hid hL
    rw [← hL] at hn1 hn7 O3 ⊢
    clear hL
    obtain ⟨p, hp, hp1, hp2, hp3⟩ := pow_var L (by omega)
    have hp4 : p ≤ 128 := by rw [← hp]; exact (Nat.pow_le_pow_right (by omega) hn7 : 2 ^ L ≤ 2 ^ 7)
    have e0 : min L 64 = L := by omega
    obtain ⟨p1, hpp⟩ : ∃ p1 : Nat, (p : Int) - 1 = (p1 : Int) := ⟨p - 1, by omega⟩
    clear hp
    go_wp2
    refine wp_region_ext (by kernel_rfl) (by kernel_rfl) ?_
    repeat (go_big_quiet_step (fail))
    refine wpQuiet_nil ?_
    rintro _ ⟨u, rfl⟩
    have X4 := Lib.hid (clip_ext w3 u)
    go_wp2
    go_ret2
    exact ⟨_, gs, p1, rfl, by rw [← HL.out]; omega, by rw [← HL.out]; omega, by omega, O3.out.ext X4.out, (R3.out.next X4.out).more (by omega)⟩
end Go.Proofs.Ytpmammklklkheaa

/- The draws of a graph and a code, of a graph, a code and a number. The condition: at most 2^20 bytes. -/
namespace Go.Proofs.Ytpmammklklkheaa
open Go.RowKit
open BigFrame

set_option maxHeartbeats 1000000 in
theorem l91Given_c (v : Value) (bs : List Int) (kind : Int) (w : World) (hv : Rb w v bs) (hm : bs.length ≤ 1048576) :
    Calls Try.prog 78 #[v, .int .i64 kind] w fun e w' => ∃ (v' : Value) (gs : List Int) (s : Nat), e = .returned (.tuple #[v', .int .i64 s]) ∧ 1 ≤ gs.length ∧ gs.length ≤ 6 ∧ s ≤ 4095 ∧ Rd w' v' gs ∧ Ext w w' := by
  have HO := Lib.hid (l6Open_c v bs w hv hm)
  obtain ⟨a, c, rfl, -, -⟩ := hv
  clear hm
  go_enter Try.func78, Try.ntmps78
  go_wp2_with fail
  refine HO.out.mono ?_
  rintro e w1 ⟨rfl, r1, -⟩
  have R1 := Lib.hid r1; clear r1
  go_wp2_with fail
  refine (l91Graph_c w _ 0 6 _ R1.out (by omega) (by omega) (by omega)).mono ?_
  rintro e w2 ⟨v2, gs, rfl, hn1, hn6, o2, r2⟩
  obtain ⟨ga, gc, rfl⟩ := o2.slice hn1
  have R2 := Lib.hid r2; have O2 := Lib.hid o2; clear r2 o2 R1
  go_wp2_with fail
  refine (l91Code_c w _ (0 + 200) _ gs kind _ R2.out O2.out (by omega) hn1 (by omega)).mono ?_
  rintro e w3 ⟨s, rfl, hs, o3, r3⟩
  have R3 := Lib.hid r3; have O3 := Lib.hid o3; clear r3 o3
  go_wp2
  go_ret2
  exact ⟨_, gs, s, rfl, hn1, hn6, hs, O3.out.rd, R3.out.ext⟩
set_option maxHeartbeats 1000000 in
theorem drawPoolBalls_c (v : Value) (bs : List Int) (w : World) (hv : Rb w v bs) (hm : bs.length ≤ 1048576) :
    Calls Try.prog 38 #[v] w fun e w' => ∃ (v' : Value) (gs : List Int) (s : Nat), e = .returned (.tuple #[v', .int .i64 s]) ∧ 1 ≤ gs.length ∧ gs.length ≤ 6 ∧ s ≤ 4095 ∧ Rd w' v' gs ∧ Ext w w' := by
  have HO := Lib.hid (l91Given_c v bs 2 w hv hm)
  obtain ⟨a, c, rfl, -, -⟩ := hv
  clear hm
  go_enter Try.func38, Try.ntmps38
  go_wp2_with fail
  refine HO.out.mono ?_
  rintro e w1 ⟨v1, gs, s, rfl, h1, h6, hs, r1, x1⟩
  have R1 := Lib.hid r1; have X1 := Lib.hid x1; clear r1 x1
  go_wp2
  go_ret2
  exact ⟨_, gs, s, rfl, h1, h6, hs, R1.out, X1.out⟩
set_option maxHeartbeats 1000000 in
theorem drawSensorIn_c (v : Value) (bs : List Int) (w : World) (hv : Rb w v bs) (hm : bs.length ≤ 1048576) :
    Calls Try.prog 21 #[v] w fun e w' => ∃ (v' : Value) (gs : List Int) (s t : Nat), e = .returned (.tuple #[v', .int .i64 s, .int .i64 t]) ∧ 1 ≤ gs.length ∧ gs.length ≤ 7 ∧ s ≤ 4095 ∧ t ≤ 5 ∧ Rd w' v' gs ∧ Ext w w' := by
  have HO := Lib.hid (l6Open_c v bs w hv hm)
  obtain ⟨a, c, rfl, -, -⟩ := hv
  clear hm
  go_enter Try.func21, Try.ntmps21
  go_wp2_with fail
  refine HO.out.mono ?_
  rintro e w1 ⟨rfl, r1, -⟩
  have R1 := Lib.hid r1; clear r1
  go_wp2_with fail
  refine (l91Sensors_c w _ 0 _ R1.out (by omega)).mono ?_
  rintro e w2 ⟨v2, gs, s, rfl, h1, h7, hs, o2, r2⟩
  obtain ⟨ga, gc, rfl⟩ := o2.slice h1
  have R2 := Lib.hid r2; have O2 := Lib.hid o2; clear r2 o2
  obtain ⟨L, hL⟩ : ∃ L, L = gs.length := ⟨_, rfl⟩
  rw [← hL] at h1 h7 O2 ⊢
  have HL := Lib.hid hL
  clear hL
  go_wp2_with fail
  refine (pick_c w _ (0 + 210) 3 _ R2.out (by omega) (by omega) (by omega)).mono ?_
  rintro e w3 ⟨x, rfl, hx, r3, u3⟩
  have R3 := Lib.hid r3; have O3 := Lib.hid (O2.out.upd (by omega) u3); clear r3 u3
  go_wp2_with fail
  refine (pick_c w _ (0 + 210 + 1) 20 _ R3.out (by omega) (by omega) (by omega)).mono ?_
  rintro e w4 ⟨y, rfl, hy, r4, u4⟩
  have R4 := Lib.hid r4; have O4 := Lib.hid (O3.out.upd (by omega) u4); clear r4 u4
  obtain ⟨q, hq, e3⟩ : ∃ i : Nat, i ≤ 1 ∧ ((y : Int) / 19) = (i : Int) := ⟨y / 19, by omega, by simp⟩
  obtain ⟨q3, hq3, e4⟩ : ∃ i : Nat, i ≤ 3 ∧ (q : Int) * 3 = (i : Int) := ⟨q * 3, by omega, by simp⟩
  obtain ⟨z, hz1, e5⟩ : ∃ z : Nat, z ≤ 5 ∧ (x : Int) + (q3 : Int) = (z : Int) := ⟨x + q3, by omega, by simp⟩
  go_wp2
  go_ret3
  exact ⟨_, gs, s, z, rfl, by rw [← HL.out]; omega, by rw [← HL.out]; omega, hs, hz1, O4.out.rd, R4.out.ext⟩
end Go.Proofs.Ytpmammklklkheaa
