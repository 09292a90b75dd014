/- What the walks of this seat rest on, one part: plain facts, and contracts of the functions that they reach. Each states its own condition. -/
import Derived.Test.YtkmfmhckpfomeaaGreatDoorB22
import Derived.Test.YtkmfmhckpfomeaaGreatDoorB11
import Derived.Test.YtkmfmhckpfomeaaGreatDoorB17
import Derived.Test.YtkmfmhckpfomeaaGreatDoorB9
import Derived.Test.YtkmfmhckpfomeaaGreatDoorB6
import Derived.Test.YtkmfmhckpfomeaaGreatDoorB20
set_option linter.all false
set_option linter.unusedSimpArgs false
set_option linter.unusedVariables false
/- The graph in which others are neighbours; a copy of a graph: the reference and the program compute the same plain list. The condition: the list is a graph. -/
namespace Go.Proofs.YtkmfmhckpfomeaaGreatDoor
open Go.RowKit
open BigFrame

def otherN (g : List Int) (n i : Nat) : Nat := without (2 ^ n - 1) (ballN g i)
def otherTo (g : List Int) (n k : Nat) : List Int := (List.range k).map fun i => ((otherN g n i : Nat) : Int)
def otherG (g : List Int) : List Int := otherTo g g.length g.length
theorem otherTo_succ (g : List Int) (n k : Nat) : otherTo g n (k + 1) = otherTo g n k ++ [((otherN g n k : Nat) : Int)] := by simp [otherTo, List.range_succ]
theorem otherTo_length (g : List Int) (n k : Nat) : (otherTo g n k).length = k := by simp [otherTo]
theorem otherG_length (g : List Int) : (otherG g).length = g.length := otherTo_length _ _ _
theorem otherTo_get (g : List Int) (n k i : Nat) (h : i < k) : (otherTo g n k).getD i 0 = ((otherN g n i : Nat) : Int) := by simp [otherTo, h]
theorem other_row {g : List Int} {i : Nat} (h : i < g.length) : getI (otherG g) i = ((otherN g g.length i : Nat) : Int) := otherTo_get _ _ _ _ h
theorem otherN_lt (g : List Int) (n i : Nat) : otherN g n i < 2 ^ n := without_lt (by have := Nat.two_pow_pos n; omega)
theorem otherN_bit (g : List Int) (n i k : Nat) : (otherN g n i).testBit k = (decide (k < n) && !(ballN g i).testBit k) := by
  unfold otherN
  rw [testBit_without, Nat.testBit_two_pow_sub_one]
theorem other_gN {g : List Int} {i : Nat} (h : i < g.length) : gN (otherG g) i = otherN g g.length i := by
  unfold gN
  rw [other_row h]
  rfl
theorem other_isGraph {g : List Int} (hg : IsGraph g) : IsGraph (otherG g) := by
  refine ⟨by rw [otherG_length]; exact hg.pos, by rw [otherG_length]; exact hg.le, fun i hi => ?_, fun i => ?_, fun i => ?_, fun i k => ?_⟩
  · rw [otherG_length] at hi
    rw [other_row hi, other_gN hi]
  · rw [otherG_length]
    by_cases hi : i < g.length
    · rw [other_gN hi]; exact otherN_lt _ _ _
    · rw [gN_out (by rw [otherG_length]; omega)]; exact Nat.two_pow_pos _
  · by_cases hi : i < g.length
    · rw [other_gN hi, otherN_bit]
      have : (ballN g i).testBit i = true := by
        unfold ballN
        rw [testBit_bor, Nat.testBit_two_pow, decide_eq_true rfl, Bool.or_true]
      rw [this]; simp
    · rw [gN_out (by rw [otherG_length]; omega), Nat.zero_testBit]
  · have hb : ∀ a b, (ballN g a).testBit b = (ballN g b).testBit a := fun a b => by
      unfold ballN
      rw [testBit_bor, testBit_bor, hg.sym a b, Nat.testBit_two_pow, Nat.testBit_two_pow]
      congr 1
      rw [Bool.eq_iff_iff, decide_eq_true_iff, decide_eq_true_iff]
      exact eq_comm
    by_cases hi : i < g.length
    · by_cases hk : k < g.length
      · rw [other_gN hi, other_gN hk, otherN_bit, otherN_bit, hb, decide_eq_true hi, decide_eq_true hk]
      · rw [other_gN hi, gN_out (i := k) (by rw [otherG_length]; omega), Nat.zero_testBit, otherN_bit, decide_eq_false hk]; rfl
    · by_cases hk : k < g.length
      · rw [other_gN hk, gN_out (i := i) (by rw [otherG_length]; omega), Nat.zero_testBit, otherN_bit, decide_eq_false hi]; rfl
      · rw [gN_out (i := i) (by rw [otherG_length]; omega), gN_out (i := k) (by rw [otherG_length]; omega), Nat.zero_testBit, Nat.zero_testBit]

set_option maxRecDepth 100000 in
set_option maxHeartbeats 4000000 in
theorem graphOtherS_c (v : Value) (g : List Int) (w : World) (hv : Rd w v g) (hg : IsGraph g) :
    Calls Tryz.prog 54 #[v] w fun e w' => ∃ v', e = .returned (listV v' true) ∧ Own w' w.heap.size v' (otherG g) ∧ Ext w w' := by
  have hl := hg.le
  obtain ⟨a, c, rfl⟩ := hv.form
  obtain ⟨W, hW⟩ : ∃ W, W = w.alloc (.cells #[] 3) := ⟨_, rfl⟩
  have ho0 : Own W w.heap.size (.slice (some ⟨w.heap.size, 0, none⟩) 0 0) [] := by rw [hW]; exact Own.lit w
  have hx0 : Ext w W := by rw [hW]; exact (Ext.refl _).alloc _
  have HC := Lib.hid (graphInS_c (.slice a g.length c) g W (hv.ext hx0) (by omega))
  rw [graphIn_iff.2 hg] at HC
  have HW := Lib.hid hW; have HO0 := Lib.hid ho0; have HX0 := Lib.hid hx0; have HV := Lib.hid hv; have HG := Lib.hid hg
  obtain ⟨q, hq, hq1, hq2, hq3⟩ := pow_var g.length (by omega)
  have hq4 : q ≤ 4096 := by rw [← hq]; exact (Nat.pow_le_pow_right (by omega) hl : 2 ^ g.length ≤ 2 ^ 12)
  have eq0 : min g.length 64 = g.length := by omega
  have HON : Hid (∀ k, otherN g g.length k = without (q - 1) (ballN g k)) := fun k => by unfold otherN; rw [hq]
  clear hq hv hW ho0 hx0 hg
  go_enter Tryz.func54, Tryz.ntmps54
  go_wp2_with fail
  rw [← HW.out]
  refine HC.out.mono ?_
  rintro e w1 ⟨rfl, x1⟩
  have O1 := Lib.hid (HO0.out.ext x1); have X1 := Lib.hid (HX0.out.trans x1)
  clear x1 HC HW HO0 HX0
  go_wp2
  go_loopw [4, 5] (fun o i wr => ∃ k : Nat, k ≤ g.length ∧ i = .int .i64 k ∧ Own wr w.heap.size o (otherTo g g.length k) ∧ Ext w wr) (fun _ i _ => g.length - (intOf i).toNat)
  case atStart => exact ⟨0, Nat.zero_le _, rfl, O1.out, X1.out⟩
  case round =>
    clear O1 X1
    obtain ⟨k, hk, rfl, ho, hx⟩ := hrel
    have HO := Lib.hid ho; have HX := Lib.hid hx; clear ho hx
    by_cases hlt : k < g.length
    · obtain ⟨b, o, rfl, -, -, hc⟩ := HV.out.atI hlt
      have c1 := hc _ HX.out
      have c2 := hc _ HX.out.drew
      clear hc
      rw [HG.out.row k hlt] at c1 c2
      have h1 := HG.out.small k
      have hb4 := ballN_small HG.out hlt
      obtain ⟨p, hp, hp1, hp2, hp3⟩ := pow_var k (by omega)
      have hp4 : p ≤ 2048 := by rw [← hp]; exact (Nat.pow_le_pow_right (by omega) (by omega) : 2 ^ k ≤ 2 ^ 11)
      have e0 : min k 64 = k := by omega
      have e2 := bits_or (gN g k) p (by omega) (by omega)
      have HB : Hid (ballN g k = bor (gN g k) p) := by unfold ballN; rw [hp]; rfl
      have e3 := bits_andNot (q - 1) (ballN g k) (by omega) (by omega)
      have wp := wrap_i64_nat p (by omega)
      have wq := wrap_i64_nat q (by omega)
      have wq1 : IntKind.i64.wrap ((q : Int) - 1) = ((q - 1 : Nat) : Int) := by rw [show (q : Int) - 1 = ((q - 1 : Nat) : Int) by omega]; exact wrap_i64_nat _ (by omega)
      clear hp
      have HQ : Hid (otherTo g g.length k ++ [bits .andNot .i64 (IntKind.i64.wrap (IntKind.i64.wrap (q : Int) - 1)) (bits .or .i64 (gN g k : Int) (IntKind.i64.wrap (p : Int)))] = otherTo g g.length (k + 1)) := by
        rw [otherTo_succ, wp, wq, wq1, e2, ← HB.out, e3, HON.out]
        rfl
      clear wp wq wq1 e2 e3
      go_wp2
      go_region_law (first | (refine step_append_int rfl _ _ rfl w.heap.size _ _ rfl (HO.out.drew.alloc _) wr.heap.size _ rfl (one_cell _ _ _) (by rw [otherTo_length]; omega) (by simp; have := HX.out.size; omega) ?_; intro v' w3 ho3 hg3 hn3))
      have HX3 : Hid (Ext w w3) := (HO.out.drew.alloc _).grew (HX.out.drew.alloc _) hg3 (Nat.le_refl _)
      have HO3 : Hid (Own w3 w.heap.size v' (otherTo g g.length (k + 1))) := by rw [← HQ.out]; exact ho3
      clear ho3 hg3 hn3
      simp only [Act.put, Exit.inBlock]
      go_wp2
      go_roundw
      case rel => exact ⟨k + 1, by omega, by go_num, HO3.out, HX3.out⟩
      case measure => simp [intOf]; omega
    · obtain rfl : k = g.length := by omega
      go_wp2
      go_ret2
      exact ⟨_, rfl, HO.out, HX.out⟩

set_option maxHeartbeats 1000000 in
theorem clone_c (k c : Nat) (g : List Int) (w : World) (hv : Rd w (.slice (some ⟨k, 0, none⟩) g.length c) g) (hl : g.length ≤ 1000) :
    Calls Tryz.prog 78 #[.slice (some ⟨k, 0, none⟩) g.length c] w fun e w' => ∃ v', e = .returned v' ∧ Own w' w.heap.size v' g ∧ Ext w w' := by
  obtain ⟨i0, hi, hz0, hz1, hz2⟩ := info_parts info_int
  have HC : Hid (∀ j u, (g.map (Value.int .i64))[j]? = some u → w.cell? ((⟨k, 0, none⟩ : Addr).add j) = some u) := fun j u hu => by
    rw [List.getElem?_map, Option.map_eq_some_iff] at hu
    obtain ⟨z, hz, rfl⟩ := hu
    have hj : j < g.length := (List.getElem?_eq_some_iff.1 hz).1
    obtain ⟨b, o, e, -, -, hc⟩ := hv.at hj
    simp only [Option.some.injEq, Addr.mk.injEq] at e
    obtain ⟨rfl, rfl, -⟩ := e
    have := hc w (Ext.refl w)
    rw [Addr.add_lit]
    rw [Nat.zero_add] at this ⊢
    rw [this, List.getD_eq_getElem?_getD, hz]; rfl
  clear hv
  go_enter Tryz.func78, Tryz.ntmps78
  go_wp2_with (at_builtin; refine wpList_append_own w rfl _ _ 62 rfl w.heap.size 3 i0 (.int .i64 0) 1 8 Tryz.underlying62 hi hz0 hz1 hz2 rfl (by decide) (.slice none 0 0) 0 [] rfl (World.ownsRow_nil _ _ _ _) ⟨k, 0, none⟩ g.length c (g.map (Value.int .i64)) rfl (by simp) HC.out (fun u hu => by obtain ⟨z, -, rfl⟩ := List.mem_map.1 hu; rfl) (by unfold maxLen; omega) (by omega) (Nat.le_refl _) ?_; intro v' w3 ho3 hg3 hn3)
  have HO3 : Hid (Own w3 w.heap.size v' g) := by
    unfold Own Hid
    simpa using ho3
  have HX3 : Hid (Ext w w3) := (Ext.refl w).grown hg3 (fun _ h => by cases h)
  clear ho3 hg3 hn3 hi hz0 hz1 hz2
  go_wp2
  go_ret
  exact ⟨_, rfl, HO3.out, HX3.out⟩

theorem set_tail (xs ys : List Int) (k : Nat) (z : Int) (hk : k < ys.length) (hl : xs.length = k) : (xs ++ ys.drop k).set k z = (xs ++ [z]) ++ ys.drop (k + 1) := by
  rw [List.set_append_right _ _ (by omega), hl, Nat.sub_self, List.append_assoc]
  congr 1
  rw [List.drop_eq_getElem_cons hk]
  rfl

set_option maxRecDepth 100000 in
set_option maxHeartbeats 4000000 in
theorem graphOtherI_c (k c : Nat) (g : List Int) (w : World) (hv : Rd w (.slice (some ⟨k, 0, none⟩) g.length c) g) (hg : IsGraph g) :
    Calls Tryz.prog 81 #[.slice (some ⟨k, 0, none⟩) g.length c] w fun e w' => ∃ v', e = .returned (listV v' true) ∧ Own w' w.heap.size v' (otherG g) ∧ Ext w w' := by
  have hl := hg.le
  have hpos := hg.pos
  have HC := Lib.hid (graphInI_c _ g w hv (by omega))
  rw [graphIn_iff.2 hg] at HC
  have HV := Lib.hid hv; have HG := Lib.hid hg
  clear hv hg
  go_enter Tryz.func81, Tryz.ntmps81
  go_wp2_with fail
  refine HC.out.mono ?_
  rintro e w1 ⟨rfl, x1⟩
  have X1 := Lib.hid x1; clear x1 HC
  go_wp2_with fail
  refine (clone_c k c g w1 (HV.out.ext X1.out) (by omega)).mono ?_
  rintro e w2 ⟨v2, rfl, o2, x2⟩
  obtain ⟨gb, gc, rfl⟩ := o2.slice hpos
  have O2 : Hid (Own w2 w.heap.size (.slice (some ⟨gb, 0, none⟩) g.length gc) g) := o2.mono X1.out.size
  have X2 := Lib.hid (X1.out.trans x2)
  clear o2 x2
  obtain ⟨L, hL⟩ : ∃ L, L = g.length := ⟨_, rfl⟩
  have HL := Lib.hid hL
  rw [← hL] at hl hpos O2 HV ⊢
  clear hL
  go_wp2
  go_loopw [13] (fun i wr => ∃ j : Nat, j ≤ L ∧ i = .int .i64 j ∧ Hid (Own wr w.heap.size (.slice (some ⟨gb, 0, none⟩) L gc) (otherTo g L j ++ g.drop j)) ∧ Hid (Ext w wr)) (fun i _ => L - (intOf i).toNat)
  case atStart => exact ⟨0, Nat.zero_le _, rfl, by unfold Hid; exact O2.out, X2⟩
  case round =>
    clear O2 X2
    obtain ⟨j, hj, rfl, HO, HX⟩ := hrel
    by_cases hlt : j < L
    · have hb4 := ballN_small HG.out (show j < g.length by rw [← HL.out]; exact hlt)
      have h2p : 2 ^ L ≤ 4096 := (Nat.pow_le_pow_right (by omega) hl : 2 ^ L ≤ 2 ^ 12)
      have HAL := Lib.hid fun u (hu : Ext wr u) => all_c (.slice (some ⟨k, 0, none⟩) g.length c) g u (by rw [← HL.out]; exact HV.out.ext (HX.out.trans hu)) (by rw [← HL.out]; omega)
      have HBL := Lib.hid fun u (hu : Ext wr u) => ball_c (.slice (some ⟨k, 0, none⟩) g.length c) g j u (by rw [← HL.out]; exact HV.out.ext (HX.out.trans hu)) HG.out (by rw [← HL.out]; exact hlt)
      rw [← HL.out] at HAL HBL
      have e1 := bits_andNot (2 ^ L - 1) (ballN g j) (by omega) (by omega)
      have HON : Hid (without (2 ^ L - 1) (ballN g j) = otherN g L j) := rfl
      rw [HON.out] at e1
      generalize ballN g j = bj at e1 HBL hb4
      obtain ⟨A, hA⟩ : ∃ A, A = 2 ^ L - 1 := ⟨_, rfl⟩
      rw [← hA] at HAL e1
      clear hA h2p HON
      go_wp2_with fail
      refine (HAL.out wr (Ext.refl wr)).mono ?_
      rintro e w' ⟨rfl, rfl⟩
      go_wp2_with fail
      refine (HBL.out wr (Ext.refl wr)).mono ?_
      rintro e w3 ⟨rfl, x3⟩
      have HO3 := Lib.hid (HO.out.ext x3); have HX3 := Lib.hid (HX.out.trans x3)
      clear x3 HO HX HAL HBL
      obtain ⟨-, -, hgb, -, hcl, hfr⟩ := HO3.out.at
      have c4 := hcl j hlt
      have f4 := hfr j
      have HO4 : Hid (Own (w3.setCell ⟨gb, j, none⟩ (.int .i64 (otherN g L j : Nat))) w.heap.size (.slice (some ⟨gb, 0, none⟩) L gc) (otherTo g L (j + 1) ++ g.drop (j + 1))) := by
        have := HO3.out.set j (otherN g L j : Nat)
        rw [set_tail _ _ _ _ (by rw [← HL.out]; exact hlt) (otherTo_length _ _ _), ← otherTo_succ] at this
        exact this
      have HX4 : Hid (Ext w (w3.setCell ⟨gb, j, none⟩ (.int .i64 (otherN g L j : Nat)))) := HX3.out.setCell (p := ⟨gb, j, none⟩) hgb _
      clear hcl hfr
      go_wp2
      go_roundw
      case rel => exact ⟨j + 1, by omega, by go_num, HO4, HX4⟩
      case measure => simp [intOf]; omega
    · obtain rfl : j = L := by omega
      have HE : Hid (otherTo g j j ++ g.drop j = otherG g) := by unfold otherG Hid; rw [← HL.out, List.drop_of_length_le (by rw [← HL.out]; exact Nat.le_refl _), List.append_nil]
      go_wp2
      go_ret2
      exact ⟨_, rfl, by rw [← HE.out]; exact HO.out, HX.out⟩
end Go.Proofs.YtkmfmhckpfomeaaGreatDoor

/- The marks of a graph's nodes, told or not: the reference and the program compute the same plain list. The condition: the list has at most 2^20 numbers. -/
namespace Go.Proofs.YtkmfmhckpfomeaaGreatDoor
open Go.RowKit
open BigFrame

def codeMarks (g : List Int) (s : Int) : List Int × Bool := if fits g s then (marksTo g s.toNat g.length, true) else ([], false)

set_option maxHeartbeats 1000000 in
theorem codeMarksI_c (v : Value) (g : List Int) (s : Int) (w : World) (hv : Rd w v g) (hm : g.length ≤ 1048576) :
    Calls Tryz.prog 92 #[v, .int .i64 s] w fun e w' => ∃ v', e = .returned (listV v' (codeMarks g s).2) ∧ Own w' w.heap.size v' (codeMarks g s).1 ∧ Ext w w' := by
  obtain ⟨a, c, rfl⟩ := hv.form
  have HV := Lib.hid hv; clear hv
  have HC := Lib.hid (codeFits_c (.slice a g.length c) g s w HV.out hm)
  cases h0 : fits g s
  · rw [show codeMarks g s = ([], false) from by unfold codeMarks; rw [h0]; rfl]
    rw [h0] at HC
    go_enter Tryz.func92, Tryz.ntmps92
    go_wp2_with fail
    refine HC.out.mono ?_
    rintro e w1 ⟨rfl, x1⟩
    have X1 := Lib.hid x1; clear x1
    go_wp2
    go_ret2
    exact ⟨_, rfl, Own.nil _ _, X1.out⟩
  · obtain ⟨k, rfl, hG, hk⟩ := fits_iff.1 h0
    have hl := hG.le
    have HG := Lib.hid hG
    have hk4 : k ≤ 4095 := by have := pow_le_12 hl; omega
    rw [show codeMarks g k = (marksTo g k g.length, true) from by unfold codeMarks; rw [h0]; rfl]
    rw [h0] at HC
    clear hk hG
    go_enter Tryz.func92, Tryz.ntmps92
    go_wp2_with fail
    refine HC.out.mono ?_
    rintro e w1 ⟨rfl, x1⟩
    have X1 := Lib.hid x1; clear x1
    go_wp2_with fail
    refine (bookOf_c _ g _ (HV.out.ext X1.out) HG.out).mono ?_
    rintro e w2 ⟨b, vb, vf, vs, rfl, -, hb, x2⟩
    have HB := Lib.hid hb; have X2 := Lib.hid (X1.out.trans x2); clear hb x2
    go_wp2_with fail
    refine (marks_c b _ _ _ _ g k _ HB.out HG.out hk4).mono ?_
    rintro e w3 ⟨v3, rfl, o3, x3⟩
    have O3 : Hid (Own w3 w.heap.size v3 (marksTo g k g.length)) := o3.mono X2.out.size
    have X3 := Lib.hid (X2.out.trans x3); clear o3 x3
    go_wp2
    go_ret2
    exact ⟨_, rfl, O3.out, X3.out⟩
end Go.Proofs.YtkmfmhckpfomeaaGreatDoor

/- The best question: the reference and the program compute the same plain function. The condition: the list has at most 2^20 numbers. -/
namespace Go.Proofs.YtkmfmhckpfomeaaGreatDoor
open Go.RowKit
open BigFrame

def askBest (g : List Int) (s : Int) : Int × Bool := if okD g s && decide (dep g s.toNat ≠ 0) then (((bestOf g s.toNat : Nat) : Int), true) else (0, false)

theorem Rd.atB {w : World} {b o n c : Nat} {xs : List Int} (h : Rd w (.slice (some ⟨b, o, none⟩) n c) xs) {k : Nat} (hk : k < n) {w' : World} (hx : Ext w w') : w'.cell? ⟨b, o + k, none⟩ = some (.int .i64 (getI xs k)) := by
  obtain ⟨b', o', he, -, -, hc⟩ := h.atI hk
  obtain ⟨rfl, rfl⟩ : b = b' ∧ o = o' := by simpa using he
  exact hc _ hx

set_option maxHeartbeats 2000000 in
theorem l6qBest_c (v vd : Value) (g : List Int) (s : Nat) (w : World) (hv : Rd w v g) (hd : Rd w vd (depsOf g)) (hg : IsGraph g) (hs : s < 2 ^ g.length) :
    Calls Tryz.prog 197 #[v, vd, .int .i64 s] w fun e w' => e = .returned (.int .i64 (bestOf g s : Nat)) ∧ Ext w w' := by
  obtain ⟨a, c, rfl⟩ := hv.form
  obtain ⟨p, hp⟩ : ∃ p, p = (depsOf g).length := ⟨_, rfl⟩
  obtain ⟨ad, cd, rfl⟩ := hd.form
  have hsl : s < (depsOf g).length := by rw [depsOf_length]; exact hs
  have HSG := Lib.hid (depsOf_get g hs)
  have HLT := Lib.hid fun (t : Nat) (ht : t ≤ s) => show (getI (depsOf g) t = ((dep g t : Nat) : Int)) ∧ t < (depsOf g).length from ⟨depsOf_get g (by omega), by omega⟩
  have hl := hg.le
  have hs4 : s ≤ 4095 := by have := pow_le_12 hl; omega
  have HV := Lib.hid hv; have HG := Lib.hid hg; have HD := Lib.hid hd
  rw [← hp] at hsl HLT HD ⊢
  clear hv hg hd hs hp
  have hds := dep_le g s
  obtain ⟨bd, od, rfl, -, hbd, hcs⟩ := HD.out.atI hsl
  rw [(HLT.out s (Nat.le_refl _)).1] at hcs
  have HCS := Lib.hid hcs
  obtain ⟨ds, hds'⟩ : ∃ d, d = dep g s := ⟨_, rfl⟩
  have HDS := Lib.hid hds'
  rw [← hds'] at hds HCS
  clear hcs hds'
  go_enter Tryz.func197, Tryz.ntmps197
  go_wp2
  go_loopw [7] (fun i wr => ∃ k : Nat, k ≤ g.length ∧ i = .int .i64 k ∧ Hid (∀ y, y < k → good g s y = false) ∧ Hid (Ext w wr)) (fun i _ => g.length - (intOf i).toNat)
  case atStart => exact ⟨0, Nat.zero_le _, rfl, fun y hy => absurd hy (Nat.not_lt_zero y), Ext.refl _⟩
  case round =>
    obtain ⟨k, hk, rfl, HB, HX⟩ := hrel
    by_cases hlt : k < g.length
    · obtain ⟨I, hI⟩ : ∃ I, I = qIn g s k := ⟨_, rfl⟩
      obtain ⟨O, hO⟩ : ∃ O, O = without s (qIn g s k) := ⟨_, rfl⟩
      have HQ := Lib.hid (l6qIn_c (.slice a g.length c) g s k wr (HV.out.ext HX.out) HG.out hs4 hlt)
      rw [← hI] at HQ
      have hI4 : I ≤ s := by rw [hI]; exact qIn_le _ _ _
      have hO4 : O ≤ s := by rw [hO]; exact without_sub_le _ _
      have hgood : good g s k = (decide (I ≠ 0) && decide (I ≠ s) && decide (dep g I < ds) && decide (dep g O < ds)) := by unfold good tells; rw [← hO, ← hI, HDS.out]
      have HGD := Lib.hid hgood
      have e2 := bits_andNot s I (by omega) (by omega)
      rw [show without s I = O from by rw [hO, hI]] at e2
      have dI := dep_le g I
      have dO := dep_le g O
      obtain ⟨d1, hd1⟩ : ∃ d, d = dep g I := ⟨_, rfl⟩
      obtain ⟨d2, hd2⟩ : ∃ d, d = dep g O := ⟨_, rfl⟩
      rw [← hd1] at dI HGD
      rw [← hd2] at dO HGD
      go_wp2_with fail
      refine HQ.out.mono ?_
      rintro e w1 ⟨rfl, x1⟩
      have X1 := Lib.hid (HX.out.trans x1); clear x1
      have cS := fun u => HCS.out _ (X1.out.trans (clip_ext w1 u))
      have cI := fun u => HD.out.atB (HLT.out I hI4).2 (X1.out.trans (clip_ext w1 u))
      have cO := fun u => HD.out.atB (HLT.out O hO4).2 (X1.out.trans (clip_ext w1 u))
      rw [(HLT.out I hI4).1, ← hd1] at cI
      rw [(HLT.out O hO4).1, ← hd2] at cO
      have lI := (HLT.out I hI4).2
      have lO := (HLT.out O hO4).2
      clear hI hO hd1 hd2 hgood
      by_cases h1 : I = 0
      · have hI0 : ((I : Int) != 0) = false := by simp [h1]
        have HGF : Hid (good g s k = false) := by unfold Hid; rw [HGD.out]; simp [h1]
        clear h1
        go_wp2
        refine wp_region_ext (by kernel_rfl) (by kernel_rfl) ?_
        repeat (go_big_quiet_step (fail))
        refine wpQuiet_nil ?_
        rintro _ ⟨u, rfl⟩
        go_wp2
        go_roundw
        case rel => exact ⟨k + 1, by omega, by go_num, fun y hy => by
          by_cases h : y = k
          · subst h; exact HGF.out
          · exact HB.out y (by omega), X1.out.trans (clip_ext _ _)⟩
        case measure => simp [intOf]; omega
      · have hI0 : ((I : Int) != 0) = true := by simp [h1]
        by_cases h2 : I = s
        · have hIs : ((I : Int) != (s : Int)) = false := by simp [h2]
          have HGF : Hid (good g s k = false) := by unfold Hid; rw [HGD.out]; simp [h2]
          clear h1 h2
          go_wp2
          refine wp_region_ext (by kernel_rfl) (by kernel_rfl) ?_
          repeat (go_big_quiet_step (fail))
          refine wpQuiet_nil ?_
          rintro _ ⟨u, rfl⟩
          go_wp2
          go_roundw
          case rel => exact ⟨k + 1, by omega, by go_num, fun y hy => by
            by_cases h : y = k
            · subst h; exact HGF.out
            · exact HB.out y (by omega), X1.out.trans (clip_ext _ _)⟩
          case measure => simp [intOf]; omega
        · have hIs : ((I : Int) != (s : Int)) = true := by simp; omega
          by_cases h3 : d1 < ds
          · have h3' : decide (d1 < ds) = true := decide_eq_true h3
            by_cases h4 : d2 < ds
            · have h4' : decide (d2 < ds) = true := decide_eq_true h4
              have HGT : Hid (good g s k = true) := by unfold Hid; rw [HGD.out]; simp [h1, h2, h3, h4]
              clear h1 h2 h3 h4
              go_wp2
              refine wp_region_ext (by kernel_rfl) (by kernel_rfl) ?_
              repeat (go_big_quiet_step (fail))
              refine wpQuiet_nil ?_
              rintro _ ⟨u, rfl⟩
              go_wp2
              go_ret
              exact ⟨ret_int (by rw [best_here HGT.out hlt HB.out]), X1.out.trans (clip_ext _ _)⟩
            · have h4' : decide (d2 < ds) = false := decide_eq_false h4
              have HGF : Hid (good g s k = false) := by unfold Hid; rw [HGD.out]; simp [h4]
              clear h1 h2 h3 h4
              go_wp2
              refine wp_region_ext (by kernel_rfl) (by kernel_rfl) ?_
              repeat (go_big_quiet_step (fail))
              refine wpQuiet_nil ?_
              rintro _ ⟨u, rfl⟩
              go_wp2
              go_roundw
              case rel => exact ⟨k + 1, by omega, by go_num, fun y hy => by
                by_cases h : y = k
                · subst h; exact HGF.out
                · exact HB.out y (by omega), X1.out.trans (clip_ext _ _)⟩
              case measure => simp [intOf]; omega
          · have h3' : decide (d1 < ds) = false := decide_eq_false h3
            have HGF : Hid (good g s k = false) := by unfold Hid; rw [HGD.out]; simp [h3]
            clear h1 h2 h3
            go_wp2
            refine wp_region_ext (by kernel_rfl) (by kernel_rfl) ?_
            repeat (go_big_quiet_step (fail))
            refine wpQuiet_nil ?_
            rintro _ ⟨u, rfl⟩
            go_wp2
            go_roundw
            case rel => exact ⟨k + 1, by omega, by go_num, fun y hy => by
              by_cases h : y = k
              · subst h; exact HGF.out
              · exact HB.out y (by omega), X1.out.trans (clip_ext _ _)⟩
            case measure => simp [intOf]; omega
    · obtain rfl : k = g.length := by omega
      go_wp2
      go_ret
      exact ⟨ret_int (by rw [best_none HB.out]; rfl), HX.out⟩

set_option maxHeartbeats 1000000 in
theorem best_c {w0 w : World} {b : Nat} {v : Value} {g : List Int} (hv : Rd w0 v g) (hg : IsGraph g) (hb : w0.heap.size ≤ b) (s : Nat) (hs : s ≤ 4095) (h0 : s ≠ 0) (hd : dep g s < 99) (hd0 : dep g s ≠ 0) (ha : AskOk w0 b v g w) :
    Calls Tryz.prog 142 #[.pointer (some ⟨b + 1, 0, none⟩), .int .i64 s] w fun e w' => e = .returned (.int .i64 (bestOf g s : Nat)) ∧ AskOk w0 b v g w' ∧ Upd b w w' := by
  have HA := Lib.hid ha
  have HH := Lib.hid (good_has hs hd hd0)
  have HGA := Lib.hid fun x => good_aft (x := x) hs hd
  have HAF := Lib.hid fun x (hx : x < g.length) w (ha : AskOk w0 b v g w) => after_c hv hg hb s x hs hx ha
  have HDE := Lib.hid fun w (ha : AskOk w0 b v g w) => depth_c hv hg hb s hs h0 ha
  have hn : never (dep g s) ≤ 11 := by
    have := dep_small hs (show dep g s ≠ 99 by omega)
    unfold never; rw [if_neg (by omega)]; exact this
  obtain ⟨D, hD⟩ : ∃ D, D = never (dep g s) := ⟨_, rfl⟩
  have hl := hg.le
  rw [← hD] at hn HGA HDE
  clear hD ha hv hg hd hd0 hb
  go_enter Tryz.func142, Tryz.ntmps142
  go_wp2
  go_loopw [5] (fun i wr => ∃ k : Nat, k ≤ g.length ∧ i = .int .i64 k ∧ Hid (∀ y, y < k → good g s y = false) ∧ Hid (AskOk w0 b v g wr) ∧ Hid (Upd b w wr)) (fun i _ => g.length - (intOf i).toNat)
  case atStart => exact ⟨0, Nat.zero_le _, rfl, fun y hy => absurd hy (Nat.not_lt_zero y), HA.out, Upd.refl _ _⟩
  case round =>
    obtain ⟨k, hk, rfl, HB, HAR, HU⟩ := hrel
    have hlt : k < g.length := by
      obtain ⟨x, hx, hg⟩ := HH.out
      rcases Nat.lt_or_ge k g.length with h | h
      · exact h
      · have := HB.out x (by omega)
        rw [hg] at this; cases this
    have hA20 := aft_le g s k
    obtain ⟨A, hA⟩ : ∃ A, A = aft g s k := ⟨_, rfl⟩
    have HK := Lib.hid (HAF.out k hlt wr HAR.out)
    have HGK := Lib.hid (HGA.out k)
    rw [← hA] at HK HGK hA20
    have hAn : ((A : Int) ≥ (D : Int)) = ((D : Int) ≤ (A : Int)) := rfl
    clear hA hAn
    by_cases hc : A < D
    · have hc' : decide (D ≤ A) = false := by simp; omega
      have HGT := Lib.hid (HGK.out.2 hc)
      clear hc hA20
      go_wp2_with fail
      refine HK.out.mono ?_
      rintro e w1 ⟨rfl, a1, u1⟩
      have A1 := Lib.hid a1; have U1 := Lib.hid (HU.out.trans u1); clear a1 u1
      go_wp2_with fail
      refine (HDE.out _ A1.out).mono ?_
      rintro e w2 ⟨rfl, a2, u2⟩
      have A2 := Lib.hid a2; have U2 := Lib.hid (U1.out.trans u2); clear a2 u2
      go_wp2
      go_ret
      exact ⟨ret_int (by rw [best_here HGT.out hlt HB.out]), A2.out, U2.out⟩
    · have hc' : decide (D ≤ A) = true := by simp; omega
      have HGF : Hid (good g s k = false) := by
        unfold Hid
        cases hh : good g s k
        · rfl
        · exact absurd (HGK.out.1 hh) hc
      clear hc hA20
      go_wp2_with fail
      refine HK.out.mono ?_
      rintro e w1 ⟨rfl, a1, u1⟩
      have A1 := Lib.hid a1; have U1 := Lib.hid (HU.out.trans u1); clear a1 u1
      go_wp2_with fail
      refine (HDE.out _ A1.out).mono ?_
      rintro e w2 ⟨rfl, a2, u2⟩
      have A2 := Lib.hid a2; have U2 := Lib.hid (U1.out.trans u2); clear a2 u2
      go_wp2
      go_roundw
      case rel => exact ⟨k + 1, by omega, by go_num, fun y hy => by
        by_cases h : y = k
        · subst h; exact HGF.out
        · exact HB.out y (by omega), A2.out, U2.out⟩
      case measure => simp [intOf]; omega

end Go.Proofs.YtkmfmhckpfomeaaGreatDoor

/- Played questions and their answers: the reference and the program compute the same plain lists. The condition: the list has at most 2^20 numbers. -/
namespace Go.Proofs.YtkmfmhckpfomeaaGreatDoor
open Go.RowKit
open BigFrame

/-- The answers: y or n. -/
def playS (g : List Int) (wrong : Nat) : Nat → Nat → List UInt8
  | 0, _ => []
  | d + 1, s => if dep g s = 0 then [] else (if (qIn g s (bestOf g s)).testBit wrong then 121 else 110) :: playS g wrong d (nextOf g wrong s)
def canPlay (g : List Int) (x : Int) : Bool := graphIn g && inB 0 x ((g.length : Int) - 1) && decide (dep g (2 ^ g.length - 1) < 99)
def played (g : List Int) (x d s : Nat) : List Int := (play g x d s).map fun y => ((y : Nat) : Int)
def askPlay (g : List Int) (x : Int) : List Int × Bool := if canPlay g x then (played g x.toNat 99 (2 ^ g.length - 1), true) else ([], false)
def askAns (g : List Int) (x : Int) : ByteArray × Bool := if canPlay g x then (⟨(playS g x.toNat 99 (2 ^ g.length - 1)).toArray⟩, true) else (⟨#[]⟩, false)
theorem play_end {g : List Int} {x d s : Nat} (h : dep g s = 0) : play g x d s = [] ∧ playS g x d s = [] := by
  cases d with
  | zero => exact ⟨rfl, rfl⟩
  | succ d => unfold play playS; rw [if_pos h, if_pos h]; exact ⟨rfl, rfl⟩
theorem play_next {g : List Int} {x d s : Nat} (h : dep g s ≠ 0) : play g x (d + 1) s = bestOf g s :: play g x d (nextOf g x s) := by
  rw [play, if_neg h]
theorem playS_next {g : List Int} {x d s : Nat} (h : dep g s ≠ 0) : playS g x (d + 1) s = (if (qIn g s (bestOf g s)).testBit x then 121 else 110) :: playS g x d (nextOf g x s) := by
  rw [playS, if_neg h]
theorem play_length (g : List Int) (x : Nat) : ∀ d s, (play g x d s).length ≤ d ∧ (playS g x d s).length = (play g x d s).length
  | 0, s => ⟨Nat.le_refl _, rfl⟩
  | d + 1, s => by
    by_cases h : dep g s = 0
    · rw [(play_end h).1, (play_end h).2]; exact ⟨Nat.zero_le _, rfl⟩
    · rw [play_next h, playS_next h]
      have := play_length g x d (nextOf g x s)
      simp; omega
/-- What has been asked and what is still to come. -/
structure PlayAt (g : List Int) (x d s : Nat) (done : List Int) (bs : ByteArray) : Prop where
  set : s ≤ 4095
  ne : s ≠ 0
  lt : s < 2 ^ g.length
  dep : dep g s < 99
  fuel : Proofs.YtkmfmhckpfomeaaGreatDoor.dep g s ≤ d
  list : done ++ played g x d s = played g x 99 (2 ^ g.length - 1)
  said : ∃ l : List UInt8, bs = ⟨l.toArray⟩ ∧ l ++ playS g x d s = playS g x 99 (2 ^ g.length - 1)
theorem PlayAt.start {g : List Int} {x : Nat} (hg : IsGraph g) (hd : Proofs.YtkmfmhckpfomeaaGreatDoor.dep g (2 ^ g.length - 1) < 99) : PlayAt g x 99 (2 ^ g.length - 1) [] ⟨#[]⟩ := by
  have h1 := pow_le_12 hg.le
  have h2 : 2 ^ 1 ≤ 2 ^ g.length := Nat.pow_le_pow_right (by omega) hg.pos
  exact ⟨by omega, by omega, by omega, hd, by omega, rfl, ⟨[], rfl, rfl⟩⟩
theorem PlayAt.done_le {g : List Int} {x d s : Nat} {done : List Int} {bs : ByteArray} (h : PlayAt g x d s done bs) : done.length ≤ 99 := by
  have h1 := congrArg List.length h.list
  have h2 := (play_length g x 99 (2 ^ g.length - 1)).1
  unfold played at h1
  simp only [List.length_append, List.length_map] at h1
  omega
theorem PlayAt.said_le {g : List Int} {x d s : Nat} {done : List Int} {bs : ByteArray} (h : PlayAt g x d s done bs) : bs.size ≤ 99 := by
  obtain ⟨l, rfl, h1⟩ := h.said
  have h1 := congrArg List.length h1
  have h2 := play_length g x 99 (2 ^ g.length - 1)
  simp only [List.length_append] at h1
  show l.toArray.size ≤ 99
  simp
  omega
theorem PlayAt.fin {g : List Int} {x d s : Nat} {done : List Int} {bs : ByteArray} (h : PlayAt g x d s done bs) (h0 : Proofs.YtkmfmhckpfomeaaGreatDoor.dep g s = 0) : done = played g x 99 (2 ^ g.length - 1) ∧ bs = ⟨(playS g x 99 (2 ^ g.length - 1)).toArray⟩ := by
  obtain ⟨l, hl, h1⟩ := h.said
  have h2 := h.list
  unfold played at h2
  rw [(play_end h0).1, List.map_nil, List.append_nil] at h2
  rw [(play_end h0).2, List.append_nil] at h1
  exact ⟨h2, by rw [hl, h1]⟩
theorem bytes_push (l : List UInt8) (c : UInt8) : (⟨l.toArray⟩ : ByteArray) ++ ⟨#[c]⟩ = ⟨(l ++ [c]).toArray⟩ := by
  apply ByteArray.ext
  simp
theorem PlayAt.next {g : List Int} {x d s : Nat} {done : List Int} {bs : ByteArray} (h : PlayAt g x d s done bs) (h0 : Proofs.YtkmfmhckpfomeaaGreatDoor.dep g s ≠ 0) : ∃ d', d = d' + 1 ∧
    ((qIn g s (bestOf g s)).testBit x = true → PlayAt g x d' (qIn g s (bestOf g s)) (done ++ [((bestOf g s : Nat) : Int)]) (bs ++ ⟨#[121]⟩)) ∧
    ((qIn g s (bestOf g s)).testBit x = false → PlayAt g x d' (without s (qIn g s (bestOf g s))) (done ++ [((bestOf g s : Nat) : Int)]) (bs ++ ⟨#[110]⟩)) := by
  have hf := h.fuel
  obtain ⟨d', rfl⟩ : ∃ d', d = d' + 1 := ⟨d - 1, by omega⟩
  obtain ⟨n1, n2, n3⟩ := next_facts (wrong := x) h.set h.dep h0
  have hl := h.list
  obtain ⟨l, hb, hs⟩ := h.said
  have hs4 := h.set
  have hlt := h.lt
  have hd := h.dep
  unfold played at hl
  rw [play_next h0, List.map_cons] at hl
  rw [playS_next h0] at hs
  refine ⟨d', rfl, fun hb1 => ?_, fun hb1 => ?_⟩
  · have e : nextOf g x s = qIn g s (bestOf g s) := by unfold nextOf; rw [if_pos hb1]
    rw [e] at n1 n2 n3 hl hs
    rw [if_pos hb1] at hs
    exact ⟨by omega, n1, by omega, by omega, by omega, by unfold played; rw [List.append_assoc]; exact hl, ⟨l ++ [121], by rw [hb, bytes_push], by rw [List.append_assoc]; exact hs⟩⟩
  · have e : nextOf g x s = without s (qIn g s (bestOf g s)) := by unfold nextOf; rw [if_neg (by rw [hb1]; decide)]
    rw [e] at n1 n2 n3 hl hs
    rw [if_neg (by rw [hb1]; decide)] at hs
    exact ⟨by omega, n1, by omega, by omega, by omega, by unfold played; rw [List.append_assoc]; exact hl, ⟨l ++ [110], by rw [hb, bytes_push], by rw [List.append_assoc]; exact hs⟩⟩

def playV (v : Value) (s : ByteArray) (b : Bool) : Value := .tuple #[v, .string s, .bool b]

set_option maxRecDepth 100000 in
set_option maxHeartbeats 2000000 in
theorem l6qPlay_c (v : Value) (g : List Int) (x : Int) (w : World) (hv : Rd w v g) (hm : g.length ≤ 1048576) :
    Calls Tryz.prog 163 #[v, .int .i64 x] w fun e w' => ∃ v', e = .returned (playV v' (askAns g x).1 (canPlay g x)) ∧ Own w' w.heap.size v' (askPlay g x).1 ∧ Ext w w' := by
  obtain ⟨a, c, rfl⟩ := hv.form
  obtain ⟨W, hW⟩ : ∃ W, W = w.alloc (.cells #[] 3) := ⟨_, rfl⟩
  have ho0 : Own W w.heap.size (.slice (some ⟨w.heap.size, 0, none⟩) 0 0) [] := by rw [hW]; exact Own.lit w
  have hx0 : Ext w W := by rw [hW]; exact (Ext.refl _).alloc _
  have HW := Lib.hid hW; have HO0 := Lib.hid ho0; have HX0 := Lib.hid hx0; have HV := Lib.hid (hv.ext hx0); have HV0 := Lib.hid hv
  have hsW : w.heap.size < W.heap.size := by rw [hW]; simp
  have HM := Lib.hid hm
  clear hv hW ho0 hx0
  cases h0 : graphIn g
  · have HK : Hid (canPlay g x = false) := by unfold Hid canPlay; rw [h0]; rfl
    rw [show askPlay g x = ([], false) from by unfold askPlay; rw [HK.out]; rfl, show askAns g x = (⟨#[]⟩, false) from by unfold askAns; rw [HK.out]; rfl, HK.out]
    go_enter Tryz.func163, Tryz.ntmps163
    go_wp2_with fail
    rw [← HW.out]
    refine (graphInS_c _ _ _ HV.out HM.out).mono ?_
    rintro e w1 ⟨rfl, x1⟩
    go_wp2
    go_ret3
    exact ⟨_, rfl, HO0.out.ext x1, HX0.out.trans x1⟩
  · have hG := graphIn_iff.1 h0
    have hl := hG.le
    have hl1 := hG.pos
    have HG := Lib.hid hG
    cases hx : inB 0 x ((g.length : Int) - 1)
    · have HK : Hid (canPlay g x = false) := by unfold Hid canPlay; rw [hx, Bool.and_false]; rfl
      rw [show askPlay g x = ([], false) from by unfold askPlay; rw [HK.out]; rfl, show askAns g x = (⟨#[]⟩, false) from by unfold askAns; rw [HK.out]; rfl, HK.out]
      clear hG
      go_enter Tryz.func163, Tryz.ntmps163
      go_wp2_with fail
      rw [← HW.out]
      refine (graphInS_c _ _ _ HV.out HM.out).mono ?_
      rintro e w1 ⟨rfl, x1⟩
      have X1 := Lib.hid x1; clear x1
      go_wp2_with (go_at_call 37; refine (l6In_c _ _ _ _).mono ?_; rintro e w' ⟨rfl, rfl⟩)
      go_ret3
      exact ⟨_, rfl, HO0.out.ext X1.out, HX0.out.trans X1.out⟩
    · obtain ⟨y, rfl, hy⟩ := node_iff.1 hx
      have hst := PlayAt.start (x := y) hG
      obtain ⟨p, hp, hp1, hp2, hp3⟩ := pow_var g.length (by omega)
      have hp4 : p ≤ 4096 := by rw [← hp]; exact pow_le_12 hl
      have hp5 : 2 ≤ p := by rw [← hp]; exact Nat.pow_le_pow_right (n := 2) (i := 1) (by omega) hl1
      have e0 : min g.length 64 = g.length := by omega
      have hfit : okD g (((p - 1 : Nat) : Int)) = decide (dep g (p - 1) < 99) := by
        unfold okD fits
        rw [h0, setB_iff.2 ⟨p - 1, rfl, by omega⟩]
        simp; omega
      have HFIT := Lib.hid hfit
      have HCP : Hid (canPlay g y = decide (dep g (p - 1) < 99)) := by unfold Hid canPlay; rw [h0, hx, hp]; rfl
      have HPL : Hid (askPlay g y = if canPlay g y then (played g y 99 (p - 1), true) else ([], false)) := by unfold Hid askPlay; rw [hp]; rfl
      have HAN : Hid (askAns g y = if canPlay g y then (⟨(playS g y 99 (p - 1)).toArray⟩, true) else (⟨#[]⟩, false)) := by unfold Hid askAns; rw [hp]; rfl
      rw [hp] at hst
      have HST := Lib.hid hst
      have HP := Lib.hid hp
      have HXY := Lib.hid hx
      clear hfit hst hp hG
      go_enter Tryz.func163, Tryz.ntmps163
      go_wp2_with fail
      rw [← HW.out]
      refine (graphInS_c _ _ _ HV.out HM.out).mono ?_
      rintro e w1 ⟨rfl, x1⟩
      have X1 := Lib.hid x1; clear x1
      go_wp2_with (go_at_call 37; refine (l6In_c _ _ _ _).mono ?_; rintro e w' ⟨rfl, rfl⟩)
      rw [show ((p : Int) - 1) = ((p - 1 : Nat) : Int) from by omega]
      refine (l6qGiven_c _ g _ _ (HV.out.ext X1.out) HM.out).mono ?_
      rintro e w2 ⟨vd, rfl, hr, x2⟩
      have X2 := Lib.hid (X1.out.trans x2); clear x2
      have HR := Lib.hid hr; clear hr
      unfold listV
      rw [HFIT.out] at HR ⊢
      by_cases hd : dep g (p - 1) < 99
      · have HK : Hid (canPlay g y = true) := by unfold Hid; rw [HCP.out]; exact decide_eq_true hd
        have HPL2 : Hid (askPlay g y = (played g y 99 (p - 1), true)) := by unfold Hid; rw [HPL.out, if_pos HK.out]
        have HAN2 : Hid (askAns g y = (⟨(playS g y 99 (p - 1)).toArray⟩, true)) := by unfold Hid; rw [HAN.out, if_pos HK.out]
        have rd := (HR.out (decide_eq_true hd)).1
        have hfr := (HR.out (decide_eq_true hd)).2
        rw [decide_eq_true hd]
        have HS2 := Lib.hid (HST.out hd)
        have HD := Lib.hid rd
        obtain ⟨ad, cd, rfl⟩ := rd.form
        have hlen : (depsOf g).length = p := by rw [depsOf_length]; exact HP.out
        rw [hlen] at HD ⊢
        have HGET := Lib.hid fun (t : Nat) (ht : t < p) => depsOf_get g (show t < 2 ^ g.length by rw [HP.out]; exact ht)
        obtain ⟨bd, od, rfl, -, -, -⟩ := HD.out.atI (k := p - 1) (by omega)
        have hbd := hfr bd od none _ _ rfl
        have hbw : w.heap.size < bd := by have := X1.out.size; omega
        have HX2 := Lib.hid (HX0.out.trans X2.out)
        have HO2 : Hid (Own w2 w.heap.size (.slice (some ⟨w.heap.size, 0, none⟩) 0 0) []) := HO0.out.ext X2.out
        clear rd hlen hd HR hfr hbd X1 X2 HX0 HO0 HV hsW
        go_wp2
        go_loopw [7, 8, 9] (fun vl sd st wr => ∃ (d s : Nat) (done : List Int) (bs : ByteArray), sd = .string bs ∧ st = .int .i64 s ∧ Hid (PlayAt g y d s done bs) ∧ Hid (Own wr w.heap.size vl done) ∧ Hid (Ext w wr) ∧ Hid (Rd wr (.slice (some ⟨bd, od, none⟩) p cd) (depsOf g)) ∧ Hid (vl.ownBlock ≠ some bd)) (fun _ _ st _ => dep g (intOf st).toNat)
        case atStart => exact ⟨99, p - 1, [], ⟨#[]⟩, rfl, (by go_num), HS2.out, HO2.out, HX2.out, HD.out, fun e => by simp [Value.ownBlock] at e; omega⟩
        case round =>
          clear HS2 HO2 HX2 HD
          obtain ⟨d, s, done, bs, rfl, rfl, HPA, HO, HX, HD, HNE⟩ := hrel
          have hpa := HPA.out
          have hs4 := hpa.set
          have hsp : s < p := by have := hpa.lt; rw [HP.out] at this; exact this
          have ck := HD.out.atB hsp (Ext.refl wr)
          rw [show getI (depsOf g) s = ((dep g s : Nat) : Int) from HGET.out s hsp] at ck
          have hd99 := hpa.dep
          by_cases hz : dep g s = 0
          · have HF : Hid (done = played g y 99 (p - 1) ∧ bs = ⟨(playS g y 99 (p - 1)).toArray⟩) := by have := hpa.fin hz; rw [HP.out] at this; exact this
            rw [hz] at ck
            clear hpa hz hd99
            go_wp2
            go_ret3
            refine ⟨u7, ?_, ?_, HX.out⟩
            · rw [HAN2.out, HK.out, HF.out.2]; rfl
            · rw [HPL2.out]
              show Own _ _ _ (played g y 99 (p - 1))
              rw [← HF.out.1]
              exact HO.out
          · obtain ⟨d', rfl, hn1, hn2⟩ := hpa.next hz
            have hbg := (best_good hs4 hd99 hz).2
            have hfacts := next_facts (wrong := y) hs4 hd99 hz
            have HM1 : Hid ((qIn g s (bestOf g s)).testBit y = true → dep g (qIn g s (bestOf g s)) < dep g s) := fun h => by
              have := hfacts.2.2; unfold nextOf at this; rwa [if_pos h] at this
            have HM2 : Hid ((qIn g s (bestOf g s)).testBit y = false → dep g (without s (qIn g s (bestOf g s))) < dep g s) := fun h => by
              have := hfacts.2.2; unfold nextOf at this; rwa [if_neg (by rw [h]; decide)] at this
            have HB := Lib.hid (l6qBest_c (.slice a g.length c) (.slice (some ⟨bd, od, none⟩) p cd) g s wr (HV0.out.ext HX.out) HD.out HG.out hpa.lt)
            have HN1 := Lib.hid hn1; have HN2 := Lib.hid hn2
            have hlen := hpa.done_le
            have hbl := hpa.said_le
            obtain ⟨B, hB⟩ : ∃ B, B = bestOf g s := ⟨_, rfl⟩
            rw [← hB] at hbg HM1 HM2 HB HN1 HN2
            have hI4 : qIn g s B ≤ 4095 := Nat.le_trans (qIn_le _ _ _) hs4
            have HQ := Lib.hid fun w hw => l6qIn_c (.slice a g.length c) g s B w hw HG.out hs4 hbg
            have e2 := bits_andNot s (qIn g s B) (by omega) (by omega)
            obtain ⟨I, hI⟩ : ∃ I, I = qIn g s B := ⟨_, rfl⟩
            rw [← hI] at HM1 HM2 HN1 HN2 hI4 HQ e2
            obtain ⟨D, hD⟩ : ∃ D, D = dep g s := ⟨_, rfl⟩
            rw [← hD] at ck hz HM1 HM2
            have HDD := Lib.hid hD
            have hz' : decide (0 < D) = true := decide_eq_true (by omega)
            have hzp : 0 < D := by omega
            have HBT := Lib.hid (l1Bit_c I y (by omega) (by omega))
            clear hpa hn1 hn2 hfacts hB hI hD hz hd99
            go_wp2_with fail
            refine HB.out.mono ?_
            rintro e w3 ⟨rfl, x3⟩
            have X3 := Lib.hid (HX.out.trans x3); have O3 := Lib.hid (HO.out.ext x3); have D3 := Lib.hid (HD.out.ext x3); clear x3
            go_wp2_with fail
            refine (HQ.out _ (HV0.out.ext X3.out)).mono ?_
            rintro e w4 ⟨rfl, x4⟩
            have X4 := Lib.hid (X3.out.trans x4); have O4 := Lib.hid (O3.out.ext x4); have D4 := Lib.hid ((D3.out.ext x4).ext ((Ext.refl w4).alloc (.cells #[.int .i64 (B : Int)] 3))); have hbs : bd < w4.heap.size := by obtain ⟨_, _, _, -, h, -⟩ := (D3.out.ext x4).atI (k := s) hsp; simp_all
            clear x4
            go_wp2_with (at_builtin; refine wpList_append_int2 rfl _ _ rfl w.heap.size _ _ rfl (O4.out.alloc _) w4.heap.size _ rfl (one_cell _ _ _) (by omega) (by simp; have h1 := X4.out.size; omega) ?_; intro v' w5 ho5 hg5 hn5)
            have X5 : Hid (Ext w w5) := (O4.out.alloc _).grew (X4.out.alloc _) hg5 (Nat.le_refl _)
            have O5 := Lib.hid ho5
            have D5 : Hid (Rd w5 (.slice (some ⟨bd, od, none⟩) p cd) (depsOf g)) := D4.out.grown hg5 HNE.out
            have N5 : Hid (v'.ownBlock ≠ some bd) := fun e => by
              rcases hn5 _ e with h | h
              · exact HNE.out h
              · simp at h; omega
            clear ho5 hg5 hn5
            cases hbt : I.testBit y
            · have hb1 : (((I.testBit y).toNat : Int) == 1) = false := by rw [hbt]; rfl
              have HNX := Lib.hid (HN2.out hbt)
              have HMX := Lib.hid (HM2.out hbt)
              have HBT0 : Hid (∀ w, Calls Tryz.prog 152 #[.int .i64 I, .int .i64 y] w fun e w' => e = .returned (.int .i64 0) ∧ w = w') := fun w => by have := HBT.out w; rw [hbt] at this; exact this
              clear hbt hb1 HBT
              go_wp2_with (go_at_call 152; refine (HBT0.out _).mono ?_; rintro e w' ⟨rfl, rfl⟩)
              go_roundw
              case rel => exact ⟨d', without s I, _, _, rfl, rfl, HNX.out, O5.out, X5.out, D5.out, N5.out⟩
              case measure => simp only [intOf, Int.toNat_natCast]; rw [← HDD.out]; exact HMX.out
            · have HNX := Lib.hid (HN1.out hbt)
              have HMX := Lib.hid (HM1.out hbt)
              have HBT0 : Hid (∀ w, Calls Tryz.prog 152 #[.int .i64 I, .int .i64 y] w fun e w' => e = .returned (.int .i64 1) ∧ w = w') := fun w => by have := HBT.out w; rw [hbt] at this; exact this
              clear hbt HBT
              go_wp2_with (go_at_call 152; refine (HBT0.out _).mono ?_; rintro e w' ⟨rfl, rfl⟩)
              go_roundw
              case rel => exact ⟨d', I, _, _, rfl, rfl, HNX.out, O5.out, X5.out, D5.out, N5.out⟩
              case measure => simp only [intOf, Int.toNat_natCast]; rw [← HDD.out]; exact HMX.out
      · have HK : Hid (canPlay g y = false) := by unfold Hid; rw [HCP.out]; exact decide_eq_false hd
        have HPL2 : Hid (askPlay g y = ([], false)) := by unfold Hid; rw [HPL.out, HK.out]; rfl
        have HAN2 : Hid (askAns g y = (⟨#[]⟩, false)) := by unfold Hid; rw [HAN.out, HK.out]; rfl
        rw [decide_eq_false hd]
        clear hd HR
        go_wp2
        refine wp_loop_once ?_
        go_wp2
        go_ret3
        refine ⟨.slice (some ⟨w.heap.size, 0, none⟩) 0 0, ?_, ?_, HX0.out.trans X2.out⟩
        · rw [HAN2.out, HK.out]; rfl
        · rw [HPL2.out]
          exact HO0.out.ext X2.out
end Go.Proofs.YtkmfmhckpfomeaaGreatDoor
