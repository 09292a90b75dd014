/- What the walks of this seat rest on, one part: plain facts, and contracts of the functions that they reach. Each states its own condition. -/
import Derived.Test.YtkmfmhckpfomeaaGreatDoorB22
import Derived.Test.YtkmfmhckpfomeaaGreatDoorB6
import Derived.Test.YtkmfmhckpfomeaaGreatDoorB28
import Derived.Test.YtkmfmhckpfomeaaGreatDoorB15
import Derived.Test.YtkmfmhckpfomeaaGreatDoorB23
import Derived.Handy
set_option linter.all false
set_option linter.unusedSimpArgs false
set_option linter.unusedVariables false
/- The reference's graph of a kind, told. No condition. -/
namespace Go.Proofs.YtkmfmhckpfomeaaGreatDoor
open Go.RowKit
open BigFrame

theorem cell_top3 (w : World) (o : Obj) (x : Value) (t : TypeId) : ((w.alloc o).alloc (.cells #[x] t)).cell? ⟨w.heap.size + 1, 0, none⟩ = some x := by
  have := one_cell (w.alloc o) x t
  rwa [World.size_alloc] at this

set_option maxRecDepth 100000 in
set_option maxHeartbeats 8000000 in
theorem kindS0 (n : Nat) (w : World) (hn1 : 1 ≤ n) (hn : n ≤ 12) :
    Calls Tryz.prog 21 #[.int .i64 0, .int .i64 n] w fun e w' => ∃ v, e = .returned (listV v true) ∧ Own w' w.heap.size v (kindGr 0 n) ∧ Ext w w' := by
  have hin1 : inB 0 0 3 = true := inB_iff.2 ⟨by omega, by omega⟩
  have hin2 : inB 1 (n : Int) 12 = true := inB_iff.2 ⟨by omega, by omega⟩
  obtain ⟨W, hW⟩ : ∃ W, W = w.alloc (.cells #[] 29) := ⟨_, rfl⟩
  have he0 : EdgesP W w.heap.size n (.slice (some ⟨w.heap.size, 0, none⟩) 0 0) [] [] := by rw [hW]; exact EdgesP.lit w n
  have hx0 : Ext w W := by rw [hW]; exact (Ext.refl _).alloc _
  have HE0 := Lib.hid he0; have HX0 := Lib.hid hx0; have HW := Lib.hid hW
  clear he0 hx0 hW
  go_enter Tryz.func21, Tryz.ntmps21
  go_wp2_with (go_at_call 37; refine (l6In_c _ _ _ _).mono ?_; rintro e w' ⟨rfl, rfl⟩)
  rw [← HW.out]
  clear hin1 hin2
  go_loopw [6, 7] (fun v i wr => ∃ (k : Nat) (es : List Value), k ≤ n ∧ i = .int .i64 k ∧ Hid (es.length ≤ 12 * k) ∧ Hid (EdgesP wr w.heap.size n v es (allPs 0 n k)) ∧ Hid (Ext w wr)) (fun _ i _ => n - (intOf i).toNat)
  case atStart => exact ⟨0, [], Nat.zero_le _, rfl, Nat.zero_le _, HE0, HX0⟩
  case round =>
    clear HE0 HX0 HW
    obtain ⟨i, es, hi, rfl, HL, HE, HX⟩ := hrel
    by_cases hlt : i < n
    · obtain ⟨i1, hi1⟩ : ∃ i1 : Nat, (i : Int) + 1 = (i1 : Int) := ⟨i + 1, by omega⟩
      go_wp2
      go_loopw [6, 8] (fun v q wr => ∃ (k : Nat) (es : List Value), i < k ∧ k ≤ n ∧ q = .int .i64 k ∧ Hid (es.length ≤ 12 * i + k) ∧ Hid (EdgesP wr w.heap.size n v es (allPs 0 n i ++ rowPs 0 n i k)) ∧ Hid (Ext w wr)) (fun _ q _ => n - (intOf q).toNat)
      case atStart => exact ⟨i1, es, by omega, by omega, rfl, by unfold Hid; have := HL.out; omega, by unfold Hid; rw [rowPs_nil _ (by omega), List.append_nil]; exact HE.out, HX⟩
      case round =>
        clear HE HX HL
        obtain ⟨k, es, hki, hk, rfl, HL, HE, HX⟩ := hrel
        by_cases hlk : k < n
        · obtain ⟨n1, hn1'⟩ : ∃ n1 : Nat, (n : Int) - 1 = (n1 : Int) := ⟨n - 1, by omega⟩
          obtain ⟨b0, hb0⟩ : ∃ b, ((i : Int) == 0) = b := ⟨_, rfl⟩
          obtain ⟨bn, hbn⟩ : ∃ b, ((k : Int) == (i1 : Int)) = b := ⟨_, rfl⟩
          obtain ⟨be, hbe⟩ : ∃ b, ((k : Int) == (n1 : Int)) = b := ⟨_, rfl⟩
          have HSE : Hid (sEdge 0 n i k = ((0 == 3) || (0 == 2 && b0) || (decide (0 < 2) && bn) || (0 == 1 && b0 && be))) := by
            unfold sEdge Hid
            have e0 : (i == 0) = b0 := by rw [← hb0]; exact (beq_cast i 0).symm
            have en : (k == i + 1) = bn := by rw [← hbn, Bool.eq_iff_iff, beq_iff_eq, beq_iff_eq]; omega
            have ee : (k + 1 == n) = be := by rw [← hbe, Bool.eq_iff_iff, beq_iff_eq, beq_iff_eq]; omega
            rw [e0, en, ee]
          have hsz := HX.out.size
          have hsz2 := HL.out
          cases b0 <;> cases bn <;> cases be
          all_goals go_wp2_with (at_builtin; refine wpList_append_edgeP rfl _ _ rfl w.heap.size n _ _ _ (i, k) rfl ((HE.out.ext ((Ext.refl _).alloc _)).ext ((Ext.refl _).alloc _)) (wr.heap.size + 1) (.slice (some ⟨wr.heap.size, 0, none⟩) 2 2) rfl ((EdgeP.new HE.out i k (by omega) (by omega) (by omega) (by omega) _).ext ((Ext.refl _).alloc _)) rfl (cell_top3 _ _ _ _) (by omega) (by simp; omega) ?_; intro v' w3 he3 hb3; have HE3 := Lib.hid he3; have HX3 : Hid (Ext w w3) := Below.trans ((HX.out.alloc _).alloc _) hb3; clear he3 hb3)
          all_goals go_roundw
          all_goals first
            | exact ⟨k + 1, es ++ [.slice (some ⟨wr.heap.size, 0, none⟩) 2 2], by omega, by omega, by go_num, by unfold Hid; rw [List.length_append]; show _ + 1 ≤ _; omega, by unfold Hid; rw [rowPs_add hki (HSE.out.trans (by decide)), ← List.append_assoc]; exact HE3.out, HX3⟩
            | exact ⟨k + 1, es, by omega, by omega, by go_num, by unfold Hid; omega, by unfold Hid; rw [rowPs_skip (HSE.out.trans (by decide))]; exact HE.out, HX⟩
            | (simp [intOf]; omega)
        · obtain rfl : k = n := by omega
          go_wp2
          go_roundw
          case rel => exact ⟨i + 1, es, by omega, by go_num, by unfold Hid; have := HL.out; omega, HE, HX⟩
          case measure => simp [intOf]; omega
    · obtain rfl : i = n := by omega
      have hl : es.length ≤ 200 := by have := HL.out; omega
      go_wp2_with fail
      refine (graphOfP_c w.heap.size i _ es _ wr HE.out (by omega) (by omega) hl).mono ?_
      rintro e w2 ⟨g, c, rfl, h2, h3⟩
      have O2 := Lib.hid h2; have X2 := Lib.hid h3
      clear h2 h3
      go_wp2
      go_ret2
      exact ⟨_, rfl, O2.out.mono HX.out.size, HX.out.trans X2.out⟩

set_option maxRecDepth 100000 in
set_option maxHeartbeats 8000000 in
theorem kindS1 (n : Nat) (w : World) (hn1 : 1 ≤ n) (hn : n ≤ 12) (hn3 : 3 ≤ n) :
    Calls Tryz.prog 21 #[.int .i64 1, .int .i64 n] w fun e w' => ∃ v, e = .returned (listV v true) ∧ Own w' w.heap.size v (kindGr 1 n) ∧ Ext w w' := by
  have hin1 : inB 0 1 3 = true := inB_iff.2 ⟨by omega, by omega⟩
  have hin2 : inB 1 (n : Int) 12 = true := inB_iff.2 ⟨by omega, by omega⟩
  obtain ⟨W, hW⟩ : ∃ W, W = w.alloc (.cells #[] 29) := ⟨_, rfl⟩
  have he0 : EdgesP W w.heap.size n (.slice (some ⟨w.heap.size, 0, none⟩) 0 0) [] [] := by rw [hW]; exact EdgesP.lit w n
  have hx0 : Ext w W := by rw [hW]; exact (Ext.refl _).alloc _
  have HE0 := Lib.hid he0; have HX0 := Lib.hid hx0; have HW := Lib.hid hW
  clear he0 hx0 hW
  go_enter Tryz.func21, Tryz.ntmps21
  go_wp2_with (go_at_call 37; refine (l6In_c _ _ _ _).mono ?_; rintro e w' ⟨rfl, rfl⟩)
  rw [← HW.out]
  clear hin1 hin2
  go_loopw [6, 7] (fun v i wr => ∃ (k : Nat) (es : List Value), k ≤ n ∧ i = .int .i64 k ∧ Hid (es.length ≤ 12 * k) ∧ Hid (EdgesP wr w.heap.size n v es (allPs 1 n k)) ∧ Hid (Ext w wr)) (fun _ i _ => n - (intOf i).toNat)
  case atStart => exact ⟨0, [], Nat.zero_le _, rfl, Nat.zero_le _, HE0, HX0⟩
  case round =>
    clear HE0 HX0 HW
    obtain ⟨i, es, hi, rfl, HL, HE, HX⟩ := hrel
    by_cases hlt : i < n
    · obtain ⟨i1, hi1⟩ : ∃ i1 : Nat, (i : Int) + 1 = (i1 : Int) := ⟨i + 1, by omega⟩
      go_wp2
      go_loopw [6, 8] (fun v q wr => ∃ (k : Nat) (es : List Value), i < k ∧ k ≤ n ∧ q = .int .i64 k ∧ Hid (es.length ≤ 12 * i + k) ∧ Hid (EdgesP wr w.heap.size n v es (allPs 1 n i ++ rowPs 1 n i k)) ∧ Hid (Ext w wr)) (fun _ q _ => n - (intOf q).toNat)
      case atStart => exact ⟨i1, es, by omega, by omega, rfl, by unfold Hid; have := HL.out; omega, by unfold Hid; rw [rowPs_nil _ (by omega), List.append_nil]; exact HE.out, HX⟩
      case round =>
        clear HE HX HL
        obtain ⟨k, es, hki, hk, rfl, HL, HE, HX⟩ := hrel
        by_cases hlk : k < n
        · obtain ⟨n1, hn1'⟩ : ∃ n1 : Nat, (n : Int) - 1 = (n1 : Int) := ⟨n - 1, by omega⟩
          obtain ⟨b0, hb0⟩ : ∃ b, ((i : Int) == 0) = b := ⟨_, rfl⟩
          obtain ⟨bn, hbn⟩ : ∃ b, ((k : Int) == (i1 : Int)) = b := ⟨_, rfl⟩
          obtain ⟨be, hbe⟩ : ∃ b, ((k : Int) == (n1 : Int)) = b := ⟨_, rfl⟩
          have HSE : Hid (sEdge 1 n i k = ((1 == 3) || (1 == 2 && b0) || (decide (1 < 2) && bn) || (1 == 1 && b0 && be))) := by
            unfold sEdge Hid
            have e0 : (i == 0) = b0 := by rw [← hb0]; exact (beq_cast i 0).symm
            have en : (k == i + 1) = bn := by rw [← hbn, Bool.eq_iff_iff, beq_iff_eq, beq_iff_eq]; omega
            have ee : (k + 1 == n) = be := by rw [← hbe, Bool.eq_iff_iff, beq_iff_eq, beq_iff_eq]; omega
            rw [e0, en, ee]
          have hsz := HX.out.size
          have hsz2 := HL.out
          cases b0 <;> cases bn <;> cases be
          all_goals go_wp2_with (at_builtin; refine wpList_append_edgeP rfl _ _ rfl w.heap.size n _ _ _ (i, k) rfl ((HE.out.ext ((Ext.refl _).alloc _)).ext ((Ext.refl _).alloc _)) (wr.heap.size + 1) (.slice (some ⟨wr.heap.size, 0, none⟩) 2 2) rfl ((EdgeP.new HE.out i k (by omega) (by omega) (by omega) (by omega) _).ext ((Ext.refl _).alloc _)) rfl (cell_top3 _ _ _ _) (by omega) (by simp; omega) ?_; intro v' w3 he3 hb3; have HE3 := Lib.hid he3; have HX3 : Hid (Ext w w3) := Below.trans ((HX.out.alloc _).alloc _) hb3; clear he3 hb3)
          all_goals go_roundw
          all_goals first
            | exact ⟨k + 1, es ++ [.slice (some ⟨wr.heap.size, 0, none⟩) 2 2], by omega, by omega, by go_num, by unfold Hid; rw [List.length_append]; show _ + 1 ≤ _; omega, by unfold Hid; rw [rowPs_add hki (HSE.out.trans (by decide)), ← List.append_assoc]; exact HE3.out, HX3⟩
            | exact ⟨k + 1, es, by omega, by omega, by go_num, by unfold Hid; omega, by unfold Hid; rw [rowPs_skip (HSE.out.trans (by decide))]; exact HE.out, HX⟩
            | (simp [intOf]; omega)
        · obtain rfl : k = n := by omega
          go_wp2
          go_roundw
          case rel => exact ⟨i + 1, es, by omega, by go_num, by unfold Hid; have := HL.out; omega, HE, HX⟩
          case measure => simp [intOf]; omega
    · obtain rfl : i = n := by omega
      have hl : es.length ≤ 200 := by have := HL.out; omega
      go_wp2_with fail
      refine (graphOfP_c w.heap.size i _ es _ wr HE.out (by omega) (by omega) hl).mono ?_
      rintro e w2 ⟨g, c, rfl, h2, h3⟩
      have O2 := Lib.hid h2; have X2 := Lib.hid h3
      clear h2 h3
      go_wp2
      go_ret2
      exact ⟨_, rfl, O2.out.mono HX.out.size, HX.out.trans X2.out⟩

set_option maxRecDepth 100000 in
set_option maxHeartbeats 8000000 in
theorem kindS2 (n : Nat) (w : World) (hn1 : 1 ≤ n) (hn : n ≤ 12) :
    Calls Tryz.prog 21 #[.int .i64 2, .int .i64 n] w fun e w' => ∃ v, e = .returned (listV v true) ∧ Own w' w.heap.size v (kindGr 2 n) ∧ Ext w w' := by
  have hin1 : inB 0 2 3 = true := inB_iff.2 ⟨by omega, by omega⟩
  have hin2 : inB 1 (n : Int) 12 = true := inB_iff.2 ⟨by omega, by omega⟩
  obtain ⟨W, hW⟩ : ∃ W, W = w.alloc (.cells #[] 29) := ⟨_, rfl⟩
  have he0 : EdgesP W w.heap.size n (.slice (some ⟨w.heap.size, 0, none⟩) 0 0) [] [] := by rw [hW]; exact EdgesP.lit w n
  have hx0 : Ext w W := by rw [hW]; exact (Ext.refl _).alloc _
  have HE0 := Lib.hid he0; have HX0 := Lib.hid hx0; have HW := Lib.hid hW
  clear he0 hx0 hW
  go_enter Tryz.func21, Tryz.ntmps21
  go_wp2_with (go_at_call 37; refine (l6In_c _ _ _ _).mono ?_; rintro e w' ⟨rfl, rfl⟩)
  rw [← HW.out]
  clear hin1 hin2
  go_loopw [6, 7] (fun v i wr => ∃ (k : Nat) (es : List Value), k ≤ n ∧ i = .int .i64 k ∧ Hid (es.length ≤ 12 * k) ∧ Hid (EdgesP wr w.heap.size n v es (allPs 2 n k)) ∧ Hid (Ext w wr)) (fun _ i _ => n - (intOf i).toNat)
  case atStart => exact ⟨0, [], Nat.zero_le _, rfl, Nat.zero_le _, HE0, HX0⟩
  case round =>
    clear HE0 HX0 HW
    obtain ⟨i, es, hi, rfl, HL, HE, HX⟩ := hrel
    by_cases hlt : i < n
    · obtain ⟨i1, hi1⟩ : ∃ i1 : Nat, (i : Int) + 1 = (i1 : Int) := ⟨i + 1, by omega⟩
      go_wp2
      go_loopw [6, 8] (fun v q wr => ∃ (k : Nat) (es : List Value), i < k ∧ k ≤ n ∧ q = .int .i64 k ∧ Hid (es.length ≤ 12 * i + k) ∧ Hid (EdgesP wr w.heap.size n v es (allPs 2 n i ++ rowPs 2 n i k)) ∧ Hid (Ext w wr)) (fun _ q _ => n - (intOf q).toNat)
      case atStart => exact ⟨i1, es, by omega, by omega, rfl, by unfold Hid; have := HL.out; omega, by unfold Hid; rw [rowPs_nil _ (by omega), List.append_nil]; exact HE.out, HX⟩
      case round =>
        clear HE HX HL
        obtain ⟨k, es, hki, hk, rfl, HL, HE, HX⟩ := hrel
        by_cases hlk : k < n
        · obtain ⟨n1, hn1'⟩ : ∃ n1 : Nat, (n : Int) - 1 = (n1 : Int) := ⟨n - 1, by omega⟩
          obtain ⟨b0, hb0⟩ : ∃ b, ((i : Int) == 0) = b := ⟨_, rfl⟩
          obtain ⟨bn, hbn⟩ : ∃ b, ((k : Int) == (i1 : Int)) = b := ⟨_, rfl⟩
          obtain ⟨be, hbe⟩ : ∃ b, ((k : Int) == (n1 : Int)) = b := ⟨_, rfl⟩
          have HSE : Hid (sEdge 2 n i k = ((2 == 3) || (2 == 2 && b0) || (decide (2 < 2) && bn) || (2 == 1 && b0 && be))) := by
            unfold sEdge Hid
            have e0 : (i == 0) = b0 := by rw [← hb0]; exact (beq_cast i 0).symm
            have en : (k == i + 1) = bn := by rw [← hbn, Bool.eq_iff_iff, beq_iff_eq, beq_iff_eq]; omega
            have ee : (k + 1 == n) = be := by rw [← hbe, Bool.eq_iff_iff, beq_iff_eq, beq_iff_eq]; omega
            rw [e0, en, ee]
          have hsz := HX.out.size
          have hsz2 := HL.out
          cases b0 <;> cases bn <;> cases be
          all_goals go_wp2_with (at_builtin; refine wpList_append_edgeP rfl _ _ rfl w.heap.size n _ _ _ (i, k) rfl ((HE.out.ext ((Ext.refl _).alloc _)).ext ((Ext.refl _).alloc _)) (wr.heap.size + 1) (.slice (some ⟨wr.heap.size, 0, none⟩) 2 2) rfl ((EdgeP.new HE.out i k (by omega) (by omega) (by omega) (by omega) _).ext ((Ext.refl _).alloc _)) rfl (cell_top3 _ _ _ _) (by omega) (by simp; omega) ?_; intro v' w3 he3 hb3; have HE3 := Lib.hid he3; have HX3 : Hid (Ext w w3) := Below.trans ((HX.out.alloc _).alloc _) hb3; clear he3 hb3)
          all_goals go_roundw
          all_goals first
            | exact ⟨k + 1, es ++ [.slice (some ⟨wr.heap.size, 0, none⟩) 2 2], by omega, by omega, by go_num, by unfold Hid; rw [List.length_append]; show _ + 1 ≤ _; omega, by unfold Hid; rw [rowPs_add hki (HSE.out.trans (by decide)), ← List.append_assoc]; exact HE3.out, HX3⟩
            | exact ⟨k + 1, es, by omega, by omega, by go_num, by unfold Hid; omega, by unfold Hid; rw [rowPs_skip (HSE.out.trans (by decide))]; exact HE.out, HX⟩
            | (simp [intOf]; omega)
        · obtain rfl : k = n := by omega
          go_wp2
          go_roundw
          case rel => exact ⟨i + 1, es, by omega, by go_num, by unfold Hid; have := HL.out; omega, HE, HX⟩
          case measure => simp [intOf]; omega
    · obtain rfl : i = n := by omega
      have hl : es.length ≤ 200 := by have := HL.out; omega
      go_wp2_with fail
      refine (graphOfP_c w.heap.size i _ es _ wr HE.out (by omega) (by omega) hl).mono ?_
      rintro e w2 ⟨g, c, rfl, h2, h3⟩
      have O2 := Lib.hid h2; have X2 := Lib.hid h3
      clear h2 h3
      go_wp2
      go_ret2
      exact ⟨_, rfl, O2.out.mono HX.out.size, HX.out.trans X2.out⟩

set_option maxRecDepth 100000 in
set_option maxHeartbeats 8000000 in
theorem kindS3 (n : Nat) (w : World) (hn1 : 1 ≤ n) (hn : n ≤ 12) :
    Calls Tryz.prog 21 #[.int .i64 3, .int .i64 n] w fun e w' => ∃ v, e = .returned (listV v true) ∧ Own w' w.heap.size v (kindGr 3 n) ∧ Ext w w' := by
  have hin1 : inB 0 3 3 = true := inB_iff.2 ⟨by omega, by omega⟩
  have hin2 : inB 1 (n : Int) 12 = true := inB_iff.2 ⟨by omega, by omega⟩
  obtain ⟨W, hW⟩ : ∃ W, W = w.alloc (.cells #[] 29) := ⟨_, rfl⟩
  have he0 : EdgesP W w.heap.size n (.slice (some ⟨w.heap.size, 0, none⟩) 0 0) [] [] := by rw [hW]; exact EdgesP.lit w n
  have hx0 : Ext w W := by rw [hW]; exact (Ext.refl _).alloc _
  have HE0 := Lib.hid he0; have HX0 := Lib.hid hx0; have HW := Lib.hid hW
  clear he0 hx0 hW
  go_enter Tryz.func21, Tryz.ntmps21
  go_wp2_with (go_at_call 37; refine (l6In_c _ _ _ _).mono ?_; rintro e w' ⟨rfl, rfl⟩)
  rw [← HW.out]
  clear hin1 hin2
  go_loopw [6, 7] (fun v i wr => ∃ (k : Nat) (es : List Value), k ≤ n ∧ i = .int .i64 k ∧ Hid (es.length ≤ 12 * k) ∧ Hid (EdgesP wr w.heap.size n v es (allPs 3 n k)) ∧ Hid (Ext w wr)) (fun _ i _ => n - (intOf i).toNat)
  case atStart => exact ⟨0, [], Nat.zero_le _, rfl, Nat.zero_le _, HE0, HX0⟩
  case round =>
    clear HE0 HX0 HW
    obtain ⟨i, es, hi, rfl, HL, HE, HX⟩ := hrel
    by_cases hlt : i < n
    · obtain ⟨i1, hi1⟩ : ∃ i1 : Nat, (i : Int) + 1 = (i1 : Int) := ⟨i + 1, by omega⟩
      go_wp2
      go_loopw [6, 8] (fun v q wr => ∃ (k : Nat) (es : List Value), i < k ∧ k ≤ n ∧ q = .int .i64 k ∧ Hid (es.length ≤ 12 * i + k) ∧ Hid (EdgesP wr w.heap.size n v es (allPs 3 n i ++ rowPs 3 n i k)) ∧ Hid (Ext w wr)) (fun _ q _ => n - (intOf q).toNat)
      case atStart => exact ⟨i1, es, by omega, by omega, rfl, by unfold Hid; have := HL.out; omega, by unfold Hid; rw [rowPs_nil _ (by omega), List.append_nil]; exact HE.out, HX⟩
      case round =>
        clear HE HX HL
        obtain ⟨k, es, hki, hk, rfl, HL, HE, HX⟩ := hrel
        by_cases hlk : k < n
        · obtain ⟨n1, hn1'⟩ : ∃ n1 : Nat, (n : Int) - 1 = (n1 : Int) := ⟨n - 1, by omega⟩
          obtain ⟨b0, hb0⟩ : ∃ b, ((i : Int) == 0) = b := ⟨_, rfl⟩
          obtain ⟨bn, hbn⟩ : ∃ b, ((k : Int) == (i1 : Int)) = b := ⟨_, rfl⟩
          obtain ⟨be, hbe⟩ : ∃ b, ((k : Int) == (n1 : Int)) = b := ⟨_, rfl⟩
          have HSE : Hid (sEdge 3 n i k = ((3 == 3) || (3 == 2 && b0) || (decide (3 < 2) && bn) || (3 == 1 && b0 && be))) := by
            unfold sEdge Hid
            have e0 : (i == 0) = b0 := by rw [← hb0]; exact (beq_cast i 0).symm
            have en : (k == i + 1) = bn := by rw [← hbn, Bool.eq_iff_iff, beq_iff_eq, beq_iff_eq]; omega
            have ee : (k + 1 == n) = be := by rw [← hbe, Bool.eq_iff_iff, beq_iff_eq, beq_iff_eq]; omega
            rw [e0, en, ee]
          have hsz := HX.out.size
          have hsz2 := HL.out
          cases b0 <;> cases bn <;> cases be
          all_goals go_wp2_with (at_builtin; refine wpList_append_edgeP rfl _ _ rfl w.heap.size n _ _ _ (i, k) rfl ((HE.out.ext ((Ext.refl _).alloc _)).ext ((Ext.refl _).alloc _)) (wr.heap.size + 1) (.slice (some ⟨wr.heap.size, 0, none⟩) 2 2) rfl ((EdgeP.new HE.out i k (by omega) (by omega) (by omega) (by omega) _).ext ((Ext.refl _).alloc _)) rfl (cell_top3 _ _ _ _) (by omega) (by simp; omega) ?_; intro v' w3 he3 hb3; have HE3 := Lib.hid he3; have HX3 : Hid (Ext w w3) := Below.trans ((HX.out.alloc _).alloc _) hb3; clear he3 hb3)
          all_goals go_roundw
          all_goals first
            | exact ⟨k + 1, es ++ [.slice (some ⟨wr.heap.size, 0, none⟩) 2 2], by omega, by omega, by go_num, by unfold Hid; rw [List.length_append]; show _ + 1 ≤ _; omega, by unfold Hid; rw [rowPs_add hki (HSE.out.trans (by decide)), ← List.append_assoc]; exact HE3.out, HX3⟩
            | exact ⟨k + 1, es, by omega, by omega, by go_num, by unfold Hid; omega, by unfold Hid; rw [rowPs_skip (HSE.out.trans (by decide))]; exact HE.out, HX⟩
            | (simp [intOf]; omega)
        · obtain rfl : k = n := by omega
          go_wp2
          go_roundw
          case rel => exact ⟨i + 1, es, by omega, by go_num, by unfold Hid; have := HL.out; omega, HE, HX⟩
          case measure => simp [intOf]; omega
    · obtain rfl : i = n := by omega
      have hl : es.length ≤ 200 := by have := HL.out; omega
      go_wp2_with fail
      refine (graphOfP_c w.heap.size i _ es _ wr HE.out (by omega) (by omega) hl).mono ?_
      rintro e w2 ⟨g, c, rfl, h2, h3⟩
      have O2 := Lib.hid h2; have X2 := Lib.hid h3
      clear h2 h3
      go_wp2
      go_ret2
      exact ⟨_, rfl, O2.out.mono HX.out.size, HX.out.trans X2.out⟩

set_option maxHeartbeats 1000000 in
theorem graphKindT_c (k n : Int) (w : World) :
    Calls Tryz.prog 21 #[.int .i64 k, .int .i64 n] w fun e w' => ∃ v, e = .returned (listV v (graphKind k n).2) ∧ Own w' w.heap.size v (graphKind k n).1 ∧ Ext w w' := by
  cases hk : kindOk k n
  · rw [show graphKind k n = ([], false) from by unfold graphKind; rw [hk]; rfl]
    have HL := Lib.hid (Own.lit w)
    cases h1 : inB 0 k 3
    · clear hk
      go_enter Tryz.func21, Tryz.ntmps21
      go_wp2_with (go_at_call 37; refine (l6In_c _ _ _ _).mono ?_; rintro e w' ⟨rfl, rfl⟩)
      go_ret2
      exact ⟨_, rfl, HL.out, (Ext.refl w).alloc _⟩
    · cases h2 : inB 1 n 12
      · clear hk
        go_enter Tryz.func21, Tryz.ntmps21
        go_wp2_with (go_at_call 37; refine (l6In_c _ _ _ _).mono ?_; rintro e w' ⟨rfl, rfl⟩)
        go_ret2
        exact ⟨_, rfl, HL.out, (Ext.refl w).alloc _⟩
      · obtain ⟨rfl, h3⟩ : k = 1 ∧ n < 3 := by
          unfold kindOk at hk
          rw [h1, h2, Bool.true_and, Bool.true_and, Bool.not_eq_false', Bool.and_eq_true, decide_eq_true_iff, decide_eq_true_iff] at hk
          exact hk
        clear hk
        go_enter Tryz.func21, Tryz.ntmps21
        go_wp2_with (go_at_call 37; refine (l6In_c _ _ _ _).mono ?_; rintro e w' ⟨rfl, rfl⟩)
        go_ret2
        exact ⟨_, rfl, HL.out, (Ext.refl w).alloc _⟩
  · obtain ⟨K, N, rfl, rfl, hK, hN1, hN, h3⟩ := kindOk_iff.1 hk
    rw [show graphKind (K : Int) (N : Int) = (kindGr K N, true) from by unfold graphKind; rw [hk]; rfl]
    rcases (show K = 0 ∨ K = 1 ∨ K = 2 ∨ K = 3 by omega) with rfl | rfl | rfl | rfl
    · exact kindS0 N w hN1 hN
    · exact kindS1 N w hN1 hN (h3 rfl)
    · exact kindS2 N w hN1 hN
    · exact kindS3 N w hN1 hN
end Go.Proofs.YtkmfmhckpfomeaaGreatDoor

/- A line with two numbers, the reference's side. The condition: the numbers are at most 9999. -/
namespace Go.Proofs.YtkmfmhckpfomeaaGreatDoor
open Go.RowKit
open BigFrame
attribute [local go_sem] Oper.semAt_some

/-- The state of a script, a value. -/
def StateV (w : World) (v : Value) (s : St) : Prop := ∃ k m, v = .agg #[.slice (some ⟨k, 0, none⟩) s.1.length m, .int .i64 s.2] ∧ Rd w (.slice (some ⟨k, 0, none⟩) s.1.length m) s.1
def nextS (r : Res) (g : List Int) (c : Nat) : St := match r with
  | none => (g, c)
  | some t => t.2
theorem StateV.ext {w w' : World} {v : Value} {s : St} (h : StateV w v s) (hx : Ext w w') : StateV w' v s := by
  obtain ⟨k, m, rfl, hr⟩ := h
  exact ⟨k, m, rfl, hr.ext hx⟩
/-- Two cells at a block. -/
theorem cells_two (w : World) (x y : Value) (t : TypeId) : (w.alloc (.cells #[x, y] t)).cell? ⟨w.heap.size, 0, none⟩ = some x ∧ (w.alloc (.cells #[x, y] t)).cell? ⟨w.heap.size, 1, none⟩ = some y ∧ ∀ i, (w.alloc (.cells #[x, y] t)).frozen? ⟨w.heap.size, i, none⟩ = false :=
  ⟨by rw [Lib.cell_of_heap (World.alloc_heap_new w _)]; rfl, by rw [Lib.cell_of_heap (World.alloc_heap_new w _)]; rfl, fun i => Lib.frozen_of_heap (World.alloc_heap_new w _) i⟩
/-- The frame of a function that takes a state and hands one back: its own copy at p, the result's place at r. -/
structure Box (w W : World) (p r : Nat) (v0 v1 : Value) : Prop where
  a0 : W.cell? ⟨p, 0, none⟩ = some v0
  a1 : W.cell? ⟨p, 1, none⟩ = some v1
  r0 : ∃ u, W.cell? ⟨r, 0, none⟩ = some u
  r1 : ∃ u, W.cell? ⟨r, 1, none⟩ = some u
  fr : ∀ i, W.frozen? ⟨r, i, none⟩ = false
  pl : p < W.heap.size
  rl : r < W.heap.size
  le : w.heap.size ≤ r
  ne : p ≠ r
  ext : Ext w W
theorem Box.of (w : World) (v0 v1 z0 z1 : Value) (t u : TypeId) : Box w ((w.alloc (.cells #[v0, v1] t)).alloc (.cells #[z0, z1] u)) w.heap.size (w.heap.size + 1) v0 v1 := by
  have h1 := cells_two w v0 v1 t
  have h2 := cells_two (w.alloc (.cells #[v0, v1] t)) z0 z1 u
  rw [World.size_alloc] at h2
  have hx : Ext (w.alloc (.cells #[v0, v1] t)) ((w.alloc (.cells #[v0, v1] t)).alloc (.cells #[z0, z1] u)) := (Ext.refl _).alloc _
  have hl : w.heap.size < (w.alloc (.cells #[v0, v1] t)).heap.size := by simp
  exact ⟨(hx.cell hl).trans h1.1, (hx.cell hl).trans h1.2.1, ⟨_, h2.1⟩, ⟨_, h2.2.1⟩, h2.2.2, by simp; omega, by simp, by omega, by omega, ((Ext.refl _).alloc _).alloc _⟩
theorem Box.go {w W W' : World} {p r : Nat} {v0 v1 : Value} (h : Box w W p r v0 v1) (hx : Ext W W') : Box w W' p r v0 v1 :=
  ⟨(hx.cell h.pl).trans h.a0, (hx.cell h.pl).trans h.a1, h.r0.imp fun _ e => (hx.cell h.rl).trans e, h.r1.imp fun _ e => (hx.cell h.rl).trans e, fun i => (hx.frozen h.rl).trans (h.fr i), Nat.lt_of_lt_of_le h.pl hx.size, Nat.lt_of_lt_of_le h.rl hx.size, h.le, h.ne, h.ext.trans hx⟩
/-- Behind the result's two stores. -/
theorem Box.put {w W : World} {p r : Nat} {v0 v1 : Value} (h : Box w W p r v0 v1) (x y : Value) :
    ((W.setCell ⟨r, 0, none⟩ x).setCell ⟨r, 1, none⟩ y).cell? ⟨r, 0, none⟩ = some x ∧ ((W.setCell ⟨r, 0, none⟩ x).setCell ⟨r, 1, none⟩ y).cell? ⟨r, 1, none⟩ = some y ∧ Ext w ((W.setCell ⟨r, 0, none⟩ x).setCell ⟨r, 1, none⟩ y) := by
  obtain ⟨u0, h0⟩ := h.r0
  obtain ⟨u1, h1⟩ := h.r1
  refine ⟨?_, ?_, (h.ext.setCell h.le _).setCell h.le _⟩
  · rw [World.cell?_setCell_other _ _ _ _ (by simp)]
    exact World.cell?_setCell_same' _ _ _ (by rw [h0]; rfl)
  · refine World.cell?_setCell_same' _ _ _ ?_
    rw [World.cell?_setCell_other _ _ _ _ (by simp), h1]; rfl
set_option maxRecDepth 100000 in
set_option maxHeartbeats 4000000 in
theorem l7Two1_c (S : ByteArray) (k m : Nat) (g : List Int) (c x y : Nat) (w : World) (hv : Rd w (.slice (some ⟨k, 0, none⟩) g.length m) g) (hf : Fit g c) (hS : Word S 1) :
    Calls Tryz.prog 58 #[.agg #[.slice (some ⟨k, 0, none⟩) g.length m, .int .i64 c], .string S, .int .i64 x, .int .i64 y] w fun e w' => ∃ v', e = .returned (.tuple #[v', strV (nl (cmdR 1 g c x y))]) ∧ StateV w' v' (nextS (cmdR 1 g c x y) g c) ∧ Ext w w' := by
  have t1 : (S.toList == [103, 114, 97, 112, 104]) = true := hS 1 (by omega) (by omega)
  obtain ⟨W, hW⟩ : ∃ W, W = (w.alloc (.cells #[.slice (some ⟨k, 0, none⟩) g.length m, .int .i64 c] 58)).alloc (.cells #[.slice none 0 0, .int .i64 0] 58) := ⟨_, rfl⟩
  have hB := Box.of w (.slice (some ⟨k, 0, none⟩) g.length m) (.int .i64 c) (.slice none 0 0) (.int .i64 0) 58 58
  rw [← hW] at hB
  have HW := Lib.hid hW; have HB := Lib.hid hB; have HV := Lib.hid hv; have HF := Lib.hid hf
  have HC := Lib.hid (graphKindT_c x y W)
  clear hv hS hf hW hB
  cases hk : kindOk x y
  · have HR : Hid (cmdR 1 g c x y = none) := by show cmdR 1 g c x y = none; unfold cmdR; rw [hk]; rfl
    rw [show graphKind x y = ([], false) from by unfold graphKind; rw [hk]; rfl] at HC
    simp only [listV] at HC
    rw [HR.out]
    clear hk
    go_enter Tryz.func58, Tryz.ntmps58
    go_wp2_with fail
    rw [← HW.out]
    refine HC.out.mono ?_
    rintro e w1 ⟨v1, rfl, o1, x1⟩
    have B1 := Lib.hid (HB.out.go x1)
    have a0 := B1.out.a0
    have a1 := B1.out.a1
    obtain ⟨u0, r0⟩ := B1.out.r0
    obtain ⟨u1, r1⟩ := B1.out.r1
    have f0 := B1.out.fr 0
    have f1 := B1.out.fr 1
    clear o1 x1
    go_wp2
    obtain ⟨q0, q1, qx⟩ := B1.out.put (.slice (some ⟨k, 0, none⟩) g.length m) (.int .i64 c)
    refine bodyPost_ret (v := .tuple #[.agg #[.slice (some ⟨k, 0, none⟩) g.length m, .int .i64 c], .string ⟨#[110, 111, 10]⟩]) (by simp [results, Tryz.results58, go_sem, q0, q1]) rfl ?_
    exact ⟨_, rfl, ⟨k, m, rfl, HV.out.ext qx⟩, qx⟩
  · have HR : Hid (cmdR 1 g c x y = some (okS, kindGr x y, 0)) := by show cmdR 1 g c x y = _; unfold cmdR; rw [hk]; rfl
    rw [show graphKind x y = (kindGr x y, true) from by unfold graphKind; rw [hk]; rfl] at HC
    simp only [listV] at HC
    rw [HR.out]
    obtain ⟨K, N, e1, e2, hK, hN1, hN, -⟩ := kindOk_iff.1 hk
    have e1' : x = K := by omega
    have e2' : y = N := by omega
    subst e1'; subst e2'
    have HP : Hid (1 ≤ (kindGr x y).length) := by show 1 ≤ (kindGr x y).length; rw [kindGr_length]; exact hN1
    clear hk e1 e2 hK hN1 hN
    go_enter Tryz.func58, Tryz.ntmps58
    go_wp2_with fail
    rw [← HW.out]
    refine HC.out.mono ?_
    rintro e w1 ⟨v1, rfl, o1, x1⟩
    have B1 := Lib.hid (HB.out.go x1)
    obtain ⟨z1, z2, rfl⟩ := o1.slice HP.out
    have O1 := Lib.hid o1
    have a0 := B1.out.a0
    have a1 := B1.out.a1
    obtain ⟨u0, r0⟩ := B1.out.r0
    obtain ⟨u1, r1⟩ := B1.out.r1
    have f0 := B1.out.fr 0
    have f1 := B1.out.fr 1
    clear o1 x1
    go_wp2
    obtain ⟨q0, q1, qx⟩ := B1.out.put (.slice (some ⟨z1, 0, none⟩) (kindGr x y).length z2) (.int .i64 0)
    refine bodyPost_ret (v := .tuple #[.agg #[.slice (some ⟨z1, 0, none⟩) (kindGr x y).length z2, .int .i64 0], .string ⟨#[111, 107, 10]⟩]) (by simp [results, Tryz.results58, go_sem, q0, q1]) rfl ?_
    have hne : z1 ≠ w.heap.size + 1 := fun e => by
      have h1 := O1.out.at.2.2.1
      have h2 := HB.out.rl
      omega
    refine ⟨_, rfl, ⟨z1, z2, rfl, ?_⟩, qx⟩
    exact (O1.out.rd.upd hne (Upd.setCell _ (w.heap.size + 1) 0 _)).upd hne (Upd.setCell _ (w.heap.size + 1) 1 _)
set_option maxRecDepth 100000 in
set_option maxHeartbeats 4000000 in
theorem l7Two13_c (S : ByteArray) (k m : Nat) (g : List Int) (c x y : Nat) (w : World) (hv : Rd w (.slice (some ⟨k, 0, none⟩) g.length m) g) (hf : Fit g c) (hS : Word S 13) (hx : x ≤ 9999) (hy : y ≤ 9999) :
    Calls Tryz.prog 58 #[.agg #[.slice (some ⟨k, 0, none⟩) g.length m, .int .i64 c], .string S, .int .i64 x, .int .i64 y] w fun e w' => ∃ v', e = .returned (.tuple #[v', strV (nl (cmdR 13 g c x y))]) ∧ StateV w' v' (nextS (cmdR 13 g c x y) g c) ∧ Ext w w' := by
  have t1 : (S.toList == [103, 114, 97, 112, 104]) = false := hS 1 (by omega) (by omega)
  have t13 : (S.toList == [97, 108, 97, 114, 109]) = true := hS 13 (by omega) (by omega)
  obtain ⟨W, hW⟩ : ∃ W, W = (w.alloc (.cells #[.slice (some ⟨k, 0, none⟩) g.length m, .int .i64 c] 58)).alloc (.cells #[.slice none 0 0, .int .i64 0] 58) := ⟨_, rfl⟩
  have hB := Box.of w (.slice (some ⟨k, 0, none⟩) g.length m) (.int .i64 c) (.slice none 0 0) (.int .i64 0) 58 58
  rw [← hW] at hB
  have HW := Lib.hid hW; have HB := Lib.hid hB; have HV := Lib.hid hv; have HF := Lib.hid hf
  obtain ⟨d, s, he, hd⟩ : ∃ (d : Int) (s : Bool), sensorFind g c x y = (d, s) ∧ -1 ≤ d ∧ d ≤ 1048576 := by
    rcases find_small (g := g) c x y hf.gr.le with e | ⟨z, k', e, hz⟩
    · exact ⟨_, _, e, by omega, by omega⟩
    · exact ⟨_, _, e, by omega, by omega⟩
  have HC := Lib.hid (sensorFindS_c (.slice (some ⟨k, 0, none⟩) g.length m) g c x y W (by omega) (hv.ext hB.ext) (by have := hf.gr.le; omega))
  rw [he] at HC
  simp only [pairV] at HC
  obtain ⟨z, hz⟩ : ∃ z : List UInt8, z = if s then Lib.itoa d ++ [10] else [110, 111, 10] := ⟨_, rfl⟩
  have HS := Lib.hid (fun (W : World) => said1_c (.slice (some ⟨W.heap.size, 0, none⟩) 1 1) d s (W.alloc (.cells #[.int .i64 d] 3)) (rd_one W d) hd.1 hd.2)
  rw [← hz] at HS
  have HR : Hid (z = nl (cmdR 13 g c x y)) := by
    show z = nl (oneR (sensorFind g c x y) g c)
    rw [hz, he]; cases s <;> rfl
  have HN : Hid (nextS (cmdR 13 g c x y) g c = (g, c)) := by
    show nextS (oneR (sensorFind g c x y) g c) g c = _
    rw [he]; cases s <;> rfl
  rw [← HR.out, HN.out]
  clear hv hS hf hW hB he hd hz
  go_enter Tryz.func58, Tryz.ntmps58
  go_wp2_with fail
  rw [← HW.out]
  refine HC.out.mono ?_
  rintro e w1 ⟨rfl, x1⟩
  have B1 := Lib.hid (HB.out.go x1)
  have B1d := Lib.hid (HB.out.go x1.drew)
  have B2d := Lib.hid (HB.out.go (x1.drew.alloc (.cells #[.int .i64 d] 3)))
  have a0 := B1d.out.a0
  have a1 := B1d.out.a1
  have a2 := B2d.out.a0
  have a3 := B2d.out.a1
  have a6 := B1.out.a0
  have a7 := B1.out.a1
  have hsz : w.heap.size < w1.heap.size := B1.out.pl
  clear x1
  go_wp2
  go_region_with (go_at_call 111; refine (HS.out w1.drew).mono ?_; rintro e w3 ⟨rfl, x3⟩; have B3 := Lib.hid (B2d.out.go x3); clear x3; have a4 := B3.out.a0; have a5 := B3.out.a1; obtain ⟨u0, r0⟩ := B3.out.r0; obtain ⟨u1, r1⟩ := B3.out.r1; have f0 := B3.out.fr 0; have f1 := B3.out.fr 1)
  all_goals
    go_wp2
    obtain ⟨q0, q1, qx⟩ := B3.out.put (.slice (some ⟨k, 0, none⟩) g.length m) (.int .i64 c)
    refine bodyPost_ret (v := .tuple #[.agg #[.slice (some ⟨k, 0, none⟩) g.length m, .int .i64 c], strV z]) (by simp [results, Tryz.results58, go_sem, q0, q1]) rfl ?_
    exact ⟨_, rfl, ⟨k, m, rfl, HV.out.ext qx⟩, qx⟩
set_option maxRecDepth 100000 in
set_option maxHeartbeats 4000000 in
theorem l7Two2_c (S : ByteArray) (k m : Nat) (g : List Int) (c x y : Nat) (w : World) (hv : Rd w (.slice (some ⟨k, 0, none⟩) g.length m) g) (hf : Fit g c) (hS : Word S 2) (hx : x ≤ 9999) (hy : y ≤ 9999) :
    Calls Tryz.prog 58 #[.agg #[.slice (some ⟨k, 0, none⟩) g.length m, .int .i64 c], .string S, .int .i64 x, .int .i64 y] w fun e w' => ∃ v', e = .returned (.tuple #[v', strV (nl (cmdR 2 g c x y))]) ∧ StateV w' v' (nextS (cmdR 2 g c x y) g c) ∧ Ext w w' := by
  have t1 : (S.toList == [103, 114, 97, 112, 104]) = false := hS 1 (by omega) (by omega)
  have t13 : (S.toList == [97, 108, 97, 114, 109]) = false := hS 13 (by omega) (by omega)
  obtain ⟨W, hW⟩ : ∃ W, W = (w.alloc (.cells #[.slice (some ⟨k, 0, none⟩) g.length m, .int .i64 c] 58)).alloc (.cells #[.slice none 0 0, .int .i64 0] 58) := ⟨_, rfl⟩
  have hB := Box.of w (.slice (some ⟨k, 0, none⟩) g.length m) (.int .i64 c) (.slice none 0 0) (.int .i64 0) 58 58
  rw [← hW] at hB
  have hl := hf.gr.le
  have HW := Lib.hid hW; have HB := Lib.hid hB; have HV := Lib.hid hv; have HF := Lib.hid hf
  by_cases hx' : x < g.length
  · by_cases hy' : y < g.length
    · by_cases hxy : x = y
      · have HR : Hid (cmdR 2 g c x y = none) := by show (if x < g.length ∧ y < g.length ∧ x ≠ y then _ else none) = _; rw [if_neg (fun h => h.2.2 hxy)]
        rw [HR.out]
        have d1 : decide ((g.length : Int) ≤ (x : Int)) = false := decide_eq_false (by omega)
        have d2 : decide ((g.length : Int) ≤ (y : Int)) = false := decide_eq_false (by omega)
        have d3 : ((x : Int) == (y : Int)) = true := by rw [hxy]; exact beq_self_eq_true _
        clear hx hy hS hv hf hW hB hl
        go_enter Tryz.func58, Tryz.ntmps58
        go_wp2
        obtain ⟨q0, q1, -⟩ := cells_two (w.alloc (.cells #[.slice (some ⟨k, 0, none⟩) g.length m, .int .i64 c] 58)) (.slice (some ⟨k, 0, none⟩) g.length m) (.int .i64 c) 58
        rw [World.size_alloc] at q0 q1
        have qx : Ext w ((w.alloc (.cells #[.slice (some ⟨k, 0, none⟩) g.length m, .int .i64 c] 58)).alloc (.cells #[.slice (some ⟨k, 0, none⟩) g.length m, .int .i64 c] 58)) := ((Ext.refl w).alloc _).alloc _
        refine bodyPost_ret (v := .tuple #[.agg #[.slice (some ⟨k, 0, none⟩) g.length m, .int .i64 c], .string ⟨#[110, 111, 10]⟩]) (by simp [results, Tryz.results58, go_sem, q0, q1]) rfl ?_
        exact ⟨_, rfl, ⟨k, m, rfl, HV.out.ext qx⟩, qx⟩
      · have HR : Hid (cmdR 2 g c x y = some (okS, ofN (addE (natsOf g) (x, y)), c)) := by show (if x < g.length ∧ y < g.length ∧ x ≠ y then _ else none) = _; rw [if_pos ⟨hx', hy', hxy⟩]
        rw [HR.out]
        have d1 : decide ((g.length : Int) ≤ (x : Int)) = false := decide_eq_false (by omega)
        have d2 : decide ((g.length : Int) ≤ (y : Int)) = false := decide_eq_false (by omega)
        have d3 : ((x : Int) == (y : Int)) = false := beq_eq_false_iff_ne.2 (by omega)
        have hWs : W.heap.size = w.heap.size + 1 + 1 := by rw [hW]; simp
        obtain ⟨W1, hW1⟩ : ∃ V, V = W.alloc (.cells #[] 3) := ⟨_, rfl⟩
        have hx1 : Ext W W1 := by rw [hW1]; exact (Ext.refl _).alloc _
        have b1 := hB.go hx1
        have ho1 : Own W1 W.heap.size (.slice (some ⟨W.heap.size, 0, none⟩) 0 0) [] := by rw [hW1]; exact Own.lit W
        have hbz : W.heap.size < W1.heap.size := by rw [hW1]; simp
        rw [hWs] at ho1 hbz
        obtain ⟨i0, hi, hz0, hz1, hz2⟩ := info_parts info_int
        have HC : Hid (∀ j u, (g.map (Value.int .i64))[j]? = some u → W1.cell? ((⟨k, 0, none⟩ : Addr).add j) = some u) := fun j u hu => by
          rw [List.getElem?_map, Option.map_eq_some_iff] at hu
          obtain ⟨z, hz, rfl⟩ := hu
          have hj : j < g.length := (List.getElem?_eq_some_iff.1 hz).1
          obtain ⟨b, o, e, -, -, hc⟩ := (hv.ext (hB.ext.trans hx1)).at hj
          simp only [Option.some.injEq, Addr.mk.injEq] at e
          obtain ⟨rfl, rfl, -⟩ := e
          have := hc W1 (Ext.refl W1)
          rw [Addr.add_lit]
          rw [Nat.zero_add] at this ⊢
          rw [this, List.getD_eq_getElem?_getD, hz]; rfl
        have HO1 := Lib.hid ho1; have B1 := Lib.hid b1; have HX1 := Lib.hid hx1; have HBZ := Lib.hid hbz; have HW1 := Lib.hid hW1; have HWS := Lib.hid hWs
        have HXY := Lib.hid hxy
        clear hS hv hf hW hB ho1 b1 hx1 hbz hW1 hxy hWs
        go_enter Tryz.func58, Tryz.ntmps58
        go_wp2_with (at_builtin; rw [← HW.out, ← HW1.out]; refine wpList_append_own W1 rfl _ _ 29 rfl (w.heap.size + 1 + 1) 3 i0 (.int .i64 0) 1 8 Tryz.underlying29 hi hz0 hz1 hz2 rfl (by decide) (.slice (some ⟨w.heap.size + 1 + 1, 0, none⟩) 0 0) 0 [] rfl HO1.out ⟨k, 0, none⟩ g.length m (g.map (Value.int .i64)) rfl (by simp) HC.out (fun u hu => by obtain ⟨z, -, rfl⟩ := List.mem_map.1 hu; rfl) (by unfold maxLen; omega) (by omega) (Nat.le_of_lt HBZ.out) ?_; intro v' w3 ho3 hg3 hn3)
        have HO3 : Hid (Own w3 (w.heap.size + 1 + 1) v' (ofN (natsOf g))) := by
          rw [ofN_nats HF.out.gr]
          unfold Own Hid
          simpa using ho3
        have hx3 : Ext W w3 := HX1.out.grown hg3 (fun q h => by cases h; rw [HWS.out]; exact Nat.le_refl _)
        have HX3 := Lib.hid hx3
        clear ho3 hg3 hn3 hi hz0 hz1 hz2 hx3
        obtain ⟨q, m3, rfl⟩ := HO3.out.slice (by rw [ofN_length, natsOf_length]; omega)
        rw [ofN_length, natsOf_length] at HO3 ⊢
        obtain ⟨-, -, hbr, -, hcl, hfr⟩ := HO3.out.at
        obtain ⟨px, hpx, hpx1, hpx2, hpx3⟩ := pow_var x (by omega)
        obtain ⟨py, hpy, hpy1, hpy2, hpy3⟩ := pow_var y (by omega)
        have hpx4 : px ≤ 2048 := by rw [← hpx]; exact (Nat.pow_le_pow_right (by omega) (by omega) : 2 ^ x ≤ 2 ^ 11)
        have hpy4 : py ≤ 2048 := by rw [← hpy]; exact (Nat.pow_le_pow_right (by omega) (by omega) : 2 ^ y ≤ 2 ^ 11)
        have ex : min x 64 = x := by omega
        have ey : min y 64 = y := by omega
        have hl1 := natsOf_low HF.out.gr
        obtain ⟨gx, hgx⟩ : ∃ n, n = (natsOf g).getD x 0 := ⟨_, rfl⟩
        have hgx4 : gx ≤ 4095 := by rw [hgx]; exact hl1 x
        have c4 := hcl x hx'
        rw [ofN_get, ← hgx] at c4
        have b4 := bits_or gx py (by omega) (by omega)
        have f4 := hfr x
        have HB4 := Lib.hid hbr
        have HO4 : Hid (∀ u : Value, u = .int .i64 (bor gx py : Nat) → Own (w3.setCell ⟨q, x, none⟩ u).drew (w.heap.size + 1 + 1) (.slice (some ⟨q, 0, none⟩) g.length m3) (ofN (orAt (natsOf g) x y))) := fun u hu => by
          rw [hu]
          have := (HO3.out.set x (bor gx py : Nat)).drew
          rw [← ofN_set] at this
          unfold orAt
          rw [hpy, ← hgx]
          exact this
        have HPX := Lib.hid hpx; have HPY := Lib.hid hpy; have HL1 := Lib.hid hl1
        clear hgx hcl hfr hbr hpx hpy hl1 hx hy
        go_wp2
        go_region
        obtain ⟨W5, hW5⟩ : ∃ V, V = (w3.setCell ⟨q, x, none⟩ (.int .i64 (bor gx py : Nat))).drew := ⟨_, rfl⟩
        rw [← hW5]
        have HO5 : Hid (Own W5 (w.heap.size + 1 + 1) (.slice (some ⟨q, 0, none⟩) g.length m3) (ofN (orAt (natsOf g) x y))) := by rw [hW5]; exact HO4.out _ rfl
        have HX5 : Hid (Ext W W5) := by rw [hW5]; exact (HX3.out.setCell (p := ⟨q, x, none⟩) (by rw [HWS.out]; exact HB4.out) _).drew
        obtain ⟨-, -, -, -, hcl, hfr⟩ := HO5.out.at
        obtain ⟨gy, hgy⟩ : ∃ n, n = (orAt (natsOf g) x y).getD y 0 := ⟨_, rfl⟩
        have hgy4 : gy ≤ 4095 := by rw [hgy]; exact (HL1.out.put x (by omega)) y
        have c5 := hcl y hy'
        rw [ofN_get, ← hgy] at c5
        have b5 := bits_or gy px (by omega) (by omega)
        have f5 := hfr y
        have HO6 : Hid (∀ u : Value, u = .int .i64 (bor gy px : Nat) → Own (W5.setCell ⟨q, y, none⟩ u).drew (w.heap.size + 1 + 1) (.slice (some ⟨q, 0, none⟩) g.length m3) (ofN (addE (natsOf g) (x, y)))) := fun u hu => by
          rw [hu]
          have := (HO5.out.set y (bor gy px : Nat)).drew
          rw [← ofN_set] at this
          show Own _ _ _ (ofN (orAt (orAt (natsOf g) x y) y x))
          rw [show orAt (orAt (natsOf g) x y) y x = (orAt (natsOf g) x y).set y (bor gy px) from by rw [orAt, ← hgy, HPX.out]]
          exact this
        clear hgy hcl hfr hW5 HO4 c4 b4 f4
        go_wp2
        go_region
        obtain ⟨W6, hW6⟩ : ∃ V, V = (W5.setCell ⟨q, y, none⟩ (.int .i64 (bor gy px : Nat))).drew := ⟨_, rfl⟩
        rw [← hW6]
        have HO7 : Hid (Own W6 (w.heap.size + 1 + 1) (.slice (some ⟨q, 0, none⟩) g.length m3) (ofN (addE (natsOf g) (x, y)))) := by rw [hW6]; exact HO6.out _ rfl
        have HX6 : Hid (Ext W W6) := by rw [hW6]; exact (HX5.out.setCell (p := ⟨q, y, none⟩) (by rw [HWS.out]; exact HB4.out) _).drew
        have B6 := Lib.hid (HB.out.go HX6.out)
        have a1 := B6.out.a1
        obtain ⟨u0, r0⟩ := B6.out.r0
        obtain ⟨u1, r1⟩ := B6.out.r1
        have f6 := B6.out.fr 0
        have f7 := B6.out.fr 1
        clear hW6 c5 b5 f5 HO6
        go_wp2
        obtain ⟨q0, q1, qx⟩ := B6.out.put (.slice (some ⟨q, 0, none⟩) g.length m3) (.int .i64 c)
        refine bodyPost_ret (v := .tuple #[.agg #[.slice (some ⟨q, 0, none⟩) g.length m3, .int .i64 c], .string ⟨#[111, 107, 10]⟩]) (by simp [results, Tryz.results58, go_sem, q0, q1]) rfl ?_
        have hne : q ≠ w.heap.size + 1 := fun e => by have := HB4.out; omega
        have hlen : (ofN (addE (natsOf g) (x, y))).length = g.length := by rw [ofN_length, addE_length, natsOf_length]
        refine ⟨_, rfl, ⟨q, m3, by show Value.agg #[.slice (some ⟨q, 0, none⟩) g.length m3, .int .i64 c] = Value.agg #[.slice (some ⟨q, 0, none⟩) (ofN (addE (natsOf g) (x, y))).length m3, .int .i64 c]; rw [hlen], ?_⟩, qx⟩
        show Rd _ (.slice _ (ofN (addE (natsOf g) (x, y))).length m3) _
        rw [hlen]
        exact (HO7.out.rd.upd hne (Upd.setCell _ (w.heap.size + 1) 0 _)).upd hne (Upd.setCell _ (w.heap.size + 1) 1 _)
    · have HR : Hid (cmdR 2 g c x y = none) := by show (if x < g.length ∧ y < g.length ∧ x ≠ y then _ else none) = _; rw [if_neg (fun h => hy' h.2.1)]
      rw [HR.out]
      have d1 : decide ((g.length : Int) ≤ (x : Int)) = false := decide_eq_false (by omega)
      have d2 : decide ((g.length : Int) ≤ (y : Int)) = true := decide_eq_true (by omega)
      clear hx hy hS hv hf hW hB hl
      go_enter Tryz.func58, Tryz.ntmps58
      go_wp2
      obtain ⟨q0, q1, -⟩ := cells_two (w.alloc (.cells #[.slice (some ⟨k, 0, none⟩) g.length m, .int .i64 c] 58)) (.slice (some ⟨k, 0, none⟩) g.length m) (.int .i64 c) 58
      rw [World.size_alloc] at q0 q1
      have qx : Ext w ((w.alloc (.cells #[.slice (some ⟨k, 0, none⟩) g.length m, .int .i64 c] 58)).alloc (.cells #[.slice (some ⟨k, 0, none⟩) g.length m, .int .i64 c] 58)) := ((Ext.refl w).alloc _).alloc _
      refine bodyPost_ret (v := .tuple #[.agg #[.slice (some ⟨k, 0, none⟩) g.length m, .int .i64 c], .string ⟨#[110, 111, 10]⟩]) (by simp [results, Tryz.results58, go_sem, q0, q1]) rfl ?_
      exact ⟨_, rfl, ⟨k, m, rfl, HV.out.ext qx⟩, qx⟩
  · have HR : Hid (cmdR 2 g c x y = none) := by show (if x < g.length ∧ y < g.length ∧ x ≠ y then _ else none) = _; rw [if_neg (fun h => hx' h.1)]
    rw [HR.out]
    have d1 : decide ((g.length : Int) ≤ (x : Int)) = true := decide_eq_true (by omega)
    clear hx hy hS hv hf hW hB hl
    go_enter Tryz.func58, Tryz.ntmps58
    go_wp2
    obtain ⟨q0, q1, -⟩ := cells_two (w.alloc (.cells #[.slice (some ⟨k, 0, none⟩) g.length m, .int .i64 c] 58)) (.slice (some ⟨k, 0, none⟩) g.length m) (.int .i64 c) 58
    rw [World.size_alloc] at q0 q1
    have qx : Ext w ((w.alloc (.cells #[.slice (some ⟨k, 0, none⟩) g.length m, .int .i64 c] 58)).alloc (.cells #[.slice (some ⟨k, 0, none⟩) g.length m, .int .i64 c] 58)) := ((Ext.refl w).alloc _).alloc _
    refine bodyPost_ret (v := .tuple #[.agg #[.slice (some ⟨k, 0, none⟩) g.length m, .int .i64 c], .string ⟨#[110, 111, 10]⟩]) (by simp [results, Tryz.results58, go_sem, q0, q1]) rfl ?_
    exact ⟨_, rfl, ⟨k, m, rfl, HV.out.ext qx⟩, qx⟩
end Go.Proofs.YtkmfmhckpfomeaaGreatDoor
