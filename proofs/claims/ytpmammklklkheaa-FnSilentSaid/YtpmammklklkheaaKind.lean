/- The reference's graph of a kind: paths, rings, stars, whole graphs. The condition: n <= 12. -/
import Derived.Test.YtpmammklklkheaaGraphOf
namespace Go.Proofs.Ytpmammklklkheaa
open Go.RowKit
open BigFrame

theorem cell_top (w : World) (o : Obj) (x : Value) (t : TypeId) : ((w.alloc o).alloc (.cells #[x] t)).cell? ⟨w.heap.size + 1, 0, none⟩ = some x := by
  have := one_cell (w.alloc o) x t
  rwa [World.size_alloc] at this
/-- What the reference's graphs by edges and by kind give. -/
def Given2 (w : World) (n : Nat) (e : Ending) (w' : World) : Prop :=
  (∃ v, e = .returned (.tuple #[v, .bool false]) ∧ Ext w w') ∨ ∃ (g c : Nat) (gs : List Int), e = .returned (.tuple #[.slice (some ⟨g, 0, none⟩) n c, .bool true]) ∧ gs.length = n ∧ Own w' w.heap.size (.slice (some ⟨g, 0, none⟩) n c) gs ∧ Ext w w'

set_option maxRecDepth 100000 in
set_option maxHeartbeats 8000000 in
theorem graphKind0 (n : Nat) (w : World) (hn1 : 1 ≤ n) (hn : n ≤ 12) :
    Calls Try.prog 116 #[.int .i64 0, .int .i64 n] w fun e w' => Given2 w n e w' := by
  have hin1 : inB 0 0 3 = true := inB_iff.2 ⟨by omega, by omega⟩
  have hin2 : inB 1 (n : Int) 12 = true := inB_iff.2 ⟨by omega, by omega⟩
  obtain ⟨W, hW⟩ : ∃ W, W = w.alloc (.cells #[] 23) := ⟨_, rfl⟩
  have he0 : Edges W w.heap.size n (.slice (some ⟨w.heap.size, 0, none⟩) 0 0) [] := by rw [hW]; exact Edges.lit w n
  have hx0 : Ext w W := by rw [hW]; exact (Ext.refl _).alloc _
  have HE0 := Lib.hid he0; have HX0 := Lib.hid hx0; have HW := Lib.hid hW
  clear he0 hx0 hW
  go_enter Try.func116, Try.ntmps116
  go_wp2_with (go_at_call 65; refine (l6In_c _ _ _ _).mono ?_; rintro e w' ⟨rfl, rfl⟩)
  rw [← HW.out]
  clear hin1 hin2
  go_loopw [6, 7] (fun v i wr => ∃ (k : Nat) (es : List Value), k ≤ n ∧ i = .int .i64 k ∧ Hid (es.length ≤ 12 * k) ∧ Hid (Edges wr w.heap.size n v es) ∧ Hid (Ext w wr)) (fun _ i _ => n - (intOf i).toNat)
  case atStart => exact ⟨0, [], Nat.zero_le _, rfl, Nat.zero_le _, HE0, HX0⟩
  case round =>
    clear HE0 HX0 HW
    obtain ⟨i, es, hi, rfl, HL, HE, HX⟩ := hrel
    by_cases hlt : i < n
    · obtain ⟨i1, hi1⟩ : ∃ i1 : Nat, (i : Int) + 1 = (i1 : Int) := ⟨i + 1, by omega⟩
      go_wp2
      go_loopw [6, 8] (fun v q wr => ∃ (k : Nat) (es : List Value), i < k ∧ k ≤ n ∧ q = .int .i64 k ∧ Hid (es.length ≤ 12 * i + k) ∧ Hid (Edges wr w.heap.size n v es) ∧ Hid (Ext w wr)) (fun _ q _ => n - (intOf q).toNat)
      case atStart => exact ⟨i1, es, by omega, by omega, rfl, by unfold Hid; have := HL.out; omega, HE, HX⟩
      case round =>
        clear HE HX HL
        obtain ⟨k, es, hki, hk, rfl, HL, HE, HX⟩ := hrel
        by_cases hlk : k < n
        · obtain ⟨n1, hn1'⟩ : ∃ n1 : Nat, (n : Int) - 1 = (n1 : Int) := ⟨n - 1, by omega⟩
          obtain ⟨b0, hb0⟩ : ∃ b, ((i : Int) == 0) = b := ⟨_, rfl⟩
          obtain ⟨bn, hbn⟩ : ∃ b, ((k : Int) == (i1 : Int)) = b := ⟨_, rfl⟩
          obtain ⟨be, hbe⟩ : ∃ b, ((k : Int) == (n1 : Int)) = b := ⟨_, rfl⟩
          have hsz := HX.out.size
          have hsz2 := HL.out
          cases b0 <;> cases bn <;> cases be
          all_goals go_wp2_with (at_builtin; refine wpList_append_edge rfl _ _ rfl w.heap.size n _ _ rfl ((HE.out.ext ((Ext.refl _).alloc _)).ext ((Ext.refl _).alloc _)) (wr.heap.size + 1) (.slice (some ⟨wr.heap.size, 0, none⟩) 2 2) rfl ((Edge.new HE.out i k (by omega) (by omega) (by omega) (by omega) _).ext ((Ext.refl _).alloc _)) rfl (cell_top _ _ _ _) (by omega) (by simp; omega) ?_; intro v' w3 he3 hb3; have HE3 := Lib.hid he3; have HX3 : Hid (Ext w w3) := Below.trans ((HX.out.alloc _).alloc _) hb3; clear he3 hb3)
          all_goals go_roundw
          all_goals first
            | exact ⟨k + 1, _, by omega, by omega, by go_num, by unfold Hid; rw [List.length_append]; show _ + 1 ≤ _; omega, HE3, HX3⟩
            | exact ⟨k + 1, es, by omega, by omega, by go_num, by unfold Hid; omega, HE, HX⟩
            | (simp [intOf]; omega)
        · obtain rfl : k = n := by omega
          go_wp2
          go_roundw
          case rel => exact ⟨i + 1, es, by omega, by go_num, by unfold Hid; have := HL.out; omega, HE, HX⟩
          case measure => simp [intOf]; omega
    · obtain rfl : i = n := by omega
      have hl : es.length ≤ 200 := by have := HL.out; omega
      go_wp2_with fail
      refine (graphOfS_c w.heap.size i _ es wr HE.out (by omega) (by omega) hl).mono ?_
      rintro e w2 ⟨g, c, gs, rfl, h1, h2, h3⟩
      have O2 := Lib.hid h2; have X2 := Lib.hid h3
      clear h2 h3
      go_wp2
      go_ret2
      exact .inr ⟨g, c, gs, rfl, h1, O2.out.mono HX.out.size, HX.out.trans X2.out⟩

set_option maxRecDepth 100000 in
set_option maxHeartbeats 8000000 in
theorem graphKind1 (n : Nat) (w : World) (hn1 : 1 ≤ n) (hn : n ≤ 12) (hn3 : 3 ≤ n) :
    Calls Try.prog 116 #[.int .i64 1, .int .i64 n] w fun e w' => Given2 w n e w' := by
  have hin1 : inB 0 1 3 = true := inB_iff.2 ⟨by omega, by omega⟩
  have hin2 : inB 1 (n : Int) 12 = true := inB_iff.2 ⟨by omega, by omega⟩
  obtain ⟨W, hW⟩ : ∃ W, W = w.alloc (.cells #[] 23) := ⟨_, rfl⟩
  have he0 : Edges W w.heap.size n (.slice (some ⟨w.heap.size, 0, none⟩) 0 0) [] := by rw [hW]; exact Edges.lit w n
  have hx0 : Ext w W := by rw [hW]; exact (Ext.refl _).alloc _
  have HE0 := Lib.hid he0; have HX0 := Lib.hid hx0; have HW := Lib.hid hW
  clear he0 hx0 hW
  go_enter Try.func116, Try.ntmps116
  go_wp2_with (go_at_call 65; refine (l6In_c _ _ _ _).mono ?_; rintro e w' ⟨rfl, rfl⟩)
  rw [← HW.out]
  clear hin1 hin2
  go_loopw [6, 7] (fun v i wr => ∃ (k : Nat) (es : List Value), k ≤ n ∧ i = .int .i64 k ∧ Hid (es.length ≤ 12 * k) ∧ Hid (Edges wr w.heap.size n v es) ∧ Hid (Ext w wr)) (fun _ i _ => n - (intOf i).toNat)
  case atStart => exact ⟨0, [], Nat.zero_le _, rfl, Nat.zero_le _, HE0, HX0⟩
  case round =>
    clear HE0 HX0 HW
    obtain ⟨i, es, hi, rfl, HL, HE, HX⟩ := hrel
    by_cases hlt : i < n
    · obtain ⟨i1, hi1⟩ : ∃ i1 : Nat, (i : Int) + 1 = (i1 : Int) := ⟨i + 1, by omega⟩
      go_wp2
      go_loopw [6, 8] (fun v q wr => ∃ (k : Nat) (es : List Value), i < k ∧ k ≤ n ∧ q = .int .i64 k ∧ Hid (es.length ≤ 12 * i + k) ∧ Hid (Edges wr w.heap.size n v es) ∧ Hid (Ext w wr)) (fun _ q _ => n - (intOf q).toNat)
      case atStart => exact ⟨i1, es, by omega, by omega, rfl, by unfold Hid; have := HL.out; omega, HE, HX⟩
      case round =>
        clear HE HX HL
        obtain ⟨k, es, hki, hk, rfl, HL, HE, HX⟩ := hrel
        by_cases hlk : k < n
        · obtain ⟨n1, hn1'⟩ : ∃ n1 : Nat, (n : Int) - 1 = (n1 : Int) := ⟨n - 1, by omega⟩
          obtain ⟨b0, hb0⟩ : ∃ b, ((i : Int) == 0) = b := ⟨_, rfl⟩
          obtain ⟨bn, hbn⟩ : ∃ b, ((k : Int) == (i1 : Int)) = b := ⟨_, rfl⟩
          obtain ⟨be, hbe⟩ : ∃ b, ((k : Int) == (n1 : Int)) = b := ⟨_, rfl⟩
          have hsz := HX.out.size
          have hsz2 := HL.out
          cases b0 <;> cases bn <;> cases be
          all_goals go_wp2_with (at_builtin; refine wpList_append_edge rfl _ _ rfl w.heap.size n _ _ rfl ((HE.out.ext ((Ext.refl _).alloc _)).ext ((Ext.refl _).alloc _)) (wr.heap.size + 1) (.slice (some ⟨wr.heap.size, 0, none⟩) 2 2) rfl ((Edge.new HE.out i k (by omega) (by omega) (by omega) (by omega) _).ext ((Ext.refl _).alloc _)) rfl (cell_top _ _ _ _) (by omega) (by simp; omega) ?_; intro v' w3 he3 hb3; have HE3 := Lib.hid he3; have HX3 : Hid (Ext w w3) := Below.trans ((HX.out.alloc _).alloc _) hb3; clear he3 hb3)
          all_goals go_roundw
          all_goals first
            | exact ⟨k + 1, _, by omega, by omega, by go_num, by unfold Hid; rw [List.length_append]; show _ + 1 ≤ _; omega, HE3, HX3⟩
            | exact ⟨k + 1, es, by omega, by omega, by go_num, by unfold Hid; omega, HE, HX⟩
            | (simp [intOf]; omega)
        · obtain rfl : k = n := by omega
          go_wp2
          go_roundw
          case rel => exact ⟨i + 1, es, by omega, by go_num, by unfold Hid; have := HL.out; omega, HE, HX⟩
          case measure => simp [intOf]; omega
    · obtain rfl : i = n := by omega
      have hl : es.length ≤ 200 := by have := HL.out; omega
      go_wp2_with fail
      refine (graphOfS_c w.heap.size i _ es wr HE.out (by omega) (by omega) hl).mono ?_
      rintro e w2 ⟨g, c, gs, rfl, h1, h2, h3⟩
      have O2 := Lib.hid h2; have X2 := Lib.hid h3
      clear h2 h3
      go_wp2
      go_ret2
      exact .inr ⟨g, c, gs, rfl, h1, O2.out.mono HX.out.size, HX.out.trans X2.out⟩

set_option maxRecDepth 100000 in
set_option maxHeartbeats 8000000 in
theorem graphKind2 (n : Nat) (w : World) (hn1 : 1 ≤ n) (hn : n ≤ 12) :
    Calls Try.prog 116 #[.int .i64 2, .int .i64 n] w fun e w' => Given2 w n e w' := by
  have hin1 : inB 0 2 3 = true := inB_iff.2 ⟨by omega, by omega⟩
  have hin2 : inB 1 (n : Int) 12 = true := inB_iff.2 ⟨by omega, by omega⟩
  obtain ⟨W, hW⟩ : ∃ W, W = w.alloc (.cells #[] 23) := ⟨_, rfl⟩
  have he0 : Edges W w.heap.size n (.slice (some ⟨w.heap.size, 0, none⟩) 0 0) [] := by rw [hW]; exact Edges.lit w n
  have hx0 : Ext w W := by rw [hW]; exact (Ext.refl _).alloc _
  have HE0 := Lib.hid he0; have HX0 := Lib.hid hx0; have HW := Lib.hid hW
  clear he0 hx0 hW
  go_enter Try.func116, Try.ntmps116
  go_wp2_with (go_at_call 65; refine (l6In_c _ _ _ _).mono ?_; rintro e w' ⟨rfl, rfl⟩)
  rw [← HW.out]
  clear hin1 hin2
  go_loopw [6, 7] (fun v i wr => ∃ (k : Nat) (es : List Value), k ≤ n ∧ i = .int .i64 k ∧ Hid (es.length ≤ 12 * k) ∧ Hid (Edges wr w.heap.size n v es) ∧ Hid (Ext w wr)) (fun _ i _ => n - (intOf i).toNat)
  case atStart => exact ⟨0, [], Nat.zero_le _, rfl, Nat.zero_le _, HE0, HX0⟩
  case round =>
    clear HE0 HX0 HW
    obtain ⟨i, es, hi, rfl, HL, HE, HX⟩ := hrel
    by_cases hlt : i < n
    · obtain ⟨i1, hi1⟩ : ∃ i1 : Nat, (i : Int) + 1 = (i1 : Int) := ⟨i + 1, by omega⟩
      go_wp2
      go_loopw [6, 8] (fun v q wr => ∃ (k : Nat) (es : List Value), i < k ∧ k ≤ n ∧ q = .int .i64 k ∧ Hid (es.length ≤ 12 * i + k) ∧ Hid (Edges wr w.heap.size n v es) ∧ Hid (Ext w wr)) (fun _ q _ => n - (intOf q).toNat)
      case atStart => exact ⟨i1, es, by omega, by omega, rfl, by unfold Hid; have := HL.out; omega, HE, HX⟩
      case round =>
        clear HE HX HL
        obtain ⟨k, es, hki, hk, rfl, HL, HE, HX⟩ := hrel
        by_cases hlk : k < n
        · obtain ⟨n1, hn1'⟩ : ∃ n1 : Nat, (n : Int) - 1 = (n1 : Int) := ⟨n - 1, by omega⟩
          obtain ⟨b0, hb0⟩ : ∃ b, ((i : Int) == 0) = b := ⟨_, rfl⟩
          obtain ⟨bn, hbn⟩ : ∃ b, ((k : Int) == (i1 : Int)) = b := ⟨_, rfl⟩
          obtain ⟨be, hbe⟩ : ∃ b, ((k : Int) == (n1 : Int)) = b := ⟨_, rfl⟩
          have hsz := HX.out.size
          have hsz2 := HL.out
          cases b0 <;> cases bn <;> cases be
          all_goals go_wp2_with (at_builtin; refine wpList_append_edge rfl _ _ rfl w.heap.size n _ _ rfl ((HE.out.ext ((Ext.refl _).alloc _)).ext ((Ext.refl _).alloc _)) (wr.heap.size + 1) (.slice (some ⟨wr.heap.size, 0, none⟩) 2 2) rfl ((Edge.new HE.out i k (by omega) (by omega) (by omega) (by omega) _).ext ((Ext.refl _).alloc _)) rfl (cell_top _ _ _ _) (by omega) (by simp; omega) ?_; intro v' w3 he3 hb3; have HE3 := Lib.hid he3; have HX3 : Hid (Ext w w3) := Below.trans ((HX.out.alloc _).alloc _) hb3; clear he3 hb3)
          all_goals go_roundw
          all_goals first
            | exact ⟨k + 1, _, by omega, by omega, by go_num, by unfold Hid; rw [List.length_append]; show _ + 1 ≤ _; omega, HE3, HX3⟩
            | exact ⟨k + 1, es, by omega, by omega, by go_num, by unfold Hid; omega, HE, HX⟩
            | (simp [intOf]; omega)
        · obtain rfl : k = n := by omega
          go_wp2
          go_roundw
          case rel => exact ⟨i + 1, es, by omega, by go_num, by unfold Hid; have := HL.out; omega, HE, HX⟩
          case measure => simp [intOf]; omega
    · obtain rfl : i = n := by omega
      have hl : es.length ≤ 200 := by have := HL.out; omega
      go_wp2_with fail
      refine (graphOfS_c w.heap.size i _ es wr HE.out (by omega) (by omega) hl).mono ?_
      rintro e w2 ⟨g, c, gs, rfl, h1, h2, h3⟩
      have O2 := Lib.hid h2; have X2 := Lib.hid h3
      clear h2 h3
      go_wp2
      go_ret2
      exact .inr ⟨g, c, gs, rfl, h1, O2.out.mono HX.out.size, HX.out.trans X2.out⟩

set_option maxRecDepth 100000 in
set_option maxHeartbeats 8000000 in
theorem graphKind3 (n : Nat) (w : World) (hn1 : 1 ≤ n) (hn : n ≤ 12) :
    Calls Try.prog 116 #[.int .i64 3, .int .i64 n] w fun e w' => Given2 w n e w' := by
  have hin1 : inB 0 3 3 = true := inB_iff.2 ⟨by omega, by omega⟩
  have hin2 : inB 1 (n : Int) 12 = true := inB_iff.2 ⟨by omega, by omega⟩
  obtain ⟨W, hW⟩ : ∃ W, W = w.alloc (.cells #[] 23) := ⟨_, rfl⟩
  have he0 : Edges W w.heap.size n (.slice (some ⟨w.heap.size, 0, none⟩) 0 0) [] := by rw [hW]; exact Edges.lit w n
  have hx0 : Ext w W := by rw [hW]; exact (Ext.refl _).alloc _
  have HE0 := Lib.hid he0; have HX0 := Lib.hid hx0; have HW := Lib.hid hW
  clear he0 hx0 hW
  go_enter Try.func116, Try.ntmps116
  go_wp2_with (go_at_call 65; refine (l6In_c _ _ _ _).mono ?_; rintro e w' ⟨rfl, rfl⟩)
  rw [← HW.out]
  clear hin1 hin2
  go_loopw [6, 7] (fun v i wr => ∃ (k : Nat) (es : List Value), k ≤ n ∧ i = .int .i64 k ∧ Hid (es.length ≤ 12 * k) ∧ Hid (Edges wr w.heap.size n v es) ∧ Hid (Ext w wr)) (fun _ i _ => n - (intOf i).toNat)
  case atStart => exact ⟨0, [], Nat.zero_le _, rfl, Nat.zero_le _, HE0, HX0⟩
  case round =>
    clear HE0 HX0 HW
    obtain ⟨i, es, hi, rfl, HL, HE, HX⟩ := hrel
    by_cases hlt : i < n
    · obtain ⟨i1, hi1⟩ : ∃ i1 : Nat, (i : Int) + 1 = (i1 : Int) := ⟨i + 1, by omega⟩
      go_wp2
      go_loopw [6, 8] (fun v q wr => ∃ (k : Nat) (es : List Value), i < k ∧ k ≤ n ∧ q = .int .i64 k ∧ Hid (es.length ≤ 12 * i + k) ∧ Hid (Edges wr w.heap.size n v es) ∧ Hid (Ext w wr)) (fun _ q _ => n - (intOf q).toNat)
      case atStart => exact ⟨i1, es, by omega, by omega, rfl, by unfold Hid; have := HL.out; omega, HE, HX⟩
      case round =>
        clear HE HX HL
        obtain ⟨k, es, hki, hk, rfl, HL, HE, HX⟩ := hrel
        by_cases hlk : k < n
        · obtain ⟨n1, hn1'⟩ : ∃ n1 : Nat, (n : Int) - 1 = (n1 : Int) := ⟨n - 1, by omega⟩
          obtain ⟨b0, hb0⟩ : ∃ b, ((i : Int) == 0) = b := ⟨_, rfl⟩
          obtain ⟨bn, hbn⟩ : ∃ b, ((k : Int) == (i1 : Int)) = b := ⟨_, rfl⟩
          obtain ⟨be, hbe⟩ : ∃ b, ((k : Int) == (n1 : Int)) = b := ⟨_, rfl⟩
          have hsz := HX.out.size
          have hsz2 := HL.out
          cases b0 <;> cases bn <;> cases be
          all_goals go_wp2_with (at_builtin; refine wpList_append_edge rfl _ _ rfl w.heap.size n _ _ rfl ((HE.out.ext ((Ext.refl _).alloc _)).ext ((Ext.refl _).alloc _)) (wr.heap.size + 1) (.slice (some ⟨wr.heap.size, 0, none⟩) 2 2) rfl ((Edge.new HE.out i k (by omega) (by omega) (by omega) (by omega) _).ext ((Ext.refl _).alloc _)) rfl (cell_top _ _ _ _) (by omega) (by simp; omega) ?_; intro v' w3 he3 hb3; have HE3 := Lib.hid he3; have HX3 : Hid (Ext w w3) := Below.trans ((HX.out.alloc _).alloc _) hb3; clear he3 hb3)
          all_goals go_roundw
          all_goals first
            | exact ⟨k + 1, _, by omega, by omega, by go_num, by unfold Hid; rw [List.length_append]; show _ + 1 ≤ _; omega, HE3, HX3⟩
            | exact ⟨k + 1, es, by omega, by omega, by go_num, by unfold Hid; omega, HE, HX⟩
            | (simp [intOf]; omega)
        · obtain rfl : k = n := by omega
          go_wp2
          go_roundw
          case rel => exact ⟨i + 1, es, by omega, by go_num, by unfold Hid; have := HL.out; omega, HE, HX⟩
          case measure => simp [intOf]; omega
    · obtain rfl : i = n := by omega
      have hl : es.length ≤ 200 := by have := HL.out; omega
      go_wp2_with fail
      refine (graphOfS_c w.heap.size i _ es wr HE.out (by omega) (by omega) hl).mono ?_
      rintro e w2 ⟨g, c, gs, rfl, h1, h2, h3⟩
      have O2 := Lib.hid h2; have X2 := Lib.hid h3
      clear h2 h3
      go_wp2
      go_ret2
      exact .inr ⟨g, c, gs, rfl, h1, O2.out.mono HX.out.size, HX.out.trans X2.out⟩

theorem graphKindS_c (kd n : Nat) (w : World) (hk : kd < 4) (hn1 : 1 ≤ n) (hn : n ≤ 12) :
    Calls Try.prog 116 #[.int .i64 kd, .int .i64 n] w fun e w' => Given2 w n e w' := by
  by_cases hbad : kd = 1 ∧ n < 3
  · obtain ⟨rfl, h3⟩ := hbad
    show Calls Try.prog 116 #[.int .i64 1, .int .i64 n] w fun e w' => Given2 w n e w'
    have hin1 : inB 0 1 3 = true := inB_iff.2 ⟨by omega, by omega⟩
    have hin2 : inB 1 (n : Int) 12 = true := inB_iff.2 ⟨by omega, by omega⟩
    go_enter Try.func116, Try.ntmps116
    go_wp2_with (go_at_call 65; refine (l6In_c _ _ _ _).mono ?_; rintro e w' ⟨rfl, rfl⟩)
    go_ret2
    exact .inl ⟨_, rfl, (Ext.refl w).alloc _⟩
  · rcases (show kd = 0 ∨ kd = 1 ∨ kd = 2 ∨ kd = 3 by omega) with rfl | rfl | rfl | rfl
    · exact graphKind0 n w hn1 hn
    · exact graphKind1 n w hn1 hn (by omega)
    · exact graphKind2 n w hn1 hn
    · exact graphKind3 n w hn1 hn
end Go.Proofs.Ytpmammklklkheaa
