/- What the walk of FnSensorFind rests on, part 7: plain facts, and contracts of the functions that it reaches. Each states its own condition. -/
import Derived.Test.YtpmammklklkheaaFnSensorFindP6
import Derived.Test.YtpmammklklkheaaFnSensorFindP5
import Derived.Test.YtpmammklklkheaaFnSensorFindP3
/- The reference's graph of edges, of a kind. The condition: at most 100 edges of nodes below n <= 12. -/
namespace Go.Proofs.Ytpmammklklkheaa
open Go.RowKit
open BigFrame

theorem rep_low (n : Nat) : ∀ i, getI (List.replicate n (0 : Int)) i < 9223372036854775808 := fun i => by
  unfold getI
  rw [List.getD_eq_getElem?_getD, List.getElem?_replicate]
  split <;> decide
theorem set_low {gs : List Int} {x : Nat} {z : Int} (h : ∀ i, getI gs i < 9223372036854775808) (hz : z < 9223372036854775808) : ∀ i, getI (gs.set x z) i < 9223372036854775808 := fun i => by
  unfold getI
  rw [List.getD_eq_getElem?_getD, List.getElem?_set]
  have := h i
  unfold getI at this
  rw [List.getD_eq_getElem?_getD] at this
  split
  · split
    · exact hz
    · decide
  · exact this

set_option maxRecDepth 100000 in
set_option maxHeartbeats 4000000 in
theorem graphOfB_c (base n : Nat) (v : Value) (es : List Value) (w : World) (hE : Edges w base n v es) (hn1 : 1 ≤ n) (hn : n ≤ 12) (hl : es.length ≤ 200) :
    Calls Try.prog 86 #[.int .i64 n, v] w fun e w' => ∃ (g c : Nat) (gs : List Int), e = .returned (.tuple #[.slice (some ⟨g, 0, none⟩) n c, .bool true]) ∧ gs.length = n ∧ (∀ i, getI gs i < 9223372036854775808) ∧ Own w' w.heap.size (.slice (some ⟨g, 0, none⟩) n c) gs ∧ Ext w w' := by
  obtain ⟨i0, hi, hz0, hz1, hz2⟩ := info_parts info_int
  have hin : inB 1 (n : Int) 12 = true := inB_iff.2 ⟨by omega, by omega⟩
  have HE := Lib.hid hE
  obtain ⟨a, lc, hv⟩ : ∃ a lc, v = .slice a es.length lc := by
    rcases hE.get with ⟨h1, h2⟩ | ⟨g, c, h1, -⟩
    · exact ⟨none, 0, by rw [h1, h2]; rfl⟩
    · exact ⟨_, c, h1⟩
  subst hv
  obtain ⟨L, hL⟩ : ∃ L, L = es.length := ⟨_, rfl⟩
  rw [← hL] at hl
  have HL := Lib.hid hL
  have HE' : Hid (Edges w base n (.slice a L lc) es) := by rw [hL]; exact hE
  rw [← hL]
  clear hE hL HE
  go_enter Try.func86, Try.ntmps86
  go_wp2_with (first
    | (go_at_call 65; refine (l6In_c _ _ _ _).mono ?_; rintro e w' ⟨rfl, rfl⟩)
    | (at_make; refine wpList_make_full _ rfl _ _ 23 rfl w.heap.size 3 i0 (.int .i64 0) 1 Try.underlying23 hi hz0 hz1 _ _ _ _ n rfl rfl rfl rfl (by rw [hz2]; omega) (by unfold maxLen; omega) (Nat.le_refl _) ?_; intro w1 hown hgr))
  have hrow : Own w1 w.heap.size (.slice (some ⟨w.heap.size, 0, none⟩) n n) (List.replicate n 0) := by
    have := hown
    simp only [Value.cells, Nat.mul_one, toList_madeCells_one] at this
    unfold Own; simpa using this
  have hx1 : Ext w w1 := (Ext.refl w).grown hgr (fun _ h => by cases h)
  have HR := Lib.hid hrow; have HX := Lib.hid hx1
  clear hown hgr hi hz0 hz1 hz2 hrow hx1
  go_loopw [7] (fun i wr => ∃ (k : Nat) (gs : List Int), k ≤ L ∧ i = .int .i64 k ∧ Hid (gs.length = n) ∧ Hid (∀ i, getI gs i < 9223372036854775808) ∧ Hid (Own wr w.heap.size (.slice (some ⟨w.heap.size, 0, none⟩) n n) gs) ∧ Hid (Ext w wr)) (fun i _ => L - (intOf i).toNat)
  case atStart => exact ⟨0, _, Nat.zero_le _, rfl, by unfold Hid; simp, rep_low n, HR, HX⟩
  case round =>
    clear HR HX
    obtain ⟨k, gs, hk, rfl, HGL, HLO, HR, HX⟩ := hrel
    by_cases hlt : k < L
    · obtain ⟨bv, rfl, hbv, hcv⟩ : ∃ bv, a = some ⟨bv, 0, none⟩ ∧ bv < w.heap.size ∧ w.cell? ⟨bv, k, none⟩ = some (es.getD k undef) := by
        rcases HE'.out.get with ⟨h1, h2⟩ | ⟨g, c, h1, h2, h3, h4⟩
        · rw [HL.out, h2] at hlt; cases hlt
        · simp only [Value.slice.injEq] at h1
          exact ⟨g, h1.1, h3, h4 k (by rw [← HL.out]; exact hlt)⟩
      obtain ⟨ge, x, y, e1, -, e3, e4, e5, e6, e7, e8, -⟩ := HE'.out.2 (es.getD k undef) (by rw [List.getD_eq_getElem?_getD, List.getElem?_eq_getElem (show k < es.length by rw [← HL.out]; exact hlt)]; exact List.getElem_mem _)
      rw [e1] at hcv
      have c1 := (HX.out.cell hbv).trans hcv
      have c2 := (HX.out.cell e3).trans e7
      have c3 := (HX.out.cell e3).trans e8
      have hne : ((x : Int) == (y : Int)) = false := by simp; omega
      obtain ⟨n1, hn1'⟩ : ∃ n1 : Nat, (n : Int) - 1 = (n1 : Int) := ⟨n - 1, by omega⟩
      have i1 : inB 0 (x : Int) (n1 : Int) = true := inB_iff.2 ⟨by omega, by omega⟩
      have i2 : inB 0 (y : Int) (n1 : Int) = true := inB_iff.2 ⟨by omega, by omega⟩
      obtain ⟨px, hpx, hpx1, hpx2, hpx3⟩ := pow_var x (by omega)
      obtain ⟨py, hpy, hpy1, hpy2, hpy3⟩ := pow_var y (by omega)
      have ex : min x 64 = x := by omega
      have ey : min y 64 = y := by omega
      obtain ⟨-, -, -, hbr, hcl, hfr⟩ := HR.out.at
      have c4 := hcl x (by omega)
      have f4 := hfr x
      have f5 := hfr y
      have HO := Lib.hid fun (z : Int) => HR.out.set x z
      have HXS := Lib.hid fun (z : Value) => HX.out.setCell (p := ⟨w.heap.size, x, none⟩) (Nat.le_refl _) z
      have HNE := Lib.hid e6
      clear hcl hfr e1 hpx hpy hcv e7 e8 e6
      go_wp2_with (go_at_call 65; refine (l6In_c _ _ _ _).mono ?_; rintro e w' ⟨rfl, rfl⟩)
      go_region
      have HZ1 : Hid (bits BinOp.or IntKind.i64 (gs[x]?.getD 0) (py : Int) < 9223372036854775808) := Int.lt_of_le_of_lt (bits_hi_i64 _ _ _) (by decide)
      generalize bits BinOp.or IntKind.i64 (gs[x]?.getD 0) (py : Int) = z at HZ1 ⊢
      obtain ⟨W2, hW2⟩ : ∃ W2, W2 = (wr.setCell { block := w.heap.size, off := x } (Value.int IntKind.i64 z)).drew := ⟨_, rfl⟩
      rw [← hW2]
      have HO2 : Hid (Own W2 w.heap.size (.slice (some ⟨w.heap.size, 0, none⟩) n n) (gs.set x z)) := by rw [hW2]; exact (HO.out z).drew
      have HX2 : Hid (Ext w W2) := by rw [hW2]; exact (HXS.out _).drew
      have HGL2 : Hid ((gs.set x z).length = n) := by unfold Hid; rw [List.length_set]; exact HGL.out
      have HLO2 : Hid (∀ i, getI (gs.set x z) i < 9223372036854775808) := set_low HLO.out HZ1.out
      clear hW2 HO HXS f5 f4 c4 c1 c2 c3 hbr HGL HR HX HLO HZ1
      generalize gs.set x z = gs2 at HO2 HGL2 HLO2
      obtain ⟨-, -, -, hbr, hcl, hfr⟩ := HO2.out.at
      have c5 := hcl y (by omega)
      have f6 := hfr y
      have HO3 := Lib.hid fun (z : Int) => HO2.out.set y z
      have HXS := Lib.hid fun (z : Value) => HX2.out.setCell (p := ⟨w.heap.size, y, none⟩) (Nat.le_refl _) z
      clear hcl hfr
      go_wp2
      go_region
      have HZ2 : Hid (bits BinOp.or IntKind.i64 (gs2[y]?.getD 0) (px : Int) < 9223372036854775808) := Int.lt_of_le_of_lt (bits_hi_i64 _ _ _) (by decide)
      generalize bits BinOp.or IntKind.i64 (gs2[y]?.getD 0) (px : Int) = z2 at HZ2 ⊢
      go_wp2
      go_roundw
      case rel => exact ⟨k + 1, gs2.set y z2, by omega, by go_num, by unfold Hid; rw [List.length_set]; exact HGL2.out, set_low HLO2.out HZ2.out, (HO3.out z2).drew, (HXS.out _).drew⟩
      case measure => simp [intOf]; omega
    · go_wp2
      go_ret2
      exact ⟨_, _, gs, rfl, HGL.out, HLO.out, HR.out, HX.out⟩
theorem graphOfS_c (base n : Nat) (v : Value) (es : List Value) (w : World) (hE : Edges w base n v es) (hn1 : 1 ≤ n) (hn : n ≤ 12) (hl : es.length ≤ 200) :
    Calls Try.prog 86 #[.int .i64 n, v] w fun e w' => ∃ (g c : Nat) (gs : List Int), e = .returned (.tuple #[.slice (some ⟨g, 0, none⟩) n c, .bool true]) ∧ gs.length = n ∧ Own w' w.heap.size (.slice (some ⟨g, 0, none⟩) n c) gs ∧ Ext w w' :=
  (graphOfB_c base n v es w hE hn1 hn hl).mono fun _ _ ⟨g, c, gs, h1, h2, _, h3⟩ => ⟨g, c, gs, h1, h2, h3⟩
end Go.Proofs.Ytpmammklklkheaa

/- The reference's graph of a kind: paths, rings, stars, whole graphs. The condition: n <= 12. -/
namespace Go.Proofs.Ytpmammklklkheaa
open Go.RowKit
open BigFrame

theorem cell_top (w : World) (o : Obj) (x : Value) (t : TypeId) : ((w.alloc o).alloc (.cells #[x] t)).cell? ⟨w.heap.size + 1, 0, none⟩ = some x := by
  have := one_cell (w.alloc o) x t
  rwa [World.size_alloc] at this
/-- What the reference's graphs by edges and by kind give. -/
def Given2 (w : World) (n : Nat) (e : Ending) (w' : World) : Prop :=
  (∃ v, e = .returned (.tuple #[v, .bool false]) ∧ Ext w w') ∨ ∃ (g c : Nat) (gs : List Int), e = .returned (.tuple #[.slice (some ⟨g, 0, none⟩) n c, .bool true]) ∧ gs.length = n ∧ Own w' w.heap.size (.slice (some ⟨g, 0, none⟩) n c) gs ∧ Ext w w'

set_option maxRecDepth 100000 in
set_option maxHeartbeats 8000000 in
theorem graphKind0 (n : Nat) (w : World) (hn1 : 1 ≤ n) (hn : n ≤ 12) :
    Calls Try.prog 116 #[.int .i64 0, .int .i64 n] w fun e w' => Given2 w n e w' := by
  have hin1 : inB 0 0 3 = true := inB_iff.2 ⟨by omega, by omega⟩
  have hin2 : inB 1 (n : Int) 12 = true := inB_iff.2 ⟨by omega, by omega⟩
  obtain ⟨W, hW⟩ : ∃ W, W = w.alloc (.cells #[] 23) := ⟨_, rfl⟩
  have he0 : Edges W w.heap.size n (.slice (some ⟨w.heap.size, 0, none⟩) 0 0) [] := by rw [hW]; exact Edges.lit w n
  have hx0 : Ext w W := by rw [hW]; exact (Ext.refl _).alloc _
  have HE0 := Lib.hid he0; have HX0 := Lib.hid hx0; have HW := Lib.hid hW
  clear he0 hx0 hW
  go_enter Try.func116, Try.ntmps116
  go_wp2_with (go_at_call 65; refine (l6In_c _ _ _ _).mono ?_; rintro e w' ⟨rfl, rfl⟩)
  rw [← HW.out]
  clear hin1 hin2
  go_loopw [6, 7] (fun v i wr => ∃ (k : Nat) (es : List Value), k ≤ n ∧ i = .int .i64 k ∧ Hid (es.length ≤ 12 * k) ∧ Hid (Edges wr w.heap.size n v es) ∧ Hid (Ext w wr)) (fun _ i _ => n - (intOf i).toNat)
  case atStart => exact ⟨0, [], Nat.zero_le _, rfl, Nat.zero_le _, HE0, HX0⟩
  case round =>
    clear HE0 HX0 HW
    obtain ⟨i, es, hi, rfl, HL, HE, HX⟩ := hrel
    by_cases hlt : i < n
    · obtain ⟨i1, hi1⟩ : ∃ i1 : Nat, (i : Int) + 1 = (i1 : Int) := ⟨i + 1, by omega⟩
      go_wp2
      go_loopw [6, 8] (fun v q wr => ∃ (k : Nat) (es : List Value), i < k ∧ k ≤ n ∧ q = .int .i64 k ∧ Hid (es.length ≤ 12 * i + k) ∧ Hid (Edges wr w.heap.size n v es) ∧ Hid (Ext w wr)) (fun _ q _ => n - (intOf q).toNat)
      case atStart => exact ⟨i1, es, by omega, by omega, rfl, by unfold Hid; have := HL.out; omega, HE, HX⟩
      case round =>
        clear HE HX HL
        obtain ⟨k, es, hki, hk, rfl, HL, HE, HX⟩ := hrel
        by_cases hlk : k < n
        · obtain ⟨n1, hn1'⟩ : ∃ n1 : Nat, (n : Int) - 1 = (n1 : Int) := ⟨n - 1, by omega⟩
          obtain ⟨b0, hb0⟩ : ∃ b, ((i : Int) == 0) = b := ⟨_, rfl⟩
          obtain ⟨bn, hbn⟩ : ∃ b, ((k : Int) == (i1 : Int)) = b := ⟨_, rfl⟩
          obtain ⟨be, hbe⟩ : ∃ b, ((k : Int) == (n1 : Int)) = b := ⟨_, rfl⟩
          have hsz := HX.out.size
          have hsz2 := HL.out
          cases b0 <;> cases bn <;> cases be
          all_goals go_wp2_with (at_builtin; refine wpList_append_edge rfl _ _ rfl w.heap.size n _ _ rfl ((HE.out.ext ((Ext.refl _).alloc _)).ext ((Ext.refl _).alloc _)) (wr.heap.size + 1) (.slice (some ⟨wr.heap.size, 0, none⟩) 2 2) rfl ((Edge.new HE.out i k (by omega) (by omega) (by omega) (by omega) _).ext ((Ext.refl _).alloc _)) rfl (cell_top _ _ _ _) (by omega) (by simp; omega) ?_; intro v' w3 he3 hb3; have HE3 := Lib.hid he3; have HX3 : Hid (Ext w w3) := Below.trans ((HX.out.alloc _).alloc _) hb3; clear he3 hb3)
          all_goals go_roundw
          all_goals first
            | exact ⟨k + 1, _, by omega, by omega, by go_num, by unfold Hid; rw [List.length_append]; show _ + 1 ≤ _; omega, HE3, HX3⟩
            | exact ⟨k + 1, es, by omega, by omega, by go_num, by unfold Hid; omega, HE, HX⟩
            | (simp [intOf]; omega)
        · obtain rfl : k = n := by omega
          go_wp2
          go_roundw
          case rel => exact ⟨i + 1, es, by omega, by go_num, by unfold Hid; have := HL.out; omega, HE, HX⟩
          case measure => simp [intOf]; omega
    · obtain rfl : i = n := by omega
      have hl : es.length ≤ 200 := by have := HL.out; omega
      go_wp2_with fail
      refine (graphOfS_c w.heap.size i _ es wr HE.out (by omega) (by omega) hl).mono ?_
      rintro e w2 ⟨g, c, gs, rfl, h1, h2, h3⟩
      have O2 := Lib.hid h2; have X2 := Lib.hid h3
      clear h2 h3
      go_wp2
      go_ret2
      exact .inr ⟨g, c, gs, rfl, h1, O2.out.mono HX.out.size, HX.out.trans X2.out⟩

set_option maxRecDepth 100000 in
set_option maxHeartbeats 8000000 in
theorem graphKind1 (n : Nat) (w : World) (hn1 : 1 ≤ n) (hn : n ≤ 12) (hn3 : 3 ≤ n) :
    Calls Try.prog 116 #[.int .i64 1, .int .i64 n] w fun e w' => Given2 w n e w' := by
  have hin1 : inB 0 1 3 = true := inB_iff.2 ⟨by omega, by omega⟩
  have hin2 : inB 1 (n : Int) 12 = true := inB_iff.2 ⟨by omega, by omega⟩
  obtain ⟨W, hW⟩ : ∃ W, W = w.alloc (.cells #[] 23) := ⟨_, rfl⟩
  have he0 : Edges W w.heap.size n (.slice (some ⟨w.heap.size, 0, none⟩) 0 0) [] := by rw [hW]; exact Edges.lit w n
  have hx0 : Ext w W := by rw [hW]; exact (Ext.refl _).alloc _
  have HE0 := Lib.hid he0; have HX0 := Lib.hid hx0; have HW := Lib.hid hW
  clear he0 hx0 hW
  go_enter Try.func116, Try.ntmps116
  go_wp2_with (go_at_call 65; refine (l6In_c _ _ _ _).mono ?_; rintro e w' ⟨rfl, rfl⟩)
  rw [← HW.out]
  clear hin1 hin2
  go_loopw [6, 7] (fun v i wr => ∃ (k : Nat) (es : List Value), k ≤ n ∧ i = .int .i64 k ∧ Hid (es.length ≤ 12 * k) ∧ Hid (Edges wr w.heap.size n v es) ∧ Hid (Ext w wr)) (fun _ i _ => n - (intOf i).toNat)
  case atStart => exact ⟨0, [], Nat.zero_le _, rfl, Nat.zero_le _, HE0, HX0⟩
  case round =>
    clear HE0 HX0 HW
    obtain ⟨i, es, hi, rfl, HL, HE, HX⟩ := hrel
    by_cases hlt : i < n
    · obtain ⟨i1, hi1⟩ : ∃ i1 : Nat, (i : Int) + 1 = (i1 : Int) := ⟨i + 1, by omega⟩
      go_wp2
      go_loopw [6, 8] (fun v q wr => ∃ (k : Nat) (es : List Value), i < k ∧ k ≤ n ∧ q = .int .i64 k ∧ Hid (es.length ≤ 12 * i + k) ∧ Hid (Edges wr w.heap.size n v es) ∧ Hid (Ext w wr)) (fun _ q _ => n - (intOf q).toNat)
      case atStart => exact ⟨i1, es, by omega, by omega, rfl, by unfold Hid; have := HL.out; omega, HE, HX⟩
      case round =>
        clear HE HX HL
        obtain ⟨k, es, hki, hk, rfl, HL, HE, HX⟩ := hrel
        by_cases hlk : k < n
        · obtain ⟨n1, hn1'⟩ : ∃ n1 : Nat, (n : Int) - 1 = (n1 : Int) := ⟨n - 1, by omega⟩
          obtain ⟨b0, hb0⟩ : ∃ b, ((i : Int) == 0) = b := ⟨_, rfl⟩
          obtain ⟨bn, hbn⟩ : ∃ b, ((k : Int) == (i1 : Int)) = b := ⟨_, rfl⟩
          obtain ⟨be, hbe⟩ : ∃ b, ((k : Int) == (n1 : Int)) = b := ⟨_, rfl⟩
          have hsz := HX.out.size
          have hsz2 := HL.out
          cases b0 <;> cases bn <;> cases be
          all_goals go_wp2_with (at_builtin; refine wpList_append_edge rfl _ _ rfl w.heap.size n _ _ rfl ((HE.out.ext ((Ext.refl _).alloc _)).ext ((Ext.refl _).alloc _)) (wr.heap.size + 1) (.slice (some ⟨wr.heap.size, 0, none⟩) 2 2) rfl ((Edge.new HE.out i k (by omega) (by omega) (by omega) (by omega) _).ext ((Ext.refl _).alloc _)) rfl (cell_top _ _ _ _) (by omega) (by simp; omega) ?_; intro v' w3 he3 hb3; have HE3 := Lib.hid he3; have HX3 : Hid (Ext w w3) := Below.trans ((HX.out.alloc _).alloc _) hb3; clear he3 hb3)
          all_goals go_roundw
          all_goals first
            | exact ⟨k + 1, _, by omega, by omega, by go_num, by unfold Hid; rw [List.length_append]; show _ + 1 ≤ _; omega, HE3, HX3⟩
            | exact ⟨k + 1, es, by omega, by omega, by go_num, by unfold Hid; omega, HE, HX⟩
            | (simp [intOf]; omega)
        · obtain rfl : k = n := by omega
          go_wp2
          go_roundw
          case rel => exact ⟨i + 1, es, by omega, by go_num, by unfold Hid; have := HL.out; omega, HE, HX⟩
          case measure => simp [intOf]; omega
    · obtain rfl : i = n := by omega
      have hl : es.length ≤ 200 := by have := HL.out; omega
      go_wp2_with fail
      refine (graphOfS_c w.heap.size i _ es wr HE.out (by omega) (by omega) hl).mono ?_
      rintro e w2 ⟨g, c, gs, rfl, h1, h2, h3⟩
      have O2 := Lib.hid h2; have X2 := Lib.hid h3
      clear h2 h3
      go_wp2
      go_ret2
      exact .inr ⟨g, c, gs, rfl, h1, O2.out.mono HX.out.size, HX.out.trans X2.out⟩

set_option maxRecDepth 100000 in
set_option maxHeartbeats 8000000 in
theorem graphKind2 (n : Nat) (w : World) (hn1 : 1 ≤ n) (hn : n ≤ 12) :
    Calls Try.prog 116 #[.int .i64 2, .int .i64 n] w fun e w' => Given2 w n e w' := by
  have hin1 : inB 0 2 3 = true := inB_iff.2 ⟨by omega, by omega⟩
  have hin2 : inB 1 (n : Int) 12 = true := inB_iff.2 ⟨by omega, by omega⟩
  obtain ⟨W, hW⟩ : ∃ W, W = w.alloc (.cells #[] 23) := ⟨_, rfl⟩
  have he0 : Edges W w.heap.size n (.slice (some ⟨w.heap.size, 0, none⟩) 0 0) [] := by rw [hW]; exact Edges.lit w n
  have hx0 : Ext w W := by rw [hW]; exact (Ext.refl _).alloc _
  have HE0 := Lib.hid he0; have HX0 := Lib.hid hx0; have HW := Lib.hid hW
  clear he0 hx0 hW
  go_enter Try.func116, Try.ntmps116
  go_wp2_with (go_at_call 65; refine (l6In_c _ _ _ _).mono ?_; rintro e w' ⟨rfl, rfl⟩)
  rw [← HW.out]
  clear hin1 hin2
  go_loopw [6, 7] (fun v i wr => ∃ (k : Nat) (es : List Value), k ≤ n ∧ i = .int .i64 k ∧ Hid (es.length ≤ 12 * k) ∧ Hid (Edges wr w.heap.size n v es) ∧ Hid (Ext w wr)) (fun _ i _ => n - (intOf i).toNat)
  case atStart => exact ⟨0, [], Nat.zero_le _, rfl, Nat.zero_le _, HE0, HX0⟩
  case round =>
    clear HE0 HX0 HW
    obtain ⟨i, es, hi, rfl, HL, HE, HX⟩ := hrel
    by_cases hlt : i < n
    · obtain ⟨i1, hi1⟩ : ∃ i1 : Nat, (i : Int) + 1 = (i1 : Int) := ⟨i + 1, by omega⟩
      go_wp2
      go_loopw [6, 8] (fun v q wr => ∃ (k : Nat) (es : List Value), i < k ∧ k ≤ n ∧ q = .int .i64 k ∧ Hid (es.length ≤ 12 * i + k) ∧ Hid (Edges wr w.heap.size n v es) ∧ Hid (Ext w wr)) (fun _ q _ => n - (intOf q).toNat)
      case atStart => exact ⟨i1, es, by omega, by omega, rfl, by unfold Hid; have := HL.out; omega, HE, HX⟩
      case round =>
        clear HE HX HL
        obtain ⟨k, es, hki, hk, rfl, HL, HE, HX⟩ := hrel
        by_cases hlk : k < n
        · obtain ⟨n1, hn1'⟩ : ∃ n1 : Nat, (n : Int) - 1 = (n1 : Int) := ⟨n - 1, by omega⟩
          obtain ⟨b0, hb0⟩ : ∃ b, ((i : Int) == 0) = b := ⟨_, rfl⟩
          obtain ⟨bn, hbn⟩ : ∃ b, ((k : Int) == (i1 : Int)) = b := ⟨_, rfl⟩
          obtain ⟨be, hbe⟩ : ∃ b, ((k : Int) == (n1 : Int)) = b := ⟨_, rfl⟩
          have hsz := HX.out.size
          have hsz2 := HL.out
          cases b0 <;> cases bn <;> cases be
          all_goals go_wp2_with (at_builtin; refine wpList_append_edge rfl _ _ rfl w.heap.size n _ _ rfl ((HE.out.ext ((Ext.refl _).alloc _)).ext ((Ext.refl _).alloc _)) (wr.heap.size + 1) (.slice (some ⟨wr.heap.size, 0, none⟩) 2 2) rfl ((Edge.new HE.out i k (by omega) (by omega) (by omega) (by omega) _).ext ((Ext.refl _).alloc _)) rfl (cell_top _ _ _ _) (by omega) (by simp; omega) ?_; intro v' w3 he3 hb3; have HE3 := Lib.hid he3; have HX3 : Hid (Ext w w3) := Below.trans ((HX.out.alloc _).alloc _) hb3; clear he3 hb3)
          all_goals go_roundw
          all_goals first
            | exact ⟨k + 1, _, by omega, by omega, by go_num, by unfold Hid; rw [List.length_append]; show _ + 1 ≤ _; omega, HE3, HX3⟩
            | exact ⟨k + 1, es, by omega, by omega, by go_num, by unfold Hid; omega, HE, HX⟩
            | (simp [intOf]; omega)
        · obtain rfl : k = n := by omega
          go_wp2
          go_roundw
          case rel => exact ⟨i + 1, es, by omega, by go_num, by unfold Hid; have := HL.out; omega, HE, HX⟩
          case measure => simp [intOf]; omega
    · obtain rfl : i = n := by omega
      have hl : es.length ≤ 200 := by have := HL.out; omega
      go_wp2_with fail
      refine (graphOfS_c w.heap.size i _ es wr HE.out (by omega) (by omega) hl).mono ?_
      rintro e w2 ⟨g, c, gs, rfl, h1, h2, h3⟩
      have O2 := Lib.hid h2; have X2 := Lib.hid h3
      clear h2 h3
      go_wp2
      go_ret2
      exact .inr ⟨g, c, gs, rfl, h1, O2.out.mono HX.out.size, HX.out.trans X2.out⟩

set_option maxRecDepth 100000 in
set_option maxHeartbeats 8000000 in
theorem graphKind3 (n : Nat) (w : World) (hn1 : 1 ≤ n) (hn : n ≤ 12) :
    Calls Try.prog 116 #[.int .i64 3, .int .i64 n] w fun e w' => Given2 w n e w' := by
  have hin1 : inB 0 3 3 = true := inB_iff.2 ⟨by omega, by omega⟩
  have hin2 : inB 1 (n : Int) 12 = true := inB_iff.2 ⟨by omega, by omega⟩
  obtain ⟨W, hW⟩ : ∃ W, W = w.alloc (.cells #[] 23) := ⟨_, rfl⟩
  have he0 : Edges W w.heap.size n (.slice (some ⟨w.heap.size, 0, none⟩) 0 0) [] := by rw [hW]; exact Edges.lit w n
  have hx0 : Ext w W := by rw [hW]; exact (Ext.refl _).alloc _
  have HE0 := Lib.hid he0; have HX0 := Lib.hid hx0; have HW := Lib.hid hW
  clear he0 hx0 hW
  go_enter Try.func116, Try.ntmps116
  go_wp2_with (go_at_call 65; refine (l6In_c _ _ _ _).mono ?_; rintro e w' ⟨rfl, rfl⟩)
  rw [← HW.out]
  clear hin1 hin2
  go_loopw [6, 7] (fun v i wr => ∃ (k : Nat) (es : List Value), k ≤ n ∧ i = .int .i64 k ∧ Hid (es.length ≤ 12 * k) ∧ Hid (Edges wr w.heap.size n v es) ∧ Hid (Ext w wr)) (fun _ i _ => n - (intOf i).toNat)
  case atStart => exact ⟨0, [], Nat.zero_le _, rfl, Nat.zero_le _, HE0, HX0⟩
  case round =>
    clear HE0 HX0 HW
    obtain ⟨i, es, hi, rfl, HL, HE, HX⟩ := hrel
    by_cases hlt : i < n
    · obtain ⟨i1, hi1⟩ : ∃ i1 : Nat, (i : Int) + 1 = (i1 : Int) := ⟨i + 1, by omega⟩
      go_wp2
      go_loopw [6, 8] (fun v q wr => ∃ (k : Nat) (es : List Value), i < k ∧ k ≤ n ∧ q = .int .i64 k ∧ Hid (es.length ≤ 12 * i + k) ∧ Hid (Edges wr w.heap.size n v es) ∧ Hid (Ext w wr)) (fun _ q _ => n - (intOf q).toNat)
      case atStart => exact ⟨i1, es, by omega, by omega, rfl, by unfold Hid; have := HL.out; omega, HE, HX⟩
      case round =>
        clear HE HX HL
        obtain ⟨k, es, hki, hk, rfl, HL, HE, HX⟩ := hrel
        by_cases hlk : k < n
        · obtain ⟨n1, hn1'⟩ : ∃ n1 : Nat, (n : Int) - 1 = (n1 : Int) := ⟨n - 1, by omega⟩
          obtain ⟨b0, hb0⟩ : ∃ b, ((i : Int) == 0) = b := ⟨_, rfl⟩
          obtain ⟨bn, hbn⟩ : ∃ b, ((k : Int) == (i1 : Int)) = b := ⟨_, rfl⟩
          obtain ⟨be, hbe⟩ : ∃ b, ((k : Int) == (n1 : Int)) = b := ⟨_, rfl⟩
          have hsz := HX.out.size
          have hsz2 := HL.out
          cases b0 <;> cases bn <;> cases be
          all_goals go_wp2_with (at_builtin; refine wpList_append_edge rfl _ _ rfl w.heap.size n _ _ rfl ((HE.out.ext ((Ext.refl _).alloc _)).ext ((Ext.refl _).alloc _)) (wr.heap.size + 1) (.slice (some ⟨wr.heap.size, 0, none⟩) 2 2) rfl ((Edge.new HE.out i k (by omega) (by omega) (by omega) (by omega) _).ext ((Ext.refl _).alloc _)) rfl (cell_top _ _ _ _) (by omega) (by simp; omega) ?_; intro v' w3 he3 hb3; have HE3 := Lib.hid he3; have HX3 : Hid (Ext w w3) := Below.trans ((HX.out.alloc _).alloc _) hb3; clear he3 hb3)
          all_goals go_roundw
          all_goals first
            | exact ⟨k + 1, _, by omega, by omega, by go_num, by unfold Hid; rw [List.length_append]; show _ + 1 ≤ _; omega, HE3, HX3⟩
            | exact ⟨k + 1, es, by omega, by omega, by go_num, by unfold Hid; omega, HE, HX⟩
            | (simp [intOf]; omega)
        · obtain rfl : k = n := by omega
          go_wp2
          go_roundw
          case rel => exact ⟨i + 1, es, by omega, by go_num, by unfold Hid; have := HL.out; omega, HE, HX⟩
          case measure => simp [intOf]; omega
    · obtain rfl : i = n := by omega
      have hl : es.length ≤ 200 := by have := HL.out; omega
      go_wp2_with fail
      refine (graphOfS_c w.heap.size i _ es wr HE.out (by omega) (by omega) hl).mono ?_
      rintro e w2 ⟨g, c, gs, rfl, h1, h2, h3⟩
      have O2 := Lib.hid h2; have X2 := Lib.hid h3
      clear h2 h3
      go_wp2
      go_ret2
      exact .inr ⟨g, c, gs, rfl, h1, O2.out.mono HX.out.size, HX.out.trans X2.out⟩

theorem graphKindS_c (kd n : Nat) (w : World) (hk : kd < 4) (hn1 : 1 ≤ n) (hn : n ≤ 12) :
    Calls Try.prog 116 #[.int .i64 kd, .int .i64 n] w fun e w' => Given2 w n e w' := by
  by_cases hbad : kd = 1 ∧ n < 3
  · obtain ⟨rfl, h3⟩ := hbad
    show Calls Try.prog 116 #[.int .i64 1, .int .i64 n] w fun e w' => Given2 w n e w'
    have hin1 : inB 0 1 3 = true := inB_iff.2 ⟨by omega, by omega⟩
    have hin2 : inB 1 (n : Int) 12 = true := inB_iff.2 ⟨by omega, by omega⟩
    go_enter Try.func116, Try.ntmps116
    go_wp2_with (go_at_call 65; refine (l6In_c _ _ _ _).mono ?_; rintro e w' ⟨rfl, rfl⟩)
    go_ret2
    exact .inl ⟨_, rfl, (Ext.refl w).alloc _⟩
  · rcases (show kd = 0 ∨ kd = 1 ∨ kd = 2 ∨ kd = 3 by omega) with rfl | rfl | rfl | rfl
    · exact graphKind0 n w hn1 hn
    · exact graphKind1 n w hn1 hn (by omega)
    · exact graphKind2 n w hn1 hn
    · exact graphKind3 n w hn1 hn
end Go.Proofs.Ytpmammklklkheaa

/- The draw of a graph. The condition: at most 900000 numbers have been drawn. -/
namespace Go.Proofs.Ytpmammklklkheaa
open Go.RowKit
open BigFrame

set_option maxRecDepth 100000 in
set_option maxHeartbeats 8000000 in
theorem l91Graph_c (w0 : World) (b m most : Nat) (w : World) (h : RdOk w0 b m w) (hm : m ≤ 900000) (hm1 : 1 ≤ most) (hm2 : most ≤ 12) :
    Calls Try.prog 92 #[.pointer (some ⟨b, 0, none⟩), .int .i64 most] w fun e w' => ∃ (v' : Value) (gs : List Int), e = .returned v' ∧ 1 ≤ gs.length ∧ gs.length ≤ most ∧ Own w' (b + 1) v' gs ∧ RdOk w0 b (m + 200) w' := by
  have HR := Lib.hid h
  clear h
  go_enter Try.func92, Try.ntmps92
  go_wp2_with fail
  refine (pick_c w0 b m most _ HR.out (by omega) (by omega) (by omega)).mono ?_
  rintro e w1 ⟨x0, rfl, hx0, r1, -⟩
  have R1 := Lib.hid r1
  clear r1 HR
  obtain ⟨n, hn⟩ : ∃ n : Nat, (1 : Int) + (x0 : Int) = (n : Int) := ⟨x0 + 1, by omega⟩
  have hn1 : 1 ≤ n := by omega
  have hn6 : n ≤ most := by omega
  go_wp2_with fail
  refine (pick_c w0 b (m + 1) 4 _ R1.out (by omega) (by omega) (by omega)).mono ?_
  rintro e w2 ⟨x1, rfl, hx1, r2, -⟩
  have R2 := Lib.hid r2
  clear r2 R1 hx0 hn
  obtain ⟨b1, hb1⟩ : ∃ t, ((x1 : Int) == 0) = t := ⟨_, rfl⟩
  cases b1
  · obtain ⟨w3, hw3⟩ : ∃ w3, w3 = w2 := ⟨_, rfl⟩
    have R3 : Hid (RdOk w0 b (m + 3) w3) := by rw [hw3]; exact R2.out.more (by omega)
    rw [← hw3]
    clear hw3 R2
    obtain ⟨W, hW⟩ : ∃ W, W = w3.alloc (.cells #[] 23) := ⟨_, rfl⟩
    have he0 : Edges W (b + 1) n (.slice (some ⟨w3.heap.size, 0, none⟩) 0 0) [] := by rw [hW]; exact (Edges.lit w3 n).mono (by have := R3.out.lt; omega)
    have R4 : Hid (RdOk w0 b (m + 3) W) := by rw [hW]; exact R3.out.next ((Ext.refl _).alloc _)
    have HW := Lib.hid hW; have E4 := Lib.hid he0
    clear hW he0 R3
    go_wp2_with fail
    rw [← HW.out]
    refine (pick_c w0 b (m + 3) 3 _ R4.out (by omega) (by omega) (by omega)).mono ?_
    rintro e w5 ⟨x2, rfl, hx2, r5, u5⟩
    have R5 := Lib.hid r5; have E5 := Lib.hid (E4.out.upd (show b < b + 1 by omega) u5)
    clear r5 u5 R4 E4 HW
    obtain ⟨tree, htree⟩ : ∃ t, ((x2 : Int) == 0) = t := ⟨_, rfl⟩
    go_wp2
    go_loopw [8, 10] (fun v i wr => ∃ (k : Nat) (es : List Value), 1 ≤ k ∧ k ≤ n ∧ i = .int .i64 k ∧ Hid (es.length ≤ 12 * k) ∧ Hid (Edges wr (b + 1) n v es) ∧ Hid (RdOk w0 b (m + 4 + 13 * k) wr)) (fun _ i _ => n - (intOf i).toNat)
    case atStart => exact ⟨1, [], by omega, by omega, rfl, by unfold Hid; simp, E5, R5.out.more (by omega)⟩
    case round =>
      clear E5 R5
      obtain ⟨i, es, hi1, hi, rfl, HL, HE, HR⟩ := hrel
      by_cases hlt : i < n
      · cases tree
        · go_wp2
          go_loopw [8, 11] (fun v q wr => ∃ (k : Nat) (es : List Value), k ≤ i ∧ q = .int .i64 k ∧ Hid (es.length ≤ 12 * i + k) ∧ Hid (Edges wr (b + 1) n v es) ∧ Hid (RdOk w0 b (m + 4 + 13 * i + k) wr)) (fun _ q _ => i - (intOf q).toNat)
          case atStart => exact ⟨0, es, by omega, rfl, HL, HE, HR⟩
          case round =>
            clear HE HR HL
            obtain ⟨k, es, hk, rfl, HL, HE, HR⟩ := hrel
            by_cases hlk : k < i
            · go_wp2_with fail
              refine (pick_c w0 b (m + 4 + 13 * i + k) 3 _ HR.out (by omega) (by omega) (by omega)).mono ?_
              rintro e w6 ⟨x3, rfl, hx3, r6, u6⟩
              have R6 := Lib.hid r6; have E6 := Lib.hid (HE.out.upd (show b < b + 1 by omega) u6)
              have hb6 := r6.lt
              have hl6 := HL.out
              clear r6 u6 HE HR
              obtain ⟨b3, hb3⟩ : ∃ t, ((x3 : Int) == 0) = t := ⟨_, rfl⟩
              cases b3
              · go_wp2
                go_roundw
                case rel => exact ⟨k + 1, es, by omega, by go_num, by unfold Hid; omega, E6, R6.out.more (by omega)⟩
                case measure => simp [intOf]; omega
              · go_wp2_with (at_builtin; refine wpList_append_edge rfl _ _ rfl (b + 1) n _ _ rfl ((E6.out.ext ((Ext.refl _).alloc _)).ext ((Ext.refl _).alloc _)) (w6.heap.size + 1) (.slice (some ⟨w6.heap.size, 0, none⟩) 2 2) rfl ((Edge.new E6.out i k (by omega) (by omega) (by omega) (by omega) _).ext ((Ext.refl _).alloc _)) rfl (cell_top _ _ _ _) (by omega) (by simp; omega) ?_; intro v' w8 he8 hb8; have E8 := Lib.hid he8; have R8 := Lib.hid ((R6.out.next (((Ext.refl _).alloc _).alloc _)).below hb8); clear he8 hb8)
                go_roundw
                case rel => exact ⟨k + 1, _, by omega, by go_num, by unfold Hid; rw [List.length_append]; show _ + 1 ≤ _; omega, E8, R8.out.more (by omega)⟩
                case measure => simp [intOf]; omega
            · obtain rfl : k = i := by omega
              go_wp2
              go_roundw
              case rel => exact ⟨k + 1, es, by omega, by omega, by go_num, by unfold Hid; have := HL.out; omega, HE, HR.out.more (by omega)⟩
              case measure => simp [intOf]; omega
        · go_wp2_with fail
          refine (pick_c w0 b (m + 4 + 13 * i) i _ HR.out (by omega) (by omega) (by omega)).mono ?_
          rintro e w6 ⟨x3, rfl, hx3, r6, u6⟩
          have R6 := Lib.hid r6; have E6 := Lib.hid (HE.out.upd (show b < b + 1 by omega) u6)
          have hb6 := r6.lt
          have hl6 := HL.out
          clear r6 u6 HE HR
          go_wp2_with (at_builtin; refine wpList_append_edge rfl _ _ rfl (b + 1) n _ _ rfl ((E6.out.ext ((Ext.refl _).alloc _)).ext ((Ext.refl _).alloc _)) (w6.heap.size + 1) (.slice (some ⟨w6.heap.size, 0, none⟩) 2 2) rfl ((Edge.new E6.out i x3 (by omega) (by omega) (by omega) (by omega) _).ext ((Ext.refl _).alloc _)) rfl (cell_top _ _ _ _) (by omega) (by simp; omega) ?_; intro v' w8 he8 hb8; have E8 := Lib.hid he8; have R8 := Lib.hid ((R6.out.next (((Ext.refl _).alloc _).alloc _)).below hb8); clear he8 hb8)
          go_roundw
          case rel => exact ⟨i + 1, _, by omega, by omega, by go_num, by unfold Hid; rw [List.length_append]; show _ + 1 ≤ _; omega, E8, R8.out.more (by omega)⟩
          case measure => simp [intOf]; omega
      · obtain rfl : i = n := by omega
        have hl : es.length ≤ 200 := by have := HL.out; omega
        go_wp2_with fail
        refine (graphOfS_c (b + 1) i _ es wr HE.out (by omega) (by omega) hl).mono ?_
        rintro e w6 ⟨g, c, gs, rfl, h1, h2, h3⟩
        have O6 := Lib.hid (h2.mono (show b + 1 ≤ wr.heap.size by have := HR.out.lt; omega)); have R6 := Lib.hid (HR.out.next h3)
        have H1 := Lib.hid h1
        clear h1 h2 h3 HE HR HL
        go_wp2_with fail
        refine (pick_c w0 b (m + 4 + 13 * i) 30 _ R6.out (by omega) (by omega) (by omega)).mono ?_
        rintro e w7 ⟨x4, rfl, hx4, r7, u7⟩
        have R7 := Lib.hid r7; have O7 := Lib.hid (O6.out.upd (show b < b + 1 by omega) u7)
        clear r7 u7 R6 O6
        obtain ⟨b4, hb4⟩ : ∃ t, ((x4 : Int) == 0) = t := ⟨_, rfl⟩
        cases b4
        · go_wp2
          go_ret
          exact ⟨_, gs, rfl, by rw [H1.out]; omega, by rw [H1.out]; omega, O7.out, R7.out.more (by omega)⟩
        · obtain ⟨-, -, hgb, hgl, hcl, hfr⟩ := O7.out.at
          have c0 := hcl 0 (by omega)
          have f0 := hfr 0
          have OS := Lib.hid fun z => O7.out.set 0 z
          have RS := Lib.hid fun (z : Value) => R7.out.below ((Below.refl (b + 1) w7).setCell (p := ⟨g, 0, none⟩) hgb z)
          clear hcl hfr
          go_wp2
          go_ret
          exact ⟨_, _, rfl, by rw [List.length_set, H1.out]; omega, by rw [List.length_set, H1.out]; omega, OS.out _, (RS.out _).more (by omega)⟩
  · go_wp2_with fail
    refine (pick_c w0 b (m + 1 + 1) 4 _ R2.out (by omega) (by omega) (by omega)).mono ?_
    rintro e w4 ⟨x5, rfl, hx5, r4, -⟩
    have R4' := Lib.hid r4
    clear r4 R2
    go_wp2_with fail
    refine (graphKindS_c x5 n _ hx5 (by omega) (by omega)).mono ?_
    rintro e w3 (⟨v, rfl, hx⟩ | ⟨g, c, gs, rfl, h1, h2, h3⟩)
    · have R3 : Hid (RdOk w0 b (m + 3) w3) := (R4'.out.next hx).more (by omega)
      clear R4' hx
      obtain ⟨W, hW⟩ : ∃ W, W = w3.alloc (.cells #[] 23) := ⟨_, rfl⟩
      have he0 : Edges W (b + 1) n (.slice (some ⟨w3.heap.size, 0, none⟩) 0 0) [] := by rw [hW]; exact (Edges.lit w3 n).mono (by have := R3.out.lt; omega)
      have R4 : Hid (RdOk w0 b (m + 3) W) := by rw [hW]; exact R3.out.next ((Ext.refl _).alloc _)
      have HW := Lib.hid hW; have E4 := Lib.hid he0
      clear hW he0 R3
      go_wp2_with fail
      rw [← HW.out]
      refine (pick_c w0 b (m + 3) 3 _ R4.out (by omega) (by omega) (by omega)).mono ?_
      rintro e w5 ⟨x2, rfl, hx2, r5, u5⟩
      have R5 := Lib.hid r5; have E5 := Lib.hid (E4.out.upd (show b < b + 1 by omega) u5)
      clear r5 u5 R4 E4 HW
      obtain ⟨tree, htree⟩ : ∃ t, ((x2 : Int) == 0) = t := ⟨_, rfl⟩
      go_wp2
      go_loopw [8, 10] (fun v i wr => ∃ (k : Nat) (es : List Value), 1 ≤ k ∧ k ≤ n ∧ i = .int .i64 k ∧ Hid (es.length ≤ 12 * k) ∧ Hid (Edges wr (b + 1) n v es) ∧ Hid (RdOk w0 b (m + 4 + 13 * k) wr)) (fun _ i _ => n - (intOf i).toNat)
      case atStart => exact ⟨1, [], by omega, by omega, rfl, by unfold Hid; simp, E5, R5.out.more (by omega)⟩
      case round =>
        clear E5 R5
        obtain ⟨i, es, hi1, hi, rfl, HL, HE, HR⟩ := hrel
        by_cases hlt : i < n
        · cases tree
          · go_wp2
            go_loopw [8, 11] (fun v q wr => ∃ (k : Nat) (es : List Value), k ≤ i ∧ q = .int .i64 k ∧ Hid (es.length ≤ 12 * i + k) ∧ Hid (Edges wr (b + 1) n v es) ∧ Hid (RdOk w0 b (m + 4 + 13 * i + k) wr)) (fun _ q _ => i - (intOf q).toNat)
            case atStart => exact ⟨0, es, by omega, rfl, HL, HE, HR⟩
            case round =>
              clear HE HR HL
              obtain ⟨k, es, hk, rfl, HL, HE, HR⟩ := hrel
              by_cases hlk : k < i
              · go_wp2_with fail
                refine (pick_c w0 b (m + 4 + 13 * i + k) 3 _ HR.out (by omega) (by omega) (by omega)).mono ?_
                rintro e w6 ⟨x3, rfl, hx3, r6, u6⟩
                have R6 := Lib.hid r6; have E6 := Lib.hid (HE.out.upd (show b < b + 1 by omega) u6)
                have hb6 := r6.lt
                have hl6 := HL.out
                clear r6 u6 HE HR
                obtain ⟨b3, hb3⟩ : ∃ t, ((x3 : Int) == 0) = t := ⟨_, rfl⟩
                cases b3
                · go_wp2
                  go_roundw
                  case rel => exact ⟨k + 1, es, by omega, by go_num, by unfold Hid; omega, E6, R6.out.more (by omega)⟩
                  case measure => simp [intOf]; omega
                · go_wp2_with (at_builtin; refine wpList_append_edge rfl _ _ rfl (b + 1) n _ _ rfl ((E6.out.ext ((Ext.refl _).alloc _)).ext ((Ext.refl _).alloc _)) (w6.heap.size + 1) (.slice (some ⟨w6.heap.size, 0, none⟩) 2 2) rfl ((Edge.new E6.out i k (by omega) (by omega) (by omega) (by omega) _).ext ((Ext.refl _).alloc _)) rfl (cell_top _ _ _ _) (by omega) (by simp; omega) ?_; intro v' w8 he8 hb8; have E8 := Lib.hid he8; have R8 := Lib.hid ((R6.out.next (((Ext.refl _).alloc _).alloc _)).below hb8); clear he8 hb8)
                  go_roundw
                  case rel => exact ⟨k + 1, _, by omega, by go_num, by unfold Hid; rw [List.length_append]; show _ + 1 ≤ _; omega, E8, R8.out.more (by omega)⟩
                  case measure => simp [intOf]; omega
              · obtain rfl : k = i := by omega
                go_wp2
                go_roundw
                case rel => exact ⟨k + 1, es, by omega, by omega, by go_num, by unfold Hid; have := HL.out; omega, HE, HR.out.more (by omega)⟩
                case measure => simp [intOf]; omega
          · go_wp2_with fail
            refine (pick_c w0 b (m + 4 + 13 * i) i _ HR.out (by omega) (by omega) (by omega)).mono ?_
            rintro e w6 ⟨x3, rfl, hx3, r6, u6⟩
            have R6 := Lib.hid r6; have E6 := Lib.hid (HE.out.upd (show b < b + 1 by omega) u6)
            have hb6 := r6.lt
            have hl6 := HL.out
            clear r6 u6 HE HR
            go_wp2_with (at_builtin; refine wpList_append_edge rfl _ _ rfl (b + 1) n _ _ rfl ((E6.out.ext ((Ext.refl _).alloc _)).ext ((Ext.refl _).alloc _)) (w6.heap.size + 1) (.slice (some ⟨w6.heap.size, 0, none⟩) 2 2) rfl ((Edge.new E6.out i x3 (by omega) (by omega) (by omega) (by omega) _).ext ((Ext.refl _).alloc _)) rfl (cell_top _ _ _ _) (by omega) (by simp; omega) ?_; intro v' w8 he8 hb8; have E8 := Lib.hid he8; have R8 := Lib.hid ((R6.out.next (((Ext.refl _).alloc _).alloc _)).below hb8); clear he8 hb8)
            go_roundw
            case rel => exact ⟨i + 1, _, by omega, by omega, by go_num, by unfold Hid; rw [List.length_append]; show _ + 1 ≤ _; omega, E8, R8.out.more (by omega)⟩
            case measure => simp [intOf]; omega
        · obtain rfl : i = n := by omega
          have hl : es.length ≤ 200 := by have := HL.out; omega
          go_wp2_with fail
          refine (graphOfS_c (b + 1) i _ es wr HE.out (by omega) (by omega) hl).mono ?_
          rintro e w6 ⟨g, c, gs, rfl, h1, h2, h3⟩
          have O6 := Lib.hid (h2.mono (show b + 1 ≤ wr.heap.size by have := HR.out.lt; omega)); have R6 := Lib.hid (HR.out.next h3)
          have H1 := Lib.hid h1
          clear h1 h2 h3 HE HR HL
          go_wp2_with fail
          refine (pick_c w0 b (m + 4 + 13 * i) 30 _ R6.out (by omega) (by omega) (by omega)).mono ?_
          rintro e w7 ⟨x4, rfl, hx4, r7, u7⟩
          have R7 := Lib.hid r7; have O7 := Lib.hid (O6.out.upd (show b < b + 1 by omega) u7)
          clear r7 u7 R6 O6
          obtain ⟨b4, hb4⟩ : ∃ t, ((x4 : Int) == 0) = t := ⟨_, rfl⟩
          cases b4
          · go_wp2
            go_ret
            exact ⟨_, gs, rfl, by rw [H1.out]; omega, by rw [H1.out]; omega, O7.out, R7.out.more (by omega)⟩
          · obtain ⟨-, -, hgb, hgl, hcl, hfr⟩ := O7.out.at
            have c0 := hcl 0 (by omega)
            have f0 := hfr 0
            have OS := Lib.hid fun z => O7.out.set 0 z
            have RS := Lib.hid fun (z : Value) => R7.out.below ((Below.refl (b + 1) w7).setCell (p := ⟨g, 0, none⟩) hgb z)
            clear hcl hfr
            go_wp2
            go_ret
            exact ⟨_, _, rfl, by rw [List.length_set, H1.out]; omega, by rw [List.length_set, H1.out]; omega, OS.out _, (RS.out _).more (by omega)⟩
    · have O6 := Lib.hid (h2.mono (show b + 1 ≤ w4.heap.size by have := R4'.out.lt; omega)); have R6 := Lib.hid (R4'.out.next h3)
      have H1 := Lib.hid h1
      clear h1 h2 h3
      go_wp2
      go_ret
      exact ⟨_, gs, rfl, by rw [H1.out]; omega, by rw [H1.out]; omega, O6.out, R6.out.more (by omega)⟩
end Go.Proofs.Ytpmammklklkheaa

/- The balls that the program gives for a graph. No condition. -/
namespace Go.Proofs.Ytpmammklklkheaa
open Go.RowKit
open BigFrame

theorem Own.slice {w : World} {base : Nat} {v : Value} {xs : List Int} (h : Own w base v xs) (h1 : 1 ≤ xs.length) : ∃ g c, v = .slice (some ⟨g, 0, none⟩) xs.length c := by
  rcases h.get with ⟨rfl, h2⟩ | ⟨g, c, rfl, -⟩
  · rw [h2] at h1; simp at h1
  · exact ⟨g, c, rfl⟩

end Go.Proofs.Ytpmammklklkheaa
