/- What the walk of FnForks rests on, part 7: plain facts, and contracts of the functions that it reaches. Each states its own condition. -/
import Derived.Test.YtpmammklklkheaaFnForksP6
import Derived.Test.YtpmammklklkheaaFnForksP5
import Derived.Test.YtpmammklklkheaaFnForksP3
import Derived.Test.YtpmammklklkheaaFnForksP4
/- The reference's graph of edges, of a kind. The condition: at most 100 edges of nodes below n <= 12. -/
namespace Go.Proofs.Ytpmammklklkheaa
open Go.RowKit
open BigFrame

theorem rep_low (n : Nat) : ∀ i, getI (List.replicate n (0 : Int)) i < 9223372036854775808 := fun i => by
  unfold getI
  rw [List.getD_eq_getElem?_getD, List.getElem?_replicate]
  split <;> decide
theorem set_low {gs : List Int} {x : Nat} {z : Int} (h : ∀ i, getI gs i < 9223372036854775808) (hz : z < 9223372036854775808) : ∀ i, getI (gs.set x z) i < 9223372036854775808 := fun i => by
  unfold getI
  rw [List.getD_eq_getElem?_getD, List.getElem?_set]
  have := h i
  unfold getI at this
  rw [List.getD_eq_getElem?_getD] at this
  split
  · split
    · exact hz
    · decide
  · exact this

set_option maxRecDepth 100000 in
set_option maxHeartbeats 4000000 in
theorem graphOfB_c (base n : Nat) (v : Value) (es : List Value) (w : World) (hE : Edges w base n v es) (hn1 : 1 ≤ n) (hn : n ≤ 12) (hl : es.length ≤ 200) :
    Calls Try.prog 86 #[.int .i64 n, v] w fun e w' => ∃ (g c : Nat) (gs : List Int), e = .returned (.tuple #[.slice (some ⟨g, 0, none⟩) n c, .bool true]) ∧ gs.length = n ∧ (∀ i, getI gs i < 9223372036854775808) ∧ Own w' w.heap.size (.slice (some ⟨g, 0, none⟩) n c) gs ∧ Ext w w' := by
  obtain ⟨i0, hi, hz0, hz1, hz2⟩ := info_parts info_int
  have hin : inB 1 (n : Int) 12 = true := inB_iff.2 ⟨by omega, by omega⟩
  have HE := Lib.hid hE
  obtain ⟨a, lc, hv⟩ : ∃ a lc, v = .slice a es.length lc := by
    rcases hE.get with ⟨h1, h2⟩ | ⟨g, c, h1, -⟩
    · exact ⟨none, 0, by rw [h1, h2]; rfl⟩
    · exact ⟨_, c, h1⟩
  subst hv
  obtain ⟨L, hL⟩ : ∃ L, L = es.length := ⟨_, rfl⟩
  rw [← hL] at hl
  have HL := Lib.hid hL
  have HE' : Hid (Edges w base n (.slice a L lc) es) := by rw [hL]; exact hE
  rw [← hL]
  clear hE hL HE
  go_enter Try.func86, Try.ntmps86
  go_wp2_with (first
    | (go_at_call 65; refine (l6In_c _ _ _ _).mono ?_; rintro e w' ⟨rfl, rfl⟩)
    | (at_make; refine wpList_make_full _ rfl _ _ 23 rfl w.heap.size 3 i0 (.int .i64 0) 1 Try.underlying23 hi hz0 hz1 _ _ _ _ n rfl rfl rfl rfl (by rw [hz2]; omega) (by unfold maxLen; omega) (Nat.le_refl _) ?_; intro w1 hown hgr))
  have hrow : Own w1 w.heap.size (.slice (some ⟨w.heap.size, 0, none⟩) n n) (List.replicate n 0) := by
    have := hown
    simp only [Value.cells, Nat.mul_one, toList_madeCells_one] at this
    unfold Own; simpa using this
  have hx1 : Ext w w1 := (Ext.refl w).grown hgr (fun _ h => by cases h)
  have HR := Lib.hid hrow; have HX := Lib.hid hx1
  clear hown hgr hi hz0 hz1 hz2 hrow hx1
  go_loopw [7] (fun i wr => ∃ (k : Nat) (gs : List Int), k ≤ L ∧ i = .int .i64 k ∧ Hid (gs.length = n) ∧ Hid (∀ i, getI gs i < 9223372036854775808) ∧ Hid (Own wr w.heap.size (.slice (some ⟨w.heap.size, 0, none⟩) n n) gs) ∧ Hid (Ext w wr)) (fun i _ => L - (intOf i).toNat)
  case atStart => exact ⟨0, _, Nat.zero_le _, rfl, by unfold Hid; simp, rep_low n, HR, HX⟩
  case round =>
    clear HR HX
    obtain ⟨k, gs, hk, rfl, HGL, HLO, HR, HX⟩ := hrel
    by_cases hlt : k < L
    · obtain ⟨bv, rfl, hbv, hcv⟩ : ∃ bv, a = some ⟨bv, 0, none⟩ ∧ bv < w.heap.size ∧ w.cell? ⟨bv, k, none⟩ = some (es.getD k undef) := by
        rcases HE'.out.get with ⟨h1, h2⟩ | ⟨g, c, h1, h2, h3, h4⟩
        · rw [HL.out, h2] at hlt; cases hlt
        · simp only [Value.slice.injEq] at h1
          exact ⟨g, h1.1, h3, h4 k (by rw [← HL.out]; exact hlt)⟩
      obtain ⟨ge, x, y, e1, -, e3, e4, e5, e6, e7, e8, -⟩ := HE'.out.2 (es.getD k undef) (by rw [List.getD_eq_getElem?_getD, List.getElem?_eq_getElem (show k < es.length by rw [← HL.out]; exact hlt)]; exact List.getElem_mem _)
      rw [e1] at hcv
      have c1 := (HX.out.cell hbv).trans hcv
      have c2 := (HX.out.cell e3).trans e7
      have c3 := (HX.out.cell e3).trans e8
      have hne : ((x : Int) == (y : Int)) = false := by simp; omega
      obtain ⟨n1, hn1'⟩ : ∃ n1 : Nat, (n : Int) - 1 = (n1 : Int) := ⟨n - 1, by omega⟩
      have i1 : inB 0 (x : Int) (n1 : Int) = true := inB_iff.2 ⟨by omega, by omega⟩
      have i2 : inB 0 (y : Int) (n1 : Int) = true := inB_iff.2 ⟨by omega, by omega⟩
      obtain ⟨px, hpx, hpx1, hpx2, hpx3⟩ := pow_var x (by omega)
      obtain ⟨py, hpy, hpy1, hpy2, hpy3⟩ := pow_var y (by omega)
      have ex : min x 64 = x := by omega
      have ey : min y 64 = y := by omega
      obtain ⟨-, -, -, hbr, hcl, hfr⟩ := HR.out.at
      have c4 := hcl x (by omega)
      have f4 := hfr x
      have f5 := hfr y
      have HO := Lib.hid fun (z : Int) => HR.out.set x z
      have HXS := Lib.hid fun (z : Value) => HX.out.setCell (p := ⟨w.heap.size, x, none⟩) (Nat.le_refl _) z
      have HNE := Lib.hid e6
      clear hcl hfr e1 hpx hpy hcv e7 e8 e6
      go_wp2_with (go_at_call 65; refine (l6In_c _ _ _ _).mono ?_; rintro e w' ⟨rfl, rfl⟩)
      go_region
      have HZ1 : Hid (bits BinOp.or IntKind.i64 (gs[x]?.getD 0) (py : Int) < 9223372036854775808) := Int.lt_of_le_of_lt (bits_hi_i64 _ _ _) (by decide)
      generalize bits BinOp.or IntKind.i64 (gs[x]?.getD 0) (py : Int) = z at HZ1 ⊢
      obtain ⟨W2, hW2⟩ : ∃ W2, W2 = (wr.setCell { block := w.heap.size, off := x } (Value.int IntKind.i64 z)).drew := ⟨_, rfl⟩
      rw [← hW2]
      have HO2 : Hid (Own W2 w.heap.size (.slice (some ⟨w.heap.size, 0, none⟩) n n) (gs.set x z)) := by rw [hW2]; exact (HO.out z).drew
      have HX2 : Hid (Ext w W2) := by rw [hW2]; exact (HXS.out _).drew
      have HGL2 : Hid ((gs.set x z).length = n) := by unfold Hid; rw [List.length_set]; exact HGL.out
      have HLO2 : Hid (∀ i, getI (gs.set x z) i < 9223372036854775808) := set_low HLO.out HZ1.out
      clear hW2 HO HXS f5 f4 c4 c1 c2 c3 hbr HGL HR HX HLO HZ1
      generalize gs.set x z = gs2 at HO2 HGL2 HLO2
      obtain ⟨-, -, -, hbr, hcl, hfr⟩ := HO2.out.at
      have c5 := hcl y (by omega)
      have f6 := hfr y
      have HO3 := Lib.hid fun (z : Int) => HO2.out.set y z
      have HXS := Lib.hid fun (z : Value) => HX2.out.setCell (p := ⟨w.heap.size, y, none⟩) (Nat.le_refl _) z
      clear hcl hfr
      go_wp2
      go_region
      have HZ2 : Hid (bits BinOp.or IntKind.i64 (gs2[y]?.getD 0) (px : Int) < 9223372036854775808) := Int.lt_of_le_of_lt (bits_hi_i64 _ _ _) (by decide)
      generalize bits BinOp.or IntKind.i64 (gs2[y]?.getD 0) (px : Int) = z2 at HZ2 ⊢
      go_wp2
      go_roundw
      case rel => exact ⟨k + 1, gs2.set y z2, by omega, by go_num, by unfold Hid; rw [List.length_set]; exact HGL2.out, set_low HLO2.out HZ2.out, (HO3.out z2).drew, (HXS.out _).drew⟩
      case measure => simp [intOf]; omega
    · go_wp2
      go_ret2
      exact ⟨_, _, gs, rfl, HGL.out, HLO.out, HR.out, HX.out⟩
theorem graphOfS_c (base n : Nat) (v : Value) (es : List Value) (w : World) (hE : Edges w base n v es) (hn1 : 1 ≤ n) (hn : n ≤ 12) (hl : es.length ≤ 200) :
    Calls Try.prog 86 #[.int .i64 n, v] w fun e w' => ∃ (g c : Nat) (gs : List Int), e = .returned (.tuple #[.slice (some ⟨g, 0, none⟩) n c, .bool true]) ∧ gs.length = n ∧ Own w' w.heap.size (.slice (some ⟨g, 0, none⟩) n c) gs ∧ Ext w w' :=
  (graphOfB_c base n v es w hE hn1 hn hl).mono fun _ _ ⟨g, c, gs, h1, h2, _, h3⟩ => ⟨g, c, gs, h1, h2, h3⟩
end Go.Proofs.Ytpmammklklkheaa

/- The balls that the program gives for a graph. No condition. -/
namespace Go.Proofs.Ytpmammklklkheaa
open Go.RowKit
open BigFrame

theorem Own.slice {w : World} {base : Nat} {v : Value} {xs : List Int} (h : Own w base v xs) (h1 : 1 ≤ xs.length) : ∃ g c, v = .slice (some ⟨g, 0, none⟩) xs.length c := by
  rcases h.get with ⟨rfl, h2⟩ | ⟨g, c, rfl, -⟩
  · rw [h2] at h1; simp at h1
  · exact ⟨g, c, rfl⟩

end Go.Proofs.Ytpmammklklkheaa

/- The draw of a tree. The condition: at most 2^20 bytes. -/
namespace Go.Proofs.Ytpmammklklkheaa
open Go.RowKit
open BigFrame

theorem cell_top2 (w : World) (o : Obj) (x : Value) (t : TypeId) : ((w.alloc o).alloc (.cells #[x] t)).cell? ⟨w.heap.size + 1, 0, none⟩ = some x := by
  have := one_cell (w.alloc o) x t
  rwa [World.size_alloc] at this

set_option maxRecDepth 100000 in
set_option maxHeartbeats 8000000 in
theorem l91Tree_c (w0 : World) (b m : Nat) (w : World) (h : RdOk w0 b m w) (hm : m ≤ 900000) :
    Calls Try.prog 43 #[.pointer (some ⟨b, 0, none⟩)] w fun e w' => ∃ (v' : Value) (gs : List Int), e = .returned v' ∧ 1 ≤ gs.length ∧ gs.length ≤ 9 ∧ (∀ i, getI gs i < 9223372036854775808) ∧ Own w' (b + 1) v' gs ∧ RdOk w0 b (m + 20) w' := by
  have HR := Lib.hid h
  clear h
  go_enter Try.func43, Try.ntmps43
  go_wp2_with fail
  refine (pick_c w0 b m 9 _ HR.out (by omega) (by omega) (by omega)).mono ?_
  rintro e w3 ⟨x0, rfl, hx0, r3, -⟩
  have R3 := Lib.hid r3
  clear r3 HR
  obtain ⟨n, hn⟩ : ∃ n : Nat, (1 : Int) + (x0 : Int) = (n : Int) := ⟨x0 + 1, by omega⟩
  have hn1 : 1 ≤ n := by omega
  have hn9 : n ≤ 9 := by omega
  obtain ⟨W, hW⟩ : ∃ W, W = w3.alloc (.cells #[] 23) := ⟨_, rfl⟩
  have he0 : Edges W (b + 1) n (.slice (some ⟨w3.heap.size, 0, none⟩) 0 0) [] := by rw [hW]; exact (Edges.lit w3 n).mono (by have := R3.out.lt; omega)
  have R4 : Hid (RdOk w0 b (m + 1) W) := by rw [hW]; exact R3.out.next ((Ext.refl _).alloc _)
  have HW := Lib.hid hW; have E4 := Lib.hid he0
  clear hW he0 R3 hx0
  go_wp2
  clear hn
  rw [← HW.out]
  clear HW
  go_loopw [4, 5] (fun v i wr => ∃ (k : Nat) (es : List Value), 1 ≤ k ∧ k ≤ n ∧ i = .int .i64 k ∧ Hid (es.length ≤ k) ∧ Hid (Edges wr (b + 1) n v es) ∧ Hid (RdOk w0 b (m + 1 + k) wr)) (fun _ i _ => n - (intOf i).toNat)
  case atStart => exact ⟨1, [], by omega, by omega, rfl, by unfold Hid; simp, E4, R4.out.more (by omega)⟩
  case round =>
    clear E4 R4
    obtain ⟨i, es, hi1, hi, rfl, HL, HE, HR⟩ := hrel
    by_cases hlt : i < n
    · go_wp2_with fail
      refine (pick_c w0 b (m + 1 + i) i _ HR.out (by omega) (by omega) (by omega)).mono ?_
      rintro e w6 ⟨x3, rfl, hx3, r6, u6⟩
      have R6 := Lib.hid r6; have E6 := Lib.hid (HE.out.upd (show b < b + 1 by omega) u6)
      have hb6 := r6.lt
      have hl6 := HL.out
      clear r6 u6 HE HR
      go_wp2_with (at_builtin; refine wpList_append_edge rfl _ _ rfl (b + 1) n _ _ rfl ((E6.out.ext ((Ext.refl _).alloc _)).ext ((Ext.refl _).alloc _)) (w6.heap.size + 1) (.slice (some ⟨w6.heap.size, 0, none⟩) 2 2) rfl ((Edge.new E6.out i x3 (by omega) (by omega) (by omega) (by omega) _).ext ((Ext.refl _).alloc _)) rfl (cell_top2 _ _ _ _) (by omega) (by simp; omega) ?_; intro v' w8 he8 hb8; have E8 := Lib.hid he8; have R8 := Lib.hid ((R6.out.next (((Ext.refl _).alloc _).alloc _)).below hb8); clear he8 hb8)
      go_roundw
      case rel => exact ⟨i + 1, _, by omega, by omega, by go_num, by unfold Hid; rw [List.length_append]; show _ + 1 ≤ _; omega, E8, R8.out.more (by omega)⟩
      case measure => simp [intOf]; omega
    · obtain rfl : i = n := by omega
      have hl9 := HL.out
      have fin : ∀ (v : Value) (es : List Value) (W : World), es.length ≤ 200 → Edges W (b + 1) i v es → RdOk w0 b (m + 12) W → Calls Try.prog 86 #[.int .i64 i, v] W fun e w' => ∃ (g c : Nat) (gs : List Int), e = .returned (.tuple #[.slice (some ⟨g, 0, none⟩) i c, .bool true]) ∧ gs.length = i ∧ (∀ i, getI gs i < 9223372036854775808) ∧ Own w' (b + 1) (.slice (some ⟨g, 0, none⟩) i c) gs ∧ RdOk w0 b (m + 12) w' := fun v es W hl hE hR =>
        (graphOfB_c (b + 1) i v es W hE (by omega) (by omega) hl).mono fun _ _ ⟨g, c, gs, h1, h2, h3, h4, h5⟩ => ⟨g, c, gs, h1, h2, h3, h4.mono (by have := hR.lt; omega), hR.next h5⟩
      have HF := Lib.hid fin
      clear fin
      by_cases h2 : 2 < i
      · go_wp2_with fail
        refine (pick_c w0 b (m + 1 + i) 12 _ HR.out (by omega) (by omega) (by omega)).mono ?_
        rintro e w6 ⟨x5, rfl, hx5, r6, u6⟩
        have R6 := Lib.hid r6; have E6 := Lib.hid (HE.out.upd (show b < b + 1 by omega) u6)
        have hb6 := r6.lt
        clear r6 u6 HE HR
        obtain ⟨b1, hb1⟩ : ∃ t, ((x5 : Int) == 0) = t := ⟨_, rfl⟩
        cases b1
        · go_wp2_with fail
          refine (HF.out _ es _ (by omega) E6.out (R6.out.more (by omega))).mono ?_
          rintro e w7 ⟨g, c, gs, rfl, h1, h3, h4, h5⟩
          have O7 := Lib.hid h4; have R7 := Lib.hid h5; have H1 := Lib.hid h1; have H3 := Lib.hid h3
          clear h1 h3 h4 h5
          go_wp2
          go_ret
          exact ⟨_, gs, rfl, by rw [H1.out]; omega, by rw [H1.out]; omega, H3.out, O7.out, R7.out.more (by omega)⟩
        · obtain ⟨i1, hi1'⟩ : ∃ i1 : Nat, (i : Int) - 1 = (i1 : Int) := ⟨i - 1, by omega⟩
          have EN := Lib.hid (Edge.new E6.out 0 i1 (by omega) (by omega) (by omega) (show b + 1 ≤ w6.heap.size by omega) 3)
          go_wp2_with (at_builtin; refine wpList_append_edge rfl _ _ rfl (b + 1) i _ _ rfl ((E6.out.ext ((Ext.refl _).alloc _)).ext ((Ext.refl _).alloc _)) (w6.heap.size + 1) (.slice (some ⟨w6.heap.size, 0, none⟩) 2 2) rfl (EN.out.ext ((Ext.refl _).alloc _)) rfl (cell_top2 _ _ _ _) (by omega) (by simp; omega) ?_; intro v' w8 he8 hb8; have E8 := Lib.hid he8; have R8 := Lib.hid ((R6.out.next (((Ext.refl _).alloc _).alloc _)).below hb8); clear he8 hb8)
          refine (HF.out _ _ _ (by rw [List.length_append]; show _ + 1 ≤ _; omega) E8.out (R8.out.more (by omega))).mono ?_
          rintro e w7 ⟨g, c, gs, rfl, h1, h3, h4, h5⟩
          have O7 := Lib.hid h4; have R7 := Lib.hid h5; have H1 := Lib.hid h1; have H3 := Lib.hid h3
          clear h1 h3 h4 h5
          go_wp2
          go_ret
          exact ⟨_, gs, rfl, by rw [H1.out]; omega, by rw [H1.out]; omega, H3.out, O7.out, R7.out.more (by omega)⟩
      · go_wp2_with fail
        refine (HF.out _ es _ (by omega) HE.out (HR.out.more (by omega))).mono ?_
        rintro e w7 ⟨g, c, gs, rfl, h1, h3, h4, h5⟩
        have O7 := Lib.hid h4; have R7 := Lib.hid h5; have H1 := Lib.hid h1; have H3 := Lib.hid h3
        clear h1 h3 h4 h5
        go_wp2
        go_ret
        exact ⟨_, gs, rfl, by rw [H1.out]; omega, by rw [H1.out]; omega, H3.out, O7.out, R7.out.more (by omega)⟩
set_option maxHeartbeats 1000000 in
theorem drawTreeForks_c (v : Value) (bs : List Int) (w : World) (hv : Rb w v bs) (hm : bs.length ≤ 1048576) :
    Calls Try.prog 12 #[v] w fun e w' => ∃ (v' : Value) (gs : List Int), e = .returned v' ∧ 1 ≤ gs.length ∧ gs.length ≤ 9 ∧ (∀ i, getI gs i < 9223372036854775808) ∧ Rd w' v' gs ∧ Ext w w' := by
  have HO := Lib.hid (l6Open_c v bs w hv hm)
  obtain ⟨a, c, rfl, -, -⟩ := hv
  clear hm
  go_enter Try.func12, Try.ntmps12
  go_wp2_with fail
  refine HO.out.mono ?_
  rintro e w1 ⟨rfl, r1, -⟩
  have R1 := Lib.hid r1; clear r1
  go_wp2_with fail
  refine (l91Tree_c w _ 0 _ R1.out (by omega)).mono ?_
  rintro e w2 ⟨v2, gs, rfl, h1, h9, hlo, o2, r2⟩
  have R2 := Lib.hid r2; have O2 := Lib.hid o2; have HLO := Lib.hid hlo; clear r2 o2 hlo
  go_wp2
  go_ret
  exact ⟨_, gs, rfl, h1, h9, HLO.out, O2.out.rd, R2.out.ext⟩
set_option maxHeartbeats 1000000 in
theorem drawTreeResolves_c (v : Value) (bs : List Int) (w : World) (hv : Rb w v bs) (hm : bs.length ≤ 1048576) :
    Calls Try.prog 28 #[v] w fun e w' => ∃ (v' : Value) (gs : List Int), e = .returned v' ∧ 1 ≤ gs.length ∧ gs.length ≤ 9 ∧ (∀ i, getI gs i < 9223372036854775808) ∧ Rd w' v' gs ∧ Ext w w' := by
  have HO := Lib.hid (l6Open_c v bs w hv hm)
  obtain ⟨a, c, rfl, -, -⟩ := hv
  clear hm
  go_enter Try.func28, Try.ntmps28
  go_wp2_with fail
  refine HO.out.mono ?_
  rintro e w1 ⟨rfl, r1, -⟩
  have R1 := Lib.hid r1; clear r1
  go_wp2_with fail
  refine (l91Tree_c w _ 0 _ R1.out (by omega)).mono ?_
  rintro e w2 ⟨v2, gs, rfl, h1, h9, hlo, o2, r2⟩
  have R2 := Lib.hid r2; have O2 := Lib.hid o2; have HLO := Lib.hid hlo; clear r2 o2 hlo
  go_wp2
  go_ret
  exact ⟨_, gs, rfl, h1, h9, HLO.out, O2.out.rd, R2.out.ext⟩
end Go.Proofs.Ytpmammklklkheaa

/- Whether a pool is clear: the reference and the program compute the same plain function. The condition: the list has at most 2^20 numbers. -/
namespace Go.Proofs.Ytpmammklklkheaa
open Go.RowKit
open BigFrame
attribute [local go_sem] Oper.semAt_some

def clearT (i s : Nat) (x : Int) : Bool := x.toNat.testBit i && (band x.toNat s == 0)
def clearI (tests : List Int) (d i k : Nat) : Bool := !(fewB d k && !k.testBit i) || tests.any (clearT i k)
def clearRow (tests : List Int) (d N i : Nat) : Bool := (List.range N).all (clearI tests d i)
def poolClear (items : Int) (tests : List Int) (d : Int) : Bool := poolIn items tests && inB 0 d 3 && (List.range items.toNat).all (clearRow tests d.toNat (2 ^ items.toNat))
theorem range_all_false {N k : Nat} {p : Nat → Bool} (hk : k < N) (h : p k = false) : (List.range N).all p = false := by
  rw [List.all_eq_false]; exact ⟨k, List.mem_range.2 hk, by rw [h]; decide⟩
theorem range_all_true {N : Nat} {p : Nat → Bool} (h : ∀ k, k < N → p k = true) : (List.range N).all p = true := by
  rw [List.all_eq_true]; exact fun k hk => h k (List.mem_range.1 hk)
theorem any_take_succ {xs : List Int} {p : Int → Bool} {k : Nat} (hk : k < xs.length) : (xs.take (k + 1)).any p = ((xs.take k).any p || p (getI xs k)) := by
  rw [List.take_succ_eq_append_getElem hk, List.any_append]
  simp [getI, hk]
theorem few_iff2 {d k : Nat} : fewB d k = true ↔ cnt k ≤ d := by simp [fewB]

end Go.Proofs.Ytpmammklklkheaa

/- The least set of wrong items with some answers: the reference and the program compute the same plain function. The condition: the list has at most 2^20 numbers. -/
namespace Go.Proofs.Ytpmammklklkheaa
open Go.RowKit
open BigFrame
attribute [local go_sem] Oper.semAt_some

/-- The least number below N with p, and whether there is one. -/
def leastP (p : Nat → Bool) (N : Nat) : Int × Bool :=
  match (List.range N).find? p with
  | some k => ((k : Nat), true)
  | none => (0, false)
theorem leastP_none {p : Nat → Bool} {N : Nat} (h : ∀ j, j < N → p j = false) : leastP p N = (0, false) := by
  unfold leastP
  rw [List.find?_eq_none.2 (fun x hx => by rw [h x (List.mem_range.1 hx)]; decide)]
theorem leastP_some {p : Nat → Bool} {N k : Nat} (hk : k < N) (h : ∀ j, j < k → p j = false) (hp : p k = true) : leastP p N = (((k : Nat) : Int), true) := by
  unfold leastP
  rw [show (List.range N).find? p = some k from by
    rw [List.find?_range_eq_some]
    exact ⟨hp, List.mem_range.2 hk, fun j hj => by rw [h j hj]; rfl⟩]
def goodB (tests : List Int) (d a k : Nat) : Bool := fewB d k && (answersOf tests k == a)
def poolDecode (items : Int) (tests : List Int) (d answers : Int) : Int × Bool :=
  if poolIn items tests && inB 0 d 3 && setB answers tests.length then leastP (goodB tests d.toNat answers.toNat) (2 ^ items.toNat) else (0, false)
theorem answersOf_small {n : Nat} {tests : List Int} (h : IsPool n tests) (m : Nat) : answersOf tests m ≤ 65535 := answersTo_small h.len
theorem few_iff {d k : Nat} : fewB d k = true ↔ cnt k ≤ d := by simp [fewB]

end Go.Proofs.Ytpmammklklkheaa

/- Whether a pool tells wrong items: the reference and the program compute the same plain function. The condition: the list has at most 2^20 numbers. -/
namespace Go.Proofs.Ytpmammklklkheaa
open Go.RowKit
open BigFrame
attribute [local go_sem] Oper.semAt_some

/-- Whether one of the first k sets has these answers. -/
def seenTo (tests : List Int) (d k a : Nat) : Bool := (List.range k).any fun j => fewB d j && (answersOf tests j == a)
def tellsTo (tests : List Int) (d N : Nat) : Bool := (List.range N).all fun k => !(fewB d k && seenTo tests d k (answersOf tests k))
def poolTells (items : Int) (tests : List Int) (d : Int) : Bool := poolIn items tests && inB 0 d 3 && tellsTo tests d.toNat (2 ^ items.toNat)
theorem seenTo_skip {tests : List Int} {d k : Nat} (h : fewB d k = false) (a : Nat) : seenTo tests d (k + 1) a = seenTo tests d k a := by
  unfold seenTo
  rw [List.range_succ, List.any_append]
  simp [h]
theorem seenTo_next {tests : List Int} {d k : Nat} (h : fewB d k = true) (a : Nat) : seenTo tests d (k + 1) a = (seenTo tests d k a || (answersOf tests k == a)) := by
  unfold seenTo
  rw [List.range_succ, List.any_append]
  simp [h]
theorem tellsTo_false {tests : List Int} {d N k : Nat} (hk : k < N) (h : fewB d k = true) (hs : seenTo tests d k (answersOf tests k) = true) : tellsTo tests d N = false := by
  unfold tellsTo
  rw [List.all_eq_false]
  exact ⟨k, List.mem_range.2 hk, by rw [h, hs]; decide⟩
theorem tellsTo_true {tests : List Int} {d N : Nat} (h : ∀ k, k < N → fewB d k = true → seenTo tests d k (answersOf tests k) = false) : tellsTo tests d N = true := by
  unfold tellsTo
  rw [List.all_eq_true]
  intro k hk
  cases hf : fewB d k
  · rfl
  · rw [h k (List.mem_range.1 hk) hf]; rfl
theorem few_iff' {d k : Nat} : fewB d k = true ↔ cnt k ≤ d := by simp [fewB]
theorem info_bool : (Try.prog.info? 4).map (fun i => (i.zero, i.size, i.bytes)) = some (some (.bool false), 1, 1) := by kernel_rfl

theorem IntMap.book {B : Nat} {w w' : World} {b : Nat} {f : Int → Option Value} (h : IntMap w b f) (hB : Book B w w') (hb : b < B) : IntMap w' b f := by
  obtain ⟨es, clock, hh, hf⟩ := h
  exact ⟨es, clock, hB.block _ _ hh (.inl hb), hf⟩
/-- The map holds true just at the answers that came. -/
def SeenMap (w : World) (b : Nat) (tests : List Int) (d k : Nat) : Prop := ∃ f, IntMap w b f ∧ ∀ a : Nat, f (a : Int) = if seenTo tests d k a then some (.bool true) else none

set_option maxRecDepth 100000 in
set_option maxHeartbeats 2000000 in
theorem poolTellsI_c (items : Int) (v : Value) (xs : List Int) (d : Int) (w : World) (hv : Rd w v xs) (hm : xs.length ≤ 1048576) :
    Calls Try.prog 42 #[.int .i64 items, v, .int .i64 d] w fun e w' => e = .returned (.bool (poolTells items xs d)) ∧ Ext w w' := by
  obtain ⟨a, c, rfl⟩ := hv.form
  obtain ⟨W, hW⟩ : ∃ W, W = w.alloc (.cells #[.bool false] 4) := ⟨_, rfl⟩
  have hx : Ext w W := by rw [hW]; exact (Ext.refl _).alloc _
  have v0 : Var W w.heap.size (.bool false) := by rw [hW]; exact Var.new _ _ _
  have HV := Lib.hid (hv.ext hx); clear hv
  have HM := Lib.hid hm
  have HW := Lib.hid hW
  have HX0 := Lib.hid hx
  have V0 := Lib.hid v0
  have hmk : ∀ w : World, (Instr.makeMap 68 none).run Try.prog w = .ok (.map (some w.heap.size)) (w.alloc (.map #[] 0)) := fun w => rfl
  clear hW hx v0
  refine calls_marks Try.func42 rfl ?_
  simp only [Try.ntmps42, List.size_toArray, List.length_cons, List.length_nil, Nat.reduceAdd, Nat.reduceSub, Array.replicate_succ, Array.replicate_zero, List.push_toArray, List.append_toArray, List.nil_append, List.cons_append]
  cases h0 : poolIn items xs
  · rw [show poolTells items xs d = false from by unfold poolTells; rw [h0]; rfl]
    go_wp2_with fail
    rw [← HW.out]
    refine (poolInI_c _ _ _ _ HV.out HM.out).mono ?_
    rintro e w1 ⟨rfl, x1⟩
    have X1 := Lib.hid x1; clear x1
    obtain ⟨c0, f0, -⟩ := V0.out.ext X1.out
    go_wp2
    exact leave_bool rfl rfl ((V0.out.ext X1.out).set _).cell (Marks.nil _ _) ((HX0.out.trans X1.out).setCell (Nat.le_refl _) _) rfl
  · cases hd : inB 0 d 3
    · rw [show poolTells items xs d = false from by unfold poolTells; rw [h0, hd]; rfl]
      go_wp2_with fail
      rw [← HW.out]
      refine (poolInI_c _ _ _ _ HV.out HM.out).mono ?_
      rintro e w1 ⟨rfl, x1⟩
      have X1 := Lib.hid x1; clear x1
      obtain ⟨c0, f0, -⟩ := V0.out.ext X1.out
      go_wp2_with (go_at_call 83; refine (isFew_c _ _).mono ?_; rintro e w' ⟨rfl, rfl⟩)
      exact leave_bool rfl rfl ((V0.out.ext X1.out).set _).cell (Marks.nil _ _) ((HX0.out.trans X1.out).setCell (Nat.le_refl _) _) rfl
    · obtain ⟨n, rfl, hP⟩ := poolIn_iff.1 h0
      have hl := hP.len
      have hn := hP.le
      have HP := Lib.hid hP; clear hP
      obtain ⟨D, rfl⟩ : ∃ D : Nat, d = D := ⟨d.toNat, by have := inB_iff.1 hd; omega⟩
      rw [show poolTells n xs D = tellsTo xs D (2 ^ n) from by unfold poolTells; rw [h0, hd]; rfl]
      go_wp2_with fail
      rw [← HW.out]
      refine (poolInI_c _ _ _ _ HV.out HM.out).mono ?_
      rintro e w1 ⟨rfl, x1⟩
      have X1 := Lib.hid x1; clear x1
      go_wp2_with (go_at_call 83; refine (isFew_c _ _).mono ?_; rintro e w' ⟨rfl, rfl⟩)
      clear hmk
      obtain ⟨Wa, hWa⟩ : ∃ V, V = w1.alloc (.cells #[.int .i64 (n : Int), .slice a xs.length c] 67) := ⟨_, rfl⟩
      rw [← hWa]
      have hsa : Wa.heap.size = w1.heap.size + 1 := by rw [hWa]; simp
      have hpa := two_cells (by rw [hWa]; exact World.alloc_heap_new w1 _ : Wa.heap[w1.heap.size]? = some (.cells #[.int .i64 (n : Int), .slice a xs.length c] 67 (0, 0)))
      have hxa : Ext W Wa := by rw [hWa]; exact X1.out.alloc _
      obtain ⟨Wb, hWb⟩ : ∃ V, V = Wa.alloc (.map #[] 0) := ⟨_, rfl⟩
      rw [← hWb]
      have hmb : IntMap Wb (w1.heap.size + 1) (fun _ => none) := by rw [hWb, ← hsa]; exact IntMap.empty Wa
      have hsb : Wb.heap.size = w1.heap.size + 1 + 1 := by rw [hWb, World.size_alloc, hsa]
      have hxb : Ext Wa Wb := by rw [hWb]; exact (Ext.refl _).alloc _
      obtain ⟨Wc, hWc⟩ : ∃ V, V = Wb.alloc (.cells #[.map (some (w1.heap.size + 1))] 68) := ⟨_, rfl⟩
      rw [← hWc]
      have hvc : Var Wc (w1.heap.size + 1 + 1) (.map (some (w1.heap.size + 1))) := by rw [hWc, ← hsb]; exact Var.new _ _ _
      have hsc : Wc.heap.size = w1.heap.size + 1 + 1 + 1 := by rw [hWc, World.size_alloc, hsb]
      have hxc : Ext Wb Wc := by rw [hWc]; exact (Ext.refl _).alloc _
      refine (few_c _ _ _ _ _ _).mono ?_
      rintro e w' ⟨rfl, rfl⟩
      obtain ⟨W2, hW2⟩ : ∃ W2, W2 = (Wc.alloc (.cells #[.int .i64 (n : Int), .slice a xs.length c] 67)).alloc (.cells #[.int .i64 (D : Int)] 3) := ⟨_, rfl⟩
      rw [← hW2]
      have hx2 : Ext Wc W2 := by rw [hW2]; exact ((Ext.refl _).alloc _).alloc _
      have hq1 : W2.cell? ⟨Wc.heap.size, 0, none⟩ = some (.int .i64 n) := by
        rw [hW2]
        have h := (two_cells (World.alloc_heap_new Wc (.cells #[.int .i64 (n : Int), .slice a xs.length c] 67))).1
        exact (((Ext.refl _).alloc _).cell (by simp)).trans h
      have hq2 : W2.cell? ⟨Wc.heap.size + 1, 0, none⟩ = some (.int .i64 D) := by
        rw [hW2]
        have h := (Var.new (Wc.alloc (.cells #[.int .i64 (n : Int), .slice a xs.length c] 67)) (.int .i64 D) 3).cell
        rw [World.size_alloc] at h; exact h
      have hs2 : W2.heap.size = Wc.heap.size + 2 := by rw [hW2]; simp
      have HXA := Lib.hid hxa; have HPA := Lib.hid hpa; have HX2 := Lib.hid (hxb.trans (hxc.trans hx2))
      have HMB := Lib.hid (hmb.ext (hxc.trans hx2)); have HVC := Lib.hid (hvc.ext hx2); have HQ1 := Lib.hid hq1; have HQ2 := Lib.hid hq2
      have l1 : w1.heap.size < Wa.heap.size := by omega
      have l2 : Wa.heap.size ≤ w1.heap.size + 1 := by omega
      have l3 : w1.heap.size + 1 + 1 + 1 ≤ Wc.heap.size := by omega
      have l4 : Wc.heap.size + 2 ≤ W2.heap.size := by omega
      clear hWa hWb hWc hW2 hsa hsb hsc hs2 hpa hxa hmb hxb hvc hxc hx2 hq1 hq2
      go_wp2
      refine wp_range (few_iter Wc.heap.size (Wc.heap.size + 1) n D hn) rfl few_enters rfl
        (fun k W' => (∀ j, j < k → fewB D j = true → seenTo xs D j (answersOf xs j) = false) ∧ SeenMap W' (w1.heap.size + 1) xs D k ∧ Ext Wa W' ∧ W2.heap.size ≤ W'.heap.size ∧
          W'.cell? ⟨w1.heap.size + 1 + 1, 0, none⟩ = some (.map (some (w1.heap.size + 1))) ∧ W'.cell? ⟨Wc.heap.size, 0, none⟩ = some (.int .i64 n) ∧ W'.cell? ⟨Wc.heap.size + 1, 0, none⟩ = some (.int .i64 D))
        (fun cc W' => cc = .ret ∧ tellsTo xs D (2 ^ n) = false ∧ W'.cell? ⟨w.heap.size, 0, none⟩ = some (.bool false) ∧ Ext w W')
        ?hI ?hIx ?hKi ?h0 ?hskip ?hround ?hdone ?hstop
      case hI =>
        rintro j W' W'' hB ⟨h1, ⟨f, h2, h2'⟩, h3, h4, h5, h6, h7⟩
        exact ⟨h1, ⟨f, h2.book hB (by omega), h2'⟩, h3.book (by omega) hB, Nat.le_trans h4 hB.size, hB.cell h5, hB.cell h6, hB.cell h7⟩
      case hIx =>
        rintro cc W' W'' hB ⟨h1, h2, h3, h4⟩
        exact ⟨h1, h2, hB.cell h3, h4.book (((HX0.out.trans HXA.out).trans HX2.out).size) hB⟩
      case hKi =>
        rintro j W' ⟨_, _, _, h4, _, h6, h7⟩
        exact ⟨h6, h7, by omega, by omega⟩
      case h0 => exact ⟨fun j hj => absurd hj (Nat.not_lt_zero j), ⟨_, HMB.out, fun a => by simp [seenTo]⟩, HX2.out, Nat.le_refl _, HVC.out.cell, HQ1.out, HQ2.out⟩
      case hskip =>
        rintro j W' hj hp ⟨h1, ⟨f, h2, h2'⟩, h3⟩
        exact ⟨fun i hi hf => by
          by_cases h : i = j
          · subst h; rw [hp] at hf; cases hf
          · exact h1 i (by omega) hf, ⟨f, h2, fun a => by rw [seenTo_skip hp]; exact h2' a⟩, h3⟩
      case hround =>
        rintro l j W' hj hp ⟨h1, ⟨f, h2, h2'⟩, h3, h4, h5, h6, h7⟩ hsz
        have H1 := Lib.hid h1; have H2 := Lib.hid h2; have H2' := Lib.hid h2'; have H3 := Lib.hid h3; have H5 := Lib.hid h5; have H6 := Lib.hid h6; have H7 := Lib.hid h7; have HP1 := Lib.hid hp
        clear h1 h2 h2' h3 h5 h6 h7 hp
        have hj4 : j ≤ 4095 := by have := pow_le_12 hn; omega
        gi_wp2
        refine ⟨KeepsFrom.refl _ _, fun W'' hB => ?_⟩
        have hE : Hid (Ext Wa W'') := H3.out.book (by omega) hB
        have hM := Lib.hid (H2.out.book hB (by omega))
        have hc5 := Lib.hid (hB.cell H5.out); have hc6 := Lib.hid (hB.cell H6.out); have hc7 := Lib.hid (hB.cell H7.out)
        have h4' : W2.heap.size ≤ W''.heap.size := Nat.le_trans h4 hB.size
        clear hB H2 H3 H5 H6 H7 h4
        have k1 : W''.cell? ⟨w1.heap.size, 0, none⟩ = some (.int .i64 n) := (hE.out.cell l1).trans HPA.out.1
        have k2 : W''.cell? ⟨w1.heap.size, 1, none⟩ = some (.slice a xs.length c) := (hE.out.cell l1).trans HPA.out.2
        gi_wp2_with fail
        refine (callsFW (answers_c n n (.slice a xs.length c) xs j W'' (HV.out.ext (HXA.out.trans hE.out)) HP.out hj4)).mono ?_
        rintro e W3 ⟨rfl, x3⟩
        have E3 := Lib.hid (hE.out.trans x3); have M3 := Lib.hid (hM.out.ext x3)
        have d5 := (x3.cell (by omega)).trans hc5.out
        have d6 := Lib.hid ((x3.cell (by omega)).trans hc6.out); have d7 := Lib.hid ((x3.cell (by omega)).trans hc7.out); have D5 := Lib.hid d5
        have h4'' : W2.heap.size ≤ W3.heap.size := Nat.le_trans h4' x3.size
        have HK3 : Hid (KeepsFrom W2.heap.size W'' W3) := KeepsFrom.of_ext x3
        clear k1 k2 x3 hE hM hc5 hc6 hc7 h4'
        obtain ⟨A, hA⟩ : ∃ A, A = answersOf xs j := ⟨_, rfl⟩
        rw [← hA]
        have HA := Lib.hid hA; clear hA
        have hl := M3.out.lookup Try.underlying68 (show (zeroValue 4).run Try.prog W3 = .ok (.bool false) W3 from rfl) A
        rw [H2'.out A] at hl
        cases hs : seenTo xs D j A
        · rw [hs, if_neg (by decide)] at hl
          have HS := Lib.hid hs; clear hs
          obtain ⟨W4, hu, m4, hx4, hs4, ho4⟩ := M3.out.update Try.underlying68 A (.bool true)
          have M4 := Lib.hid m4; have HX4 := Lib.hid hx4; have HS4 := Lib.hid hs4; have HO4 := Lib.hid ho4
          clear m4 hx4 hs4 ho4
          gi_wp2
          have hs4 := HS4.out
          refine ⟨HK3.out.trans ⟨by omega, fun k o hk ho _ => (HO4.out k (by omega)).trans ho⟩, fun i hi hf => ?_, ⟨_, M4.out, fun a => ?_⟩, HX4.out _ E3.out (by omega), by omega, ?_, ?_, ?_⟩
          · by_cases h : i = j
            · subst h; rw [← HA.out]; exact HS.out
            · exact H1.out i (by omega) hf
          · unfold put
            rw [seenTo_next HP1.out, ← HA.out]
            by_cases h : a = A
            · subst h; simp
            · rw [if_neg (by omega), H2'.out a, beq_eq_false_iff_ne.2 (fun e => h e.symm), Bool.or_false]
          · rw [← D5.out]; unfold World.cell?; rw [HO4.out (w1.heap.size + 1 + 1) (by omega)]
          · rw [← d6.out]; unfold World.cell?; rw [HO4.out Wc.heap.size (by omega)]
          · rw [← d7.out]; unfold World.cell?; rw [HO4.out (Wc.heap.size + 1) (by omega)]
        · rw [hs, if_pos rfl] at hl
          have HS := Lib.hid hs; clear hs
          have X3 := Lib.hid (HXA.out.trans E3.out)
          obtain ⟨c0, f0, -⟩ := V0.out.ext X3.out
          gi_wp2
          exact ⟨HK3.out.trans (KeepsFrom.setCell' _ _ _ _), rfl, tellsTo_false hj HP1.out (by rw [← HA.out]; exact HS.out), ((V0.out.ext X3.out).set _).cell, (HX0.out.trans X3.out).setCell (Nat.le_refl _) _⟩
      case hdone =>
        rintro D' W' hD ⟨h1, h2, h3, h4, h5⟩ hDD
        have H1 := Lib.hid h1; have X3 := Lib.hid (HXA.out.trans h3); have HD := Lib.hid hDD; clear h1 h2 h3 h5 hDD
        obtain ⟨c0, f0, -⟩ := V0.out.ext X3.out
        go_wp2
        exact leave_bool rfl rfl ((V0.out.ext X3.out).set _).cell (((Marks.nil _ _).cons (n := W2.heap.size) (fun k hk => by obtain ⟨_, hk, _⟩ := hk; cases hk) hD (Nat.le_trans (((HX0.out.trans HXA.out).trans HX2.out).size) hD) HD.out).setCell _ _) ((HX0.out.trans X3.out).setCell (Nat.le_refl _) _) (tellsTo_true H1.out).symm
      case hstop =>
        rintro D' cc W' hD ⟨rfl, h2, h3, h4⟩ hDD
        go_wp2
        exact leave_bool rfl rfl h3 ((Marks.nil _ _).cons (n := W2.heap.size) (fun k hk => by obtain ⟨_, hk, _⟩ := hk; cases hk) hD (Nat.le_trans (((HX0.out.trans HXA.out).trans HX2.out).size) hD) hDD) h4 h2.symm
end Go.Proofs.Ytpmammklklkheaa
