/- The reference's graph of edges, of a kind. The condition: at most 100 edges of nodes below n <= 12. -/
import Derived.Test.YtpmammklklkheaaEdges
namespace Go.Proofs.Ytpmammklklkheaa
open Go.RowKit
open BigFrame

set_option maxRecDepth 100000 in
set_option maxHeartbeats 4000000 in
theorem graphOfS_c (base n : Nat) (v : Value) (es : List Value) (w : World) (hE : Edges w base n v es) (hn1 : 1 ≤ n) (hn : n ≤ 12) (hl : es.length ≤ 200) :
    Calls Try.prog 86 #[.int .i64 n, v] w fun e w' => ∃ (g c : Nat) (gs : List Int), e = .returned (.tuple #[.slice (some ⟨g, 0, none⟩) n c, .bool true]) ∧ gs.length = n ∧ Own w' w.heap.size (.slice (some ⟨g, 0, none⟩) n c) gs ∧ Ext w w' := by
  obtain ⟨i0, hi, hz0, hz1, hz2⟩ := info_parts info_int
  have hin : inB 1 (n : Int) 12 = true := inB_iff.2 ⟨by omega, by omega⟩
  have HE := Lib.hid hE
  obtain ⟨a, lc, hv⟩ : ∃ a lc, v = .slice a es.length lc := by
    rcases hE.get with ⟨h1, h2⟩ | ⟨g, c, h1, -⟩
    · exact ⟨none, 0, by rw [h1, h2]; rfl⟩
    · exact ⟨_, c, h1⟩
  subst hv
  obtain ⟨L, hL⟩ : ∃ L, L = es.length := ⟨_, rfl⟩
  rw [← hL] at hl
  have HL := Lib.hid hL
  have HE' : Hid (Edges w base n (.slice a L lc) es) := by rw [hL]; exact hE
  rw [← hL]
  clear hE hL HE
  go_enter Try.func86, Try.ntmps86
  go_wp2_with (first
    | (go_at_call 65; refine (l6In_c _ _ _ _).mono ?_; rintro e w' ⟨rfl, rfl⟩)
    | (at_make; refine wpList_make_full _ rfl _ _ 23 rfl w.heap.size 3 i0 (.int .i64 0) 1 Try.underlying23 hi hz0 hz1 _ _ _ _ n rfl rfl rfl rfl (by rw [hz2]; omega) (by unfold maxLen; omega) (Nat.le_refl _) ?_; intro w1 hown hgr))
  have hrow : Own w1 w.heap.size (.slice (some ⟨w.heap.size, 0, none⟩) n n) (List.replicate n 0) := by
    have := hown
    simp only [Value.cells, Nat.mul_one, toList_madeCells_one] at this
    unfold Own; simpa using this
  have hx1 : Ext w w1 := (Ext.refl w).grown hgr (fun _ h => by cases h)
  have HR := Lib.hid hrow; have HX := Lib.hid hx1
  clear hown hgr hi hz0 hz1 hz2 hrow hx1
  go_loopw [7] (fun i wr => ∃ (k : Nat) (gs : List Int), k ≤ L ∧ i = .int .i64 k ∧ Hid (gs.length = n) ∧ Hid (Own wr w.heap.size (.slice (some ⟨w.heap.size, 0, none⟩) n n) gs) ∧ Hid (Ext w wr)) (fun i _ => L - (intOf i).toNat)
  case atStart => exact ⟨0, _, Nat.zero_le _, rfl, by unfold Hid; simp, HR, HX⟩
  case round =>
    clear HR HX
    obtain ⟨k, gs, hk, rfl, HGL, HR, HX⟩ := hrel
    by_cases hlt : k < L
    · obtain ⟨bv, rfl, hbv, hcv⟩ : ∃ bv, a = some ⟨bv, 0, none⟩ ∧ bv < w.heap.size ∧ w.cell? ⟨bv, k, none⟩ = some (es.getD k undef) := by
        rcases HE'.out.get with ⟨h1, h2⟩ | ⟨g, c, h1, h2, h3, h4⟩
        · rw [HL.out, h2] at hlt; cases hlt
        · simp only [Value.slice.injEq] at h1
          exact ⟨g, h1.1, h3, h4 k (by rw [← HL.out]; exact hlt)⟩
      obtain ⟨ge, x, y, e1, -, e3, e4, e5, e6, e7, e8, -⟩ := HE'.out.2 (es.getD k undef) (by rw [List.getD_eq_getElem?_getD, List.getElem?_eq_getElem (show k < es.length by rw [← HL.out]; exact hlt)]; exact List.getElem_mem _)
      rw [e1] at hcv
      have c1 := (HX.out.cell hbv).trans hcv
      have c2 := (HX.out.cell e3).trans e7
      have c3 := (HX.out.cell e3).trans e8
      have hne : ((x : Int) == (y : Int)) = false := by simp; omega
      obtain ⟨n1, hn1'⟩ : ∃ n1 : Nat, (n : Int) - 1 = (n1 : Int) := ⟨n - 1, by omega⟩
      have i1 : inB 0 (x : Int) (n1 : Int) = true := inB_iff.2 ⟨by omega, by omega⟩
      have i2 : inB 0 (y : Int) (n1 : Int) = true := inB_iff.2 ⟨by omega, by omega⟩
      obtain ⟨px, hpx, hpx1, hpx2, hpx3⟩ := pow_var x (by omega)
      obtain ⟨py, hpy, hpy1, hpy2, hpy3⟩ := pow_var y (by omega)
      have ex : min x 64 = x := by omega
      have ey : min y 64 = y := by omega
      obtain ⟨-, -, -, hbr, hcl, hfr⟩ := HR.out.at
      have c4 := hcl x (by omega)
      have f4 := hfr x
      have f5 := hfr y
      have HO := Lib.hid fun (z : Int) => HR.out.set x z
      have HXS := Lib.hid fun (z : Value) => HX.out.setCell (p := ⟨w.heap.size, x, none⟩) (Nat.le_refl _) z
      have HNE := Lib.hid e6
      clear hcl hfr e1 hpx hpy hcv e7 e8 e6
      go_wp2_with (go_at_call 65; refine (l6In_c _ _ _ _).mono ?_; rintro e w' ⟨rfl, rfl⟩)
      go_region
      generalize bits BinOp.or IntKind.i64 (gs[x]?.getD 0) (py : Int) = z
      obtain ⟨W2, hW2⟩ : ∃ W2, W2 = (wr.setCell { block := w.heap.size, off := x } (Value.int IntKind.i64 z)).drew := ⟨_, rfl⟩
      rw [← hW2]
      have HO2 : Hid (Own W2 w.heap.size (.slice (some ⟨w.heap.size, 0, none⟩) n n) (gs.set x z)) := by rw [hW2]; exact (HO.out z).drew
      have HX2 : Hid (Ext w W2) := by rw [hW2]; exact (HXS.out _).drew
      have HGL2 : Hid ((gs.set x z).length = n) := by unfold Hid; rw [List.length_set]; exact HGL.out
      clear hW2 HO HXS f5 f4 c4 c1 c2 c3 hbr HGL HR HX
      generalize gs.set x z = gs2 at HO2 HGL2
      obtain ⟨-, -, -, hbr, hcl, hfr⟩ := HO2.out.at
      have c5 := hcl y (by omega)
      have f6 := hfr y
      have HO3 := Lib.hid fun (z : Int) => HO2.out.set y z
      have HXS := Lib.hid fun (z : Value) => HX2.out.setCell (p := ⟨w.heap.size, y, none⟩) (Nat.le_refl _) z
      clear hcl hfr
      go_wp2
      go_region
      generalize bits BinOp.or IntKind.i64 (gs2[y]?.getD 0) (px : Int) = z2
      go_wp2
      go_roundw
      case rel => exact ⟨k + 1, gs2.set y z2, by omega, by go_num, by unfold Hid; rw [List.length_set]; exact HGL2.out, (HO3.out z2).drew, (HXS.out _).drew⟩
      case measure => simp [intOf]; omega
    · go_wp2
      go_ret2
      exact ⟨_, _, gs, rfl, HGL.out, HR.out, HX.out⟩

end Go.Proofs.Ytpmammklklkheaa
