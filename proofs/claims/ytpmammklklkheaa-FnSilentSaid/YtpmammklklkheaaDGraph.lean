/- The draw of a graph. The condition: at most 900000 numbers have been drawn. -/
import Derived.Test.YtpmammklklkheaaKind
namespace Go.Proofs.Ytpmammklklkheaa
open Go.RowKit
open BigFrame

set_option maxRecDepth 100000 in
set_option maxHeartbeats 8000000 in
theorem l91Graph_c (w0 : World) (b m most : Nat) (w : World) (h : RdOk w0 b m w) (hm : m ≤ 900000) (hm1 : 1 ≤ most) (hm2 : most ≤ 12) :
    Calls Try.prog 92 #[.pointer (some ⟨b, 0, none⟩), .int .i64 most] w fun e w' => ∃ (v' : Value) (gs : List Int), e = .returned v' ∧ 1 ≤ gs.length ∧ gs.length ≤ most ∧ Own w' (b + 1) v' gs ∧ RdOk w0 b (m + 200) w' := by
  have HR := Lib.hid h
  clear h
  go_enter Try.func92, Try.ntmps92
  go_wp2_with fail
  refine (pick_c w0 b m most _ HR.out (by omega) (by omega) (by omega)).mono ?_
  rintro e w1 ⟨x0, rfl, hx0, r1, -⟩
  have R1 := Lib.hid r1
  clear r1 HR
  obtain ⟨n, hn⟩ : ∃ n : Nat, (1 : Int) + (x0 : Int) = (n : Int) := ⟨x0 + 1, by omega⟩
  have hn1 : 1 ≤ n := by omega
  have hn6 : n ≤ most := by omega
  go_wp2_with fail
  refine (pick_c w0 b (m + 1) 4 _ R1.out (by omega) (by omega) (by omega)).mono ?_
  rintro e w2 ⟨x1, rfl, hx1, r2, -⟩
  have R2 := Lib.hid r2
  clear r2 R1 hx0 hn
  obtain ⟨b1, hb1⟩ : ∃ t, ((x1 : Int) == 0) = t := ⟨_, rfl⟩
  cases b1
  · obtain ⟨w3, hw3⟩ : ∃ w3, w3 = w2 := ⟨_, rfl⟩
    have R3 : Hid (RdOk w0 b (m + 3) w3) := by rw [hw3]; exact R2.out.more (by omega)
    rw [← hw3]
    clear hw3 R2
    obtain ⟨W, hW⟩ : ∃ W, W = w3.alloc (.cells #[] 23) := ⟨_, rfl⟩
    have he0 : Edges W (b + 1) n (.slice (some ⟨w3.heap.size, 0, none⟩) 0 0) [] := by rw [hW]; exact (Edges.lit w3 n).mono (by have := R3.out.lt; omega)
    have R4 : Hid (RdOk w0 b (m + 3) W) := by rw [hW]; exact R3.out.next ((Ext.refl _).alloc _)
    have HW := Lib.hid hW; have E4 := Lib.hid he0
    clear hW he0 R3
    go_wp2_with fail
    rw [← HW.out]
    refine (pick_c w0 b (m + 3) 3 _ R4.out (by omega) (by omega) (by omega)).mono ?_
    rintro e w5 ⟨x2, rfl, hx2, r5, u5⟩
    have R5 := Lib.hid r5; have E5 := Lib.hid (E4.out.upd (show b < b + 1 by omega) u5)
    clear r5 u5 R4 E4 HW
    obtain ⟨tree, htree⟩ : ∃ t, ((x2 : Int) == 0) = t := ⟨_, rfl⟩
    go_wp2
    go_loopw [8, 10] (fun v i wr => ∃ (k : Nat) (es : List Value), 1 ≤ k ∧ k ≤ n ∧ i = .int .i64 k ∧ Hid (es.length ≤ 12 * k) ∧ Hid (Edges wr (b + 1) n v es) ∧ Hid (RdOk w0 b (m + 4 + 13 * k) wr)) (fun _ i _ => n - (intOf i).toNat)
    case atStart => exact ⟨1, [], by omega, by omega, rfl, by unfold Hid; simp, E5, R5.out.more (by omega)⟩
    case round =>
      clear E5 R5
      obtain ⟨i, es, hi1, hi, rfl, HL, HE, HR⟩ := hrel
      by_cases hlt : i < n
      · cases tree
        · go_wp2
          go_loopw [8, 11] (fun v q wr => ∃ (k : Nat) (es : List Value), k ≤ i ∧ q = .int .i64 k ∧ Hid (es.length ≤ 12 * i + k) ∧ Hid (Edges wr (b + 1) n v es) ∧ Hid (RdOk w0 b (m + 4 + 13 * i + k) wr)) (fun _ q _ => i - (intOf q).toNat)
          case atStart => exact ⟨0, es, by omega, rfl, HL, HE, HR⟩
          case round =>
            clear HE HR HL
            obtain ⟨k, es, hk, rfl, HL, HE, HR⟩ := hrel
            by_cases hlk : k < i
            · go_wp2_with fail
              refine (pick_c w0 b (m + 4 + 13 * i + k) 3 _ HR.out (by omega) (by omega) (by omega)).mono ?_
              rintro e w6 ⟨x3, rfl, hx3, r6, u6⟩
              have R6 := Lib.hid r6; have E6 := Lib.hid (HE.out.upd (show b < b + 1 by omega) u6)
              have hb6 := r6.lt
              have hl6 := HL.out
              clear r6 u6 HE HR
              obtain ⟨b3, hb3⟩ : ∃ t, ((x3 : Int) == 0) = t := ⟨_, rfl⟩
              cases b3
              · go_wp2
                go_roundw
                case rel => exact ⟨k + 1, es, by omega, by go_num, by unfold Hid; omega, E6, R6.out.more (by omega)⟩
                case measure => simp [intOf]; omega
              · go_wp2_with (at_builtin; refine wpList_append_edge rfl _ _ rfl (b + 1) n _ _ rfl ((E6.out.ext ((Ext.refl _).alloc _)).ext ((Ext.refl _).alloc _)) (w6.heap.size + 1) (.slice (some ⟨w6.heap.size, 0, none⟩) 2 2) rfl ((Edge.new E6.out i k (by omega) (by omega) (by omega) (by omega) _).ext ((Ext.refl _).alloc _)) rfl (cell_top _ _ _ _) (by omega) (by simp; omega) ?_; intro v' w8 he8 hb8; have E8 := Lib.hid he8; have R8 := Lib.hid ((R6.out.next (((Ext.refl _).alloc _).alloc _)).below hb8); clear he8 hb8)
                go_roundw
                case rel => exact ⟨k + 1, _, by omega, by go_num, by unfold Hid; rw [List.length_append]; show _ + 1 ≤ _; omega, E8, R8.out.more (by omega)⟩
                case measure => simp [intOf]; omega
            · obtain rfl : k = i := by omega
              go_wp2
              go_roundw
              case rel => exact ⟨k + 1, es, by omega, by omega, by go_num, by unfold Hid; have := HL.out; omega, HE, HR.out.more (by omega)⟩
              case measure => simp [intOf]; omega
        · go_wp2_with fail
          refine (pick_c w0 b (m + 4 + 13 * i) i _ HR.out (by omega) (by omega) (by omega)).mono ?_
          rintro e w6 ⟨x3, rfl, hx3, r6, u6⟩
          have R6 := Lib.hid r6; have E6 := Lib.hid (HE.out.upd (show b < b + 1 by omega) u6)
          have hb6 := r6.lt
          have hl6 := HL.out
          clear r6 u6 HE HR
          go_wp2_with (at_builtin; refine wpList_append_edge rfl _ _ rfl (b + 1) n _ _ rfl ((E6.out.ext ((Ext.refl _).alloc _)).ext ((Ext.refl _).alloc _)) (w6.heap.size + 1) (.slice (some ⟨w6.heap.size, 0, none⟩) 2 2) rfl ((Edge.new E6.out i x3 (by omega) (by omega) (by omega) (by omega) _).ext ((Ext.refl _).alloc _)) rfl (cell_top _ _ _ _) (by omega) (by simp; omega) ?_; intro v' w8 he8 hb8; have E8 := Lib.hid he8; have R8 := Lib.hid ((R6.out.next (((Ext.refl _).alloc _).alloc _)).below hb8); clear he8 hb8)
          go_roundw
          case rel => exact ⟨i + 1, _, by omega, by omega, by go_num, by unfold Hid; rw [List.length_append]; show _ + 1 ≤ _; omega, E8, R8.out.more (by omega)⟩
          case measure => simp [intOf]; omega
      · obtain rfl : i = n := by omega
        have hl : es.length ≤ 200 := by have := HL.out; omega
        go_wp2_with fail
        refine (graphOfS_c (b + 1) i _ es wr HE.out (by omega) (by omega) hl).mono ?_
        rintro e w6 ⟨g, c, gs, rfl, h1, h2, h3⟩
        have O6 := Lib.hid (h2.mono (show b + 1 ≤ wr.heap.size by have := HR.out.lt; omega)); have R6 := Lib.hid (HR.out.next h3)
        have H1 := Lib.hid h1
        clear h1 h2 h3 HE HR HL
        go_wp2_with fail
        refine (pick_c w0 b (m + 4 + 13 * i) 30 _ R6.out (by omega) (by omega) (by omega)).mono ?_
        rintro e w7 ⟨x4, rfl, hx4, r7, u7⟩
        have R7 := Lib.hid r7; have O7 := Lib.hid (O6.out.upd (show b < b + 1 by omega) u7)
        clear r7 u7 R6 O6
        obtain ⟨b4, hb4⟩ : ∃ t, ((x4 : Int) == 0) = t := ⟨_, rfl⟩
        cases b4
        · go_wp2
          go_ret
          exact ⟨_, gs, rfl, by rw [H1.out]; omega, by rw [H1.out]; omega, O7.out, R7.out.more (by omega)⟩
        · obtain ⟨-, -, hgb, hgl, hcl, hfr⟩ := O7.out.at
          have c0 := hcl 0 (by omega)
          have f0 := hfr 0
          have OS := Lib.hid fun z => O7.out.set 0 z
          have RS := Lib.hid fun (z : Value) => R7.out.below ((Below.refl (b + 1) w7).setCell (p := ⟨g, 0, none⟩) hgb z)
          clear hcl hfr
          go_wp2
          go_ret
          exact ⟨_, _, rfl, by rw [List.length_set, H1.out]; omega, by rw [List.length_set, H1.out]; omega, OS.out _, (RS.out _).more (by omega)⟩
  · go_wp2_with fail
    refine (pick_c w0 b (m + 1 + 1) 4 _ R2.out (by omega) (by omega) (by omega)).mono ?_
    rintro e w4 ⟨x5, rfl, hx5, r4, -⟩
    have R4' := Lib.hid r4
    clear r4 R2
    go_wp2_with fail
    refine (graphKindS_c x5 n _ hx5 (by omega) (by omega)).mono ?_
    rintro e w3 (⟨v, rfl, hx⟩ | ⟨g, c, gs, rfl, h1, h2, h3⟩)
    · have R3 : Hid (RdOk w0 b (m + 3) w3) := (R4'.out.next hx).more (by omega)
      clear R4' hx
      obtain ⟨W, hW⟩ : ∃ W, W = w3.alloc (.cells #[] 23) := ⟨_, rfl⟩
      have he0 : Edges W (b + 1) n (.slice (some ⟨w3.heap.size, 0, none⟩) 0 0) [] := by rw [hW]; exact (Edges.lit w3 n).mono (by have := R3.out.lt; omega)
      have R4 : Hid (RdOk w0 b (m + 3) W) := by rw [hW]; exact R3.out.next ((Ext.refl _).alloc _)
      have HW := Lib.hid hW; have E4 := Lib.hid he0
      clear hW he0 R3
      go_wp2_with fail
      rw [← HW.out]
      refine (pick_c w0 b (m + 3) 3 _ R4.out (by omega) (by omega) (by omega)).mono ?_
      rintro e w5 ⟨x2, rfl, hx2, r5, u5⟩
      have R5 := Lib.hid r5; have E5 := Lib.hid (E4.out.upd (show b < b + 1 by omega) u5)
      clear r5 u5 R4 E4 HW
      obtain ⟨tree, htree⟩ : ∃ t, ((x2 : Int) == 0) = t := ⟨_, rfl⟩
      go_wp2
      go_loopw [8, 10] (fun v i wr => ∃ (k : Nat) (es : List Value), 1 ≤ k ∧ k ≤ n ∧ i = .int .i64 k ∧ Hid (es.length ≤ 12 * k) ∧ Hid (Edges wr (b + 1) n v es) ∧ Hid (RdOk w0 b (m + 4 + 13 * k) wr)) (fun _ i _ => n - (intOf i).toNat)
      case atStart => exact ⟨1, [], by omega, by omega, rfl, by unfold Hid; simp, E5, R5.out.more (by omega)⟩
      case round =>
        clear E5 R5
        obtain ⟨i, es, hi1, hi, rfl, HL, HE, HR⟩ := hrel
        by_cases hlt : i < n
        · cases tree
          · go_wp2
            go_loopw [8, 11] (fun v q wr => ∃ (k : Nat) (es : List Value), k ≤ i ∧ q = .int .i64 k ∧ Hid (es.length ≤ 12 * i + k) ∧ Hid (Edges wr (b + 1) n v es) ∧ Hid (RdOk w0 b (m + 4 + 13 * i + k) wr)) (fun _ q _ => i - (intOf q).toNat)
            case atStart => exact ⟨0, es, by omega, rfl, HL, HE, HR⟩
            case round =>
              clear HE HR HL
              obtain ⟨k, es, hk, rfl, HL, HE, HR⟩ := hrel
              by_cases hlk : k < i
              · go_wp2_with fail
                refine (pick_c w0 b (m + 4 + 13 * i + k) 3 _ HR.out (by omega) (by omega) (by omega)).mono ?_
                rintro e w6 ⟨x3, rfl, hx3, r6, u6⟩
                have R6 := Lib.hid r6; have E6 := Lib.hid (HE.out.upd (show b < b + 1 by omega) u6)
                have hb6 := r6.lt
                have hl6 := HL.out
                clear r6 u6 HE HR
                obtain ⟨b3, hb3⟩ : ∃ t, ((x3 : Int) == 0) = t := ⟨_, rfl⟩
                cases b3
                · go_wp2
                  go_roundw
                  case rel => exact ⟨k + 1, es, by omega, by go_num, by unfold Hid; omega, E6, R6.out.more (by omega)⟩
                  case measure => simp [intOf]; omega
                · go_wp2_with (at_builtin; refine wpList_append_edge rfl _ _ rfl (b + 1) n _ _ rfl ((E6.out.ext ((Ext.refl _).alloc _)).ext ((Ext.refl _).alloc _)) (w6.heap.size + 1) (.slice (some ⟨w6.heap.size, 0, none⟩) 2 2) rfl ((Edge.new E6.out i k (by omega) (by omega) (by omega) (by omega) _).ext ((Ext.refl _).alloc _)) rfl (cell_top _ _ _ _) (by omega) (by simp; omega) ?_; intro v' w8 he8 hb8; have E8 := Lib.hid he8; have R8 := Lib.hid ((R6.out.next (((Ext.refl _).alloc _).alloc _)).below hb8); clear he8 hb8)
                  go_roundw
                  case rel => exact ⟨k + 1, _, by omega, by go_num, by unfold Hid; rw [List.length_append]; show _ + 1 ≤ _; omega, E8, R8.out.more (by omega)⟩
                  case measure => simp [intOf]; omega
              · obtain rfl : k = i := by omega
                go_wp2
                go_roundw
                case rel => exact ⟨k + 1, es, by omega, by omega, by go_num, by unfold Hid; have := HL.out; omega, HE, HR.out.more (by omega)⟩
                case measure => simp [intOf]; omega
          · go_wp2_with fail
            refine (pick_c w0 b (m + 4 + 13 * i) i _ HR.out (by omega) (by omega) (by omega)).mono ?_
            rintro e w6 ⟨x3, rfl, hx3, r6, u6⟩
            have R6 := Lib.hid r6; have E6 := Lib.hid (HE.out.upd (show b < b + 1 by omega) u6)
            have hb6 := r6.lt
            have hl6 := HL.out
            clear r6 u6 HE HR
            go_wp2_with (at_builtin; refine wpList_append_edge rfl _ _ rfl (b + 1) n _ _ rfl ((E6.out.ext ((Ext.refl _).alloc _)).ext ((Ext.refl _).alloc _)) (w6.heap.size + 1) (.slice (some ⟨w6.heap.size, 0, none⟩) 2 2) rfl ((Edge.new E6.out i x3 (by omega) (by omega) (by omega) (by omega) _).ext ((Ext.refl _).alloc _)) rfl (cell_top _ _ _ _) (by omega) (by simp; omega) ?_; intro v' w8 he8 hb8; have E8 := Lib.hid he8; have R8 := Lib.hid ((R6.out.next (((Ext.refl _).alloc _).alloc _)).below hb8); clear he8 hb8)
            go_roundw
            case rel => exact ⟨i + 1, _, by omega, by omega, by go_num, by unfold Hid; rw [List.length_append]; show _ + 1 ≤ _; omega, E8, R8.out.more (by omega)⟩
            case measure => simp [intOf]; omega
        · obtain rfl : i = n := by omega
          have hl : es.length ≤ 200 := by have := HL.out; omega
          go_wp2_with fail
          refine (graphOfS_c (b + 1) i _ es wr HE.out (by omega) (by omega) hl).mono ?_
          rintro e w6 ⟨g, c, gs, rfl, h1, h2, h3⟩
          have O6 := Lib.hid (h2.mono (show b + 1 ≤ wr.heap.size by have := HR.out.lt; omega)); have R6 := Lib.hid (HR.out.next h3)
          have H1 := Lib.hid h1
          clear h1 h2 h3 HE HR HL
          go_wp2_with fail
          refine (pick_c w0 b (m + 4 + 13 * i) 30 _ R6.out (by omega) (by omega) (by omega)).mono ?_
          rintro e w7 ⟨x4, rfl, hx4, r7, u7⟩
          have R7 := Lib.hid r7; have O7 := Lib.hid (O6.out.upd (show b < b + 1 by omega) u7)
          clear r7 u7 R6 O6
          obtain ⟨b4, hb4⟩ : ∃ t, ((x4 : Int) == 0) = t := ⟨_, rfl⟩
          cases b4
          · go_wp2
            go_ret
            exact ⟨_, gs, rfl, by rw [H1.out]; omega, by rw [H1.out]; omega, O7.out, R7.out.more (by omega)⟩
          · obtain ⟨-, -, hgb, hgl, hcl, hfr⟩ := O7.out.at
            have c0 := hcl 0 (by omega)
            have f0 := hfr 0
            have OS := Lib.hid fun z => O7.out.set 0 z
            have RS := Lib.hid fun (z : Value) => R7.out.below ((Below.refl (b + 1) w7).setCell (p := ⟨g, 0, none⟩) hgb z)
            clear hcl hfr
            go_wp2
            go_ret
            exact ⟨_, _, rfl, by rw [List.length_set, H1.out]; omega, by rw [List.length_set, H1.out]; omega, OS.out _, (RS.out _).more (by omega)⟩
    · have O6 := Lib.hid (h2.mono (show b + 1 ≤ w4.heap.size by have := R4'.out.lt; omega)); have R6 := Lib.hid (R4'.out.next h3)
      have H1 := Lib.hid h1
      clear h1 h2 h3
      go_wp2
      go_ret
      exact ⟨_, gs, rfl, by rw [H1.out]; omega, by rw [H1.out]; omega, O6.out, R6.out.more (by omega)⟩
end Go.Proofs.Ytpmammklklkheaa
