/- The draw of items and tests. The condition: at most 999900 numbers have been drawn. -/
import Derived.Test.YtnpkkfaidejljaaDraw
import Derived.Test.YtnpkkfaidejljaaDigits
namespace Go.Proofs.Ytnpkkfaidejljaa
open Go.RowKit
open BigFrame

set_option maxRecDepth 100000 in
set_option maxHeartbeats 4000000 in
theorem l91Pool_c (w0 : World) (b m : Nat) (w : World) (h : RdOk w0 b m w) (hm : m ≤ 999900) :
    Calls Try.prog 113 #[.pointer (some ⟨b, 0, none⟩)] w fun e w' => ∃ (n : Nat) (v' : Value) (xs : List Int), e = .returned (.tuple #[.int .i64 n, v']) ∧ 1 ≤ n ∧ n ≤ 6 ∧ xs.length ≤ 12 ∧ Own w' (b + 1) v' xs ∧ RdOk w0 b (m + 20) w' := by
  have HR := Lib.hid h
  clear h
  go_enter Try.func113, Try.ntmps113
  go_wp2_with fail
  refine (pick_c w0 b m 6 _ HR.out (by omega) (by omega) (by omega)).mono ?_
  rintro e w1 ⟨x0, rfl, hx0, r1, -⟩
  have R1 := Lib.hid r1
  clear r1
  obtain ⟨n, hn⟩ : ∃ n : Nat, (1 : Int) + (x0 : Int) = (n : Int) := ⟨x0 + 1, by omega⟩
  have hn1 : 1 ≤ n := by omega
  have hn6 : n ≤ 6 := by omega
  obtain ⟨p, hp, hp1, hp2, hp3⟩ := pow_var n (by omega)
  have hp4 : p ≤ 64 := by rw [← hp]; exact (Nat.pow_le_pow_right (by omega) hn6 : 2 ^ n ≤ 2 ^ 6)
  have e0 : min n 64 = n := by omega
  obtain ⟨W, hW⟩ : ∃ W, W = w1.alloc (.cells #[] 3) := ⟨_, rfl⟩
  have ho0 : Own W (b + 1) (.slice (some ⟨w1.heap.size, 0, none⟩) 0 0) [] := by rw [hW]; exact (Own.lit w1).mono (by have := R1.out.lt; omega)
  have R2 : Hid (RdOk w0 b (m + 1) W) := by rw [hW]; exact R1.out.next ((Ext.refl _).alloc _)
  have HW := Lib.hid hW; have O2 := Lib.hid ho0
  have HP := Lib.hid hp
  clear hW ho0 hp
  go_wp2_with fail
  rw [← HW.out]
  refine (pick_c w0 b (m + 1) 7 _ R2.out (by omega) (by omega) (by omega)).mono ?_
  rintro e w3 ⟨k, rfl, hk, r3, u3⟩
  have R3 := Lib.hid r3; have O3 := Lib.hid (O2.out.upd (show b < b + 1 by omega) u3)
  clear r3 u3 R1 R2 O2 hx0
  go_wp2
  go_loopw [5, 7] (fun o i wr => ∃ (j : Nat) (xs : List Int), j ≤ k ∧ i = .int .i64 j ∧ xs.length = j ∧ Hid (Own wr (b + 1) o xs) ∧ Hid (RdOk w0 b (m + 2 + j) wr)) (fun _ i _ => k - (intOf i).toNat)
  case atStart => exact ⟨0, [], Nat.zero_le _, rfl, rfl, O3.out, R3.out⟩
  case round =>
    clear O3 R3
    obtain ⟨j, xs, hj, rfl, hxl, HO, HR⟩ := hrel
    by_cases hlt : j < k
    · go_wp2_with fail
      refine (pick_c w0 b (m + 2 + j) p _ HR.out (by omega) (by omega) (by omega)).mono ?_
      rintro e w4 ⟨x4, rfl, hx4, r4, u4⟩
      have R4 := Lib.hid r4; have O4 := Lib.hid (HO.out.upd (show b < b + 1 by omega) u4)
      have hb4 := r4.lt
      clear r4 u4
      go_wp2_with (at_builtin; refine wpList_append_int rfl _ _ rfl (b + 1) _ _ rfl (O4.out.alloc _) w4.heap.size _ rfl (one_cell _ _ _) (by omega) (by simp; omega) ?_; intro v' w5 ho5 hg5 hn5)
      have O5 := Lib.hid ho5
      have R5 : Hid (RdOk w0 b (m + 2 + (j + 1)) w5) := R4.out.below (Below.grown (Below.alloc (Below.refl _ _) (by omega) _) hg5 (by simp; omega) (fun k hk => ((O4.out.alloc (Obj.cells #[.int .i64 (x4 : Int)] 3)).lt k hk).1))
      clear ho5 hg5 hn5
      go_wp2
      go_roundw
      case rel => exact ⟨j + 1, _, by omega, by go_num, by simp [hxl], O5.out, R5.out⟩
      case measure => simp [intOf]; omega
    · obtain rfl : j = k := by omega
      have hbw := HR.out.lt
      go_wp2_with fail
      refine (pick_c w0 b (m + 2 + j) 5 _ HR.out (by omega) (by omega) (by omega)).mono ?_
      rintro e w4 ⟨x4, rfl, hx4, r4, u4⟩
      have R4 := Lib.hid r4; have O4 := Lib.hid (HO.out.upd (show b < b + 1 by omega) u4)
      have hb4 := r4.lt
      clear r4 u4 HO HR hbw
      by_cases h0 : x4 = 0
      · have h0' : ((x4 : Int) == 0) = true := by simp [h0]
        obtain ⟨W5, hW5⟩ : ∃ W, W = w4.alloc (.cells #[] 3) := ⟨_, rfl⟩
        have ho5 : Own W5 (b + 1) (.slice (some ⟨w4.heap.size, 0, none⟩) 0 0) [] := by rw [hW5]; exact (Own.lit w4).mono (by omega)
        have R5 : Hid (RdOk w0 b (m + 2 + j + 1) W5) := by rw [hW5]; exact R4.out.next ((Ext.refl _).alloc _)
        have HW5 := Lib.hid hW5; have O5 := Lib.hid ho5
        clear hW5 ho5 h0 O4 R4
        go_wp2
        rw [← HW5.out]
        go_loopw [5, 8] (fun o i wr => ∃ (q : Nat) (xs : List Int), q ≤ n ∧ i = .int .i64 q ∧ xs.length = q ∧ Hid (Own wr (b + 1) o xs) ∧ Hid (RdOk w0 b (m + 2 + j + 1) wr)) (fun _ i _ => n - (intOf i).toNat)
        case atStart => exact ⟨0, [], Nat.zero_le _, rfl, rfl, O5.out, R5.out⟩
        case round =>
          clear O5 R5 HW5
          obtain ⟨q, xs2, hq, rfl, hxl2, HO, HR⟩ := hrel
          have hbw := HR.out.lt
          by_cases hlq : q < n
          · obtain ⟨pq, hpq, hpq1, hpq2, hpq3⟩ := pow_var q (by omega)
            have eq0 : min q 64 = q := by omega
            clear hpq
            go_wp2_with (at_builtin; refine wpList_append_int rfl _ _ rfl (b + 1) _ _ rfl (HO.out.alloc _) wr.heap.size _ rfl (one_cell _ _ _) (by omega) (by simp; omega) ?_; intro v' w5 ho5 hg5 hn5)
            have O5 := Lib.hid ho5
            have R5 : Hid (RdOk w0 b (m + 2 + j + 1) w5) := HR.out.below (Below.grown (Below.alloc (Below.refl _ _) (by omega) _) hg5 (by simp; omega) (fun k hk => ((HO.out.alloc (Obj.cells #[.int .i64 (pq : Int)] 3)).lt k hk).1))
            clear ho5 hg5 hn5
            go_wp2
            go_roundw
            case rel => exact ⟨q + 1, _, by omega, by go_num, by simp [hxl2], O5.out, R5.out⟩
            case measure => simp [intOf]; omega
          · obtain rfl : q = n := by omega
            have hxl : xs2.length ≤ 12 := by omega
            clear hxl2 hq hlq hn
            obtain ⟨n, hnq⟩ : ∃ n, n = q := ⟨_, rfl⟩
            rw [← hnq] at hn1 hn6 hp1 e0 HP ⊢
            clear hnq
            rcases HO.out.get with ⟨rfl, hnil⟩ | ⟨gv, cv, rfl, hgv, -, hcv, hcl, hfr⟩
            · have HOE : Hid (Own wr (b + 1) (.slice none 0 0) []) := Own.nil _ _
              clear hnil
              go_wp2
              go_ret2
              exact ⟨n, .slice none 0 0, [], rfl, by omega, by omega, by simp, HOE.out, HR.out.more (by omega)⟩
            · obtain ⟨ln, hln⟩ : ∃ l, l = xs2.length := ⟨_, rfl⟩
              have HLN := Lib.hid hln
              by_cases hz : ln = 0
              · have HOE : Hid (Own wr (b + 1) (.slice (some ⟨gv, 0, none⟩) ln cv) xs2) := by rw [hln]; exact HO.out
                have hz' : decide (0 < ln) = false := by simp [hz]
                have hz0 : ¬ 0 < ln := by omega
                rw [← hln] at hxl ⊢
                clear hln hz hcl hfr hcv
                go_wp2
                go_ret2
                exact ⟨n, _, xs2, rfl, by omega, by omega, by rw [← HLN.out]; omega, HOE.out, HR.out.more (by omega)⟩
              · have HOE : Hid (Own wr (b + 1) (.slice (some ⟨gv, 0, none⟩) ln cv) xs2) := by rw [hln]; exact HO.out
                have hz' : decide (0 < ln) = true := by simp; omega
                have hz0 : 0 < ln := by omega
                rw [← hln] at hxl ⊢
                clear hln hz hcl hfr hcv
                go_wp2_with fail
                refine (pick_c w0 b (m + 2 + j + 1) 24 _ HR.out (by omega) (by omega) (by omega)).mono ?_
                rintro e wt ⟨xt, rfl, hxt, rt, ut⟩
                have RT := Lib.hid rt; have OT := Lib.hid (HOE.out.upd (show b < b + 1 by omega) ut)
                clear rt ut
                by_cases hx0 : xt = 0
                · have hx0' : ((xt : Int) == 0) = true := by simp [hx0]
                  clear hx0
                  obtain ⟨-, -, -, -, hcl, hfr⟩ := OT.out.at
                  have c0 := hcl 0 hz0
                  have f0 := hfr 0
                  have OS := Lib.hid fun z => OT.out.set 0 z
                  have RS := Lib.hid fun (z : Value) => RT.out.below ((Below.refl (b + 1) wt).setCell (p := ⟨gv, 0, none⟩) hgv z)
                  clear hcl hfr
                  go_wp2
                  go_ret2
                  exact ⟨n, _, _, rfl, by omega, by omega, by rw [List.length_set, ← HLN.out]; omega, OS.out _, (RS.out _).more (by omega)⟩
                · have hx0' : ((xt : Int) == 0) = false := by simp [hx0]
                  clear hx0
                  go_wp2
                  go_ret2
                  exact ⟨n, _, xs2, rfl, by omega, by omega, by rw [← HLN.out]; omega, OT.out, RT.out.more (by omega)⟩
      · have h0' : ((x4 : Int) == 0) = false := by simp [h0]
        by_cases h1 : x4 = 1
        · have h1' : ((x4 : Int) == 1) = true := by simp [h1]
          have HDG : Hid (digits n = (digitsN n, true)) := by unfold Hid digits; rw [show inB 1 n 12 = true from inB_iff.2 ⟨by omega, by omega⟩]; rfl
          have HDL : Hid ((digitsN n).length ≤ 5) := by unfold Hid digitsN; rw [digitsTo_length]; exact Nat.le_trans List.countP_le_length (by simp)
          clear h0 h1
          go_wp2_with fail
          refine (poolDigitsS_c n w4).mono ?_
          rintro e w5 ⟨vd, rfl, od, xd⟩
          rw [HDG.out] at od ⊢
          unfold listV
          have O5 := Lib.hid (od.mono (show b + 1 ≤ w4.heap.size by omega)); have R5 := Lib.hid (R4.out.next xd)
          clear od xd O4 R4
          have hxl : (digitsN n).length ≤ 12 := by have := HDL.out; omega
          rcases O5.out.get with ⟨rfl, hnil⟩ | ⟨gv, cv, rfl, hgv, -, hcv, hcl, hfr⟩
          · have HOE : Hid (Own w5 (b + 1) (.slice none 0 0) []) := Own.nil _ _
            clear hnil
            go_wp2
            go_ret2
            exact ⟨n, .slice none 0 0, [], rfl, by omega, by omega, by simp, HOE.out, R5.out.more (by omega)⟩
          · obtain ⟨ln, hln⟩ : ∃ l, l = (digitsN n).length := ⟨_, rfl⟩
            have HLN := Lib.hid hln
            by_cases hz : ln = 0
            · have HOE : Hid (Own w5 (b + 1) (.slice (some ⟨gv, 0, none⟩) ln cv) (digitsN n)) := by rw [hln]; exact O5.out
              have hz' : decide (0 < ln) = false := by simp [hz]
              have hz0 : ¬ 0 < ln := by omega
              rw [← hln] at hxl ⊢
              clear hln hz hcl hfr hcv
              go_wp2
              go_ret2
              exact ⟨n, _, (digitsN n), rfl, by omega, by omega, by rw [← HLN.out]; omega, HOE.out, R5.out.more (by omega)⟩
            · have HOE : Hid (Own w5 (b + 1) (.slice (some ⟨gv, 0, none⟩) ln cv) (digitsN n)) := by rw [hln]; exact O5.out
              have hz' : decide (0 < ln) = true := by simp; omega
              have hz0 : 0 < ln := by omega
              rw [← hln] at hxl ⊢
              clear hln hz hcl hfr hcv
              go_wp2_with fail
              refine (pick_c w0 b (m + 2 + j + 1) 24 _ R5.out (by omega) (by omega) (by omega)).mono ?_
              rintro e wt ⟨xt, rfl, hxt, rt, ut⟩
              have RT := Lib.hid rt; have OT := Lib.hid (HOE.out.upd (show b < b + 1 by omega) ut)
              clear rt ut
              by_cases hx0 : xt = 0
              · have hx0' : ((xt : Int) == 0) = true := by simp [hx0]
                clear hx0
                obtain ⟨-, -, -, -, hcl, hfr⟩ := OT.out.at
                have c0 := hcl 0 hz0
                have f0 := hfr 0
                have OS := Lib.hid fun z => OT.out.set 0 z
                have RS := Lib.hid fun (z : Value) => RT.out.below ((Below.refl (b + 1) wt).setCell (p := ⟨gv, 0, none⟩) hgv z)
                clear hcl hfr
                go_wp2
                go_ret2
                exact ⟨n, _, _, rfl, by omega, by omega, by rw [List.length_set, ← HLN.out]; omega, OS.out _, (RS.out _).more (by omega)⟩
              · have hx0' : ((xt : Int) == 0) = false := by simp [hx0]
                clear hx0
                go_wp2
                go_ret2
                exact ⟨n, _, (digitsN n), rfl, by omega, by omega, by rw [← HLN.out]; omega, OT.out, RT.out.more (by omega)⟩
        · have h1' : ((x4 : Int) == 1) = false := by simp; omega
          clear h0 h1
          have hxl : xs.length ≤ 12 := by omega
          rcases O4.out.get with ⟨rfl, hnil⟩ | ⟨gv, cv, rfl, hgv, -, hcv, hcl, hfr⟩
          · have HOE : Hid (Own w4 (b + 1) (.slice none 0 0) []) := Own.nil _ _
            clear hnil
            go_wp2
            go_ret2
            exact ⟨n, .slice none 0 0, [], rfl, by omega, by omega, by simp, HOE.out, R4.out.more (by omega)⟩
          · obtain ⟨ln, hln⟩ : ∃ l, l = xs.length := ⟨_, rfl⟩
            have HLN := Lib.hid hln
            by_cases hz : ln = 0
            · have HOE : Hid (Own w4 (b + 1) (.slice (some ⟨gv, 0, none⟩) ln cv) xs) := by rw [hln]; exact O4.out
              have hz' : decide (0 < ln) = false := by simp [hz]
              have hz0 : ¬ 0 < ln := by omega
              rw [← hln] at hxl ⊢
              clear hln hz hcl hfr hcv
              go_wp2
              go_ret2
              exact ⟨n, _, xs, rfl, by omega, by omega, by rw [← HLN.out]; omega, HOE.out, R4.out.more (by omega)⟩
            · have HOE : Hid (Own w4 (b + 1) (.slice (some ⟨gv, 0, none⟩) ln cv) xs) := by rw [hln]; exact O4.out
              have hz' : decide (0 < ln) = true := by simp; omega
              have hz0 : 0 < ln := by omega
              rw [← hln] at hxl ⊢
              clear hln hz hcl hfr hcv
              go_wp2_with fail
              refine (pick_c w0 b (m + 2 + j + 1) 24 _ R4.out (by omega) (by omega) (by omega)).mono ?_
              rintro e wt ⟨xt, rfl, hxt, rt, ut⟩
              have RT := Lib.hid rt; have OT := Lib.hid (HOE.out.upd (show b < b + 1 by omega) ut)
              clear rt ut
              by_cases hx0 : xt = 0
              · have hx0' : ((xt : Int) == 0) = true := by simp [hx0]
                clear hx0
                obtain ⟨-, -, -, -, hcl, hfr⟩ := OT.out.at
                have c0 := hcl 0 hz0
                have f0 := hfr 0
                have OS := Lib.hid fun z => OT.out.set 0 z
                have RS := Lib.hid fun (z : Value) => RT.out.below ((Below.refl (b + 1) wt).setCell (p := ⟨gv, 0, none⟩) hgv z)
                clear hcl hfr
                go_wp2
                go_ret2
                exact ⟨n, _, _, rfl, by omega, by omega, by rw [List.length_set, ← HLN.out]; omega, OS.out _, (RS.out _).more (by omega)⟩
              · have hx0' : ((xt : Int) == 0) = false := by simp [hx0]
                clear hx0
                go_wp2
                go_ret2
                exact ⟨n, _, xs, rfl, by omega, by omega, by rw [← HLN.out]; omega, OT.out, RT.out.more (by omega)⟩
end Go.Proofs.Ytnpkkfaidejljaa
