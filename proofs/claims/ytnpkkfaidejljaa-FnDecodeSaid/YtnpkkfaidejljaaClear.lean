/- Whether a pool is clear: the reference and the program compute the same plain function. The condition: the list has at most 2^20 numbers. -/
import Derived.Test.YtnpkkfaidejljaaVar
namespace Go.Proofs.Ytnpkkfaidejljaa
open Go.RowKit
open BigFrame
attribute [local go_sem] Oper.semAt_some

def clearT (i s : Nat) (x : Int) : Bool := x.toNat.testBit i && (band x.toNat s == 0)
def clearI (tests : List Int) (d i k : Nat) : Bool := !(fewB d k && !k.testBit i) || tests.any (clearT i k)
def clearRow (tests : List Int) (d N i : Nat) : Bool := (List.range N).all (clearI tests d i)
def poolClear (items : Int) (tests : List Int) (d : Int) : Bool := poolIn items tests && inB 0 d 3 && (List.range items.toNat).all (clearRow tests d.toNat (2 ^ items.toNat))
theorem range_all_false {N k : Nat} {p : Nat → Bool} (hk : k < N) (h : p k = false) : (List.range N).all p = false := by
  rw [List.all_eq_false]; exact ⟨k, List.mem_range.2 hk, by rw [h]; decide⟩
theorem range_all_true {N : Nat} {p : Nat → Bool} (h : ∀ k, k < N → p k = true) : (List.range N).all p = true := by
  rw [List.all_eq_true]; exact fun k hk => h k (List.mem_range.1 hk)
theorem any_take_succ {xs : List Int} {p : Int → Bool} {k : Nat} (hk : k < xs.length) : (xs.take (k + 1)).any p = ((xs.take k).any p || p (getI xs k)) := by
  rw [List.take_succ_eq_append_getElem hk, List.any_append]
  simp [getI, hk]
theorem few_iff2 {d k : Nat} : fewB d k = true ↔ cnt k ≤ d := by simp [fewB]

set_option maxHeartbeats 2000000 in
theorem poolClearS_c (items : Int) (v : Value) (xs : List Int) (d : Int) (w : World) (hv : Rd w v xs) (hm : xs.length ≤ 1048576) :
    Calls Try.prog 67 #[.int .i64 items, v, .int .i64 d] w fun e w' => e = .returned (.bool (poolClear items xs d)) ∧ Ext w w' := by
  obtain ⟨a, c, rfl⟩ := hv.form
  have HV := Lib.hid hv; clear hv
  have HM := Lib.hid hm
  cases h0 : poolIn items xs
  · rw [show poolClear items xs d = false from by unfold poolClear; rw [h0]; rfl]
    go_enter Try.func67, Try.ntmps67
    go_wp2_with (go_at_call 52; refine (poolInS_c _ _ _ _ HV.out HM.out).mono ?_; rintro e w1 ⟨rfl, x1⟩)
    go_ret
    exact ⟨rfl, by assumption⟩
  · cases hd : inB 0 d 3
    · rw [show poolClear items xs d = false from by unfold poolClear; rw [h0, hd]; rfl]
      go_enter Try.func67, Try.ntmps67
      go_wp2_with (first | (go_at_call 52; refine (poolInS_c _ _ _ _ HV.out HM.out).mono ?_; rintro e w1 ⟨rfl, x1⟩) | (go_at_call 93; refine (l6In_c _ _ _ _).mono ?_; rintro e w' ⟨rfl, rfl⟩))
      go_ret
      exact ⟨rfl, by assumption⟩
    · obtain ⟨n, rfl, hP⟩ := poolIn_iff.1 h0
      have hn := hP.le
      have hl := hP.len
      have HP := Lib.hid hP; clear hP
      obtain ⟨D, rfl⟩ : ∃ D : Nat, d = D := ⟨d.toNat, by have := inB_iff.1 hd; omega⟩
      obtain ⟨p, hp, hp1, hp2, hp3⟩ := pow_var n (by omega)
      have hp4 : p ≤ 4096 := by rw [← hp]; exact pow_le_12 hn
      have HP2 := Lib.hid hp; clear hp
      have e0 : min n 64 = n := by omega
      rw [show poolClear n xs D = (List.range n).all (clearRow xs D p) from by unfold poolClear; rw [h0, hd]; show (List.range n).all (clearRow xs D (2 ^ n)) = _; rw [HP2.out]]
      go_enter Try.func67, Try.ntmps67
      go_wp2_with fail
      refine (poolInS_c _ _ _ _ HV.out HM.out).mono ?_
      rintro e w1 ⟨rfl, x1⟩
      have X1 := Lib.hid x1; clear x1
      go_wp2_with (go_at_call 93; refine (l6In_c _ _ _ _).mono ?_; rintro e w' ⟨rfl, rfl⟩)
      go_loop [7] (fun i => ∃ k : Nat, k ≤ n ∧ i = .int .i64 k ∧ Hid (∀ j, j < k → clearRow xs D p j = true)) (fun i => n - (intOf i).toNat)
      case atStart => exact ⟨0, Nat.zero_le _, rfl, fun j hj => absurd hj (Nat.not_lt_zero j)⟩
      case round =>
        obtain ⟨i, hi, rfl, HI⟩ := hrel
        by_cases hli : i < n
        · go_wp2
          go_loop [8] (fun o => ∃ s : Nat, s ≤ p ∧ o = .int .i64 s ∧ Hid (∀ j, j < s → clearI xs D i j = true)) (fun o => p - (intOf o).toNat)
          case atStart => exact ⟨0, Nat.zero_le _, rfl, fun j hj => absurd hj (Nat.not_lt_zero j)⟩
          case round =>
            obtain ⟨s, hs, rfl, HS⟩ := hrel
            by_cases hls : s < p
            · have HN : ∀ b, clearI xs D i s = b → b = true → Hid (∀ j, j < s + 1 → clearI xs D i j = true) := fun b h1 h2 j hj => by
                by_cases h : j = s
                · subst h; rw [h1, h2]
                · exact HS.out j (by omega)
              have HN := Lib.hid HN
              have h4 : s ≤ 4095 := by omega
              by_cases hf : cnt s ≤ D
              · cases hb : s.testBit i
                · go_wp2_with (first | (go_at_call 94; refine (l1Count_c s (by omega) _).mono ?_; rintro e w' ⟨rfl, rfl⟩) | (go_at_call 117; refine (l1Bit_c s i (by omega) (by omega) _).mono ?_; rintro e w' ⟨rfl, rfl⟩))
                  have HC : Hid (clearI xs D i s = xs.any (clearT i s)) := by unfold clearI Hid; rw [few_iff2.2 hf, hb]; rfl
                  have hdf : decide (D < cnt s) = false := by simpa using hf
                  simp only [hdf]
                  clear hb hf hdf
                  go_loop [9, 10] (fun ok q => ∃ k : Nat, k ≤ xs.length ∧ q = .int .i64 k ∧ ok = .bool ((xs.take k).any (clearT i s))) (fun _ q => xs.length - (intOf q).toNat)
                  case atStart => exact ⟨0, Nat.zero_le _, rfl, rfl⟩
                  case round =>
                    obtain ⟨k, hk, rfl, rfl⟩ := hrel
                    by_cases hlk : k < xs.length
                    · have HT := Lib.hid (any_take_succ (p := clearT i s) hlk)
                      obtain ⟨b, o, rfl, -, -, hc⟩ := HV.out.atI hlk
                      have c1 := hc _ X1.out
                      clear hc
                      have r1 := HP.out.row k hlk
                      have r2 := HP.out.small k
                      have HX : Hid (clearT i s (getI xs k) = ((gN xs k).testBit i && (band (gN xs k) s == 0))) := by unfold clearT Hid; rw [r1]; rfl
                      rw [r1] at c1
                      clear r1
                      have e1 := bits_and (gN xs k) s (by omega) (by omega)
                      cases ho : (xs.take k).any (clearT i s)
                      · have HO := Lib.hid ho; clear ho
                        cases hb : (gN xs k).testBit i
                        · have HB := Lib.hid hb
                          go_wp2_with (first | (go_at_call 117; refine (l1Bit_c (gN xs k) i (by omega) (by omega) _).mono ?_; rintro e w' ⟨rfl, rfl⟩))
                          go_round
                          case rel => exact ⟨k + 1, by omega, by go_num, by rw [HT.out, HO.out, HX.out, HB.out]; rfl⟩
                          case measure => simp [intOf]; omega
                        · have HB := Lib.hid hb
                          by_cases hz : band (gN xs k) s = 0
                          · have HZ := Lib.hid hz
                            go_wp2_with (first | (go_at_call 117; refine (l1Bit_c (gN xs k) i (by omega) (by omega) _).mono ?_; rintro e w' ⟨rfl, rfl⟩))
                            go_round
                            case rel => exact ⟨k + 1, by omega, by go_num, by rw [HT.out, HO.out, HX.out, HB.out, HZ.out]; rfl⟩
                            case measure => simp [intOf]; omega
                          · have HZ : Hid ((band (gN xs k) s == 0) = false) := beq_eq_false_iff_ne.2 hz
                            have hz' : (((band (gN xs k) s : Nat) : Int) == 0) = false := by simp; omega
                            go_wp2_with (first | (go_at_call 117; refine (l1Bit_c (gN xs k) i (by omega) (by omega) _).mono ?_; rintro e w' ⟨rfl, rfl⟩))
                            go_round
                            case rel => exact ⟨k + 1, by omega, by go_num, by rw [HT.out, HO.out, HX.out, HB.out, HZ.out]; rfl⟩
                            case measure => simp [intOf]; omega
                      · have HO := Lib.hid ho; clear ho
                        go_wp2
                        go_round
                        case rel => exact ⟨k + 1, by omega, by go_num, by rw [HT.out, HO.out]; rfl⟩
                        case measure => simp [intOf]; omega
                    · obtain rfl : k = xs.length := by omega
                      have HT : Hid ((xs.take xs.length).any (clearT i s) = xs.any (clearT i s)) := by unfold Hid; rw [List.take_length]
                      cases ho : (xs.take xs.length).any (clearT i s)
                      · have HO := Lib.hid ho; clear ho
                        go_wp2
                        go_ret
                        exact ⟨ret_bool (range_all_false hli (range_all_false hls (by rw [HC.out, ← HT.out]; exact HO.out))).symm, X1.out⟩
                      · have HO := Lib.hid ho; clear ho
                        go_wp2
                        go_round
                        case rel => exact ⟨s + 1, by omega, by go_num, HN.out _ HC.out (by rw [← HT.out]; exact HO.out)⟩
                        case measure => simp [intOf]; omega
                · have HC : Hid (clearI xs D i s = true) := by unfold clearI Hid; rw [hb, Bool.not_true, Bool.and_false]; rfl
                  go_wp2_with (first | (go_at_call 94; refine (l1Count_c s (by omega) _).mono ?_; rintro e w' ⟨rfl, rfl⟩) | (go_at_call 117; refine (l1Bit_c s i (by omega) (by omega) _).mono ?_; rintro e w' ⟨rfl, rfl⟩))
                  go_round
                  case rel => exact ⟨s + 1, by omega, by go_num, HN.out _ HC.out rfl⟩
                  case measure => simp [intOf]; omega
              · have HC : Hid (clearI xs D i s = true) := by unfold clearI Hid; rw [show fewB D s = false from by simp [fewB]; omega]; rfl
                go_wp2_with (first | (go_at_call 94; refine (l1Count_c s (by omega) _).mono ?_; rintro e w' ⟨rfl, rfl⟩))
                go_round
                case rel => exact ⟨s + 1, by omega, by go_num, HN.out _ HC.out rfl⟩
                case measure => simp [intOf]; omega
            · obtain rfl : s = p := by omega
              go_wp2
              go_round
              case rel => exact ⟨i + 1, by omega, by go_num, fun j hj => by
                by_cases h : j = i
                · subst h; exact range_all_true HS.out
                · exact HI.out j (by omega)⟩
              case measure => simp [intOf]; omega
        · obtain rfl : i = n := by omega
          go_wp2
          go_ret
          exact ⟨ret_bool (range_all_true HI.out).symm, X1.out⟩

theorem poolClear1_enters : ∀ args w, (callFunc 126 args).run Try.prog w = .ok (.enter 126 args) w :=
  Go.Proofs.enters_of Try.func126 (by kernel_rfl) rfl
theorem poolClear1_c (x i s : Nat) (hx : x ≤ 4095) (hi : i ≤ 12) (hs : s ≤ 4095) (b c : Nat) (w : World) (h1 : w.cell? ⟨b, 0, none⟩ = some (.int .i64 i)) (h2 : w.cell? ⟨c, 0, none⟩ = some (.int .i64 s)) :
    Calls Try.prog 126 #[.int .i64 x, .pointer (some ⟨b, 0, none⟩), .pointer (some ⟨c, 0, none⟩)] w fun e w' => e = .returned (.bool (clearT i s x)) ∧ Ext w w' := by
  have e1 := bits_and x s (by omega) (by omega)
  rw [show clearT i s (x : Int) = (x.testBit i && (band x s == 0)) from rfl]
  cases hb : x.testBit i
  · go_enter Try.func126, Try.ntmps126
    go_wp2_with (go_at_call 88; refine (has_c x i (by omega) (by omega) _).mono ?_; rintro e w' ⟨rfl, rfl⟩)
    go_ret
    exact ⟨rfl, Ext.refl _⟩
  · by_cases hz : band x s = 0
    · go_enter Try.func126, Try.ntmps126
      go_wp2_with (go_at_call 88; refine (has_c x i (by omega) (by omega) _).mono ?_; rintro e w' ⟨rfl, rfl⟩)
      go_ret
      exact ⟨by rw [hz]; rfl, Ext.refl _⟩
    · have HZ : Hid ((band x s == 0) = false) := beq_eq_false_iff_ne.2 hz
      have hz' : (((band x s : Nat) : Int) == 0) = false := by simp; omega
      go_enter Try.func126, Try.ntmps126
      go_wp2_with (go_at_call 88; refine (has_c x i (by omega) (by omega) _).mono ?_; rintro e w' ⟨rfl, rfl⟩)
      go_ret
      exact ⟨by rw [HZ.out]; rfl, Ext.refl _⟩

set_option maxRecDepth 100000 in
set_option maxHeartbeats 2000000 in
theorem poolClearI_c (items : Int) (v : Value) (xs : List Int) (d : Int) (w : World) (hv : Rd w v xs) (hm : xs.length ≤ 1048576) :
    Calls Try.prog 66 #[.int .i64 items, v, .int .i64 d] w fun e w' => e = .returned (.bool (poolClear items xs d)) ∧ Ext w w' := by
  obtain ⟨a, c, rfl⟩ := hv.form
  obtain ⟨W, hW, hx, hsz, c0, c1, f0, f1⟩ := two_new w (.slice a xs.length c) (.bool false) 22 4
  have HV := Lib.hid (hv.ext hx); clear hv
  have HM := Lib.hid hm
  have HW := Lib.hid hW
  have HX0 := Lib.hid hx
  have hlw : w.heap.size + 2 ≤ W.heap.size := by omega
  have V0 : Hid (Var W w.heap.size (.slice a xs.length c)) := ⟨c0, f0, by omega⟩
  have V1 : Hid (Var W (w.heap.size + 1) (.bool false)) := ⟨c1, f1, by omega⟩
  clear hW hx hsz c0 c1 f0 f1
  refine calls_marks Try.func66 rfl ?_
  simp only [Try.ntmps66, List.size_toArray, List.length_cons, List.length_nil, Nat.reduceAdd, Nat.reduceSub, Array.replicate_succ, Array.replicate_zero, List.push_toArray, List.append_toArray, List.nil_append, List.cons_append]
  cases h0 : poolIn items xs
  · rw [show poolClear items xs d = false from by unfold poolClear; rw [h0]; rfl]
    go_wp2_with fail
    rw [← HW.out]
    refine (poolInI_c _ _ _ _ HV.out HM.out).mono ?_
    rintro e w1 ⟨rfl, x1⟩
    have X1 := Lib.hid x1; clear x1
    obtain ⟨c1, f1, -⟩ := V1.out.ext X1.out
    go_wp2
    exact leave_bool rfl rfl ((V1.out.ext X1.out).set _).cell (Marks.nil _ _) ((HX0.out.trans X1.out).setCell (by show w.heap.size ≤ w.heap.size + 1; omega) _) rfl
  · cases hd : inB 0 d 3
    · rw [show poolClear items xs d = false from by unfold poolClear; rw [h0, hd]; rfl]
      go_wp2_with fail
      rw [← HW.out]
      refine (poolInI_c _ _ _ _ HV.out HM.out).mono ?_
      rintro e w1 ⟨rfl, x1⟩
      have X1 := Lib.hid x1; clear x1
      obtain ⟨c1, f1, -⟩ := V1.out.ext X1.out
      go_wp2_with (go_at_call 124; refine (isFew_c _ _).mono ?_; rintro e w' ⟨rfl, rfl⟩)
      exact leave_bool rfl rfl ((V1.out.ext X1.out).set _).cell (Marks.nil _ _) ((HX0.out.trans X1.out).setCell (by show w.heap.size ≤ w.heap.size + 1; omega) _) rfl
    · obtain ⟨n, rfl, hP⟩ := poolIn_iff.1 h0
      have hl := hP.len
      have hn := hP.le
      have HP := Lib.hid hP; clear hP
      obtain ⟨D, rfl⟩ : ∃ D : Nat, d = D := ⟨d.toNat, by have := inB_iff.1 hd; omega⟩
      rw [show poolClear n xs D = (List.range n).all (clearRow xs D (2 ^ n)) from by unfold poolClear; rw [h0, hd]; rfl]
      go_wp2_with fail
      rw [← HW.out]
      refine (poolInI_c _ _ _ _ HV.out HM.out).mono ?_
      rintro e w1 ⟨rfl, x1⟩
      have X1 := Lib.hid x1; clear x1
      have c4 := (V0.out.ext X1.out).cell
      go_wp2_with (go_at_call 124; refine (isFew_c _ _).mono ?_; rintro e w' ⟨rfl, rfl⟩)
      clear c4
      obtain ⟨Wa, hWa⟩ : ∃ V, V = w1.alloc (.cells #[.int .i64 (n : Int), .slice a xs.length c] 94) := ⟨_, rfl⟩
      rw [← hWa]
      have hsa : Wa.heap.size = w1.heap.size + 1 := by rw [hWa]; simp
      have hpa := two_cells (by rw [hWa]; exact World.alloc_heap_new w1 _ : Wa.heap[w1.heap.size]? = some (.cells #[.int .i64 (n : Int), .slice a xs.length c] 94 (0, 0)))
      have hxa : Ext W Wa := by rw [hWa]; exact X1.out.alloc _
      have HXA := Lib.hid hxa; have HPA := Lib.hid hpa
      have l1 : w1.heap.size < Wa.heap.size := by omega
      clear hWa hsa hpa hxa
      refine wp_loop_marks [8, 9, 23, 24, 25, 26, 27, 28, 29, 30, 31, 32, 33, 34, 35, 36, 37]
        (fun u ds wr => ∃ k : Nat, k ≤ n ∧ u 23 = .int .i64 k ∧ (∀ j, j < k → clearRow xs D (2 ^ n) j = true) ∧ Ext Wa wr ∧ Marks w.heap.size wr ds)
        (fun u _ => n - (intOf (u 23)).toNat) ⟨0, Nat.zero_le _, rfl, fun j hj => absurd hj (Nat.not_lt_zero j), Ext.refl _, Marks.nil _ _⟩ ?_
      rintro u ds w2 ⟨k, hk, hu, hj, hx, hm⟩ K HK
      simp only [fillFrom, List.contains_cons, List.contains_nil, Nat.reduceBEq, Nat.reduceAdd, Bool.or_false, Bool.or_true, if_true, if_false, Bool.false_eq_true, hu] at ⊢
      have HU := Lib.hid hu; have HM2 := Lib.hid hm; have HJ := Lib.hid hj; have HX := Lib.hid hx
      clear hu hm hj hx
      by_cases hlt : k < n
      · obtain ⟨V, hV⟩ : ∃ V, V = w2.alloc (.cells #[.int .i64 (k : Int)] 3) := ⟨_, rfl⟩
        have hxv : Ext w2 V := by rw [hV]; exact (Ext.refl _).alloc _
        have hvv : Var V w2.heap.size (.int .i64 k) := by rw [hV]; exact Var.new _ _ _
        have k1 : V.cell? ⟨w1.heap.size, 0, none⟩ = some (.int .i64 n) := ((HX.out.trans hxv).cell l1).trans HPA.out.1
        have k2 : V.cell? ⟨w1.heap.size, 1, none⟩ = some (.slice a xs.length c) := ((HX.out.trans hxv).cell l1).trans HPA.out.2
        rw [hV] at k1 k2
        have HXV := Lib.hid hxv; have HVV := Lib.hid hvv; have HVe := Lib.hid hV; clear hxv hvv hV
        go_wp2_with fail
        rw [← HVe.out]
        clear k1 k2
        refine (few_c _ _ _ _ _ _).mono ?_
        rintro e w' ⟨rfl, rfl⟩
        obtain ⟨W2, hW2⟩ : ∃ W2, W2 = (V.alloc (.cells #[.int .i64 (n : Int), .slice a xs.length c] 94)).alloc (.cells #[.int .i64 (D : Int)] 3) := ⟨_, rfl⟩
        rw [← hW2]
        have hx2 : Ext V W2 := by rw [hW2]; exact ((Ext.refl _).alloc _).alloc _
        have hq1 : W2.cell? ⟨V.heap.size, 0, none⟩ = some (.int .i64 n) := by
          rw [hW2]
          have h := (two_cells (World.alloc_heap_new V (.cells #[.int .i64 (n : Int), .slice a xs.length c] 94))).1
          exact (((Ext.refl _).alloc _).cell (by simp)).trans h
        have hq2 : W2.cell? ⟨V.heap.size + 1, 0, none⟩ = some (.int .i64 D) := by
          rw [hW2]
          have h := (Var.new (V.alloc (.cells #[.int .i64 (n : Int), .slice a xs.length c] 94)) (.int .i64 D) 3).cell
          rw [World.size_alloc] at h; exact h
        have hs2 : W2.heap.size = V.heap.size + 2 := by rw [hW2]; simp
        have HX2 := Lib.hid hx2; have HQ1 := Lib.hid hq1; have HQ2 := Lib.hid hq2
        have l2 : V.heap.size + 2 ≤ W2.heap.size := by omega
        have XW2 : Hid (Ext W W2) := HXA.out.trans (HX.out.trans (HXV.out.trans hx2))
        have HVV2 := Lib.hid (HVV.out.ext hx2)
        have HM3 := Lib.hid (HM2.out.ext (HXV.out.trans hx2))
        have HL2 : Hid (w2.heap.size ≤ W2.heap.size) := (HXV.out.trans hx2).size
        clear hW2 hx2 hq1 hq2 hs2
        go_wp2
        refine wp_range (few_iter V.heap.size (V.heap.size + 1) n D hn) rfl few_enters rfl
          (fun s W' => (∀ j, j < s → clearI xs D k j = true) ∧ Ext W2 W' ∧ Marks w.heap.size W' ds)
          (fun cc W' => cc = .ret ∧ (∃ s, s < 2 ^ n ∧ clearI xs D k s = false) ∧ Ext w W' ∧ Marks w.heap.size W' ds ∧ W'.cell? ⟨w.heap.size + 1, 0, none⟩ = some (.bool false))
          ?hI ?hIx ?hKi ?h0 ?hskip ?hround ?hdone ?hstop
        case hI =>
          rintro j W' W'' hB ⟨h1, h2, h3⟩
          exact ⟨h1, h2.book (Nat.le_refl _) hB, h3.book hB (fun k hk => by have := HM2.out.lt k hk; have := HL2.out; omega)⟩
        case hIx =>
          rintro cc W' W'' hB ⟨h1, h2, h3, h4, h5⟩
          exact ⟨h1, h2, h3.book ((HX0.out.trans XW2.out).size) hB, h4.book hB (fun k hk => by have := HM2.out.lt k hk; have := HL2.out; omega), hB.cell h5⟩
        case hKi =>
          rintro j W' ⟨_, h2, _⟩
          exact ⟨(h2.cell (by omega)).trans HQ1.out, (h2.cell (by omega)).trans HQ2.out, by have := h2.size; omega, by have := h2.size; omega⟩
        case h0 => exact ⟨fun j hj => absurd hj (Nat.not_lt_zero j), Ext.refl _, HM3.out⟩
        case hskip =>
          rintro j W' hj hp ⟨h1, h2⟩
          exact ⟨fun i hi => by
            by_cases h : i = j
            · subst h; unfold clearI; rw [hp]; rfl
            · exact h1 i (by omega), h2⟩
        case hround =>
          rintro l s W' hj hp ⟨h1, h2, h3⟩ hsz
          have H1 := Lib.hid h1; have H2 := Lib.hid h2; have H3 := Lib.hid h3; have HP1 := Lib.hid hp
          clear h1 h2 h3 hp
          have hj4 : s ≤ 4095 := by have := pow_le_12 hn; omega
          gi_wp2
          refine ⟨KeepsFrom.of_ext ((Ext.refl _).alloc _), fun W'' hB => ?_⟩
          have hE : Hid (Ext W2 W'') := (H2.out.alloc _).book (Nat.le_refl _) hB
          have hS := hB.cell (Var.new W' (.int .i64 (s : Int)) 3).cell
          have hSl : W'.heap.size < W''.heap.size := Nat.lt_of_lt_of_le (by simp) hB.size
          have hM := Lib.hid ((H3.out.ext ((Ext.refl _).alloc (.cells #[.int .i64 (s : Int)] 3))).book hB (fun k hk => by have := HM2.out.lt k hk; have := HL2.out; omega))
          have hI := (HVV2.out.ext hE.out).cell
          have hT := (V0.out.ext (XW2.out.trans hE.out)).cell
          clear hB H2 H3
          have hx1 : ∀ x, x ∈ xs → ∃ y : Nat, x = y ∧ y ≤ 4095 := fun x hx => by
            obtain ⟨i, hi, rfl⟩ := List.getElem_of_mem hx
            refine ⟨gN xs i, ?_, HP.out.small i⟩
            rw [← HP.out.row i hi]
            unfold getI
            simp [hi]
          have hl2 : w2.heap.size < W''.heap.size := Nat.lt_of_lt_of_le HVV2.out.lt hE.out.size
          have HCF := Lib.hid (containsFunc_c (.slice a xs.length c) xs 126 #[.pointer (some ⟨w2.heap.size, 0, none⟩), .pointer (some ⟨W'.heap.size, 0, none⟩)] (clearT k s) W'' (HV.out.ext (XW2.out.trans hE.out)) HM.out poolClear1_enters
            (fun x hx w' hx' => by
              obtain ⟨y, rfl, hy⟩ := hx1 x hx
              exact poolClear1_c y k s hy (by omega) hj4 w2.heap.size W'.heap.size w' ((hx'.cell hl2).trans hI) ((hx'.cell hSl).trans hS)))
          clear hx1
          have hmf : ∀ (fn : Fn) (first cap : Array Value) (w : World), (Instr.makeFunc fn first cap).run Try.prog w = .ok (.func fn first cap) w := fun _ _ _ _ => rfl
          have HHas := Lib.hid fun w => has_c s k (by omega) (by omega) w
          cases hb : s.testBit k
          · have HC : Hid (clearI xs D k s = xs.any (clearT k s)) := by unfold clearI Hid; rw [HP1.out, hb]; rfl
            gi_wp2_with (gi_at_call 88; refine (callsFW (HHas.out _)).mono ?_; rintro e w' ⟨rfl, rfl⟩)
            refine (callsFW HCF.out).mono ?_
            rintro e W3 ⟨rfl, x3⟩
            have X3 := Lib.hid x3; clear x3 hS hI hT
            cases ho : xs.any (clearT k s)
            · have HO := Lib.hid ho; clear ho
              have E3 := Lib.hid (XW2.out.trans (hE.out.trans X3.out))
              obtain ⟨c1, f1, -⟩ := V1.out.ext E3.out
              gi_wp2
              exact ⟨(KeepsFrom.of_ext X3.out).trans (KeepsFrom.setCell' _ _ _ _), rfl, ⟨s, hj, by rw [HC.out]; exact HO.out⟩, (HX0.out.trans E3.out).setCell (by show w.heap.size ≤ w.heap.size + 1; omega) _, (hM.out.ext X3.out).setCell _ _, ((V1.out.ext E3.out).set _).cell⟩
            · have HO := Lib.hid ho; clear ho
              gi_wp2
              exact ⟨KeepsFrom.of_ext X3.out, fun i hi => by
                by_cases h : i = s
                · subst h; rw [HC.out]; exact HO.out
                · exact H1.out i (by omega), hE.out.trans X3.out, hM.out.ext X3.out⟩
          · have HC : Hid (clearI xs D k s = true) := by unfold clearI Hid; rw [hb, Bool.not_true, Bool.and_false]; rfl
            gi_wp2_with (gi_at_call 88; refine (callsFW (HHas.out _)).mono ?_; rintro e w' ⟨rfl, rfl⟩)
            exact ⟨KeepsFrom.refl _ _, fun i hi => by
              by_cases h : i = s
              · subst h; exact HC.out
              · exact H1.out i (by omega), hE.out, hM.out⟩
        case hdone =>
          rintro D' W' hD ⟨h1, h2, h3⟩ hDD
          have H1 := Lib.hid h1; have H2 := Lib.hid h2; have H3 := Lib.hid h3; have HD := Lib.hid hDD; clear h1 h2 h3 hDD
          go_wp2
          refine HK.out _ _ _ rfl ⟨k + 1, by omega, by go_num, fun i hi => ?_, HX.out.trans (HXV.out.trans (HX2.out.trans H2.out)), H3.out.cons (n := W2.heap.size) (fun k hk => by have := HM2.out.lt k hk; have := HL2.out; omega) hD (Nat.le_trans ((HX0.out.trans XW2.out).size) hD) HD.out⟩ (by simp [intOf, HU.out]; omega)
          by_cases h : i = k
          · subst h; exact range_all_true H1.out
          · exact HJ.out i (by omega)
        case hstop =>
          rintro D' cc W' hD ⟨rfl, ⟨s, h2, h2'⟩, h3, h4, h5⟩ hDD
          go_wp2
          exact leave_bool rfl rfl h5 (h4.cons (n := W2.heap.size) (fun k hk => by have := HM2.out.lt k hk; have := HL2.out; omega) hD (Nat.le_trans ((HX0.out.trans XW2.out).size) hD) hDD) h3 (range_all_false hlt (range_all_false h2 h2')).symm
      · obtain rfl : k = n := by omega
        obtain ⟨c1, f1, -⟩ := V1.out.ext (HXA.out.trans HX.out)
        go_wp2
        exact leave_bool rfl rfl ((V1.out.ext (HXA.out.trans HX.out)).set _).cell (HM2.out.setCell _ _) ((HX0.out.trans (HXA.out.trans HX.out)).setCell (by show w.heap.size ≤ w.heap.size + 1; omega) _) (range_all_true HJ.out).symm
end Go.Proofs.Ytnpkkfaidejljaa
