/- The walk of the law FnAskAnswers: answers are true. No condition. -/
import Derived.Test.YtdoadigekmlnpaaDNode
import Derived.Test.YtdoadigekmlnpaaPlayA
import Derived.Test.YtdoadigekmlnpaaPlayI
import Derived.Test.YtdoadigekmlnpaaFound
namespace Go.Proofs.Ytdoadigekmlnpaa
open Go.RowKit
open BigFrame

theorem ans_all {g : List Int} {x : Int} : askAns g x = (⟨#[]⟩, false) ∨ ∃ (y : Nat) (l : List Int) (sd : ByteArray), x = y ∧ y ≤ 11 ∧ IsGraph g ∧ askAns g (y : Int) = (sd, true) ∧ askPlay g (y : Int) = (l, true) ∧ l.length ≤ 99 ∧ sd.size = l.length ∧ ∀ k, k < l.length → ∃ z : Nat, z < g.length ∧ getI l k = z ∧ byteAt sd k = if (ballN g z).testBit y then 121 else 110 := by
  cases hc : canPlay g x
  · exact .inl (by unfold askAns; rw [hc]; rfl)
  · have hc' := hc
    unfold canPlay at hc'
    rw [Bool.and_eq_true, Bool.and_eq_true, decide_eq_true_iff] at hc'
    obtain ⟨⟨h1, h2⟩, hd⟩ := hc'
    have hG := graphIn_iff.1 h1
    obtain ⟨y, rfl, hy⟩ := node_iff.1 h2
    have hl := hG.le
    have hp := pow_le_12 hl
    have hpos := hG.pos
    have h2p : 2 ^ 1 ≤ 2 ^ g.length := Nat.pow_le_pow_right (by omega) hpos
    have hb : (2 ^ g.length - 1).testBit y = true := by rw [Nat.testBit_two_pow_sub_one, decide_eq_true_iff]; exact hy
    have hm := playS_map (g := g) (x := y) 99 (2 ^ g.length - 1) (by omega) hd hb
    have hlt := play_lt (g := g) (x := y) 99 (2 ^ g.length - 1) (by omega) hd (by omega)
    have hlen := (play_length g y 99 (2 ^ g.length - 1)).1
    have ea : askAns g (y : Int) = (⟨(playS g y 99 (2 ^ g.length - 1)).toArray⟩, true) := by unfold askAns; rw [hc]; rfl
    have ep : askPlay g (y : Int) = (played g y 99 (2 ^ g.length - 1), true) := by unfold askPlay; rw [hc]; rfl
    rw [hm] at ea
    unfold played at ep
    generalize play g y 99 (2 ^ g.length - 1) = l at ea ep hlt hlen
    refine .inr ⟨y, _, _, rfl, by omega, hG, ea, ep, by simpa using hlen, by simp [ByteArray.size], fun k hk => ?_⟩
    rw [List.length_map] at hk
    refine ⟨l[k], hlt _ (List.getElem_mem hk), by simp [getI, hk], ?_⟩
    unfold byteAt
    rw [dif_pos (by simp [ByteArray.size]; exact hk)]
    simp only [ByteArray.getElem_eq_getElem_data, List.getElem_toArray, List.getElem_map]
    unfold ansB
    split <;> rfl

set_option maxRecDepth 100000 in
set_option maxHeartbeats 2000000 in
theorem FnAskAnswers_walk (v : Value) (bs : List Int) (w : World) (hv : Rb w v bs) :
    Calls Try.prog 4 #[v] w fun e w' => e = .returned (.bool true) ∧ Below w.heap.size w w' := by
  have HV := Lib.hid hv
  obtain ⟨a, c, rfl, -, -⟩ := hv
  go_enter Try.func4, Try.ntmps4
  by_cases hl : bs.length ≤ 1048576
  · go_wp2_with fail
    refine (drawAskAnswers_c _ bs w HV.out hl).mono ?_
    rintro e w1 ⟨v1, gs, x, rfl, hn1, hn7, hx1, hx2, r1, x1⟩
    obtain ⟨a1, c1, rfl⟩ := r1.form
    have hm : gs.length ≤ 1048576 := by omega
    have R1 := Lib.hid r1; have X1 := Lib.hid x1
    clear r1 x1
    rcases ans_all (g := gs) (x := x) with h0 | ⟨y, l, sd, rfl, hy11, hG, hA, hP, hll, hsz, hK⟩
    · have H0 := Lib.hid h0
      clear h0
      go_wp2_with fail
      refine (askAnsI_c _ gs x w1 R1.out hm).mono ?_
      rintro e w2 ⟨rfl, x2⟩
      rw [H0.out]
      have R2 := Lib.hid (R1.out.ext x2); have X2 := Lib.hid (X1.out.trans x2); clear x2
      go_wp2_with fail
      refine (askAnsS_c _ gs x w2 R2.out hm).mono ?_
      rintro e w3 ⟨rfl, x3⟩
      rw [H0.out]
      have X3 := Lib.hid (X2.out.trans x3); clear x3
      go_wp2
      go_ret
      exact ⟨rfl, X3.out⟩
    · have HA := Lib.hid hA; have HP := Lib.hid hP; have HK := Lib.hid hK; have HG := Lib.hid hG; have HSZ := Lib.hid hsz
      clear hA hP hK hG hsz hx1 hx2
      go_wp2_with fail
      refine (askAnsI_c _ gs y w1 R1.out hm).mono ?_
      rintro e w2 ⟨rfl, x2⟩
      rw [HA.out]
      have R2 := Lib.hid (R1.out.ext x2); have X2 := Lib.hid (X1.out.trans x2); clear x2
      go_wp2_with fail
      refine (askAnsS_c _ gs y w2 R2.out hm).mono ?_
      rintro e w3 ⟨rfl, x3⟩
      rw [HA.out]
      have R3 := Lib.hid (R2.out.ext x3); have X3 := Lib.hid (X2.out.trans x3); clear x3
      go_wp2_with fail
      refine (askPlayI_c _ gs y w3 R3.out hm).mono ?_
      rintro e w4 ⟨v4, rfl, o4, x4⟩
      rw [HP.out] at o4 ⊢
      unfold listV
      obtain ⟨a4, c4, rfl⟩ := o4.rd.form
      have R4 := Lib.hid (R3.out.ext x4); have X4 := Lib.hid (X3.out.trans x4); have L4 := Lib.hid o4.rd; clear x4 o4
      go_wp2_with fail
      refine (graphBallsI_c _ gs w4 R4.out HG.out).mono ?_
      rintro e w5 ⟨v5, rfl, b5, x5⟩
      obtain ⟨a5, c5, rfl⟩ := b5.form
      rw [show (ballsTo gs gs.length).length = gs.length from ballsTo_length _ _] at b5 ⊢
      have B5 := Lib.hid b5; have L5 := Lib.hid (L4.out.ext x5); have X5 := Lib.hid (X4.out.trans x5)
      clear x5 b5
      go_wp2
      go_loopw [13] (fun i wr => ∃ k : Nat, k ≤ l.length ∧ i = .int .i64 k ∧ Hid (Ext w5 wr)) (fun i _ => l.length - (intOf i).toNat)
      case atStart => exact ⟨0, Nat.zero_le _, rfl, Ext.refl _⟩
      case round =>
        obtain ⟨k, hk, rfl, HX⟩ := hrel
        by_cases hlt : k < l.length
        · obtain ⟨z, hz, hgz, hbz⟩ := HK.out k hlt
          obtain ⟨bl, ol, rfl, -, -, hcl⟩ := L5.out.atI hlt
          obtain ⟨bb, ob, rfl, -, -, hcb⟩ := B5.out.atI hz
          have cl := fun u => hcl _ (HX.out.trans (clip_ext wr u))
          have cb := fun u => hcb _ (HX.out.trans (clip_ext wr u))
          rw [hgz] at cl
          unfold getI at cb
          rw [ballsTo_get gs gs.length z hz] at cb
          obtain ⟨B, hB⟩ : ∃ B, B = ballN gs z := ⟨_, rfl⟩
          have hBs : B ≤ 4095 := by rw [hB]; exact ballN_small HG.out hz
          rw [← hB] at cb hbz
          have hks : k < sd.size := by rw [HSZ.out]; exact hlt
          have hsb : (sd[k]'hks).toNat = byteAt sd k := by unfold byteAt; rw [dif_pos hks]
          rw [hbz] at hsb
          have e0 : min y 64 = y := by omega
          have e1 := div_pow_nat B y
          have e2 : bits .and .i64 (shr B y : Int) 1 = (band (shr B y) 1 : Int) := bits_and (shr B y) 1 (Nat.lt_of_le_of_lt (Nat.shiftRight_le _ _) (by omega)) (by omega)
          have e3 := testBit_shift B y
          obtain ⟨T, hT⟩ : ∃ T, B.testBit y = T := ⟨_, rfl⟩
          rw [hT] at hsb e3
          have HX6 := Lib.hid fun u => HX.out.trans (clip_ext wr u)
          clear hcl hcb hgz hbz hB hT
          cases T
          · have hsb' : (sd[k]'hks).toNat = 110 := hsb
            clear hsb
            go_wp2
            refine wp_region_ext (by kernel_rfl) (by kernel_rfl) ?_
            repeat (go_big_quiet_step (fail))
            refine wpQuiet_nil ?_
            rintro _ ⟨u, rfl⟩
            go_wp2
            go_roundw
            case rel => exact ⟨k + 1, by omega, by go_num, HX6.out u⟩
            case measure => simp [intOf]; omega
          · have hsb' : (sd[k]'hks).toNat = 121 := hsb
            clear hsb
            go_wp2
            refine wp_region_ext (by kernel_rfl) (by kernel_rfl) ?_
            repeat (go_big_quiet_step (fail))
            refine wpQuiet_nil ?_
            rintro _ ⟨u, rfl⟩
            go_wp2
            go_roundw
            case rel => exact ⟨k + 1, by omega, by go_num, HX6.out u⟩
            case measure => simp [intOf]; omega
        · obtain rfl : k = l.length := by omega
          have hsz : ((l.length : Int) == (sd.size : Int)) = true := by rw [HSZ.out]; simp
          go_wp2
          go_ret
          exact ⟨rfl, X5.out.trans HX.out⟩
  · go_wp2
    go_ret
    exact ⟨rfl, Below.refl _ _⟩
end Go.Proofs.Ytdoadigekmlnpaa
