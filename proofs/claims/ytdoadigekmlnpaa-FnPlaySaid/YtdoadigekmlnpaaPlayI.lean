/- Played questions: the program computes the plain lists. The condition: the list has at most 2^20 numbers. -/
import Derived.Test.YtdoadigekmlnpaaPlay
namespace Go.Proofs.Ytdoadigekmlnpaa
open Go.RowKit
open BigFrame

theorem AskOk.below {w0 w w' : World} {b : Nat} {v : Value} {g : List Int} (h : AskOk w0 b v g w) (hb : w0.heap.size ≤ b) (hx : Below (b + 2) w w') : AskOk w0 b v g w' := by
  obtain ⟨f, ⟨es, clock, hh, hf⟩, hk⟩ := h.map
  have hsz := h.size
  refine ⟨⟨f, ⟨es, clock, (Below.block hx b (by omega)).trans hh, hf⟩, hk⟩, (Below.cell (p := ⟨b + 1, 0, none⟩) hx (by show b + 1 < b + 2; omega)).trans h.graph, (Below.cell (p := ⟨b + 1, 1, none⟩) hx (by show b + 1 < b + 2; omega)).trans h.known, Nat.lt_of_lt_of_le hsz (Below.size hx), ?_⟩
  exact ⟨hx.os.trans h.ext.os, hx.tape.trans h.ext.tape, hx.output.trans h.ext.output, Nat.le_trans h.ext.size hx.size, fun i hi => (Below.block hx i (by omega)).trans (h.ext.block hi)⟩
theorem canPlay_snd (g : List Int) (x : Int) : (askPlay g x).2 = canPlay g x ∧ (askAns g x).2 = canPlay g x := by
  unfold askPlay askAns
  cases canPlay g x <;> exact ⟨rfl, rfl⟩
theorem askPlayS_c (v : Value) (g : List Int) (x : Int) (w : World) (hv : Rd w v g) (hm : g.length ≤ 1048576) :
    Calls Try.prog 36 #[v, .int .i64 x] w fun e w' => ∃ v', e = .returned (listV v' (askPlay g x).2) ∧ Own w' w.heap.size v' (askPlay g x).1 ∧ Ext w w' := by
  obtain ⟨a, c, rfl⟩ := hv.form
  have HC := Lib.hid (l6qPlay_c _ g x w hv hm)
  clear hv hm
  go_enter Try.func36, Try.ntmps36
  go_wp2_with fail
  refine HC.out.mono ?_
  rintro e w1 ⟨v', rfl, o1, x1⟩
  have O1 := Lib.hid o1; have X1 := Lib.hid x1; clear o1 x1
  unfold playV
  go_wp2
  go_ret2
  exact ⟨_, by rw [(canPlay_snd g x).1]; rfl, O1.out, X1.out⟩
theorem askAnsS_c (v : Value) (g : List Int) (x : Int) (w : World) (hv : Rd w v g) (hm : g.length ≤ 1048576) :
    Calls Try.prog 23 #[v, .int .i64 x] w fun e w' => e = .returned (.tuple #[.string (askAns g x).1, .bool (askAns g x).2]) ∧ Ext w w' := by
  obtain ⟨a, c, rfl⟩ := hv.form
  have HC := Lib.hid (l6qPlay_c _ g x w hv hm)
  clear hv hm
  go_enter Try.func23, Try.ntmps23
  go_wp2_with fail
  refine HC.out.mono ?_
  rintro e w1 ⟨v', rfl, -, x1⟩
  have X1 := Lib.hid x1; clear x1
  unfold playV
  go_wp2
  go_ret2
  exact ⟨by rw [(canPlay_snd g x).2]; rfl, X1.out⟩

set_option maxRecDepth 100000 in
set_option maxHeartbeats 2000000 in
theorem askPlayI_c (v : Value) (g : List Int) (x : Int) (w : World) (hv : Rd w v g) (hm : g.length ≤ 1048576) :
    Calls Try.prog 24 #[v, .int .i64 x] w fun e w' => ∃ v', e = .returned (listV v' (askPlay g x).2) ∧ Own w' w.heap.size v' (askPlay g x).1 ∧ Ext w w' := by
  obtain ⟨a, c, rfl⟩ := hv.form
  have HV := Lib.hid hv
  have HM := Lib.hid hm
  clear hv
  cases h0 : graphIn g
  · have HK : Hid (canPlay g x = false) := by unfold Hid canPlay; rw [h0]; rfl
    rw [show askPlay g x = ([], false) from by unfold askPlay; rw [HK.out]; rfl]
    go_enter Try.func24, Try.ntmps24
    go_wp2_with (go_at_call 76; refine (graphInI_c _ _ _ HV.out HM.out).mono ?_; rintro e w1 ⟨rfl, x1⟩)
    go_ret2
    exact ⟨_, rfl, Own.nil _ _, by assumption⟩
  · have hG := graphIn_iff.1 h0
    have hl := hG.le
    have hl1 := hG.pos
    have HG := Lib.hid hG
    cases hx : inB 0 x ((g.length : Int) - 1)
    · have HK : Hid (canPlay g x = false) := by unfold Hid canPlay; rw [hx, Bool.and_false]; rfl
      rw [show askPlay g x = ([], false) from by unfold askPlay; rw [HK.out]; rfl]
      clear hG
      go_enter Try.func24, Try.ntmps24
      go_wp2_with fail
      refine (graphInI_c _ _ _ HV.out HM.out).mono ?_
      rintro e w1 ⟨rfl, x1⟩
      have X1 := Lib.hid x1; clear x1
      go_wp2_with (go_at_call 77; refine (isNode_c _ g _ _ (HV.out.ext X1.out) HM.out).mono ?_; rintro e w' ⟨rfl, rfl⟩)
      go_ret2
      exact ⟨_, rfl, Own.nil _ _, X1.out⟩
    · obtain ⟨y, rfl, hy⟩ := node_iff.1 hx
      have hst := PlayAt.start (x := y) hG
      obtain ⟨p, hp⟩ : ∃ p : Nat, 2 ^ g.length = p := ⟨_, rfl⟩
      have hp4 : p ≤ 4096 := by rw [← hp]; exact pow_le_12 hl
      have hp5 : 2 ≤ p := by rw [← hp]; exact Nat.pow_le_pow_right (n := 2) (i := 1) (by omega) hl1
      have HCP : Hid (canPlay g y = decide (dep g (p - 1) < 99)) := by unfold Hid canPlay; rw [h0, hx, hp]; rfl
      have HPL : Hid (askPlay g y = if canPlay g y then (played g y 99 (p - 1), true) else ([], false)) := by unfold Hid askPlay; rw [hp]; rfl
      rw [hp] at hst
      have HST := Lib.hid hst
      have HP := Lib.hid hp
      have HAL := Lib.hid fun w hw => all_c (.slice a g.length c) g w hw hl
      rw [hp] at HAL
      have hdl := dep_le g (p - 1)
      clear hst hp hG
      go_enter Try.func24, Try.ntmps24
      go_wp2_with fail
      refine (graphInI_c _ _ _ HV.out HM.out).mono ?_
      rintro e w1 ⟨rfl, x1⟩
      have X1 := Lib.hid x1; clear x1
      go_wp2_with (go_at_call 77; refine (isNode_c _ g _ _ (HV.out.ext X1.out) HM.out).mono ?_; rintro e w' ⟨rfl, rfl⟩)
      refine (askerOf_c _ g _ (HV.out.ext X1.out)).mono ?_
      rintro e w2 ⟨rfl, ia, x2⟩
      have ha := AskOk.of (g := g) ia x2
      have c0 := ha.graph
      have A2 := Lib.hid ha; clear ia x2 ha
      go_wp2_with fail
      refine (HAL.out _ ((HV.out.ext X1.out).ext A2.out.ext)).mono ?_
      rintro e w' ⟨rfl, rfl⟩
      clear c0
      go_wp2_with fail
      refine (depth_c (HV.out.ext X1.out) HG.out (Nat.le_refl _) (p - 1) (by omega) (by omega) A2.out).mono ?_
      rintro e w3 ⟨rfl, a3, -⟩
      have A3 := Lib.hid a3; clear a3 A2
      by_cases hd : dep g (p - 1) = 99
      · have hd' : ¬ dep g (p - 1) < 99 := by omega
        have HPL2 : Hid (askPlay g y = ([], false)) := by unfold Hid; rw [HPL.out, HCP.out, decide_eq_false hd']; rfl
        have HN : Hid ((never (dep g (p - 1)) : Nat) = 1048576) := (never_eq hdl).2 hd
        rw [HN.out]
        clear hd hd' hdl
        go_wp2
        go_ret2
        exact ⟨.slice none 0 0, by rw [HPL2.out]; rfl, by rw [HPL2.out]; exact Own.nil _ _, X1.out.trans A3.out.ext⟩
      · have hd' : dep g (p - 1) < 99 := by omega
        have hds := dep_small (show p - 1 ≤ 4095 by omega) hd
        have HPL2 : Hid (askPlay g y = (played g y 99 (p - 1), true)) := by unfold Hid; rw [HPL.out, HCP.out, decide_eq_true hd']; rfl
        have HN : Hid ((never (dep g (p - 1)) : Nat) = dep g (p - 1)) := by unfold Hid never; rw [if_neg hd]
        rw [HN.out]
        obtain ⟨D, hD⟩ : ∃ D, D = dep g (p - 1) := ⟨_, rfl⟩
        rw [← hD] at hds
        rw [← hD]
        have hb : ((D : Int) == 1048576) = false := by simp; omega
        have HS2 := Lib.hid (HST.out hd')
        clear hd hd' hdl hD
        go_wp2
        clear hb hds
        have hsz1 : w1.heap.size + 2 ≤ w3.heap.size := A3.out.size
        go_loopw [7, 8] (fun st vl wr => ∃ (d s : Nat) (done : List Int) (bs : ByteArray), st = .int .i64 s ∧ Hid (PlayAt g y d s done bs) ∧ Hid (Own wr (w1.heap.size + 2) vl done) ∧ Hid (AskOk w1 w1.heap.size (.slice a g.length c) g wr)) (fun st _ _ => dep g (intOf st).toNat)
        case atStart => exact ⟨99, p - 1, [], ⟨#[]⟩, by go_num, HS2.out, Own.nil _ _, A3.out⟩
        case round =>
          clear HS2 A3 hsz1
          obtain ⟨d, s, done, bs, rfl, HPA, HO, HA⟩ := hrel
          have hpa := HPA.out
          have hs4 := hpa.set
          have hd99 := hpa.dep
          have hp1 := dep_pos (g := g) hs4 hpa.ne
          have hcz := mt (cnt_zero hs4).1 hpa.ne
          have HS := Lib.hid (sizeC s hs4)
          by_cases hz : dep g s = 0
          · have HF : Hid (done = played g y 99 (p - 1) ∧ bs = ⟨(playS g y 99 (p - 1)).toArray⟩) := by have := hpa.fin hz; rw [HP.out] at this; exact this
            have hc1 := hp1.1 hz
            have HS1 : Hid (∀ w, Calls Try.prog 81 #[.int .i64 s] w fun e w' => e = .returned (.int .i64 1) ∧ w = w') := fun w => by have := HS.out w; rw [hc1] at this; exact this
            clear hpa hz hd99 hp1 hcz hc1
            go_wp2_with (go_at_call 81; refine (HS1.out _).mono ?_; rintro e w' ⟨rfl, rfl⟩)
            go_ret2
            refine ⟨u8, by rw [HPL2.out]; rfl, ?_, X1.out.trans HA.out.ext⟩
            rw [HPL2.out]
            show Own _ _ _ (played g y 99 (p - 1))
            rw [← HF.out.1]
            exact HO.out.mono (by have := X1.out.size; omega)
          · obtain ⟨d', rfl, hn1, hn2⟩ := hpa.next hz
            have hbg := (best_good hs4 hd99 hz).2
            have hfacts := next_facts (wrong := y) hs4 hd99 hz
            have HM1 : Hid ((qIn g s (bestOf g s)).testBit y = true → dep g (qIn g s (bestOf g s)) < dep g s) := fun h => by
              have := hfacts.2.2; unfold nextOf at this; rwa [if_pos h] at this
            have HM2 : Hid ((qIn g s (bestOf g s)).testBit y = false → dep g (without s (qIn g s (bestOf g s))) < dep g s) := fun h => by
              have := hfacts.2.2; unfold nextOf at this; rwa [if_neg (by rw [h]; decide)] at this
            have HB := Lib.hid (best_c (HV.out.ext X1.out) HG.out (Nat.le_refl _) s hs4 hpa.ne hd99 hz HA.out)
            have HN1 := Lib.hid hn1; have HN2 := Lib.hid hn2
            have hlen := hpa.done_le
            have hcn : 1 < cnt s := by
              have := mt hp1.2 hz
              omega
            obtain ⟨B, hB⟩ : ∃ B, B = bestOf g s := ⟨_, rfl⟩
            rw [← hB] at hbg HM1 HM2 HB HN1 HN2
            have hI4 : qIn g s B ≤ 4095 := Nat.le_trans (qIn_le _ _ _) hs4
            have HQ := Lib.hid fun w (hA : AskOk w1 w1.heap.size (.slice a g.length c) g w) => (hA.is.elim fun f hf => split_c w1.heap.size (.slice a g.length c) f g s B w hf ((HV.out.ext X1.out).ext hA.ext) HG.out hs4 hbg)
            obtain ⟨I, hI⟩ : ∃ I, I = qIn g s B := ⟨_, rfl⟩
            rw [← hI] at HM1 HM2 HN1 HN2 hI4 HQ
            obtain ⟨O, hO⟩ : ∃ O, O = without s I := ⟨_, rfl⟩
            rw [← hO] at HM2 HN2 HQ
            have HDI := Lib.hid (rfl : dep g s = dep g s)
            have HBT := Lib.hid (has_c I y (by omega) (by omega))
            clear hpa hn1 hn2 hfacts hB hI hO hz hd99 hp1
            go_wp2_with (go_at_call 81; refine (HS.out _).mono ?_; rintro e w' ⟨rfl, rfl⟩)
            refine HB.out.mono ?_
            rintro e w4 ⟨rfl, a4, u4⟩
            have A4 := Lib.hid a4; have O4 := Lib.hid (HO.out.upd (show w1.heap.size < w1.heap.size + 2 by omega) u4)
            have hsz4 : w1.heap.size + 2 ≤ w4.heap.size := a4.size
            clear a4 u4
            go_wp2_with (at_builtin; refine wpList_append_int2 rfl _ _ rfl (w1.heap.size + 2) _ _ rfl (O4.out.alloc _) w4.heap.size _ rfl (one_cell _ _ _) (by omega) (by simp; omega) ?_; intro v' w5 ho5 hg5 hn5)
            have A5 : Hid (AskOk w1 w1.heap.size (.slice a g.length c) g w5) := A4.out.below (Nat.le_refl _) (Below.grown (Below.alloc (Below.refl _ _) hsz4 _) hg5 (by simp; omega) (fun k hk => (O4.out.lt k hk).1))
            have O5 := Lib.hid ho5
            clear ho5 hg5 hn5
            go_wp2_with fail
            refine (HQ.out _ A5.out).mono ?_
            rintro e w6 ⟨rfl, x6⟩
            have A6 := Lib.hid (A5.out.next x6); have O6 := Lib.hid (O5.out.ext x6); clear x6
            cases hbt : I.testBit y
            · have HNX := Lib.hid (HN2.out hbt)
              have HMX := Lib.hid (HM2.out hbt)
              rw [hbt] at HBT
              clear hbt
              go_wp2_with (go_at_call 71; refine (HBT.out _).mono ?_; rintro e w' ⟨rfl, rfl⟩)
              go_roundw
              case rel => exact ⟨d', O, _, _, rfl, HNX.out, O6.out, A6.out⟩
              case measure => simp only [intOf, Int.toNat_natCast]; exact HMX.out
            · have HNX := Lib.hid (HN1.out hbt)
              have HMX := Lib.hid (HM1.out hbt)
              rw [hbt] at HBT
              clear hbt
              go_wp2_with (go_at_call 71; refine (HBT.out _).mono ?_; rintro e w' ⟨rfl, rfl⟩)
              go_roundw
              case rel => exact ⟨d', I, _, _, rfl, HNX.out, O6.out, A6.out⟩
              case measure => simp only [intOf, Int.toNat_natCast]; exact HMX.out
end Go.Proofs.Ytdoadigekmlnpaa
