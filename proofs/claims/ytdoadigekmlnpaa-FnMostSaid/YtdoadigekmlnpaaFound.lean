/- What questions and answers leave: the reference and the program compute the same plain function. The condition: both lists have at most 2^20 numbers. -/
import Derived.Test.YtdoadigekmlnpaaAns
import Derived.Test.YtdoadigekmlnpaaAsker
namespace Go.Proofs.Ytdoadigekmlnpaa
open Go.RowKit
open BigFrame

def byteAt (s : ByteArray) (k : Nat) : Nat := if h : k < s.size then (s[k]'h).toNat else 0
/-- What is left behind one question. -/
def foundNext (g : List Int) (s : Nat) (x : Int) (c : Nat) : Option Nat :=
  if inB 0 x ((g.length : Int) - 1) then if c = 121 then some (qIn g s x.toNat) else if c = 110 then some (without s (qIn g s x.toNat)) else none else none
def foundTo (g asked : List Int) (said : ByteArray) : Nat → Option Nat
  | 0 => some (2 ^ g.length - 1)
  | k + 1 => (foundTo g asked said k).bind fun s => foundNext g s (getI asked k) (byteAt said k)
theorem foundTo_none {g asked : List Int} {said : ByteArray} {k : Nat} (h : foundTo g asked said k = none) : ∀ d, foundTo g asked said (k + d) = none
  | 0 => h
  | d + 1 => by
    have := foundTo_none h d
    show (foundTo g asked said (k + d)).bind _ = none
    rw [this]; rfl
def pairOf : Option Nat → Int × Bool
  | some s => ((s : Nat), true)
  | none => (0, false)
def askFound (g asked : List Int) (said : ByteArray) : Int × Bool :=
  if graphIn g && decide (asked.length = said.size) && decide (asked.length ≤ 20) then pairOf (foundTo g asked said asked.length) else (0, false)
theorem foundNext_le {g : List Int} {s t : Nat} {x : Int} {c : Nat} (hs : s ≤ 4095) (h : foundNext g s x c = some t) : t ≤ 4095 := by
  unfold foundNext at h
  split at h
  · split at h
    · cases h; exact Nat.le_trans (qIn_le _ _ _) hs
    · split at h
      · cases h; exact without_le _ _ hs
      · cases h
  · cases h
theorem found_stop {g asked : List Int} {said : ByteArray} {k s : Nat} (hk : k < asked.length) (h : foundTo g asked said k = some s) (h' : foundNext g s (getI asked k) (byteAt said k) = none) :
    pairOf (foundTo g asked said asked.length) = (0, false) := by
  have e : foundTo g asked said (k + 1) = none := by show (foundTo g asked said k).bind _ = none; rw [h]; exact h'
  have := foundTo_none e (asked.length - (k + 1))
  rw [show k + 1 + (asked.length - (k + 1)) = asked.length from by omega] at this
  rw [this]; rfl
theorem found_go {g asked : List Int} {said : ByteArray} {k s t : Nat} (h : foundTo g asked said k = some s) (h' : foundNext g s (getI asked k) (byteAt said k) = some t) : foundTo g asked said (k + 1) = some t := by
  show (foundTo g asked said k).bind _ = some t
  rw [h]; exact h'

theorem all_c (v : Value) (g : List Int) (w : World) (hv : Rd w v g) (hg : g.length ≤ 12) :
    Calls Try.prog 79 #[v] w fun e w' => e = .returned (.int .i64 ((2 ^ g.length - 1 : Nat) : Int)) ∧ w = w' := by
  obtain ⟨a, c, rfl⟩ := hv.form
  clear hv
  obtain ⟨p, hp, hp1, hp2, hp3⟩ := pow_var g.length (by omega)
  have e0 : min g.length 64 = g.length := by omega
  rw [hp]
  clear hp
  go_enter Try.func79, Try.ntmps79
  go_wp2
  go_ret
  exact ⟨ret_int (by omega), rfl⟩

set_option maxHeartbeats 1000000 in
theorem askFoundI_c (v v' : Value) (g asked : List Int) (said : ByteArray) (w : World) (hv : Rd w v g) (hv' : Rd w v' asked) (hm : g.length ≤ 1048576) (hm' : asked.length ≤ 1048576) :
    Calls Try.prog 38 #[v, v', .string said] w fun e w' => e = .returned (pairV (askFound g asked said)) ∧ Ext w w' := by
  obtain ⟨a, c, rfl⟩ := hv.form
  obtain ⟨a', c', rfl⟩ := hv'.form
  have HV := Lib.hid hv; have HV' := Lib.hid hv'; clear hv hv'
  have HM := Lib.hid hm
  cases h0 : graphIn g
  · rw [show askFound g asked said = (0, false) from by unfold askFound; rw [h0]; rfl]
    go_enter Try.func38, Try.ntmps38
    go_wp2_with (go_at_call 76; refine (graphInI_c _ _ _ HV.out HM.out).mono ?_; rintro e w1 ⟨rfl, x1⟩)
    go_ret2
    exact ⟨rfl, by assumption⟩
  · by_cases h2 : asked.length ≤ 20
    · by_cases h1 : said.size = asked.length
      · rw [show askFound g asked said = pairOf (foundTo g asked said asked.length) from by unfold askFound; rw [h0, decide_eq_true h1.symm, decide_eq_true h2]; rfl]
        have hG := graphIn_iff.1 h0
        have hl := hG.le
        have hl1 := hG.pos
        have HG := Lib.hid hG
        clear hG
        have h3 : ((said.size : Int) != (asked.length : Int)) = false := by rw [h1]; simp
        have HL := Lib.hid (pow_le_12 hl)
        go_enter Try.func38, Try.ntmps38
        go_wp2_with fail
        refine (graphInI_c _ _ _ HV.out HM.out).mono ?_
        rintro e w1 ⟨rfl, x1⟩
        have X1 := Lib.hid x1; clear x1
        go_wp2_with fail
        refine (askerOf_c _ g _ (HV.out.ext X1.out)).mono ?_
        rintro e w2 ⟨rfl, a2, x2⟩
        have A2 := Lib.hid a2; have X2 := Lib.hid (X1.out.trans x2); have c2 := a2.graph; clear a2 x2
        go_wp2_with (go_at_call 79; refine (all_c _ g _ (HV.out.ext X2.out) hl).mono ?_; rintro e w3 ⟨rfl, rfl⟩)
        clear c2
        go_loopw [9, 38] (fun o i wr => ∃ k s : Nat, k ≤ asked.length ∧ s ≤ 4095 ∧ i = .int .i64 k ∧ o = .int .i64 s ∧ Hid (foundTo g asked said k = some s) ∧ Ext w2 wr) (fun _ i _ => asked.length - (intOf i).toNat)
        case atStart => exact ⟨0, 2 ^ g.length - 1, Nat.zero_le _, by have := HL.out; omega, rfl, rfl, rfl, Ext.refl _⟩
        case round =>
          obtain ⟨k, s, hk, hs, rfl, rfl, HF, hx⟩ := hrel
          have HX := Lib.hid hx; clear hx
          have AR := Lib.hid (A2.out.ext HX.out)
          have ca := AR.out.graph
          have XR := Lib.hid (X2.out.trans HX.out)
          have HN0 := Lib.hid fun x => isNode_c (.slice a g.length c) g x wr (HV.out.ext XR.out) HM.out
          by_cases hlt : k < asked.length
          · obtain ⟨b, o, rfl, -, -, hc⟩ := HV'.out.atI hlt
            have c1 := hc _ XR.out
            clear hc
            have hks : k < said.size := by omega
            have hb : (said[k]'hks).toNat = byteAt said k := by unfold byteAt; rw [dif_pos hks]
            obtain ⟨d, hd⟩ : ∃ d, byteAt said k = d := ⟨_, rfl⟩
            rw [hd] at hb
            have HD := Lib.hid hd; clear hd
            cases hn : inB 0 (getI asked k) ((g.length : Int) - 1)
            · have HN := Lib.hid hn
              go_wp2_with (go_at_call 77; refine (HN0.out _).mono ?_; rintro e w' ⟨rfl, rfl⟩)
              go_ret2
              exact ⟨ret_pair (found_stop hlt HF.out (by unfold foundNext; rw [HN.out]; rfl)).symm, XR.out⟩
            · have HN := Lib.hid hn
              obtain ⟨y, hy1, hy⟩ := node_iff.1 hn
              rw [hy1] at c1 hn
              have HY := Lib.hid hy1; clear hy1
              have HQ := Lib.hid (split_c _ (.slice a g.length c) _ g s y wr AR.out (HV.out.ext XR.out) HG.out hs hy)
              by_cases hd1 : d = 121
              · have HT : Hid (foundNext g s (getI asked k) (byteAt said k) = some (qIn g s y)) := by unfold foundNext Hid; rw [HN.out, HD.out, hd1, HY.out]; rfl
                have hle := foundNext_le hs HT.out
                subst hd1
                go_wp2_with (first | (go_at_call 77; refine (HN0.out _).mono ?_; rintro e w' ⟨rfl, rfl⟩) | (go_at_call 83; refine HQ.out.mono ?_; rintro e w2 ⟨rfl, x2⟩))
                go_roundw
                case rel => exact ⟨k + 1, _, by omega, hle, by go_num, rfl, found_go HF.out HT.out, HX.out.trans (by assumption)⟩
                case measure => simp [intOf]; omega
              · by_cases hd2 : d = 110
                · have HT : Hid (foundNext g s (getI asked k) (byteAt said k) = some (without s (qIn g s y))) := by unfold foundNext Hid; rw [HN.out, HD.out, hd2, HY.out]; rfl
                  have hle := foundNext_le hs HT.out
                  subst hd2
                  go_wp2_with (first | (go_at_call 77; refine (HN0.out _).mono ?_; rintro e w' ⟨rfl, rfl⟩) | (go_at_call 83; refine HQ.out.mono ?_; rintro e w2 ⟨rfl, x2⟩))
                  go_roundw
                  case rel => exact ⟨k + 1, _, by omega, hle, by go_num, rfl, found_go HF.out HT.out, HX.out.trans (by assumption)⟩
                  case measure => simp [intOf]; omega
                · have HT : Hid (foundNext g s (getI asked k) (byteAt said k) = none) := by unfold foundNext Hid; rw [HN.out, HD.out, if_neg hd1, if_neg hd2]; rfl
                  have hd1' : ((d : Int) != 121) = true := by simp; omega
                  have hd2' : ((d : Int) != 110) = true := by simp; omega
                  go_wp2_with (go_at_call 77; refine (HN0.out _).mono ?_; rintro e w' ⟨rfl, rfl⟩)
                  go_ret2
                  exact ⟨ret_pair (found_stop hlt HF.out HT.out).symm, XR.out⟩
          · obtain rfl : k = asked.length := by omega
            go_wp2
            go_ret2
            refine ⟨?_, XR.out⟩
            rw [HF.out]; rfl
      · rw [show askFound g asked said = (0, false) from by unfold askFound; rw [decide_eq_false (fun h => h1 h.symm), Bool.and_false, Bool.false_and]; rfl]
        have h3 : ((said.size : Int) != (asked.length : Int)) = true := by simp; omega
        go_enter Try.func38, Try.ntmps38
        go_wp2_with (go_at_call 76; refine (graphInI_c _ _ _ HV.out HM.out).mono ?_; rintro e w1 ⟨rfl, x1⟩)
        go_ret2
        exact ⟨rfl, by assumption⟩
    · rw [show askFound g asked said = (0, false) from by unfold askFound; rw [decide_eq_false h2, Bool.and_false]; rfl]
      go_enter Try.func38, Try.ntmps38
      go_wp2_with (go_at_call 76; refine (graphInI_c _ _ _ HV.out HM.out).mono ?_; rintro e w1 ⟨rfl, x1⟩)
      go_ret2
      exact ⟨rfl, by assumption⟩
end Go.Proofs.Ytdoadigekmlnpaa
