/- Played questions and their answers: the reference and the program compute the same plain lists. The condition: the list has at most 2^20 numbers. -/
import Derived.Test.YtdoadigekmlnpaaBest
namespace Go.Proofs.Ytdoadigekmlnpaa
open Go.RowKit
open BigFrame

/-- The answers: y or n. -/
def playS (g : List Int) (wrong : Nat) : Nat → Nat → List UInt8
  | 0, _ => []
  | d + 1, s => if dep g s = 0 then [] else (if (qIn g s (bestOf g s)).testBit wrong then 121 else 110) :: playS g wrong d (nextOf g wrong s)
def canPlay (g : List Int) (x : Int) : Bool := graphIn g && inB 0 x ((g.length : Int) - 1) && decide (dep g (2 ^ g.length - 1) < 99)
def played (g : List Int) (x d s : Nat) : List Int := (play g x d s).map fun y => ((y : Nat) : Int)
def askPlay (g : List Int) (x : Int) : List Int × Bool := if canPlay g x then (played g x.toNat 99 (2 ^ g.length - 1), true) else ([], false)
def askAns (g : List Int) (x : Int) : ByteArray × Bool := if canPlay g x then (⟨(playS g x.toNat 99 (2 ^ g.length - 1)).toArray⟩, true) else (⟨#[]⟩, false)
theorem play_end {g : List Int} {x d s : Nat} (h : dep g s = 0) : play g x d s = [] ∧ playS g x d s = [] := by
  cases d with
  | zero => exact ⟨rfl, rfl⟩
  | succ d => unfold play playS; rw [if_pos h, if_pos h]; exact ⟨rfl, rfl⟩
theorem play_next {g : List Int} {x d s : Nat} (h : dep g s ≠ 0) : play g x (d + 1) s = bestOf g s :: play g x d (nextOf g x s) := by
  rw [play, if_neg h]
theorem playS_next {g : List Int} {x d s : Nat} (h : dep g s ≠ 0) : playS g x (d + 1) s = (if (qIn g s (bestOf g s)).testBit x then 121 else 110) :: playS g x d (nextOf g x s) := by
  rw [playS, if_neg h]
theorem play_length (g : List Int) (x : Nat) : ∀ d s, (play g x d s).length ≤ d ∧ (playS g x d s).length = (play g x d s).length
  | 0, s => ⟨Nat.le_refl _, rfl⟩
  | d + 1, s => by
    by_cases h : dep g s = 0
    · rw [(play_end h).1, (play_end h).2]; exact ⟨Nat.zero_le _, rfl⟩
    · rw [play_next h, playS_next h]
      have := play_length g x d (nextOf g x s)
      simp; omega
/-- What has been asked and what is still to come. -/
structure PlayAt (g : List Int) (x d s : Nat) (done : List Int) (bs : ByteArray) : Prop where
  set : s ≤ 4095
  ne : s ≠ 0
  lt : s < 2 ^ g.length
  dep : dep g s < 99
  fuel : Proofs.Ytdoadigekmlnpaa.dep g s ≤ d
  list : done ++ played g x d s = played g x 99 (2 ^ g.length - 1)
  said : ∃ l : List UInt8, bs = ⟨l.toArray⟩ ∧ l ++ playS g x d s = playS g x 99 (2 ^ g.length - 1)
theorem PlayAt.start {g : List Int} {x : Nat} (hg : IsGraph g) (hd : Proofs.Ytdoadigekmlnpaa.dep g (2 ^ g.length - 1) < 99) : PlayAt g x 99 (2 ^ g.length - 1) [] ⟨#[]⟩ := by
  have h1 := pow_le_12 hg.le
  have h2 : 2 ^ 1 ≤ 2 ^ g.length := Nat.pow_le_pow_right (by omega) hg.pos
  exact ⟨by omega, by omega, by omega, hd, by omega, rfl, ⟨[], rfl, rfl⟩⟩
theorem PlayAt.done_le {g : List Int} {x d s : Nat} {done : List Int} {bs : ByteArray} (h : PlayAt g x d s done bs) : done.length ≤ 99 := by
  have h1 := congrArg List.length h.list
  have h2 := (play_length g x 99 (2 ^ g.length - 1)).1
  unfold played at h1
  simp only [List.length_append, List.length_map] at h1
  omega
theorem PlayAt.said_le {g : List Int} {x d s : Nat} {done : List Int} {bs : ByteArray} (h : PlayAt g x d s done bs) : bs.size ≤ 99 := by
  obtain ⟨l, rfl, h1⟩ := h.said
  have h1 := congrArg List.length h1
  have h2 := play_length g x 99 (2 ^ g.length - 1)
  simp only [List.length_append] at h1
  show l.toArray.size ≤ 99
  simp
  omega
theorem PlayAt.fin {g : List Int} {x d s : Nat} {done : List Int} {bs : ByteArray} (h : PlayAt g x d s done bs) (h0 : Proofs.Ytdoadigekmlnpaa.dep g s = 0) : done = played g x 99 (2 ^ g.length - 1) ∧ bs = ⟨(playS g x 99 (2 ^ g.length - 1)).toArray⟩ := by
  obtain ⟨l, hl, h1⟩ := h.said
  have h2 := h.list
  unfold played at h2
  rw [(play_end h0).1, List.map_nil, List.append_nil] at h2
  rw [(play_end h0).2, List.append_nil] at h1
  exact ⟨h2, by rw [hl, h1]⟩
theorem bytes_push (l : List UInt8) (c : UInt8) : (⟨l.toArray⟩ : ByteArray) ++ ⟨#[c]⟩ = ⟨(l ++ [c]).toArray⟩ := by
  apply ByteArray.ext
  simp
theorem PlayAt.next {g : List Int} {x d s : Nat} {done : List Int} {bs : ByteArray} (h : PlayAt g x d s done bs) (h0 : Proofs.Ytdoadigekmlnpaa.dep g s ≠ 0) : ∃ d', d = d' + 1 ∧
    ((qIn g s (bestOf g s)).testBit x = true → PlayAt g x d' (qIn g s (bestOf g s)) (done ++ [((bestOf g s : Nat) : Int)]) (bs ++ ⟨#[121]⟩)) ∧
    ((qIn g s (bestOf g s)).testBit x = false → PlayAt g x d' (without s (qIn g s (bestOf g s))) (done ++ [((bestOf g s : Nat) : Int)]) (bs ++ ⟨#[110]⟩)) := by
  have hf := h.fuel
  obtain ⟨d', rfl⟩ : ∃ d', d = d' + 1 := ⟨d - 1, by omega⟩
  obtain ⟨n1, n2, n3⟩ := next_facts (wrong := x) h.set h.dep h0
  have hl := h.list
  obtain ⟨l, hb, hs⟩ := h.said
  have hs4 := h.set
  have hlt := h.lt
  have hd := h.dep
  unfold played at hl
  rw [play_next h0, List.map_cons] at hl
  rw [playS_next h0] at hs
  refine ⟨d', rfl, fun hb1 => ?_, fun hb1 => ?_⟩
  · have e : nextOf g x s = qIn g s (bestOf g s) := by unfold nextOf; rw [if_pos hb1]
    rw [e] at n1 n2 n3 hl hs
    rw [if_pos hb1] at hs
    exact ⟨by omega, n1, by omega, by omega, by omega, by unfold played; rw [List.append_assoc]; exact hl, ⟨l ++ [121], by rw [hb, bytes_push], by rw [List.append_assoc]; exact hs⟩⟩
  · have e : nextOf g x s = without s (qIn g s (bestOf g s)) := by unfold nextOf; rw [if_neg (by rw [hb1]; decide)]
    rw [e] at n1 n2 n3 hl hs
    rw [if_neg (by rw [hb1]; decide)] at hs
    exact ⟨by omega, n1, by omega, by omega, by omega, by unfold played; rw [List.append_assoc]; exact hl, ⟨l ++ [110], by rw [hb, bytes_push], by rw [List.append_assoc]; exact hs⟩⟩

def playV (v : Value) (s : ByteArray) (b : Bool) : Value := .tuple #[v, .string s, .bool b]

set_option maxRecDepth 100000 in
set_option maxHeartbeats 2000000 in
theorem l6qPlay_c (v : Value) (g : List Int) (x : Int) (w : World) (hv : Rd w v g) (hm : g.length ≤ 1048576) :
    Calls Try.prog 75 #[v, .int .i64 x] w fun e w' => ∃ v', e = .returned (playV v' (askAns g x).1 (canPlay g x)) ∧ Own w' w.heap.size v' (askPlay g x).1 ∧ Ext w w' := by
  obtain ⟨a, c, rfl⟩ := hv.form
  obtain ⟨W, hW⟩ : ∃ W, W = w.alloc (.cells #[] 3) := ⟨_, rfl⟩
  have ho0 : Own W w.heap.size (.slice (some ⟨w.heap.size, 0, none⟩) 0 0) [] := by rw [hW]; exact Own.lit w
  have hx0 : Ext w W := by rw [hW]; exact (Ext.refl _).alloc _
  have HW := Lib.hid hW; have HO0 := Lib.hid ho0; have HX0 := Lib.hid hx0; have HV := Lib.hid (hv.ext hx0); have HV0 := Lib.hid hv
  have hsW : w.heap.size < W.heap.size := by rw [hW]; simp
  have HM := Lib.hid hm
  clear hv hW ho0 hx0
  cases h0 : graphIn g
  · have HK : Hid (canPlay g x = false) := by unfold Hid canPlay; rw [h0]; rfl
    rw [show askPlay g x = ([], false) from by unfold askPlay; rw [HK.out]; rfl, show askAns g x = (⟨#[]⟩, false) from by unfold askAns; rw [HK.out]; rfl, HK.out]
    go_enter Try.func75, Try.ntmps75
    go_wp2_with fail
    rw [← HW.out]
    refine (graphInS_c _ _ _ HV.out HM.out).mono ?_
    rintro e w1 ⟨rfl, x1⟩
    go_wp2
    go_ret3
    exact ⟨_, rfl, HO0.out.ext x1, HX0.out.trans x1⟩
  · have hG := graphIn_iff.1 h0
    have hl := hG.le
    have hl1 := hG.pos
    have HG := Lib.hid hG
    cases hx : inB 0 x ((g.length : Int) - 1)
    · have HK : Hid (canPlay g x = false) := by unfold Hid canPlay; rw [hx, Bool.and_false]; rfl
      rw [show askPlay g x = ([], false) from by unfold askPlay; rw [HK.out]; rfl, show askAns g x = (⟨#[]⟩, false) from by unfold askAns; rw [HK.out]; rfl, HK.out]
      clear hG
      go_enter Try.func75, Try.ntmps75
      go_wp2_with fail
      rw [← HW.out]
      refine (graphInS_c _ _ _ HV.out HM.out).mono ?_
      rintro e w1 ⟨rfl, x1⟩
      have X1 := Lib.hid x1; clear x1
      go_wp2_with (go_at_call 93; refine (l6In_c _ _ _ _).mono ?_; rintro e w' ⟨rfl, rfl⟩)
      go_ret3
      exact ⟨_, rfl, HO0.out.ext X1.out, HX0.out.trans X1.out⟩
    · obtain ⟨y, rfl, hy⟩ := node_iff.1 hx
      have hst := PlayAt.start (x := y) hG
      obtain ⟨p, hp, hp1, hp2, hp3⟩ := pow_var g.length (by omega)
      have hp4 : p ≤ 4096 := by rw [← hp]; exact pow_le_12 hl
      have hp5 : 2 ≤ p := by rw [← hp]; exact Nat.pow_le_pow_right (n := 2) (i := 1) (by omega) hl1
      have e0 : min g.length 64 = g.length := by omega
      have hfit : okD g (((p - 1 : Nat) : Int)) = decide (dep g (p - 1) < 99) := by
        unfold okD fits
        rw [h0, setB_iff.2 ⟨p - 1, rfl, by omega⟩]
        simp; omega
      have HFIT := Lib.hid hfit
      have HCP : Hid (canPlay g y = decide (dep g (p - 1) < 99)) := by unfold Hid canPlay; rw [h0, hx, hp]; rfl
      have HPL : Hid (askPlay g y = if canPlay g y then (played g y 99 (p - 1), true) else ([], false)) := by unfold Hid askPlay; rw [hp]; rfl
      have HAN : Hid (askAns g y = if canPlay g y then (⟨(playS g y 99 (p - 1)).toArray⟩, true) else (⟨#[]⟩, false)) := by unfold Hid askAns; rw [hp]; rfl
      rw [hp] at hst
      have HST := Lib.hid hst
      have HP := Lib.hid hp
      have HXY := Lib.hid hx
      clear hfit hst hp hG
      go_enter Try.func75, Try.ntmps75
      go_wp2_with fail
      rw [← HW.out]
      refine (graphInS_c _ _ _ HV.out HM.out).mono ?_
      rintro e w1 ⟨rfl, x1⟩
      have X1 := Lib.hid x1; clear x1
      go_wp2_with (go_at_call 93; refine (l6In_c _ _ _ _).mono ?_; rintro e w' ⟨rfl, rfl⟩)
      rw [show ((p : Int) - 1) = ((p - 1 : Nat) : Int) from by omega]
      refine (l6qGiven_c _ g _ _ (HV.out.ext X1.out) HM.out).mono ?_
      rintro e w2 ⟨vd, rfl, hr, x2⟩
      have X2 := Lib.hid (X1.out.trans x2); clear x2
      have HR := Lib.hid hr; clear hr
      unfold listV
      rw [HFIT.out] at HR ⊢
      by_cases hd : dep g (p - 1) < 99
      · have HK : Hid (canPlay g y = true) := by unfold Hid; rw [HCP.out]; exact decide_eq_true hd
        have HPL2 : Hid (askPlay g y = (played g y 99 (p - 1), true)) := by unfold Hid; rw [HPL.out, if_pos HK.out]
        have HAN2 : Hid (askAns g y = (⟨(playS g y 99 (p - 1)).toArray⟩, true)) := by unfold Hid; rw [HAN.out, if_pos HK.out]
        have rd := (HR.out (decide_eq_true hd)).1
        have hfr := (HR.out (decide_eq_true hd)).2
        rw [decide_eq_true hd]
        have HS2 := Lib.hid (HST.out hd)
        have HD := Lib.hid rd
        obtain ⟨ad, cd, rfl⟩ := rd.form
        have hlen : (depsOf g).length = p := by rw [depsOf_length]; exact HP.out
        rw [hlen] at HD ⊢
        have HGET := Lib.hid fun (t : Nat) (ht : t < p) => depsOf_get g (show t < 2 ^ g.length by rw [HP.out]; exact ht)
        obtain ⟨bd, od, rfl, -, -, -⟩ := HD.out.atI (k := p - 1) (by omega)
        have hbd := hfr bd od none _ _ rfl
        have hbw : w.heap.size < bd := by have := X1.out.size; omega
        have HX2 := Lib.hid (HX0.out.trans X2.out)
        have HO2 : Hid (Own w2 w.heap.size (.slice (some ⟨w.heap.size, 0, none⟩) 0 0) []) := HO0.out.ext X2.out
        clear rd hlen hd HR hfr hbd X1 X2 HX0 HO0 HV hsW
        go_wp2
        go_loopw [7, 8, 9] (fun vl sd st wr => ∃ (d s : Nat) (done : List Int) (bs : ByteArray), sd = .string bs ∧ st = .int .i64 s ∧ Hid (PlayAt g y d s done bs) ∧ Hid (Own wr w.heap.size vl done) ∧ Hid (Ext w wr) ∧ Hid (Rd wr (.slice (some ⟨bd, od, none⟩) p cd) (depsOf g)) ∧ Hid (vl.ownBlock ≠ some bd)) (fun _ _ st _ => dep g (intOf st).toNat)
        case atStart => exact ⟨99, p - 1, [], ⟨#[]⟩, rfl, (by go_num), HS2.out, HO2.out, HX2.out, HD.out, fun e => by simp [Value.ownBlock] at e; omega⟩
        case round =>
          clear HS2 HO2 HX2 HD
          obtain ⟨d, s, done, bs, rfl, rfl, HPA, HO, HX, HD, HNE⟩ := hrel
          have hpa := HPA.out
          have hs4 := hpa.set
          have hsp : s < p := by have := hpa.lt; rw [HP.out] at this; exact this
          have ck := HD.out.atB hsp (Ext.refl wr)
          rw [show getI (depsOf g) s = ((dep g s : Nat) : Int) from HGET.out s hsp] at ck
          have hd99 := hpa.dep
          by_cases hz : dep g s = 0
          · have HF : Hid (done = played g y 99 (p - 1) ∧ bs = ⟨(playS g y 99 (p - 1)).toArray⟩) := by have := hpa.fin hz; rw [HP.out] at this; exact this
            rw [hz] at ck
            clear hpa hz hd99
            go_wp2
            go_ret3
            refine ⟨u7, ?_, ?_, HX.out⟩
            · rw [HAN2.out, HK.out, HF.out.2]; rfl
            · rw [HPL2.out]
              show Own _ _ _ (played g y 99 (p - 1))
              rw [← HF.out.1]
              exact HO.out
          · obtain ⟨d', rfl, hn1, hn2⟩ := hpa.next hz
            have hbg := (best_good hs4 hd99 hz).2
            have hfacts := next_facts (wrong := y) hs4 hd99 hz
            have HM1 : Hid ((qIn g s (bestOf g s)).testBit y = true → dep g (qIn g s (bestOf g s)) < dep g s) := fun h => by
              have := hfacts.2.2; unfold nextOf at this; rwa [if_pos h] at this
            have HM2 : Hid ((qIn g s (bestOf g s)).testBit y = false → dep g (without s (qIn g s (bestOf g s))) < dep g s) := fun h => by
              have := hfacts.2.2; unfold nextOf at this; rwa [if_neg (by rw [h]; decide)] at this
            have HB := Lib.hid (l6qBest_c (.slice a g.length c) (.slice (some ⟨bd, od, none⟩) p cd) g s wr (HV0.out.ext HX.out) HD.out HG.out hpa.lt)
            have HN1 := Lib.hid hn1; have HN2 := Lib.hid hn2
            have hlen := hpa.done_le
            have hbl := hpa.said_le
            obtain ⟨B, hB⟩ : ∃ B, B = bestOf g s := ⟨_, rfl⟩
            rw [← hB] at hbg HM1 HM2 HB HN1 HN2
            have hI4 : qIn g s B ≤ 4095 := Nat.le_trans (qIn_le _ _ _) hs4
            have HQ := Lib.hid fun w hw => l6qIn_c (.slice a g.length c) g s B w hw HG.out hs4 hbg
            have e2 := bits_andNot s (qIn g s B) (by omega) (by omega)
            obtain ⟨I, hI⟩ : ∃ I, I = qIn g s B := ⟨_, rfl⟩
            rw [← hI] at HM1 HM2 HN1 HN2 hI4 HQ e2
            obtain ⟨D, hD⟩ : ∃ D, D = dep g s := ⟨_, rfl⟩
            rw [← hD] at ck hz HM1 HM2
            have HDD := Lib.hid hD
            have hz' : decide (0 < D) = true := decide_eq_true (by omega)
            have hzp : 0 < D := by omega
            have HBT := Lib.hid (l1Bit_c I y (by omega) (by omega))
            clear hpa hn1 hn2 hfacts hB hI hD hz hd99
            go_wp2_with fail
            refine HB.out.mono ?_
            rintro e w3 ⟨rfl, x3⟩
            have X3 := Lib.hid (HX.out.trans x3); have O3 := Lib.hid (HO.out.ext x3); have D3 := Lib.hid (HD.out.ext x3); clear x3
            go_wp2_with fail
            refine (HQ.out _ (HV0.out.ext X3.out)).mono ?_
            rintro e w4 ⟨rfl, x4⟩
            have X4 := Lib.hid (X3.out.trans x4); have O4 := Lib.hid (O3.out.ext x4); have D4 := Lib.hid ((D3.out.ext x4).ext ((Ext.refl w4).alloc (.cells #[.int .i64 (B : Int)] 3))); have hbs : bd < w4.heap.size := by obtain ⟨_, _, _, -, h, -⟩ := (D3.out.ext x4).atI (k := s) hsp; simp_all
            clear x4
            go_wp2_with (at_builtin; refine wpList_append_int2 rfl _ _ rfl w.heap.size _ _ rfl (O4.out.alloc _) w4.heap.size _ rfl (one_cell _ _ _) (by omega) (by simp; have h1 := X4.out.size; omega) ?_; intro v' w5 ho5 hg5 hn5)
            have X5 : Hid (Ext w w5) := (O4.out.alloc _).grew (X4.out.alloc _) hg5 (Nat.le_refl _)
            have O5 := Lib.hid ho5
            have D5 : Hid (Rd w5 (.slice (some ⟨bd, od, none⟩) p cd) (depsOf g)) := D4.out.grown hg5 HNE.out
            have N5 : Hid (v'.ownBlock ≠ some bd) := fun e => by
              rcases hn5 _ e with h | h
              · exact HNE.out h
              · simp at h; omega
            clear ho5 hg5 hn5
            cases hbt : I.testBit y
            · have hb1 : (((I.testBit y).toNat : Int) == 1) = false := by rw [hbt]; rfl
              have HNX := Lib.hid (HN2.out hbt)
              have HMX := Lib.hid (HM2.out hbt)
              have HBT0 : Hid (∀ w, Calls Try.prog 67 #[.int .i64 I, .int .i64 y] w fun e w' => e = .returned (.int .i64 0) ∧ w = w') := fun w => by have := HBT.out w; rw [hbt] at this; exact this
              clear hbt hb1 HBT
              go_wp2_with (go_at_call 67; refine (HBT0.out _).mono ?_; rintro e w' ⟨rfl, rfl⟩)
              go_roundw
              case rel => exact ⟨d', without s I, _, _, rfl, rfl, HNX.out, O5.out, X5.out, D5.out, N5.out⟩
              case measure => simp only [intOf, Int.toNat_natCast]; rw [← HDD.out]; exact HMX.out
            · have HNX := Lib.hid (HN1.out hbt)
              have HMX := Lib.hid (HM1.out hbt)
              have HBT0 : Hid (∀ w, Calls Try.prog 67 #[.int .i64 I, .int .i64 y] w fun e w' => e = .returned (.int .i64 1) ∧ w = w') := fun w => by have := HBT.out w; rw [hbt] at this; exact this
              clear hbt HBT
              go_wp2_with (go_at_call 67; refine (HBT0.out _).mono ?_; rintro e w' ⟨rfl, rfl⟩)
              go_roundw
              case rel => exact ⟨d', I, _, _, rfl, rfl, HNX.out, O5.out, X5.out, D5.out, N5.out⟩
              case measure => simp only [intOf, Int.toNat_natCast]; rw [← HDD.out]; exact HMX.out
      · have HK : Hid (canPlay g y = false) := by unfold Hid; rw [HCP.out]; exact decide_eq_false hd
        have HPL2 : Hid (askPlay g y = ([], false)) := by unfold Hid; rw [HPL.out, HK.out]; rfl
        have HAN2 : Hid (askAns g y = (⟨#[]⟩, false)) := by unfold Hid; rw [HAN.out, HK.out]; rfl
        rw [decide_eq_false hd]
        clear hd HR
        go_wp2
        refine wp_loop_once ?_
        go_wp2
        go_ret3
        refine ⟨.slice (some ⟨w.heap.size, 0, none⟩) 0 0, ?_, ?_, HX0.out.trans X2.out⟩
        · rw [HAN2.out, HK.out]; rfl
        · rw [HPL2.out]
          exact HO0.out.ext X2.out
end Go.Proofs.Ytdoadigekmlnpaa
