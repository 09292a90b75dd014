/- What the walks of this seat rest on, one part: plain facts, and contracts of the functions that they reach. Each states its own condition. -/
import Derived.Test.YtkmfmhckpfomeaaGreatDoorB23
import Derived.Test.YtkmfmhckpfomeaaGreatDoorB6
import Derived.Test.YtkmfmhckpfomeaaGreatDoorB21
import Derived.Test.YtkmfmhckpfomeaaGreatDoorB22
import Derived.Test.YtkmfmhckpfomeaaGreatDoorB17
import Derived.Test.YtkmfmhckpfomeaaGreatDoorB9
import Derived.Test.YtkmfmhckpfomeaaGreatDoorB15
import Derived.Test.YtkmfmhckpfomeaaGreatDoorB20
import Derived.Test.YtkmfmhckpfomeaaGreatDoorB12
import Derived.Test.YtkmfmhckpfomeaaGreatDoorB14
set_option linter.all false
set_option linter.unusedSimpArgs false
set_option linter.unusedVariables false
/- Played questions: the program computes the plain lists. The condition: the list has at most 2^20 numbers. -/
namespace Go.Proofs.YtkmfmhckpfomeaaGreatDoor
open Go.RowKit
open BigFrame

theorem AskOk.below {w0 w w' : World} {b : Nat} {v : Value} {g : List Int} (h : AskOk w0 b v g w) (hb : w0.heap.size ≤ b) (hx : Below (b + 2) w w') : AskOk w0 b v g w' := by
  obtain ⟨f, ⟨es, clock, hh, hf⟩, hk⟩ := h.map
  have hsz := h.size
  refine ⟨⟨f, ⟨es, clock, (Below.block hx b (by omega)).trans hh, hf⟩, hk⟩, (Below.cell (p := ⟨b + 1, 0, none⟩) hx (by show b + 1 < b + 2; omega)).trans h.graph, (Below.cell (p := ⟨b + 1, 1, none⟩) hx (by show b + 1 < b + 2; omega)).trans h.known, Nat.lt_of_lt_of_le hsz (Below.size hx), ?_⟩
  exact ⟨hx.os.trans h.ext.os, hx.tape.trans h.ext.tape, hx.output.trans h.ext.output, Nat.le_trans h.ext.size hx.size, fun i hi => (Below.block hx i (by omega)).trans (h.ext.block hi)⟩
theorem canPlay_snd (g : List Int) (x : Int) : (askPlay g x).2 = canPlay g x ∧ (askAns g x).2 = canPlay g x := by
  unfold askPlay askAns
  cases canPlay g x <;> exact ⟨rfl, rfl⟩
theorem askPlayS_c (v : Value) (g : List Int) (x : Int) (w : World) (hv : Rd w v g) (hm : g.length ≤ 1048576) :
    Calls Tryz.prog 123 #[v, .int .i64 x] w fun e w' => ∃ v', e = .returned (listV v' (askPlay g x).2) ∧ Own w' w.heap.size v' (askPlay g x).1 ∧ Ext w w' := by
  obtain ⟨a, c, rfl⟩ := hv.form
  have HC := Lib.hid (l6qPlay_c _ g x w hv hm)
  clear hv hm
  go_enter Tryz.func123, Tryz.ntmps123
  go_wp2_with fail
  refine HC.out.mono ?_
  rintro e w1 ⟨v', rfl, o1, x1⟩
  have O1 := Lib.hid o1; have X1 := Lib.hid x1; clear o1 x1
  unfold playV
  go_wp2
  go_ret2
  exact ⟨_, by rw [(canPlay_snd g x).1]; rfl, O1.out, X1.out⟩
set_option maxRecDepth 100000 in
set_option maxHeartbeats 2000000 in
theorem askPlayI_c (v : Value) (g : List Int) (x : Int) (w : World) (hv : Rd w v g) (hm : g.length ≤ 1048576) :
    Calls Tryz.prog 105 #[v, .int .i64 x] w fun e w' => ∃ v', e = .returned (listV v' (askPlay g x).2) ∧ Own w' w.heap.size v' (askPlay g x).1 ∧ Ext w w' := by
  obtain ⟨a, c, rfl⟩ := hv.form
  have HV := Lib.hid hv
  have HM := Lib.hid hm
  clear hv
  cases h0 : graphIn g
  · have HK : Hid (canPlay g x = false) := by unfold Hid canPlay; rw [h0]; rfl
    rw [show askPlay g x = ([], false) from by unfold askPlay; rw [HK.out]; rfl]
    go_enter Tryz.func105, Tryz.ntmps105
    go_wp2_with (go_at_call 39; refine (graphInI_c _ _ _ HV.out HM.out).mono ?_; rintro e w1 ⟨rfl, x1⟩)
    go_ret2
    exact ⟨_, rfl, Own.nil _ _, by assumption⟩
  · have hG := graphIn_iff.1 h0
    have hl := hG.le
    have hl1 := hG.pos
    have HG := Lib.hid hG
    cases hx : inB 0 x ((g.length : Int) - 1)
    · have HK : Hid (canPlay g x = false) := by unfold Hid canPlay; rw [hx, Bool.and_false]; rfl
      rw [show askPlay g x = ([], false) from by unfold askPlay; rw [HK.out]; rfl]
      clear hG
      go_enter Tryz.func105, Tryz.ntmps105
      go_wp2_with fail
      refine (graphInI_c _ _ _ HV.out HM.out).mono ?_
      rintro e w1 ⟨rfl, x1⟩
      have X1 := Lib.hid x1; clear x1
      go_wp2_with (go_at_call 79; refine (isNode_c _ g _ _ (HV.out.ext X1.out) HM.out).mono ?_; rintro e w' ⟨rfl, rfl⟩)
      go_ret2
      exact ⟨_, rfl, Own.nil _ _, X1.out⟩
    · obtain ⟨y, rfl, hy⟩ := node_iff.1 hx
      have hst := PlayAt.start (x := y) hG
      obtain ⟨p, hp⟩ : ∃ p : Nat, 2 ^ g.length = p := ⟨_, rfl⟩
      have hp4 : p ≤ 4096 := by rw [← hp]; exact pow_le_12 hl
      have hp5 : 2 ≤ p := by rw [← hp]; exact Nat.pow_le_pow_right (n := 2) (i := 1) (by omega) hl1
      have HCP : Hid (canPlay g y = decide (dep g (p - 1) < 99)) := by unfold Hid canPlay; rw [h0, hx, hp]; rfl
      have HPL : Hid (askPlay g y = if canPlay g y then (played g y 99 (p - 1), true) else ([], false)) := by unfold Hid askPlay; rw [hp]; rfl
      rw [hp] at hst
      have HST := Lib.hid hst
      have HP := Lib.hid hp
      have HAL := Lib.hid fun w hw => all_c (.slice a g.length c) g w hw hl
      rw [hp] at HAL
      have hdl := dep_le g (p - 1)
      clear hst hp hG
      go_enter Tryz.func105, Tryz.ntmps105
      go_wp2_with fail
      refine (graphInI_c _ _ _ HV.out HM.out).mono ?_
      rintro e w1 ⟨rfl, x1⟩
      have X1 := Lib.hid x1; clear x1
      go_wp2_with (go_at_call 79; refine (isNode_c _ g _ _ (HV.out.ext X1.out) HM.out).mono ?_; rintro e w' ⟨rfl, rfl⟩)
      refine (askerOf_c _ g _ (HV.out.ext X1.out)).mono ?_
      rintro e w2 ⟨rfl, ia, x2⟩
      have ha := AskOk.of (g := g) ia x2
      have c0 := ha.graph
      have A2 := Lib.hid ha; clear ia x2 ha
      go_wp2_with fail
      refine (HAL.out _ ((HV.out.ext X1.out).ext A2.out.ext)).mono ?_
      rintro e w' ⟨rfl, rfl⟩
      clear c0
      go_wp2_with fail
      refine (depth_c (HV.out.ext X1.out) HG.out (Nat.le_refl _) (p - 1) (by omega) (by omega) A2.out).mono ?_
      rintro e w3 ⟨rfl, a3, -⟩
      have A3 := Lib.hid a3; clear a3 A2
      by_cases hd : dep g (p - 1) = 99
      · have hd' : ¬ dep g (p - 1) < 99 := by omega
        have HPL2 : Hid (askPlay g y = ([], false)) := by unfold Hid; rw [HPL.out, HCP.out, decide_eq_false hd']; rfl
        have HN : Hid ((never (dep g (p - 1)) : Nat) = 1048576) := (never_eq hdl).2 hd
        rw [HN.out]
        clear hd hd' hdl
        go_wp2
        go_ret2
        exact ⟨.slice none 0 0, by rw [HPL2.out]; rfl, by rw [HPL2.out]; exact Own.nil _ _, X1.out.trans A3.out.ext⟩
      · have hd' : dep g (p - 1) < 99 := by omega
        have hds := dep_small (show p - 1 ≤ 4095 by omega) hd
        have HPL2 : Hid (askPlay g y = (played g y 99 (p - 1), true)) := by unfold Hid; rw [HPL.out, HCP.out, decide_eq_true hd']; rfl
        have HN : Hid ((never (dep g (p - 1)) : Nat) = dep g (p - 1)) := by unfold Hid never; rw [if_neg hd]
        rw [HN.out]
        obtain ⟨D, hD⟩ : ∃ D, D = dep g (p - 1) := ⟨_, rfl⟩
        rw [← hD] at hds
        rw [← hD]
        have hb : ((D : Int) == 1048576) = false := by simp; omega
        have HS2 := Lib.hid (HST.out hd')
        clear hd hd' hdl hD
        go_wp2
        clear hb hds
        have hsz1 : w1.heap.size + 2 ≤ w3.heap.size := A3.out.size
        go_loopw [7, 8] (fun st vl wr => ∃ (d s : Nat) (done : List Int) (bs : ByteArray), st = .int .i64 s ∧ Hid (PlayAt g y d s done bs) ∧ Hid (Own wr (w1.heap.size + 2) vl done) ∧ Hid (AskOk w1 w1.heap.size (.slice a g.length c) g wr)) (fun st _ _ => dep g (intOf st).toNat)
        case atStart => exact ⟨99, p - 1, [], ⟨#[]⟩, by go_num, HS2.out, Own.nil _ _, A3.out⟩
        case round =>
          clear HS2 A3 hsz1
          obtain ⟨d, s, done, bs, rfl, HPA, HO, HA⟩ := hrel
          have hpa := HPA.out
          have hs4 := hpa.set
          have hd99 := hpa.dep
          have hp1 := dep_pos (g := g) hs4 hpa.ne
          have hcz := mt (cnt_zero hs4).1 hpa.ne
          have HS := Lib.hid (sizeC s hs4)
          by_cases hz : dep g s = 0
          · have HF : Hid (done = played g y 99 (p - 1) ∧ bs = ⟨(playS g y 99 (p - 1)).toArray⟩) := by have := hpa.fin hz; rw [HP.out] at this; exact this
            have hc1 := hp1.1 hz
            have HS1 : Hid (∀ w, Calls Tryz.prog 65 #[.int .i64 s] w fun e w' => e = .returned (.int .i64 1) ∧ w = w') := fun w => by have := HS.out w; rw [hc1] at this; exact this
            clear hpa hz hd99 hp1 hcz hc1
            go_wp2_with (go_at_call 65; refine (HS1.out _).mono ?_; rintro e w' ⟨rfl, rfl⟩)
            go_ret2
            refine ⟨u8, by rw [HPL2.out]; rfl, ?_, X1.out.trans HA.out.ext⟩
            rw [HPL2.out]
            show Own _ _ _ (played g y 99 (p - 1))
            rw [← HF.out.1]
            exact HO.out.mono (by have := X1.out.size; omega)
          · obtain ⟨d', rfl, hn1, hn2⟩ := hpa.next hz
            have hbg := (best_good hs4 hd99 hz).2
            have hfacts := next_facts (wrong := y) hs4 hd99 hz
            have HM1 : Hid ((qIn g s (bestOf g s)).testBit y = true → dep g (qIn g s (bestOf g s)) < dep g s) := fun h => by
              have := hfacts.2.2; unfold nextOf at this; rwa [if_pos h] at this
            have HM2 : Hid ((qIn g s (bestOf g s)).testBit y = false → dep g (without s (qIn g s (bestOf g s))) < dep g s) := fun h => by
              have := hfacts.2.2; unfold nextOf at this; rwa [if_neg (by rw [h]; decide)] at this
            have HB := Lib.hid (best_c (HV.out.ext X1.out) HG.out (Nat.le_refl _) s hs4 hpa.ne hd99 hz HA.out)
            have HN1 := Lib.hid hn1; have HN2 := Lib.hid hn2
            have hlen := hpa.done_le
            have hcn : 1 < cnt s := by
              have := mt hp1.2 hz
              omega
            obtain ⟨B, hB⟩ : ∃ B, B = bestOf g s := ⟨_, rfl⟩
            rw [← hB] at hbg HM1 HM2 HB HN1 HN2
            have hI4 : qIn g s B ≤ 4095 := Nat.le_trans (qIn_le _ _ _) hs4
            have HQ := Lib.hid fun w (hA : AskOk w1 w1.heap.size (.slice a g.length c) g w) => (hA.is.elim fun f hf => split_c w1.heap.size (.slice a g.length c) f g s B w hf ((HV.out.ext X1.out).ext hA.ext) HG.out hs4 hbg)
            obtain ⟨I, hI⟩ : ∃ I, I = qIn g s B := ⟨_, rfl⟩
            rw [← hI] at HM1 HM2 HN1 HN2 hI4 HQ
            obtain ⟨O, hO⟩ : ∃ O, O = without s I := ⟨_, rfl⟩
            rw [← hO] at HM2 HN2 HQ
            have HDI := Lib.hid (rfl : dep g s = dep g s)
            have HBT := Lib.hid (has_c I y (by omega) (by omega))
            clear hpa hn1 hn2 hfacts hB hI hO hz hd99 hp1
            go_wp2_with (go_at_call 65; refine (HS.out _).mono ?_; rintro e w' ⟨rfl, rfl⟩)
            refine HB.out.mono ?_
            rintro e w4 ⟨rfl, a4, u4⟩
            have A4 := Lib.hid a4; have O4 := Lib.hid (HO.out.upd (show w1.heap.size < w1.heap.size + 2 by omega) u4)
            have hsz4 : w1.heap.size + 2 ≤ w4.heap.size := a4.size
            clear a4 u4
            go_wp2_with (at_builtin; refine wpList_append_int2 rfl _ _ rfl (w1.heap.size + 2) _ _ rfl (O4.out.alloc _) w4.heap.size _ rfl (one_cell _ _ _) (by omega) (by simp; omega) ?_; intro v' w5 ho5 hg5 hn5)
            have A5 : Hid (AskOk w1 w1.heap.size (.slice a g.length c) g w5) := A4.out.below (Nat.le_refl _) (Below.grown (Below.alloc (Below.refl _ _) hsz4 _) hg5 (by simp; omega) (fun k hk => (O4.out.lt k hk).1))
            have O5 := Lib.hid ho5
            clear ho5 hg5 hn5
            go_wp2_with fail
            refine (HQ.out _ A5.out).mono ?_
            rintro e w6 ⟨rfl, x6⟩
            have A6 := Lib.hid (A5.out.next x6); have O6 := Lib.hid (O5.out.ext x6); clear x6
            cases hbt : I.testBit y
            · have HNX := Lib.hid (HN2.out hbt)
              have HMX := Lib.hid (HM2.out hbt)
              rw [hbt] at HBT
              clear hbt
              go_wp2_with (go_at_call 61; refine (HBT.out _).mono ?_; rintro e w' ⟨rfl, rfl⟩)
              go_roundw
              case rel => exact ⟨d', O, _, _, rfl, HNX.out, O6.out, A6.out⟩
              case measure => simp only [intOf, Int.toNat_natCast]; exact HMX.out
            · have HNX := Lib.hid (HN1.out hbt)
              have HMX := Lib.hid (HM1.out hbt)
              rw [hbt] at HBT
              clear hbt
              go_wp2_with (go_at_call 61; refine (HBT.out _).mono ?_; rintro e w' ⟨rfl, rfl⟩)
              go_roundw
              case rel => exact ⟨d', I, _, _, rfl, HNX.out, O6.out, A6.out⟩
              case measure => simp only [intOf, Int.toNat_natCast]; exact HMX.out
end Go.Proofs.YtkmfmhckpfomeaaGreatDoor

/- What a script does, in plain words: a command's answer and the desk behind it, a line's, a script's. No condition. -/
namespace Go.Proofs.YtkmfmhckpfomeaaGreatDoor

def okS : List UInt8 := [111, 107]
def noS : List UInt8 := [110, 111]
def whatS : List UInt8 := [119, 104, 97, 116]
def yesS (k : Bool) : List UInt8 := if k then [121, 101, 115] else [110, 111, 116]
def codeS : List UInt8 := [99, 111, 100, 101, 32]
def longS : List UInt8 := [116, 111, 111, 32, 108, 111, 110, 103, 10]
def natsOf (g : List Int) : List Nat := g.map Int.toNat
abbrev Res := Option (List UInt8 × List Int × Nat)
def oneR (p : Int × Bool) (g : List Int) (c : Nat) : Res := if p.2 then some (Lib.itoa p.1, g, c) else none
def setR (p : Int × Bool) (g : List Int) : Res := if p.2 then some (okS, g, p.1.toNat) else none
noncomputable def cmdR (i : Nat) (g : List Int) (c a b : Nat) : Res := match i with
  | 1 => if kindOk a b then some (okS, kindGr a b, 0) else none
  | 2 => if a < g.length ∧ b < g.length ∧ a ≠ b then some (okS, ofN (addE (natsOf g) (a, b)), c) else none
  | 3 => some (okS, otherG g, c)
  | 4 => if a < 2 ^ g.length then some (okS, g, a) else none
  | 5 => setR (codeLeast g a) g
  | 6 => setR (codeThin g a c) g
  | 7 => some (saidB (natsOf g), g, c)
  | 8 => some (Lib.decDigits c, g, c)
  | 9 => some (saidB ((List.range g.length).map (markN g c)), g, c)
  | 10 => some (yesS (codeIn g a c), g, c)
  | 11 => oneR (treeRes g) g c
  | 12 => oneR (sensorMost g c) g c
  | 13 => oneR (sensorFind g c a b) g c
  | 14 => oneR (askDepth g ((2 ^ g.length - 1 : Nat) : Int)) g c
  | 15 => if canPlay g a then some (saidB (play g a 99 (2 ^ g.length - 1)), g, c) else none
  | 16 => some (yesS (poolTells g.length (pickTo g c g.length) a), g, c)
  | _ => none
def cmdNum (i : Nat) : Int := [0, 2, 2, -1, 1, 1, 1, -1, -1, -1, 1, -1, -1, 2, -1, 1, 1].getD i 0
def wordOf (i : Nat) : List UInt8 := [[], [103, 114, 97, 112, 104], [101, 100, 103, 101], [111, 116, 104, 101, 114], [99, 111, 100, 101], [108, 101, 97, 115, 116], [116, 104, 105, 110], [115, 104, 111, 119], [115, 101, 116], [109, 97, 114, 107, 115], [105, 110], [116, 114, 101, 101], [109, 111, 115, 116], [97, 108, 97, 114, 109], [100, 101, 112, 116, 104], [112, 108, 97, 121], [116, 101, 108, 108, 115]].getD i []
def cmdIxTo (w : List UInt8) : Nat → Nat
  | 0 => 0
  | i + 1 => if w = wordOf (i + 1) then i + 1 else cmdIxTo w i
def cmdIx (w : List UInt8) : Nat := cmdIxTo w 16
theorem cmdIx_word {w : List UInt8} {i : Nat} (h : cmdIx w = i) (hi : i ≠ 0) : w = wordOf i := by
  have key : ∀ n, cmdIxTo w n = i → w = wordOf i := by
    intro n
    induction n with
    | zero => intro h; exact absurd h.symm hi
    | succ n ih =>
      intro h
      unfold cmdIxTo at h
      split at h
      · rename_i h2; rw [← h]; exact h2
      · exact ih h
  exact key 16 h
theorem cmdIx_le (w : List UInt8) : cmdIx w ≤ 16 := by
  have key : ∀ n, cmdIxTo w n ≤ n := by
    intro n
    induction n with
    | zero => exact Nat.le_refl _
    | succ n ih => unfold cmdIxTo; split <;> omega
  exact key 16
theorem cmdIx_ne {w : List UInt8} (h : cmdIx w = 0) {i : Nat} (h1 : 1 ≤ i) (hi : i ≤ 16) : w ≠ wordOf i := by
  have key : ∀ n, cmdIxTo w n = 0 → i ≤ n → w ≠ wordOf i := by
    intro n
    induction n with
    | zero => intro _ h; omega
    | succ n ih =>
      intro h hn
      unfold cmdIxTo at h
      split at h
      · omega
      · rename_i h2
        by_cases e : i = n + 1
        · rw [e]; exact h2
        · exact ih h (by omega)
  exact key 16 h hi
theorem cmdIx_of : ∀ i, i ≤ 16 → cmdIx (wordOf i) = i := by decide +kernel
abbrev St := List Int × Nat
noncomputable def lineR (g : List Int) (c : Nat) (l : List UInt8) : List UInt8 × St :=
  let p := Lib.cut l [32]
  let i := cmdIx p.1
  if i = 0 ∨ p.2.2 ≠ decide (0 < cmdNum i) then (whatS, g, c)
  else match (if p.2.2 then argsOf (cmdNum i).toNat p.2.1 else some []) with
    | none => (noS, g, c)
    | some ns => match cmdR i g c (ns.getD 0 0) (ns.getD 1 0) with
      | none => (noS, g, c)
      | some r => r
noncomputable def stepR (s : List UInt8 × St) (l : List UInt8) : List UInt8 × St := (s.1 ++ ((lineR s.2.1 s.2.2 l).1 ++ [10]), (lineR s.2.1 s.2.2 l).2)
noncomputable def runR (ls : List (List UInt8)) : List UInt8 × St := ls.foldl stepR ([], kindGr 0 5, 0)
noncomputable def execR (t : List UInt8) : List UInt8 := if t.length ≤ 600 then (runR (pieces 10 t).dropLast).1 ++ ((codeS ++ Lib.decDigits (runR (pieces 10 t).dropLast).2.2) ++ [10]) else longS

/-! ### What stays -/
structure Fit (g : List Int) (c : Nat) : Prop where
  gr : IsGraph g
  lt : c < 2 ^ g.length
theorem Fit.c_le {g : List Int} {c : Nat} (h : Fit g c) : c ≤ 4095 := by
  have h1 := h.lt
  have h2 : 2 ^ g.length ≤ 2 ^ 12 := Nat.pow_le_pow_right (by omega) h.gr.le
  omega
theorem natsOf_length (g : List Int) : (natsOf g).length = g.length := by simp [natsOf]
theorem natsOf_get (g : List Int) (i : Nat) : (natsOf g).getD i 0 = gN g i := by
  unfold natsOf gN getI
  rw [List.getD_eq_getElem?_getD, List.getD_eq_getElem?_getD, List.getElem?_map]
  cases g[i]? <;> rfl
theorem ofN_nats {g : List Int} (hg : IsGraph g) : ofN (natsOf g) = g := by
  apply List.ext_getElem
  · rw [ofN_length, natsOf_length]
  · intro i h1 h2
    have e := hg.row i h2
    have e1 := ofN_get (natsOf g) i
    rw [natsOf_get, ← e] at e1
    unfold getI at e1
    rw [List.getD_eq_getElem?_getD, List.getD_eq_getElem?_getD, List.getElem?_eq_getElem h1, List.getElem?_eq_getElem h2] at e1
    exact e1
theorem gN_le {g : List Int} (hg : IsGraph g) (i : Nat) : gN g i ≤ 4095 := by
  have h1 := hg.lt i
  have h2 : 2 ^ g.length ≤ 2 ^ 12 := Nat.pow_le_pow_right (by omega) hg.le
  omega
theorem natsOf_le {g : List Int} (hg : IsGraph g) : ∀ n ∈ natsOf g, n ≤ 4095 := by
  intro n hn
  obtain ⟨i, hi, rfl⟩ := List.getElem_of_mem hn
  have := gN_le hg i
  rw [← natsOf_get, List.getD_eq_getElem?_getD, List.getElem?_eq_getElem hi] at this
  exact this
theorem natsOf_low {g : List Int} (hg : IsGraph g) : Low (natsOf g) := fun i => by rw [natsOf_get]; exact gN_le hg i
theorem orAt_get {g : List Nat} {a b : Nat} (ha : a < g.length) (i : Nat) : (orAt g a b).getD i 0 = if a = i then bor (g.getD a 0) (2 ^ b) else g.getD i 0 := by
  unfold orAt
  rw [List.getD_eq_getElem?_getD, List.getElem?_set, if_pos ha]
  split
  · rfl
  · rw [List.getD_eq_getElem?_getD]
theorem edge_bit {g : List Nat} {a b : Nat} (ha : a < g.length) (hb : b < g.length) (i k : Nat) :
    ((addE g (a, b)).getD i 0).testBit k = ((g.getD i 0).testBit k || (decide (a = i) && decide (b = k)) || (decide (b = i) && decide (a = k))) := by
  show ((orAt (orAt g a b) b a).getD i 0).testBit k = _
  rw [orAt_get (g := orAt g a b) (by rw [orAt_length]; exact hb) i, orAt_get ha b, orAt_get ha i]
  by_cases h1 : a = i
  · by_cases h2 : b = i
    · subst h1; subst h2
      simp only [if_true, testBit_bor, Nat.testBit_two_pow, decide_true, Bool.true_and]
    · rw [if_neg h2, if_pos h1]
      subst h1
      simp [testBit_bor, Nat.testBit_two_pow, h2]
  · by_cases h2 : b = i
    · rw [if_pos h2]
      subst h2
      simp [testBit_bor, Nat.testBit_two_pow, h1]
    · rw [if_neg h2, if_neg h1]
      simp [h1, h2]
theorem gN_ofN (l : List Nat) (i : Nat) : gN (ofN l) i = l.getD i 0 := by
  unfold gN getI
  rw [ofN_get]; rfl
theorem edge_isGraph {g : List Int} (hg : IsGraph g) {a b : Nat} (ha : a < g.length) (hb : b < g.length) (hab : a ≠ b) : IsGraph (ofN (addE (natsOf g) (a, b))) := by
  have hlen : (ofN (addE (natsOf g) (a, b))).length = g.length := by rw [ofN_length, addE_length, natsOf_length]
  have hbit : ∀ i k, (gN (ofN (addE (natsOf g) (a, b))) i).testBit k = ((gN g i).testBit k || (decide (a = i) && decide (b = k)) || (decide (b = i) && decide (a = k))) := fun i k => by
    rw [gN_ofN, edge_bit (by rw [natsOf_length]; exact ha) (by rw [natsOf_length]; exact hb), natsOf_get]
  refine ⟨by rw [hlen]; exact hg.pos, by rw [hlen]; exact hg.le, ?_, ?_, ?_, ?_⟩
  · intro i _
    unfold gN
    unfold getI
    rw [ofN_get]
    simp
  · intro i
    rw [hlen, gN_ofN]
    show (orAt (orAt (natsOf g) a b) b a).getD i 0 < _
    have hpa : 2 ^ a < 2 ^ g.length := Nat.pow_lt_pow_right (by omega) ha
    have hpb : 2 ^ b < 2 ^ g.length := Nat.pow_lt_pow_right (by omega) hb
    have h0 : ∀ j, (orAt (natsOf g) a b).getD j 0 < 2 ^ g.length := fun j => by
      rw [orAt_get (by rw [natsOf_length]; exact ha)]
      split
      · exact bor_lt (by rw [natsOf_get]; exact hg.lt _) hpb
      · rw [natsOf_get]; exact hg.lt _
    rw [orAt_get (by rw [orAt_length, natsOf_length]; exact hb)]
    split
    · exact bor_lt (h0 _) hpa
    · exact h0 _
  · intro i
    rw [hbit, hg.self]
    by_cases h1 : a = i <;> by_cases h2 : b = i <;> simp [h1, h2] <;> omega
  · intro i k
    rw [hbit, hbit, hg.sym i k]
    by_cases h1 : a = i <;> by_cases h2 : b = i <;> by_cases h3 : a = k <;> by_cases h4 : b = k <;> simp [h1, h2, h3, h4]
theorem least_lt {g : List Int} {a : Int} {d : Int} (h : codeLeast g a = (d, true)) : ∃ z : Nat, d = z ∧ z < 2 ^ g.length := by
  unfold codeLeast at h
  split at h
  · cases hl : lo (kindN g a.toNat) (2 ^ g.length) with
    | none => rw [hl] at h; cases h
    | some b =>
      rw [hl] at h
      cases h
      exact ⟨b, rfl, lo_lt _ _ hl⟩
  · cases h
theorem thin_lt' {g : List Int} {a d : Int} {c : Nat} (hc : c < 2 ^ g.length) (h : codeThin g a c = (d, true)) : ∃ z : Nat, d = z ∧ z < 2 ^ g.length := by
  unfold codeThin at h
  split at h
  · cases h
    exact ⟨_, rfl, thin_lt hc _⟩
  · cases h
theorem treeNum_le (g : List Int) : treeNum g ≤ 12 := by
  unfold treeNum
  split
  · omega
  · split
    · omega
    · have := cnt_le (leavesN g); omega
theorem most_small (g : List Int) (s : Int) : ∃ x : Nat, ∃ k, sensorMost g s = ((x : Int), k) ∧ x ≤ 4 := by
  have key : ∀ m, m ≤ 5 → ∃ x : Nat, ∃ k, mostFrom g s m = ((x : Int), k) ∧ x ≤ 4 := by
    intro m
    induction m with
    | zero => intro _; exact ⟨0, false, rfl, by omega⟩
    | succ m ih =>
      intro hm
      unfold mostFrom
      split
      · exact ⟨m, true, rfl, by omega⟩
      · exact ih (by omega)
  exact key 5 (Nat.le_refl _)
theorem find_small {g : List Int} (s t al : Int) (hl : g.length ≤ 12) : sensorFind g s t al = (-1, true) ∨ ∃ x : Nat, ∃ k, sensorFind g s t al = ((x : Int), k) ∧ x ≤ 12 := by
  unfold sensorFind
  split
  · split
    · exact .inl rfl
    · refine .inr ?_
      unfold leastP
      split
      · rename_i k hk
        exact ⟨k, true, rfl, by have := List.mem_range.1 (List.mem_of_find?_eq_some hk); omega⟩
      · exact ⟨0, false, rfl, by omega⟩
  · exact .inr ⟨0, false, rfl, by omega⟩
theorem askDepth_small (g : List Int) (s : Int) : ∃ x : Nat, ∃ k, askDepth g s = ((x : Int), k) ∧ x ≤ 99 := by
  unfold askDepth
  split
  · rename_i h
    obtain ⟨k, rfl, -, -, -, -, h99⟩ := okD_iff.1 h
    exact ⟨dep g k, true, rfl, by omega⟩
  · exact ⟨0, false, rfl, by omega⟩
theorem treeRes_small (g : List Int) : ∃ x : Nat, ∃ k, treeRes g = ((x : Int), k) ∧ x ≤ 12 := by
  unfold treeRes
  split
  · exact ⟨_, _, rfl, treeNum_le g⟩
  · exact ⟨0, false, rfl, by omega⟩
theorem bestOf_le {g : List Int} (hl : g.length ≤ 12) (s : Nat) : bestOf g s ≤ 24 := by
  have key : ∀ d x, bestTo g s d x ≤ x + d := by
    intro d
    induction d with
    | zero => intro x; exact Nat.zero_le _
    | succ d ih =>
      intro x
      unfold bestTo
      split
      · omega
      · have := ih (x + 1); omega
  have := key g.length 0
  unfold bestOf; omega
theorem play_small {g : List Int} (hl : g.length ≤ 12) (x : Nat) : ∀ d s, (play g x d s).length ≤ d ∧ ∀ n ∈ play g x d s, n ≤ 24
  | 0, s => ⟨Nat.le_refl _, fun n h => by cases h⟩
  | d + 1, s => by
    unfold play
    split
    · exact ⟨by simp, fun n h => by cases h⟩
    · have ih := play_small hl x d (nextOf g x s)
      refine ⟨by simpa using ih.1, fun n h => ?_⟩
      rcases List.mem_cons.1 h with rfl | h
      · exact bestOf_le hl s
      · exact ih.2 n h
theorem markN_le {c : Nat} (hc : c ≤ 4095) (g : List Int) (i : Nat) : markN g c i ≤ 4095 := Nat.le_trans Nat.and_le_right hc
theorem itoa_len {z : Int} (h0 : -1 ≤ z) (h : z ≤ 1048576) : (Lib.itoa z).length ≤ 8 := by
  unfold Lib.itoa
  split
  · have := dec_len z.natAbs (by omega)
    simp only [List.length_cons]; omega
  · have := dec_len z.toNat (by omega); omega
theorem oneR_fit {p : Int × Bool} {g g' : List Int} {c c' : Nat} {t : List UInt8} (h : oneR p g c = some (t, g', c')) : g' = g ∧ c' = c ∧ t = Lib.itoa p.1 := by
  unfold oneR at h
  split at h
  · cases h; exact ⟨rfl, rfl, rfl⟩
  · cases h
theorem cmdR_fit {i : Nat} {g g' : List Int} {c c' a b : Nat} {t : List UInt8} (hf : Fit g c) (h : cmdR i g c a b = some (t, g', c')) : Fit g' c' ∧ t.length ≤ 800 := by
  have hl := hf.gr.le
  have hc := hf.c_le
  have hy : ∀ k, (yesS k).length ≤ 800 := fun k => by cases k <;> decide
  have hone : ∀ p : Int × Bool, -1 ≤ p.1 → p.1 ≤ 1048576 → oneR p g c = some (t, g', c') → Fit g' c' ∧ t.length ≤ 800 := by
    intro p h1 h2 h
    obtain ⟨rfl, rfl, rfl⟩ := oneR_fit h
    exact ⟨hf, Nat.le_trans (itoa_len h1 h2) (by omega)⟩
  unfold cmdR at h
  split at h
  · split at h
    · rename_i hk
      obtain ⟨K, N, e1, e2, hK, h1, hN, -⟩ := kindOk_iff.1 hk
      have e1' : a = K := by omega
      have e2' : b = N := by omega
      subst e1'; subst e2'
      cases h
      exact ⟨⟨kind_isGraph hK h1 hN, Nat.two_pow_pos _⟩, by decide⟩
    · cases h
  · split at h
    · rename_i hk
      cases h
      refine ⟨⟨edge_isGraph hf.gr hk.1 hk.2.1 hk.2.2, ?_⟩, by decide⟩
      rw [ofN_length, addE_length, natsOf_length]
      exact hf.lt
    · cases h
  · cases h
    exact ⟨⟨other_isGraph hf.gr, by rw [otherG_length]; exact hf.lt⟩, by decide⟩
  · split at h
    · rename_i hk
      cases h
      exact ⟨⟨hf.gr, hk⟩, by decide⟩
    · cases h
  · unfold setR at h
    split at h
    · rename_i hk
      obtain ⟨z, hz, hlt⟩ := least_lt (show codeLeast g a = ((codeLeast g a).1, true) from by rw [← hk])
      cases h
      refine ⟨⟨hf.gr, ?_⟩, by decide⟩
      rw [hz]; exact hlt
    · cases h
  · unfold setR at h
    split at h
    · rename_i hk
      obtain ⟨z, hz, hlt⟩ := thin_lt' hf.lt (show codeThin g a c = ((codeThin g a c).1, true) from by rw [← hk])
      cases h
      refine ⟨⟨hf.gr, ?_⟩, by decide⟩
      rw [hz]; exact hlt
    · cases h
  · cases h
    refine ⟨hf, ?_⟩
    have := said_len (natsOf g) (fun n hn => Nat.le_trans (natsOf_le hf.gr n hn) (by omega))
    rw [natsOf_length] at this
    omega
  · cases h
    exact ⟨hf, Nat.le_trans (dec_len _ (by omega)) (by omega)⟩
  · cases h
    refine ⟨hf, ?_⟩
    have := said_len ((List.range g.length).map (markN g c)) (fun n hn => by
      obtain ⟨i, -, rfl⟩ := List.mem_map.1 hn
      exact Nat.le_trans (markN_le hc g i) (by omega))
    rw [List.length_map, List.length_range] at this
    omega
  · cases h; exact ⟨hf, hy _⟩
  · obtain ⟨x, k, e, hx⟩ := treeRes_small g
    exact hone _ (by rw [e]; show (-1 : Int) ≤ (x : Int); omega) (by rw [e]; show (x : Int) ≤ _; omega) h
  · obtain ⟨x, k, e, hx⟩ := most_small g c
    exact hone _ (by rw [e]; show (-1 : Int) ≤ (x : Int); omega) (by rw [e]; show (x : Int) ≤ _; omega) h
  · rcases find_small (g := g) c a b hl with e | ⟨x, k, e, hx⟩
    · exact hone _ (by rw [e]; decide) (by rw [e]; decide) h
    · exact hone _ (by rw [e]; show (-1 : Int) ≤ (x : Int); omega) (by rw [e]; show (x : Int) ≤ _; omega) h
  · obtain ⟨x, k, e, hx⟩ := askDepth_small g ((2 ^ g.length - 1 : Nat) : Int)
    exact hone _ (by rw [e]; show (-1 : Int) ≤ (x : Int); omega) (by rw [e]; show (x : Int) ≤ _; omega) h
  · split at h
    · cases h
      refine ⟨hf, ?_⟩
      have hp := play_small hl a 99 (2 ^ g.length - 1)
      have := said_len (play g a 99 (2 ^ g.length - 1)) (fun n hn => Nat.le_trans (hp.2 n hn) (by omega))
      omega
    · cases h
  · cases h; exact ⟨hf, hy _⟩
  · cases h
theorem lineR_fit {g : List Int} {c : Nat} (hf : Fit g c) (l : List UInt8) : Fit (lineR g c l).2.1 (lineR g c l).2.2 ∧ (lineR g c l).1.length ≤ 800 := by
  unfold lineR
  dsimp only
  split
  · exact ⟨hf, show whatS.length ≤ 800 by decide⟩
  · split
    · exact ⟨hf, show noS.length ≤ 800 by decide⟩
    · split
      · exact ⟨hf, show noS.length ≤ 800 by decide⟩
      · rename_i ns _ _ r h
        obtain ⟨t, g', c'⟩ := r
        exact cmdR_fit hf h
theorem fit0 : Fit (kindGr 0 5) 0 := ⟨kind_isGraph (by omega) (by omega) (by omega), Nat.two_pow_pos _⟩
theorem run_fit (ls : List (List UInt8)) : ∀ s : List UInt8 × St, Fit s.2.1 s.2.2 → Fit (ls.foldl stepR s).2.1 (ls.foldl stepR s).2.2 ∧ (ls.foldl stepR s).1.length ≤ s.1.length + 801 * ls.length := by
  induction ls with
  | nil => intro s h; exact ⟨h, by simp⟩
  | cons l r ih =>
    intro s h
    have h1 := lineR_fit h l
    have := ih (stepR s l) h1.1
    refine ⟨this.1, Nat.le_trans this.2 ?_⟩
    have e : (stepR s l).1.length = s.1.length + ((lineR s.2.1 s.2.2 l).1.length + 1) := by unfold stepR; simp
    rw [e, List.length_cons]
    omega
theorem runR_fit (ls : List (List UInt8)) : Fit (runR ls).2.1 (runR ls).2.2 ∧ (runR ls).1.length ≤ 801 * ls.length := by
  have := run_fit ls ([], kindGr 0 5, 0) fit0
  exact ⟨this.1, Nat.le_trans this.2 (by simp)⟩
theorem runR_snoc (ls : List (List UInt8)) (l : List UInt8) : runR (ls ++ [l]) = stepR (runR ls) l := by
  unfold runR
  rw [List.foldl_append]; rfl
theorem runR_next {ls : List (List UInt8)} {k : Nat} (h : k < ls.length) : runR (ls.take (k + 1)) = stepR (runR (ls.take k)) (ls.getD k []) := by
  rw [← runR_snoc, List.take_succ_eq_append_getElem h, List.getD_eq_getElem?_getD, List.getElem?_eq_getElem h]; rfl
end Go.Proofs.YtkmfmhckpfomeaaGreatDoor

/- The desk with a graph that is one and a code that is a set of its nodes; what a command leaves. No condition. -/
namespace Go.Proofs.YtkmfmhckpfomeaaGreatDoor
open Go.RowKit

theorem Rd.upd {w w' : World} {k n m b : Nat} {g : List Int} (h : Rd w (.slice (some ⟨k, 0, none⟩) n m) g) (hne : k ≠ b) (hu : Upd b w w') : Rd w' (.slice (some ⟨k, 0, none⟩) n m) g := by
  obtain ⟨a', c', e, h⟩ := h
  simp only [Value.slice.injEq] at e
  obtain ⟨rfl, rfl, rfl⟩ := e
  refine ⟨_, _, rfl, h.imp id ?_⟩
  rintro ⟨b', o, e, hb, hc, h⟩
  cases e
  exact ⟨_, _, rfl, Nat.lt_of_lt_of_le hb hu.size, hc, fun i hi => (hu.cell hb hne).trans (h i hi)⟩
/-- The desk at block b: its graph lies at the head of a row of its own. -/
structure DeskG (w : World) (b : Nat) (g : List Int) (c : Nat) : Prop where
  ex : ∃ k m, Desk w b (.slice (some ⟨k, 0, none⟩) g.length m) c ∧ k ≠ b ∧ Rd w (.slice (some ⟨k, 0, none⟩) g.length m) g
  fit : Fit g c
theorem DeskG.ext {w w' : World} {b c : Nat} {g : List Int} (h : DeskG w b g c) (hx : Ext w w') : DeskG w' b g c := by
  obtain ⟨⟨k, m, h1, h2, h3⟩, hf⟩ := h
  exact ⟨⟨k, m, h1.ext hx, h2, h3.ext hx⟩, hf⟩
theorem DeskG.lt {w : World} {b c : Nat} {g : List Int} (h : DeskG w b g c) : b < w.heap.size := by
  obtain ⟨⟨k, m, h1, _⟩, _⟩ := h
  exact h1.lt
/-- A new code. -/
theorem DeskG.code {w w' : World} {b k m c : Nat} {g : List Int} (hne : k ≠ b) (hv : Rd w (.slice (some ⟨k, 0, none⟩) g.length m) g) (hu : Upd b w w') (h : Desk w' b (.slice (some ⟨k, 0, none⟩) g.length m) c) (hf : Fit g c) : DeskG w' b g c :=
  ⟨⟨k, m, h, hne, hv.upd hne hu⟩, hf⟩
/-- A new graph. -/
theorem DeskG.graph {w1 w' : World} {b B c : Nat} {v : Value} {g : List Int} (ho : Own w1 B v g) (hB : b < B) (hu : Upd b w1 w') (h : Desk w' b v c) (hf : Fit g c) : DeskG w' b g c := by
  have ho' := ho.upd hB hu
  obtain ⟨k, m, rfl⟩ := ho'.slice hf.gr.pos
  have := ho'.at
  exact ⟨⟨k, m, h, by have := this.2.2.1; omega, ho'.rd⟩, hf⟩
/-- What a command leaves. -/
def Done (w : World) (b : Nat) (g : List Int) (c : Nat) (r : Res) (e : Ending) (w' : World) : Prop := match r with
  | none => (∃ s, e = .returned (.tuple #[strV s, .bool false])) ∧ DeskG w' b g c ∧ Upd b w w'
  | some t => e = .returned (.tuple #[strV t.1, .bool true]) ∧ DeskG w' b t.2.1 t.2.2 ∧ Upd b w w'
theorem Done.read {w w' : World} {b c : Nat} {g : List Int} {t : List UInt8} {k : Bool} {e : Ending} (h : DeskG w b g c) (he : e = .returned (.tuple #[strV t, .bool k])) (hx : Ext w w') : Done w b g c (if k then some (t, g, c) else none) e w' := by
  cases k
  · exact ⟨⟨t, he⟩, h.ext hx, Upd.of_ext hx⟩
  · exact ⟨he, h.ext hx, Upd.of_ext hx⟩
end Go.Proofs.YtkmfmhckpfomeaaGreatDoor

/- What the commands do, the program's side: those that change the desk. No condition. -/
namespace Go.Proofs.YtkmfmhckpfomeaaGreatDoor
open Go.RowKit
open BigFrame
attribute [local go_sem] Oper.semAt_some

/-- One number that came in: what its cell holds later. -/
theorem arg_one {w : World} {n : Value} {x : Nat} (hn : Rd w n (intsOf [x])) : ∃ q o m, n = .slice (some ⟨q, o, none⟩) 1 m ∧ ∀ w', Ext w w' → w'.cell? ⟨q, o, none⟩ = some (.int .i64 x) := by
  obtain ⟨a2, m2, rfl⟩ := hn.form
  rw [show (intsOf [x]).length = 1 from rfl] at hn ⊢
  obtain ⟨q, o, rfl, -, -, hq⟩ := hn.atI (k := 0) (by omega)
  exact ⟨q, o, m2, rfl, hq⟩
/-- Two numbers that came in. -/
theorem arg_two {w : World} {n : Value} {x y : Nat} (hn : Rd w n (intsOf [x, y])) : ∃ q o m, n = .slice (some ⟨q, o, none⟩) 2 m ∧ (∀ w', Ext w w' → w'.cell? ⟨q, o, none⟩ = some (.int .i64 x)) ∧ ∀ w', Ext w w' → w'.cell? ⟨q, o + 1, none⟩ = some (.int .i64 y) := by
  obtain ⟨a2, m2, rfl⟩ := hn.form
  rw [show (intsOf [x, y]).length = 2 from rfl] at hn ⊢
  obtain ⟨q, o, rfl, -, -, hq⟩ := hn.atI (k := 0) (by omega)
  obtain ⟨q', o', e, -, -, hq'⟩ := hn.atI (k := 1) (by omega)
  cases e
  exact ⟨q, o, m2, rfl, hq, hq'⟩
set_option maxRecDepth 100000 in
set_option maxHeartbeats 2000000 in
/-- graph -/
theorem cmd1_c (b : Nat) (n : Value) (g : List Int) (c x y : Nat) (w : World) (hd : DeskG w b g c) (hn : Rd w n (intsOf [x, y])) :
    Calls Tryz.prog 75 #[.pointer (some ⟨b, 0, none⟩), n] w (Done w b g c (cmdR 1 g c x y)) := by
  have HD := Lib.hid hd
  obtain ⟨⟨k, m, h1, hkb, h3⟩, hf⟩ := hd
  obtain ⟨q, o, m2, rfl, hq, hq2⟩ := arg_two hn
  have hbl := h1.lt
  have c2 := hq _ (Ext.refl w).drew
  have c3 := hq2 _ (Ext.refl w).drew
  have HC := Lib.hid (graphKindJ_c x y w.drew)
  have H1 := Lib.hid h1
  have HF := Lib.hid hf
  have HK := Lib.hid hkb
  have H3 := Lib.hid h3
  cases hk : kindOk x y
  · have HR : Hid (cmdR 1 g c x y = none) := by show cmdR 1 g c x y = none; unfold cmdR; rw [hk]; rfl
    rw [show graphKind x y = ([], false) from by unfold graphKind; rw [hk]; rfl] at HC
    simp only [listV] at HC
    rw [HR.out]
    clear h1 h3 hf hq hq2 hn hk hkb hbl
    go_enter Tryz.func75, Tryz.ntmps75
    go_wp2
    go_region_with (go_at_call 17; refine HC.out.mono ?_; rintro e w1 ⟨v1, rfl, o1, x1⟩; obtain ⟨z1, z2, rfl⟩ := o1.form' rfl; have X1 := Lib.hid ((Ext.refl w).drew.trans x1); clear x1 o1)
    all_goals
      go_wp2_with fail
      refine (redraw_c b _ _ _ _ c _ _ (H1.out.ext X1.out)).mono ?_
      rintro e w2 ⟨rfl, d2, u2⟩
      have D2 := Lib.hid d2
      have U2 := Lib.hid ((Upd.of_ext (b := b) X1.out).trans u2)
      clear d2 u2
      go_wp2
      go_ret2
      exact ⟨⟨_, rfl⟩, DeskG.code HK.out H3.out U2.out D2.out HF.out, U2.out⟩
  · have HR : Hid (cmdR 1 g c x y = some (okS, kindGr x y, 0)) := by show cmdR 1 g c x y = _; unfold cmdR; rw [hk]; rfl
    rw [show graphKind x y = (kindGr x y, true) from by unfold graphKind; rw [hk]; rfl] at HC
    obtain ⟨K, N, e1, e2, hK, hN1, hN, -⟩ := kindOk_iff.1 hk
    have e1' : x = K := by omega
    have e2' : y = N := by omega
    subst e1'; subst e2'
    have HF2 : Hid (Fit (kindGr x y) 0) := ⟨kind_isGraph hK hN1 hN, Nat.two_pow_pos _⟩
    simp only [listV] at HC
    rw [HR.out]
    have HB := Lib.hid hbl
    clear h1 h3 hf hq hq2 hn hk hkb hbl e1 e2 hK hN1 hN
    go_enter Tryz.func75, Tryz.ntmps75
    go_wp2
    go_region_with (go_at_call 17; refine HC.out.mono ?_; rintro e w1 ⟨v1, rfl, o1, x1⟩; obtain ⟨z1, z2, rfl⟩ := o1.slice HF2.out.gr.pos; have X1 := Lib.hid ((Ext.refl w).drew.trans x1); have O1 := Lib.hid o1; clear x1 o1)
    all_goals
      have c4 := (H1.out.ext X1.out).code
      have f4 := (H1.out.ext X1.out).frozen 1
      go_wp2_with fail
      refine (redraw_c b _ _ _ _ _ _ _ ((H1.out.ext X1.out).setCode 0)).mono ?_
      rintro e w2 ⟨rfl, d2, u2⟩
      have D2 := Lib.hid d2
      have U1 := Lib.hid ((Upd.setCell _ b 1 (.int .i64 0)).trans u2)
      have U2 := Lib.hid ((Upd.of_ext (b := b) X1.out).trans U1.out)
      clear d2 u2
      go_wp2
      go_ret2
      exact ⟨rfl, DeskG.graph O1.out HB.out U1.out D2.out HF2.out, U2.out⟩
end Go.Proofs.YtkmfmhckpfomeaaGreatDoor

/- What the commands do, the program's side: thin. No condition. -/
namespace Go.Proofs.YtkmfmhckpfomeaaGreatDoor
open Go.RowKit
open BigFrame
attribute [local go_sem] Oper.semAt_some

set_option maxRecDepth 100000 in
set_option maxHeartbeats 4000000 in
/-- thin -/
theorem cmd6_c (b : Nat) (n : Value) (g : List Int) (c x y : Nat) (w : World) (hd : DeskG w b g c) (hn : Rd w n (intsOf [x])) :
    Calls Tryz.prog 85 #[.pointer (some ⟨b, 0, none⟩), n] w (Done w b g c (cmdR 6 g c x y)) := by
  obtain ⟨⟨k, m, h1, hkb, h3⟩, hf⟩ := hd
  obtain ⟨q, o, m2, rfl, hq⟩ := arg_one hn
  have hl := hf.gr.le
  have c2 := hq _ (Ext.refl w).drew
  have c0 := (h1.ext (Ext.refl w).drew).graph
  have c1 := (h1.ext (Ext.refl w).drew).code
  have H1 := Lib.hid h1
  have HF := Lib.hid hf
  have HK := Lib.hid hkb
  have H3 := Lib.hid h3
  have HC := Lib.hid (codeThinI_c (.slice (some ⟨k, 0, none⟩) g.length m) g x c w.drew (h3.ext (Ext.refl _).drew) (by omega))
  have HR : Hid (cmdR 6 g c x y = setR (codeThin g x c) g) := rfl
  rw [HR.out]
  have HL : Hid (∀ d, codeThin g x c = (d, true) → ∃ z : Nat, d = z ∧ z < 2 ^ g.length) := fun d h => thin_lt' hf.lt h
  obtain ⟨p, hp⟩ : ∃ p, p = codeThin g x c := ⟨_, rfl⟩
  rw [← hp] at HC HL ⊢
  obtain ⟨d, s⟩ := p
  simp only [pairV] at HC
  clear h1 h3 hf hq hn hkb hp hl HR
  go_enter Tryz.func85, Tryz.ntmps85
  go_wp2
  go_region_with (first
    | (go_at_call 86; refine HC.out.mono ?_; rintro e w1 ⟨rfl, x1⟩; have X1 := Lib.hid ((Ext.refl w).drew.trans x1); clear x1)
    | (go_at_call 83; refine (become_c b _ _ d s _ (H1.out.ext X1.out)).mono ?_; rintro e w2 ⟨rfl, d2, u2⟩; have D2 := Lib.hid d2; have U2 := Lib.hid ((Upd.of_ext (b := b) X1.out).trans u2); clear d2 u2))
  all_goals
    go_wp2
    go_ret2
    cases s
    · exact ⟨⟨_, rfl⟩, DeskG.code HK.out H3.out U2.out D2.out HF.out, U2.out⟩
    · obtain ⟨z, rfl, hz⟩ := HL.out _ rfl
      exact ⟨rfl, DeskG.code HK.out H3.out U2.out D2.out ⟨HF.out.gr, hz⟩, U2.out⟩
end Go.Proofs.YtkmfmhckpfomeaaGreatDoor

/- What the commands do, the program's side: least. No condition. -/
namespace Go.Proofs.YtkmfmhckpfomeaaGreatDoor
open Go.RowKit
open BigFrame
attribute [local go_sem] Oper.semAt_some

set_option maxRecDepth 100000 in
set_option maxHeartbeats 4000000 in
/-- least -/
theorem cmd5_c (b : Nat) (n : Value) (g : List Int) (c x y : Nat) (w : World) (hd : DeskG w b g c) (hn : Rd w n (intsOf [x])) :
    Calls Tryz.prog 84 #[.pointer (some ⟨b, 0, none⟩), n] w (Done w b g c (cmdR 5 g c x y)) := by
  obtain ⟨⟨k, m, h1, hkb, h3⟩, hf⟩ := hd
  obtain ⟨q, o, m2, rfl, hq⟩ := arg_one hn
  have hl := hf.gr.le
  have c2 := hq _ (Ext.refl w).drew
  have c0 := (h1.ext (Ext.refl w).drew).graph
  have c1 := (h1.ext (Ext.refl w).drew).code
  have H1 := Lib.hid h1
  have HF := Lib.hid hf
  have HK := Lib.hid hkb
  have H3 := Lib.hid h3
  have HC := Lib.hid (codeLeastI_c (.slice (some ⟨k, 0, none⟩) g.length m) g x w.drew (h3.ext (Ext.refl _).drew) (by omega))
  have HR : Hid (cmdR 5 g c x y = setR (codeLeast g x) g) := rfl
  rw [HR.out]
  have HL : Hid (∀ d, codeLeast g x = (d, true) → ∃ z : Nat, d = z ∧ z < 2 ^ g.length) := fun d h => least_lt h
  obtain ⟨p, hp⟩ : ∃ p, p = codeLeast g x := ⟨_, rfl⟩
  rw [← hp] at HC HL ⊢
  obtain ⟨d, s⟩ := p
  simp only [pairV] at HC
  clear h1 h3 hf hq hn hkb hp hl HR
  go_enter Tryz.func84, Tryz.ntmps84
  go_wp2
  go_region_with (first
    | (go_at_call 18; refine HC.out.mono ?_; rintro e w1 ⟨rfl, x1⟩; have X1 := Lib.hid ((Ext.refl w).drew.trans x1); clear x1)
    | (go_at_call 83; refine (become_c b _ _ d s _ (H1.out.ext X1.out)).mono ?_; rintro e w2 ⟨rfl, d2, u2⟩; have D2 := Lib.hid d2; have U2 := Lib.hid ((Upd.of_ext (b := b) X1.out).trans u2); clear d2 u2))
  all_goals
    go_wp2
    go_ret2
    cases s
    · exact ⟨⟨_, rfl⟩, DeskG.code HK.out H3.out U2.out D2.out HF.out, U2.out⟩
    · obtain ⟨z, rfl, hz⟩ := HL.out _ rfl
      exact ⟨rfl, DeskG.code HK.out H3.out U2.out D2.out ⟨HF.out.gr, hz⟩, U2.out⟩
end Go.Proofs.YtkmfmhckpfomeaaGreatDoor
