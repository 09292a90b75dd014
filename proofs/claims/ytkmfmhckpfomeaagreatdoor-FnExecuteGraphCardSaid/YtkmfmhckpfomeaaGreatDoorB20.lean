/- What the walks of this seat rest on, one part: plain facts, and contracts of the functions that they reach. Each states its own condition. -/
import Derived.Test.YtkmfmhckpfomeaaGreatDoorB19
import Derived.Test.YtkmfmhckpfomeaaGreatDoorB6
import Derived.Test.YtkmfmhckpfomeaaGreatDoorB7
import Derived.Test.YtkmfmhckpfomeaaGreatDoorB9
import Derived.Test.YtkmfmhckpfomeaaGreatDoorB14
import Derived.Test.YtkmfmhckpfomeaaGreatDoorB15
import Derived.Test.YtkmfmhckpfomeaaGreatDoorB11
import Derived.Deep.RegionLaw
import Derived.Test.YtkmfmhckpfomeaaGreatDoorB8
set_option linter.all false
set_option linter.unusedSimpArgs false
set_option linter.unusedVariables false
/- The depth of a set: the reference and the program compute the same plain function. The condition: the list has at most 2^20 numbers. -/
namespace Go.Proofs.YtkmfmhckpfomeaaGreatDoor
open Go.RowKit
open BigFrame

/-- A set that is not empty and can be told. -/
def okD (g : List Int) (s : Int) : Bool := fits g s && decide (s ≠ 0) && decide (dep g s.toNat < 99)
theorem okD_iff {g : List Int} {s : Int} : okD g s = true ↔ ∃ k : Nat, s = k ∧ IsGraph g ∧ k < 2 ^ g.length ∧ k ≤ 4095 ∧ k ≠ 0 ∧ dep g k < 99 := by
  unfold okD
  rw [Bool.and_eq_true, Bool.and_eq_true, fits_iff, decide_eq_true_iff, decide_eq_true_iff]
  constructor
  · rintro ⟨⟨⟨k, rfl, hG, hk⟩, h0⟩, hd⟩
    exact ⟨k, rfl, hG, hk, by have := pow_le_12 hG.le; omega, by omega, hd⟩
  · rintro ⟨k, rfl, hG, hk, -, h0, hd⟩
    exact ⟨⟨⟨k, rfl, hG, hk⟩, by omega⟩, hd⟩
def askDepth (g : List Int) (s : Int) : Int × Bool := if okD g s then (((dep g s.toNat : Nat) : Int), true) else (0, false)

set_option maxHeartbeats 1000000 in
theorem l6qGiven_c (v : Value) (g : List Int) (s : Int) (w : World) (hv : Rd w v g) (hm : g.length ≤ 1048576) :
    Calls Tryz.prog 158 #[v, .int .i64 s] w fun e w' => ∃ v', e = .returned (listV v' (okD g s)) ∧ (okD g s = true → Rd w' v' (depsOf g) ∧ Fresh w v') ∧ Ext w w' := by
  obtain ⟨a, c, rfl⟩ := hv.form
  have HV := Lib.hid hv; clear hv
  have HM := Lib.hid hm
  cases h0 : graphIn g
  · have HK : Hid (okD g s = false) := by unfold Hid okD fits; rw [h0]; rfl
    rw [HK.out]
    go_enter Tryz.func158, Tryz.ntmps158
    go_wp2_with fail
    refine (graphInS_c _ _ _ HV.out HM.out).mono ?_
    rintro e w1 ⟨rfl, x1⟩
    have X1 := Lib.hid x1; clear x1
    go_wp2
    go_ret2
    exact ⟨_, rfl, fun h => (by cases h), X1.out.alloc _⟩
  · have hG := graphIn_iff.1 h0
    have hl := hG.le
    have HG := Lib.hid hG; clear hG
    cases hs : setB s g.length
    · have HK : Hid (okD g s = false) := by unfold Hid okD fits; rw [hs, Bool.and_false]; rfl
      rw [HK.out]
      go_enter Tryz.func158, Tryz.ntmps158
      go_wp2_with fail
      refine (graphInS_c _ _ _ HV.out HM.out).mono ?_
      rintro e w1 ⟨rfl, x1⟩
      have X1 := Lib.hid x1; clear x1
      go_wp2_with (go_at_call 118; refine (l2Set_c _ g _ _ (HV.out.ext X1.out) (by omega)).mono ?_; rintro e w' ⟨rfl, rfl⟩)
      go_ret2
      exact ⟨_, rfl, fun h => (by cases h), X1.out.alloc _⟩
    · obtain ⟨k, rfl, hk⟩ := setB_iff.1 hs
      have hk4 : k ≤ 4095 := by have := pow_le_12 hl; omega
      by_cases hz : k = 0
      · have HK : Hid (okD g k = false) := by unfold Hid okD; rw [hz]; simp
        rw [HK.out]
        have hz0 : ((k : Int) == 0) = true := by simp [hz]
        clear hz
        go_enter Tryz.func158, Tryz.ntmps158
        go_wp2_with fail
        refine (graphInS_c _ _ _ HV.out HM.out).mono ?_
        rintro e w1 ⟨rfl, x1⟩
        have X1 := Lib.hid x1; clear x1
        go_wp2_with (go_at_call 118; refine (l2Set_c _ g _ _ (HV.out.ext X1.out) (by omega)).mono ?_; rintro e w' ⟨rfl, rfl⟩)
        go_ret2
        exact ⟨_, rfl, fun h => (by cases h), X1.out.alloc _⟩
      · have HK : Hid (okD g k = decide (dep g k < 99)) := by unfold Hid okD fits; rw [h0, hs]; simp [hz]
        rw [HK.out]
        have hz0 : ((k : Int) == 0) = false := by simp [hz]
        obtain ⟨p, hp, hp1, hp2, hp3⟩ := pow_var g.length (by omega)
        have HP := Lib.hid hp
        have hkp : k < p := by rw [← hp]; exact hk
        have HGET := Lib.hid (depsOf_get g hk)
        clear hk hp
        go_enter Tryz.func158, Tryz.ntmps158
        go_wp2_with fail
        refine (graphInS_c _ _ _ HV.out HM.out).mono ?_
        rintro e w1 ⟨rfl, x1⟩
        have X1 := Lib.hid x1; clear x1
        go_wp2_with (go_at_call 118; refine (l2Set_c _ g _ _ (HV.out.ext X1.out) (by omega)).mono ?_; rintro e w' ⟨rfl, rfl⟩)
        refine (l6qDepths_c _ g _ (HV.out.ext X1.out) HG.out).mono ?_
        rintro e w2 ⟨vd, rfl, rd, fr, x2⟩
        have X2 := Lib.hid (X1.out.trans x2); clear x2
        have RD := Lib.hid rd; have FR := Lib.hid fr; clear fr
        obtain ⟨ad, cd, rfl⟩ := rd.form
        have hlen : (depsOf g).length = p := by rw [depsOf_length]; exact HP.out
        rw [hlen] at RD rd FR
        rw [hlen]
        obtain ⟨bd, od, rfl, -, hbd, hcd⟩ := rd.atI hkp
        have ck := fun u => hcd _ (clip_ext w2 u)
        rw [show getI (depsOf g) k = ((dep g k : Nat) : Int) from HGET.out] at ck
        have hdl := dep_le g k
        obtain ⟨d, hd⟩ : ∃ d, d = dep g k := ⟨_, rfl⟩
        rw [← hd] at ck hdl
        have HDD := Lib.hid hd
        clear rd hcd hlen hd
        go_wp2
        refine wp_region_ext (by kernel_rfl) (by kernel_rfl) ?_
        repeat (go_big_quiet_step (fail))
        refine wpQuiet_nil ?_
        rintro _ ⟨u, rfl⟩
        go_wp2
        go_ret2
        refine ⟨_, ?_, fun _ => ⟨RD.out.ext (clip_ext _ _), fun b o s n c e => Nat.le_trans X1.out.size (FR.out b o s n c e)⟩, X2.out.trans (clip_ext _ _)⟩
        unfold listV
        rw [← HDD.out, show decide (d < 99) = decide ((d : Int) < 99) from by simp; omega]
        rfl

set_option maxHeartbeats 1000000 in
theorem askDepthS_c (v : Value) (g : List Int) (s : Int) (w : World) (hv : Rd w v g) (hm : g.length ≤ 1048576) :
    Calls Tryz.prog 115 #[v, .int .i64 s] w fun e w' => e = .returned (pairV (askDepth g s)) ∧ Ext w w' := by
  obtain ⟨a, c, rfl⟩ := hv.form
  have HC := Lib.hid (l6qGiven_c _ g s w hv hm)
  clear hv hm
  cases h0 : okD g s
  · rw [show askDepth g s = (0, false) from by unfold askDepth; rw [h0]; rfl]
    go_enter Tryz.func115, Tryz.ntmps115
    go_wp2_with fail
    refine HC.out.mono ?_
    rintro e w1 ⟨v', rfl, -, x1⟩
    have X1 := Lib.hid x1; clear x1
    unfold listV
    rw [h0]
    go_wp2
    go_ret2
    exact ⟨rfl, X1.out⟩
  · obtain ⟨k, rfl, hG, hk, hk4, hz, hd⟩ := okD_iff.1 h0
    rw [show askDepth g k = (((dep g k : Nat) : Int), true) from by unfold askDepth; rw [h0]; rfl]
    have HGET := Lib.hid (depsOf_get g hk)
    have H0 := Lib.hid h0
    have hkl : k < (depsOf g).length := by rw [depsOf_length]; exact hk
    clear hG h0 hd hk
    go_enter Tryz.func115, Tryz.ntmps115
    go_wp2_with fail
    refine HC.out.mono ?_
    rintro e w1 ⟨v', rfl, hr, x1⟩
    have X1 := Lib.hid x1; clear x1
    have rd := (hr H0.out).1
    unfold listV
    rw [H0.out]
    obtain ⟨ad, cd, rfl⟩ := rd.form
    obtain ⟨bd, od, rfl, -, hbd, hcd⟩ := rd.atI hkl
    have ck := hcd _ (Ext.refl w1)
    rw [show getI (depsOf g) k = ((dep g k : Nat) : Int) from HGET.out] at ck
    obtain ⟨n, hn⟩ : ∃ n, n = (depsOf g).length := ⟨_, rfl⟩
    rw [← hn] at hkl ⊢
    clear hr rd hcd hn
    go_wp2
    go_ret2
    exact ⟨rfl, X1.out⟩

/-- The asker's depth, from its making on. -/
theorem depth_c {w0 w : World} {b : Nat} {v : Value} {g : List Int} (hv : Rd w0 v g) (hg : IsGraph g) (hb : w0.heap.size ≤ b) (s : Nat) (hs : s ≤ 4095) (h0 : s ≠ 0) (ha : AskOk w0 b v g w) :
    Calls Tryz.prog 141 #[.pointer (some ⟨b + 1, 0, none⟩), .int .i64 s] w fun e w' => e = .returned (.int .i64 (never (dep g s) : Nat)) ∧ AskOk w0 b v g w' ∧ Upd b w w' :=
  depth_of hv hg hb s s w (Nat.le_refl _) hs h0 ha
theorem after_c {w0 w : World} {b : Nat} {v : Value} {g : List Int} (hv : Rd w0 v g) (hg : IsGraph g) (hb : w0.heap.size ≤ b) (s x : Nat) (hs : s ≤ 4095) (hx : x < g.length) (ha : AskOk w0 b v g w) :
    Calls Tryz.prog 179 #[.pointer (some ⟨b + 1, 0, none⟩), .int .i64 s, .int .i64 x] w fun e w' => e = .returned (.int .i64 (aft g s x : Nat)) ∧ AskOk w0 b v g w' ∧ Upd b w w' :=
  after_of hv hg hb s x hs hx (fun t w ht h0 ha => depth_c hv hg hb t (by omega) h0 ha) w ha

set_option maxHeartbeats 1000000 in
theorem askDepthI_c (v : Value) (g : List Int) (s : Int) (w : World) (hv : Rd w v g) (hm : g.length ≤ 1048576) :
    Calls Tryz.prog 103 #[v, .int .i64 s] w fun e w' => e = .returned (pairV (askDepth g s)) ∧ Ext w w' := by
  obtain ⟨a, c, rfl⟩ := hv.form
  have HV := Lib.hid hv
  have HC := Lib.hid (codeFits_c _ g s w hv hm)
  clear hv hm
  cases h0 : fits g s
  · rw [show askDepth g s = (0, false) from by unfold askDepth okD; rw [h0]; rfl]
    rw [h0] at HC
    go_enter Tryz.func103, Tryz.ntmps103
    go_wp2_with (go_at_call 135; refine HC.out.mono ?_; rintro e w1 ⟨rfl, x1⟩)
    go_ret2
    exact ⟨rfl, by assumption⟩
  · obtain ⟨k, rfl, hG, hk⟩ := fits_iff.1 h0
    have hk4 : k ≤ 4095 := by have := pow_le_12 hG.le; omega
    rw [h0] at HC
    have HG := Lib.hid hG
    by_cases hz : k = 0
    · rw [show askDepth g k = (0, false) from by unfold askDepth okD; rw [hz]; simp]
      have hz0 : ((k : Int) == 0) = true := by simp [hz]
      clear h0 hG hk hz
      go_enter Tryz.func103, Tryz.ntmps103
      go_wp2_with (go_at_call 135; refine HC.out.mono ?_; rintro e w1 ⟨rfl, x1⟩)
      go_ret2
      exact ⟨rfl, by assumption⟩
    · have hz0 : ((k : Int) == 0) = false := by simp [hz]
      have hdl := dep_le g k
      by_cases hd : dep g k = 99
      · rw [show askDepth g k = (0, false) from by unfold askDepth okD; simp [hd]]
        have hn : ((never (dep g k) : Nat) : Int) = ((1048576 : Nat) : Int) := congrArg Nat.cast ((never_eq hdl).2 hd)
        have HN := Lib.hid hn
        clear h0 hG hk hn
        go_enter Tryz.func103, Tryz.ntmps103
        go_wp2_with fail
        refine HC.out.mono ?_
        rintro e w1 ⟨rfl, x1⟩
        have X1 := Lib.hid x1; clear x1
        go_wp2_with fail
        refine (askerOf_c _ g _ (HV.out.ext X1.out)).mono ?_
        rintro e w2 ⟨rfl, ia, x2⟩
        have A2 := Lib.hid (AskOk.of (g := g) ia x2); clear ia x2
        go_wp2_with fail
        refine (depth_c (HV.out.ext X1.out) HG.out (Nat.le_refl _) k hk4 hz A2.out).mono ?_
        rintro e w3 ⟨rfl, a3, -⟩
        rw [HN.out]
        have A3 := Lib.hid a3; clear a3
        go_wp2
        go_ret2
        exact ⟨rfl, X1.out.trans A3.out.ext⟩
      · have hds := dep_small hk4 hd
        rw [show askDepth g k = (((dep g k : Nat) : Int), true) from by unfold askDepth okD; rw [h0]; simp [hz]; omega]
        have hn : never (dep g k) = dep g k := by unfold never; rw [if_neg hd]
        have HN := Lib.hid hn
        obtain ⟨d, hdd⟩ : ∃ d, d = dep g k := ⟨_, rfl⟩
        have hb : ((d : Int) == 1048576) = false := by simp; omega
        have HDD := Lib.hid hdd
        rw [← hdd] at hds ⊢
        clear h0 hG hk hn hd hdl hdd
        go_enter Tryz.func103, Tryz.ntmps103
        go_wp2_with fail
        refine HC.out.mono ?_
        rintro e w1 ⟨rfl, x1⟩
        have X1 := Lib.hid x1; clear x1
        go_wp2_with fail
        refine (askerOf_c _ g _ (HV.out.ext X1.out)).mono ?_
        rintro e w2 ⟨rfl, ia, x2⟩
        have A2 := Lib.hid (AskOk.of (g := g) ia x2); clear ia x2
        go_wp2_with fail
        refine (depth_c (HV.out.ext X1.out) HG.out (Nat.le_refl _) k hk4 hz A2.out).mono ?_
        rintro e w3 ⟨rfl, a3, -⟩
        rw [HN.out, ← HDD.out]
        have A3 := Lib.hid a3; clear a3
        go_wp2
        go_ret2
        exact ⟨rfl, X1.out.trans A3.out.ext⟩
end Go.Proofs.YtkmfmhckpfomeaaGreatDoor

/- What the commands do, the program's side. Under way. -/
namespace Go.Proofs.YtkmfmhckpfomeaaGreatDoor
open Go.RowKit
open BigFrame
attribute [local go_sem] Oper.semAt_some

/-- show -/
theorem cmd7_c (b : Nat) (v n : Value) (c : Int) (ns : List Nat) (w : World) (hw : Wd w) (hd : Desk w b v c) (hv : Rd w v (intsOf ns)) (hns : ∀ n ∈ ns, n ≤ 1048576) (hl : ns.length ≤ 4096) :
    Calls Tryz.prog 87 #[.pointer (some ⟨b, 0, none⟩), n] w fun e w' => e = .returned (.tuple #[strV (saidB ns), .bool true]) ∧ Ext w w' := by
  obtain ⟨a, m, rfl⟩ := hv.form
  have HC := Lib.hid (list_c _ ns true w hw hv hns hl)
  have c0 := hd.graph
  clear hw hd hv hns hl
  go_enter Tryz.func87, Tryz.ntmps87
  go_wp2_with fail
  refine HC.out.mono ?_
  rintro e w1 ⟨rfl, x1⟩
  have X1 := Lib.hid x1; clear x1
  go_wp2
  go_ret2
  exact ⟨rfl, X1.out⟩
/-- set -/
theorem cmd8_c (b : Nat) (v n : Value) (c : Nat) (w : World) (hw : Wd w) (hd : Desk w b v c) (hc : c ≤ 1048576) :
    Calls Tryz.prog 89 #[.pointer (some ⟨b, 0, none⟩), n] w fun e w' => e = .returned (.tuple #[strV (Lib.decDigits c), .bool true]) ∧ Ext w w' := by
  have HC := Lib.hid (said_c c true w hw hc)
  have c0 := hd.code
  clear hw hd hc
  go_enter Tryz.func89, Tryz.ntmps89
  go_wp2_with fail
  refine HC.out.mono ?_
  rintro e w1 ⟨rfl, x1⟩
  have X1 := Lib.hid x1; clear x1
  go_wp2
  go_ret2
  exact ⟨rfl, X1.out⟩
/-- most -/
theorem cmd12_c (b : Nat) (v n : Value) (g : List Int) (c : Nat) (w : World) (hw : Wd w) (hd : Desk w b v c) (hv : Rd w v g) (hm : g.length ≤ 1048576) (x : Nat) (k : Bool) (hx : sensorMost g c = ((x : Int), k)) (hx20 : x ≤ 1048576) :
    Calls Tryz.prog 98 #[.pointer (some ⟨b, 0, none⟩), n] w fun e w' => e = .returned (.tuple #[strV (Lib.decDigits x), .bool k]) ∧ Ext w w' := by
  obtain ⟨a, m, rfl⟩ := hv.form
  have HC := Lib.hid (fun u => sensorMostI_c (.slice a g.length m) g c (clip w u) (hv.ext (clip_ext w u)) hm)
  rw [hx] at HC
  have HS := Lib.hid (fun u => said_c x k (clip w u) (hw.ext (clip_ext w u)) hx20)
  have c0 := fun u => (hd.ext (clip_ext w u)).graph
  have c1 := fun u => (hd.ext (clip_ext w u)).code
  simp only [pairV] at HC
  clear hw hd hv hm hx hx20
  go_enter Tryz.func98, Tryz.ntmps98
  go_wp2
  refine wp_region_ext (by kernel_rfl) (by kernel_rfl) ?_
  repeat (go_big_quiet_step (first
    | (go_at_call 99; exact Calls.clip_of (HC.out _))
    | (go_at_call 90; exact Calls.clip_of (HS.out _))))
  refine wpQuiet_nil ?_
  rintro _ ⟨u', rfl⟩
  go_wp2
  go_ret2
  exact ⟨rfl, clip_ext _ _⟩
/-- in -/
theorem cmd10_c (b : Nat) (v n : Value) (g : List Int) (c x : Nat) (w : World) (hd : Desk w b v c) (hv : Rd w v g) (hm : g.length ≤ 1048576) (hn : Rd w n (intsOf [x])) :
    Calls Tryz.prog 93 #[.pointer (some ⟨b, 0, none⟩), n] w fun e w' => e = .returned (.tuple #[strV (if codeIn g x c then [121, 101, 115] else [110, 111, 116]), .bool true]) ∧ Ext w w' := by
  obtain ⟨a, m, rfl⟩ := hv.form
  obtain ⟨a2, m2, rfl⟩ := hn.form
  have HC := Lib.hid (fun u => codeInI_c (.slice a g.length m) g x c (clip w u) (hv.ext (clip_ext w u)) hm)
  rw [show (intsOf [x]).length = 1 from rfl] at hn ⊢
  obtain ⟨q, o, rfl, -, -, hq⟩ := hn.atI (k := 0) (by omega)
  have c2 := fun u => hq _ (clip_ext w u)
  rw [show getI (intsOf [x]) 0 = (x : Int) from rfl] at c2
  simp only [Nat.add_zero] at c2
  obtain ⟨k, hk⟩ : ∃ k, k = codeIn g x c := ⟨_, rfl⟩
  rw [← hk] at HC ⊢
  have hy := yesOr_c k
  obtain ⟨z, hz⟩ : ∃ z : List UInt8, z = if k then [121, 101, 115] else [110, 111, 116] := ⟨_, rfl⟩
  rw [← hz] at hy ⊢
  have HY := Lib.hid hy
  clear hy hz
  have c0 := fun u => (hd.ext (clip_ext w u)).graph
  have c1 := fun u => (hd.ext (clip_ext w u)).code
  clear hd hv hm hn hq hk
  go_enter Tryz.func93, Tryz.ntmps93
  go_wp2
  refine wp_region_ext (by kernel_rfl) (by kernel_rfl) ?_
  repeat (go_big_quiet_step (first
    | (go_at_call 95; exact Calls.clip_of (HC.out _))
    | (go_at_call 94; exact Calls.clip_of ((HY.out _).mono fun _ _ ⟨h1, h2⟩ => ⟨h1, h2 ▸ Ext.refl _⟩))))
  refine wpQuiet_nil ?_
  rintro _ ⟨u', rfl⟩
  go_wp2
  go_ret2
  exact ⟨rfl, clip_ext _ _⟩
/-- tree -/
theorem cmd11_c (b : Nat) (v n : Value) (g : List Int) (c : Int) (w : World) (hw : Wd w) (hd : Desk w b v c) (hv : Rd w v g) (hm : g.length ≤ 1048576) (hb : ∀ i, getI g i < 9223372036854775808) (x : Nat) (k : Bool) (hx : treeRes g = ((x : Int), k)) (hx20 : x ≤ 1048576) :
    Calls Tryz.prog 96 #[.pointer (some ⟨b, 0, none⟩), n] w fun e w' => e = .returned (.tuple #[strV (Lib.decDigits x), .bool k]) ∧ Ext w w' := by
  obtain ⟨a, m, rfl⟩ := hv.form
  have HC := Lib.hid (treeResI_c (.slice a g.length m) g w hv hm hb)
  rw [hx] at HC
  have HW := Lib.hid hw; have H20 := Lib.hid hx20
  have c0 := hd.graph
  simp only [pairV] at HC
  clear hw hd hv hm hx hx20 hb
  go_enter Tryz.func96, Tryz.ntmps96
  go_wp2_with fail
  refine HC.out.mono ?_
  rintro e w1 ⟨rfl, x1⟩
  have X1 := Lib.hid x1; clear x1
  go_wp2_with fail
  refine (said_c x k w1 (HW.out.ext X1.out) H20.out).mono ?_
  rintro e w2 ⟨rfl, x2⟩
  have X2 := Lib.hid (X1.out.trans x2); clear x2
  go_wp2
  go_ret2
  exact ⟨rfl, X2.out⟩
/-- alarm -/
theorem cmd13_c (b : Nat) (v n : Value) (g : List Int) (c y z : Nat) (w : World) (hw : Wd w) (hd : Desk w b v c) (hv : Rd w v g) (hm : g.length ≤ 1048576) (hn : Rd w n (intsOf [y, z])) (hz : z ≤ 1048576) (x : Nat) (k : Bool) (hx : sensorFind g c y z = ((x : Int), k)) (hx20 : x ≤ 1048576) :
    Calls Tryz.prog 100 #[.pointer (some ⟨b, 0, none⟩), n] w fun e w' => e = .returned (.tuple #[strV (Lib.decDigits x), .bool k]) ∧ Ext w w' := by
  obtain ⟨a, m, rfl⟩ := hv.form
  obtain ⟨a2, m2, rfl⟩ := hn.form
  have HC := Lib.hid (fun u => sensorFindI_c (.slice a g.length m) g c y z (clip w u) (by omega) (hv.ext (clip_ext w u)) hm)
  rw [hx] at HC
  have HS := Lib.hid (fun u => said_c x k (clip w u) (hw.ext (clip_ext w u)) hx20)
  rw [show (intsOf [y, z]).length = 2 from rfl] at hn ⊢
  obtain ⟨q, o, e1, -, -, hq⟩ := hn.atI (k := 0) (by omega)
  obtain ⟨q2, o2, e2, -, -, hq2⟩ := hn.atI (k := 1) (by omega)
  rw [e1] at e2
  cases e2
  subst e1
  have c2 := fun u => hq _ (clip_ext w u)
  have c3 := fun u => hq2 _ (clip_ext w u)
  rw [show getI (intsOf [y, z]) 0 = (y : Int) from rfl] at c2
  rw [show getI (intsOf [y, z]) 1 = (z : Int) from rfl] at c3
  simp only [Nat.add_zero] at c2
  have c0 := fun u => (hd.ext (clip_ext w u)).graph
  have c1 := fun u => (hd.ext (clip_ext w u)).code
  simp only [pairV] at HC
  clear hw hd hv hm hx hx20 hn hq hq2 hz
  go_enter Tryz.func100, Tryz.ntmps100
  go_wp2
  refine wp_region_ext (by kernel_rfl) (by kernel_rfl) ?_
  repeat (go_big_quiet_step (first
    | (go_at_call 101; exact Calls.clip_of (HC.out _))
    | (go_at_call 90; exact Calls.clip_of (HS.out _))))
  refine wpQuiet_nil ?_
  rintro _ ⟨u', rfl⟩
  go_wp2
  go_ret2
  exact ⟨rfl, clip_ext _ _⟩
/-- depth -/
theorem cmd14_c (b : Nat) (v n : Value) (g : List Int) (c : Int) (w : World) (hw : Wd w) (hd : Desk w b v c) (hv : Rd w v g) (hm : g.length ≤ 12) (x : Nat) (k : Bool) (hx : askDepth g ((2 ^ g.length - 1 : Nat) : Int) = ((x : Int), k)) (hx20 : x ≤ 1048576) :
    Calls Tryz.prog 102 #[.pointer (some ⟨b, 0, none⟩), n] w fun e w' => e = .returned (.tuple #[strV (Lib.decDigits x), .bool k]) ∧ Ext w w' := by
  obtain ⟨a, m, rfl⟩ := hv.form
  obtain ⟨p, hp⟩ : ∃ p, p = 2 ^ g.length - 1 := ⟨_, rfl⟩
  rw [← hp] at hx
  have HC := Lib.hid (fun u => askDepthI_c (.slice a g.length m) g p (clip w u) (hv.ext (clip_ext w u)) (by omega))
  have HA := Lib.hid (fun u => all_c (.slice a g.length m) g (clip w u) (hv.ext (clip_ext w u)) hm)
  rw [hx] at HC
  rw [← hp] at HA
  have HS := Lib.hid (fun u => said_c x k (clip w u) (hw.ext (clip_ext w u)) hx20)
  have c0 := fun u => (hd.ext (clip_ext w u)).graph
  simp only [pairV] at HC
  clear hw hd hv hm hx hx20 hp
  go_enter Tryz.func102, Tryz.ntmps102
  go_wp2
  refine wp_region_ext (by kernel_rfl) (by kernel_rfl) ?_
  repeat (go_big_quiet_step (first
    | (go_at_call 43; exact Calls.clip_same (HA.out _))
    | (go_at_call 103; exact Calls.clip_of (HC.out _))
    | (go_at_call 90; exact Calls.clip_of (HS.out _))))
  refine wpQuiet_nil ?_
  rintro _ ⟨u', rfl⟩
  go_wp2
  go_ret2
  exact ⟨rfl, clip_ext _ _⟩
end Go.Proofs.YtkmfmhckpfomeaaGreatDoor

/- The book of a graph, where its rows lie beyond a bound: a store below it keeps the book. No condition. -/
namespace Go.Proofs.YtkmfmhckpfomeaaGreatDoor
open Go.RowKit
open BigFrame
attribute [local go_sem] Oper.semAt_some

theorem OwnRows.mono {w : World} {base base' : Nat} {v : Value} {vs : List Value} (h : OwnRows w base v vs) (hb : base' ≤ base) : OwnRows w base' v vs := by
  obtain ⟨h1, h2⟩ := h
  refine ⟨h1, ?_⟩
  rcases h2 with h2 | ⟨g, cap, cur, hv, hg, r⟩
  · exact Or.inl h2
  · exact Or.inr ⟨g, cap, cur, hv, Nat.le_trans hb hg, r⟩
theorem OwnRows.upd {w w' : World} {b base : Nat} {v : Value} {vs : List Value} (h : OwnRows w base v vs) (hb : b < base) (hu : Upd b w w') : OwnRows w' base v vs := by
  obtain ⟨h1, h2⟩ := h
  refine ⟨h1, ?_⟩
  rcases h2 with h2 | ⟨g, cap, cur, hv, hg, hh, r⟩
  · exact Or.inl h2
  · exact Or.inr ⟨g, cap, cur, hv, hg, (hu.block g (Array.getElem?_eq_some_iff.1 hh).1 (by omega)).trans hh, r⟩
theorem OwnRows.book {B : Nat} {W W' : World} (h : Book B W W') {base : Nat} {v : Value} {vs : List Value} (hv : OwnRows W base v vs) : OwnRows W' base v vs := by
  obtain ⟨h1, h2⟩ := hv
  refine ⟨h1, ?_⟩
  rcases h2 with h2 | ⟨g, cap, cur, hv, hg, hh, r⟩
  · exact Or.inl h2
  · exact Or.inr ⟨g, cap, cur, hv, hg, h.block g _ hh (.inr rfl), r⟩
theorem Upd.set (w : World) (b i : Nat) (u : Value) : Upd b w (w.setCell ⟨b, i, none⟩ u) :=
  ⟨rfl, rfl, rfl, by simp, fun k _ hne => by
    show (w.heap.modify b _)[k]? = _
    rw [Array.getElem?_modify, if_neg (fun e => hne e.symm)]⟩
structure IsBookAt (w : World) (B b : Nat) (g : List Int) (v vb vf : Value) (vs : List Value) : Prop where
  graph : w.cell? ⟨b, 0, none⟩ = some v
  balls : w.cell? ⟨b, 1, none⟩ = some vb
  far : w.cell? ⟨b, 2, none⟩ = some vf
  lt : b < w.heap.size
  le : B ≤ b
  hb : Own w B vb (ballsTo g g.length)
  hf : OwnRows w B vf vs
  len : vs.length = g.length
  row : ∀ i, i < g.length → Own w B (vs.getD i undef) (distOf g i)
theorem IsBookAt.is {w : World} {B b : Nat} {g : List Int} {v vb vf : Value} {vs : List Value} (h : IsBookAt w B b g v vb vf vs) : IsBook w b g v vb vf vs :=
  ⟨h.graph, h.balls, h.far, h.lt, ⟨_, h.hb⟩, ⟨_, h.hf⟩, h.len, fun i hi => ⟨_, h.row i hi⟩⟩
theorem IsBookAt.ext {w w' : World} {B b : Nat} {g : List Int} {v vb vf : Value} {vs : List Value} (h : IsBookAt w B b g v vb vf vs) (hx : Ext w w') : IsBookAt w' B b g v vb vf vs :=
  ⟨(hx.cell h.lt).trans h.graph, (hx.cell h.lt).trans h.balls, (hx.cell h.lt).trans h.far, Nat.lt_of_lt_of_le h.lt hx.size, h.le, h.hb.ext hx, h.hf.ext hx, h.len, fun i hi => (h.row i hi).ext hx⟩
theorem IsBookAt.upd {w w' : World} {B b k : Nat} {g : List Int} {v vb vf : Value} {vs : List Value} (h : IsBookAt w B b g v vb vf vs) (hk : k < B) (hu : Upd k w w') : IsBookAt w' B b g v vb vf vs :=
  have hne : b ≠ k := by have := h.le; omega
  ⟨(hu.cell h.lt hne).trans h.graph, (hu.cell h.lt hne).trans h.balls, (hu.cell h.lt hne).trans h.far, Nat.lt_of_lt_of_le h.lt hu.size, h.le, h.hb.upd hk hu, h.hf.upd hk hu, h.len, fun i hi => (h.row i hi).upd hk hu⟩
theorem IsBookAt.book {w w' : World} {D B b : Nat} {g : List Int} {v vb vf : Value} {vs : List Value} (h : IsBookAt w B b g v vb vf vs) (hB : Book D w w') : IsBookAt w' B b g v vb vf vs :=
  ⟨hB.cell h.graph, hB.cell h.balls, hB.cell h.far, Nat.lt_of_lt_of_le h.lt hB.size, h.le, h.hb.book hB, h.hf.book hB, h.len, fun i hi => (h.row i hi).book hB⟩

set_option maxRecDepth 100000 in
set_option maxHeartbeats 2000000 in
theorem bookOfAt_c (v : Value) (g : List Int) (w : World) (hv : Rd w v g) (hg : IsGraph g) :
    Calls Tryz.prog 41 #[v] w fun e w' => ∃ b vb vf vs, e = .returned (.pointer (some ⟨b, 0, none⟩)) ∧ IsBookAt w' w.heap.size b g v vb vf vs ∧ Ext w w' := by
  obtain ⟨a, c, rfl⟩ := hv.form
  have HV := Lib.hid hv; clear hv
  have HG := Lib.hid hg
  have hl := hg.le
  clear hg
  go_enter Tryz.func41, Tryz.ntmps41
  go_wp2_with fail
  refine (balls_c _ g _ HV.out HG.out).mono ?_
  rintro e w2 ⟨vb, rfl, ob, x2⟩
  have hone : vb.oneCell' = true := by
    rcases ob.get with ⟨rfl, _⟩ | ⟨gb, cb, rfl, _⟩ <;> rfl
  obtain ⟨gb, cb, hvb⟩ : ∃ gb cb, vb = .slice gb g.length cb := by
    rcases ob.get with ⟨rfl, h⟩ | ⟨gb, cb, h, _⟩
    · have h1 := congrArg List.length h
      rw [ballsTo_length, List.length_nil] at h1
      exact ⟨none, 0, by rw [h1]⟩
    · exact ⟨_, cb, by rw [h, ballsTo_length]⟩
  subst hvb
  have OB := Lib.hid ob; have X2 := Lib.hid x2
  clear ob x2 hone
  go_wp2
  obtain ⟨W3, hW3⟩ : ∃ V, V = w2.alloc (.cells #[.slice a g.length c, .slice gb g.length cb, .slice none 0 0] 72) := ⟨_, rfl⟩
  rw [← hW3]
  have hx3 : Ext w2 W3 := by rw [hW3]; exact (Ext.refl _).alloc _
  have h3 := three_cells (by rw [hW3]; exact World.alloc_heap_new w2 _ : W3.heap[w2.heap.size]? = some (.cells #[.slice a g.length c, .slice gb g.length cb, .slice none 0 0] 72 (0, 0)))
  have hs3 : w2.heap.size < W3.heap.size := by rw [hW3]; simp
  have HC := Lib.hid h3; have HX3 := Lib.hid hx3
  clear hW3 hx3 h3
  go_loopw [12] (fun i wr => ∃ (k : Nat) (vf : Value) (vs : List Value), k ≤ g.length ∧ i = .int .i64 k ∧ vs.length = k ∧ OwnRows wr (w2.heap.size + 1) vf vs ∧ Hid (∀ i, i < k → Own wr (w2.heap.size + 1) (vs.getD i undef) (distOf g i)) ∧
    Hid (wr.cell? ⟨w2.heap.size, 0, none⟩ = some (.slice a g.length c) ∧ wr.cell? ⟨w2.heap.size, 1, none⟩ = some (.slice gb g.length cb) ∧ wr.cell? ⟨w2.heap.size, 2, none⟩ = some vf ∧ ∀ i, wr.frozen? ⟨w2.heap.size, i, none⟩ = false) ∧ Ext w2 wr ∧ w2.heap.size < wr.heap.size) (fun i _ => g.length - (intOf i).toNat)
  case atStart => exact ⟨0, .slice none 0 0, [], Nat.zero_le _, rfl, rfl, World.ownsRow_nil _ _ _ _, fun i hi => absurd hi (Nat.not_lt_zero i), HC.out, HX3.out, hs3⟩
  case round =>
    clear HC HX3 hs3
    obtain ⟨k, vf, vs, hk, rfl, hvs, ho, HE, HC, hx, hlt2⟩ := hrel
    have HO := Lib.hid ho; have HX := Lib.hid hx
    clear ho hx
    by_cases hlt : k < g.length
    · obtain ⟨c0, c1, c2, cf⟩ := HC.out
      have d0 : wr.drew.cell? ⟨w2.heap.size, 0, none⟩ = some (.slice a g.length c) := c0
      have d2 : wr.drew.cell? ⟨w2.heap.size, 2, none⟩ = some vf := c2
      have HA : Hid (∀ w5, Ext wr.drew w5 → ∀ vd, Own w5 wr.drew.heap.size vd (distOf g k) → ∀ g' cap w6, OwnRows w6 (w2.heap.size + 1) (.slice (some ⟨g', 0, none⟩) (vs.length + 1) cap) (vs ++ [vd]) →
          (w5.alloc (.cells #[vd] 29)).grownBy w6 vf.ownBlock → w6.cell? ⟨w2.heap.size, 2, none⟩ = some vf ∧ w6.frozen? ⟨w2.heap.size, 2, none⟩ = false ∧
          ∃ V, V = w6.setCell ⟨w2.heap.size, 2, none⟩ (.slice (some ⟨g', 0, none⟩) (vs.length + 1) cap) ∧ OwnRows V (w2.heap.size + 1) (.slice (some ⟨g', 0, none⟩) (vs.length + 1) cap) (vs ++ [vd]) ∧ (∀ i, i < k + 1 → Own V (w2.heap.size + 1) ((vs ++ [vd]).getD i undef) (distOf g i)) ∧
            (V.cell? ⟨w2.heap.size, 0, none⟩ = some (.slice a g.length c) ∧ V.cell? ⟨w2.heap.size, 1, none⟩ = some (.slice gb g.length cb) ∧ V.cell? ⟨w2.heap.size, 2, none⟩ = some (.slice (some ⟨g', 0, none⟩) (vs.length + 1) cap) ∧ ∀ i, V.frozen? ⟨w2.heap.size, i, none⟩ = false) ∧ Ext w2 V ∧ w2.heap.size < V.heap.size) := by
        intro w5 x5 vd od g' cap w6 ho6 hg6
        obtain ⟨c0, c1, c2, cf⟩ := HC.out
        have x6 : Ext wr w5 := Ext.trans (Ext.refl wr).drew x5
        have xa : Ext w5 (w5.alloc (.cells #[vd] 29)) := (Ext.refl _).alloc _
        have oo := HO.out.ext (x6.trans xa)
        have nb : ∀ b, vf.ownBlock = some b → w2.heap.size + 1 ≤ b := fun b hb => (World.ownsRow.lt oo b hb).1
        have hblk : w6.heap[w2.heap.size]? = wr.heap[w2.heap.size]? :=
          (hg6.block _ (Nat.lt_of_lt_of_le hlt2 (x6.trans xa).size) (fun e => by have := nb _ e.symm; omega)).trans ((x6.trans xa).block hlt2)
        have hcell : ∀ i, w6.cell? ⟨w2.heap.size, i, none⟩ = wr.cell? ⟨w2.heap.size, i, none⟩ := fun i => World.cell?_of_block hblk
        have hfroz : ∀ i, w6.frozen? ⟨w2.heap.size, i, none⟩ = wr.frozen? ⟨w2.heap.size, i, none⟩ := fun i => World.frozen?_of_block hblk
        have hsz : w2.heap.size < w6.heap.size := by have h1 := hg6.size; have h2 := (x6.trans xa).size; omega
        have gset := grownBy_set w6 ⟨w2.heap.size, 2, none⟩ (.slice (some ⟨g', 0, none⟩) (vs.length + 1) cap)
        refine ⟨(hcell 2).trans c2, (hfroz 2).trans (cf 2), _, rfl, World.ownsRow.kept ho6 gset (.inr fun e => ?_), fun i hi => ?_, ⟨?_, ?_, ?_, fun i => ?_⟩, (((HX.out.trans x6).trans xa).grown hg6 (fun b hb => by have := nb b hb; omega)).setCell (Nat.le_refl _) _, by simpa using hsz⟩
        · have h1 := (World.ownsRow.lt ho6 _ e).1
          simp at h1
          omega
        · have hrow : ∃ u, (vs ++ [vd]).getD i undef = u ∧ Own (w5.alloc (.cells #[vd] 29)) (w2.heap.size + 1) u (distOf g i) := by
            by_cases h : i < k
            · exact ⟨vs.getD i undef, by simp [List.getElem?_append_left (show i < vs.length by omega)], (HE.out i h).ext (x6.trans xa)⟩
            · obtain rfl : i = k := by omega
              exact ⟨vd, by simp [← hvs], (od.ext xa).mono (by have h : w2.heap.size < wr.drew.heap.size := hlt2; omega)⟩
          obtain ⟨u, e, hu⟩ := hrow
          rw [e]
          have h1 := hu.kept hg6 (hu.apart oo)
          exact h1.kept gset (by
            cases hb : u.ownBlock with
            | none => exact .inl rfl
            | some b => exact .inr fun e => by have h2 := (h1.lt b hb).1; simp at e; omega)
        · rw [World.cell?_setCell_other _ _ _ _ (by simp), hcell]; exact c0
        · rw [World.cell?_setCell_other _ _ _ _ (by simp), hcell]; exact c1
        · exact World.cell?_setCell_same' _ _ _ (by rw [hcell, c2]; rfl)
        · rw [World.frozen?_setCell, hfroz]; exact cf i
      clear c0 c1 c2 cf
      go_wp2
      go_region_law (first
        | (refine step_append_row rfl _ _ rfl (w2.heap.size + 1) vf vs rfl ((HO.out.ext (Ext.trans (Ext.refl wr).drew X5.out)).ext ((Ext.refl _).alloc _)) w5.heap.size _ rfl rfl (one_cell _ _ _) (by omega) (by have h := X5.out.size; have h2 : wr.heap.size ≤ w5.heap.size := h; simp; omega) ?_; intro g' cap w6 ho6 hg6; obtain ⟨q1, q2, q3⟩ := HA.out _ X5.out _ OD.out _ _ _ ho6 hg6; have Q3 := Lib.hid q3; clear q3 ho6 hg6)
        | (go_simp; go_at_call 64; refine (distances_c _ g k _ (HV.out.ext (X2.out.trans HX.out).drew) HG.out hlt).mono ?_; rintro e w5 ⟨vd, rfl, od, x5⟩; have X5 := Lib.hid x5; have OD := Lib.hid od; obtain ⟨gd, cd, rfl⟩ := od.form' (dist_length HG.out hlt); have e0 := (Ext.cell x5 (x := w2.heap.size) (o := 0) hlt2).trans d0; have e2 := (Ext.cell x5 (x := w2.heap.size) (o := 2) hlt2).trans d2; have e3 := (Ext.cell (x5.alloc (.cells #[.slice gd g.length cd] 29)) (x := w2.heap.size) (o := 2) hlt2).trans d2; clear x5 od))
      all_goals
        obtain ⟨V, hV, r1, r2, r3, r4, r5⟩ := Q3.out
        simp only [Exit.inBlock]
        rw [hvs] at hV
        rw [← hV]
        have R1 := Lib.hid r1; have R2 := Lib.hid r2; have R3 := Lib.hid r3; have R4 := Lib.hid r4
        clear hV r1 r2 r3 r4
        go_wp2
        go_roundw
        case rel => exact ⟨k + 1, _, _, by omega, by go_num, by simp [hvs], R1.out, R2.out, R3.out, R4.out, r5⟩
        case measure => simp [intOf]; omega
    · obtain rfl : k = g.length := by omega
      obtain ⟨c0, c1, c2, cf⟩ := HC.out
      go_wp2
      go_ret
      have l2 := X2.out.size
      exact ⟨w2.heap.size, .slice gb g.length cb, vf, vs, rfl, ⟨c0, c1, c2, hlt2, l2, OB.out.ext HX.out, HO.out.mono (by omega), hvs, fun i hi => (HE.out i hi).mono (by omega)⟩, X2.out.trans HX.out⟩
end Go.Proofs.YtkmfmhckpfomeaaGreatDoor
