/- The depth of a set: the reference and the program compute the same plain function. The condition: the list has at most 2^20 numbers. -/
import Derived.Test.YtdoadigekmlnpaaDepth
import Derived.Test.YtdoadigekmlnpaaVars
namespace Go.Proofs.Ytdoadigekmlnpaa
open Go.RowKit
open BigFrame

/-- A set that is not empty and can be told. -/
def okD (g : List Int) (s : Int) : Bool := fits g s && decide (s ≠ 0) && decide (dep g s.toNat < 99)
theorem okD_iff {g : List Int} {s : Int} : okD g s = true ↔ ∃ k : Nat, s = k ∧ IsGraph g ∧ k < 2 ^ g.length ∧ k ≤ 4095 ∧ k ≠ 0 ∧ dep g k < 99 := by
  unfold okD
  rw [Bool.and_eq_true, Bool.and_eq_true, fits_iff, decide_eq_true_iff, decide_eq_true_iff]
  constructor
  · rintro ⟨⟨⟨k, rfl, hG, hk⟩, h0⟩, hd⟩
    exact ⟨k, rfl, hG, hk, by have := pow_le_12 hG.le; omega, by omega, hd⟩
  · rintro ⟨k, rfl, hG, hk, -, h0, hd⟩
    exact ⟨⟨⟨k, rfl, hG, hk⟩, by omega⟩, hd⟩
def askDepth (g : List Int) (s : Int) : Int × Bool := if okD g s then (((dep g s.toNat : Nat) : Int), true) else (0, false)

set_option maxHeartbeats 1000000 in
theorem l6qGiven_c (v : Value) (g : List Int) (s : Int) (w : World) (hv : Rd w v g) (hm : g.length ≤ 1048576) :
    Calls Try.prog 101 #[v, .int .i64 s] w fun e w' => ∃ v', e = .returned (listV v' (okD g s)) ∧ (okD g s = true → Rd w' v' (depsOf g) ∧ Fresh w v') ∧ Ext w w' := by
  obtain ⟨a, c, rfl⟩ := hv.form
  have HV := Lib.hid hv; clear hv
  have HM := Lib.hid hm
  cases h0 : graphIn g
  · have HK : Hid (okD g s = false) := by unfold Hid okD fits; rw [h0]; rfl
    rw [HK.out]
    go_enter Try.func101, Try.ntmps101
    go_wp2_with fail
    refine (graphInS_c _ _ _ HV.out HM.out).mono ?_
    rintro e w1 ⟨rfl, x1⟩
    have X1 := Lib.hid x1; clear x1
    go_wp2
    go_ret2
    exact ⟨_, rfl, fun h => (by cases h), X1.out.alloc _⟩
  · have hG := graphIn_iff.1 h0
    have hl := hG.le
    have HG := Lib.hid hG; clear hG
    cases hs : setB s g.length
    · have HK : Hid (okD g s = false) := by unfold Hid okD fits; rw [hs, Bool.and_false]; rfl
      rw [HK.out]
      go_enter Try.func101, Try.ntmps101
      go_wp2_with fail
      refine (graphInS_c _ _ _ HV.out HM.out).mono ?_
      rintro e w1 ⟨rfl, x1⟩
      have X1 := Lib.hid x1; clear x1
      go_wp2_with (go_at_call 103; refine (l2Set_c _ g _ _ (HV.out.ext X1.out) (by omega)).mono ?_; rintro e w' ⟨rfl, rfl⟩)
      go_ret2
      exact ⟨_, rfl, fun h => (by cases h), X1.out.alloc _⟩
    · obtain ⟨k, rfl, hk⟩ := setB_iff.1 hs
      have hk4 : k ≤ 4095 := by have := pow_le_12 hl; omega
      by_cases hz : k = 0
      · have HK : Hid (okD g k = false) := by unfold Hid okD; rw [hz]; simp
        rw [HK.out]
        have hz0 : ((k : Int) == 0) = true := by simp [hz]
        clear hz
        go_enter Try.func101, Try.ntmps101
        go_wp2_with fail
        refine (graphInS_c _ _ _ HV.out HM.out).mono ?_
        rintro e w1 ⟨rfl, x1⟩
        have X1 := Lib.hid x1; clear x1
        go_wp2_with (go_at_call 103; refine (l2Set_c _ g _ _ (HV.out.ext X1.out) (by omega)).mono ?_; rintro e w' ⟨rfl, rfl⟩)
        go_ret2
        exact ⟨_, rfl, fun h => (by cases h), X1.out.alloc _⟩
      · have HK : Hid (okD g k = decide (dep g k < 99)) := by unfold Hid okD fits; rw [h0, hs]; simp [hz]
        rw [HK.out]
        have hz0 : ((k : Int) == 0) = false := by simp [hz]
        obtain ⟨p, hp, hp1, hp2, hp3⟩ := pow_var g.length (by omega)
        have HP := Lib.hid hp
        have hkp : k < p := by rw [← hp]; exact hk
        have HGET := Lib.hid (depsOf_get g hk)
        clear hk hp
        go_enter Try.func101, Try.ntmps101
        go_wp2_with fail
        refine (graphInS_c _ _ _ HV.out HM.out).mono ?_
        rintro e w1 ⟨rfl, x1⟩
        have X1 := Lib.hid x1; clear x1
        go_wp2_with (go_at_call 103; refine (l2Set_c _ g _ _ (HV.out.ext X1.out) (by omega)).mono ?_; rintro e w' ⟨rfl, rfl⟩)
        refine (l6qDepths_c _ g _ (HV.out.ext X1.out) HG.out).mono ?_
        rintro e w2 ⟨vd, rfl, rd, fr, x2⟩
        have X2 := Lib.hid (X1.out.trans x2); clear x2
        have RD := Lib.hid rd; have FR := Lib.hid fr; clear fr
        obtain ⟨ad, cd, rfl⟩ := rd.form
        have hlen : (depsOf g).length = p := by rw [depsOf_length]; exact HP.out
        rw [hlen] at RD rd FR
        rw [hlen]
        obtain ⟨bd, od, rfl, -, hbd, hcd⟩ := rd.atI hkp
        have ck := fun u => hcd _ (clip_ext w2 u)
        rw [show getI (depsOf g) k = ((dep g k : Nat) : Int) from HGET.out] at ck
        have hdl := dep_le g k
        obtain ⟨d, hd⟩ : ∃ d, d = dep g k := ⟨_, rfl⟩
        rw [← hd] at ck hdl
        have HDD := Lib.hid hd
        clear rd hcd hlen hd
        go_wp2
        refine wp_region_ext (by kernel_rfl) (by kernel_rfl) ?_
        repeat (go_big_quiet_step (fail))
        refine wpQuiet_nil ?_
        rintro _ ⟨u, rfl⟩
        go_wp2
        go_ret2
        refine ⟨_, ?_, fun _ => ⟨RD.out.ext (clip_ext _ _), fun b o s n c e => Nat.le_trans X1.out.size (FR.out b o s n c e)⟩, X2.out.trans (clip_ext _ _)⟩
        unfold listV
        rw [← HDD.out, show decide (d < 99) = decide ((d : Int) < 99) from by simp; omega]
        rfl

set_option maxHeartbeats 1000000 in
theorem askDepthS_c (v : Value) (g : List Int) (s : Int) (w : World) (hv : Rd w v g) (hm : g.length ≤ 1048576) :
    Calls Try.prog 33 #[v, .int .i64 s] w fun e w' => e = .returned (pairV (askDepth g s)) ∧ Ext w w' := by
  obtain ⟨a, c, rfl⟩ := hv.form
  have HC := Lib.hid (l6qGiven_c _ g s w hv hm)
  clear hv hm
  cases h0 : okD g s
  · rw [show askDepth g s = (0, false) from by unfold askDepth; rw [h0]; rfl]
    go_enter Try.func33, Try.ntmps33
    go_wp2_with fail
    refine HC.out.mono ?_
    rintro e w1 ⟨v', rfl, -, x1⟩
    have X1 := Lib.hid x1; clear x1
    unfold listV
    rw [h0]
    go_wp2
    go_ret2
    exact ⟨rfl, X1.out⟩
  · obtain ⟨k, rfl, hG, hk, hk4, hz, hd⟩ := okD_iff.1 h0
    rw [show askDepth g k = (((dep g k : Nat) : Int), true) from by unfold askDepth; rw [h0]; rfl]
    have HGET := Lib.hid (depsOf_get g hk)
    have H0 := Lib.hid h0
    have hkl : k < (depsOf g).length := by rw [depsOf_length]; exact hk
    clear hG h0 hd hk
    go_enter Try.func33, Try.ntmps33
    go_wp2_with fail
    refine HC.out.mono ?_
    rintro e w1 ⟨v', rfl, hr, x1⟩
    have X1 := Lib.hid x1; clear x1
    have rd := (hr H0.out).1
    unfold listV
    rw [H0.out]
    obtain ⟨ad, cd, rfl⟩ := rd.form
    obtain ⟨bd, od, rfl, -, hbd, hcd⟩ := rd.atI hkl
    have ck := hcd _ (Ext.refl w1)
    rw [show getI (depsOf g) k = ((dep g k : Nat) : Int) from HGET.out] at ck
    obtain ⟨n, hn⟩ : ∃ n, n = (depsOf g).length := ⟨_, rfl⟩
    rw [← hn] at hkl ⊢
    clear hr rd hcd hn
    go_wp2
    go_ret2
    exact ⟨rfl, X1.out⟩

/-- The asker's depth, from its making on. -/
theorem depth_c {w0 w : World} {b : Nat} {v : Value} {g : List Int} (hv : Rd w0 v g) (hg : IsGraph g) (hb : w0.heap.size ≤ b) (s : Nat) (hs : s ≤ 4095) (h0 : s ≠ 0) (ha : AskOk w0 b v g w) :
    Calls Try.prog 80 #[.pointer (some ⟨b + 1, 0, none⟩), .int .i64 s] w fun e w' => e = .returned (.int .i64 (never (dep g s) : Nat)) ∧ AskOk w0 b v g w' ∧ Upd b w w' :=
  depth_of hv hg hb s s w (Nat.le_refl _) hs h0 ha
theorem after_c {w0 w : World} {b : Nat} {v : Value} {g : List Int} (hv : Rd w0 v g) (hg : IsGraph g) (hb : w0.heap.size ≤ b) (s x : Nat) (hs : s ≤ 4095) (hx : x < g.length) (ha : AskOk w0 b v g w) :
    Calls Try.prog 128 #[.pointer (some ⟨b + 1, 0, none⟩), .int .i64 s, .int .i64 x] w fun e w' => e = .returned (.int .i64 (aft g s x : Nat)) ∧ AskOk w0 b v g w' ∧ Upd b w w' :=
  after_of hv hg hb s x hs hx (fun t w ht h0 ha => depth_c hv hg hb t (by omega) h0 ha) w ha

set_option maxHeartbeats 1000000 in
theorem askDepthI_c (v : Value) (g : List Int) (s : Int) (w : World) (hv : Rd w v g) (hm : g.length ≤ 1048576) :
    Calls Try.prog 32 #[v, .int .i64 s] w fun e w' => e = .returned (pairV (askDepth g s)) ∧ Ext w w' := by
  obtain ⟨a, c, rfl⟩ := hv.form
  have HV := Lib.hid hv
  have HC := Lib.hid (codeFits_c _ g s w hv hm)
  clear hv hm
  cases h0 : fits g s
  · rw [show askDepth g s = (0, false) from by unfold askDepth okD; rw [h0]; rfl]
    rw [h0] at HC
    go_enter Try.func32, Try.ntmps32
    go_wp2_with (go_at_call 99; refine HC.out.mono ?_; rintro e w1 ⟨rfl, x1⟩)
    go_ret2
    exact ⟨rfl, by assumption⟩
  · obtain ⟨k, rfl, hG, hk⟩ := fits_iff.1 h0
    have hk4 : k ≤ 4095 := by have := pow_le_12 hG.le; omega
    rw [h0] at HC
    have HG := Lib.hid hG
    by_cases hz : k = 0
    · rw [show askDepth g k = (0, false) from by unfold askDepth okD; rw [hz]; simp]
      have hz0 : ((k : Int) == 0) = true := by simp [hz]
      clear h0 hG hk hz
      go_enter Try.func32, Try.ntmps32
      go_wp2_with (go_at_call 99; refine HC.out.mono ?_; rintro e w1 ⟨rfl, x1⟩)
      go_ret2
      exact ⟨rfl, by assumption⟩
    · have hz0 : ((k : Int) == 0) = false := by simp [hz]
      have hdl := dep_le g k
      by_cases hd : dep g k = 99
      · rw [show askDepth g k = (0, false) from by unfold askDepth okD; simp [hd]]
        have hn : ((never (dep g k) : Nat) : Int) = ((1048576 : Nat) : Int) := congrArg Nat.cast ((never_eq hdl).2 hd)
        have HN := Lib.hid hn
        clear h0 hG hk hn
        go_enter Try.func32, Try.ntmps32
        go_wp2_with fail
        refine HC.out.mono ?_
        rintro e w1 ⟨rfl, x1⟩
        have X1 := Lib.hid x1; clear x1
        go_wp2_with fail
        refine (askerOf_c _ g _ (HV.out.ext X1.out)).mono ?_
        rintro e w2 ⟨rfl, ia, x2⟩
        have A2 := Lib.hid (AskOk.of (g := g) ia x2); clear ia x2
        go_wp2_with fail
        refine (depth_c (HV.out.ext X1.out) HG.out (Nat.le_refl _) k hk4 hz A2.out).mono ?_
        rintro e w3 ⟨rfl, a3, -⟩
        rw [HN.out]
        have A3 := Lib.hid a3; clear a3
        go_wp2
        go_ret2
        exact ⟨rfl, X1.out.trans A3.out.ext⟩
      · have hds := dep_small hk4 hd
        rw [show askDepth g k = (((dep g k : Nat) : Int), true) from by unfold askDepth okD; rw [h0]; simp [hz]; omega]
        have hn : never (dep g k) = dep g k := by unfold never; rw [if_neg hd]
        have HN := Lib.hid hn
        obtain ⟨d, hdd⟩ : ∃ d, d = dep g k := ⟨_, rfl⟩
        have hb : ((d : Int) == 1048576) = false := by simp; omega
        have HDD := Lib.hid hdd
        rw [← hdd] at hds ⊢
        clear h0 hG hk hn hd hdl hdd
        go_enter Try.func32, Try.ntmps32
        go_wp2_with fail
        refine HC.out.mono ?_
        rintro e w1 ⟨rfl, x1⟩
        have X1 := Lib.hid x1; clear x1
        go_wp2_with fail
        refine (askerOf_c _ g _ (HV.out.ext X1.out)).mono ?_
        rintro e w2 ⟨rfl, ia, x2⟩
        have A2 := Lib.hid (AskOk.of (g := g) ia x2); clear ia x2
        go_wp2_with fail
        refine (depth_c (HV.out.ext X1.out) HG.out (Nat.le_refl _) k hk4 hz A2.out).mono ?_
        rintro e w3 ⟨rfl, a3, -⟩
        rw [HN.out, ← HDD.out]
        have A3 := Lib.hid a3; clear a3
        go_wp2
        go_ret2
        exact ⟨rfl, X1.out.trans A3.out.ext⟩
end Go.Proofs.Ytdoadigekmlnpaa
