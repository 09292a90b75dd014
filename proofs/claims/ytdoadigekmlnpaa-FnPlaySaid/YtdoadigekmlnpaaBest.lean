/- The best question: the reference and the program compute the same plain function. The condition: the list has at most 2^20 numbers. -/
import Derived.Test.YtdoadigekmlnpaaGiven
namespace Go.Proofs.Ytdoadigekmlnpaa
open Go.RowKit
open BigFrame

def askBest (g : List Int) (s : Int) : Int × Bool := if okD g s && decide (dep g s.toNat ≠ 0) then (((bestOf g s.toNat : Nat) : Int), true) else (0, false)

theorem Rd.atB {w : World} {b o n c : Nat} {xs : List Int} (h : Rd w (.slice (some ⟨b, o, none⟩) n c) xs) {k : Nat} (hk : k < n) {w' : World} (hx : Ext w w') : w'.cell? ⟨b, o + k, none⟩ = some (.int .i64 (getI xs k)) := by
  obtain ⟨b', o', he, -, -, hc⟩ := h.atI hk
  obtain ⟨rfl, rfl⟩ : b = b' ∧ o = o' := by simpa using he
  exact hc _ hx

set_option maxHeartbeats 2000000 in
theorem l6qBest_c (v vd : Value) (g : List Int) (s : Nat) (w : World) (hv : Rd w v g) (hd : Rd w vd (depsOf g)) (hg : IsGraph g) (hs : s < 2 ^ g.length) :
    Calls Try.prog 125 #[v, vd, .int .i64 s] w fun e w' => e = .returned (.int .i64 (bestOf g s : Nat)) ∧ Ext w w' := by
  obtain ⟨a, c, rfl⟩ := hv.form
  obtain ⟨p, hp⟩ : ∃ p, p = (depsOf g).length := ⟨_, rfl⟩
  obtain ⟨ad, cd, rfl⟩ := hd.form
  have hsl : s < (depsOf g).length := by rw [depsOf_length]; exact hs
  have HSG := Lib.hid (depsOf_get g hs)
  have HLT := Lib.hid fun (t : Nat) (ht : t ≤ s) => show (getI (depsOf g) t = ((dep g t : Nat) : Int)) ∧ t < (depsOf g).length from ⟨depsOf_get g (by omega), by omega⟩
  have hl := hg.le
  have hs4 : s ≤ 4095 := by have := pow_le_12 hl; omega
  have HV := Lib.hid hv; have HG := Lib.hid hg; have HD := Lib.hid hd
  rw [← hp] at hsl HLT HD ⊢
  clear hv hg hd hs hp
  have hds := dep_le g s
  obtain ⟨bd, od, rfl, -, hbd, hcs⟩ := HD.out.atI hsl
  rw [(HLT.out s (Nat.le_refl _)).1] at hcs
  have HCS := Lib.hid hcs
  obtain ⟨ds, hds'⟩ : ∃ d, d = dep g s := ⟨_, rfl⟩
  have HDS := Lib.hid hds'
  rw [← hds'] at hds HCS
  clear hcs hds'
  go_enter Try.func125, Try.ntmps125
  go_wp2
  go_loopw [7] (fun i wr => ∃ k : Nat, k ≤ g.length ∧ i = .int .i64 k ∧ Hid (∀ y, y < k → good g s y = false) ∧ Hid (Ext w wr)) (fun i _ => g.length - (intOf i).toNat)
  case atStart => exact ⟨0, Nat.zero_le _, rfl, fun y hy => absurd hy (Nat.not_lt_zero y), Ext.refl _⟩
  case round =>
    obtain ⟨k, hk, rfl, HB, HX⟩ := hrel
    by_cases hlt : k < g.length
    · obtain ⟨I, hI⟩ : ∃ I, I = qIn g s k := ⟨_, rfl⟩
      obtain ⟨O, hO⟩ : ∃ O, O = without s (qIn g s k) := ⟨_, rfl⟩
      have HQ := Lib.hid (l6qIn_c (.slice a g.length c) g s k wr (HV.out.ext HX.out) HG.out hs4 hlt)
      rw [← hI] at HQ
      have hI4 : I ≤ s := by rw [hI]; exact qIn_le _ _ _
      have hO4 : O ≤ s := by rw [hO]; exact without_sub_le _ _
      have hgood : good g s k = (decide (I ≠ 0) && decide (I ≠ s) && decide (dep g I < ds) && decide (dep g O < ds)) := by unfold good tells; rw [← hO, ← hI, HDS.out]
      have HGD := Lib.hid hgood
      have e2 := bits_andNot s I (by omega) (by omega)
      rw [show without s I = O from by rw [hO, hI]] at e2
      have dI := dep_le g I
      have dO := dep_le g O
      obtain ⟨d1, hd1⟩ : ∃ d, d = dep g I := ⟨_, rfl⟩
      obtain ⟨d2, hd2⟩ : ∃ d, d = dep g O := ⟨_, rfl⟩
      rw [← hd1] at dI HGD
      rw [← hd2] at dO HGD
      go_wp2_with fail
      refine HQ.out.mono ?_
      rintro e w1 ⟨rfl, x1⟩
      have X1 := Lib.hid (HX.out.trans x1); clear x1
      have cS := fun u => HCS.out _ (X1.out.trans (clip_ext w1 u))
      have cI := fun u => HD.out.atB (HLT.out I hI4).2 (X1.out.trans (clip_ext w1 u))
      have cO := fun u => HD.out.atB (HLT.out O hO4).2 (X1.out.trans (clip_ext w1 u))
      rw [(HLT.out I hI4).1, ← hd1] at cI
      rw [(HLT.out O hO4).1, ← hd2] at cO
      have lI := (HLT.out I hI4).2
      have lO := (HLT.out O hO4).2
      clear hI hO hd1 hd2 hgood
      by_cases h1 : I = 0
      · have hI0 : ((I : Int) != 0) = false := by simp [h1]
        have HGF : Hid (good g s k = false) := by unfold Hid; rw [HGD.out]; simp [h1]
        clear h1
        go_wp2
        refine wp_region_ext (by kernel_rfl) (by kernel_rfl) ?_
        repeat (go_big_quiet_step (fail))
        refine wpQuiet_nil ?_
        rintro _ ⟨u, rfl⟩
        go_wp2
        go_roundw
        case rel => exact ⟨k + 1, by omega, by go_num, fun y hy => by
          by_cases h : y = k
          · subst h; exact HGF.out
          · exact HB.out y (by omega), X1.out.trans (clip_ext _ _)⟩
        case measure => simp [intOf]; omega
      · have hI0 : ((I : Int) != 0) = true := by simp [h1]
        by_cases h2 : I = s
        · have hIs : ((I : Int) != (s : Int)) = false := by simp [h2]
          have HGF : Hid (good g s k = false) := by unfold Hid; rw [HGD.out]; simp [h2]
          clear h1 h2
          go_wp2
          refine wp_region_ext (by kernel_rfl) (by kernel_rfl) ?_
          repeat (go_big_quiet_step (fail))
          refine wpQuiet_nil ?_
          rintro _ ⟨u, rfl⟩
          go_wp2
          go_roundw
          case rel => exact ⟨k + 1, by omega, by go_num, fun y hy => by
            by_cases h : y = k
            · subst h; exact HGF.out
            · exact HB.out y (by omega), X1.out.trans (clip_ext _ _)⟩
          case measure => simp [intOf]; omega
        · have hIs : ((I : Int) != (s : Int)) = true := by simp; omega
          by_cases h3 : d1 < ds
          · have h3' : decide (d1 < ds) = true := decide_eq_true h3
            by_cases h4 : d2 < ds
            · have h4' : decide (d2 < ds) = true := decide_eq_true h4
              have HGT : Hid (good g s k = true) := by unfold Hid; rw [HGD.out]; simp [h1, h2, h3, h4]
              clear h1 h2 h3 h4
              go_wp2
              refine wp_region_ext (by kernel_rfl) (by kernel_rfl) ?_
              repeat (go_big_quiet_step (fail))
              refine wpQuiet_nil ?_
              rintro _ ⟨u, rfl⟩
              go_wp2
              go_ret
              exact ⟨ret_int (by rw [best_here HGT.out hlt HB.out]), X1.out.trans (clip_ext _ _)⟩
            · have h4' : decide (d2 < ds) = false := decide_eq_false h4
              have HGF : Hid (good g s k = false) := by unfold Hid; rw [HGD.out]; simp [h4]
              clear h1 h2 h3 h4
              go_wp2
              refine wp_region_ext (by kernel_rfl) (by kernel_rfl) ?_
              repeat (go_big_quiet_step (fail))
              refine wpQuiet_nil ?_
              rintro _ ⟨u, rfl⟩
              go_wp2
              go_roundw
              case rel => exact ⟨k + 1, by omega, by go_num, fun y hy => by
                by_cases h : y = k
                · subst h; exact HGF.out
                · exact HB.out y (by omega), X1.out.trans (clip_ext _ _)⟩
              case measure => simp [intOf]; omega
          · have h3' : decide (d1 < ds) = false := decide_eq_false h3
            have HGF : Hid (good g s k = false) := by unfold Hid; rw [HGD.out]; simp [h3]
            clear h1 h2 h3
            go_wp2
            refine wp_region_ext (by kernel_rfl) (by kernel_rfl) ?_
            repeat (go_big_quiet_step (fail))
            refine wpQuiet_nil ?_
            rintro _ ⟨u, rfl⟩
            go_wp2
            go_roundw
            case rel => exact ⟨k + 1, by omega, by go_num, fun y hy => by
              by_cases h : y = k
              · subst h; exact HGF.out
              · exact HB.out y (by omega), X1.out.trans (clip_ext _ _)⟩
            case measure => simp [intOf]; omega
    · obtain rfl : k = g.length := by omega
      go_wp2
      go_ret
      exact ⟨ret_int (by rw [best_none HB.out]; rfl), HX.out⟩

set_option maxHeartbeats 1000000 in
theorem best_c {w0 w : World} {b : Nat} {v : Value} {g : List Int} (hv : Rd w0 v g) (hg : IsGraph g) (hb : w0.heap.size ≤ b) (s : Nat) (hs : s ≤ 4095) (h0 : s ≠ 0) (hd : dep g s < 99) (hd0 : dep g s ≠ 0) (ha : AskOk w0 b v g w) :
    Calls Try.prog 82 #[.pointer (some ⟨b + 1, 0, none⟩), .int .i64 s] w fun e w' => e = .returned (.int .i64 (bestOf g s : Nat)) ∧ AskOk w0 b v g w' ∧ Upd b w w' := by
  have HA := Lib.hid ha
  have HH := Lib.hid (good_has hs hd hd0)
  have HGA := Lib.hid fun x => good_aft (x := x) hs hd
  have HAF := Lib.hid fun x (hx : x < g.length) w (ha : AskOk w0 b v g w) => after_c hv hg hb s x hs hx ha
  have HDE := Lib.hid fun w (ha : AskOk w0 b v g w) => depth_c hv hg hb s hs h0 ha
  have hn : never (dep g s) ≤ 11 := by
    have := dep_small hs (show dep g s ≠ 99 by omega)
    unfold never; rw [if_neg (by omega)]; exact this
  obtain ⟨D, hD⟩ : ∃ D, D = never (dep g s) := ⟨_, rfl⟩
  have hl := hg.le
  rw [← hD] at hn HGA HDE
  clear hD ha hv hg hd hd0 hb
  go_enter Try.func82, Try.ntmps82
  go_wp2
  go_loopw [5] (fun i wr => ∃ k : Nat, k ≤ g.length ∧ i = .int .i64 k ∧ Hid (∀ y, y < k → good g s y = false) ∧ Hid (AskOk w0 b v g wr) ∧ Hid (Upd b w wr)) (fun i _ => g.length - (intOf i).toNat)
  case atStart => exact ⟨0, Nat.zero_le _, rfl, fun y hy => absurd hy (Nat.not_lt_zero y), HA.out, Upd.refl _ _⟩
  case round =>
    obtain ⟨k, hk, rfl, HB, HAR, HU⟩ := hrel
    have hlt : k < g.length := by
      obtain ⟨x, hx, hg⟩ := HH.out
      rcases Nat.lt_or_ge k g.length with h | h
      · exact h
      · have := HB.out x (by omega)
        rw [hg] at this; cases this
    have hA20 := aft_le g s k
    obtain ⟨A, hA⟩ : ∃ A, A = aft g s k := ⟨_, rfl⟩
    have HK := Lib.hid (HAF.out k hlt wr HAR.out)
    have HGK := Lib.hid (HGA.out k)
    rw [← hA] at HK HGK hA20
    have hAn : ((A : Int) ≥ (D : Int)) = ((D : Int) ≤ (A : Int)) := rfl
    clear hA hAn
    by_cases hc : A < D
    · have hc' : decide (D ≤ A) = false := by simp; omega
      have HGT := Lib.hid (HGK.out.2 hc)
      clear hc hA20
      go_wp2_with fail
      refine HK.out.mono ?_
      rintro e w1 ⟨rfl, a1, u1⟩
      have A1 := Lib.hid a1; have U1 := Lib.hid (HU.out.trans u1); clear a1 u1
      go_wp2_with fail
      refine (HDE.out _ A1.out).mono ?_
      rintro e w2 ⟨rfl, a2, u2⟩
      have A2 := Lib.hid a2; have U2 := Lib.hid (U1.out.trans u2); clear a2 u2
      go_wp2
      go_ret
      exact ⟨ret_int (by rw [best_here HGT.out hlt HB.out]), A2.out, U2.out⟩
    · have hc' : decide (D ≤ A) = true := by simp; omega
      have HGF : Hid (good g s k = false) := by
        unfold Hid
        cases hh : good g s k
        · rfl
        · exact absurd (HGK.out.1 hh) hc
      clear hc hA20
      go_wp2_with fail
      refine HK.out.mono ?_
      rintro e w1 ⟨rfl, a1, u1⟩
      have A1 := Lib.hid a1; have U1 := Lib.hid (HU.out.trans u1); clear a1 u1
      go_wp2_with fail
      refine (HDE.out _ A1.out).mono ?_
      rintro e w2 ⟨rfl, a2, u2⟩
      have A2 := Lib.hid a2; have U2 := Lib.hid (U1.out.trans u2); clear a2 u2
      go_wp2
      go_roundw
      case rel => exact ⟨k + 1, by omega, by go_num, fun y hy => by
        by_cases h : y = k
        · subst h; exact HGF.out
        · exact HB.out y (by omega), A2.out, U2.out⟩
      case measure => simp [intOf]; omega

end Go.Proofs.Ytdoadigekmlnpaa
