/- Whether a code bears wrong sensors: the reference and the program compute the same plain function. No condition. -/
import Derived.Test.YtpmammklklkheaaMarks
namespace Go.Proofs.Ytpmammklklkheaa
open Go.RowKit
open BigFrame

def bearP (g : List Int) (s t i k : Nat) : Bool := decide (2 * t + 1 ≤ cnt (bxor (markN g s i) (markN g s k)))
def bearRow (g : List Int) (s t i : Nat) : Bool := decide (2 * t + 1 ≤ cnt (markN g s i)) && (List.range i).all (bearP g s t i)
def bearsN (g : List Int) (s t : Nat) : Bool := (List.range g.length).all (bearRow g s t)
theorem bears_false {N k : Nat} {p : Nat → Bool} (hk : k < N) (h : p k = false) : (List.range N).all p = false := by
  rw [List.all_eq_false]; exact ⟨k, List.mem_range.2 hk, by rw [h]; decide⟩
theorem bears_true {N : Nat} {p : Nat → Bool} (h : ∀ k, k < N → p k = true) : (List.range N).all p = true := by
  rw [List.all_eq_true]; exact fun k hk => h k (List.mem_range.1 hk)
theorem bxor_small {a b : Nat} (ha : a ≤ 4095) (hb : b ≤ 4095) : bxor a b ≤ 4095 := by
  have := bxor_lt (x := a) (y := b) (n := 12) (by omega) (by omega)
  omega

set_option maxHeartbeats 2000000 in
theorem l5Bears_c (v : Value) (g : List Int) (s t : Nat) (w : World) (hv : Rd w v g) (hg : IsGraph g) (hs : s ≤ 4095) (ht : t ≤ 4) :
    Calls Try.prog 66 #[v, .int .i64 s, .int .i64 t] w fun e w' => e = .returned (.bool (bearsN g s t)) ∧ Ext w w' := by
  obtain ⟨a, c, rfl⟩ := hv.form
  have HV := Lib.hid hv; have HG := Lib.hid hg
  have hl := hg.le
  clear hv hg
  go_enter Try.func66, Try.ntmps66
  go_wp2_with fail
  refine (l2Marks_c _ g s _ HV.out HG.out hs).mono ?_
  rintro e w1 ⟨vm, rfl, om, x1⟩
  obtain ⟨gm, cm, rfl⟩ := om.form' (marksTo_length g s g.length)
  have OM := Lib.hid om.rd; have X1 := Lib.hid x1
  clear om x1
  go_wp2
  go_loopw [8] (fun i wr => ∃ k : Nat, k ≤ g.length ∧ i = .int .i64 k ∧ Hid (∀ j, j < k → bearRow g s t j = true) ∧ Ext w1 wr) (fun i _ => g.length - (intOf i).toNat)
  case atStart => exact ⟨0, Nat.zero_le _, rfl, fun j hj => absurd hj (Nat.not_lt_zero j), Ext.refl _⟩
  case round =>
    obtain ⟨i, hi, rfl, HI, hx⟩ := hrel
    have HX := Lib.hid hx; clear hx
    by_cases hlt : i < g.length
    · obtain ⟨b, o, rfl, -, hbl, hc⟩ := OM.out.atI hlt
      have c1 := hc _ HX.out
      rw [show getI (marksTo g s g.length) i = ((markN g s i : Nat) : Int) from marksTo_get _ _ _ _ hlt] at c1
      have m4 := markN_small HG.out hlt s
      clear hc
      by_cases hz : cnt (markN g s i) < 2 * t + 1
      · have HZ : Hid (bearRow g s t i = false) := by unfold bearRow Hid; rw [decide_eq_false (by omega)]; rfl
        go_wp2_with (go_at_call 70; refine (l1Count_c _ (by omega) _).mono ?_; rintro e w' ⟨rfl, rfl⟩)
        go_ret
        exact ⟨ret_bool (bears_false hlt HZ.out).symm, X1.out.trans HX.out⟩
      · have HZ := Lib.hid hz
        go_wp2_with (go_at_call 70; refine (l1Count_c _ (by omega) _).mono ?_; rintro e w' ⟨rfl, rfl⟩)
        clear c1 hz
        obtain ⟨wo, rfl⟩ : ∃ wo : World, wo = wr := ⟨_, rfl⟩
        go_loopw [9] (fun q wr => ∃ k : Nat, k ≤ i ∧ q = .int .i64 k ∧ Hid (∀ j, j < k → bearP g s t i j = true) ∧ Ext w1 wr) (fun q _ => i - (intOf q).toNat)
        case atStart => exact ⟨0, Nat.zero_le _, rfl, fun j hj => absurd hj (Nat.not_lt_zero j), HX.out⟩
        case round =>
          clear HX
          obtain ⟨k, hk, rfl, HJ, hx⟩ := hrel
          have HX := Lib.hid hx; clear hx
          by_cases hlk : k < i
          · obtain ⟨b', o', he, -, -, hc⟩ := OM.out.atI hlt
            obtain ⟨rfl, rfl⟩ : b = b' ∧ o = o' := by simpa using he
            have c1 := fun u => hc _ (HX.out.trans (clip_ext wr u))
            rw [show getI (marksTo g s g.length) i = ((markN g s i : Nat) : Int) from marksTo_get _ _ _ _ hlt] at c1
            clear hc he
            obtain ⟨b', o', he, -, -, hc⟩ := OM.out.atI (k := k) (by omega)
            obtain ⟨rfl, rfl⟩ : b = b' ∧ o = o' := by simpa using he
            have c2 := fun u => hc _ (HX.out.trans (clip_ext wr u))
            rw [show getI (marksTo g s g.length) k = ((markN g s k : Nat) : Int) from marksTo_get _ _ _ _ (by omega)] at c2
            clear hc he
            have n4 := markN_small HG.out (show k < g.length by omega) s
            have e1 := bits_xor (markN g s i) (markN g s k) (by omega) (by omega)
            have x4 := bxor_small m4 n4
            have HL := Lib.hid fun w => l1Count_c (bxor (markN g s i) (markN g s k)) (by omega) w
            by_cases hy : cnt (bxor (markN g s i) (markN g s k)) < 2 * t + 1
            · have HY : Hid (bearP g s t i k = false) := by unfold bearP Hid; rw [decide_eq_false (by omega)]
              go_wp2
              refine wp_region_ext (by kernel_rfl) (by kernel_rfl) ?_
              repeat (go_big_quiet_step ((go_at_call 70; exact Calls.clip_same (HL.out _))))
              refine wpQuiet_nil ?_
              rintro _ ⟨u, rfl⟩
              go_wp2
              go_ret
              exact ⟨ret_bool (bears_false hlt (by unfold bearRow; rw [bears_false hlk HY.out, Bool.and_false])).symm, X1.out.trans (HX.out.trans (clip_ext _ _))⟩
            · have HY : Hid (bearP g s t i k = true) := by unfold bearP Hid; rw [decide_eq_true (by omega)]
              go_wp2
              refine wp_region_ext (by kernel_rfl) (by kernel_rfl) ?_
              repeat (go_big_quiet_step ((go_at_call 70; exact Calls.clip_same (HL.out _))))
              refine wpQuiet_nil ?_
              rintro _ ⟨u, rfl⟩
              go_wp2
              go_roundw
              case rel => exact ⟨k + 1, by omega, by go_num, fun j hj => by
                by_cases h : j = k
                · subst h; exact HY.out
                · exact HJ.out j (by omega), HX.out.trans (clip_ext _ _)⟩
              case measure => simp [intOf]; omega
          · obtain rfl : k = i := by omega
            go_wp2
            go_roundw
            case rel => exact ⟨k + 1, by omega, by go_num, fun j hj => by
              by_cases h : j = k
              · subst h; unfold bearRow; rw [decide_eq_true (by have := HZ.out; omega), bears_true HJ.out]; rfl
              · exact HI.out j (by omega), HX.out⟩
            case measure => simp [intOf]; omega
    · obtain rfl : i = g.length := by omega
      go_wp2
      go_ret
      exact ⟨ret_bool (bears_true HI.out).symm, X1.out.trans HX.out⟩

set_option maxHeartbeats 2000000 in
theorem bears_c (b : Nat) (v vb vf : Value) (vs : List Value) (g : List Int) (s t : Nat) (w : World) (hb : IsBook w b g v vb vf vs) (hg : IsGraph g) (hs : s ≤ 4095) (ht : t ≤ 4) :
    Calls Try.prog 62 #[.pointer (some ⟨b, 0, none⟩), .int .i64 s, .int .i64 t] w fun e w' => e = .returned (.bool (bearsN g s t)) ∧ Ext w w' := by
  have HB := Lib.hid hb; have HG := Lib.hid hg
  have hl := hg.le
  have hl1 := hg.pos
  clear hb hg
  go_enter Try.func62, Try.ntmps62
  go_wp2_with fail
  refine (marks_c b _ _ _ _ g s _ HB.out HG.out hs).mono ?_
  rintro e w1 ⟨vm, rfl, om, x1⟩
  have X1 := Lib.hid x1; clear x1
  rcases om.get with ⟨rfl, hnil⟩ | ⟨gm, cm, rfl, -, -, hcm, hcells, -⟩
  · have h1 := congrArg List.length hnil
    rw [marksTo_length, List.length_nil] at h1
    omega
  · rw [marksTo_length] at hcm
    have HC : Hid (∀ i, i < g.length → w1.cell? ⟨gm, i, none⟩ = some (.int .i64 (markN g s i : Nat))) := fun i hi => by
      rw [hcells i (by rw [marksTo_length]; exact hi), marksTo_get _ _ _ _ hi]
    clear hcells om
    rw [marksTo_length]
    go_wp2
    go_loop [17] (fun i => ∃ k : Nat, k ≤ g.length ∧ i = .int .i64 k ∧ Hid (∀ j, j < k → bearRow g s t j = true)) (fun i => g.length - (intOf i).toNat)
    case atStart => exact ⟨0, Nat.zero_le _, rfl, fun j hj => absurd hj (Nat.not_lt_zero j)⟩
    case round =>
      obtain ⟨i, hi, rfl, HI⟩ := hrel
      by_cases hlt : i < g.length
      · have c1 := HC.out i hlt
        have m4 := markN_small HG.out hlt s
        have HS := Lib.hid fun w => sizeC (markN g s i) m4 w
        by_cases hz : cnt (markN g s i) < 2 * t + 1
        · have HZ : Hid (bearRow g s t i = false) := by unfold bearRow Hid; rw [decide_eq_false (by omega)]; rfl
          go_wp2_with (go_at_call 57; refine (HS.out _).mono ?_; rintro e w' ⟨rfl, rfl⟩)
          go_ret
          exact ⟨ret_bool (bears_false hlt HZ.out).symm, X1.out⟩
        · have HZ := Lib.hid hz
          have hdf : decide ((cnt (markN g s i) : Int) < 2 * (t : Int) + 1) = false := by simp; omega
          go_wp2_with (go_at_call 57; refine (HS.out _).mono ?_; rintro e w' ⟨rfl, rfl⟩)
          try simp only [hdf]
          clear c1 hz hdf HS
          go_loop [32] (fun q => ∃ k : Nat, k ≤ i ∧ q = .int .i64 k ∧ Hid (∀ j, j < k → bearP g s t i j = true)) (fun q => i - (intOf q).toNat)
          case atStart => exact ⟨0, Nat.zero_le _, rfl, fun j hj => absurd hj (Nat.not_lt_zero j)⟩
          case round =>
            obtain ⟨k, hk, rfl, HJ⟩ := hrel
            by_cases hlk : k < i
            · have c2 := HC.out k (by omega)
              have n4 := markN_small HG.out (show k < g.length by omega) s
              have e1 := bits_xor (markN g s i) (markN g s k) (by omega) (by omega)
              have x4 := bxor_small m4 n4
              have HL := Lib.hid fun w => sizeC (bxor (markN g s i) (markN g s k)) x4 w
              by_cases hy : cnt (bxor (markN g s i) (markN g s k)) < 2 * t + 1
              · have HY : Hid (bearP g s t i k = false) := by unfold bearP Hid; rw [decide_eq_false (by omega)]
                go_wp2_with (go_at_call 57; refine (HL.out _).mono ?_; rintro e w' ⟨rfl, rfl⟩)
                go_ret
                exact ⟨ret_bool (bears_false hlt (by unfold bearRow; rw [bears_false hlk HY.out, Bool.and_false])).symm, X1.out⟩
              · have HY : Hid (bearP g s t i k = true) := by unfold bearP Hid; rw [decide_eq_true (by omega)]
                go_wp2_with (go_at_call 57; refine (HL.out _).mono ?_; rintro e w' ⟨rfl, rfl⟩)
                go_round
                case rel => exact ⟨k + 1, by omega, by go_num, fun j hj => by
                  by_cases h : j = k
                  · subst h; exact HY.out
                  · exact HJ.out j (by omega)⟩
                case measure => simp [intOf]; omega
            · obtain rfl : k = i := by omega
              go_wp2
              go_round
              case rel => exact ⟨k + 1, by omega, by go_num, fun j hj => by
                by_cases h : j = k
                · subst h; unfold bearRow; rw [decide_eq_true (by have := HZ.out; omega), bears_true HJ.out]; rfl
                · exact HI.out j (by omega)⟩
              case measure => simp [intOf]; omega
      · obtain rfl : i = g.length := by omega
        go_wp2
        go_ret
        exact ⟨ret_bool (bears_true HI.out).symm, X1.out⟩
end Go.Proofs.Ytpmammklklkheaa
