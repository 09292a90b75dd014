/- The draws of pools, with what is asked of them; lists that the law compares. The condition: at most 2^20 bytes. -/
import Derived.Test.YtdoadigekmlnpaaDPool
import Derived.Test.YtdoadigekmlnpaaApart
namespace Go.Proofs.Ytdoadigekmlnpaa
open Go.RowKit
open BigFrame

set_option maxHeartbeats 400000 in
/-- Equal lists are the same. -/
theorem sameInts_c (v v' : Value) (xs : List Int) (w : World) (hv : Rd w v xs) (hv' : Rd w v' xs) (hx : xs.length ≤ 1048576) :
    Calls Try.prog 37 #[v, v'] w fun e w' => e = .returned (.bool true) ∧ Ext w w' := by
  obtain ⟨a, c, rfl⟩ := hv.form
  obtain ⟨a', c', rfl⟩ := hv'.form
  have HV := Lib.hid hv; clear hv
  have HV' := Lib.hid hv'; clear hv'
  go_enter Try.func37, Try.ntmps37
  go_wp2
  go_loopw [5] (fun i wr => ∃ k : Nat, k ≤ xs.length ∧ i = .int .i64 k ∧ Ext w wr) (fun i _ => xs.length - (intOf i).toNat)
  case atStart => exact ⟨0, Nat.zero_le _, rfl, Ext.refl _⟩
  case round =>
    obtain ⟨k, hk, rfl, hx⟩ := hrel
    have HX := Lib.hid hx; clear hx
    by_cases hlt : k < xs.length
    · obtain ⟨b, o, rfl, -, -, hc⟩ := HV.out.at hlt
      obtain ⟨b', o', rfl, -, -, hc'⟩ := HV'.out.at hlt
      have c1 := fun u => hc _ (HX.out.trans (clip_ext wr u))
      have c2 := fun u => hc' _ (HX.out.trans (clip_ext wr u))
      clear hc hc'
      go_wp2
      refine wp_region_ext (by kernel_rfl) (by kernel_rfl) ?_
      repeat (go_big_quiet_step (fail))
      refine wpQuiet_nil ?_
      rintro _ ⟨u, rfl⟩
      go_wp2
      go_roundw
      case rel => exact ⟨k + 1, by omega, by go_num, HX.out.trans (clip_ext _ _)⟩
      case measure => simp [intOf]; omega
    · go_wp2
      go_ret
      exact ⟨rfl, HX.out⟩
end Go.Proofs.Ytdoadigekmlnpaa
