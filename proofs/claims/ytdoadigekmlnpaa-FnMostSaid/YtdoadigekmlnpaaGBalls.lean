/- The balls that the program gives for a graph. No condition. -/
import Derived.Test.YtdoadigekmlnpaaBalls
import Derived.Test.YtdoadigekmlnpaaGraphI
namespace Go.Proofs.Ytdoadigekmlnpaa
open Go.RowKit
open BigFrame

theorem Own.slice {w : World} {base : Nat} {v : Value} {xs : List Int} (h : Own w base v xs) (h1 : 1 ≤ xs.length) : ∃ g c, v = .slice (some ⟨g, 0, none⟩) xs.length c := by
  rcases h.get with ⟨rfl, h2⟩ | ⟨g, c, rfl, -⟩
  · rw [h2] at h1; simp at h1
  · exact ⟨g, c, rfl⟩

set_option maxHeartbeats 1000000 in
theorem graphBallsI_c (v : Value) (g : List Int) (w : World) (hv : Rd w v g) (hg : IsGraph g) :
    Calls Try.prog 25 #[v] w fun e w' => ∃ v', e = .returned (.tuple #[v', .bool true]) ∧ Rd w' v' (ballsTo g g.length) ∧ Ext w w' := by
  have hg1 := graphIn_iff.2 hg
  have hl := hg.le
  have HG := Lib.hid hg
  have HC := Lib.hid (graphInI_c v g w hv (by omega))
  rw [hg1] at HC
  have HV := Lib.hid hv
  obtain ⟨a, c, rfl⟩ := hv.form
  clear hg hv hg1
  go_enter Try.func25, Try.ntmps25
  go_wp2_with fail
  refine HC.out.mono ?_
  rintro e w1 ⟨rfl, x1⟩
  have X1 := Lib.hid x1; clear x1
  go_wp2_with fail
  refine (balls_c _ g w1 (HV.out.ext X1.out) HG.out).mono ?_
  rintro e w2 ⟨v2, rfl, o2, x2⟩
  have O2 := Lib.hid o2; have X2 := Lib.hid x2; clear o2 x2
  go_wp2
  go_ret2
  exact ⟨_, rfl, O2.out.rd, X1.out.trans X2.out⟩
end Go.Proofs.Ytdoadigekmlnpaa
