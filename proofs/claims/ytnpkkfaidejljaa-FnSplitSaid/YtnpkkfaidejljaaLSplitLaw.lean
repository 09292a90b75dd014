/- The walk of the law FnSplit. No condition. -/
import Derived.Test.YtnpkkfaidejljaaDAsk
import Derived.Test.YtnpkkfaidejljaaSplit
import Derived.Test.YtnpkkfaidejljaaDep
namespace Go.Proofs.Ytnpkkfaidejljaa
open Go.RowKit
open BigFrame

/-- What the split of a set gives. -/
theorem split_all {g : List Int} {s x : Nat} (hs : s ≤ 128) (hx : x < g.length) : askSplit g s x = (0, 0, false) ∨ IsGraph g ∧ ∃ I O B : Nat, I ≤ 4095 ∧ O ≤ 4095 ∧ B ≤ 4095 ∧ B = ballN g x ∧ askSplit g s x = (((I : Nat) : Int), ((O : Nat) : Int), true) ∧ band I O = 0 ∧ bor I O = s ∧ without I B = 0 ∧ band O B = 0 := by
  cases hf : fits g s
  · exact .inl (by unfold askSplit; rw [hf]; rfl)
  · obtain ⟨k, hk, hG, hlt⟩ := fits_iff.1 hf
    obtain rfl : k = s := by omega
    refine .inr ⟨hG, qIn g k x, without k (qIn g k x), ballN g x, ?_, ?_, ballN_small hG hx, rfl, ?_, ?_, ?_, ?_, ?_⟩
    · have := qIn_le g k x; omega
    · have := without_sub_le k (qIn g k x); omega
    · unfold askSplit
      rw [hf, show inB 0 (x : Int) ((g.length : Int) - 1) = true from inB_iff.2 ⟨by omega, by omega⟩]
      rfl
    all_goals
      try rw [qIn_without]
      try unfold qIn
      apply Nat.eq_of_testBit_eq
      intro i
      simp only [testBit_band, testBit_bor, testBit_without, Nat.zero_testBit]
      cases k.testBit i <;> cases (ballN g x).testBit i <;> rfl

set_option maxRecDepth 100000 in
set_option maxHeartbeats 1000000 in
theorem FnSplit_walk (v : Value) (bs : List Int) (w : World) (hv : Rb w v bs) :
    Calls Try.prog 15 #[v] w fun e w' => e = .returned (.bool true) ∧ Below w.heap.size w w' := by
  have HV := Lib.hid hv
  obtain ⟨a, c, rfl, -, -⟩ := hv
  go_enter Try.func15, Try.ntmps15
  by_cases hl : bs.length ≤ 1048576
  · go_wp2_with fail
    refine (drawAskSplit_c _ bs w HV.out hl).mono ?_
    rintro e w1 ⟨v1, gs, s, x, rfl, hn1, hn7, hs, hx, r1, x1⟩
    obtain ⟨a1, c1, rfl⟩ := r1.form
    have hm : gs.length ≤ 1048576 := by omega
    have R1 := Lib.hid r1; have X1 := Lib.hid x1
    clear r1 x1
    rcases split_all hs hx with h0 | ⟨hG, I, O, B, hI, hO, hB, hB2, hA, h1, h2, h3, h4⟩
    · have H0 := Lib.hid h0
      clear h0
      go_wp2_with fail
      refine (askSplitI_c _ gs s x w1 R1.out hm).mono ?_
      rintro e w2 ⟨rfl, x2⟩
      rw [H0.out]
      unfold triV
      have R2 := Lib.hid (R1.out.ext x2); have X2 := Lib.hid (X1.out.trans x2); clear x2
      go_wp2_with fail
      refine (askSplitS_c _ gs s x w2 R2.out hm).mono ?_
      rintro e w3 ⟨rfl, x3⟩
      rw [H0.out]
      unfold triV
      have R3 := Lib.hid (R2.out.ext x3); have X3 := Lib.hid (X2.out.trans x3); clear x3
      go_wp2
      go_ret
      exact ⟨rfl, X3.out⟩
    · have HA := Lib.hid hA; have HG := Lib.hid hG; have HB := Lib.hid hB2
      have e1 := bits_and I O (by omega) (by omega)
      have e2 := bits_or I O (by omega) (by omega)
      have e3 := bits_andNot I B (by omega) (by omega)
      have e4 := bits_and O B (by omega) (by omega)
      rw [h1] at e1
      rw [h2] at e2
      rw [h3] at e3
      rw [h4] at e4
      clear hA hG hB2 h1 h2 h3 h4
      go_wp2_with fail
      refine (askSplitI_c _ gs s x w1 R1.out hm).mono ?_
      rintro e w2 ⟨rfl, x2⟩
      rw [HA.out]
      unfold triV
      have R2 := Lib.hid (R1.out.ext x2); have X2 := Lib.hid (X1.out.trans x2); clear x2
      go_wp2_with fail
      refine (askSplitS_c _ gs s x w2 R2.out hm).mono ?_
      rintro e w3 ⟨rfl, x3⟩
      rw [HA.out]
      unfold triV
      have R3 := Lib.hid (R2.out.ext x3); have X3 := Lib.hid (X2.out.trans x3); clear x3
      go_wp2_with fail
      refine (graphBallsI_c _ gs w3 R3.out HG.out).mono ?_
      rintro e w4 ⟨v4, rfl, o4, x4⟩
      obtain ⟨a4, c4, rfl⟩ := o4.form
      have h4l := ballsTo_length gs gs.length
      have cB : ∀ w', Ext w4 w' → ∃ b o, a4 = some ⟨b, o, none⟩ ∧ w'.cell? ⟨b, o + x, none⟩ = some (.int .i64 (B : Int)) := fun w' hw => by
        obtain ⟨b, o, h5, h6, h7, h8⟩ := o4.at (show x < (ballsTo gs gs.length).length by rw [h4l]; exact hx)
        have := h8 w' hw
        rw [ballsTo_get gs gs.length x hx, ← HB.out] at this
        exact ⟨b, o, h5, this⟩
      obtain ⟨b4, o4', rfl, cb⟩ := cB w4 (Ext.refl _)
      rw [h4l]
      have X4 := Lib.hid (X3.out.trans x4)
      clear cB x4 o4 h4l
      go_wp2
      go_ret
      exact ⟨rfl, X4.out⟩
  · go_wp2
    go_ret
    exact ⟨rfl, Below.refl _ _⟩
end Go.Proofs.Ytnpkkfaidejljaa
