/- What the walks of this seat rest on, one part: plain facts, and contracts of the functions that they reach. Each states its own condition. -/
import Derived.Test.YtkmfmhckpfomeaaGreatDoorFnExecuteTwiceP1
import Derived.Test.YtkmfmhckpfomeaaGreatDoorB19
set_option linter.all false
set_option linter.unusedSimpArgs false
set_option linter.unusedVariables false
/- The law FnExecuteTwice: asking changes nothing. The condition: the world holds the library's two facts. -/
namespace Go.Proofs.YtkmfmhckpfomeaaGreatDoor
open Go.RowKit
open BigFrame
attribute [local go_sem] Oper.semAt_some

set_option maxRecDepth 100000 in
set_option maxHeartbeats 4000000 in
theorem FnExecuteTwice_walk (v : Value) (bs : List Int) (w : World) (hw : Wd w) (hv : Rb w v bs) : Calls Tryz.prog 4 #[v] w fun e w' => e = .returned (.bool true) ∧ Below w.heap.size w w' := by
  obtain ⟨a, c, rfl⟩ : ∃ a c, v = .slice a bs.length c := by obtain ⟨a, c, rfl, _⟩ := hv; exact ⟨a, c, rfl⟩
  by_cases hl : bs.length ≤ 1048576
  · have hd1 : decide ((1048576 : Int) < (bs.length : Int)) = false := decide_eq_false (by omega)
    have HD := Lib.hid (drawExecute_c _ bs w hv hl)
    have HI := Lib.hid (fun (l : List UInt8) (h : l.length ≤ 1048576) w' (hx : Ext w w') => executeI_c l w' (hw.ext hx) h)
    clear hv hw hl
    go_enter Tryz.func4, Tryz.ntmps4
    go_wp2_with fail
    refine HD.out.mono ?_
    rintro e w1 ⟨l, rfl, hl, x1⟩
    have X1 := Lib.hid x1
    have HL := Lib.hid hl
    obtain ⟨T, TL, hT⟩ := IsStr.of l
    have hTs := hT.size
    have hTl : TL ≤ 3000 := by rw [← hT.len]; exact hl
    have HT := Lib.hid hT
    have HI1 := Lib.hid (HI.out l (by omega) w1 x1)
    have HS1 := Lib.hid (fun w' => executeS_c l w' (by omega))
    obtain ⟨E, EL, hE⟩ := IsStr.of (execR l)
    have HE := Lib.hid hE
    rw [hT.val, hE.val] at HI1 HS1
    rw [hT.val]
    clear x1 hl hT hE
    go_wp2_with fail
    refine HI1.out.mono ?_
    rintro e w2 ⟨rfl, x2⟩
    have X2 := Lib.hid (X1.out.trans x2); clear x2
    go_wp2_with fail
    refine (HS1.out _).mono ?_
    rintro e w3 ⟨rfl, x3⟩
    have X3 := Lib.hid (X2.out.trans x3); clear x3
    have HC := Lib.hid (fun w' => complete_c l w' (by have := HL.out; omega))
    rw [HT.out.val] at HC
    go_wp2_with fail
    refine (HC.out _).mono ?_
    rintro e w4 ⟨s, rfl, hs, rfl⟩
    have hsl := compl_le hs
    obtain ⟨S, SL, hS⟩ := IsStr.of s
    have hSs := hS.size
    have hSl : SL ≤ 3000 := by rw [← hS.len]; have := HL.out; omega
    have HSS := Lib.hid hS
    have HF := Lib.hid hs.1
    rw [hS.val]
    clear hs hsl hS
    by_cases h6 : SL ≤ 590
    · have h66 : decide ((590 : Int) < (SL : Int)) = false := decide_eq_false (by omega)
      have HA := Lib.hid (HI.out s (by rw [HSS.out.len]; omega) w4 X3.out)
      obtain ⟨X, hXe⟩ : ∃ X, X = outR s := ⟨_, rfl⟩
      obtain ⟨Y, hYe⟩ : ∃ Y, Y = endR s := ⟨_, rfl⟩
      have hXl : X.length ≤ 500000 := by rw [hXe]; exact out_le (by rw [HSS.out.len]; omega)
      have hYl : Y.length ≤ 12 := by rw [hYe]; exact end_le s
      have hpa : execR s = X ++ (Y ++ [10]) := by rw [hXe, hYe]; exact exec_parts (by rw [HSS.out.len]; omega)
      obtain ⟨A, AL, hA⟩ := IsStr.of (X ++ (Y ++ [10]))
      obtain ⟨B, BL, hB⟩ := IsStr.of (Y ++ [10])
      rw [hpa, HSS.out.val, hA.val] at HA
      have HLL := Lib.hid (fun w' => lastLine_c X Y w' (by rw [List.length_append, List.length_append]; show _ + (_ + 1) ≤ _; omega) (by rw [hXe]; exact out_ended s) (by rw [hYe]; exact end_no s) (by rw [hYe]; unfold endR; simp [codeS]))
      rw [hA.val, hB.val] at HLL
      have hAs := hA.size
      have hBs := hB.size
      obtain ⟨XL, hXL⟩ : ∃ XL, XL = X.length := ⟨_, rfl⟩
      have hAB : AL = XL + BL := by rw [← hA.len, ← hB.len, hXL]; simp
      have hBl : BL ≤ 13 := by
        rw [← hB.len, List.length_append]
        show _ + 1 ≤ _
        omega
      have hALl : AL ≤ 500013 := by omega
      have e1 : (AL : Int) - (BL : Int) = (XL : Int) := by omega
      have hXA : XL ≤ AL := by omega
      have hp := (hA.mid 0 XL).eq
      rw [mid_take, hXL, List.take_left, ← hXL] at hp
      obtain ⟨P, hP⟩ : ∃ P, P = A.extract 0 XL := ⟨_, rfl⟩
      have hext : A.extract 0 XL = P := hP.symm
      rw [← hP] at hp
      have hPs : P.size ≤ 500000 := by
        rw [hp]
        show X.toArray.size ≤ _
        simp; omega
      obtain ⟨Q, hQ⟩ : ∃ Q, Q = saidB (natsOf (stR s).1) ++ [10] := ⟨_, rfl⟩
      have hQl : Q.length ≤ 97 := by
        rw [hQ, List.length_append]
        show _ + 1 ≤ _
        have := show_le (s := s)
        omega
      have hsh := exec_show HF.out (by rw [HSS.out.len]; exact h6)
      rw [← hXe, ← hYe, ← hQ] at hsh
      have HQ1 := HI.out (s ++ (showS ++ [10])) (by rw [List.length_append, HSS.out.len]; show SL + 5 ≤ _; omega)
      have HQ2 := HI.out (s ++ ((showS ++ [10]) ++ (showS ++ [10]))) (by rw [List.length_append, HSS.out.len]; show SL + 10 ≤ _; omega)
      rw [hsh.2.1] at HQ1
      rw [hsh.2.2] at HQ2
      obtain ⟨J, JL, hJ⟩ := IsStr.of ((X ++ Q) ++ (Y ++ [10]))
      have hJs := hJ.size
      obtain ⟨QL, hQL⟩ : ∃ QL, QL = Q.length := ⟨_, rfl⟩
      have hJB : JL = (XL + QL) + BL := by
        rw [← hJ.len, ← hB.len, hXL, hQL, List.length_append, List.length_append]
      have hJl : JL ≤ 500200 := by omega
      have e5 : (JL : Int) - (BL : Int) = ((XL + QL : Nat) : Int) := by omega
      have hQJ : XL + QL ≤ JL := by omega
      have hone := (hJ.mid XL (XL + QL)).eq
      have hmo : mid ((X ++ Q) ++ (Y ++ [10])) XL (XL + QL) = Q := by
        unfold mid
        rw [List.append_assoc, hXL, List.drop_left, show X.length + QL - X.length = Q.length by omega, List.take_left]
      rw [hmo] at hone
      obtain ⟨O, hO⟩ : ∃ O, O = J.extract XL (XL + QL) := ⟨_, rfl⟩
      have e6 : J.extract XL (XL + QL) = O := hO.symm
      rw [← hO] at hone
      obtain ⟨M, hM⟩ : ∃ M, M = XL + QL := ⟨_, rfl⟩
      rw [← hM] at e5 e6 hQJ
      have hXM : XL ≤ M := by omega
      have hOs : O.size ≤ 97 := by
        rw [hone]
        show Q.toArray.size ≤ _
        simp; omega
      obtain ⟨G1, hG1⟩ : ∃ G, G = P ++ O := ⟨_, rfl⟩
      have e7 : P ++ O = G1 := hG1.symm
      have q1 := cat_eq (S := P) (l := X) hp (Z := O) (r := Q) hone
      rw [← hG1] at q1
      have hG1s : G1.size ≤ 500100 := by rw [hG1, ByteArray.size_append]; omega
      obtain ⟨G2, hG2⟩ : ∃ G, G = G1 ++ O := ⟨_, rfl⟩
      have e8 : G1 ++ O = G2 := hG2.symm
      have q2 := cat_eq (S := G1) (l := X ++ Q) (Value.string.inj q1) (Z := O) (r := Q) hone
      rw [← hG2] at q2
      have hG2s : G2.size ≤ 500200 := by rw [hG2, ByteArray.size_append]; omega
      obtain ⟨K, hK⟩ : ∃ K, K = G2 ++ B := ⟨_, rfl⟩
      have e9 : G2 ++ B = K := hK.symm
      have q3 := cat_eq (S := G2) (l := (X ++ Q) ++ Q) (Value.string.inj q2) (Z := B) (r := Y ++ [10]) hB.eq
      rw [← hK] at q3
      obtain ⟨N1, hN1⟩ : ∃ N, N = S ++ ⟨#[115, 104, 111, 119, 10]⟩ := ⟨_, rfl⟩
      have e10 : S ++ ⟨#[115, 104, 111, 119, 10]⟩ = N1 := hN1.symm
      have q4 := cat_eq (S := S) (l := s) HSS.out.eq (Z := ⟨#[115, 104, 111, 119, 10]⟩) (r := showS ++ [10]) rfl
      rw [← hN1] at q4
      obtain ⟨N2, hN2⟩ : ∃ N, N = S ++ ⟨#[115, 104, 111, 119, 10, 115, 104, 111, 119, 10]⟩ := ⟨_, rfl⟩
      have e11 : S ++ ⟨#[115, 104, 111, 119, 10, 115, 104, 111, 119, 10]⟩ = N2 := hN2.symm
      have q5 := cat_eq (S := S) (l := s) HSS.out.eq (Z := ⟨#[115, 104, 111, 119, 10, 115, 104, 111, 119, 10]⟩) (r := (showS ++ [10]) ++ (showS ++ [10])) rfl
      rw [← hN2] at q5
      rw [hJ.val, ← q4] at HQ1
      rw [← q3, ← q5] at HQ2
      have H1 := Lib.hid HQ1
      have H2 := Lib.hid HQ2
      clear HQ1 HQ2 hXe hYe hXl hYl hpa hA hB hXL hAB hp hP hG1 hG2 q1 hK q2 hN1 hN2 q3 q4 q5 h6 hQ hQl hsh hJ hQL hJB hone hmo hO hM
      go_wp2_with fail
      refine HA.out.mono ?_
      rintro e w5 ⟨rfl, x5⟩
      have X5 := Lib.hid (X3.out.trans x5)
      clear x5
      go_wp2_with fail
      refine (HLL.out _).mono ?_
      rintro e w' ⟨rfl, rfl⟩
      go_wp2_with fail
      refine (H1.out _ X5.out).mono ?_
      rintro e w6 ⟨rfl, x6⟩
      have X6 := Lib.hid (X5.out.trans x6)
      have HX := Lib.hid (fun u => H2.out (clip w6 u) (X6.out.trans (clip_ext w6 u)))
      clear x6
      go_wp2
      refine wp_region_ext (by kernel_rfl) (by kernel_rfl) ?_
      repeat (go_big_quiet_step (first
        | (go_at_call 10; exact Calls.clip_of (HX.out _))))
      refine wpQuiet_nil ?_
      rintro _ ⟨u', rfl⟩
      go_wp2
      go_ret
      exact ⟨rfl, X6.out.trans (clip_ext _ _)⟩
    · have h66 : decide ((590 : Int) < (SL : Int)) = true := decide_eq_true (by omega)
      clear h6
      go_wp2
      go_ret
      exact ⟨rfl, X3.out⟩
  · have hd1 : decide ((1048576 : Int) < (bs.length : Int)) = true := decide_eq_true (by omega)
    clear hv hw
    go_enter Tryz.func4, Tryz.ntmps4
    go_wp2
    go_ret
    exact ⟨rfl, Ext.refl _⟩
end Go.Proofs.YtkmfmhckpfomeaaGreatDoor
