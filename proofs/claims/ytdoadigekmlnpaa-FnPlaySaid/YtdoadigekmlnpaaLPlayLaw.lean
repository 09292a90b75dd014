/- The walk of the law FnPlay: played questions find the wrong node. No condition. -/
import Derived.Test.YtdoadigekmlnpaaDNode
import Derived.Test.YtdoadigekmlnpaaPlayA
import Derived.Test.YtdoadigekmlnpaaPlayI
import Derived.Test.YtdoadigekmlnpaaFoundF
import Derived.Test.YtdoadigekmlnpaaGiven
import Derived.Test.YtdoadigekmlnpaaDFacts
import Derived.Test.YtdoadigekmlnpaaDraws
namespace Go.Proofs.Ytdoadigekmlnpaa
open Go.RowKit
open BigFrame

theorem single_is {s x : Nat} (hs : s ≤ 4095) (h : cnt s = 1) (hb : s.testBit x = true) : s = 2 ^ x := by
  have h1 : band (2 ^ x) s = 2 ^ x := by
    apply Nat.eq_of_testBit_eq
    intro i
    simp only [testBit_band, Nat.testBit_two_pow]
    by_cases e : x = i
    · subst e; simp [hb]
    · simp [e]
  have h2 : 2 ^ x ≤ s := by rw [← h1]; exact Nat.and_le_right
  have h3 := Nat.two_pow_pos x
  have h4 := mt (cnt_zero (show 2 ^ x ≤ 4095 by omega)).1 (by omega)
  exact (sub_eq_of_cnt hs h1 (by omega)).symm
theorem bytes_cons (b : UInt8) (l : List UInt8) : (⟨(b :: l).toArray⟩ : ByteArray) = (⟨#[b]⟩ : ByteArray) ++ ⟨l.toArray⟩ := by
  apply ByteArray.ext
  simp [ByteArray.data_append]
theorem found_play {g : List Int} {x : Nat} : ∀ d s (done : List Int) (said : ByteArray), done.length = said.size → foundTo g done said done.length = some s → s ≤ 4095 → dep g s < 99 → s.testBit x = true → dep g s ≤ d →
    foundTo g (done ++ played g x d s) (said ++ ⟨(playS g x d s).toArray⟩) (done ++ played g x d s).length = some (2 ^ x) ∧ (play g x d s).length ≤ dep g s
  | d, s, done, said, hl, hf, hs, hd, hb, hle => by
    have h0 : s ≠ 0 := fun e => by rw [e, Nat.zero_testBit] at hb; cases hb
    by_cases hz : dep g s = 0
    · have e1 := play_end (g := g) (x := x) (d := d) hz
      unfold played
      rw [e1.1, e1.2]
      have e2 : said ++ (⟨(([] : List UInt8)).toArray⟩ : ByteArray) = said := ByteArray.append_empty
      rw [e2, List.map_nil, List.append_nil, hf]
      exact ⟨congrArg some (single_is hs ((dep_pos hs h0).1 hz) hb), Nat.zero_le _⟩
    · cases d with
      | zero => omega
      | succ d =>
        obtain ⟨n1, n2, n3⟩ := next_facts (wrong := x) hs hd hz
        obtain ⟨-, hy⟩ := best_good hs hd hz
        have hb' : (nextOf g x s).testBit x = true := by
          unfold nextOf
          cases h : (qIn g s (bestOf g s)).testBit x
          · rw [if_neg (by decide), testBit_without, h, hb]; rfl
          · rw [if_pos rfl]; exact h
        obtain ⟨c, hc⟩ : ∃ c : UInt8, c = if (qIn g s (bestOf g s)).testBit x then 121 else 110 := ⟨_, rfl⟩
        have hnext : foundNext g s ((bestOf g s : Nat) : Int) c.toNat = some (nextOf g x s) := by
          unfold foundNext nextOf
          rw [hc, if_pos (inB_iff.2 ⟨by omega, by omega⟩)]
          cases (qIn g s (bestOf g s)).testBit x <;> rfl
        have hcs : (⟨#[c]⟩ : ByteArray).size = 1 := rfl
        have hstep : foundTo g (done ++ [((bestOf g s : Nat) : Int)]) (said ++ ⟨#[c]⟩) (done ++ [((bestOf g s : Nat) : Int)]).length = some (nextOf g x s) := by
          rw [List.length_append]
          refine found_go (k := done.length) (s := s) (by rw [found_left hl _ (Nat.le_refl _)]; exact hf) ?_
          have e1 : getI (done ++ [((bestOf g s : Nat) : Int)]) done.length = ((bestOf g s : Nat) : Int) := by
            have := getI_right (a := done) (b := [((bestOf g s : Nat) : Int)]) (k := 0)
            rw [Nat.add_zero] at this
            rw [this]; rfl
          have e2 : byteAt (said ++ ⟨#[c]⟩) done.length = c.toNat := by
            have := byteAt_right (s := said) (t := ⟨#[c]⟩) (k := 0) (by rw [hcs]; omega)
            rw [Nat.add_zero] at this
            rw [hl, this]; rfl
          rw [e1, e2]
          exact hnext
        have ih := found_play (x := x) d (nextOf g x s) (done ++ [((bestOf g s : Nat) : Int)]) (said ++ ⟨#[c]⟩) (by rw [List.length_append, ByteArray.size_append, hl]; rfl) hstep (by omega) (by omega) hb' (by omega)
        have e3 : played g x (d + 1) s = [((bestOf g s : Nat) : Int)] ++ played g x d (nextOf g x s) := by
          unfold played
          rw [play_next hz]; rfl
        have e4 : (⟨(playS g x (d + 1) s).toArray⟩ : ByteArray) = (⟨#[c]⟩ : ByteArray) ++ ⟨(playS g x d (nextOf g x s)).toArray⟩ := by
          rw [playS_next hz, ← hc, bytes_cons]
        rw [e3, e4, ← List.append_assoc, ← ByteArray.append_assoc]
        refine ⟨ih.1, ?_⟩
        rw [play_next hz, List.length_cons]
        have := ih.2
        omega
theorem play_all {g : List Int} {x : Int} : (askPlay g x = ([], false)) ∨ ∃ (y D A : Nat) (l : List Int) (sd : ByteArray), x = y ∧ y ≤ 11 ∧ IsGraph g ∧ A ≤ 4095 ∧ 2 ^ g.length - 1 = A ∧ D ≤ 11 ∧ askPlay g (y : Int) = (l, true) ∧ askAns g (y : Int) = (sd, true) ∧ l.length ≤ D ∧ askFound g l sd = (((2 ^ y : Nat) : Int), true) ∧ askDepth g (A : Int) = ((D : Int), true) := by
  cases hc : canPlay g x
  · exact .inl (by unfold askPlay; rw [hc]; rfl)
  · have hc' := hc
    unfold canPlay at hc'
    rw [Bool.and_eq_true, Bool.and_eq_true, decide_eq_true_iff] at hc'
    obtain ⟨⟨h1, h2⟩, hd⟩ := hc'
    have hG := graphIn_iff.1 h1
    obtain ⟨y, rfl, hy⟩ := node_iff.1 h2
    have hl := hG.le
    have hp := pow_le_12 hl
    have hpos := hG.pos
    have h2p : 2 ^ 1 ≤ 2 ^ g.length := Nat.pow_le_pow_right (by omega) hpos
    have hb : (2 ^ g.length - 1).testBit y = true := by rw [Nat.testBit_two_pow_sub_one, decide_eq_true_iff]; exact hy
    have hds := dep_small (g := g) (s := 2 ^ g.length - 1) (by omega) (by omega)
    have hfp := found_play (g := g) (x := y) 99 (2 ^ g.length - 1) [] ByteArray.empty rfl rfl (by omega) hd hb (by omega)
    rw [List.nil_append, ByteArray.empty_append] at hfp
    have hlen := play_length g y 99 (2 ^ g.length - 1)
    have hpl : (played g y 99 (2 ^ g.length - 1)).length = (play g y 99 (2 ^ g.length - 1)).length := by unfold played; rw [List.length_map]
    refine .inr ⟨y, dep g (2 ^ g.length - 1), 2 ^ g.length - 1, played g y 99 (2 ^ g.length - 1), ⟨(playS g y 99 (2 ^ g.length - 1)).toArray⟩, rfl, by omega, hG, by omega, rfl, hds, by unfold askPlay; rw [hc]; rfl, by unfold askAns; rw [hc]; rfl, by omega, ?_, ?_⟩
    · unfold askFound
      rw [h1, show decide ((played g y 99 (2 ^ g.length - 1)).length = (⟨(playS g y 99 (2 ^ g.length - 1)).toArray⟩ : ByteArray).size) = true from by rw [decide_eq_true_iff, hpl]; simp [ByteArray.size, hlen.2], show decide ((played g y 99 (2 ^ g.length - 1)).length ≤ 20) = true from by rw [decide_eq_true_iff]; omega]
      rw [hfp.1]
      rfl
    · unfold askDepth
      rw [show okD g ((2 ^ g.length - 1 : Nat) : Int) = true from okD_iff.2 ⟨_, rfl, hG, by omega, by omega, by omega, hd⟩]
      rfl

set_option maxRecDepth 100000 in
set_option maxHeartbeats 2000000 in
theorem FnPlay_walk (v : Value) (bs : List Int) (w : World) (hv : Rb w v bs) :
    Calls Try.prog 7 #[v] w fun e w' => e = .returned (.bool true) ∧ Below w.heap.size w w' := by
  have HV := Lib.hid hv
  obtain ⟨a, c, rfl, -, -⟩ := hv
  go_enter Try.func7, Try.ntmps7
  by_cases hl : bs.length ≤ 1048576
  · go_wp2_with fail
    refine (drawAskPlay_c _ bs w HV.out hl).mono ?_
    rintro e w1 ⟨v1, gs, x, rfl, hn1, hn7, hx1, hx2, r1, x1⟩
    obtain ⟨a1, c1, rfl⟩ := r1.form
    have hm : gs.length ≤ 1048576 := by omega
    have R1 := Lib.hid r1; have X1 := Lib.hid x1
    clear r1 x1
    rcases play_all (g := gs) (x := x) with h0 | ⟨y, D, A, l, sd, rfl, hy11, hG, hA4, hA, hD11, hP, hS, hll, hF, hDp⟩
    · have H0 := Lib.hid h0
      clear h0
      go_wp2_with fail
      refine (askPlayI_c _ gs x w1 R1.out hm).mono ?_
      rintro e w2 ⟨v2, rfl, o2, x2⟩
      rw [H0.out] at o2 ⊢
      unfold listV
      have R2 := Lib.hid (R1.out.ext x2); have X2 := Lib.hid (X1.out.trans x2); have O2 := Lib.hid o2.rd; clear x2 o2
      go_wp2_with fail
      refine (askPlayS_c _ gs x w2 R2.out hm).mono ?_
      rintro e w3 ⟨v3, rfl, o3, x3⟩
      rw [H0.out] at o3 ⊢
      unfold listV
      have X3 := Lib.hid (X2.out.trans x3); have O3 := Lib.hid o3.rd; have P3 := Lib.hid (O2.out.ext x3); clear x3 o3
      go_wp2_with fail
      refine (sameInts_c _ _ [] w3 P3.out O3.out (by simp)).mono ?_
      rintro e w4 ⟨rfl, x4⟩
      have X4 := Lib.hid (X3.out.trans x4); have P4 := Lib.hid (P3.out.ext x4); have O4 := Lib.hid (O3.out.ext x4); clear x4
      go_wp2_with fail
      refine (sameInts_c _ _ [] w4 P4.out O4.out (by simp)).mono ?_
      rintro e w5 ⟨rfl, x5⟩
      have X5 := Lib.hid (X4.out.trans x5); clear x5
      go_wp2
      go_ret
      exact ⟨rfl, X5.out⟩
    · have HP := Lib.hid hP; have HS := Lib.hid hS; have HF := Lib.hid hF; have HD := Lib.hid hDp
      have hGl := hG.le
      obtain ⟨p, hp, hp1, hp2, hp3⟩ := pow_var gs.length (by omega)
      obtain ⟨q, hq, hq1, hq2, hq3⟩ := pow_var y (by omega)
      have hq4 : q ≤ 2048 := by rw [← hq]; exact (Nat.pow_le_pow_right (by omega) hy11 : 2 ^ y ≤ 2 ^ 11)
      have e0 : min gs.length 64 = gs.length := by omega
      have e1 : min y 64 = y := by omega
      have e2 : (p : Int) - 1 = (A : Int) := by omega
      rw [hq] at HF
      have HLL := Lib.hid hll
      clear hP hS hF hDp hG hA hp hq hx1 hx2 hll
      go_wp2_with fail
      refine (askPlayI_c _ gs y w1 R1.out hm).mono ?_
      rintro e w2 ⟨v2, rfl, o2, x2⟩
      rw [HP.out] at o2 ⊢
      unfold listV
      obtain ⟨a2, c2, rfl⟩ := o2.rd.form
      have R2 := Lib.hid (R1.out.ext x2); have X2 := Lib.hid (X1.out.trans x2); have O2 := Lib.hid o2.rd; clear x2 o2
      go_wp2_with fail
      refine (askPlayS_c _ gs y w2 R2.out hm).mono ?_
      rintro e w3 ⟨v3, rfl, o3, x3⟩
      rw [HP.out] at o3 ⊢
      unfold listV
      have hl20 : l.length ≤ 11 := by have := HLL.out; omega
      have R3 := Lib.hid (R2.out.ext x3); have X3 := Lib.hid (X2.out.trans x3); have O3 := Lib.hid o3.rd; have P3 := Lib.hid (O2.out.ext x3); clear x3 o3
      go_wp2_with fail
      refine (sameInts_c _ _ l w3 P3.out O3.out (by omega)).mono ?_
      rintro e w4 ⟨rfl, x4⟩
      have R4 := Lib.hid (R3.out.ext x4); have X4 := Lib.hid (X3.out.trans x4); have P4 := Lib.hid (P3.out.ext x4); clear x4
      go_wp2_with fail
      refine (askAnsI_c _ gs y w4 R4.out hm).mono ?_
      rintro e w5 ⟨rfl, x5⟩
      rw [HS.out]
      have R5 := Lib.hid (R4.out.ext x5); have X5 := Lib.hid (X4.out.trans x5); have P5 := Lib.hid (P4.out.ext x5); clear x5
      go_wp2_with fail
      refine (askFoundI_c _ _ gs l sd w5 R5.out P5.out hm (by omega)).mono ?_
      rintro e w6 ⟨rfl, x6⟩
      rw [HF.out]
      unfold pairV
      have R6 := Lib.hid (R5.out.ext x6); have X6 := Lib.hid (X5.out.trans x6); clear x6
      go_wp2_with fail
      refine (askDepthI_c _ gs A w6 R6.out hm).mono ?_
      rintro e w7 ⟨rfl, x7⟩
      rw [HD.out]
      unfold pairV
      have X7 := Lib.hid (X6.out.trans x7); clear x7
      have f1 : decide (l.length ≤ D) = true := by rw [decide_eq_true_iff]; exact HLL.out
      go_wp2
      go_ret
      exact ⟨rfl, X7.out⟩
  · go_wp2
    go_ret
    exact ⟨rfl, Below.refl _ _⟩
end Go.Proofs.Ytdoadigekmlnpaa
