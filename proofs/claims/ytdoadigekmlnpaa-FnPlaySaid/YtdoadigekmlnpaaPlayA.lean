/- Answers of played questions: the program computes the plain text. The condition: the list has at most 2^20 numbers. -/
import Derived.Test.YtdoadigekmlnpaaBuild
import Derived.Test.YtdoadigekmlnpaaShelf
namespace Go.Proofs.Ytdoadigekmlnpaa
open Go.RowKit
open BigFrame

def ansB (g : List Int) (x y : Nat) : UInt8 := if (ballN g y).testBit x then 121 else 110
theorem play_lt {g : List Int} {x : Nat} : ∀ d s, s ≤ 4095 → dep g s < 99 → s ≠ 0 → ∀ y ∈ play g x d s, y < g.length
  | 0, s, _, _, _, y, hy => by cases hy
  | d + 1, s, hs, hd, h0, y, hy => by
    by_cases hz : dep g s = 0
    · rw [(play_end hz).1] at hy; cases hy
    · rw [play_next hz] at hy
      obtain ⟨n1, n2, n3⟩ := next_facts (wrong := x) hs hd hz
      rcases List.mem_cons.1 hy with rfl | hy
      · exact (best_good hs hd hz).2
      · exact play_lt d (nextOf g x s) (by omega) (by omega) n1 y hy
theorem playS_map {g : List Int} {x : Nat} : ∀ d s, s ≤ 4095 → dep g s < 99 → s.testBit x = true → playS g x d s = (play g x d s).map (ansB g x)
  | 0, s, _, _, _ => rfl
  | d + 1, s, hs, hd, hb => by
    by_cases hz : dep g s = 0
    · rw [(play_end hz).1, (play_end hz).2]; rfl
    · obtain ⟨n1, n2, n3⟩ := next_facts (wrong := x) hs hd hz
      have e : (qIn g s (bestOf g s)).testBit x = (ballN g (bestOf g s)).testBit x := by unfold qIn; rw [testBit_band, hb, Bool.true_and]
      have hb' : (nextOf g x s).testBit x = true := by
        unfold nextOf
        cases h : (qIn g s (bestOf g s)).testBit x
        · rw [if_neg (by decide), testBit_without, h, hb]; rfl
        · rw [if_pos rfl]; exact h
      rw [play_next hz, playS_next hz, List.map_cons, playS_map d (nextOf g x s) (by omega) (by omega) hb']
      congr 1
      unfold ansB
      rw [e]
theorem builder_ext {T e : TypeId} {B b : Nat} {bs : List Value} {w w' : World} (h : Lib.IsBuilder T e B b bs w) (hx : Ext w w') : Lib.IsBuilder T e B b bs w' := by
  have key : ∀ p, Lib.BuilderAt T e B b p bs w → Lib.BuilderAt T e B b p bs w' := by
    rintro p ⟨hB, v, hb, ⟨h1, h2⟩, hne⟩
    refine ⟨hB, v, (hx.block (Array.getElem?_eq_some_iff.1 hb).1).trans hb, ⟨h1, ?_⟩, hne⟩
    rcases h2 with h2 | ⟨g, cap, cur, hv, hg, hh, r⟩
    · exact Or.inl h2
    · exact Or.inr ⟨g, cap, cur, hv, hg, (hx.block (Array.getElem?_eq_some_iff.1 hh).1).trans hh, r⟩
  exact h.imp (key _) (key _)

set_option maxRecDepth 100000 in
set_option maxHeartbeats 2000000 in
theorem askAnsI_c (v : Value) (g : List Int) (x : Int) (w : World) (hv : Rd w v g) (hm : g.length ≤ 1048576) :
    Calls Try.prog 22 #[v, .int .i64 x] w fun e w' => e = .returned (.tuple #[.string (askAns g x).1, .bool (askAns g x).2]) ∧ Ext w w' := by
  obtain ⟨a, c, rfl⟩ := hv.form
  have HV := Lib.hid hv
  have HC := Lib.hid (askPlayI_c _ g x w hv hm)
  clear hv
  cases hcp : canPlay g x
  · have HA : Hid (askAns g x = (⟨#[]⟩, false)) := by unfold Hid askAns; rw [hcp]; rfl
    have HP : Hid (askPlay g x = ([], false)) := by unfold Hid askPlay; rw [hcp]; rfl
    rw [HA.out]
    rw [HP.out] at HC
    go_enter Try.func22, Try.ntmps22
    go_wp2_with fail
    refine HC.out.mono ?_
    rintro e w1 ⟨v', rfl, -, x1⟩
    have X1 := Lib.hid x1; clear x1
    unfold listV
    go_wp2
    go_ret2
    exact ⟨rfl, X1.out⟩
  · have h1 := hcp
    unfold canPlay at h1
    simp only [Bool.and_eq_true, decide_eq_true_eq] at h1
    obtain ⟨⟨h0, hx⟩, hd⟩ := h1
    have hG := graphIn_iff.1 h0
    obtain ⟨y, rfl, hy⟩ := node_iff.1 hx
    have hl := hG.le
    have hst := PlayAt.start (x := y) hG hd
    obtain ⟨l, hl'⟩ : ∃ l, l = play g y 99 (2 ^ g.length - 1) := ⟨_, rfl⟩
    have HA : Hid (askAns g y = (⟨(l.map (ansB g y)).toArray⟩, true)) := by
      unfold Hid askAns
      rw [hcp, if_pos rfl, hl', Int.toNat_natCast, playS_map 99 _ hst.set hst.dep (by rw [Nat.testBit_two_pow_sub_one]; exact decide_eq_true hy)]
    have HP : Hid (askPlay g y = (l.map (fun z => ((z : Nat) : Int)), true)) := by unfold Hid askPlay; rw [hcp, if_pos rfl, hl']; rfl
    have HLT : Hid (∀ z ∈ l, z < g.length) := by rw [hl']; exact play_lt 99 _ hst.set hst.dep hst.ne
    have hll : l.length ≤ 99 := by rw [hl']; exact (play_length _ _ _ _).1
    have HG := Lib.hid hG
    rw [HP.out] at HC
    clear hst hl' hG hx hd h0 hcp
    go_enter Try.func22, Try.ntmps22
    go_wp2_with fail
    refine HC.out.mono ?_
    rintro e w1 ⟨v', rfl, o1, x1⟩
    have X1 := Lib.hid x1
    have R1 := o1.rd
    obtain ⟨al, cl, rfl⟩ := R1.form
    have R := Lib.hid R1
    have hn : (l.map (fun z => ((z : Nat) : Int))).length = l.length := by simp
    rw [show (l.map (fun z => ((z : Nat) : Int)), true).fst.length = l.length from hn] at R ⊢
    clear o1 x1 R1
    unfold listV
    go_wp2
    obtain ⟨W, hW⟩ : ∃ V, V = w1.alloc (.cells #[.pointer none, .slice none 0 0] 56) := ⟨_, rfl⟩
    rw [← hW]
    have HB0 : Hid (Lib.IsBuilder 56 5 w1.heap.size w1.heap.size (Lib.byteCells ((l.map (ansB g y)).take 0)) W) := by rw [hW]; exact Lib.fresh_isBuilder _ _ w1
    have HX0 : Hid (Ext w1 W) := by rw [hW]; exact (Ext.refl _).alloc _
    clear hW
    go_loopw [21] (fun i wr => ∃ k : Nat, k ≤ l.length ∧ i = .int .i64 k ∧ Hid (Lib.IsBuilder 56 5 w1.heap.size w1.heap.size (Lib.byteCells ((l.map (ansB g y)).take k)) wr) ∧ Hid (Ext w1 wr)) (fun i _ => l.length - (intOf i).toNat)
    case atStart => exact ⟨0, Nat.zero_le _, rfl, HB0, HX0⟩
    case round =>
      clear HB0 HX0
      obtain ⟨k, hk, rfl, HB, HX⟩ := hrel
      by_cases hlt : k < l.length
      · obtain ⟨q, hq⟩ : ∃ q, q = l[k] := ⟨_, rfl⟩
        have hqn : q < g.length := by rw [hq]; exact HLT.out _ (List.getElem_mem hlt)
        have HTK : Hid (Lib.byteCells ((l.map (ansB g y)).take (k + 1)) = Lib.byteCells ((l.map (ansB g y)).take k) ++ [.int .u8 (ansB g y q).toNat]) := by
          unfold Hid
          rw [List.take_succ_eq_append_getElem (by simpa using hlt), Lib.byteCells_append, List.getElem_map, ← hq]
          rfl
        obtain ⟨bl, ol, rfl, -, hbl, hcl⟩ := R.out.atI hlt
        have ck := hcl _ HX.out
        have hgk : getI (List.map (fun z => ((z : Nat) : Int)) l) k = ((q : Nat) : Int) := by unfold getI; simp [hlt, hq]
        rw [show getI ((l.map (fun z => ((z : Nat) : Int)), true).fst) k = ((q : Nat) : Int) from hgk] at ck
        clear hcl hq hgk
        have h4 := ballN_small HG.out hqn
        have HBT := Lib.hid (has_c (ballN g q) y (by omega) (by omega))
        have hbsz : (Lib.byteCells ((l.map (ansB g y)).take k)).length ≤ 1048576 := by rw [Lib.byteCells_length]; simp; omega
        go_wp2_with fail
        refine (ball_c _ g q _ (HV.out.ext (X1.out.trans HX.out)) HG.out hqn).mono ?_
        rintro e w2 ⟨rfl, x2⟩
        have X2 := Lib.hid (HX.out.trans x2); have B2 := Lib.hid (builder_ext HB.out x2); clear x2 ck
        have hs2 := X2.out.size
        cases hbt : (ballN g q).testBit y
        · rw [show ansB g y q = 110 from by unfold ansB; rw [hbt]; rfl] at HTK
          rw [hbt] at HBT
          clear hbt
          go_wp2_with (go_at_call 71; refine (HBT.out _).mono ?_; rintro e w' ⟨rfl, rfl⟩)
          refine (writeByte_c _ _ _ 110 _ B2.out hbsz hs2).mono ?_
          rintro e w3 ⟨rfl, b3, y3⟩
          have B3 := Lib.hid b3; have X3 : Hid (Ext w1 w3) := Below.trans X2.out y3
          clear b3 y3
          go_wp2
          go_roundw
          case rel => exact ⟨k + 1, by omega, by go_num, by rw [HTK.out]; exact B3.out, X3⟩
          case measure => simp [intOf]; omega
        · rw [show ansB g y q = 121 from by unfold ansB; rw [hbt]; rfl] at HTK
          rw [hbt] at HBT
          clear hbt
          go_wp2_with (go_at_call 71; refine (HBT.out _).mono ?_; rintro e w' ⟨rfl, rfl⟩)
          refine (writeByte_c _ _ _ 121 _ B2.out hbsz hs2).mono ?_
          rintro e w3 ⟨rfl, b3, y3⟩
          have B3 := Lib.hid b3; have X3 : Hid (Ext w1 w3) := Below.trans X2.out y3
          clear b3 y3
          go_wp2
          go_roundw
          case rel => exact ⟨k + 1, by omega, by go_num, by rw [HTK.out]; exact B3.out, X3⟩
          case measure => simp [intOf]; omega
      · obtain rfl : k = l.length := by omega
        have HB2 : Hid (Lib.IsBuilder 56 5 w1.heap.size w1.heap.size (Lib.byteCells (l.map (ansB g y))) wr) := by
          have := HB.out
          rw [List.take_of_length_le (by simp)] at this
          exact this
        have hs := HX.out.size
        go_wp2_with fail
        refine (Try.Builder_String_any _ _ _ _ HB2.out hs).mono ?_
        rintro e w3 ⟨rfl, y3⟩
        have X3 : Hid (Ext w1 w3) := Below.trans HX.out y3
        clear y3
        go_wp2
        go_ret2
        exact ⟨by rw [HA.out]; rfl, X1.out.trans X3.out⟩
end Go.Proofs.Ytdoadigekmlnpaa
