/- What the walks of this seat rest on, one part: plain facts, and contracts of the functions that they reach. Each states its own condition. -/
import Derived.Test.YtkmfmhckpfomeaaGreatDoorB30
import Derived.Test.YtkmfmhckpfomeaaGreatDoorB21
import Derived.Test.YtkmfmhckpfomeaaGreatDoorB31
import Derived.Test.YtkmfmhckpfomeaaGreatDoorB19
set_option linter.all false
set_option linter.unusedSimpArgs false
set_option linter.unusedVariables false
/- Scripts, plain: complete scripts, lines put behind, the last line of an output. No program in sight. No condition. -/
namespace Go.Proofs.YtkmfmhckpfomeaaGreatDoor

theorem pieces_end (c : UInt8) (y : List UInt8) : ∀ x : List UInt8, pieces c (x ++ c :: y) = pieces c x ++ pieces c y
  | [] => by
    show pieces c (c :: y) = [[]] ++ pieces c y
    rw [pieces, if_pos rfl]; rfl
  | z :: x => by
    have ih := pieces_end c y x
    show pieces c (z :: (x ++ c :: y)) = pieces c (z :: x) ++ pieces c y
    have hne := pieces_ne c x
    by_cases h : z = c
    · rw [pieces, if_pos h, pieces, if_pos h, ih]; rfl
    · rw [pieces, if_neg h, pieces, if_neg h, ih]
      obtain ⟨p, r, e⟩ := List.exists_cons_of_ne_nil hne
      rw [e]; rfl
/-- A script that ends with a newline, or none. -/
def Ended (s : List UInt8) : Prop := s = [] ∨ ∃ a, s = a ++ [10]
/-- s is the text up to its last newline. -/
def Compl (l s : List UInt8) : Prop := Ended s ∧ ∃ r, l = s ++ r ∧ (10 : UInt8) ∉ r
theorem ended_lines {s : List UInt8} (h : Ended s) : ∃ ls, (pieces 10 s).dropLast = ls ∧ ∀ y, pieces 10 (s ++ y) = ls ++ pieces 10 y := by
  rcases h with rfl | ⟨a, rfl⟩
  · exact ⟨[], rfl, fun y => rfl⟩
  · refine ⟨pieces 10 a, ?_, fun y => ?_⟩
    · have := pieces_end 10 [] a
      rw [this]
      show (pieces 10 a ++ [[]]).dropLast = _
      rw [List.dropLast_concat]
    · rw [List.append_assoc]
      exact pieces_end 10 y a
theorem compl_lines {l s : List UInt8} (h : Compl l s) : (pieces 10 l).dropLast = (pieces 10 s).dropLast := by
  obtain ⟨hf, r, rfl, hr⟩ := h
  obtain ⟨ls, h1, h2⟩ := ended_lines hf
  rw [h2, pieces_free hr, List.dropLast_concat, h1]
theorem compl_le {l s : List UInt8} (h : Compl l s) : s.length ≤ l.length := by
  obtain ⟨_, r, rfl, _⟩ := h
  simp
theorem exec_compl {l s : List UInt8} (h : Compl l s) (hl : l.length ≤ 600) : execR s = execR l := by
  have hs := compl_le h
  unfold execR
  rw [if_pos hl, if_pos (by omega), compl_lines h]
/-- One line behind a full script. -/
theorem ended_one {s t : List UInt8} (h : Ended s) (ht : (10 : UInt8) ∉ t) : Ended (s ++ (t ++ [10])) ∧ (pieces 10 (s ++ (t ++ [10]))).dropLast = (pieces 10 s).dropLast ++ [t] := by
  obtain ⟨ls, h1, h2⟩ := ended_lines h
  refine ⟨.inr ⟨s ++ t, by simp⟩, ?_⟩
  rw [h2, pieces_cut [] ht, h1]
  show (ls ++ [t, []]).dropLast = _
  rw [show ls ++ [t, ([] : List UInt8)] = (ls ++ [t]) ++ [[]] from by simp, List.dropLast_concat]
/-- What comes ahead of the last line. -/
noncomputable def outR (s : List UInt8) : List UInt8 := (runR (pieces 10 s).dropLast).1
noncomputable def stR (s : List UInt8) : St := (runR (pieces 10 s).dropLast).2
noncomputable def endR (s : List UInt8) : List UInt8 := codeS ++ Lib.decDigits (stR s).2
theorem exec_parts {s : List UInt8} (h : s.length ≤ 600) : execR s = outR s ++ (endR s ++ [10]) := by
  unfold execR
  rw [if_pos h]; rfl
theorem out_one {s t : List UInt8} (h : Ended s) (ht : (10 : UInt8) ∉ t) : outR (s ++ (t ++ [10])) = outR s ++ ((lineR (stR s).1 (stR s).2 t).1 ++ [10]) ∧ stR (s ++ (t ++ [10])) = (lineR (stR s).1 (stR s).2 t).2 := by
  unfold outR stR
  rw [(ended_one h ht).2, runR_snoc]
  exact ⟨rfl, rfl⟩
theorem out_ended (s : List UInt8) : Ended (outR s) := by
  unfold outR
  generalize (pieces 10 s).dropLast = ls
  rcases List.eq_nil_or_concat ls with rfl | ⟨r, l, rfl⟩
  · exact .inl rfl
  · refine .inr ⟨(runR r).1 ++ (lineR (runR r).2.1 (runR r).2.2 l).1, ?_⟩
    rw [List.concat_eq_append, runR_snoc]
    show _ ++ (_ ++ [10]) = _
    rw [List.append_assoc]
theorem out_le {s : List UInt8} (h : s.length ≤ 600) : (outR s).length ≤ 500000 := by
  have h1 := (runR_fit (pieces 10 s).dropLast).2
  have h2 := pieces_le 10 s
  rw [List.length_dropLast] at h1
  unfold outR
  omega
theorem st_fit (s : List UInt8) : Fit (stR s).1 (stR s).2 := (runR_fit _).1
theorem dec_no : ∀ n : Nat, (10 : UInt8) ∉ Lib.decDigits n := by
  intro n
  induction n using Nat.strongRecOn with
  | _ n ih =>
    have dig : ∀ d : Nat, d < 10 → (10 : UInt8) ≠ UInt8.ofNat (48 + d) := by decide
    by_cases h : n < 10
    · rw [Lib.decDigits, dif_pos h]
      intro hm
      exact dig n h (List.mem_singleton.1 hm)
    · rw [Lib.decDigits, dif_neg h]
      intro hm
      rcases List.mem_append.1 hm with hm | hm
      · exact ih (n / 10) (by omega) hm
      · exact dig (n % 10) (by omega) (List.mem_singleton.1 hm)
theorem end_no (s : List UInt8) : (10 : UInt8) ∉ endR s := by
  intro h
  rcases List.mem_append.1 h with h | h
  · revert h; decide
  · exact dec_no _ h
theorem end_le (s : List UInt8) : (endR s).length ≤ 12 := by
  have h1 := (st_fit s).c_le
  have h2 := dec_len (stR s).2 (by omega)
  unfold endR
  rw [List.length_append]
  show 5 + _ ≤ _
  omega
/-! ### The lines of the laws -/
def zzzS : List UInt8 := [122, 122, 122]
def cxS : List UInt8 := [99, 111, 100, 101, 32, 120]
def showS : List UInt8 := [115, 104, 111, 119]
theorem line_zzz (g : List Int) (c : Nat) : lineR g c zzzS = (whatS, g, c) := by
  unfold lineR
  rw [cut_free (by decide)]
  dsimp only
  rw [if_pos (.inl (by decide))]
theorem line_cx (g : List Int) (c : Nat) : lineR g c cxS = (noS, g, c) := by
  have h := line_args (a := [99, 111, 100, 101]) (r := [120]) (by decide) (by decide) g c
  rw [show argsOf (manyN (cmdIx [99, 111, 100, 101])) [120] = none from by decide] at h
  exact h
theorem line_show (g : List Int) (c : Nat) : lineR g c showS = (saidB (natsOf g), g, c) := by
  unfold lineR
  rw [cut_free (by decide)]
  dsimp only
  rw [show cmdIx showS = 7 from by decide]
  rfl
theorem exec_nil : execR [] = [99, 111, 100, 101, 32, 48, 10] := by
  rw [exec_parts (by simp)]
  have h1 : outR [] = [] := rfl
  have h2 : stR [] = (kindGr 0 5, 0) := rfl
  unfold endR
  rw [h1, h2, Lib.decDigits, dif_pos (by decide)]
  rfl
/-- What. -/
theorem exec_what {s : List UInt8} (h : Ended s) (hs : s.length ≤ 589) : execR (s ++ ((zzzS ++ [10]) ++ (cxS ++ [10]))) = outR s ++ ((whatS ++ [10]) ++ (noS ++ [10])) ++ (endR s ++ [10]) := by
  have f1 := ended_one h (t := zzzS) (by decide)
  have o1 := out_one h (t := zzzS) (by decide)
  have o2 := out_one f1.1 (t := cxS) (by decide)
  rw [line_zzz] at o1
  rw [o1.2, line_cx, o1.1] at o2
  have e : s ++ ((zzzS ++ [10]) ++ (cxS ++ [10])) = (s ++ (zzzS ++ [10])) ++ (cxS ++ [10]) := by simp
  rw [e, exec_parts (by
    rw [List.length_append, List.length_append]
    show s.length + 4 + 7 ≤ 600
    omega), o2.1]
  unfold endR
  rw [o2.2]
  simp
theorem exec_show {s : List UInt8} (h : Ended s) (hs : s.length ≤ 590) : Ended (s ++ (showS ++ [10])) ∧ execR (s ++ (showS ++ [10])) = (outR s ++ (saidB (natsOf (stR s).1) ++ [10])) ++ (endR s ++ [10]) ∧
    execR (s ++ ((showS ++ [10]) ++ (showS ++ [10]))) = ((outR s ++ (saidB (natsOf (stR s).1) ++ [10])) ++ (saidB (natsOf (stR s).1) ++ [10])) ++ (endR s ++ [10]) := by
  have f1 := ended_one h (t := showS) (by decide)
  have o1 := out_one h (t := showS) (by decide)
  have o2 := out_one f1.1 (t := showS) (by decide)
  rw [line_show] at o1
  rw [o1.2, line_show, o1.1] at o2
  have hl : (s ++ (showS ++ [10])).length ≤ 595 := by
    rw [List.length_append]
    show s.length + 5 ≤ 595
    omega
  refine ⟨f1.1, ?_, ?_⟩
  · rw [exec_parts (by omega), o1.1]
    unfold endR
    rw [o1.2]
  · have e : s ++ ((showS ++ [10]) ++ (showS ++ [10])) = (s ++ (showS ++ [10])) ++ (showS ++ [10]) := by simp
    rw [e, exec_parts (by
      rw [List.length_append]
      show _ + 5 ≤ 600
      omega), o2.1]
    unfold endR
    rw [o2.2]
theorem show_le {s : List UInt8} : (saidB (natsOf (stR s).1)).length ≤ 96 := by
  have h1 := st_fit s
  have h2 := said_len (natsOf (stR s).1) (fun n hn => Nat.le_trans (natsOf_le h1.gr n hn) (by omega))
  rw [natsOf_length] at h2
  have := h1.gr.le
  omega
end Go.Proofs.YtkmfmhckpfomeaaGreatDoor

/- The draw of a script. The condition: at most 2^20 bytes. -/
namespace Go.Proofs.YtkmfmhckpfomeaaGreatDoor
open Go.RowKit
open BigFrame
attribute [local go_sem] Oper.semAt_some

theorem strs_new (w : World) (ss : List (List UInt8)) (t : TypeId) (i : Nat) (hi : i < ss.length) : (w.alloc (.cells (ss.map strV).toArray t)).cell? ⟨w.heap.size, i, none⟩ = some (strV (ss.getD i [])) := by
  rw [Lib.cell_of_heap (World.alloc_heap_new w _)]
  rw [List.getElem?_toArray, List.getElem?_map, List.getD_eq_getElem?_getD, List.getElem?_eq_getElem hi]
  rfl
set_option maxHeartbeats 1000000 in
/-- One of some texts. -/
theorem ofN_c (w0 : World) (b m k N : Nat) (ss : List (List UInt8)) (w : World) (h : RdOk w0 b m w) (hm : m ≤ 900000) (hk : k < w.heap.size) (hkb : k ≠ b) (hN : ss.length = N) (h1 : 1 ≤ N) (h2 : N ≤ 100)
    (hc : ∀ i, i < ss.length → w.cell? ⟨k, i, none⟩ = some (strV (ss.getD i []))) :
    Calls Tryz.prog 47 #[.pointer (some ⟨b, 0, none⟩), .slice (some ⟨k, 0, none⟩) N N] w fun e w' => ∃ l, e = .returned (strV l) ∧ l ∈ ss ∧ RdOk w0 b (m + 1) w' ∧ Upd b w w' := by
  have HR := Lib.hid h; have HC := Lib.hid hc; have HN := Lib.hid hN
  clear h hc hN
  go_enter Tryz.func47, Tryz.ntmps47
  go_wp2_with fail
  refine (pick_c w0 b m N _ HR.out (by omega) (by omega) (by omega)).mono ?_
  rintro e w1 ⟨x, rfl, hx, r1, u1⟩
  have d0 := (u1.cell (o := x) hk hkb).trans (HC.out x (by rw [HN.out]; exact hx))
  obtain ⟨l, hl⟩ : ∃ l, l = ss.getD x [] := ⟨_, rfl⟩
  rw [← hl] at d0
  have HM : Hid (l ∈ ss) := by
    show l ∈ ss
    rw [hl, List.getD_eq_getElem?_getD, List.getElem?_eq_getElem (by rw [HN.out]; exact hx)]
    exact List.getElem_mem _
  have R1 := Lib.hid r1; have U1 := Lib.hid u1
  clear r1 u1 hl
  go_wp2
  go_ret
  exact ⟨l, rfl, HM.out, R1.out, U1.out⟩
theorem size_of {l : List UInt8} {ss : List (List UInt8)} {n : Nat} (h : l ∈ ss) (hs : ss.all (fun x => decide (x.length ≤ n)) = true) : l.length ≤ n := by
  have := List.all_eq_true.1 hs l h
  simpa using this
set_option maxRecDepth 100000 in
set_option maxHeartbeats 2000000 in
theorem l91Line_c (w0 : World) (b m : Nat) (w : World) (h : RdOk w0 b m w) (hm : m ≤ 800000) :
    Calls Tryz.prog 26 #[.pointer (some ⟨b, 0, none⟩)] w fun e w' => ∃ l, e = .returned (strV l) ∧ l.length ≤ 16 ∧ RdOk w0 b (m + 3) w' ∧ Upd b w w' := by
  have HP := Lib.hid (pick_c w0 b m 12 w h (by omega) (by omega) (by omega))
  clear h
  go_enter Tryz.func26, Tryz.ntmps26
  go_wp2_with fail
  refine HP.out.mono ?_
  rintro e w1 ⟨x, rfl, hx, r1, u1⟩
  have R1 := Lib.hid r1; have U1 := Lib.hid u1
  clear r1 u1 HP
  have hc : x = 0 ∨ x = 1 ∨ x = 2 ∨ (x = 3 ∨ x = 4) ∨ x = 5 ∨ x = 6 ∨ x = 7 ∨ (8 ≤ x ∧ x ≤ 11) := by omega
  rcases hc with rfl | rfl | rfl | hx34 | rfl | rfl | rfl | hx8
  · -- 0
    have hbw2 : b < w1.heap.size := R1.out.lt.2
    go_wp2_with fail
    refine (ofN_c w0 b _ w1.heap.size 7 [[48, 32, 52], [49, 32, 54], [50, 32, 53], [51, 32, 51], [49, 32, 50], [52, 32, 52], [48, 32, 49, 51]] _ (R1.out.next ((Ext.refl w1).alloc _)) (by omega) (by simp) (by omega) rfl (by omega) (by omega) (strs_new w1 [[48, 32, 52], [49, 32, 54], [50, 32, 53], [51, 32, 51], [49, 32, 50], [52, 32, 52], [48, 32, 49, 51]] 9)).mono ?_
    rintro e w2 ⟨lw2, rfl, hlw2, rw2, uw2⟩
    have hz2 := size_of (n := 4) hlw2 (by decide)
    obtain ⟨S2, L2, hS2⟩ := IsStr.of lw2
    have hs2 : S2.size ≤ 4 := by rw [hS2.size, ← hS2.len]; exact hz2
    have HR2 := Lib.hid (show RdOk w0 b (m + 3) w2 ∧ Upd b w w2 from ⟨rw2.more (by omega), (U1.out.trans (Upd.of_ext ((Ext.refl w1).alloc _))).trans uw2⟩)
    have HQ := Lib.hid (cat_eq (S := ⟨#[103, 114, 97, 112, 104, 32]⟩) (l := [103, 114, 97, 112, 104, 32]) rfl hS2.eq)
    have HV := Lib.hid hS2.val
    have HZ := Lib.hid hz2
    rw [hS2.val]
    clear rw2 uw2 hlw2 hz2 hS2
    go_wp2
    go_ret
    exact ⟨[103, 114, 97, 112, 104, 32] ++ lw2, congrArg Ending.returned HQ.out, by have := HZ.out; simp; omega, HR2.out⟩
  · -- 1
    have hbw2 : b < w1.heap.size := R1.out.lt.2
    go_wp2_with fail
    refine (ofN_c w0 b _ w1.heap.size 4 [[48, 32, 50], [49, 32, 51], [49, 32, 49], [48, 32, 57]] _ (R1.out.next ((Ext.refl w1).alloc _)) (by omega) (by simp) (by omega) rfl (by omega) (by omega) (strs_new w1 [[48, 32, 50], [49, 32, 51], [49, 32, 49], [48, 32, 57]] 9)).mono ?_
    rintro e w2 ⟨lw2, rfl, hlw2, rw2, uw2⟩
    have hz2 := size_of (n := 3) hlw2 (by decide)
    obtain ⟨S2, L2, hS2⟩ := IsStr.of lw2
    have hs2 : S2.size ≤ 3 := by rw [hS2.size, ← hS2.len]; exact hz2
    have HR2 := Lib.hid (show RdOk w0 b (m + 3) w2 ∧ Upd b w w2 from ⟨rw2.more (by omega), (U1.out.trans (Upd.of_ext ((Ext.refl w1).alloc _))).trans uw2⟩)
    have HQ := Lib.hid (cat_eq (S := ⟨#[101, 100, 103, 101, 32]⟩) (l := [101, 100, 103, 101, 32]) rfl hS2.eq)
    have HV := Lib.hid hS2.val
    have HZ := Lib.hid hz2
    rw [hS2.val]
    clear rw2 uw2 hlw2 hz2 hS2
    go_wp2
    go_ret
    exact ⟨[101, 100, 103, 101, 32] ++ lw2, congrArg Ending.returned HQ.out, by have := HZ.out; simp; omega, HR2.out⟩
  · -- 2
    have hbw2 : b < w1.heap.size := R1.out.lt.2
    go_wp2_with fail
    refine (ofN_c w0 b _ w1.heap.size 5 [[53], [51, 49], [48], [54, 52], [120]] _ (R1.out.next ((Ext.refl w1).alloc _)) (by omega) (by simp) (by omega) rfl (by omega) (by omega) (strs_new w1 [[53], [51, 49], [48], [54, 52], [120]] 9)).mono ?_
    rintro e w2 ⟨lw2, rfl, hlw2, rw2, uw2⟩
    have hz2 := size_of (n := 2) hlw2 (by decide)
    obtain ⟨S2, L2, hS2⟩ := IsStr.of lw2
    have hs2 : S2.size ≤ 2 := by rw [hS2.size, ← hS2.len]; exact hz2
    have HR2 := Lib.hid (show RdOk w0 b (m + 3) w2 ∧ Upd b w w2 from ⟨rw2.more (by omega), (U1.out.trans (Upd.of_ext ((Ext.refl w1).alloc _))).trans uw2⟩)
    have HQ := Lib.hid (cat_eq (S := ⟨#[99, 111, 100, 101, 32]⟩) (l := [99, 111, 100, 101, 32]) rfl hS2.eq)
    have HV := Lib.hid hS2.val
    have HZ := Lib.hid hz2
    rw [hS2.val]
    clear rw2 uw2 hlw2 hz2 hS2
    go_wp2
    go_ret
    exact ⟨[99, 111, 100, 101, 32] ++ lw2, congrArg Ending.returned HQ.out, by have := HZ.out; simp; omega, HR2.out⟩
  · -- 3
    have t0 : ((x : Int) == 0) = false := beq_eq_false_iff_ne.2 (by omega)
    have t1 : ((x : Int) == 1) = false := beq_eq_false_iff_ne.2 (by omega)
    have t2 : ((x : Int) == 2) = false := beq_eq_false_iff_ne.2 (by omega)
    rcases hx34 with rfl | rfl
    · have hbw2 : b < w1.heap.size := R1.out.lt.2
      go_wp2_with fail
      refine (ofN_c w0 b _ w1.heap.size 4 [[108, 101, 97, 115, 116, 32], [116, 104, 105, 110, 32], [105, 110, 32], [116, 101, 108, 108, 115, 32]] _ (R1.out.next ((Ext.refl w1).alloc _)) (by omega) (by simp) (by omega) rfl (by omega) (by omega) (strs_new w1 [[108, 101, 97, 115, 116, 32], [116, 104, 105, 110, 32], [105, 110, 32], [116, 101, 108, 108, 115, 32]] 9)).mono ?_
      rintro e w2 ⟨lw2, rfl, hlw2, rw2, uw2⟩
      have R2 := Lib.hid rw2; have U2 := Lib.hid ((U1.out.trans (Upd.of_ext ((Ext.refl w1).alloc _))).trans uw2)
      have hz2 := size_of (n := 6) hlw2 (by decide)
      obtain ⟨S2, L2, hS2⟩ := IsStr.of lw2
      have hs2 : S2.size ≤ 6 := by rw [hS2.size, ← hS2.len]; exact hz2
      have HS2 := Lib.hid hS2
      rw [hS2.val]
      clear rw2 uw2 hlw2 hz2 hS2
      have hbw3 : b < w2.heap.size := R2.out.lt.2
      go_wp2_with fail
      refine (ofN_c w0 b _ w2.heap.size 5 [[48], [49], [50], [51], [52]] _ (R2.out.next ((Ext.refl w2).alloc _)) (by omega) (by simp) (by omega) rfl (by omega) (by omega) (strs_new w2 [[48], [49], [50], [51], [52]] 9)).mono ?_
      rintro e w3 ⟨lw3, rfl, hlw3, rw3, uw3⟩
      have hz3 := size_of (n := 1) hlw3 (by decide)
      obtain ⟨S3, L3, hS3⟩ := IsStr.of lw3
      have hs3 : S3.size ≤ 1 := by rw [hS3.size, ← hS3.len]; exact hz3
      have HR3 := Lib.hid (show RdOk w0 b (m + 3) w3 ∧ Upd b w w3 from ⟨rw3, (U2.out.trans (Upd.of_ext ((Ext.refl w2).alloc _))).trans uw3⟩)
      have HQ := Lib.hid (cat_eq HS2.out.eq hS3.eq)
      have HLEN : Hid ((lw2 ++ lw3).length ≤ 16) := by rw [List.length_append, HS2.out.len, hS3.len, ← HS2.out.size, ← hS3.size]; show _ ≤ 16; omega
      rw [hS3.val]
      clear rw3 uw3 hlw3 hz3 hS3
      go_wp2
      go_ret
      exact ⟨lw2 ++ lw3, congrArg Ending.returned HQ.out, HLEN.out, HR3.out⟩
    · have hbw2 : b < w1.heap.size := R1.out.lt.2
      go_wp2_with fail
      refine (ofN_c w0 b _ w1.heap.size 4 [[108, 101, 97, 115, 116, 32], [116, 104, 105, 110, 32], [105, 110, 32], [116, 101, 108, 108, 115, 32]] _ (R1.out.next ((Ext.refl w1).alloc _)) (by omega) (by simp) (by omega) rfl (by omega) (by omega) (strs_new w1 [[108, 101, 97, 115, 116, 32], [116, 104, 105, 110, 32], [105, 110, 32], [116, 101, 108, 108, 115, 32]] 9)).mono ?_
      rintro e w2 ⟨lw2, rfl, hlw2, rw2, uw2⟩
      have R2 := Lib.hid rw2; have U2 := Lib.hid ((U1.out.trans (Upd.of_ext ((Ext.refl w1).alloc _))).trans uw2)
      have hz2 := size_of (n := 6) hlw2 (by decide)
      obtain ⟨S2, L2, hS2⟩ := IsStr.of lw2
      have hs2 : S2.size ≤ 6 := by rw [hS2.size, ← hS2.len]; exact hz2
      have HS2 := Lib.hid hS2
      rw [hS2.val]
      clear rw2 uw2 hlw2 hz2 hS2
      have hbw3 : b < w2.heap.size := R2.out.lt.2
      go_wp2_with fail
      refine (ofN_c w0 b _ w2.heap.size 5 [[48], [49], [50], [51], [52]] _ (R2.out.next ((Ext.refl w2).alloc _)) (by omega) (by simp) (by omega) rfl (by omega) (by omega) (strs_new w2 [[48], [49], [50], [51], [52]] 9)).mono ?_
      rintro e w3 ⟨lw3, rfl, hlw3, rw3, uw3⟩
      have hz3 := size_of (n := 1) hlw3 (by decide)
      obtain ⟨S3, L3, hS3⟩ := IsStr.of lw3
      have hs3 : S3.size ≤ 1 := by rw [hS3.size, ← hS3.len]; exact hz3
      have HR3 := Lib.hid (show RdOk w0 b (m + 3) w3 ∧ Upd b w w3 from ⟨rw3, (U2.out.trans (Upd.of_ext ((Ext.refl w2).alloc _))).trans uw3⟩)
      have HQ := Lib.hid (cat_eq HS2.out.eq hS3.eq)
      have HLEN : Hid ((lw2 ++ lw3).length ≤ 16) := by rw [List.length_append, HS2.out.len, hS3.len, ← HS2.out.size, ← hS3.size]; show _ ≤ 16; omega
      rw [hS3.val]
      clear rw3 uw3 hlw3 hz3 hS3
      go_wp2
      go_ret
      exact ⟨lw2 ++ lw3, congrArg Ending.returned HQ.out, HLEN.out, HR3.out⟩
  · -- 5
    have hbw2 : b < w1.heap.size := R1.out.lt.2
    go_wp2_with fail
    refine (ofN_c w0 b _ w1.heap.size 4 [[48, 32, 49], [48, 32, 48], [49, 32, 51], [53, 32, 49]] _ (R1.out.next ((Ext.refl w1).alloc _)) (by omega) (by simp) (by omega) rfl (by omega) (by omega) (strs_new w1 [[48, 32, 49], [48, 32, 48], [49, 32, 51], [53, 32, 49]] 9)).mono ?_
    rintro e w2 ⟨lw2, rfl, hlw2, rw2, uw2⟩
    have hz2 := size_of (n := 3) hlw2 (by decide)
    obtain ⟨S2, L2, hS2⟩ := IsStr.of lw2
    have hs2 : S2.size ≤ 3 := by rw [hS2.size, ← hS2.len]; exact hz2
    have HR2 := Lib.hid (show RdOk w0 b (m + 3) w2 ∧ Upd b w w2 from ⟨rw2.more (by omega), (U1.out.trans (Upd.of_ext ((Ext.refl w1).alloc _))).trans uw2⟩)
    have HQ := Lib.hid (cat_eq (S := ⟨#[97, 108, 97, 114, 109, 32]⟩) (l := [97, 108, 97, 114, 109, 32]) rfl hS2.eq)
    have HV := Lib.hid hS2.val
    have HZ := Lib.hid hz2
    rw [hS2.val]
    clear rw2 uw2 hlw2 hz2 hS2
    go_wp2
    go_ret
    exact ⟨[97, 108, 97, 114, 109, 32] ++ lw2, congrArg Ending.returned HQ.out, by have := HZ.out; simp; omega, HR2.out⟩
  · -- 6
    have hbw2 : b < w1.heap.size := R1.out.lt.2
    go_wp2_with fail
    refine (ofN_c w0 b _ w1.heap.size 3 [[48], [51], [49, 50]] _ (R1.out.next ((Ext.refl w1).alloc _)) (by omega) (by simp) (by omega) rfl (by omega) (by omega) (strs_new w1 [[48], [51], [49, 50]] 9)).mono ?_
    rintro e w2 ⟨lw2, rfl, hlw2, rw2, uw2⟩
    have hz2 := size_of (n := 2) hlw2 (by decide)
    obtain ⟨S2, L2, hS2⟩ := IsStr.of lw2
    have hs2 : S2.size ≤ 2 := by rw [hS2.size, ← hS2.len]; exact hz2
    have HR2 := Lib.hid (show RdOk w0 b (m + 3) w2 ∧ Upd b w w2 from ⟨rw2.more (by omega), (U1.out.trans (Upd.of_ext ((Ext.refl w1).alloc _))).trans uw2⟩)
    have HQ := Lib.hid (cat_eq (S := ⟨#[112, 108, 97, 121, 32]⟩) (l := [112, 108, 97, 121, 32]) rfl hS2.eq)
    have HV := Lib.hid hS2.val
    have HZ := Lib.hid hz2
    rw [hS2.val]
    clear rw2 uw2 hlw2 hz2 hS2
    go_wp2
    go_ret
    exact ⟨[112, 108, 97, 121, 32] ++ lw2, congrArg Ending.returned HQ.out, by have := HZ.out; simp; omega, HR2.out⟩
  · -- 7
    have hbw2 : b < w1.heap.size := R1.out.lt.2
    go_wp2_with fail
    refine (ofN_c w0 b _ w1.heap.size 7 [[], [122, 122, 122], [115, 104, 111, 119, 32, 49], [103, 114, 97, 112, 104], [99, 111, 100, 101], [111, 116, 104, 101, 114, 32], [100, 101, 112, 116, 104, 32, 50]] _ (R1.out.next ((Ext.refl w1).alloc _)) (by omega) (by simp) (by omega) rfl (by omega) (by omega) (strs_new w1 [[], [122, 122, 122], [115, 104, 111, 119, 32, 49], [103, 114, 97, 112, 104], [99, 111, 100, 101], [111, 116, 104, 101, 114, 32], [100, 101, 112, 116, 104, 32, 50]] 9)).mono ?_
    rintro e w2 ⟨lw2, rfl, hlw2, rw2, uw2⟩
    have hz2 := size_of (n := 7) hlw2 (by decide)
    obtain ⟨S2, L2, hS2⟩ := IsStr.of lw2
    have hs2 : S2.size ≤ 7 := by rw [hS2.size, ← hS2.len]; exact hz2
    have HR2 := Lib.hid (show RdOk w0 b (m + 3) w2 ∧ Upd b w w2 from ⟨rw2.more (by omega), (U1.out.trans (Upd.of_ext ((Ext.refl w1).alloc _))).trans uw2⟩)
    have HQ := Lib.hid (cat_eq (S := ⟨#[]⟩) (l := []) rfl hS2.eq)
    have HV := Lib.hid hS2.val
    have HZ := Lib.hid hz2
    rw [hS2.val]
    clear rw2 uw2 hlw2 hz2 hS2
    go_wp2
    go_ret
    exact ⟨lw2, congrArg Ending.returned HV.out.symm, Nat.le_trans HZ.out (by omega), HR2.out⟩
  · -- 8
    have t0 : ((x : Int) == 0) = false := beq_eq_false_iff_ne.2 (by omega)
    have t1 : ((x : Int) == 1) = false := beq_eq_false_iff_ne.2 (by omega)
    have t2 : ((x : Int) == 2) = false := beq_eq_false_iff_ne.2 (by omega)
    have t3 : ((x : Int) == 3) = false := beq_eq_false_iff_ne.2 (by omega)
    have t4 : ((x : Int) == 4) = false := beq_eq_false_iff_ne.2 (by omega)
    have t5 : ((x : Int) == 5) = false := beq_eq_false_iff_ne.2 (by omega)
    have t6 : ((x : Int) == 6) = false := beq_eq_false_iff_ne.2 (by omega)
    have t7 : ((x : Int) == 7) = false := beq_eq_false_iff_ne.2 (by omega)
    have hbw2 : b < w1.heap.size := R1.out.lt.2
    go_wp2_with fail
    refine (ofN_c w0 b _ w1.heap.size 7 [[115, 104, 111, 119], [115, 101, 116], [109, 97, 114, 107, 115], [116, 114, 101, 101], [109, 111, 115, 116], [100, 101, 112, 116, 104], [111, 116, 104, 101, 114]] _ (R1.out.next ((Ext.refl w1).alloc _)) (by omega) (by simp) (by omega) rfl (by omega) (by omega) (strs_new w1 [[115, 104, 111, 119], [115, 101, 116], [109, 97, 114, 107, 115], [116, 114, 101, 101], [109, 111, 115, 116], [100, 101, 112, 116, 104], [111, 116, 104, 101, 114]] 9)).mono ?_
    rintro e w2 ⟨lw2, rfl, hlw2, rw2, uw2⟩
    have hz2 := size_of (n := 5) hlw2 (by decide)
    obtain ⟨S2, L2, hS2⟩ := IsStr.of lw2
    have hs2 : S2.size ≤ 5 := by rw [hS2.size, ← hS2.len]; exact hz2
    have HR2 := Lib.hid (show RdOk w0 b (m + 3) w2 ∧ Upd b w w2 from ⟨rw2.more (by omega), (U1.out.trans (Upd.of_ext ((Ext.refl w1).alloc _))).trans uw2⟩)
    have HQ := Lib.hid (cat_eq (S := ⟨#[]⟩) (l := []) rfl hS2.eq)
    have HV := Lib.hid hS2.val
    have HZ := Lib.hid hz2
    rw [hS2.val]
    clear rw2 uw2 hlw2 hz2 hS2
    go_wp2
    go_ret
    exact ⟨lw2, congrArg Ending.returned HV.out.symm, Nat.le_trans HZ.out (by omega), HR2.out⟩
set_option maxRecDepth 100000 in
set_option maxHeartbeats 2000000 in
theorem l6Many_c (w : World) : Calls Tryz.prog 27 #[strV [115, 104, 111, 119, 10], .int .i64 121] w fun e w' => ∃ l, e = .returned (strV l) ∧ l.length ≤ 2000 ∧ w' = w := by
  rw [show strV [115, 104, 111, 119, 10] = .string ⟨#[115, 104, 111, 119, 10]⟩ from rfl]
  go_enter Tryz.func27, Tryz.ntmps27
  go_wp2
  go_loop [0, 1, 5] (fun s n o => ∃ (k : Nat) (S O : ByteArray), k ≤ 7 ∧ n = .int .i64 ((121 / 2 ^ k : Nat) : Int) ∧ s = .string S ∧ o = .string O ∧ Hid (S.size = 5 * 2 ^ k) ∧ Hid (O.size ≤ 5 * 2 ^ k)) (fun _ n _ => (intOf n).toNat)
  case atStart => exact ⟨0, ⟨#[115, 104, 111, 119, 10]⟩, ⟨#[]⟩, by omega, rfl, rfl, rfl, rfl, Nat.zero_le _⟩
  case round =>
    obtain ⟨k, S, O, hk, rfl, rfl, rfl, HS, HO⟩ := hrel
    have hS : S.size ≤ 640 := by rw [HS.out]; exact (Nat.mul_le_mul_left 5 (Nat.pow_le_pow_right (by omega) hk : 2 ^ k ≤ 2 ^ 7))
    have hO : O.size ≤ 640 := Nat.le_trans HO.out (Nat.mul_le_mul_left 5 (Nat.pow_le_pow_right (by omega) hk : 2 ^ k ≤ 2 ^ 7))
    have HS2 : Hid ((S ++ S).size = 5 * 2 ^ (k + 1)) := by rw [ByteArray.size_append, HS.out, Nat.pow_succ]; show _ = _; omega
    have HO2 : Hid ((O ++ S).size ≤ 5 * 2 ^ (k + 1)) := by rw [ByteArray.size_append, HS.out, Nat.pow_succ]; have := HO.out; show _ ≤ _; omega
    have HO3 : Hid (O.size ≤ 5 * 2 ^ (k + 1)) := Nat.le_trans HO.out (Nat.mul_le_mul_left 5 (Nat.pow_le_pow_right (by omega) (by omega)))
    have hcases : k = 0 ∨ k = 1 ∨ k = 2 ∨ k = 3 ∨ k = 4 ∨ k = 5 ∨ k = 6 ∨ k = 7 := by omega
    rcases hcases with rfl | rfl | rfl | rfl | rfl | rfl | rfl | rfl
    · rw [show ((121 / 2 ^ 0 : Nat) : Int) = 121 from rfl]
      go_wp2
      go_round
      case rel => exact ⟨1, S ++ S, O ++ S, by omega, rfl, rfl, rfl, HS2, HO2⟩
      case measure => simp [intOf]
    · rw [show ((121 / 2 ^ 1 : Nat) : Int) = 60 from rfl]
      go_wp2
      go_round
      case rel => exact ⟨2, S ++ S, O, by omega, rfl, rfl, rfl, HS2, HO3⟩
      case measure => simp [intOf]
    · rw [show ((121 / 2 ^ 2 : Nat) : Int) = 30 from rfl]
      go_wp2
      go_round
      case rel => exact ⟨3, S ++ S, O, by omega, rfl, rfl, rfl, HS2, HO3⟩
      case measure => simp [intOf]
    · rw [show ((121 / 2 ^ 3 : Nat) : Int) = 15 from rfl]
      go_wp2
      go_round
      case rel => exact ⟨4, S ++ S, O ++ S, by omega, rfl, rfl, rfl, HS2, HO2⟩
      case measure => simp [intOf]
    · rw [show ((121 / 2 ^ 4 : Nat) : Int) = 7 from rfl]
      go_wp2
      go_round
      case rel => exact ⟨5, S ++ S, O ++ S, by omega, rfl, rfl, rfl, HS2, HO2⟩
      case measure => simp [intOf]
    · rw [show ((121 / 2 ^ 5 : Nat) : Int) = 3 from rfl]
      go_wp2
      go_round
      case rel => exact ⟨6, S ++ S, O ++ S, by omega, rfl, rfl, rfl, HS2, HO2⟩
      case measure => simp [intOf]
    · rw [show ((121 / 2 ^ 6 : Nat) : Int) = 1 from rfl]
      go_wp2
      go_round
      case rel => exact ⟨7, S ++ S, O ++ S, by omega, rfl, rfl, rfl, HS2, HO2⟩
      case measure => simp [intOf]
    · rw [show ((121 / 2 ^ 7 : Nat) : Int) = 0 from rfl]
      go_wp2
      go_ret
      exact ⟨O.data.toList, congrArg Ending.returned (str_bytes O), (show O.data.toList.length ≤ 2000 by rw [show O.data.toList.length = O.size by simp]; omega), rfl⟩
set_option maxRecDepth 100000 in
set_option maxHeartbeats 2000000 in
theorem drawExecute_c (v : Value) (bs : List Int) (w : World) (hv : Rb w v bs) (hm : bs.length ≤ 1048576) :
    Calls Tryz.prog 9 #[v] w fun e w' => ∃ l, e = .returned (strV l) ∧ l.length ≤ 3000 ∧ Ext w w' := by
  obtain ⟨a, c, rfl⟩ : ∃ a c, v = .slice a bs.length c := by obtain ⟨a, c, rfl, _⟩ := hv; exact ⟨a, c, rfl⟩
  have HC := Lib.hid (l6Open_c _ bs w hv hm)
  clear hv
  go_enter Tryz.func9, Tryz.ntmps9
  go_wp2_with fail
  refine HC.out.mono ?_
  rintro e w1 ⟨rfl, h1, -⟩
  obtain ⟨b, hb⟩ : ∃ b, b = w.heap.size := ⟨_, rfl⟩
  rw [← hb] at h1 ⊢
  have R1 := Lib.hid h1; clear h1 hb
  go_wp2_with fail
  refine (pick_c w b _ 8 w1 R1.out (by omega) (by omega) (by omega)).mono ?_
  rintro e w2 ⟨n, rfl, hn, h2, -⟩
  have R2 := Lib.hid h2; clear h2
  go_wp2
  go_loopw [4, 6] (fun s i wr => ∃ (j : Nat) (S : ByteArray), j ≤ n ∧ i = .int .i64 j ∧ s = .string S ∧ Hid (S.size ≤ 17 * j) ∧ Hid (RdOk w b (1 + 3 * j) wr)) (fun _ i _ => n - (intOf i).toNat)
  case atStart => exact ⟨0, ⟨#[]⟩, Nat.zero_le _, rfl, rfl, Nat.zero_le _, R2⟩
  case round =>
    obtain ⟨j, S, hj, rfl, rfl, HS, HR⟩ := hrel
    have hS : S.size ≤ 200 := by have := HS.out; omega
    by_cases hlt : j < n
    · have HL := Lib.hid (l91Line_c w b (1 + 3 * j) wr HR.out (by omega))
      go_wp2_with fail
      refine HL.out.mono ?_
      rintro e w3 ⟨l, rfl, hl, r3, -⟩
      obtain ⟨T, TL, hT⟩ := IsStr.of l
      have hTs : T.size ≤ 16 := by rw [hT.size, ← hT.len]; exact hl
      have R3 := Lib.hid r3
      have HN : Hid ((S ++ T ++ ⟨#[10]⟩ : ByteArray).size ≤ 17 * (j + 1)) := by
        rw [ByteArray.size_append, ByteArray.size_append]
        have := HS.out
        show _ + 1 ≤ _
        omega
      rw [hT.val]
      clear r3 hT hl
      go_wp2
      go_roundw
      case rel => exact ⟨j + 1, S ++ T ++ ⟨#[10]⟩, by omega, by go_num, rfl, HN, R3⟩
      case measure => simp [intOf]; omega
    · obtain rfl : j = n := by omega
      have HP := Lib.hid (pick_c w b (1 + 3 * j) 24 wr HR.out (by omega) (by omega) (by omega))
      go_wp2_with fail
      refine HP.out.mono ?_
      rintro e w3 ⟨y, rfl, hy, r3, -⟩
      have X3 := Lib.hid r3.ext
      clear r3
      have hb : ∀ O : ByteArray, O.data.toList.length = O.size := fun O => by simp
      have HBB := Lib.hid hb
      clear hb
      by_cases y0 : y = 0
      · subst y0
        go_wp2
        go_ret
        exact ⟨_, congrArg Ending.returned (str_bytes _), by rw [HBB.out, ByteArray.size_append]; show _ + 4 ≤ _; omega, X3.out⟩
      · by_cases y1 : y = 1
        · subst y1
          go_wp2_with fail
          refine (l6Many_c w3).mono ?_
          rintro e w4 ⟨l, rfl, hl, rfl⟩
          obtain ⟨T, TL, hT⟩ := IsStr.of l
          have hTs : T.size ≤ 2000 := by rw [hT.size, ← hT.len]; exact hl
          rw [hT.val]
          clear hT hl
          go_wp2
          go_ret
          exact ⟨_, congrArg Ending.returned (str_bytes _), by rw [HBB.out, ByteArray.size_append]; omega, X3.out⟩
        · have t0 : ((y : Int) == 0) = false := beq_eq_false_iff_ne.2 (by omega)
          have t1 : ((y : Int) == 1) = false := beq_eq_false_iff_ne.2 (by omega)
          go_wp2
          go_ret
          exact ⟨_, congrArg Ending.returned (str_bytes _), by rw [HBB.out]; omega, X3.out⟩
end Go.Proofs.YtkmfmhckpfomeaaGreatDoor

/- The laws' helpers complete and lastLine. The condition: the text has at most 2^20 bytes. -/
namespace Go.Proofs.YtkmfmhckpfomeaaGreatDoor
open Go.RowKit
open BigFrame
attribute [local go_sem] Oper.semAt_some

set_option maxRecDepth 100000 in
set_option maxHeartbeats 1000000 in
theorem complete_c (l : List UInt8) (w : World) (hl : l.length ≤ 1048576) : Calls Tryz.prog 12 #[strV l] w fun e w' => ∃ s, e = .returned (strV s) ∧ Compl l s ∧ w' = w := by
  obtain ⟨S, L, hS⟩ := IsStr.of l
  have hL : L ≤ 1048576 := by rw [← hS.len]; exact hl
  have hsz := hS.size
  have HS := Lib.hid hS
  rw [hS.val]
  clear hl hS
  go_enter Tryz.func12, Tryz.ntmps12
  go_wp2
  go_loop [3] (fun i => ∃ j : Nat, j ≤ L ∧ i = .int .i64 j ∧ Hid ((10 : UInt8) ∉ l.drop j)) (fun i => (intOf i).toNat)
  case atStart => exact ⟨L, Nat.le_refl _, rfl, by show (10 : UInt8) ∉ l.drop L; rw [← HS.out.len, List.drop_length]; simp⟩
  case round =>
    obtain ⟨j, hj, rfl, HN⟩ := hrel
    by_cases h0 : j = 0
    · subst h0
      have HC : Hid (Compl l []) := ⟨.inl rfl, l, rfl, by have := HN.out; rwa [List.drop_zero] at this⟩
      go_wp2
      go_ret
      exact ⟨[], rfl, HC.out, rfl⟩
    · obtain ⟨k, rfl⟩ : ∃ k, j = k + 1 := ⟨j - 1, by omega⟩
      obtain ⟨x, b, e1, e2, hb, hidx⟩ := HS.out.byte (show k < L by omega)
      have hdrop : l.drop k = x :: l.drop (k + 1) := by
        rw [List.drop_eq_getElem_cons (by rw [HS.out.len]; omega)]
        congr 1
        rw [← e1, List.getD_eq_getElem?_getD, List.getElem?_eq_getElem (by rw [HS.out.len]; omega)]; rfl
      by_cases h10 : x = 10
      · have t1 : ((b : Int) == 10) = true := by rw [beq_iff_eq, ← e2, h10]; rfl
        have HC : Hid (Compl l (l.take (k + 1))) := ⟨.inr ⟨l.take k, by
          rw [List.take_succ_eq_append_getElem (by rw [HS.out.len]; omega)]
          congr 2
          rw [← h10, ← e1, List.getD_eq_getElem?_getD, List.getElem?_eq_getElem (by rw [HS.out.len]; omega)]; rfl⟩, l.drop (k + 1), (List.take_append_drop _ _).symm, HN.out⟩
        have hmid := (HS.out.mid 0 (k + 1)).eq
        rw [mid_take] at hmid
        obtain ⟨Z, hZ⟩ : ∃ Z, Z = S.extract 0 (k + 1) := ⟨_, rfl⟩
        have hext : S.extract 0 (k + 1) = Z := hZ.symm
        rw [← hZ] at hmid
        have HM := Lib.hid hmid
        clear e1 e2 h10 hdrop hmid hZ
        go_wp2
        go_ret
        exact ⟨_, congrArg Ending.returned (by rw [HM.out]; rfl), HC.out, rfl⟩
      · have t1 : ((b : Int) == 10) = false := by
          rw [beq_eq_false_iff_ne]
          intro e
          exact h10 (UInt8.toNat_inj.1 (by rw [e2]; show b = 10; omega))
        have HN2 : Hid ((10 : UInt8) ∉ l.drop k) := by
          show (10 : UInt8) ∉ l.drop k
          rw [hdrop]
          intro h
          rcases List.mem_cons.1 h with h | h
          · exact h10 h.symm
          · exact HN.out h
        clear e1 e2 h10 hdrop
        go_wp2
        go_round
        case rel => exact ⟨k, by omega, by go_num, HN2⟩
        case measure => simp [intOf]
set_option maxRecDepth 100000 in
set_option maxHeartbeats 1000000 in
theorem lastLine_c (X Y : List UInt8) (w : World) (hl : (X ++ (Y ++ [10])).length ≤ 1048576) (hX : Ended X) (hY : (10 : UInt8) ∉ Y) (hY0 : Y ≠ []) : Calls Tryz.prog 13 #[strV (X ++ (Y ++ [10]))] w fun e w' => e = .returned (strV (Y ++ [10])) ∧ w' = w := by
  obtain ⟨S, L, hS⟩ := IsStr.of (X ++ (Y ++ [10]))
  have hL : L ≤ 1048576 := by rw [← hS.len]; exact hl
  have hsz := hS.size
  have HS := Lib.hid hS
  obtain ⟨A, hA⟩ : ∃ A, A = X.length := ⟨_, rfl⟩
  obtain ⟨B, hB⟩ : ∃ B, B = Y.length := ⟨_, rfl⟩
  have hB0 : 1 ≤ B := by rw [hB]; exact List.length_pos_iff.2 hY0
  have hLAB : L = A + B + 1 := by
    rw [← hS.len, hA, hB, List.length_append, List.length_append]
    show _ + (_ + 1) = _
    omega
  have hby : ∀ j, A ≤ j → j < A + B → (X ++ (Y ++ [10])).getD j 0 ≠ 10 := fun j h1 h2 e => hY (by
    rw [List.getD_eq_getElem?_getD, List.getElem?_append_right (by omega), List.getElem?_append_left (by omega), List.getElem?_eq_getElem (by omega)] at e
    rw [← show _ = (10 : UInt8) from e]
    exact List.getElem_mem _)
  have hbA : 1 ≤ A → (X ++ (Y ++ [10])).getD (A - 1) 0 = 10 := fun h => by
    rcases hX with rfl | ⟨X', rfl⟩
    · rw [hA] at h; simp at h
    · have : A - 1 = X'.length := by rw [hA]; simp
      rw [this, List.append_assoc, List.getD_eq_getElem?_getD, List.getElem?_append_right (Nat.le_refl _), Nat.sub_self]; rfl
  have HBY := Lib.hid hby; have HBA := Lib.hid hbA
  have hend := (hS.mid A L).eq
  have hmm : mid (X ++ (Y ++ [10])) A L = Y ++ [10] := by
    unfold mid
    rw [hA, List.drop_left, ← hA, hLAB, show A + B + 1 - A = (Y ++ [10]).length by simp; omega, List.take_length]
  rw [hmm] at hend
  obtain ⟨Z, hZ⟩ : ∃ Z, Z = S.extract A L := ⟨_, rfl⟩
  have hext : S.extract A L = Z := hZ.symm
  rw [← hZ] at hend
  have HZ : Hid (.string Z = strV (Y ++ [10])) := by rw [hend]; rfl
  have HX0 : Hid (A = 0 → S = Z) := fun h => by
    rw [hS.eq, hend]
    rw [hA] at h
    rw [List.length_eq_zero_iff.1 h]; rfl
  rw [hS.val]
  have HLAB := Lib.hid hLAB
  have hABL : A + B < L := by omega
  clear hl hS hX hY hY0 hby hbA hend hmm hZ hA hB hLAB
  go_enter Tryz.func13, Tryz.ntmps13
  go_wp2
  go_loop [3] (fun i => ∃ j : Nat, A ≤ j ∧ j ≤ A + B ∧ i = .int .i64 ((j : Int) - 1)) (fun i => (intOf i + 1).toNat)
  case atStart => exact ⟨A + B, by omega, Nat.le_refl _, by have := HLAB.out; congr 1; omega⟩
  case round =>
    obtain ⟨j, hj1, hj2, rfl⟩ := hrel
    by_cases h0 : j = 0
    · subst h0
      have hA0 : A = 0 := by omega
      have HSZ := Lib.hid (HX0.out hA0)
      clear hA0 hj1
      rw [show (((0 : Nat) : Int) - 1) = -1 from rfl]
      go_wp2
      go_ret
      exact ⟨congrArg Ending.returned ((congrArg Value.string HSZ.out).trans HZ.out), rfl⟩
    · obtain ⟨k, rfl⟩ : ∃ k, j = k + 1 := ⟨j - 1, by omega⟩
      rw [show (((k + 1 : Nat) : Int) - 1) = (k : Int) from by omega]
      obtain ⟨x, b, e1, e2, hb, hidx⟩ := HS.out.byte (show k < L by omega)
      by_cases hk : A ≤ k
      · have h10 : x ≠ 10 := by rw [← e1]; exact HBY.out k hk (by omega)
        have t1 : ((b : Int) == 10) = false := by
          rw [beq_eq_false_iff_ne]
          intro e
          exact h10 (UInt8.toNat_inj.1 (by rw [e2]; show b = 10; omega))
        clear e1 e2 h10
        go_wp2
        go_round
        case rel => exact ⟨k, hk, by omega, by first | rfl | go_num | (congr 1; omega)⟩
        case measure => simp [intOf] <;> omega
      · have hkA : k = A - 1 := by omega
        have hA1 : k + 1 = A := by omega
        have t1 : ((b : Int) == 10) = true := by
          rw [beq_iff_eq, ← e2, ← e1, hkA, HBA.out (by omega)]; rfl
        have hext2 : S.extract (k + 1) L = Z := by rw [hA1]; exact hext
        clear e1 e2 hkA hA1
        go_wp2
        go_ret
        exact ⟨congrArg Ending.returned HZ.out, rfl⟩
end Go.Proofs.YtkmfmhckpfomeaaGreatDoor

/- The law FnExecuteWhat: unknown lines and wrong numbers change nothing. The condition: the world holds the library's two facts. -/
namespace Go.Proofs.YtkmfmhckpfomeaaGreatDoor
open Go.RowKit
open BigFrame
attribute [local go_sem] Oper.semAt_some

set_option maxRecDepth 100000 in
set_option maxHeartbeats 4000000 in
theorem FnExecuteWhat_walk (v : Value) (bs : List Int) (w : World) (hw : Wd w) (hv : Rb w v bs) : Calls Tryz.prog 5 #[v] w fun e w' => e = .returned (.bool true) ∧ Below w.heap.size w w' := by
  obtain ⟨a, c, rfl⟩ : ∃ a c, v = .slice a bs.length c := by obtain ⟨a, c, rfl, _⟩ := hv; exact ⟨a, c, rfl⟩
  by_cases hl : bs.length ≤ 1048576
  · have hd1 : decide ((1048576 : Int) < (bs.length : Int)) = false := decide_eq_false (by omega)
    have HD := Lib.hid (drawExecute_c _ bs w hv hl)
    have HI := Lib.hid (fun (l : List UInt8) (h : l.length ≤ 1048576) w' (hx : Ext w w') => executeI_c l w' (hw.ext hx) h)
    clear hv hw hl
    go_enter Tryz.func5, Tryz.ntmps5
    go_wp2_with fail
    refine HD.out.mono ?_
    rintro e w1 ⟨l, rfl, hl, x1⟩
    have X1 := Lib.hid x1
    have HL := Lib.hid hl
    obtain ⟨T, TL, hT⟩ := IsStr.of l
    have hTs := hT.size
    have hTl : TL ≤ 3000 := by rw [← hT.len]; exact hl
    have HT := Lib.hid hT
    have HI1 := Lib.hid (HI.out l (by omega) w1 x1)
    have HS1 := Lib.hid (fun w' => executeS_c l w' (by omega))
    obtain ⟨E, EL, hE⟩ := IsStr.of (execR l)
    have HE := Lib.hid hE
    rw [hT.val, hE.val] at HI1 HS1
    rw [hT.val]
    clear x1 hl hT hE
    go_wp2_with fail
    refine HI1.out.mono ?_
    rintro e w2 ⟨rfl, x2⟩
    have X2 := Lib.hid (X1.out.trans x2); clear x2
    go_wp2_with fail
    refine (HS1.out _).mono ?_
    rintro e w3 ⟨rfl, x3⟩
    have X3 := Lib.hid (X2.out.trans x3); clear x3
    have HC := Lib.hid (fun w' => complete_c l w' (by have := HL.out; omega))
    rw [HT.out.val] at HC
    go_wp2_with fail
    refine (HC.out _).mono ?_
    rintro e w4 ⟨s, rfl, hs, rfl⟩
    have hsl := compl_le hs
    obtain ⟨S, SL, hS⟩ := IsStr.of s
    have hSs := hS.size
    have hSl : SL ≤ 3000 := by rw [← hS.len]; have := HL.out; omega
    have HSS := Lib.hid hS
    have HF := Lib.hid hs.1
    rw [hS.val]
    clear hs hsl hS
    by_cases h6 : SL ≤ 589
    · have h66 : decide ((589 : Int) < (SL : Int)) = false := decide_eq_false (by omega)
      have HA := Lib.hid (HI.out s (by rw [HSS.out.len]; omega) w4 X3.out)
      obtain ⟨X, hXe⟩ : ∃ X, X = outR s := ⟨_, rfl⟩
      obtain ⟨Y, hYe⟩ : ∃ Y, Y = endR s := ⟨_, rfl⟩
      have hXl : X.length ≤ 500000 := by rw [hXe]; exact out_le (by rw [HSS.out.len]; omega)
      have hYl : Y.length ≤ 12 := by rw [hYe]; exact end_le s
      have hpa : execR s = X ++ (Y ++ [10]) := by rw [hXe, hYe]; exact exec_parts (by rw [HSS.out.len]; omega)
      obtain ⟨A, AL, hA⟩ := IsStr.of (X ++ (Y ++ [10]))
      obtain ⟨B, BL, hB⟩ := IsStr.of (Y ++ [10])
      rw [hpa, HSS.out.val, hA.val] at HA
      have HLL := Lib.hid (fun w' => lastLine_c X Y w' (by rw [List.length_append, List.length_append]; show _ + (_ + 1) ≤ _; omega) (by rw [hXe]; exact out_ended s) (by rw [hYe]; exact end_no s) (by rw [hYe]; unfold endR; simp [codeS]))
      rw [hA.val, hB.val] at HLL
      have hAs := hA.size
      have hBs := hB.size
      obtain ⟨XL, hXL⟩ : ∃ XL, XL = X.length := ⟨_, rfl⟩
      have hAB : AL = XL + BL := by rw [← hA.len, ← hB.len, hXL]; simp
      have hBl : BL ≤ 13 := by
        rw [← hB.len, List.length_append]
        show _ + 1 ≤ _
        omega
      have hALl : AL ≤ 500013 := by omega
      have e1 : (AL : Int) - (BL : Int) = (XL : Int) := by omega
      have hXA : XL ≤ AL := by omega
      have hp := (hA.mid 0 XL).eq
      rw [mid_take, hXL, List.take_left, ← hXL] at hp
      obtain ⟨P, hP⟩ : ∃ P, P = A.extract 0 XL := ⟨_, rfl⟩
      have hext : A.extract 0 XL = P := hP.symm
      rw [← hP] at hp
      have hPs : P.size ≤ 500000 := by
        rw [hp]
        show X.toArray.size ≤ _
        simp; omega
      have HQ := HI.out (s ++ ((zzzS ++ [10]) ++ (cxS ++ [10]))) (by rw [List.length_append, HSS.out.len]; show SL + 11 ≤ _; omega)
      rw [exec_what HF.out (by rw [HSS.out.len]; exact h6), ← hXe, ← hYe] at HQ
      obtain ⟨G, hG⟩ : ∃ G, G = P ++ ⟨#[119, 104, 97, 116, 10, 110, 111, 10]⟩ := ⟨_, rfl⟩
      have e2 : P ++ ⟨#[119, 104, 97, 116, 10, 110, 111, 10]⟩ = G := hG.symm
      have q1 := cat_eq (S := P) (l := X) hp (Z := ⟨#[119, 104, 97, 116, 10, 110, 111, 10]⟩) (r := (whatS ++ [10]) ++ (noS ++ [10])) rfl
      rw [← hG] at q1
      have hGs : G.size ≤ 500008 := by rw [hG, ByteArray.size_append]; show _ + 8 ≤ _; omega
      obtain ⟨K, hK⟩ : ∃ K, K = G ++ B := ⟨_, rfl⟩
      have e3 : G ++ B = K := hK.symm
      have q2 := cat_eq (S := G) (l := X ++ ((whatS ++ [10]) ++ (noS ++ [10]))) (Value.string.inj q1) (Z := B) (r := Y ++ [10]) hB.eq
      rw [← hK] at q2
      obtain ⟨N, hN⟩ : ∃ N, N = S ++ ⟨#[122, 122, 122, 10, 99, 111, 100, 101, 32, 120, 10]⟩ := ⟨_, rfl⟩
      have e4 : S ++ ⟨#[122, 122, 122, 10, 99, 111, 100, 101, 32, 120, 10]⟩ = N := hN.symm
      have q3 := cat_eq (S := S) (l := s) HSS.out.eq (Z := ⟨#[122, 122, 122, 10, 99, 111, 100, 101, 32, 120, 10]⟩) (r := (zzzS ++ [10]) ++ (cxS ++ [10])) rfl
      rw [← hN] at q3
      rw [← q2, ← q3] at HQ
      have HQQ := Lib.hid HQ
      clear HQ hXe hYe hXl hYl hpa hA hB hXL hAB hp hP hG q1 hK q2 hN q3 h6
      go_wp2_with fail
      refine HA.out.mono ?_
      rintro e w5 ⟨rfl, x5⟩
      have X5 := Lib.hid (X3.out.trans x5)
      have HX := Lib.hid (fun u => HQQ.out (clip w5 u) (X5.out.trans (clip_ext w5 u)))
      clear x5
      go_wp2
      refine wp_region_ext (by kernel_rfl) (by kernel_rfl) ?_
      repeat (go_big_quiet_step (first
        | (go_at_call 10; exact Calls.clip_of (HX.out _))
        | (go_at_call 13; exact Calls.clip_of ((HLL.out _).mono fun _ _ ⟨h1, h2⟩ => ⟨h1, h2 ▸ Ext.refl _⟩))))
      refine wpQuiet_nil ?_
      rintro _ ⟨u', rfl⟩
      go_wp2
      go_ret
      exact ⟨rfl, X5.out.trans (clip_ext _ _)⟩
    · have h66 : decide ((589 : Int) < (SL : Int)) = true := decide_eq_true (by omega)
      clear h6
      go_wp2
      go_ret
      exact ⟨rfl, X3.out⟩
  · have hd1 : decide ((1048576 : Int) < (bs.length : Int)) = true := decide_eq_true (by omega)
    clear hv hw
    go_enter Tryz.func5, Tryz.ntmps5
    go_wp2
    go_ret
    exact ⟨rfl, Ext.refl _⟩
end Go.Proofs.YtkmfmhckpfomeaaGreatDoor
