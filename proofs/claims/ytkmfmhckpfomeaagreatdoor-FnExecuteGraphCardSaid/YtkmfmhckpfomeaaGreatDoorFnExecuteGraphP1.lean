/- What the walks of this seat rest on, one part: plain facts, and contracts of the functions that they reach. Each states its own condition. -/
import Derived.Test.YtkmfmhckpfomeaaGreatDoorB30
import Derived.Test.YtkmfmhckpfomeaaGreatDoorB16
import Derived.Test.YtkmfmhckpfomeaaGreatDoorB6
import Derived.Test.YtkmfmhckpfomeaaGreatDoorB21
import Derived.Test.YtkmfmhckpfomeaaGreatDoorB5
import Derived.Test.YtkmfmhckpfomeaaGreatDoorB4
import Derived.Test.YtkmfmhckpfomeaaGreatDoorB31
import Derived.Test.YtkmfmhckpfomeaaGreatDoorB22
import Derived.Test.YtkmfmhckpfomeaaGreatDoorB29
set_option linter.all false
set_option linter.unusedSimpArgs false
set_option linter.unusedVariables false
/- Scripts, plain: complete scripts, lines put behind, the last line of an output. No program in sight. No condition. -/
namespace Go.Proofs.YtkmfmhckpfomeaaGreatDoor

theorem pieces_end (c : UInt8) (y : List UInt8) : ∀ x : List UInt8, pieces c (x ++ c :: y) = pieces c x ++ pieces c y
  | [] => by
    show pieces c (c :: y) = [[]] ++ pieces c y
    rw [pieces, if_pos rfl]; rfl
  | z :: x => by
    have ih := pieces_end c y x
    show pieces c (z :: (x ++ c :: y)) = pieces c (z :: x) ++ pieces c y
    have hne := pieces_ne c x
    by_cases h : z = c
    · rw [pieces, if_pos h, pieces, if_pos h, ih]; rfl
    · rw [pieces, if_neg h, pieces, if_neg h, ih]
      obtain ⟨p, r, e⟩ := List.exists_cons_of_ne_nil hne
      rw [e]; rfl
/-- A script that ends with a newline, or none. -/
def Ended (s : List UInt8) : Prop := s = [] ∨ ∃ a, s = a ++ [10]
/-- s is the text up to its last newline. -/
def Compl (l s : List UInt8) : Prop := Ended s ∧ ∃ r, l = s ++ r ∧ (10 : UInt8) ∉ r
theorem ended_lines {s : List UInt8} (h : Ended s) : ∃ ls, (pieces 10 s).dropLast = ls ∧ ∀ y, pieces 10 (s ++ y) = ls ++ pieces 10 y := by
  rcases h with rfl | ⟨a, rfl⟩
  · exact ⟨[], rfl, fun y => rfl⟩
  · refine ⟨pieces 10 a, ?_, fun y => ?_⟩
    · have := pieces_end 10 [] a
      rw [this]
      show (pieces 10 a ++ [[]]).dropLast = _
      rw [List.dropLast_concat]
    · rw [List.append_assoc]
      exact pieces_end 10 y a
theorem compl_lines {l s : List UInt8} (h : Compl l s) : (pieces 10 l).dropLast = (pieces 10 s).dropLast := by
  obtain ⟨hf, r, rfl, hr⟩ := h
  obtain ⟨ls, h1, h2⟩ := ended_lines hf
  rw [h2, pieces_free hr, List.dropLast_concat, h1]
theorem compl_le {l s : List UInt8} (h : Compl l s) : s.length ≤ l.length := by
  obtain ⟨_, r, rfl, _⟩ := h
  simp
theorem exec_compl {l s : List UInt8} (h : Compl l s) (hl : l.length ≤ 600) : execR s = execR l := by
  have hs := compl_le h
  unfold execR
  rw [if_pos hl, if_pos (by omega), compl_lines h]
/-- One line behind a full script. -/
theorem ended_one {s t : List UInt8} (h : Ended s) (ht : (10 : UInt8) ∉ t) : Ended (s ++ (t ++ [10])) ∧ (pieces 10 (s ++ (t ++ [10]))).dropLast = (pieces 10 s).dropLast ++ [t] := by
  obtain ⟨ls, h1, h2⟩ := ended_lines h
  refine ⟨.inr ⟨s ++ t, by simp⟩, ?_⟩
  rw [h2, pieces_cut [] ht, h1]
  show (ls ++ [t, []]).dropLast = _
  rw [show ls ++ [t, ([] : List UInt8)] = (ls ++ [t]) ++ [[]] from by simp, List.dropLast_concat]
/-- What comes ahead of the last line. -/
noncomputable def outR (s : List UInt8) : List UInt8 := (runR (pieces 10 s).dropLast).1
noncomputable def stR (s : List UInt8) : St := (runR (pieces 10 s).dropLast).2
noncomputable def endR (s : List UInt8) : List UInt8 := codeS ++ Lib.decDigits (stR s).2
theorem exec_parts {s : List UInt8} (h : s.length ≤ 600) : execR s = outR s ++ (endR s ++ [10]) := by
  unfold execR
  rw [if_pos h]; rfl
theorem out_one {s t : List UInt8} (h : Ended s) (ht : (10 : UInt8) ∉ t) : outR (s ++ (t ++ [10])) = outR s ++ ((lineR (stR s).1 (stR s).2 t).1 ++ [10]) ∧ stR (s ++ (t ++ [10])) = (lineR (stR s).1 (stR s).2 t).2 := by
  unfold outR stR
  rw [(ended_one h ht).2, runR_snoc]
  exact ⟨rfl, rfl⟩
theorem out_ended (s : List UInt8) : Ended (outR s) := by
  unfold outR
  generalize (pieces 10 s).dropLast = ls
  rcases List.eq_nil_or_concat ls with rfl | ⟨r, l, rfl⟩
  · exact .inl rfl
  · refine .inr ⟨(runR r).1 ++ (lineR (runR r).2.1 (runR r).2.2 l).1, ?_⟩
    rw [List.concat_eq_append, runR_snoc]
    show _ ++ (_ ++ [10]) = _
    rw [List.append_assoc]
theorem out_le {s : List UInt8} (h : s.length ≤ 600) : (outR s).length ≤ 500000 := by
  have h1 := (runR_fit (pieces 10 s).dropLast).2
  have h2 := pieces_le 10 s
  rw [List.length_dropLast] at h1
  unfold outR
  omega
theorem st_fit (s : List UInt8) : Fit (stR s).1 (stR s).2 := (runR_fit _).1
theorem dec_no : ∀ n : Nat, (10 : UInt8) ∉ Lib.decDigits n := by
  intro n
  induction n using Nat.strongRecOn with
  | _ n ih =>
    have dig : ∀ d : Nat, d < 10 → (10 : UInt8) ≠ UInt8.ofNat (48 + d) := by decide
    by_cases h : n < 10
    · rw [Lib.decDigits, dif_pos h]
      intro hm
      exact dig n h (List.mem_singleton.1 hm)
    · rw [Lib.decDigits, dif_neg h]
      intro hm
      rcases List.mem_append.1 hm with hm | hm
      · exact ih (n / 10) (by omega) hm
      · exact dig (n % 10) (by omega) (List.mem_singleton.1 hm)
theorem end_no (s : List UInt8) : (10 : UInt8) ∉ endR s := by
  intro h
  rcases List.mem_append.1 h with h | h
  · revert h; decide
  · exact dec_no _ h
theorem end_le (s : List UInt8) : (endR s).length ≤ 12 := by
  have h1 := (st_fit s).c_le
  have h2 := dec_len (stR s).2 (by omega)
  unfold endR
  rw [List.length_append]
  show 5 + _ ≤ _
  omega
/-! ### The lines of the laws -/
def zzzS : List UInt8 := [122, 122, 122]
def cxS : List UInt8 := [99, 111, 100, 101, 32, 120]
def showS : List UInt8 := [115, 104, 111, 119]
theorem line_zzz (g : List Int) (c : Nat) : lineR g c zzzS = (whatS, g, c) := by
  unfold lineR
  rw [cut_free (by decide)]
  dsimp only
  rw [if_pos (.inl (by decide))]
theorem line_cx (g : List Int) (c : Nat) : lineR g c cxS = (noS, g, c) := by
  have h := line_args (a := [99, 111, 100, 101]) (r := [120]) (by decide) (by decide) g c
  rw [show argsOf (manyN (cmdIx [99, 111, 100, 101])) [120] = none from by decide] at h
  exact h
theorem line_show (g : List Int) (c : Nat) : lineR g c showS = (saidB (natsOf g), g, c) := by
  unfold lineR
  rw [cut_free (by decide)]
  dsimp only
  rw [show cmdIx showS = 7 from by decide]
  rfl
theorem exec_nil : execR [] = [99, 111, 100, 101, 32, 48, 10] := by
  rw [exec_parts (by simp)]
  have h1 : outR [] = [] := rfl
  have h2 : stR [] = (kindGr 0 5, 0) := rfl
  unfold endR
  rw [h1, h2, Lib.decDigits, dif_pos (by decide)]
  rfl
/-- What. -/
theorem exec_what {s : List UInt8} (h : Ended s) (hs : s.length ≤ 589) : execR (s ++ ((zzzS ++ [10]) ++ (cxS ++ [10]))) = outR s ++ ((whatS ++ [10]) ++ (noS ++ [10])) ++ (endR s ++ [10]) := by
  have f1 := ended_one h (t := zzzS) (by decide)
  have o1 := out_one h (t := zzzS) (by decide)
  have o2 := out_one f1.1 (t := cxS) (by decide)
  rw [line_zzz] at o1
  rw [o1.2, line_cx, o1.1] at o2
  have e : s ++ ((zzzS ++ [10]) ++ (cxS ++ [10])) = (s ++ (zzzS ++ [10])) ++ (cxS ++ [10]) := by simp
  rw [e, exec_parts (by
    rw [List.length_append, List.length_append]
    show s.length + 4 + 7 ≤ 600
    omega), o2.1]
  unfold endR
  rw [o2.2]
  simp
theorem exec_show {s : List UInt8} (h : Ended s) (hs : s.length ≤ 590) : Ended (s ++ (showS ++ [10])) ∧ execR (s ++ (showS ++ [10])) = (outR s ++ (saidB (natsOf (stR s).1) ++ [10])) ++ (endR s ++ [10]) ∧
    execR (s ++ ((showS ++ [10]) ++ (showS ++ [10]))) = ((outR s ++ (saidB (natsOf (stR s).1) ++ [10])) ++ (saidB (natsOf (stR s).1) ++ [10])) ++ (endR s ++ [10]) := by
  have f1 := ended_one h (t := showS) (by decide)
  have o1 := out_one h (t := showS) (by decide)
  have o2 := out_one f1.1 (t := showS) (by decide)
  rw [line_show] at o1
  rw [o1.2, line_show, o1.1] at o2
  have hl : (s ++ (showS ++ [10])).length ≤ 595 := by
    rw [List.length_append]
    show s.length + 5 ≤ 595
    omega
  refine ⟨f1.1, ?_, ?_⟩
  · rw [exec_parts (by omega), o1.1]
    unfold endR
    rw [o1.2]
  · have e : s ++ ((showS ++ [10]) ++ (showS ++ [10])) = (s ++ (showS ++ [10])) ++ (showS ++ [10]) := by simp
    rw [e, exec_parts (by
      rw [List.length_append]
      show _ + 5 ≤ 600
      omega), o2.1]
    unfold endR
    rw [o2.2]
theorem show_le {s : List UInt8} : (saidB (natsOf (stR s).1)).length ≤ 96 := by
  have h1 := st_fit s
  have h2 := said_len (natsOf (stR s).1) (fun n hn => Nat.le_trans (natsOf_le h1.gr n hn) (by omega))
  rw [natsOf_length] at h2
  have := h1.gr.le
  omega
end Go.Proofs.YtkmfmhckpfomeaaGreatDoor

/- The scripts of the laws on graphs and on least codes, plain. No program in sight. No condition. -/
namespace Go.Proofs.YtkmfmhckpfomeaaGreatDoor

def smallD (n : Nat) : List UInt8 := if n < 10 then [UInt8.ofNat (48 + n)] else [UInt8.ofNat (48 + n / 10), UInt8.ofNat (48 + n % 10)]
theorem dec_small {n : Nat} (h : n < 100) : Lib.decDigits n = smallD n := by
  unfold smallD
  by_cases h1 : n < 10
  · rw [if_pos h1, Lib.decDigits, dif_pos h1]
  · rw [if_neg h1, Lib.decDigits, dif_neg h1, Lib.decDigits, dif_pos (by omega)]; rfl
theorem args_two : ∀ K, K < 4 → ∀ n, n < 13 → argsOf 2 (smallD K ++ 32 :: smallD n) = some [K, n] := by decide +kernel
theorem args_free : ∀ K, K < 4 → ∀ n, n < 13 → (10 : UInt8) ∉ ([103, 114, 97, 112, 104] ++ 32 :: (smallD K ++ 32 :: smallD n)) := by decide +kernel
def graphS (K n : Nat) : List UInt8 := [103, 114, 97, 112, 104] ++ 32 :: (Lib.decDigits K ++ 32 :: Lib.decDigits n)
theorem graph_free {K n : Nat} (hK : K < 4) (hn : n < 13) : (10 : UInt8) ∉ graphS K n := by
  unfold graphS
  rw [dec_small (by omega), dec_small (by omega)]
  exact args_free K hK n hn
theorem graph_len {K n : Nat} (hK : K < 4) (hn : n < 13) : (graphS K n).length ≤ 10 := by
  have h1 : (Lib.decDigits K).length ≤ 1 := by rw [Lib.decDigits_length]; exact nDigits_le 0 K (by omega)
  have h2 : (Lib.decDigits n).length ≤ 2 := by rw [Lib.decDigits_length]; exact nDigits_le 1 n (by omega)
  unfold graphS
  simp only [List.length_append, List.length_cons, List.length_nil]
  omega
theorem line_graph {K n : Nat} (h : kindOk K n = true) (g : List Int) (c : Nat) : lineR g c (graphS K n) = (okS, kindGr K n, 0) := by
  obtain ⟨K', N', e1, e2, hK, h1, hN, -⟩ := kindOk_iff.1 h
  have hK4 : K < 4 := by omega
  have hn : n < 13 := by omega
  unfold graphS
  have hl := line_args (a := [103, 114, 97, 112, 104]) (r := Lib.decDigits K ++ 32 :: Lib.decDigits n) (by decide) (by decide) g c
  rw [show manyN (cmdIx [103, 114, 97, 112, 104]) = 2 from by decide, show cmdIx [103, 114, 97, 112, 104] = 1 from by decide] at hl
  rw [dec_small (n := K) (by omega), dec_small (n := n) (by omega), args_two K hK4 n hn] at hl
  rw [dec_small (n := K) (by omega), dec_small (n := n) (by omega), hl]
  have hc : cmdR 1 g c K n = some (okS, kindGr K n, 0) := by
    show (if kindOk K n then some (okS, kindGr K n, 0) else none) = _
    rw [h]; rfl
  show (match cmdR 1 g c K n with | none => (noS, g, c) | some r => r) = _
  rw [hc]
theorem exec_graph {K n : Nat} (h : kindOk K n = true) : execR ((graphS K n ++ [10]) ++ (showS ++ [10])) = [111, 107, 10] ++ saidB (natsOf (kindGr K n)) ++ [10, 99, 111, 100, 101, 32, 48, 10] := by
  obtain ⟨K', N', e1, e2, hK, h1, hN, -⟩ := kindOk_iff.1 h
  have hK4 : K < 4 := by omega
  have hn : n < 13 := by omega
  have f1 := ended_one (s := []) (.inl rfl) (graph_free hK4 hn)
  have o1 := out_one (s := []) (.inl rfl) (graph_free hK4 hn)
  have o2 := out_one f1.1 (t := showS) (by decide)
  rw [line_graph h] at o1
  rw [o1.2, line_show, o1.1] at o2
  have hs : stR [] = (kindGr 0 5, 0) := rfl
  have ho : outR [] = [] := rfl
  rw [ho] at o2
  have e : (graphS K n ++ [10]) ++ (showS ++ [10]) = ([] ++ (graphS K n ++ [10])) ++ (showS ++ [10]) := by simp
  have hl := graph_len hK4 hn
  rw [e, exec_parts (by
    rw [List.length_append, List.nil_append, List.length_append]
    show (graphS K n).length + 1 + 5 ≤ 600
    omega), o2.1]
  unfold endR
  rw [o2.2]
  show (([] ++ (okS ++ [10])) ++ (saidB (natsOf (kindGr K n)) ++ [10])) ++ ((codeS ++ Lib.decDigits 0) ++ [10]) = _
  rw [Lib.decDigits, dif_pos (by decide)]
  simp [okS, codeS]
/-! ### Rings -/
theorem ring_full : ∀ n, n < 9 → kindN (kindGr 1 (n + 4)) 2 (2 ^ (n + 4) - 1) = true := by decide +kernel
theorem ring_least {n : Nat} (h4 : 4 ≤ n) (h12 : n ≤ 12) : ∃ d : Nat, codeLeast (kindGr 1 n) 2 = ((d : Int), true) ∧ d ≤ 4095 ∧ codeIn (kindGr 1 n) 2 d = true := by
  have hg : IsGraph (kindGr 1 n) := kind_isGraph (by omega) (by omega) h12
  have hl := kindGr_length 1 n
  have hf := ring_full (n - 4) (by omega)
  rw [show n - 4 + 4 = n from by omega] at hf
  have hp := Nat.two_pow_pos n
  obtain ⟨b, hb, hlt, hpb, -⟩ := lo_has (p := kindN (kindGr 1 n) 2) (k := 2 ^ n) (j := 2 ^ n - 1) (by omega) hf
  have h12' : 2 ^ n ≤ 2 ^ 12 := Nat.pow_le_pow_right (by omega) h12
  refine ⟨b, ?_, by omega, ?_⟩
  · unfold codeLeast
    rw [graphIn_iff.2 hg, hl, show ((2 : Int).toNat) = 2 from rfl, hb]; rfl
  · unfold codeIn
    rw [graphIn_iff.2 hg, setB_iff.2 ⟨b, rfl, by rw [hl]; exact hlt⟩]
    simp only [Bool.true_and, Int.toNat_natCast]
    rw [show ((2 : Int).toNat) = 2 from rfl, hpb]; rfl
def leastS : List UInt8 := [108, 101, 97, 115, 116, 32, 50]
def inS : List UInt8 := [105, 110, 32, 50]
theorem line_least {g : List Int} {c d : Nat} (h : codeLeast g 2 = ((d : Int), true)) : lineR g c leastS = (okS, g, d) := by
  have hl := line_args (a := [108, 101, 97, 115, 116]) (r := [50]) (by decide) (by decide) g c
  rw [show argsOf (manyN (cmdIx [108, 101, 97, 115, 116])) [50] = some [2] from by decide, show cmdIx [108, 101, 97, 115, 116] = 5 from by decide] at hl
  have hc : cmdR 5 g c 2 0 = some (okS, g, d) := by
    show setR (codeLeast g ((2 : Nat) : Int)) g = _
    rw [show ((2 : Nat) : Int) = 2 from rfl, h]; rfl
  refine Eq.trans hl ?_
  show (match cmdR 5 g c 2 0 with | none => (noS, g, c) | some r => r) = _
  rw [hc]
theorem line_in {g : List Int} {d : Nat} (h : codeIn g 2 d = true) : lineR g d inS = ([121, 101, 115], g, d) := by
  have hl := line_args (a := [105, 110]) (r := [50]) (by decide) (by decide) g d
  rw [show argsOf (manyN (cmdIx [105, 110])) [50] = some [2] from by decide, show cmdIx [105, 110] = 10 from by decide] at hl
  have hc : cmdR 10 g d 2 0 = some ([121, 101, 115], g, d) := by
    show some (yesS (codeIn g ((2 : Nat) : Int) d), g, d) = _
    rw [show ((2 : Nat) : Int) = 2 from rfl, h]; rfl
  refine Eq.trans hl ?_
  show (match cmdR 10 g d 2 0 with | none => (noS, g, d) | some r => r) = _
  rw [hc]
theorem exec_least {n d : Nat} (h4 : 4 ≤ n) (h12 : n ≤ 12) (h : codeLeast (kindGr 1 n) 2 = ((d : Int), true)) (hi : codeIn (kindGr 1 n) 2 d = true) :
    execR ((graphS 1 n ++ [10]) ++ ((leastS ++ [10]) ++ (inS ++ [10]))) = [111, 107, 10, 111, 107, 10, 121, 101, 115, 10, 99, 111, 100, 101, 32] ++ Lib.decDigits d ++ [10] := by
  have hk : kindOk (1 : Nat) n = true := kindOk_iff.2 ⟨1, n, rfl, rfl, by omega, by omega, h12, fun _ => by omega⟩
  have gf := graph_free (K := 1) (n := n) (by omega) (by omega)
  have f1 := ended_one (s := []) (.inl rfl) gf
  have o1 := out_one (s := []) (.inl rfl) gf
  have f2 := ended_one f1.1 (t := leastS) (by decide)
  have o2 := out_one f1.1 (t := leastS) (by decide)
  have o3 := out_one f2.1 (t := inS) (by decide)
  rw [line_graph hk] at o1
  rw [o1.2, line_least h, o1.1] at o2
  rw [o2.2, line_in hi, o2.1] at o3
  have ho : outR [] = [] := rfl
  rw [ho] at o3
  have hl := graph_len (K := 1) (n := n) (by omega) (by omega)
  have e : (graphS 1 n ++ [10]) ++ ((leastS ++ [10]) ++ (inS ++ [10])) = (([] ++ (graphS 1 n ++ [10])) ++ (leastS ++ [10])) ++ (inS ++ [10]) := by simp
  rw [e, exec_parts (by
    rw [List.length_append, List.length_append, List.nil_append, List.length_append]
    show (graphS 1 n).length + 1 + 8 + 5 ≤ 600
    omega), o3.1]
  unfold endR
  rw [o3.2]
  show (((([] ++ (okS ++ [10])) ++ (okS ++ [10])) ++ ([121, 101, 115] ++ [10]))) ++ ((codeS ++ Lib.decDigits d) ++ [10]) = _
  simp [okS, codeS]
end Go.Proofs.YtkmfmhckpfomeaaGreatDoor

/- The laws' helpers digits and spaced. The condition: natural numbers up to 2^20, at most 4096 of them. -/
namespace Go.Proofs.YtkmfmhckpfomeaaGreatDoor
open Go.RowKit
open BigFrame
attribute [local go_sem] Oper.semAt_some

set_option maxRecDepth 100000 in
set_option maxHeartbeats 1000000 in
theorem digits_c (n : Nat) : ∀ (w : World), n ≤ 1048576 →
    Calls Tryz.prog 19 #[.int .i64 n] w fun e w' => e = .returned (strV (Lib.decDigits n)) ∧ Ext w w' := by
  induction n using Nat.strongRecOn with
  | _ n ih =>
    intro w hn
    by_cases h10 : n < 10
    · rw [Lib.decDigits_one h10]
      obtain ⟨m, hm⟩ : ∃ m, m = 48 + n := ⟨_, rfl⟩
      rw [← hm]
      have e1 : (48 : Int) + (n : Int) = (m : Int) := by omega
      have e2 : IntKind.u8.wrap (m : Int) = (m : Int) := IntWalk.u8_in _ (by omega)
      have e4 : IntKind.i64.wrap (m : Int) = (m : Int) := wrap_i64_nat _ (by omega)
      have e3 := conv_one m w (w.alloc (.cells #[.int .u8 (m : Int)] 5)) (one_cell w _ _)
      have t3 : decide ((n : Int) < 10) = true := decide_eq_true (by omega)
      have e9 : max (0 : Int) (n : Int) = (n : Int) := by omega
      clear ih hn hm h10
      go_enter Tryz.func19, Tryz.ntmps19
      go_wp2
      go_ret
      exact ⟨rfl, (Ext.refl w).alloc _⟩
    · obtain ⟨q, hq⟩ : ∃ q, q = n / 10 := ⟨_, rfl⟩
      obtain ⟨r, hr⟩ : ∃ r, r = n % 10 := ⟨_, rfl⟩
      obtain ⟨m, hm⟩ : ∃ m, m = 48 + r := ⟨_, rfl⟩
      have IH := ih (n / 10) (by omega)
      rw [← hq] at IH
      have hE : Lib.decDigits n = Lib.decDigits q ++ [UInt8.ofNat m] := by rw [Lib.decDigits, dif_neg h10, hm, hr, hq]
      rw [hE]
      have hS := IsStr.of (Lib.decDigits q)
      obtain ⟨S, L, hS⟩ := hS
      rw [hS.val] at IH
      have HIH := Lib.hid (fun w => IH w (by omega))
      have hsz := hS.size
      have hL : L ≤ 7 := by rw [← hS.len]; exact dec_len q (by omega)
      have e5 : (n : Int).tdiv 10 = (q : Int) := by rw [hq]; rfl
      have e6 : (n : Int).tmod 10 = (r : Int) := by rw [hr]; rfl
      have e1 : (48 : Int) + (r : Int) = (m : Int) := by omega
      have e2 : IntKind.u8.wrap (m : Int) = (m : Int) := IntWalk.u8_in _ (by omega)
      have e4 : IntKind.i64.wrap (m : Int) = (m : Int) := wrap_i64_nat _ (by omega)
      have e7 : IntKind.i64.wrap (q : Int) = (q : Int) := wrap_i64_nat _ (by omega)
      have e8 : IntKind.i64.wrap (r : Int) = (r : Int) := wrap_i64_nat _ (by omega)
      have HS := Lib.hid hS
      have hcv := conv_one m
      obtain ⟨Z, hZ⟩ : ∃ Z : ByteArray, Z = ⟨#[UInt8.ofNat m]⟩ := ⟨_, rfl⟩
      rw [← hZ] at hcv
      have hZs : Z.size = 1 := by rw [hZ]; rfl
      have HZ := Lib.hid hZ; have HCV := Lib.hid hcv
      clear hZ hcv
      have e3 := fun w => HCV.out w (w.alloc (.cells #[.int .u8 (m : Int)] 5)) (one_cell w _ _)
      clear hq hr hm hE IH hS
      have t3 : decide ((n : Int) < 10) = false := decide_eq_false (by omega)
      have H10 := Lib.hid h10
      clear ih hn h10
      go_enter Tryz.func19, Tryz.ntmps19
      go_wp2
      have e10 := HCV.out w (w.alloc (.cells #[.int .u8 (m : Int)] 5)).drew (one_cell w _ _)
      clear t3 hsz
      have hsz : S.size ≤ 7 := by rw [HS.out.size]; exact hL
      clear hL
      go_region_with (go_at_call 19; refine (HIH.out _).mono ?_; rintro e w2 ⟨rfl, x2⟩; have X2 := Lib.hid x2; (first | (have e9 := HCV.out w w2 ((x2.cell (x := w.heap.size) (o := 0) (by simp)).trans (one_cell w.drew _ _))) | skip); clear x2)
      all_goals
        simp only [Act.put, Exit.inBlock, List.getElem_toArray, List.getElem_cons_succ, List.getElem_cons_zero, Array.getElem!_eq_getD, Array.getD_eq_getD_getElem?, List.getElem?_toArray, List.getElem?_cons_succ, List.getElem?_cons_zero, Option.getD_some]
        go_wp2
        go_ret
        refine ⟨congrArg Ending.returned (cat_eq HS.out.eq HZ.out), ?_⟩
        first
          | exact ((Ext.refl w).drew.trans X2.out).alloc _
          | exact ((Ext.refl w).alloc _).drew.trans X2.out
          | exact ((Ext.refl w).drew.alloc _).trans X2.out
set_option maxRecDepth 100000 in
set_option maxHeartbeats 1000000 in
theorem spaced_c (v : Value) (ns : List Nat) (w : World) (hv : Rd w v (intsOf ns)) (hns : ∀ n ∈ ns, n ≤ 1048576) (hl : ns.length ≤ 4096) :
    Calls Tryz.prog 23 #[v] w fun e w' => e = .returned (strV (saidB ns)) ∧ Ext w w' := by
  obtain ⟨a, c, rfl⟩ := hv.form
  have hlen : (intsOf ns).length = ns.length := List.length_map _
  rw [hlen] at hv ⊢
  have HV := Lib.hid hv
  have HNS := Lib.hid hns
  obtain ⟨L, hL⟩ : ∃ L, L = ns.length := ⟨_, rfl⟩
  rw [← hL] at hl HV ⊢
  have HL := Lib.hid hL
  have HLE := Lib.hid (fun j => said_le ns hns j (by rw [← hL]; exact hl))
  clear hv hns hlen hL
  go_enter Tryz.func23, Tryz.ntmps23
  go_wp2
  go_loopw [3, 4] (fun o i wr => ∃ (j : Nat) (S : ByteArray) (K : Nat), j ≤ L ∧ i = .int .i64 j ∧ o = .string S ∧ Hid (IsStr S (saidB (ns.take j)) K) ∧ Hid (K ≤ 32768) ∧ Ext w wr) (fun _ i _ => L - (intOf i).toNat)
  case atStart => exact ⟨0, ⟨#[]⟩, 0, Nat.zero_le _, rfl, rfl, ⟨rfl, rfl, rfl⟩, Nat.zero_le _, Ext.refl _⟩
  case round =>
    obtain ⟨j, S, K, hj, rfl, rfl, HS, HK, hx⟩ := hrel
    have HX := Lib.hid hx; clear hx
    by_cases hlt : j < L
    · have hlt' : j < ns.length := by rw [← HL.out]; exact hlt
      obtain ⟨n, hn⟩ : ∃ n, n = ns.getD j 0 := ⟨_, rfl⟩
      have hn20 : n ≤ 1048576 := by rw [hn, List.getD, List.getElem?_eq_getElem hlt']; exact HNS.out _ (List.getElem_mem hlt')
      obtain ⟨b, o, rfl, -, -, hc⟩ := HV.out.atI hlt
      have c0 := hc _ HX.out
      rw [show getI (intsOf ns) j = ((n : Nat) : Int) from by rw [hn]; exact intsOf_get] at c0
      obtain ⟨D, KD, hD⟩ := IsStr.of (Lib.decDigits n)
      have HC := digits_c n wr hn20
      rw [hD.val] at HC
      have HC' := Lib.hid HC
      have hDs : D.size ≤ 7 := by rw [hD.size, ← hD.len]; exact dec_len n hn20
      have hsz : S.size ≤ 32768 := by rw [HS.out.size]; exact HK.out
      have HT := Lib.hid (take_nat hlt')
      rw [← hn] at HT
      have HLN := HLE.out (j + 1)
      have HD := Lib.hid hD
      by_cases h0 : j = 0
      · have hs0 : saidB (ns.take (j + 1)) = saidB (ns.take j) ++ Lib.decDigits n := by
          rw [HT.out, h0]; simp [saidB, Lib.join_nil, Lib.join_one]
        have HN : Hid (strV (saidB (ns.take (j + 1))) = .string (S ++ D)) := by unfold Hid; rw [hs0]; exact (cat_eq HS.out.eq HD.out.eq).symm
        obtain ⟨S2, K2, hS2⟩ := IsStr.of (saidB (ns.take (j + 1)))
        have e2 : S ++ D = S2 := by have := HN.out; rw [hS2.val] at this; exact (Value.string.inj this).symm
        have HS2 := Lib.hid hS2
        have HK2 : Hid (K2 ≤ 32768) := by unfold Hid; rw [← hS2.len]; exact HLN
        clear hc HC hn hn20 hlt' hD hS2 HLN hs0
        subst h0
        simp only [Nat.add_zero] at c0
        go_wp2_with fail
        refine HC'.out.mono ?_
        rintro e w2 ⟨rfl, x2⟩
        have X2 := Lib.hid (HX.out.trans x2); clear x2
        go_wp2
        go_roundw
        case rel => exact ⟨0 + 1, S2, K2, by omega, by go_num, by first | rfl | rw [e2], HS2, HK2, X2.out⟩
        case measure => simp [intOf] <;> omega
      · have hs0 : saidB (ns.take (j + 1)) = (saidB (ns.take j) ++ [32]) ++ Lib.decDigits n := by
          rw [HT.out]; exact said_snoc (fun e => by have := congrArg List.length e; rw [List.length_take, List.length_nil] at this; omega) n
        obtain ⟨S1, hS1⟩ : ∃ S1, S1 = S ++ ⟨#[32]⟩ := ⟨_, rfl⟩
        have e1 : S ++ ⟨#[32]⟩ = S1 := hS1.symm
        have hq : Value.string S1 = strV (saidB (ns.take j) ++ [32]) := by rw [hS1]; exact cat_eq HS.out.eq rfl
        have hz1 : S1.size ≤ 32769 := by
          rw [hS1]; simp only [ByteArray.size_append]
          have : (⟨#[32]⟩ : ByteArray).size = 1 := rfl
          omega
        have HN : Hid (strV (saidB (ns.take (j + 1))) = .string (S1 ++ D)) := by unfold Hid; rw [hs0]; exact (cat_eq (Value.string.inj hq) HD.out.eq).symm
        obtain ⟨S2, K2, hS2⟩ := IsStr.of (saidB (ns.take (j + 1)))
        have e2 : S1 ++ D = S2 := by have := HN.out; rw [hS2.val] at this; exact (Value.string.inj this).symm
        have HS2 := Lib.hid hS2
        have HK2 : Hid (K2 ≤ 32768) := by unfold Hid; rw [← hS2.len]; exact HLN
        clear hc HC hn hn20 hlt' hD hS2 HLN hs0 hS1 hq
        go_wp2_with fail
        refine HC'.out.mono ?_
        rintro e w2 ⟨rfl, x2⟩
        have X2 := Lib.hid (HX.out.trans x2); clear x2
        go_wp2
        go_roundw
        case rel => exact ⟨j + 1, S2, K2, by omega, by go_num, by first | rfl | rw [e2], HS2, HK2, X2.out⟩
        case measure => simp [intOf] <;> omega
    · obtain rfl : j = L := by omega
      have hsz : S.size ≤ 32768 := by rw [HS.out.size]; exact HK.out
      have HE : Hid (ns.take j = ns) := by unfold Hid; rw [HL.out]; exact List.take_length
      rw [HE.out] at HS
      go_wp2
      go_ret
      exact ⟨congrArg Ending.returned HS.out.val.symm, HX.out⟩
end Go.Proofs.YtkmfmhckpfomeaaGreatDoor

/- The least identifying code of a ring, as both sides tell it, and the draws of the laws on graphs. The condition: the number is less than 14. -/
namespace Go.Proofs.YtkmfmhckpfomeaaGreatDoor
open Go.RowKit
open BigFrame
attribute [local go_sem] Oper.semAt_some

def ringN (n : Nat) : Int × Bool := if 4 ≤ n ∧ n ≤ 12 then (if n ≤ 5 then 3 else if n % 2 = 0 then ((n / 2 : Nat) : Int) else (((n + 3) / 2 : Nat) : Int), true) else (0, false)
set_option maxRecDepth 100000 in
set_option maxHeartbeats 2000000 in
theorem ringI_c (n : Nat) (hn : n < 14) (w : World) : Calls Tryz.prog 15 #[.int .i64 n] w fun e w' => e = .returned (pairV (ringN n)) ∧ w' = w := by
  have hcases : n = 0 ∨ n = 1 ∨ n = 2 ∨ n = 3 ∨ n = 4 ∨ n = 5 ∨ n = 6 ∨ n = 7 ∨ n = 8 ∨ n = 9 ∨ n = 10 ∨ n = 11 ∨ n = 12 ∨ n = 13 := by omega
  rcases hcases with rfl | rfl | rfl | rfl | rfl | rfl | rfl | rfl | rfl | rfl | rfl | rfl | rfl | rfl
  all_goals
    go_enter Tryz.func15, Tryz.ntmps15
    go_wp2_with (go_at_call 36; refine (in_c _ _ _ _).mono ?_; rintro e w' ⟨rfl, rfl⟩; simp only [inB])
    go_ret2
    exact ⟨rfl, rfl⟩
set_option maxRecDepth 100000 in
set_option maxHeartbeats 2000000 in
theorem ringS_c (n : Nat) (hn : n < 14) (w : World) : Calls Tryz.prog 16 #[.int .i64 n] w fun e w' => e = .returned (pairV (ringN n)) ∧ w' = w := by
  have hcases : n = 0 ∨ n = 1 ∨ n = 2 ∨ n = 3 ∨ n = 4 ∨ n = 5 ∨ n = 6 ∨ n = 7 ∨ n = 8 ∨ n = 9 ∨ n = 10 ∨ n = 11 ∨ n = 12 ∨ n = 13 := by omega
  rcases hcases with rfl | rfl | rfl | rfl | rfl | rfl | rfl | rfl | rfl | rfl | rfl | rfl | rfl | rfl
  all_goals
    go_enter Tryz.func16, Tryz.ntmps16
    go_wp2_with (go_at_call 37; refine (l6In_c _ _ _ _).mono ?_; rintro e w' ⟨rfl, rfl⟩; simp only [inB])
    go_ret2
    exact ⟨rfl, rfl⟩
set_option maxHeartbeats 1000000 in
theorem drawPathI_c (v : Value) (bs : List Int) (w : World) (hv : Rb w v bs) (hm : bs.length ≤ 1048576) :
    Calls Tryz.prog 35 #[v] w fun e w' => ∃ n : Nat, e = .returned (.int .i64 n) ∧ n < 14 ∧ Ext w w' := by
  obtain ⟨a, c, rfl⟩ : ∃ a c, v = .slice a bs.length c := by obtain ⟨a, c, rfl, _⟩ := hv; exact ⟨a, c, rfl⟩
  have HC := Lib.hid (l6Open_c _ bs w hv hm)
  clear hv
  go_enter Tryz.func35, Tryz.ntmps35
  go_wp2_with fail
  refine HC.out.mono ?_
  rintro e w1 ⟨rfl, h1, -⟩
  have R1 := Lib.hid h1; clear h1
  go_wp2_with fail
  refine (pick_c w w.heap.size _ 14 w1 R1.out (by omega) (by omega) (by omega)).mono ?_
  rintro e w2 ⟨n, rfl, hn, h2, -⟩
  have X2 := Lib.hid h2.ext; clear h2
  go_wp2
  go_ret
  exact ⟨n, rfl, hn, X2.out⟩
set_option maxHeartbeats 1000000 in
theorem drawRing_c (v : Value) (bs : List Int) (w : World) (hv : Rb w v bs) (hm : bs.length ≤ 1048576) :
    Calls Tryz.prog 14 #[v] w fun e w' => ∃ n : Nat, e = .returned (.int .i64 n) ∧ n < 14 ∧ Ext w w' := by
  obtain ⟨a, c, rfl⟩ : ∃ a c, v = .slice a bs.length c := by obtain ⟨a, c, rfl, _⟩ := hv; exact ⟨a, c, rfl⟩
  have HC := Lib.hid (drawPathI_c _ bs w hv hm)
  clear hv
  go_enter Tryz.func14, Tryz.ntmps14
  go_wp2_with fail
  refine HC.out.mono ?_
  rintro e w1 ⟨n, rfl, hn, x1⟩
  have X1 := Lib.hid x1; clear x1
  go_wp2
  go_ret
  exact ⟨n, rfl, hn, X1.out⟩
set_option maxHeartbeats 1000000 in
theorem drawKind_c (v : Value) (bs : List Int) (w : World) (hv : Rb w v bs) (hm : bs.length ≤ 1048576) :
    Calls Tryz.prog 20 #[v] w fun e w' => ∃ k n : Nat, e = .returned (.tuple #[.int .i64 k, .int .i64 n]) ∧ k < 5 ∧ n < 14 ∧ Ext w w' := by
  obtain ⟨a, c, rfl⟩ : ∃ a c, v = .slice a bs.length c := by obtain ⟨a, c, rfl, _⟩ := hv; exact ⟨a, c, rfl⟩
  have HC := Lib.hid (l6Open_c _ bs w hv hm)
  clear hv
  go_enter Tryz.func20, Tryz.ntmps20
  go_wp2_with fail
  refine HC.out.mono ?_
  rintro e w1 ⟨rfl, h1, -⟩
  have R1 := Lib.hid h1; clear h1
  go_wp2_with fail
  refine (pick_c w w.heap.size _ 5 w1 R1.out (by omega) (by omega) (by omega)).mono ?_
  rintro e w2 ⟨k, rfl, hk, h2, -⟩
  have R2 := Lib.hid h2; clear h2
  go_wp2_with fail
  refine (pick_c w w.heap.size _ 14 w2 R2.out (by omega) (by omega) (by omega)).mono ?_
  rintro e w3 ⟨n, rfl, hn, h3, -⟩
  have X3 := Lib.hid h3.ext; clear h3
  go_wp2
  go_ret2
  exact ⟨k, n, rfl, hk, hn, X3.out⟩
end Go.Proofs.YtkmfmhckpfomeaaGreatDoor

/- The laws' helper sameInts at two lists that are one. The condition: at most 2^20 numbers. -/
namespace Go.Proofs.YtkmfmhckpfomeaaGreatDoor
open Go.RowKit
open BigFrame
attribute [local go_sem] Oper.semAt_some

theorem sameL_c (v v' : Value) (xs : List Int) (w : World) (hv : Rd w v xs) (hv' : Rd w v' xs) (hx : xs.length ≤ 1048576) :
    Calls Tryz.prog 22 #[v, v'] w fun e w' => e = .returned (.bool true) ∧ Ext w w' := by
  obtain ⟨a, c, rfl⟩ := hv.form
  obtain ⟨a', c', rfl⟩ := hv'.form
  have HV := Lib.hid hv; clear hv
  have HV' := Lib.hid hv'; clear hv'
  go_enter Tryz.func22, Tryz.ntmps22
  go_wp2
  go_loopw [5] (fun i wr => ∃ k : Nat, k ≤ xs.length ∧ i = .int .i64 k ∧ Ext w wr) (fun i _ => xs.length - (intOf i).toNat)
  case atStart => exact ⟨0, Nat.zero_le _, rfl, Ext.refl _⟩
  case round =>
    obtain ⟨k, hk, rfl, hx⟩ := hrel
    have HX := Lib.hid hx; clear hx
    by_cases hlt : k < xs.length
    · obtain ⟨b, o, rfl, -, -, hc⟩ := HV.out.at hlt
      obtain ⟨b', o', rfl, -, -, hc'⟩ := HV'.out.at hlt
      have c1 := fun u => hc _ (HX.out.trans (clip_ext wr u))
      have c2 := fun u => hc' _ (HX.out.trans (clip_ext wr u))
      clear hc hc'
      go_wp2
      refine wp_region_ext (by kernel_rfl) (by kernel_rfl) ?_
      repeat (go_big_quiet_step (fail))
      refine wpQuiet_nil ?_
      rintro _ ⟨u, rfl⟩
      go_wp2
      go_roundw
      case rel => exact ⟨k + 1, by omega, by go_num, HX.out.trans (clip_ext _ _)⟩
      case measure => simp [intOf]; omega
    · go_wp2
      go_ret
      exact ⟨rfl, HX.out⟩
end Go.Proofs.YtkmfmhckpfomeaaGreatDoor

/- The law FnExecuteGraph: graphs are told. The condition: the world holds the library's two facts. -/
namespace Go.Proofs.YtkmfmhckpfomeaaGreatDoor
open Go.RowKit
open BigFrame
attribute [local go_sem] Oper.semAt_some

set_option maxRecDepth 100000 in
set_option maxHeartbeats 4000000 in
theorem FnExecuteGraph_walk (v : Value) (bs : List Int) (w : World) (hw : Wd w) (hv : Rb w v bs) : Calls Tryz.prog 7 #[v] w fun e w' => e = .returned (.bool true) ∧ Below w.heap.size w w' := by
  obtain ⟨a, c, rfl⟩ : ∃ a c, v = .slice a bs.length c := by obtain ⟨a, c, rfl, _⟩ := hv; exact ⟨a, c, rfl⟩
  by_cases hl : bs.length ≤ 1048576
  · have hd1 : decide ((1048576 : Int) < (bs.length : Int)) = false := decide_eq_false (by omega)
    have HI := Lib.hid (fun (l : List UInt8) (h : l.length ≤ 1048576) w' (hx : Ext w w') => executeI_c l w' (hw.ext hx) h)
    have HD := Lib.hid (drawKind_c _ bs w hv hl)
    clear hv hw hl
    go_enter Tryz.func7, Tryz.ntmps7
    go_wp2_with fail
    refine HD.out.mono ?_
    rintro e w1 ⟨k, n, rfl, hk5, hn14, x1⟩
    have X1 := Lib.hid x1; clear x1
    cases hk : kindOk k n
    · have HA := Lib.hid (graphKindJ_c k n w1)
      have HB := Lib.hid (fun w' => graphKindT_c k n w')
      rw [show graphKind k n = ([], false) from by unfold graphKind; rw [hk]; rfl] at HA HB
      simp only [listV] at HA HB
      clear hk
      go_wp2_with fail
      refine HA.out.mono ?_
      rintro e w2 ⟨v2, rfl, o2, x2⟩
      have X2 := Lib.hid (X1.out.trans x2); have O2 := Lib.hid o2; clear x2 o2
      go_wp2_with fail
      refine (HB.out _).mono ?_
      rintro e w3 ⟨v3, rfl, o3, x3⟩
      have X3 := Lib.hid (X2.out.trans x3)
      have HS := Lib.hid (fun w' (h : Ext w3 w') => sameL_c v2 v3 [] w' ((O2.out.rd.ext x3).ext h) (o3.rd.ext h) (by simp))
      clear x3 o3
      go_wp2_with fail
      refine (HS.out w3 (Ext.refl _)).mono ?_
      rintro e w4 ⟨rfl, x4⟩
      have X4 := Lib.hid x4; clear x4
      go_wp2_with fail
      refine (HS.out w4 X4.out).mono ?_
      rintro e w5 ⟨rfl, x5⟩
      have X5 := Lib.hid (X3.out.trans (X4.out.trans x5)); clear x5
      go_wp2
      go_ret
      exact ⟨rfl, X5.out⟩
    · have HA := Lib.hid (graphKindJ_c k n w1)
      have HB := Lib.hid (fun w' => graphKindT_c k n w')
      rw [show graphKind k n = (kindGr k n, true) from by unfold graphKind; rw [hk]; rfl] at HA HB
      simp only [listV] at HA HB
      obtain ⟨K', N', e1, e2, hK, hN1, hN, -⟩ := kindOk_iff.1 hk
      have hk4 : k < 4 := by omega
      have hn13 : n < 13 := by omega
      have hg : IsGraph (kindGr k n) := kind_isGraph hk4 (by omega) (by omega)
      have HG := Lib.hid hg
      obtain ⟨DK, DKL, hDK⟩ := IsStr.of (Lib.decDigits k)
      obtain ⟨DN, DNL, hDN⟩ := IsStr.of (Lib.decDigits n)
      have HDK := Lib.hid (fun w' => digits_c k w' (by omega))
      have HDN := Lib.hid (fun w' => digits_c n w' (by omega))
      rw [hDK.val] at HDK
      rw [hDN.val] at HDN
      have hDKs : DK.size ≤ 7 := by rw [hDK.size, ← hDK.len]; exact dec_len k (by omega)
      have hDNs : DN.size ≤ 7 := by rw [hDN.size, ← hDN.len]; exact dec_len n (by omega)
      have q1 := cat_eq (S := ⟨#[103, 114, 97, 112, 104, 32]⟩) (l := [103, 114, 97, 112, 104, 32]) rfl hDK.eq
      have q2 := cat_eq (S := ⟨#[103, 114, 97, 112, 104, 32]⟩ ++ DK) (Value.string.inj q1) (Z := ⟨#[32]⟩) (r := [32]) rfl
      have q3 := cat_eq (S := ⟨#[103, 114, 97, 112, 104, 32]⟩ ++ DK ++ ⟨#[32]⟩) (Value.string.inj q2) hDN.eq
      have q4 := cat_eq (S := ⟨#[103, 114, 97, 112, 104, 32]⟩ ++ DK ++ ⟨#[32]⟩ ++ DN) (Value.string.inj q3) (Z := ⟨#[10, 115, 104, 111, 119, 10]⟩) (r := [10, 115, 104, 111, 119, 10]) rfl
      have hsc : ((([103, 114, 97, 112, 104, 32] ++ Lib.decDigits k) ++ [32]) ++ Lib.decDigits n) ++ [10, 115, 104, 111, 119, 10] = (graphS k n ++ [10]) ++ (showS ++ [10]) := by unfold graphS showS; simp
      rw [hsc] at q4
      have HE := HI.out ((graphS k n ++ [10]) ++ (showS ++ [10])) (by
        have := graph_len hk4 hn13
        rw [List.length_append, List.length_append]
        show _ + 1 + 5 ≤ _
        omega)
      rw [exec_graph hk, ← q4] at HE
      obtain ⟨Z, ZL, hZ⟩ := IsStr.of (saidB (natsOf (kindGr k n)))
      have hZs : Z.size ≤ 96 := by
        have h2 := said_len (natsOf (kindGr k n)) (fun m hm => Nat.le_trans (natsOf_le hg m hm) (by omega))
        rw [natsOf_length] at h2
        have := hg.le
        rw [hZ.size, ← hZ.len]; omega
      have p1 := cat_eq (S := ⟨#[111, 107, 10]⟩) (l := [111, 107, 10]) rfl hZ.eq
      have p2 := cat_eq (S := ⟨#[111, 107, 10]⟩ ++ Z) (Value.string.inj p1) (Z := ⟨#[10, 99, 111, 100, 101, 32, 48, 10]⟩) (r := [10, 99, 111, 100, 101, 32, 48, 10]) rfl
      rw [← p2] at HE
      have HEE := Lib.hid HE
      have HSP := Lib.hid (fun v w' (h : Rd w' v (kindGr k n)) => spaced_c v (natsOf (kindGr k n)) w' (by show Rd w' v (ofN (natsOf (kindGr k n))); rw [ofN_nats hg]; exact h) (fun m hm => Nat.le_trans (natsOf_le hg m hm) (by omega)) (by rw [natsOf_length]; have := hg.le; omega))
      rw [hZ.val] at HSP
      clear hk hK hN1 hN e1 e2 hg hDK hDN q1 q2 q3 q4 hsc HE hZ p1 p2 hk4 hn13
      go_wp2_with fail
      refine HA.out.mono ?_
      rintro e w2 ⟨v2, rfl, o2, x2⟩
      have X2 := Lib.hid (X1.out.trans x2); have O2 := Lib.hid o2; clear x2 o2
      go_wp2_with fail
      refine (HB.out _).mono ?_
      rintro e w3 ⟨v3, rfl, o3, x3⟩
      have X3 := Lib.hid (X2.out.trans x3)
      have HS := Lib.hid (sameL_c v2 v3 (kindGr k n) w3 (O2.out.rd.ext x3) o3.rd (by have := HG.out.le; omega))
      have R3 := Lib.hid (O2.out.rd.ext x3)
      clear x3 o3
      go_wp2_with fail
      refine HS.out.mono ?_
      rintro e w4 ⟨rfl, x4⟩
      have X4 := Lib.hid (X3.out.trans x4); have R4 := Lib.hid (R3.out.ext x4); clear x4
      go_wp2_with fail
      refine (HDK.out _).mono ?_
      rintro e w5 ⟨rfl, x5⟩
      have X5 := Lib.hid (X4.out.trans x5); have R5 := Lib.hid (R4.out.ext x5); clear x5
      go_wp2_with fail
      refine (HDN.out _).mono ?_
      rintro e w6 ⟨rfl, x6⟩
      have X6 := Lib.hid (X5.out.trans x6); have R6 := Lib.hid (R5.out.ext x6); clear x6
      go_wp2_with fail
      refine (HEE.out _ X6.out).mono ?_
      rintro e w7 ⟨rfl, x7⟩
      have X7 := Lib.hid (X6.out.trans x7); have R7 := Lib.hid (R6.out.ext x7); clear x7
      go_wp2_with fail
      refine (HSP.out _ _ R7.out).mono ?_
      rintro e w8 ⟨rfl, x8⟩
      have X8 := Lib.hid (X7.out.trans x8); clear x8
      go_wp2
      go_ret
      exact ⟨rfl, X8.out⟩
  · have hd1 : decide ((1048576 : Int) < (bs.length : Int)) = true := decide_eq_true (by omega)
    clear hv hw
    go_enter Tryz.func7, Tryz.ntmps7
    go_wp2
    go_ret
    exact ⟨rfl, Ext.refl _⟩
end Go.Proofs.YtkmfmhckpfomeaaGreatDoor
