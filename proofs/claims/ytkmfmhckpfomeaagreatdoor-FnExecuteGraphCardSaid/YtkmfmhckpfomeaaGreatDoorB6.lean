/- What the walks of this seat rest on, one part: plain facts, and contracts of the functions that they reach. Each states its own condition. -/
import Derived.Test.YtkmfmhckpfomeaaGreatDoorB3
import Derived.Test.YtkmfmhckpfomeaaGreatDoorB5
import Derived.Deep.RegionLaw
import Derived.Laws.BytesArg
import Derived.Lib.Join
import Derived.Test.YtkmfmhckpfomeaaGreatDoorB1
set_option linter.all false
set_option linter.unusedSimpArgs false
set_option linter.unusedVariables false
/- A number as text: the reference's l6Dec is the library's Itoa on natural numbers. The condition: at most 2^20. -/
namespace Go.Proofs.YtkmfmhckpfomeaaGreatDoor
open Go.RowKit
open BigFrame
attribute [local go_sem] Oper.semAt_some

theorem conv_one (m : Nat) (w W : World) (hc : W.cell? ⟨w.heap.size, 0, none⟩ = some (.int .u8 (m : Int))) : (convert 22 9 (.slice (some ⟨w.heap.size, 0, none⟩) 1 1)).run Tryz.prog W = .ok (.string ⟨#[UInt8.ofNat m]⟩) W := by
  have h := run_convert_bytes_arg (P := Tryz.prog) W 22 5 Tryz.underlying22 Tryz.underlying5 w.heap.size 0 1 1 [(m : Int)] rfl (fun i hi => by
    obtain rfl : i = 0 := by omega
    exact hc) 9 Tryz.underlying9
  rw [h]
  simp [strOfNums]
theorem nDigits_le : ∀ (k n : Nat), n < 10 ^ (k + 1) → Lib.nDigits n ≤ k + 1
  | 0, n, h => by rw [Lib.nDigits_small (by simpa using h)]; omega
  | k + 1, n, h => by
    by_cases h1 : n < 10
    · rw [Lib.nDigits_small h1]; omega
    · rw [Lib.nDigits_big h1]
      have := nDigits_le k (n / 10) (by rw [Nat.pow_succ] at h; omega)
      omega
theorem dec_len (n : Nat) (h : n ≤ 1048576) : (Lib.decDigits n).length ≤ 7 := by
  rw [Lib.decDigits_length]
  exact nDigits_le 6 n (Nat.lt_of_le_of_lt h (by decide))
theorem cat_eq {S Z : ByteArray} {l r : List UInt8} (h : S = ⟨l.toArray⟩) (k : Z = ⟨r.toArray⟩) : Value.string (S ++ Z) = strV (l ++ r) := by
  unfold strV
  subst h; subst k
  congr 1
set_option maxRecDepth 100000 in
set_option maxHeartbeats 1000000 in
theorem l6Dec_c (n : Nat) : ∀ (w : World), n ≤ 1048576 →
    Calls Tryz.prog 34 #[.int .i64 n] w fun e w' => e = .returned (strV (Lib.decDigits n)) ∧ Ext w w' := by
  induction n using Nat.strongRecOn with
  | _ n ih =>
    intro w hn
    by_cases h10 : n < 10
    · rw [Lib.decDigits_one h10]
      obtain ⟨m, hm⟩ : ∃ m, m = 48 + n := ⟨_, rfl⟩
      rw [← hm]
      have e1 : (48 : Int) + (n : Int) = (m : Int) := by omega
      have e2 : IntKind.u8.wrap (m : Int) = (m : Int) := IntWalk.u8_in _ (by omega)
      have e4 : IntKind.i64.wrap (m : Int) = (m : Int) := wrap_i64_nat _ (by omega)
      have e3 := conv_one m w (w.alloc (.cells #[.int .u8 (m : Int)] 5)) (one_cell w _ _)
      have t1 : decide ((n : Int) < -9223372036854775807) = false := decide_eq_false (by omega)
      have t2 : decide ((n : Int) < 0) = false := decide_eq_false (by omega)
      have t3 : decide ((n : Int) < 10) = true := decide_eq_true (by omega)
      clear ih hn hm h10
      go_enter Tryz.func34, Tryz.ntmps34
      go_wp2
      go_ret
      exact ⟨rfl, (Ext.refl w).alloc _⟩
    · obtain ⟨q, hq⟩ : ∃ q, q = n / 10 := ⟨_, rfl⟩
      obtain ⟨r, hr⟩ : ∃ r, r = n % 10 := ⟨_, rfl⟩
      obtain ⟨m, hm⟩ : ∃ m, m = 48 + r := ⟨_, rfl⟩
      have IH := ih (n / 10) (by omega)
      rw [← hq] at IH
      have hE : Lib.decDigits n = Lib.decDigits q ++ [UInt8.ofNat m] := by rw [Lib.decDigits, dif_neg h10, hm, hr, hq]
      rw [hE]
      have hS := IsStr.of (Lib.decDigits q)
      obtain ⟨S, L, hS⟩ := hS
      rw [hS.val] at IH
      have HIH := Lib.hid (fun w => IH w (by omega))
      have hsz := hS.size
      have hL : L ≤ 7 := by rw [← hS.len]; exact dec_len q (by omega)
      have e5 : (n : Int).tdiv 10 = (q : Int) := by rw [hq]; rfl
      have e6 : (n : Int).tmod 10 = (r : Int) := by rw [hr]; rfl
      have e1 : (48 : Int) + (r : Int) = (m : Int) := by omega
      have e2 : IntKind.u8.wrap (m : Int) = (m : Int) := IntWalk.u8_in _ (by omega)
      have e4 : IntKind.i64.wrap (m : Int) = (m : Int) := wrap_i64_nat _ (by omega)
      have e7 : IntKind.i64.wrap (q : Int) = (q : Int) := wrap_i64_nat _ (by omega)
      have e8 : IntKind.i64.wrap (r : Int) = (r : Int) := wrap_i64_nat _ (by omega)
      have HS := Lib.hid hS
      have hcv := conv_one m
      obtain ⟨Z, hZ⟩ : ∃ Z : ByteArray, Z = ⟨#[UInt8.ofNat m]⟩ := ⟨_, rfl⟩
      rw [← hZ] at hcv
      have hZs : Z.size = 1 := by rw [hZ]; rfl
      have HZ := Lib.hid hZ; have HCV := Lib.hid hcv
      clear hZ hcv
      have e3 := fun w => HCV.out w (w.alloc (.cells #[.int .u8 (m : Int)] 5)) (one_cell w _ _)
      clear hq hr hm hE IH hS
      have t1 : decide ((n : Int) < -9223372036854775807) = false := decide_eq_false (by omega)
      have t2 : decide ((n : Int) < 0) = false := decide_eq_false (by omega)
      have t3 : decide ((n : Int) < 10) = false := decide_eq_false (by omega)
      have H10 := Lib.hid h10
      clear ih hn h10
      go_enter Tryz.func34, Tryz.ntmps34
      go_wp2
      have e10 := HCV.out w (w.alloc (.cells #[.int .u8 (m : Int)] 5)).drew (one_cell w _ _)
      clear t1 t2 t3 hsz
      have hsz : S.size ≤ 7 := by rw [HS.out.size]; exact hL
      clear hL
      go_region_with (go_at_call 34; refine (HIH.out _).mono ?_; rintro e w2 ⟨rfl, x2⟩; have X2 := Lib.hid x2; (first | (have e9 := HCV.out w w2 ((x2.cell (x := w.heap.size) (o := 0) (by simp)).trans (one_cell w.drew _ _))) | skip); clear x2)
      all_goals
        simp only [Act.put, Exit.inBlock, List.getElem_toArray, List.getElem_cons_succ, List.getElem_cons_zero, Array.getElem!_eq_getD, Array.getD_eq_getD_getElem?, List.getElem?_toArray, List.getElem?_cons_succ, List.getElem?_cons_zero, Option.getD_some]
        go_wp2
        go_ret
        refine ⟨congrArg Ending.returned (cat_eq HS.out.eq HZ.out), ?_⟩
        first
          | exact ((Ext.refl w).drew.trans X2.out).alloc _
          | exact ((Ext.refl w).alloc _).drew.trans X2.out
          | exact ((Ext.refl w).drew.alloc _).trans X2.out
end Go.Proofs.YtkmfmhckpfomeaaGreatDoor

/- Numbers read from text: the program's readNumbers. The condition: the text has at most 2^20 bytes. -/
namespace Go.Proofs.YtkmfmhckpfomeaaGreatDoor
open Go.RowKit
open BigFrame
attribute [local go_sem] Oper.semAt_some

def nums : List (List UInt8) → Option (List Nat)
  | [] => some []
  | l :: r => match number? l with | none => none | some n => (nums r).map (n :: ·)
def intsOf (ns : List Nat) : List Int := ns.map Int.ofNat
theorem nums_next {ps : List (List UInt8)} {done : List Nat} {k : Nat} (hk : k < ps.length) (h : nums ps = (nums (ps.drop k)).map (done ++ ·)) :
    nums ps = match number? (ps.getD k []) with | none => none | some n => (nums (ps.drop (k + 1))).map ((done ++ [n]) ++ ·) := by
  rw [h, List.drop_eq_getElem_cons hk, nums]
  rw [show ps.getD k [] = ps[k] from by simp [List.getD, List.getElem?_eq_getElem hk]]
  cases number? ps[k] with
  | none => rfl
  | some n =>
    show Option.map _ (Option.map _ _) = _
    rw [Option.map_map]
    congr 1
    funext x
    simp
theorem nums_end {ps : List (List UInt8)} {done : List Nat} {k : Nat} (hk : ps.length ≤ k) (h : nums ps = (nums (ps.drop k)).map (done ++ ·)) : nums ps = some done := by
  rw [h, List.drop_eq_nil_of_le hk]
  simp [nums]
theorem pieces_le (c : UInt8) : ∀ l : List UInt8, (pieces c l).length ≤ l.length + 1
  | [] => by simp [pieces]
  | x :: r => by
    have ih := pieces_le c r
    unfold pieces
    split
    · simp; omega
    · simp; omega
theorem piece_le {c : UInt8} : ∀ {l p : List UInt8}, p ∈ pieces c l → p.length ≤ l.length
  | [], p, h => by simp [pieces] at h; subst h; simp
  | x :: r, p, h => by
    unfold pieces at h
    split at h
    · rcases List.mem_cons.1 h with rfl | h
      · simp
      · have := piece_le h; simp; omega
    · rcases List.mem_cons.1 h with rfl | h
      · have hne := pieces_ne c r
        obtain ⟨q, qs, e⟩ := List.exists_cons_of_ne_nil hne
        have := piece_le (c := c) (l := r) (p := q) (by rw [e]; exact List.mem_cons_self)
        rw [e]; simp; omega
      · have := piece_le (List.mem_of_mem_tail h); simp; omega
/-- The numbers of a rest, if it is so many. -/
def argsOf (many : Nat) (l : List UInt8) : Option (List Nat) := if (pieces 32 l).length = many then nums (pieces 32 l) else none
def numsV (v : Value) (o : Option (List Nat)) (w : World) (base : Nat) : Prop := match o with
  | none => v = .tuple #[.slice none 0 0, .bool false]
  | some ns => ∃ u, v = .tuple #[u, .bool true] ∧ Own w base u (intsOf ns)

set_option maxHeartbeats 2000000 in
theorem readNumbers_c (l : List UInt8) (many : Nat) (w : World) (hw : Wd w) (hl : l.length ≤ 1048576) (hm : many ≤ 2) :
    Calls Tryz.prog 52 #[strV l, .int .i64 many] w fun e w' => ∃ v, e = .returned v ∧ numsV v (argsOf many l) w' w.heap.size ∧ Ext w w' := by
  have HC := Lib.hid (splitT_c 32 l w hw hl)
  have hps : ∀ i, i < (pieces 32 l).length → ((pieces 32 l).getD i []).length ≤ 1048576 := fun i hi => by
    have : (pieces 32 l).getD i [] ∈ pieces 32 l := by rw [List.getD, List.getElem?_eq_getElem hi]; exact List.getElem_mem hi
    exact Nat.le_trans (piece_le this) hl
  have hM := pieces_le 32 l
  obtain ⟨ps, hp⟩ : ∃ ps, ps = pieces 32 l := ⟨_, rfl⟩
  obtain ⟨M, hML⟩ : ∃ M, M = ps.length := ⟨_, rfl⟩
  have HA : Hid (argsOf many l = if M = many then nums ps else none) := by unfold argsOf Hid; rw [hML, hp]
  rw [HA.out]
  rw [← hp] at HC hps hM
  have hM2 : M ≤ 1048577 := by rw [hML]; omega
  rw [← hML] at hps
  have HPS := Lib.hid hps; have HL := Lib.hid hML
  obtain ⟨S, L, hS⟩ := IsStr.of l
  rw [hS.val] at HC ⊢
  clear HA hp hM hps hw hl hS hML
  by_cases hmm : M = many
  · subst hmm
    rw [if_pos rfl]
    go_enter Tryz.func52, Tryz.ntmps52
    go_wp2_with fail
    refine HC.out.mono ?_
    rintro e w1 ⟨v, rfl, ⟨b, c, rfl, hb, hc, hcell⟩, x1⟩
    rw [← HL.out] at hc hcell ⊢
    have HCELL := Lib.hid hcell; have X1 := Lib.hid x1
    clear hcell x1 HC
    go_wp2
    go_loopw [7, 20] (fun o q wr => ∃ (k : Nat) (done : List Nat), k ≤ M ∧ q = .int .i64 k ∧ done.length = k ∧ Hid (nums ps = (nums (ps.drop k)).map (done ++ ·)) ∧ Own wr w1.heap.size o (intsOf done) ∧ Ext w1 wr) (fun _ q _ => M - (intOf q).toNat)
    case atStart => exact ⟨0, [], Nat.zero_le _, rfl, rfl, by unfold Hid; simp, Own.nil _ _, Ext.refl _⟩
    case round =>
      obtain ⟨k, done, hk, rfl, hdl, HN, ho, hx⟩ := hrel
      have HO := Lib.hid ho; have HX := Lib.hid hx
      clear ho hx
      by_cases hlt : k < M
      · have HNX := Lib.hid (nums_next (by rw [← HL.out]; exact hlt) HN.out)
        have hpl := HPS.out k hlt
        have c0 := (HX.out.cell hb).trans (HCELL.out k hlt)
        obtain ⟨p, hp⟩ : ∃ p, p = ps.getD k [] := ⟨_, rfl⟩
        rw [← hp] at HNX c0 hpl
        obtain ⟨Z, K, hZ⟩ := IsStr.of p
        rw [hZ.val] at c0
        have hsz := hZ.size
        have HK := Lib.hid hZ.len; have HZ := Lib.hid hZ
        rw [hZ.len] at hpl
        clear hp hZ
        by_cases h4 : 1 ≤ K ∧ K ≤ 4
        · obtain ⟨h1, h4⟩ := h4
          have hin : inB 1 (K : Int) 4 = true := inB_iff.2 (by omega)
          have HF : Hid ((decide (1 ≤ p.length) && decide (p.length ≤ 4)) = true) := by unfold Hid; rw [HK.out, decide_eq_true h1, decide_eq_true h4]; rfl
          go_wp2_with (go_at_call 36; refine (in_c _ _ _ _).mono ?_; rintro e w' ⟨rfl, rfl⟩)
          go_loop [10, 30] (fun n i => ∃ j d : Nat, j ≤ K ∧ i = .int .i64 j ∧ n = .int .i64 d ∧ d ≤ 9999 ∧ Hid (d = numTo (p.take j)) ∧ Hid ((p.take j).all digB = true)) (fun _ i => K - (intOf i).toNat)
          case atStart => exact ⟨0, 0, Nat.zero_le _, rfl, rfl, by omega, rfl, rfl⟩
          case round =>
            obtain ⟨j, d, hj, rfl, rfl, hd, HNJ, HD⟩ := hrel
            by_cases hltj : j < K
            · obtain ⟨x, bb, hx, hbb, hb5, hidx⟩ := HZ.out.byte hltj
              have hlt' : j < p.length := by rw [HK.out]; exact hltj
              have e1 := Lib.hid (numTo_next hlt'); have e2 := Lib.hid (dig_next hlt')
              rw [hx, hbb, ← HNJ.out] at e1
              rw [hx, HD.out, Bool.true_and] at e2
              have HB : Hid (digB x = (decide (48 ≤ bb) && decide (bb ≤ 57))) := by unfold Hid digB; rw [hbb]
              have HXX := Lib.hid hx
              have HZN : Hid (digB x = false → nums ps = none) := fun h2 => by
                have h3 : p.all digB = false := dig_stop (j := j) (by rw [HK.out]; exact hltj) (by rw [HXX.out]; exact h2)
                have h5 : number? p = none := by unfold number?; rw [h3, Bool.and_false]; rfl
                rw [HNX.out, h5]
              clear hx hbb hlt'
              by_cases h48 : bb < 48
              · have HE := Lib.hid (HZN.out (by rw [HB.out, decide_eq_false (by omega)]; rfl))
                go_wp2
                go_ret2
                exact ⟨_, rfl, by rw [HE.out]; rfl, X1.out.trans HX.out⟩
              · by_cases h57 : 57 < bb
                · have HE := Lib.hid (HZN.out (by rw [HB.out, decide_eq_false (by omega : ¬ bb ≤ 57), Bool.and_false]))
                  go_wp2
                  go_ret2
                  exact ⟨_, rfl, by rw [HE.out]; rfl, X1.out.trans HX.out⟩
                · have h2 : digB x = true := by rw [HB.out, decide_eq_true (by omega), decide_eq_true (by omega)]; rfl
                  have HD' : Hid ((p.take (j + 1)).all digB = true) := e2.out.trans h2
                  obtain ⟨d', hd'⟩ : ∃ d', d' = 10 * d + (bb - 48) := ⟨_, rfl⟩
                  have HN' : Hid (d' = numTo (p.take (j + 1))) := by unfold Hid; rw [hd', e1.out]
                  have hlim : d' ≤ 9999 := by
                    have h3 := numTo_lt (l := p) (j := j + 1) (by rw [HK.out]; exact hltj) HD'.out
                    have h5 : 10 ^ (j + 1) ≤ 10 ^ 4 := Nat.pow_le_pow_right (by omega) (by omega)
                    rw [← HN'.out] at h3
                    have h6 : 10 ^ 4 = 10000 := by decide
                    omega
                  clear h2
                  go_wp2
                  go_round
                  case rel => exact ⟨j + 1, d', by omega, by go_num, by go_num, hlim, HN', HD'⟩
                  case measure => simp [intOf]; omega
            · obtain rfl : j = K := by omega
              have HP : Hid (number? p = some d) := by
                have h5 : p.take j = p := by rw [← HK.out]; exact List.take_length
                have h6 := HD.out
                have h7 := HNJ.out
                rw [h5] at h6 h7
                unfold Hid number?
                rw [HF.out, h6, h7]; rfl
              have HN2 : Hid (nums ps = (nums (ps.drop (k + 1))).map ((done ++ [d]) ++ ·)) := by unfold Hid; rw [HNX.out, HP.out]
              go_wp2_with (at_builtin; refine wpList_append_int rfl _ _ rfl w1.heap.size _ _ rfl (HO.out.alloc _) wr.heap.size d rfl (one_cell wr _ _) (by unfold intsOf; rw [List.length_map]; omega) (by simp; have := HX.out.size; omega) ?_; intro v' w3 ho3 hg3 hn3)
              have X3 : Hid (Ext w1 w3) := (HO.out.alloc _).grew (HX.out.alloc _) hg3 (Nat.le_refl _)
              have O3 : Hid (Own w3 w1.heap.size v' (intsOf (done ++ [d]))) := by unfold intsOf Hid at *; rw [List.map_append]; exact ho3
              clear ho3 hg3 hn3
              go_wp2
              go_roundw
              case rel => exact ⟨k + 1, done ++ [d], by omega, by go_num, by simp [hdl], HN2, O3.out, X3.out⟩
              case measure => simp [intOf]; omega
        · have hin : inB 1 (K : Int) 4 = false := by
            rw [Bool.eq_false_iff]; intro h; have := inB_iff.1 h; omega
          have HE : Hid (nums ps = none) := by
            have h2 : (decide (1 ≤ p.length) && decide (p.length ≤ 4)) = false := by
              rw [HK.out]
              by_cases h : 1 ≤ K
              · rw [decide_eq_false (by omega : ¬ K ≤ 4), Bool.and_false]
              · rw [decide_eq_false h]; rfl
            have h5 : number? p = none := by unfold number?; rw [h2]; rfl
            unfold Hid
            rw [HNX.out, h5]
          go_wp2_with (go_at_call 36; refine (in_c _ _ _ _).mono ?_; rintro e w' ⟨rfl, rfl⟩)
          go_ret2
          exact ⟨_, rfl, by rw [HE.out]; rfl, X1.out.trans HX.out⟩
      · obtain rfl : k = M := by omega
        have HE := Lib.hid (nums_end (by rw [← HL.out]; exact Nat.le_refl _) HN.out)
        go_wp2
        go_ret2
        exact ⟨_, rfl, by rw [HE.out]; exact ⟨_, rfl, HO.out.mono X1.out.size⟩, X1.out.trans HX.out⟩
  · rw [if_neg hmm]
    go_enter Tryz.func52, Tryz.ntmps52
    go_wp2_with fail
    refine HC.out.mono ?_
    rintro e w1 ⟨v, rfl, ⟨b, c, rfl, hb, hc, hcell⟩, x1⟩
    rw [← HL.out]
    have X1 := Lib.hid x1
    clear hcell x1 HC hc
    go_wp2
    go_ret2
    exact ⟨_, rfl, rfl, X1.out⟩
end Go.Proofs.YtkmfmhckpfomeaaGreatDoor

/- A list of numbers as text: the reference's l7Said and l7Yes, the program's yesOr and said. The condition: natural numbers up to 2^20, at most 4096 of them. -/
namespace Go.Proofs.YtkmfmhckpfomeaaGreatDoor
open Go.RowKit
open BigFrame
attribute [local go_sem] Oper.semAt_some

def saidB (ns : List Nat) : List UInt8 := Lib.join (ns.map Lib.decDigits) [32]
theorem join_snoc (y sep : List UInt8) : ∀ (xs : List (List UInt8)), xs ≠ [] → Lib.join (xs ++ [y]) sep = Lib.join xs sep ++ (sep ++ y)
  | [], h => absurd rfl h
  | x :: r, _ => by
    rw [List.cons_append, Lib.join_cons, Lib.join_cons]
    simp [Lib.joinTail]
theorem said_one (n : Nat) : saidB [n] = Lib.decDigits n := Lib.join_one _ _
theorem said_snoc {ns : List Nat} (h : ns ≠ []) (n : Nat) : saidB (ns ++ [n]) = (saidB ns ++ [32]) ++ Lib.decDigits n := by
  unfold saidB
  rw [List.map_append, List.map_cons, List.map_nil, join_snoc _ _ _ (by simpa using h), List.append_assoc]
theorem said_len (ns : List Nat) (h : ∀ n ∈ ns, n ≤ 1048576) : (saidB ns).length ≤ 8 * ns.length := by
  have key : ∀ r : List Nat, (∀ n ∈ r, n ≤ 1048576) → (Lib.joinTail [32] (r.map Lib.decDigits)).length ≤ 8 * r.length := by
    intro r
    induction r with
    | nil => intro _; simp [Lib.joinTail]
    | cons x r ih =>
      intro h
      have h1 := dec_len x (h x List.mem_cons_self)
      have h2 := ih (fun n hn => h n (List.mem_cons_of_mem _ hn))
      have e : Lib.joinTail [32] ((x :: r).map Lib.decDigits) = ([32] ++ Lib.decDigits x) ++ Lib.joinTail [32] (r.map Lib.decDigits) := by simp [Lib.joinTail]
      rw [e]
      simp only [List.length_append, List.length_cons, List.length_nil] at *
      omega
  cases ns with
  | nil => simp [saidB, Lib.join_nil]
  | cons x r =>
    have h1 := dec_len x (h x List.mem_cons_self)
    have h2 := key r (fun n hn => h n (List.mem_cons_of_mem _ hn))
    unfold saidB
    rw [List.map_cons, Lib.join_cons]
    simp only [List.length_append, List.length_cons] at *
    omega

theorem l7Yes_c (k : Bool) (w : World) : Calls Tryz.prog 121 #[.bool k] w fun e w' => e = .returned (strV (if k then [121, 101, 115, 10] else [110, 111, 116, 10])) ∧ w' = w := by
  cases k
  · go_enter Tryz.func121, Tryz.ntmps121
    go_wp2
    go_ret
    exact ⟨rfl, rfl⟩
  · go_enter Tryz.func121, Tryz.ntmps121
    go_wp2
    go_ret
    exact ⟨rfl, rfl⟩
theorem yesOr_c (k : Bool) (w : World) : Calls Tryz.prog 94 #[.bool k] w fun e w' => e = .returned (.tuple #[strV (if k then [121, 101, 115] else [110, 111, 116]), .bool true]) ∧ w' = w := by
  cases k
  · go_enter Tryz.func94, Tryz.ntmps94
    go_wp2
    go_ret2
    exact ⟨rfl, rfl⟩
  · go_enter Tryz.func94, Tryz.ntmps94
    go_wp2
    go_ret2
    exact ⟨rfl, rfl⟩
theorem said_c (n : Nat) (k : Bool) (w : World) (hw : Wd w) (hn : n ≤ 1048576) : Calls Tryz.prog 90 #[.int .i64 n, .bool k] w fun e w' => e = .returned (.tuple #[strV (Lib.decDigits n), .bool k]) ∧ Ext w w' := by
  have h := itoa_c n w hw (by omega) (by omega)
  rw [show Lib.itoa (n : Int) = Lib.decDigits n from by unfold Lib.itoa; rw [if_neg (by omega), Int.toNat_natCast]] at h
  have H := Lib.hid h
  clear h hw hn
  go_enter Tryz.func90, Tryz.ntmps90
  go_wp2_with fail
  refine H.out.mono ?_
  rintro e w1 ⟨rfl, x1⟩
  have X1 := Lib.hid x1; clear x1
  go_wp2
  go_ret2
  exact ⟨rfl, X1.out⟩
end Go.Proofs.YtkmfmhckpfomeaaGreatDoor

/- A list of numbers as text: the reference's l7Said. The condition: natural numbers up to 2^20, at most 4096 of them. -/
namespace Go.Proofs.YtkmfmhckpfomeaaGreatDoor
open Go.RowKit
open BigFrame
attribute [local go_sem] Oper.semAt_some

theorem take_nat {ns : List Nat} {j : Nat} (h : j < ns.length) : ns.take (j + 1) = ns.take j ++ [ns.getD j 0] := by
  rw [List.take_add_one, List.getElem?_eq_getElem h]
  simp [List.getD, List.getElem?_eq_getElem h]
theorem intsOf_get {ns : List Nat} {j : Nat} : (intsOf ns).getD j 0 = ((ns.getD j 0 : Nat) : Int) := by
  unfold intsOf
  simp only [List.getD, List.getElem?_map]
  cases ns[j]? <;> rfl
theorem said_le (ns : List Nat) (h : ∀ n ∈ ns, n ≤ 1048576) (j : Nat) (hl : ns.length ≤ 4096) : (saidB (ns.take j)).length ≤ 32768 := by
  have h1 := said_len (ns.take j) (fun n hn => h n (List.mem_of_mem_take hn))
  have h2 : (ns.take j).length ≤ ns.length := by rw [List.length_take]; omega
  omega

set_option maxRecDepth 100000 in
set_option maxHeartbeats 1000000 in
theorem l7Said_c (v : Value) (ns : List Nat) (k : Bool) (w : World) (hv : Rd w v (intsOf ns)) (hns : ∀ n ∈ ns, n ≤ 1048576) (hl : ns.length ≤ 4096) :
    Calls Tryz.prog 111 #[v, .bool k] w fun e w' => e = .returned (strV (if k then saidB ns ++ [10] else [110, 111, 10])) ∧ Ext w w' := by
  obtain ⟨a, c, rfl⟩ := hv.form
  have hlen : (intsOf ns).length = ns.length := List.length_map _
  rw [hlen] at hv ⊢
  have HV := Lib.hid hv
  have HNS := Lib.hid hns
  obtain ⟨L, hL⟩ : ∃ L, L = ns.length := ⟨_, rfl⟩
  rw [← hL] at hl HV ⊢
  have HL := Lib.hid hL
  have HLE := Lib.hid (fun j => said_le ns hns j (by rw [← hL]; exact hl))
  clear hv hns hlen hL
  cases k
  · go_enter Tryz.func111, Tryz.ntmps111
    go_wp2
    go_ret
    exact ⟨rfl, Ext.refl _⟩
  · go_enter Tryz.func111, Tryz.ntmps111
    go_wp2
    go_loopw [5, 6] (fun o i wr => ∃ (j : Nat) (S : ByteArray) (K : Nat), j ≤ L ∧ i = .int .i64 j ∧ o = .string S ∧ Hid (IsStr S (saidB (ns.take j)) K) ∧ Hid (K ≤ 32768) ∧ Ext w wr) (fun _ i _ => L - (intOf i).toNat)
    case atStart => exact ⟨0, ⟨#[]⟩, 0, Nat.zero_le _, rfl, rfl, ⟨rfl, rfl, rfl⟩, Nat.zero_le _, Ext.refl _⟩
    case round =>
      obtain ⟨j, S, K, hj, rfl, rfl, HS, HK, hx⟩ := hrel
      have HX := Lib.hid hx; clear hx
      by_cases hlt : j < L
      · have hlt' : j < ns.length := by rw [← HL.out]; exact hlt
        obtain ⟨n, hn⟩ : ∃ n, n = ns.getD j 0 := ⟨_, rfl⟩
        have hn20 : n ≤ 1048576 := by rw [hn, List.getD, List.getElem?_eq_getElem hlt']; exact HNS.out _ (List.getElem_mem hlt')
        obtain ⟨b, o, rfl, -, -, hc⟩ := HV.out.atI hlt
        have c0 := hc _ HX.out
        rw [show getI (intsOf ns) j = ((n : Nat) : Int) from by rw [hn]; exact intsOf_get] at c0
        obtain ⟨D, KD, hD⟩ := IsStr.of (Lib.decDigits n)
        have HC := l6Dec_c n wr hn20
        rw [hD.val] at HC
        have HC' := Lib.hid HC
        have hDs : D.size ≤ 7 := by rw [hD.size, ← hD.len]; exact dec_len n hn20
        have hsz : S.size ≤ 32768 := by rw [HS.out.size]; exact HK.out
        have HT := Lib.hid (take_nat hlt')
        rw [← hn] at HT
        have HLN := HLE.out (j + 1)
        have HD := Lib.hid hD
        by_cases h0 : j = 0
        · have hs0 : saidB (ns.take (j + 1)) = saidB (ns.take j) ++ Lib.decDigits n := by
            rw [HT.out, h0]; simp [saidB, Lib.join_nil, Lib.join_one]
          have HN : Hid (strV (saidB (ns.take (j + 1))) = .string (S ++ D)) := by unfold Hid; rw [hs0]; exact (cat_eq HS.out.eq HD.out.eq).symm
          obtain ⟨S2, K2, hS2⟩ := IsStr.of (saidB (ns.take (j + 1)))
          have e2 : S ++ D = S2 := by have := HN.out; rw [hS2.val] at this; exact (Value.string.inj this).symm
          have HS2 := Lib.hid hS2
          have HK2 : Hid (K2 ≤ 32768) := by unfold Hid; rw [← hS2.len]; exact HLN
          clear hc HC hn hn20 hlt' hD hS2 HLN hs0
          subst h0
          simp only [Nat.add_zero] at c0
          go_wp2_with fail
          refine HC'.out.mono ?_
          rintro e w2 ⟨rfl, x2⟩
          have X2 := Lib.hid (HX.out.trans x2); clear x2
          go_wp2
          go_roundw
          case rel => exact ⟨0 + 1, S2, K2, by omega, by go_num, by first | rfl | rw [e2], HS2, HK2, X2.out⟩
          case measure => simp [intOf] <;> omega
        · have hs0 : saidB (ns.take (j + 1)) = (saidB (ns.take j) ++ [32]) ++ Lib.decDigits n := by
            rw [HT.out]; exact said_snoc (fun e => by have := congrArg List.length e; rw [List.length_take, List.length_nil] at this; omega) n
          obtain ⟨S1, hS1⟩ : ∃ S1, S1 = S ++ ⟨#[32]⟩ := ⟨_, rfl⟩
          have e1 : S ++ ⟨#[32]⟩ = S1 := hS1.symm
          have hq : Value.string S1 = strV (saidB (ns.take j) ++ [32]) := by rw [hS1]; exact cat_eq HS.out.eq rfl
          have hz1 : S1.size ≤ 32769 := by
            rw [hS1]; simp only [ByteArray.size_append]
            have : (⟨#[32]⟩ : ByteArray).size = 1 := rfl
            omega
          have HN : Hid (strV (saidB (ns.take (j + 1))) = .string (S1 ++ D)) := by unfold Hid; rw [hs0]; exact (cat_eq (Value.string.inj hq) HD.out.eq).symm
          obtain ⟨S2, K2, hS2⟩ := IsStr.of (saidB (ns.take (j + 1)))
          have e2 : S1 ++ D = S2 := by have := HN.out; rw [hS2.val] at this; exact (Value.string.inj this).symm
          have HS2 := Lib.hid hS2
          have HK2 : Hid (K2 ≤ 32768) := by unfold Hid; rw [← hS2.len]; exact HLN
          clear hc HC hn hn20 hlt' hD hS2 HLN hs0 hS1 hq
          go_wp2_with fail
          refine HC'.out.mono ?_
          rintro e w2 ⟨rfl, x2⟩
          have X2 := Lib.hid (HX.out.trans x2); clear x2
          go_wp2
          go_roundw
          case rel => exact ⟨j + 1, S2, K2, by omega, by go_num, by first | rfl | rw [e2], HS2, HK2, X2.out⟩
          case measure => simp [intOf] <;> omega
      · obtain rfl : j = L := by omega
        have hsz : S.size ≤ 32768 := by rw [HS.out.size]; exact HK.out
        have HE : Hid (ns.take j = ns) := by unfold Hid; rw [HL.out]; exact List.take_length
        rw [HE.out] at HS
        go_wp2
        go_ret
        exact ⟨congrArg Ending.returned (cat_eq HS.out.eq rfl), HX.out⟩
end Go.Proofs.YtkmfmhckpfomeaaGreatDoor

/- Balls, parts of a set, codes: the small contracts about graphs, of the program and of the reference. The condition: the list has at most 2^20 numbers. -/
namespace Go.Proofs.YtkmfmhckpfomeaaGreatDoor
open Go.RowKit
open BigFrame

/-- A node and its neighbours. -/
def ballN (g : List Int) (x : Nat) : Nat := bor (gN g x) (2 ^ x)
/-- The nodes of a set that are in a ball. -/
def qIn (g : List Int) (s x : Nat) : Nat := band s (ballN g x)
theorem IsGraph.small {g : List Int} (h : IsGraph g) (i : Nat) : gN g i ≤ 4095 := by
  have := h.lt i
  have := pow_le_12 h.le
  omega
theorem ballN_lt {g : List Int} (h : IsGraph g) {x : Nat} (hx : x < g.length) : ballN g x < 2 ^ g.length :=
  bor_lt (h.lt x) (Nat.pow_lt_pow_right (by omega) hx)
theorem ballN_small {g : List Int} (h : IsGraph g) {x : Nat} (hx : x < g.length) : ballN g x ≤ 4095 := by
  have := ballN_lt h hx
  have := pow_le_12 h.le
  omega
theorem qIn_le (g : List Int) (s x : Nat) : qIn g s x ≤ s := Nat.and_le_left
theorem qIn_without (g : List Int) (s x : Nat) : without s (qIn g s x) = without s (ballN g x) := by
  apply Nat.eq_of_testBit_eq
  intro i
  rw [testBit_without, testBit_without]
  unfold qIn
  rw [testBit_band]
  cases s.testBit i <;> simp
theorem without_le (s t : Nat) (h : s ≤ 4095) : without s t ≤ 4095 := by
  have := without_lt (x := s) (y := t) (n := 12) (by omega)
  omega
theorem node_iff {x : Int} {n : Nat} : inB 0 x ((n : Int) - 1) = true ↔ ∃ k : Nat, x = k ∧ k < n := by
  rw [inB_iff]
  constructor
  · intro h; exact ⟨x.toNat, by omega, by omega⟩
  · rintro ⟨k, rfl, h⟩; omega

set_option maxHeartbeats 400000 in
theorem ball_c (v : Value) (g : List Int) (x : Nat) (w : World) (hv : Rd w v g) (hg : IsGraph g) (hx : x < g.length) :
    Calls Tryz.prog 127 #[v, .int .i64 x] w fun e w' => e = .returned (.int .i64 (ballN g x : Nat)) ∧ Ext w w' := by
  obtain ⟨a, c, rfl⟩ := hv.form
  obtain ⟨b, o, rfl, -, -, hc⟩ := hv.atI hx
  have c1 := fun u => hc _ (clip_ext w u)
  rw [hg.row x hx] at c1
  have h1 := hg.small x
  have h2 := hg.le
  obtain ⟨p, hp, hp1, hp2, hp3⟩ := pow_var x (by omega)
  have e0 : min x 64 = x := by omega
  have e2 := bits_or (gN g x) p (by omega) (by omega)
  rw [show ballN g x = bor (gN g x) p from by unfold ballN; rw [hp]]
  clear hv hc hg hp
  go_enter Tryz.func127, Tryz.ntmps127
  go_wp2
  refine wp_region_ext (by kernel_rfl) (by kernel_rfl) ?_
  repeat (go_big_quiet_step (fail))
  refine wpQuiet_nil ?_
  rintro _ ⟨u, rfl⟩
  go_wp2
  go_ret
  exact ⟨rfl, clip_ext _ _⟩

set_option maxHeartbeats 400000 in
theorem l6qIn_c (v : Value) (g : List Int) (s x : Nat) (w : World) (hv : Rd w v g) (hg : IsGraph g) (hs : s ≤ 4095) (hx : x < g.length) :
    Calls Tryz.prog 198 #[v, .int .i64 s, .int .i64 x] w fun e w' => e = .returned (.int .i64 (qIn g s x : Nat)) ∧ Ext w w' := by
  obtain ⟨a, c, rfl⟩ := hv.form
  obtain ⟨b, o, rfl, -, -, hc⟩ := hv.atI hx
  have c1 := fun u => hc _ (clip_ext w u)
  rw [hg.row x hx] at c1
  have h1 := hg.small x
  have h2 := hg.le
  have h3 := ballN_small hg hx
  obtain ⟨p, hp, hp1, hp2, hp3⟩ := pow_var x (by omega)
  have e0 : min x 64 = x := by omega
  have e2 := bits_or (gN g x) p (by omega) (by omega)
  have HB : Hid (ballN g x = bor (gN g x) p) := by unfold ballN; rw [hp]; rfl
  rw [← HB.out] at e2
  have e3 := bits_and s (ballN g x) (by omega) (by omega)
  clear hv hc hg hp
  go_enter Tryz.func198, Tryz.ntmps198
  go_wp2
  refine wp_region_ext (by kernel_rfl) (by kernel_rfl) ?_
  repeat (go_big_quiet_step (fail))
  refine wpQuiet_nil ?_
  rintro _ ⟨u, rfl⟩
  go_wp2
  go_ret
  exact ⟨rfl, clip_ext _ _⟩

theorem isNode_c (v : Value) (g : List Int) (x : Int) (w : World) (hv : Rd w v g) (hg : g.length ≤ 1048576) :
    Calls Tryz.prog 79 #[v, .int .i64 x] w fun e w' => e = .returned (.bool (inB 0 x ((g.length : Int) - 1))) ∧ w = w' := by
  obtain ⟨a, c, rfl⟩ := hv.form
  clear hv
  go_enter Tryz.func79, Tryz.ntmps79
  go_wp2_with (go_at_call 36; refine (in_c _ _ _ _).mono ?_; rintro e w' ⟨rfl, rfl⟩)
  go_ret
  exact ⟨rfl, rfl⟩

def fits (g : List Int) (s : Int) : Bool := graphIn g && setB s g.length
theorem codeFits_c (v : Value) (g : List Int) (s : Int) (w : World) (hv : Rd w v g) (hm : g.length ≤ 1048576) :
    Calls Tryz.prog 135 #[v, .int .i64 s] w fun e w' => e = .returned (.bool (fits g s)) ∧ Ext w w' := by
  obtain ⟨a, c, rfl⟩ := hv.form
  have HV := Lib.hid hv; clear hv
  have HM := Lib.hid hm
  cases h0 : graphIn g
  · rw [show fits g s = false from by unfold fits; rw [h0]; rfl]
    go_enter Tryz.func135, Tryz.ntmps135
    go_wp2_with (go_at_call 39; refine (graphInI_c _ _ _ HV.out HM.out).mono ?_; rintro e w1 ⟨rfl, x1⟩)
    go_ret
    exact ⟨rfl, by assumption⟩
  · rw [show fits g s = setB s g.length from by unfold fits; rw [h0]; rfl]
    have hl := (graphIn_iff.1 h0).le
    go_enter Tryz.func135, Tryz.ntmps135
    go_wp2_with (first | (go_at_call 39; refine (graphInI_c _ _ _ HV.out HM.out).mono ?_; rintro e w1 ⟨rfl, x1⟩) | (go_at_call 60; refine (isSet_c _ g.length (by omega) _).mono ?_; rintro e w' ⟨rfl, rfl⟩))
    go_ret
    exact ⟨rfl, by assumption⟩
theorem fits_iff {g : List Int} {s : Int} : fits g s = true ↔ ∃ k : Nat, s = k ∧ IsGraph g ∧ k < 2 ^ g.length := by
  unfold fits
  rw [Bool.and_eq_true, graphIn_iff, setB_iff]
  exact ⟨fun ⟨h, k, e, hk⟩ => ⟨k, e, h, hk⟩, fun ⟨k, e, h, hk⟩ => ⟨h, k, e, hk⟩⟩
end Go.Proofs.YtkmfmhckpfomeaaGreatDoor

/- The balls of all nodes: the reference and the program compute the same plain list. No condition. -/
namespace Go.Proofs.YtkmfmhckpfomeaaGreatDoor
open Go.RowKit
open BigFrame

def ballsTo (g : List Int) (k : Nat) : List Int := (List.range k).map fun i => ((ballN g i : Nat) : Int)
theorem ballsTo_succ (g : List Int) (k : Nat) : ballsTo g (k + 1) = ballsTo g k ++ [((ballN g k : Nat) : Int)] := by simp [ballsTo, List.range_succ]
theorem ballsTo_length (g : List Int) (k : Nat) : (ballsTo g k).length = k := by simp [ballsTo]
theorem ballsTo_get (g : List Int) (k i : Nat) (h : i < k) : (ballsTo g k).getD i 0 = ((ballN g i : Nat) : Int) := by simp [ballsTo, h]

set_option maxRecDepth 100000 in
set_option maxHeartbeats 1000000 in
theorem l1Balls_c (v : Value) (g : List Int) (w : World) (hv : Rd w v g) (hg : IsGraph g) :
    Calls Tryz.prog 153 #[v] w fun e w' => ∃ v', e = .returned v' ∧ Own w' w.heap.size v' (ballsTo g g.length) ∧ Ext w w' := by
  obtain ⟨a, c, rfl⟩ := hv.form
  have HV := Lib.hid hv; clear hv
  have HG := Lib.hid hg
  have hl := hg.le
  clear hg
  go_enter Tryz.func153, Tryz.ntmps153
  go_wp2
  go_loopw [3, 4] (fun o i wr => ∃ k : Nat, k ≤ g.length ∧ i = .int .i64 k ∧ Own wr w.heap.size o (ballsTo g k) ∧ Ext w wr) (fun _ i _ => g.length - (intOf i).toNat)
  case atStart => exact ⟨0, Nat.zero_le _, rfl, Own.lit w, (Ext.refl w).alloc _⟩
  case round =>
    obtain ⟨k, hk, rfl, ho, hx⟩ := hrel
    have HO := Lib.hid ho; have HX := Lib.hid hx; clear ho hx
    by_cases hlt : k < g.length
    · obtain ⟨b, o, rfl, -, -, hc⟩ := HV.out.atI hlt
      have c1 := hc _ HX.out
      have c2 := hc _ HX.out.drew
      clear hc
      rw [HG.out.row k hlt] at c1 c2
      have h1 := HG.out.small k
      obtain ⟨p, hp, hp1, hp2, hp3⟩ := pow_var k (by omega)
      have e0 : min k 64 = k := by omega
      have e2 := bits_or (gN g k) p (by omega) (by omega)
      have HB : Hid (ballN g k = bor (gN g k) p) := by unfold ballN; rw [hp]; rfl
      clear hp
      have HQ : Hid (ballsTo g k ++ [bits .or .i64 (gN g k : Int) (IntKind.i64.wrap (p : Int))] = ballsTo g (k + 1)) := by rw [ballsTo_succ, wrap_i64_nat p (by omega), e2, HB.out]; rfl
      go_wp2
      go_region_law (first | (refine step_append_int rfl _ _ rfl w.heap.size _ _ rfl (HO.out.drew.alloc _) wr.heap.size _ rfl (one_cell _ _ _) (by rw [ballsTo_length]; omega) (by simp; have := HX.out.size; omega) ?_; intro v' w3 ho3 hg3 hn3))
      have HX3 : Hid (Ext w w3) := (HO.out.drew.alloc _).grew (HX.out.drew.alloc _) hg3 (Nat.le_refl _)
      have HO3 : Hid (Own w3 w.heap.size v' (ballsTo g (k + 1))) := by rw [← HQ.out]; exact ho3
      clear ho3 hg3 hn3
      simp only [Act.put, Exit.inBlock]
      go_wp2
      go_roundw
      case rel => exact ⟨k + 1, by omega, by go_num, HO3.out, HX3.out⟩
      case measure => simp [intOf]; omega
    · obtain rfl : k = g.length := by omega
      go_wp2
      go_ret
      exact ⟨_, rfl, HO.out, HX.out⟩

set_option maxHeartbeats 1000000 in
theorem balls_c (v : Value) (g : List Int) (w : World) (hv : Rd w v g) (hg : IsGraph g) :
    Calls Tryz.prog 63 #[v] w fun e w' => ∃ v', e = .returned v' ∧ Own w' w.heap.size v' (ballsTo g g.length) ∧ Ext w w' := by
  obtain ⟨a, c, rfl⟩ := hv.form
  have HV := Lib.hid hv; clear hv
  have HG := Lib.hid hg
  have hl := hg.le
  clear hg
  go_enter Tryz.func63, Tryz.ntmps63
  go_wp2
  go_loopw [3, 7] (fun o i wr => ∃ k : Nat, k ≤ g.length ∧ i = .int .i64 k ∧ Own wr w.heap.size o (ballsTo g k) ∧ Ext w wr) (fun _ i _ => g.length - (intOf i).toNat)
  case atStart => exact ⟨0, Nat.zero_le _, rfl, Own.nil _ _, Ext.refl w⟩
  case round =>
    obtain ⟨k, hk, rfl, ho, hx⟩ := hrel
    have HO := Lib.hid ho; have HX := Lib.hid hx; clear ho hx
    by_cases hlt : k < g.length
    · go_wp2_with fail
      refine (ball_c _ g k _ (HV.out.ext HX.out) HG.out hlt).mono ?_
      rintro e w2 ⟨rfl, x2⟩
      have O2 := Lib.hid (HO.out.ext x2); have X2 := Lib.hid (HX.out.trans x2); clear x2
      go_wp2_with (at_builtin; refine wpList_append_int rfl _ _ rfl w.heap.size _ _ rfl (O2.out.alloc _) w2.heap.size _ rfl (one_cell _ _ _) (by rw [ballsTo_length]; omega) (by simp; have := X2.out.size; omega) ?_; intro v' w3 ho3 hg3 hn3)
      have HX3 : Hid (Ext w w3) := (O2.out.alloc _).grew (X2.out.alloc _) hg3 (Nat.le_refl _)
      have HO3 : Hid (Own w3 w.heap.size v' (ballsTo g (k + 1))) := by rw [ballsTo_succ]; exact ho3
      clear ho3 hg3 hn3
      go_wp2
      go_roundw
      case rel => exact ⟨k + 1, by omega, by go_num, HO3.out, HX3.out⟩
      case measure => simp [intOf]; omega
    · obtain rfl : k = g.length := by omega
      go_wp2
      go_ret
      exact ⟨_, rfl, HO.out, HX.out⟩
end Go.Proofs.YtkmfmhckpfomeaaGreatDoor

/- The pool with a test for each binary digit: the reference and the program compute the same plain list. No condition. -/
namespace Go.Proofs.YtkmfmhckpfomeaaGreatDoor
open Go.RowKit
open BigFrame

/-- The items below j whose digit of weight p is 1. -/
def digitTo (p : Nat) : Nat → Nat
  | 0 => 0
  | j + 1 => if j / p % 2 = 1 then bor (digitTo p j) (2 ^ j) else digitTo p j
theorem digitTo_lt (p : Nat) : ∀ j, digitTo p j < 2 ^ j
  | 0 => by simp [digitTo]
  | j + 1 => by
    have h := digitTo_lt p j
    unfold digitTo
    split
    · exact bor_lt (Nat.lt_of_lt_of_le h (Nat.pow_le_pow_right (by omega) (by omega))) (Nat.pow_lt_pow_right (by omega) (by omega))
    · exact Nat.lt_of_lt_of_le h (Nat.pow_le_pow_right (by omega) (by omega))
theorem digitTo_small {p j : Nat} (h : j ≤ 12) : digitTo p j ≤ 4095 := by
  have := digitTo_lt p j
  have := pow_le_12 h
  omega
def digitsTo (n k : Nat) : List Int := (List.range k).map fun i => ((digitTo (2 ^ i) n : Nat) : Int)
theorem digitsTo_succ (n k : Nat) : digitsTo n (k + 1) = digitsTo n k ++ [((digitTo (2 ^ k) n : Nat) : Int)] := by simp [digitsTo, List.range_succ]
theorem digitsTo_length (n k : Nat) : (digitsTo n k).length = k := by simp [digitsTo]
def digitsN (n : Nat) : List Int := digitsTo n ((List.range 5).countP fun k => decide (2 ^ k ≤ n - 1))
def digits (a : Int) : List Int × Bool := if inB 1 a 12 then (digitsN a.toNat, true) else ([], false)
theorem digits_end : ∀ n, n ≤ 12 → ∀ k, k ≤ 4 → (k = 0 ∨ 2 ^ (k - 1) ≤ n - 1) → n - 1 < 2 ^ k → (List.range 5).countP (fun k => decide (2 ^ k ≤ n - 1)) = k := by decide
theorem shr_pos : ∀ n, n ≤ 12 → ∀ k, k ≤ 4 → ((0 < shr (n - 1) k) ↔ 2 ^ k ≤ n - 1) := by decide
theorem bit_div (i k : Nat) : i.testBit k = decide (i / 2 ^ k % 2 = 1) := Nat.testBit_eq_decide_div_mod_eq

/-- What a function that returns a list and whether it holds returns. -/
def listV (v : Value) (b : Bool) : Value := .tuple #[v, .bool b]

theorem quo_cases (j p : Nat) : ∃ d, d ≤ j ∧ ((j : Int) / (p : Int)) = (d : Int) ∧ (((d : Int) % 2 == 1) = decide (j / p % 2 = 1)) := by
  refine ⟨j / p, Nat.div_le_self _ _, by simp, ?_⟩
  rw [show ((j / p : Nat) : Int) % 2 = ((j / p % 2 : Nat) : Int) from rfl]
  by_cases h : j / p % 2 = 1
  · rw [h]; rfl
  · have h0 : j / p % 2 = 0 := by omega
    rw [h0]; rfl

end Go.Proofs.YtkmfmhckpfomeaaGreatDoor

/- A statement that draws its order, walked as in a plain frame, holds in a round too. The condition: none of its operations defers, and the way on lets nothing out. -/
namespace Go.Proofs.YtkmfmhckpfomeaaGreatDoor
open Go.RowKit
variable {P : Program} {ops : Array Oper} {md : Region.Mode}

theorem wpIn_of_wp {ro : Option Nat} {n : Nat} {o : Oper} {a : Act} {K K' : Act → World → Prop} {Q : Exit → Act → World → Prop} {w : World} (hd : ∀ c, o.op ≠ .defer c)
    (h : ∀ a w, K a w → K' a w) (hh : o.wp P a w K Q) : o.wpIn (FW ro) n P a w K' Q := by
  unfold Oper.wp at hh
  unfold Oper.wpIn
  refine ⟨fun _ _ => trivial, ?_⟩
  rw [semAt_FW _ _ hd]
  generalize (execOp a.eval o).run P w = r at *
  cases r with
  | ok x w' =>
    cases x with
    | value v => exact h _ _ hh
    | skip => exact h _ _ hh
    | defer d => exact h _ _ hh
    | enter f args =>
      refine ⟨fun hs => by simp at hs, callsFW (Calls.mono hh fun e w'' he => ?_)⟩
      cases e with
      | returned v => exact h _ _ he
      | panicked c => exact he
      | outgrown => exact he
    | row row args =>
      refine ⟨fun hs => by simp at hs, ?_⟩
      exact fun c cs _ => let ⟨v, w'', r, s⟩ := hh c cs; ⟨v, w'', h _ _ r, stepsIn_wide.2 s⟩
    | _ => exact hh.elim
  | halt x w' =>
    cases x <;> exact hh

theorem wpOpIn_of_wpOp {ro : Option Nat} {n i : Nat} {a : Act} {K K' : Act → World → Prop} {Q : Exit → Act → World → Prop} {w : World} (hd : noDefer ops = true) (hL : ¬ LetsOut Q)
    (h : ∀ a w, K a w → K' a w) (hh : wpOp P ops Q i K a w) : wpOpIn (FW ro) n P ops Q i K' a w := by
  unfold wpOp at hh
  unfold wpOpIn
  split
  · rename_i ho; simp only [ho] at hh; exact h _ _ hh
  · rename_i o ho
    simp only [ho] at hh
    split
    · rename_i hw
      rw [if_pos hw] at hh
      rcases hh with hh | ⟨_, hl⟩
      · exact wpIn_of_wp (noDefer_spec hd i o ho) h hh
      · exact absurd hl hL
    · rename_i hw
      rw [if_neg hw] at hh
      exact ⟨fun _ _ => trivial, h _ _ hh⟩

theorem wpAnyIn_of_wpAny {ro : Option Nat} {n : Nat} {Q : Exit → Act → World → Prop} (hd : noDefer ops = true) (hL : ¬ LetsOut Q) : ∀ (fuel : Nat) (listed : Array Bool) (a : Act) (w : World),
    wpAny P md ops Q fuel listed a w → wpAnyIn (FW ro) n P md ops Q fuel listed a w
  | 0, _, _, _, h => h
  | fuel + 1, _, _, _, h => ⟨h.1, fun i hi => wpOpIn_of_wpOp hd hL (fun a w => wpAnyIn_of_wpAny hd hL fuel _ a w) (h.2 i hi)⟩

/-- THE LAW: at a region that draws, in a round: walk it by 'wpAny', as in a plain frame. -/
theorem wpIn_region_plain {ro : Option Nat} {n id : Nat} {Q : Exit → Act → World → Prop} {a : Act} {w : World} (hm : P.follows .mixedOrders = true) (hd : noDefer ops = true) (hL : ¬ LetsOut Q)
    (h : wpAny P .any ops Q ops.size (Array.replicate ops.size false) a w.drew) : (Code.region id ops true).wpIn (FW ro) n P Q a w :=
  wpIn_region_any hm (wpAnyIn_of_wpAny hd hL _ _ _ _ h)
end Go.Proofs.YtkmfmhckpfomeaaGreatDoor

/- Variables of the call's own beside loops over functions; a way out with a list. No condition. -/
namespace Go.Proofs.YtkmfmhckpfomeaaGreatDoor
open Go.RowKit
open BigFrame
attribute [local go_sem] Oper.semAt_some

theorem Var.book {B : Nat} {w w' : World} {b : Nat} {v : Value} (h : Var w b v) (hB : Book B w w') (hb : b < B) : Var w' b v := by
  obtain ⟨o, ho⟩ : ∃ o, w.heap[b]? = some o := ⟨_, Array.getElem?_eq_getElem h.lt⟩
  have ho' := hB.block _ _ ho (.inl hb)
  refine ⟨?_, ?_, Nat.lt_of_lt_of_le h.lt hB.size⟩
  · rw [← h.cell]; unfold World.cell?; simp only [ho, ho']
  · rw [← h.frozen]; unfold World.frozen?; simp only [ho, ho']
theorem Var.grown {w w' : World} {b : Nat} {v : Value} {row : Option Nat} (h : Var w b v) (hg : w.grownBy w' row) (hne : some b ≠ row) : Var w' b v := by
  have e := hg.block b h.lt hne
  refine ⟨?_, ?_, Nat.lt_of_lt_of_le h.lt hg.size⟩
  · rw [← h.cell]; unfold World.cell?; simp only [e]
  · rw [← h.frozen]; unfold World.frozen?; simp only [e]
theorem leave_list {fn : Func} {p q : Tmp} {v : Value} {b : Bool} {xs : List Int} {r : List Int × Bool} {w W : World} {tmps : Array Value} {ds : List Deferred} (hr : fn.results = #[.tmp p, .tmp q])
    (hp : tmps.getD p undef = v) (hq : tmps.getD q undef = .bool b) (hm : Marks w.heap.size W ds) (ho : Own W w.heap.size v xs) (hx : Ext w W) (hxy : (xs, b) = r) :
    LeavesInM Fence.wide 0 Tryz.prog fn tmps (fun e w' => ∃ v, e = .returned (listV v r.2) ∧ Own w' w.heap.size v r.1 ∧ Ext w w') ds .returning W := by
  subst hxy
  refine leaves_marks (B := w.heap.size) (listV v b) _ _ hm fun W' hW' => ⟨?_, v, rfl, ho.book hW', hx.book (Nat.le_refl _) hW'⟩
  rw [results_tmp2 hr, hp, hq]
  rfl

end Go.Proofs.YtkmfmhckpfomeaaGreatDoor
