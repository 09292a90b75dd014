/- What the walks of this seat rest on, one part: plain facts, and contracts of the functions that they reach. Each states its own condition. -/
import Derived.Test.YtkmfmhckpfomeaaGreatDoorB1
import Derived.Test.YtkmfmhckpfomeaaGreatDoorB2
import Derived.Lib.Split
import Derived.Lib.SplitLaws
import Derived.Lib.ItoaNum
import Derived.Test.YtkmfmhckpfomeaaGreatDoorProg
import Derived.Deep.AppendLies
set_option linter.all false
set_option linter.unusedSimpArgs false
set_option linter.unusedVariables false
/- Strings as lists of bytes: pieces between a byte, the library's Split, Cut, Join, Itoa at this program. The condition: the world holds the library's two facts (Wd). -/
namespace Go.Proofs.YtkmfmhckpfomeaaGreatDoor
open Go.RowKit
open BigFrame

/-- A string of the program's. -/
def strV (l : List UInt8) : Value := .string ⟨l.toArray⟩
def pieces (c : UInt8) : List UInt8 → List (List UInt8)
  | [] => [[]]
  | x :: r => if x = c then [] :: pieces c r else (x :: (pieces c r).headD []) :: (pieces c r).tail
theorem pieces_ne (c : UInt8) (l : List UInt8) : pieces c l ≠ [] := by
  cases l with
  | nil => simp [pieces]
  | cons x r => unfold pieces; split <;> simp
theorem pieces_free {c : UInt8} : ∀ {l : List UInt8}, c ∉ l → pieces c l = [l]
  | [], _ => rfl
  | x :: r, h => by
    have h1 : ¬ x = c := fun e => h (by rw [e]; exact List.mem_cons_self)
    rw [pieces, if_neg h1, pieces_free (fun k => h (List.mem_cons_of_mem _ k))]
    rfl
theorem pieces_cut {c : UInt8} (r : List UInt8) : ∀ {a : List UInt8}, c ∉ a → pieces c (a ++ c :: r) = a :: pieces c r
  | [], _ => by show pieces c (c :: r) = _; rw [pieces, if_pos rfl]
  | x :: a, h => by
    have h1 : ¬ x = c := fun e => h (by rw [e]; exact List.mem_cons_self)
    show pieces c (x :: (a ++ c :: r)) = _
    rw [pieces, if_neg h1, pieces_cut r (fun k => h (List.mem_cons_of_mem _ k))]
    rfl
theorem free_or_cut (c : UInt8) (l : List UInt8) : c ∉ l ∨ ∃ a r, l = a ++ c :: r ∧ c ∉ a := by
  by_cases h : c ∈ l
  · exact .inr (List.eq_append_cons_of_mem h)
  · exact .inl h
theorem index_free {c : UInt8} : ∀ {l : List UInt8}, c ∉ l → Lib.indexByte l c = -1
  | [], _ => rfl
  | x :: r, h => by
    have h1 : (x == c) = false := beq_eq_false_iff_ne.2 fun e => h (by rw [e]; exact List.mem_cons_self)
    rw [Lib.indexByte, h1, index_free (fun k => h (List.mem_cons_of_mem _ k))]
    rfl
theorem index_cut {c : UInt8} (r : List UInt8) : ∀ {a : List UInt8}, c ∉ a → Lib.indexByte (a ++ c :: r) c = a.length
  | [], _ => by show Lib.indexByte (c :: r) c = _; simp [Lib.indexByte]
  | x :: a, h => by
    have h1 : (x == c) = false := beq_eq_false_iff_ne.2 fun e => h (by rw [e]; exact List.mem_cons_self)
    show Lib.indexByte (x :: (a ++ c :: r)) c = _
    rw [Lib.indexByte, h1, index_cut r (fun k => h (List.mem_cons_of_mem _ k))]
    have : ((a.length : Int) == -1) = false := beq_eq_false_iff_ne.2 (by omega)
    simp [this]
theorem splitK_pieces (c : UInt8) : ∀ (n : Nat) (l : List UInt8), l.length ≤ n → Lib.splitK [c] 0 (Lib.count l [c]) l = pieces c l := by
  intro n
  induction n with
  | zero =>
    intro l hl
    obtain rfl : l = [] := List.length_eq_zero_iff.1 (by omega)
    rfl
  | succ n ih =>
    intro l hl
    rcases free_or_cut c l with h | ⟨a, r, rfl, h⟩
    · rw [Lib.count_miss (by rw [Lib.index_one, index_free h]), pieces_free h]
      rfl
    · have hi : Lib.index (a ++ c :: r) [c] = a.length := by rw [Lib.index_one, index_cut r h]
      have hd : (a ++ c :: r).drop (a.length + 1) = r := by
        rw [← List.drop_drop, List.drop_left]; rfl
      have hne : ((a.length : Int) == -1) = false := beq_eq_false_iff_ne.2 (by omega)
      rw [Lib.count_hit (by simp) hi, pieces_cut r h, Nat.add_comm, Lib.splitK, hi, hne]
      simp only [List.length_cons, List.length_nil, Nat.zero_add, hd, Int.toNat_natCast, Nat.add_zero, List.take_left]
      rw [if_neg (by decide), ih r (by simp at hl; omega)]
theorem cut_free {c : UInt8} {l : List UInt8} (h : c ∉ l) : Lib.cut l [c] = (l, [], false) := by
  unfold Lib.cut
  rw [Lib.index_one, index_free h, if_neg (by decide)]
theorem cut_cut {c : UInt8} {a r : List UInt8} (h : c ∉ a) : Lib.cut (a ++ c :: r) [c] = (a, r, true) := by
  unfold Lib.cut
  rw [Lib.index_one, index_cut r h, if_pos (by omega)]
  have hd : (a ++ c :: r).drop (a.length + 1) = r := by
    rw [← List.drop_drop, List.drop_left]; rfl
  simp only [List.length_cons, List.length_nil, Nat.zero_add, Int.toNat_natCast, List.take_left, hd]
theorem bytes_eq {s : ByteArray} {l : List UInt8} (h : s.data.toList = l) : s = ⟨l.toArray⟩ := by
  subst h; cases s; simp
/-- The pieces, as the library's cells. -/
theorem splitB_pieces (c : UInt8) (l : List UInt8) : (Lib.splitB ⟨#[c]⟩ 0 (Lib.countB ⟨l.toArray⟩ ⟨#[c]⟩) ⟨l.toArray⟩).map Value.string = (pieces c l).map strV := by
  have h := Lib.splitB_data ⟨#[c]⟩ 0 (Lib.countB ⟨l.toArray⟩ ⟨#[c]⟩) ⟨l.toArray⟩
  have h2 : Lib.splitK [c] 0 (Lib.count l [c]) l = pieces c l := splitK_pieces c _ l (Nat.le_refl _)
  have h3 : (Lib.splitB ⟨#[c]⟩ 0 (Lib.countB ⟨l.toArray⟩ ⟨#[c]⟩) ⟨l.toArray⟩).map (·.data.toList) = pieces c l := h.trans h2
  rw [← h3, List.map_map]
  apply List.map_congr_left
  intro s _
  exact congrArg Value.string (bytes_eq rfl)
theorem countB_pieces (c : UInt8) (l : List UInt8) : Lib.countB ⟨l.toArray⟩ ⟨#[c]⟩ + 1 = (pieces c l).length := by
  have h := congrArg List.length (splitB_pieces c l)
  rw [List.length_map, List.length_map, Lib.splitB_all (⟨#[c]⟩ : ByteArray) (Nat.le_refl 1) 0 _ (⟨l.toArray⟩ : ByteArray) rfl] at h
  exact h

/-- The library's two facts of a world. -/
structure Wd (w : World) : Prop where
  lim : ∃ m, w.cell? ⟨0, 0, none⟩ = some (.int .i64 m)
  tab : Lib.TabIs Tryz.prog w "internal/strconv.uint64pow10" .u64 Lib.pow10Tab
theorem cell_lt {w : World} {b o : Nat} {v : Value} (h : w.cell? ⟨b, o, none⟩ = some v) : b < w.heap.size := by
  cases Nat.lt_or_ge b w.heap.size with
  | inl h => exact h
  | inr hge =>
    have : w.heap[b]? = none := Array.getElem?_eq_none_iff.2 hge
    simp [World.cell?, this] at h
theorem Wd.ext {w w' : World} (h : Wd w) (hx : Ext w w') : Wd w' := by
  obtain ⟨⟨m, hm⟩, ht⟩ := h
  refine ⟨⟨m, (hx.cell (cell_lt hm)).trans hm⟩, ?_⟩
  unfold Lib.TabIs World.var? at ht ⊢
  rw [Option.bind_eq_some_iff] at ht ⊢
  obtain ⟨g, hg, h2⟩ := ht
  refine ⟨g, hg, ?_⟩
  cases hb : w.heap[g]? with
  | none => rw [hb] at h2; cases h2
  | some o =>
    rw [hb] at h2
    rw [hx.block (Array.getElem?_eq_some_iff.1 hb).1, hb]
    exact h2
theorem Ext.grow (w : World) (k : Nat) (os : Array Obj) : Ext w (Go.Sort.grow (w.drewN k) os) :=
  ⟨rfl, rfl, rfl, by simp [Go.Sort.grow], fun i hi => by
    show (w.heap ++ os)[i]? = _
    rw [Array.getElem?_append_left hi]⟩
theorem itoa_c (n : Int) (w : World) (hw : Wd w) (h0 : -9223372036854775808 ≤ n) (h1 : n ≤ 9223372036854775807) :
    Calls Tryz.prog 31 #[.int .i64 n] w fun e w' => e = .returned (strV (Lib.itoa n)) ∧ Ext w w' := by
  refine (Tryz.strconv_Itoa n h0 h1 w hw.tab).mono ?_
  rintro e w' ⟨rfl, k, os, rfl⟩
  exact ⟨rfl, Ext.grow w k os⟩
theorem cut_c (c : UInt8) (l : List UInt8) (w : World) (hw : Wd w) (hl : l.length ≤ 1048576) :
    Calls Tryz.prog 50 #[strV l, strV [c]] w fun e w' => e = .returned (.tuple #[strV (Lib.cut l [c]).1, strV (Lib.cut l [c]).2.1, .bool (Lib.cut l [c]).2.2]) ∧ Ext w w' := by
  obtain ⟨m, hm⟩ := hw.lim
  refine (Tryz.strings_Cut ⟨l.toArray⟩ ⟨[c].toArray⟩ m w (by show l.toArray.size < _; simp; omega) hm).mono ?_
  rintro e w' ⟨rfl, n, rfl⟩
  exact ⟨rfl, Ext.drewN w n⟩
/-- A slice of strings that is read. -/
def RdS (w : World) (v : Value) (ls : List (List UInt8)) : Prop :=
  ∃ b c, v = .slice (some ⟨b, 0, none⟩) ls.length c ∧ b < w.heap.size ∧ ls.length ≤ c ∧ ∀ i, i < ls.length → w.cell? ⟨b, i, none⟩ = some (strV (ls.getD i []))
theorem RdS.ext {w w' : World} {v : Value} {ls : List (List UInt8)} (h : RdS w v ls) (hx : Ext w w') : RdS w' v ls := by
  obtain ⟨b, c, rfl, hb, hc, h⟩ := h
  exact ⟨b, c, rfl, Nat.lt_of_lt_of_le hb hx.size, hc, fun i hi => (hx.cell hb).trans (h i hi)⟩
theorem splitT_c (c : UInt8) (l : List UInt8) (w : World) (hw : Wd w) (hl : l.length ≤ 1048576) :
    Calls Tryz.prog 28 #[strV l, strV [c]] w fun e w' => ∃ v, e = .returned v ∧ RdS w' v (pieces c l) ∧ Ext w w' := by
  obtain ⟨m, hm⟩ := hw.lim
  refine (Tryz.strings_Split ⟨l.toArray⟩ ⟨[c].toArray⟩ m w (by show l.toArray.size < _; simp; omega) hm (show 1 ≤ 1 from Nat.le_refl 1)).mono ?_
  rintro e w' ⟨rfl, rfl⟩
  refine ⟨_, rfl, ⟨w.heap.size, Lib.countB ⟨l.toArray⟩ ⟨[c].toArray⟩ + 1, ?_, by simp, ?_, ?_⟩, (Ext.refl w).alloc _⟩
  · rw [← countB_pieces]
  · rw [← countB_pieces]; exact Nat.le_refl _
  · intro i hi
    have h := World.alloc_heap_new w (.cells ((Lib.splitB ⟨[c].toArray⟩ 0 (Lib.countB ⟨l.toArray⟩ ⟨[c].toArray⟩) ⟨l.toArray⟩).map Value.string).toArray 9)
    have e := splitB_pieces c l
    have h2 : ((Lib.splitB ⟨[c].toArray⟩ 0 (Lib.countB ⟨l.toArray⟩ ⟨[c].toArray⟩) ⟨l.toArray⟩).map Value.string)[i]? = some (strV ((pieces c l).getD i [])) := by
      rw [show ((Lib.splitB ⟨[c].toArray⟩ 0 (Lib.countB ⟨l.toArray⟩ ⟨[c].toArray⟩) ⟨l.toArray⟩).map Value.string) = _ from e, List.getElem?_map, List.getElem?_eq_getElem hi]
      simp [List.getD, List.getElem?_eq_getElem hi]
    unfold World.cell?
    rw [h]
    simpa using h2
theorem joinT_c (sep : List UInt8) (v : Value) (ls : List (List UInt8)) (w : World) (hv : RdS w v ls) (hn : ls.length ≤ 1048576) (hl : (Lib.join ls sep).length ≤ 1073741824) :
    Calls Tryz.prog 134 #[v, strV sep] w fun e w' => e = .returned (strV (Lib.join ls sep)) ∧ Ext w w' := by
  obtain ⟨b, c, rfl, hb, hc, h⟩ := hv
  have hid : (ls.map (fun l => (⟨l.toArray⟩ : ByteArray))).map (·.data.toList) = ls := by
    rw [List.map_map]; exact (List.map_congr_left (fun l _ => by simp)).trans (List.map_id ls)
  have hlen : (ls.map (fun l => (⟨l.toArray⟩ : ByteArray))).length = ls.length := List.length_map _
  have HJ := Tryz.strings_Join b 0 c (ls.map (fun l => (⟨l.toArray⟩ : ByteArray))) ⟨sep.toArray⟩ w (fun j x hx => by
    rw [List.getElem?_map, Option.map_eq_some_iff] at hx
    obtain ⟨l, hl, rfl⟩ := hx
    have hj := (List.getElem?_eq_some_iff.1 hl).1
    rw [Nat.zero_add, h j hj]
    simp [List.getD, hl, strV]) hb (by rw [hlen]; omega) (by rw [hlen]; exact hc) (by rw [hid]; exact Nat.le_trans hl (by decide))
  rw [hid, hlen] at HJ
  exact HJ
theorem join_none_c (sep : List UInt8) (a : Option Addr) (c : Nat) (w : World) :
    Calls Tryz.prog 134 #[.slice a 0 c, strV sep] w fun e w' => e = .returned (strV (Lib.join [] sep)) ∧ Ext w w' := by
  refine (Tryz.strings_Join_none a c ⟨sep.toArray⟩ w).mono ?_
  rintro e w' ⟨rfl, rfl⟩
  exact ⟨rfl, Ext.refl _⟩
end Go.Proofs.YtkmfmhckpfomeaaGreatDoor

/- The contracts of the small functions on integers and sets, of the program and of the reference. No condition but the bounds that each names. -/
namespace Go.Proofs.YtkmfmhckpfomeaaGreatDoor
open Go.RowKit
open BigFrame

theorem l6In_c (n lo hi : Int) (w : World) :
    Calls Tryz.prog 37 #[.int .i64 n, .int .i64 lo, .int .i64 hi] w fun e w' => e = .returned (.bool (inB lo n hi)) ∧ w = w' := by
  go_enter Tryz.func37, Tryz.ntmps37
  go_wp2
  all_goals (go_ret; refine ⟨?_, rfl⟩; simp [inB]; omega)
theorem in_c (n lo hi : Int) (w : World) :
    Calls Tryz.prog 36 #[.int .i64 n, .int .i64 lo, .int .i64 hi] w fun e w' => e = .returned (.bool (inB lo n hi)) ∧ w = w' := by
  go_enter Tryz.func36, Tryz.ntmps36
  go_wp2
  all_goals (go_ret; refine ⟨?_, rfl⟩; simp [inB]; omega)
theorem has_c (s k : Nat) (hs : s < 2 ^ 62) (hk : k ≤ 62) (w : World) :
    Calls Tryz.prog 61 #[.int .i64 s, .int .i64 k] w fun e w' => e = .returned (.bool (s.testBit k)) ∧ w = w' := by
  have e0 : min k 64 = k := by omega
  have e1 := div_pow_nat s k
  have e2 : bits .and .i64 (shr s k : Int) 1 = (band (shr s k) 1 : Int) := bits_and (shr s k) 1 (Nat.lt_of_le_of_lt (Nat.shiftRight_le _ _) (by omega)) (by omega)
  have e3 := testBit_shift s k
  go_enter Tryz.func61, Tryz.ntmps61
  go_wp2
  go_ret
  exact ⟨rfl, rfl⟩
theorem l1Bit_c (s k : Nat) (hs : s < 2 ^ 62) (hk : k ≤ 62) (w : World) :
    Calls Tryz.prog 152 #[.int .i64 s, .int .i64 k] w fun e w' => e = .returned (.int .i64 ((s.testBit k).toNat : Nat)) ∧ w = w' := by
  have e0 : min k 64 = k := by omega
  have e1 := div_pow_nat s k
  have e2 : bits .and .i64 (shr s k : Int) 1 = (band (shr s k) 1 : Int) := bits_and (shr s k) 1 (Nat.lt_of_le_of_lt (Nat.shiftRight_le _ _) (by omega)) (by omega)
  have e3 := bit_shift s k
  go_enter Tryz.func152, Tryz.ntmps152
  go_wp2
  go_ret
  exact ⟨rfl, rfl⟩
theorem pow_cast (n : Nat) : (2 : Int) ^ n = ((2 ^ n : Nat) : Int) := by simp
theorem pow_var (n : Nat) (h : n ≤ 62) : ∃ p : Nat, 2 ^ n = p ∧ (2 : Int) ^ n = (p : Int) ∧ 1 ≤ p ∧ p ≤ 4611686018427387904 := by
  refine ⟨2 ^ n, rfl, pow_cast n, Nat.one_le_two_pow, ?_⟩
  have : 2 ^ n ≤ 2 ^ 62 := Nat.pow_le_pow_right (by omega) h
  omega
theorem isSet_c (s : Int) (n : Nat) (hn : n ≤ 62) (w : World) :
    Calls Tryz.prog 60 #[.int .i64 s, .int .i64 n] w fun e w' => e = .returned (.bool (setB s n)) ∧ w = w' := by
  obtain ⟨p, hp, hp1, hp2, hp3⟩ := pow_var n hn
  have HP := Lib.hid hp; clear hp
  have e0 : min n 64 = n := by omega
  go_enter Tryz.func60, Tryz.ntmps60
  go_wp2_with (go_at_call 36; refine (in_c _ _ _ _).mono ?_; rintro e w' ⟨rfl, rfl⟩)
  go_ret
  exact ⟨by unfold setB; rw [HP.out]; rfl, rfl⟩

set_option maxHeartbeats 400000 in
theorem pop64_c (x : Nat) (hx : x < 2 ^ 63) (w : World) :
    Calls Tryz.prog 167 #[.int .u64 x] w fun e w' => e = .returned (.int .i64 (pop64 x : Nat)) ∧ w = w' := by
  obtain ⟨a1, hA1⟩ : ∃ a, a = band (x / 2) 6148914691236517205 := ⟨_, rfl⟩
  obtain ⟨b1, hB1⟩ : ∃ a, a = band x 6148914691236517205 := ⟨_, rfl⟩
  have k1 : a1 ≤ 6148914691236517205 := by rw [hA1]; exact band_le _ _
  have l1 : b1 ≤ 6148914691236517205 := by rw [hB1]; exact band_le _ _
  obtain ⟨a2, hA2⟩ : ∃ a, a = band ((a1 + b1) / 4) 3689348814741910323 := ⟨_, rfl⟩
  obtain ⟨b2, hB2⟩ : ∃ a, a = band (a1 + b1) 3689348814741910323 := ⟨_, rfl⟩
  have k2 : a2 ≤ 3689348814741910323 := by rw [hA2]; exact band_le _ _
  have l2 : b2 ≤ 3689348814741910323 := by rw [hB2]; exact band_le _ _
  obtain ⟨a3, hA3⟩ : ∃ a, a = band ((a2 + b2) / 16 + (a2 + b2)) 1085102592571150095 := ⟨_, rfl⟩
  have k3 : a3 ≤ 1085102592571150095 := by rw [hA3]; exact band_le _ _
  obtain ⟨a4, hA4⟩ : ∃ a, a = a3 + a3 / 256 := ⟨_, rfl⟩
  obtain ⟨a5, hA5⟩ : ∃ a, a = a4 + a4 / 65536 := ⟨_, rfl⟩
  obtain ⟨a6, hA6⟩ : ∃ a, a = a5 + a5 / 4294967296 := ⟨_, rfl⟩
  have hfin : pop64 x = band a6 127 := by rw [hA6, hA5, hA4, hA3, hB2, hA2, hB1, hA1]; rfl
  have e1 : bits .and .u64 ((x : Int) / 2) 6148914691236517205 = (a1 : Int) := by rw [hA1]; exact bits_and_u64 (x / 2) 6148914691236517205 (by omega) (by decide)
  have e2 : bits .and .u64 (x : Int) 6148914691236517205 = (b1 : Int) := by rw [hB1]; exact bits_and_u64 x 6148914691236517205 hx (by decide)
  have e3 : bits .and .u64 (((a1 : Int) + b1) / 4) 3689348814741910323 = (a2 : Int) := by rw [hA2]; exact bits_and_u64 ((a1 + b1) / 4) 3689348814741910323 (by omega) (by decide)
  have e4 : bits .and .u64 ((a1 : Int) + b1) 3689348814741910323 = (b2 : Int) := by
    rw [hB2]
    unfold bits
    show IntKind.u64.wrap ((BitVec.ofInt 64 ((a1 + b1 : Nat) : Int) &&& BitVec.ofInt 64 ((3689348814741910323 : Nat) : Int)).toNat : Int) = _
    rw [BitVec.toNat_and, toNat_ofInt_u64 _ (by omega), toNat_ofInt_u64 _ (by decide)]
    have : a1 + b1 &&& 3689348814741910323 ≤ 3689348814741910323 := Nat.and_le_right
    exact IntWalk.u64_in _ (by omega)
  have e5 : bits .and .u64 (((a2 : Int) + b2) / 16 + (a2 + b2)) 1085102592571150095 = (a3 : Int) := by rw [hA3]; exact bits_and_u64 ((a2 + b2) / 16 + (a2 + b2)) 1085102592571150095 (by omega) (by decide)
  have k6 : a6 < 2 ^ 63 := by omega
  have e6 : bits .and .i64 ((a3 : Int) + a3 / 256 + (a3 + a3 / 256) / 65536 + (a3 + a3 / 256 + (a3 + a3 / 256) / 65536) / 4294967296) 127 = (band a6 127 : Int) := by
    have := bits_and a6 127 k6 (by decide)
    rw [← this, hA6, hA5, hA4]
    simp
  have HF := Lib.hid hfin
  clear hfin hA1 hA2 hA3 hA4 hA5 hA6 hB1 hB2
  go_enter Tryz.func167, Tryz.ntmps167
  go_wp2
  go_ret
  rw [HF.out]
  exact ⟨rfl, rfl⟩
theorem size_c (s : Nat) (hs : s < 2 ^ 63) (w : World) :
    Calls Tryz.prog 65 #[.int .i64 s] w fun e w' => e = .returned (.int .i64 (pop64 s : Nat)) ∧ w = w' := by
  go_enter Tryz.func65, Tryz.ntmps65
  go_wp2_with (first | (go_at_call 167; refine (pop64_c _ hs _).mono ?_; rintro e w' ⟨rfl, rfl⟩) | (go_at_call 128; go_in))
  go_ret
  exact ⟨rfl, rfl⟩
end Go.Proofs.YtkmfmhckpfomeaaGreatDoor

/- The contracts of the loops over a slice of integers: equal lists, marks, a function's answer on each, and the reference's counts. No condition but the bounds that each names. -/
namespace Go.Proofs.YtkmfmhckpfomeaaGreatDoor
open Go.RowKit
open BigFrame

theorem set_next (xs : List Int) (k : Nat) (h : k < xs.length) : (xs.take k ++ List.replicate (xs.length - k) 0).set k (xs.getD k 0) = xs.take (k + 1) ++ List.replicate (xs.length - (k + 1)) 0 := by
  rw [List.set_append_right _ _ (by simp; omega)]
  rw [show xs.length - k = (xs.length - (k + 1)) + 1 from by omega, List.replicate_succ, List.length_take, show k - min k xs.length = 0 from by omega, List.set_cons_zero]
  rw [List.take_succ_eq_append_getElem h]
  simp [h, List.append_assoc, -List.take_append_getElem]

theorem eq_lists {xs ys : List Int} (hl : xs.length = ys.length) (h : ∀ j, j < xs.length → xs.getD j 0 = ys.getD j 0) : (xs == ys) = true := by
  rw [beq_iff_eq]
  apply List.ext_getElem hl
  intro i h1 h2
  have := h i h1
  simpa [h1, h2] using this
theorem ne_lists {xs ys : List Int} {k : Nat} (h : xs.getD k 0 ≠ ys.getD k 0) : (xs == ys) = false := by
  rw [beq_eq_false_iff_ne]
  rintro rfl
  exact h rfl
theorem ret_bool {a b : Bool} (h : a = b) : Ending.returned (.bool a) = .returned (.bool b) := by rw [h]
theorem ret_int {k : IntKind} {a b : Int} (h : a = b) : Ending.returned (.int k a) = .returned (.int k b) := by rw [h]

/-- The numbers from k on. -/
def upFrom (k n : Nat) : List Int := (List.range n).map fun i => ((k + i : Nat) : Int)
theorem upFrom_length (k n : Nat) : (upFrom k n).length = n := by simp [upFrom]
theorem upFrom_get (k n i : Nat) (h : i < n) : (upFrom k n).getD i 0 = ((k + i : Nat) : Int) := by simp [upFrom, h]
theorem mark_next (xs : List Int) (k j : Nat) (h : j < xs.length) : (upFrom k j ++ xs.drop j).set j ((k + j : Nat) : Int) = upFrom k (j + 1) ++ xs.drop (j + 1) := by
  rw [List.set_append_right _ _ (by simp [upFrom_length])]
  rw [upFrom_length, Nat.sub_self, List.drop_eq_getElem_cons h, List.set_cons_zero]
  unfold upFrom
  rw [List.range_succ]
  simp

/-- The place of the first number for which p holds, or -1. -/
def firstAt (p : Int → Bool) : Nat → List Int → Int
  | _, [] => -1
  | k, x :: r => if p x then (k : Int) else firstAt p (k + 1) r
theorem firstAt_any (p : Int → Bool) (l : List Int) (k : Nat) : decide (0 ≤ firstAt p k l) = l.any p := by
  induction l generalizing k with
  | nil => simp [firstAt]
  | cons x r ih =>
    unfold firstAt
    rw [List.any_cons]
    cases hp : p x
    · simp [ih]
    · simp
theorem firstAt_of (p : Int → Bool) (l : List Int) (k : Nat) (hk : k < l.length) (h : ∀ j, j < k → p (l.getD j 0) = false) (hp : p (l.getD k 0) = true) : ∀ m, firstAt p m l = (m + k : Nat) := by
  induction l generalizing k with
  | nil => simp at hk
  | cons x r ih =>
    intro m
    unfold firstAt
    cases k with
    | zero => simp at hp; simp [hp]
    | succ k =>
      have h0 := h 0 (by omega)
      simp at h0
      rw [h0]
      simp only [Bool.false_eq_true, if_false]
      rw [ih k (by simpa using hk) (fun j hj => by simpa using h (j + 1) (by omega)) (by simpa using hp) (m + 1)]
      congr 1; omega
theorem firstAt_none (p : Int → Bool) (l : List Int) (h : ∀ j, j < l.length → p (l.getD j 0) = false) : ∀ m, firstAt p m l = -1 := by
  induction l with
  | nil => intro m; rfl
  | cons x r ih =>
    intro m
    unfold firstAt
    have h0 := h 0 (by simp)
    simp at h0
    rw [h0]
    simp only [Bool.false_eq_true, if_false]
    exact ih (fun j hj => by simpa using h (j + 1) (by simpa using hj)) (m + 1)

set_option maxHeartbeats 400000 in
theorem indexFunc_c (v : Value) (xs : List Int) (K : Nat) (cap : Array Value) (p : Int → Bool) (w : World) (hv : Rd w v xs) (hm : xs.length ≤ 1048576)
    (eg : ∀ args w, (callFunc K args).run Tryz.prog w = .ok (.enter K args) w)
    (hf : ∀ x, x ∈ xs → ∀ w', Ext w w' → Calls Tryz.prog K (#[.int .i64 x] ++ cap) w' fun e w'' => e = .returned (.bool (p x)) ∧ Ext w' w'') :
    Calls Tryz.prog 202 #[v, .func (.func K) #[] cap] w fun e w' => e = .returned (.int .i64 (firstAt p 0 xs)) ∧ Ext w w' := by
  obtain ⟨a, c, rfl⟩ := hv.form
  have HV := Lib.hid hv; clear hv
  have HF := Lib.hid hf; clear hf
  go_enter Tryz.func202, Tryz.ntmps202
  go_wp2
  go_loopw [8] (fun i wr => ∃ k : Nat, k ≤ xs.length ∧ i = .int .i64 k ∧ (∀ j, j < k → p (xs.getD j 0) = false) ∧ Ext w wr) (fun i _ => xs.length - (intOf i).toNat)
  case atStart => exact ⟨0, Nat.zero_le _, rfl, by simp, Ext.refl _⟩
  case round =>
    obtain ⟨k, hk, rfl, hj, hx⟩ := hrel
    have HJ := Lib.hid hj; clear hj
    have HX := Lib.hid hx; clear hx
    by_cases hlt : k < xs.length
    · obtain ⟨b, o, rfl, -, -, hc⟩ := HV.out.at hlt
      replace hc := hc _ HX.out
      have HF1 := HF.out xs[k] (List.getElem_mem hlt) wr HX.out
      cases hp : p xs[k] <;> rw [hp] at HF1
      · go_wp2_with fail
        refine HF1.mono ?_
        rintro e w' ⟨rfl, hx'⟩
        go_wp2
        go_roundw
        case rel => exact ⟨k + 1, by omega, by go_num, fun j hj => by
          by_cases h : j = k
          · subst h; simpa [hlt] using hp
          · exact HJ.out j (by omega), HX.out.trans hx'⟩
        case measure => simp [intOf]; omega
      · go_wp2_with fail
        refine HF1.mono ?_
        rintro e w' ⟨rfl, hx'⟩
        go_wp2
        go_ret
        exact ⟨ret_int (by rw [firstAt_of p xs k hlt HJ.out (by simpa [hlt] using hp) 0]; simp), HX.out.trans hx'⟩
    · go_wp2
      go_ret
      obtain rfl : k = xs.length := by omega
      exact ⟨ret_int (firstAt_none p xs HJ.out 0).symm, HX.out⟩

theorem containsFunc_c (v : Value) (xs : List Int) (K : Nat) (cap : Array Value) (p : Int → Bool) (w : World) (hv : Rd w v xs) (hm : xs.length ≤ 1048576)
    (eg : ∀ args w, (callFunc K args).run Tryz.prog w = .ok (.enter K args) w)
    (hf : ∀ x, x ∈ xs → ∀ w', Ext w w' → Calls Tryz.prog K (#[.int .i64 x] ++ cap) w' fun e w'' => e = .returned (.bool (p x)) ∧ Ext w' w'') :
    Calls Tryz.prog 180 #[v, .func (.func K) #[] cap] w fun e w' => e = .returned (.bool (xs.any p)) ∧ Ext w w' := by
  have C := indexFunc_c v xs K cap p w hv hm eg hf
  have HA := Lib.hid (firstAt_any p xs 0)
  generalize firstAt p 0 xs = q at *
  have HC := Lib.hid C; clear C hf hv eg
  go_enter Tryz.func180, Tryz.ntmps180
  go_wp2_with (go_at_call 202; refine HC.out.mono ?_; rintro e w' ⟨rfl, hx⟩)
  go_ret
  exact ⟨ret_bool HA.out, by assumption⟩

theorem isKind_c (k : Int) (w : World) :
    Calls Tryz.prog 40 #[.int .i64 k] w fun e w' => e = .returned (.bool (inB 0 k 3)) ∧ w = w' := by
  go_enter Tryz.func40, Tryz.ntmps40
  go_wp2_with (go_at_call 36; refine (in_c _ _ _ _).mono ?_; rintro e w' ⟨rfl, rfl⟩)
  go_ret
  exact ⟨rfl, rfl⟩
theorem l2Kind_c (k : Int) (w : World) :
    Calls Tryz.prog 159 #[.int .i64 k] w fun e w' => e = .returned (.bool (inB 0 k 3)) ∧ w = w' := by
  go_enter Tryz.func159, Tryz.ntmps159
  go_wp2_with (go_at_call 37; refine (l6In_c _ _ _ _).mono ?_; rintro e w' ⟨rfl, rfl⟩)
  go_ret
  exact ⟨rfl, rfl⟩
theorem isFew_c (k : Int) (w : World) :
    Calls Tryz.prog 145 #[.int .i64 k] w fun e w' => e = .returned (.bool (inB 0 k 3)) ∧ w = w' := by
  go_enter Tryz.func145, Tryz.ntmps145
  go_wp2_with (go_at_call 36; refine (in_c _ _ _ _).mono ?_; rintro e w' ⟨rfl, rfl⟩)
  go_ret
  exact ⟨rfl, rfl⟩
theorem isBorne_c (k : Int) (w : World) :
    Calls Tryz.prog 177 #[.int .i64 k] w fun e w' => e = .returned (.bool (inB 0 k 4)) ∧ w = w' := by
  go_enter Tryz.func177, Tryz.ntmps177
  go_wp2_with (go_at_call 36; refine (in_c _ _ _ _).mono ?_; rintro e w' ⟨rfl, rfl⟩)
  go_ret
  exact ⟨rfl, rfl⟩
theorem l2Set_c (v : Value) (g : List Int) (code : Int) (w : World) (hv : Rd w v g) (hg : g.length ≤ 62) :
    Calls Tryz.prog 118 #[v, .int .i64 code] w fun e w' => e = .returned (.bool (setB code g.length)) ∧ w = w' := by
  obtain ⟨a, c, rfl⟩ := hv.form
  clear hv
  obtain ⟨p, hp, hp1, hp2, hp3⟩ := pow_var g.length hg
  have HP := Lib.hid hp; clear hp
  have e0 : min g.length 64 = g.length := by omega
  go_enter Tryz.func118, Tryz.ntmps118
  go_wp2_with (go_at_call 37; refine (l6In_c _ _ _ _).mono ?_; rintro e w' ⟨rfl, rfl⟩)
  go_ret
  exact ⟨by unfold setB; rw [HP.out]; rfl, rfl⟩

/-- How many of the first k nodes are in a set. -/
def cntTo (s k : Nat) : Nat := (List.range k).countP fun i => s.testBit i
theorem cntTo_succ (s k : Nat) : cntTo s (k + 1) = cntTo s k + (s.testBit k).toNat := by
  unfold cntTo
  rw [List.range_succ, List.countP_append]
  cases h : s.testBit k <;> simp [h]
theorem cntTo_le (s k : Nat) : cntTo s k ≤ k := by
  unfold cntTo
  exact Nat.le_trans List.countP_le_length (by simp)
set_option maxHeartbeats 400000 in
theorem l1Count_c (s : Nat) (hs : s < 2 ^ 62) (w : World) :
    Calls Tryz.prog 156 #[.int .i64 s] w fun e w' => e = .returned (.int .i64 (cnt s : Nat)) ∧ w = w' := by
  go_enter Tryz.func156, Tryz.ntmps156
  go_wp2
  go_loop [3, 4] (fun n i => ∃ k : Nat, k ≤ 12 ∧ i = .int .i64 k ∧ n = .int .i64 (cntTo s k : Nat)) (fun _ i => 12 - (intOf i).toNat)
  case atStart => exact ⟨0, Nat.zero_le _, rfl, rfl⟩
  case round =>
    obtain ⟨k, hk, rfl, rfl⟩ := hrel
    have h1 := cntTo_le s k
    have h2 : (s.testBit k).toNat ≤ 1 := by cases s.testBit k <;> decide
    have H3 := Lib.hid (cntTo_succ s k)
    generalize hq : cntTo s k = q at *
    have H4 := Lib.hid hq; clear hq
    by_cases hlt : k < 12
    · go_wp2_with (go_at_call 152; refine (l1Bit_c s k hs (by omega) _).mono ?_; rintro e w' ⟨rfl, rfl⟩)
      go_round
      case rel => exact ⟨k + 1, by omega, by go_num, by rw [H3.out]; go_num⟩
      case measure => simp [intOf]; omega
    · go_wp2
      go_ret
      obtain rfl : k = 12 := by omega
      exact ⟨by rw [← H4.out]; rfl, rfl⟩
theorem sizeC (m : Nat) (hm : m ≤ 4095) (w : World) : Calls Tryz.prog 65 #[.int .i64 m] w fun e w' => e = .returned (.int .i64 (cnt m : Nat)) ∧ w = w' := by
  have h := size_c m (by omega) w
  rwa [pop64_small m (by omega)] at h

end Go.Proofs.YtkmfmhckpfomeaaGreatDoor

/- One number put behind a row of the call's own. The condition: the row has at most 2^20 numbers. -/
namespace Go.Proofs.YtkmfmhckpfomeaaGreatDoor
open Go.RowKit
open BigFrame

theorem wpList_append_int {ops : Array Oper} {rest : List Oper} {o : Oper} {a : Act} {Q : Exit → Act → World → Prop} {w : World} (hgd : o.guard = none) (s x : Operand)
    (ho : o.op = .call { callee := .builtin .append, args := #[s, x], argTypes := #[29, 29] })
    (base : Nat) (v : Value) (xs : List Int) (hs : a.eval s = v) (hown : Own w base v xs) (g : Nat) (y : Int) (hx : a.eval x = .slice (some ⟨g, 0, none⟩) 1 1)
    (hc : w.cell? ⟨g, 0, none⟩ = some (.int .i64 y)) (hn : xs.length ≤ 1048576) (hb : base ≤ w.heap.size)
    (h : ∀ v' w', Own w' base v' (xs ++ [y]) → w.grownBy w' v.ownBlock → v' ≠ .slice none 0 0 → wpList Tryz.prog ops Q rest (a.put o.dst v') w') : wpList Tryz.prog ops Q (o :: rest) a w := by
  obtain ⟨i0, hi, hz0, hz1, hz2⟩ := info_parts info_int
  refine wpList_append_own w hgd s x 29 ho base 3 i0 (.int .i64 0) 1 8 Tryz.underlying29 hi hz0 hz1 hz2 rfl (by decide) v xs.length _ hs hown ⟨g, 0, none⟩ 1 1 [.int .i64 y] hx rfl ?_ (fun u hu => by simp at hu; subst hu; rfl) (by unfold maxLen; omega) (by omega) hb ?_
  · intro j u hu
    cases j with
    | zero => simp at hu; subst hu; exact hc
    | succ j => simp at hu
  · intro v' w' h1 h2 h3
    refine h v' w' ?_ h2 ?_
    · unfold Own; simpa using h1
    · intro h'
      have := (h3.1 h').2
      omega
/-- The same in a statement that draws its order. -/
theorem step_append_int {ops : Array Oper} {o : Oper} {a : Act} {K : Act → World → Prop} {Q : Exit → Act → World → Prop} {E : Prop} {w : World} (hgd : o.guard = none) (s x : Operand)
    (ho : o.op = .call { callee := .builtin .append, args := #[s, x], argTypes := #[29, 29] })
    (base : Nat) (v : Value) (xs : List Int) (hs : a.eval s = v) (hown : Own w base v xs) (g : Nat) (y : Int) (hx : a.eval x = .slice (some ⟨g, 0, none⟩) 1 1)
    (hc : w.cell? ⟨g, 0, none⟩ = some (.int .i64 y)) (hn : xs.length ≤ 1048576) (hb : base ≤ w.heap.size)
    (h : ∀ v' w', Own w' base v' (xs ++ [y]) → w.grownBy w' v.ownBlock → v' ≠ .slice none 0 0 → K (a.put o.dst v') w') :
    if Region.wanted o (yielded ops a.tmps) = true then Oper.wp Tryz.prog o a w K Q else E := by
  obtain ⟨i0, hi, hz0, hz1, hz2⟩ := info_parts info_int
  refine step_append_lies w hgd s x 29 ho base 3 i0 (.int .i64 0) 1 8 Tryz.underlying29 hi hz0 hz1 hz2 rfl (by decide) v xs.length _ hs hown ⟨g, 0, none⟩ 1 1 [.int .i64 y] hx rfl ?_ (fun u hu => by simp at hu; subst hu; rfl) (by omega) (by unfold maxLen; omega) (by omega) hb _ rfl ?_
  · intro j u hu
    cases j with
    | zero => simp at hu; subst hu; exact hc
    | succ j => simp at hu
  · intro g' cap w' h1 h2 _ _
    refine h _ w' ?_ h2 (by simp)
    unfold Own; simpa using h1
theorem Own.lt {w : World} {base : Nat} {v : Value} {xs : List Int} (h : Own w base v xs) : ∀ k, v.ownBlock = some k → base ≤ k ∧ k < w.heap.size := World.ownsRow.lt h
theorem Own.grew {W w w' : World} {base : Nat} {v : Value} {xs : List Int} (h : Own w base v xs) (hx : Ext W w) (hg : w.grownBy w' v.ownBlock) (hb : W.heap.size ≤ base) : Ext W w' :=
  hx.grown hg fun k hk => Nat.le_trans hb (h.lt k hk).1
theorem Own.alloc {w : World} {base : Nat} {v : Value} {xs : List Int} (h : Own w base v xs) (o : Obj) : Own (w.alloc o) base v xs := World.ownsRow.alloc h o
/-- The same, with the word where the row lies afterwards. -/
theorem wpList_append_int2 {ops : Array Oper} {rest : List Oper} {o : Oper} {a : Act} {Q : Exit → Act → World → Prop} {w : World} (hgd : o.guard = none) (s x : Operand)
    (ho : o.op = .call { callee := .builtin .append, args := #[s, x], argTypes := #[29, 29] })
    (base : Nat) (v : Value) (xs : List Int) (hs : a.eval s = v) (hown : Own w base v xs) (g : Nat) (y : Int) (hx : a.eval x = .slice (some ⟨g, 0, none⟩) 1 1)
    (hc : w.cell? ⟨g, 0, none⟩ = some (.int .i64 y)) (hn : xs.length ≤ 1048576) (hb : base ≤ w.heap.size)
    (h : ∀ v' w', Own w' base v' (xs ++ [y]) → w.grownBy w' v.ownBlock → (∀ b, v'.ownBlock = some b → v.ownBlock = some b ∨ w.heap.size ≤ b) → wpList Tryz.prog ops Q rest (a.put o.dst v') w') : wpList Tryz.prog ops Q (o :: rest) a w := by
  obtain ⟨i0, hi, hz0, hz1, hz2⟩ := info_parts info_int
  refine wpList_append_lies w hgd s x 29 ho base 3 i0 (.int .i64 0) 1 8 Tryz.underlying29 hi hz0 hz1 hz2 rfl (by decide) v xs.length _ hs hown ⟨g, 0, none⟩ 1 1 [.int .i64 y] hx rfl ?_ (fun u hu => by simp at hu; subst hu; rfl) (by omega) (by unfold maxLen; omega) (by omega) hb _ rfl ?_
  · intro j u hu
    cases j with
    | zero => simp at hu; subst hu; exact hc
    | succ j => simp at hu
  · intro g' cap w' h1 h2 h3 _
    refine h _ w' ?_ h2 ?_
    · unfold Own; simpa using h1
    · intro b hb
      simp only [Value.ownBlock, Option.some.injEq] at hb
      subst hb
      exact h3.imp id (fun e => by omega)
/-- A row of another block stays. -/
theorem Own.kept {w w' : World} {base : Nat} {v : Value} {xs : List Int} {row : Option Nat} (h : Own w base v xs) (hg : w.grownBy w' row) (hne : v.ownBlock = none ∨ v.ownBlock ≠ row) : Own w' base v xs := World.ownsRow.kept h hg hne
theorem one_cell (w : World) (x : Value) (t : TypeId) : (w.alloc (.cells #[x] t)).cell? ⟨w.heap.size, 0, none⟩ = some x := by
  have h := World.alloc_heap_new w (.cells #[x] t)
  generalize w.alloc (.cells #[x] t) = W at h ⊢
  simp [World.cell?, h]
/-- An empty row that has been laid. -/
theorem Own.lit (w : World) : Own (w.alloc (.cells #[] 3)) w.heap.size (.slice (some ⟨w.heap.size, 0, none⟩) 0 0) [] :=
  World.ownsRow_lit w #[] 0 (Nat.le_refl _) (by unfold maxLen; omega) rfl
end Go.Proofs.YtkmfmhckpfomeaaGreatDoor

/- The plain functions of this seat: graphs, pools. No program in sight. No condition. -/
namespace Go.Proofs.YtkmfmhckpfomeaaGreatDoor

/-! ### Graphs: lists of sets -/
/-- Row i as a number that may be any. -/
def getI (g : List Int) (i : Nat) : Int := g.getD i 0
/-- Row i as a set. -/
def gN (g : List Int) (i : Nat) : Nat := (getI g i).toNat
def rowOk (g : List Int) (i : Nat) : Bool := setB (getI g i) g.length && !(gN g i).testBit i
def symOk (g : List Int) (i k : Nat) : Bool := (gN g i).testBit k == (gN g k).testBit i
def graphIn (g : List Int) : Bool :=
  inB 1 g.length 12 && (List.range g.length).all (rowOk g) && (List.range g.length).all fun i => (List.range g.length).all fun k => symOk g i k
structure IsGraph (g : List Int) : Prop where
  pos : 1 ≤ g.length
  le : g.length ≤ 12
  row : ∀ i, i < g.length → getI g i = (gN g i : Int)
  lt : ∀ i, gN g i < 2 ^ g.length
  self : ∀ i, (gN g i).testBit i = false
  sym : ∀ i k, (gN g i).testBit k = (gN g k).testBit i
theorem getI_out {g : List Int} {i : Nat} (h : g.length ≤ i) : getI g i = 0 := by simp [getI, h]
theorem gN_out {g : List Int} {i : Nat} (h : g.length ≤ i) : gN g i = 0 := by simp [gN, getI_out h]
theorem row_of_set {g : List Int} {i : Nat} (h : setB (getI g i) g.length = true) : getI g i = (gN g i : Int) ∧ gN g i < 2 ^ g.length := by
  obtain ⟨m, hm, hlt⟩ := setB_iff.1 h
  unfold gN
  rw [hm]
  exact ⟨rfl, by simpa using hlt⟩
theorem testBit_out {x n i : Nat} (h : x < 2 ^ n) (hi : n ≤ i) : x.testBit i = false :=
  Nat.testBit_lt_two_pow (Nat.lt_of_lt_of_le h (Nat.pow_le_pow_right (by omega) hi))
theorem graphIn_iff {g : List Int} : graphIn g = true ↔ IsGraph g := by
  unfold graphIn
  simp only [Bool.and_eq_true, List.all_eq_true, List.mem_range, inB_iff, rowOk, symOk, beq_iff_eq, Bool.not_eq_true']
  constructor
  · rintro ⟨⟨⟨h1, h2⟩, h3⟩, h4⟩
    have hlt : ∀ i, gN g i < 2 ^ g.length := fun i => by
      by_cases hi : i < g.length
      · exact (row_of_set (h3 i hi).1).2
      · rw [gN_out (by omega)]; exact Nat.two_pow_pos _
    have hself : ∀ i, (gN g i).testBit i = false := fun i => by
      by_cases hi : i < g.length
      · exact (h3 i hi).2
      · rw [gN_out (by omega)]; exact Nat.zero_testBit _
    refine ⟨by omega, by omega, fun i hi => (row_of_set (h3 i hi).1).1, hlt, hself, fun i k => ?_⟩
    by_cases hi : i < g.length
    · by_cases hk : k < g.length
      · exact h4 i hi k hk
      · rw [testBit_out (hlt i) (by omega), gN_out (i := k) (by omega), Nat.zero_testBit]
    · by_cases hk : k < g.length
      · rw [testBit_out (hlt k) (by omega), gN_out (i := i) (by omega), Nat.zero_testBit]
      · rw [gN_out (i := i) (by omega), gN_out (i := k) (by omega), Nat.zero_testBit, Nat.zero_testBit]
  · intro h
    refine ⟨⟨⟨by have := h.pos; omega, by have := h.le; omega⟩, fun i hi => ⟨setB_iff.2 ⟨gN g i, h.row i hi, h.lt i⟩, h.self i⟩⟩, fun i _ k _ => h.sym i k⟩
theorem graphIn_len {g : List Int} (h : inB 1 g.length 12 = false) : graphIn g = false := by simp [graphIn, h]
theorem graphIn_row {g : List Int} {i : Nat} (hi : i < g.length) (h : rowOk g i = false) : graphIn g = false := by
  cases hg : graphIn g
  · rfl
  · have := graphIn_iff.1 hg
    unfold rowOk at h
    rw [setB_iff.2 ⟨gN g i, this.row i hi, this.lt i⟩, this.self i] at h
    cases h
theorem graphIn_sym {g : List Int} {i k : Nat} (h : (gN g i).testBit k ≠ (gN g k).testBit i) : graphIn g = false := by
  cases hg : graphIn g
  · rfl
  · exact absurd ((graphIn_iff.1 hg).sym i k) h
theorem graphIn_of {g : List Int} (h0 : inB 1 g.length 12 = true) (h1 : ∀ i, i < g.length → rowOk g i = true) (h2 : ∀ i, i < g.length → ∀ k, k < g.length → (gN g i).testBit k = (gN g k).testBit i) : graphIn g = true := by
  unfold graphIn
  simp only [Bool.and_eq_true, List.all_eq_true, List.mem_range, symOk, beq_iff_eq]
  exact ⟨⟨h0, h1⟩, h2⟩

/-! ### Pools -/
def poolIn (items : Int) (tests : List Int) : Bool := inB 1 items 12 && decide (tests.length ≤ 16) && tests.all fun s => setB s items.toNat
structure IsPool (n : Nat) (tests : List Int) : Prop where
  pos : 1 ≤ n
  le : n ≤ 12
  len : tests.length ≤ 16
  row : ∀ i, i < tests.length → getI tests i = (gN tests i : Int)
  lt : ∀ i, gN tests i < 2 ^ n
theorem poolIn_iff {items : Int} {tests : List Int} : poolIn items tests = true ↔ ∃ n : Nat, items = n ∧ IsPool n tests := by
  unfold poolIn
  simp only [Bool.and_eq_true, inB_iff, List.all_eq_true, decide_eq_true_eq]
  constructor
  · rintro ⟨⟨⟨h1, h2⟩, h3⟩, h4⟩
    have hrow : ∀ i, i < tests.length → ∃ m : Nat, getI tests i = m ∧ m < 2 ^ items.toNat := fun i hi => by
      apply setB_iff.1
      apply h4
      unfold getI
      simp [hi]
    refine ⟨items.toNat, by omega, by omega, by omega, h3, fun i hi => ?_, fun i => ?_⟩
    · obtain ⟨m, hm, _⟩ := hrow i hi
      unfold gN; rw [hm]; rfl
    · by_cases hi : i < tests.length
      · obtain ⟨m, hm, hlt⟩ := hrow i hi
        unfold gN; rw [hm]; simpa using hlt
      · rw [gN_out (by omega)]; exact Nat.two_pow_pos _
  · rintro ⟨n, rfl, h⟩
    refine ⟨⟨⟨by have := h.pos; omega, by have := h.le; omega⟩, h.len⟩, fun s hs => ?_⟩
    obtain ⟨i, hi, rfl⟩ := List.getElem_of_mem hs
    have := h.row i hi
    unfold getI at this
    rw [List.getD_eq_getElem?_getD, List.getElem?_eq_getElem hi, Option.getD_some] at this
    rw [this]
    exact setB_iff.2 ⟨_, rfl, h.lt i⟩
def answersTo (tests : List Int) (wrong : Nat) : Nat → Nat
  | 0 => 0
  | k + 1 => if band (gN tests k) wrong ≠ 0 then bor (answersTo tests wrong k) (2 ^ k) else answersTo tests wrong k
def answersOf (tests : List Int) (wrong : Nat) : Nat := answersTo tests wrong tests.length
theorem answersTo_lt (tests : List Int) (wrong : Nat) : ∀ k, answersTo tests wrong k < 2 ^ k
  | 0 => by simp [answersTo]
  | k + 1 => by
    have h := answersTo_lt tests wrong k
    unfold answersTo
    split
    · exact bor_lt (Nat.lt_of_lt_of_le h (Nat.pow_le_pow_right (by omega) (by omega))) (Nat.pow_lt_pow_right (by omega) (by omega))
    · exact Nat.lt_of_lt_of_le h (Nat.pow_le_pow_right (by omega) (by omega))
def leftTo (n : Nat) (tests : List Int) (answers : Nat) : Nat → Nat
  | 0 => 2 ^ n - 1
  | k + 1 => if answers.testBit k then leftTo n tests answers k else without (leftTo n tests answers k) (gN tests k)
def leftOf (n : Nat) (tests : List Int) (answers : Nat) : Nat := leftTo n tests answers tests.length
theorem leftTo_lt (n : Nat) (tests : List Int) (answers : Nat) : ∀ k, leftTo n tests answers k < 2 ^ n
  | 0 => by have := Nat.two_pow_pos n; simp [leftTo]; omega
  | k + 1 => by
    have h := leftTo_lt n tests answers k
    unfold leftTo
    split
    · exact h
    · exact without_lt h

end Go.Proofs.YtkmfmhckpfomeaaGreatDoor
