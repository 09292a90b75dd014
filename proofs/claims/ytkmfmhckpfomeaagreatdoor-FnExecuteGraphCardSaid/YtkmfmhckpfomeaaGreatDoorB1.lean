/- What the walks of this seat rest on, one part: plain facts, and contracts of the functions that they reach. Each states its own condition. -/
import Derived.RangeFuncNested
import Derived.RangeFuncBound
import Derived.RangeFuncCalls
import Derived.RangeFuncLeaves
import Derived.Shelf.Abstract
import Derived.OwnWalkIn
import Derived.TacticsInMore
import Derived.LoopNIn
import Derived.LoopIn
import Derived.StillTail
import Derived.BigQuiet
import Derived.Test.YtkmfmhckpfomeaaGreatDoorProg
import Derived.KernelRfl
import Derived.WalkKit
import Derived.WalkSpells
import Derived.IntWalk
import Derived.Lib.Hide
set_option linter.all false
set_option linter.unusedSimpArgs false
set_option linter.unusedVariables false
/- The plain functions that the contracts of this seat speak of: sets as numbers, graphs as lists of sets. No program in sight. No condition. -/
namespace Go.Proofs.YtkmfmhckpfomeaaGreatDoor

/-- A number lies in a range. -/
def inB (lo n hi : Int) : Bool := decide (lo ≤ n) && decide (n ≤ hi)
/-- A number is a set of the first n nodes. -/
def setB (s : Int) (n : Nat) : Bool := inB 0 s (((2 ^ n : Nat) : Int) - 1)
theorem inB_iff {lo n hi : Int} : inB lo n hi = true ↔ lo ≤ n ∧ n ≤ hi := by simp [inB]
theorem inB_not {lo n hi : Int} : inB lo n hi = false ↔ n < lo ∨ hi < n := by
  rw [← Bool.not_eq_true, inB_iff]; omega
theorem setB_iff {s : Int} {n : Nat} : setB s n = true ↔ ∃ m : Nat, s = m ∧ m < 2 ^ n := by
  unfold setB
  rw [inB_iff]
  constructor
  · rintro ⟨h1, h2⟩
    exact ⟨s.toNat, by omega, by omega⟩
  · rintro ⟨m, rfl, h⟩
    omega
theorem pow_le_12 {n : Nat} (h : n ≤ 12) : 2 ^ n ≤ 4096 := Nat.pow_le_pow_right (n := 2) (by omega) h
theorem pow_le_16 {n : Nat} (h : n ≤ 16) : 2 ^ n ≤ 65536 := Nat.pow_le_pow_right (n := 2) (by omega) h

/-! ### Sets as numbers, behind names of their own -/
def band (x y : Nat) : Nat := x &&& y
def bor (x y : Nat) : Nat := x ||| y
def bxor (x y : Nat) : Nat := x ^^^ y
def shr (x k : Nat) : Nat := x >>> k
/-- x without the nodes of y. -/
def without (x y : Nat) : Nat := x ^^^ (x &&& y)
theorem without_lt {x y n : Nat} (hx : x < 2 ^ n) : without x y < 2 ^ n := Nat.xor_lt_two_pow hx (Nat.lt_of_le_of_lt Nat.and_le_left hx)
theorem testBit_without (x y i : Nat) : (without x y).testBit i = (x.testBit i && !y.testBit i) := by
  unfold without
  rw [Nat.testBit_xor, Nat.testBit_and]
  cases x.testBit i <;> cases y.testBit i <;> rfl
theorem testBit_band (x y i : Nat) : (band x y).testBit i = (x.testBit i && y.testBit i) := Nat.testBit_and x y i
theorem testBit_bor (x y i : Nat) : (bor x y).testBit i = (x.testBit i || y.testBit i) := Nat.testBit_or x y i
theorem testBit_bxor (x y i : Nat) : (bxor x y).testBit i = (x.testBit i ^^ y.testBit i) := Nat.testBit_xor x y i
theorem band_lt {x y n : Nat} (hx : x < 2 ^ n) : band x y < 2 ^ n := Nat.lt_of_le_of_lt Nat.and_le_left hx
theorem band_le (x y : Nat) : band x y ≤ y := Nat.and_le_right
theorem bor_lt {x y n : Nat} (hx : x < 2 ^ n) (hy : y < 2 ^ n) : bor x y < 2 ^ n := Nat.or_lt_two_pow hx hy
theorem bxor_lt {x y n : Nat} (hx : x < 2 ^ n) (hy : y < 2 ^ n) : bxor x y < 2 ^ n := Nat.xor_lt_two_pow hx hy

/-- How many of the first 12 nodes are in a set. -/
def cnt (s : Nat) : Nat := (List.range 12).countP fun i => s.testBit i
theorem cnt_le (s : Nat) : cnt s ≤ 12 := by
  unfold cnt
  exact Nat.le_trans List.countP_le_length (by simp)

/-- The number of ones of a number of 64 bits, as Go's library counts them. -/
def pop64 (x : Nat) : Nat :=
  let x := band (x / 2) 6148914691236517205 + band x 6148914691236517205
  let x := band (x / 4) 3689348814741910323 + band x 3689348814741910323
  let x := band (x / 16 + x) 1085102592571150095
  let x := x + x / 256
  let x := x + x / 65536
  let x := x + x / 4294967296
  band x 127
theorem pop64_blocks : ∀ a, a < 64 → ∀ b, b < 64 → pop64 (64 * a + b) = cnt (64 * a + b) := by decide +kernel
theorem pop64_small (i : Nat) (h : i < 4096) : pop64 i = cnt i := by
  have := pop64_blocks (i / 64) (by omega) (i % 64) (by omega)
  rwa [show 64 * (i / 64) + i % 64 = i from by omega] at this
theorem pop64_le (x : Nat) : pop64 x ≤ 127 := band_le _ _

end Go.Proofs.YtkmfmhckpfomeaaGreatDoor

/- A statement whose order is drawn: operations that read or call quietly, and behind them a tail whose order is forced: one walk in the text's order serves; in a plain frame and in a round's. No condition. -/
namespace Go.Proofs.YtkmfmhckpfomeaaGreatDoor

section
variable {P : Program} {ops : Array Oper} {md : Region.Mode} {C : World → Prop}

/-- The wide fence, in a plain frame or in the round of a loop. -/
def FW (ro : Option Nat) : Fence := { Fence.wide with round := ro }
@[simp, go_sem] theorem FW_round (ro : Option Nat) : (FW ro).round = ro := rfl
@[simp, go_sem] theorem FW_fn (ro : Option Nat) (f : FuncId) : (FW ro).fn f = True := rfl
@[simp, go_sem] theorem FW_depth (ro : Option Nat) : (FW ro).depth = none := rfl
@[simp, go_sem] theorem wide_fn (f : FuncId) : Fence.wide.fn f = True := rfl
@[simp, go_sem] theorem wide_depth : Fence.wide.depth = none := rfl
theorem FW_none : FW none = Fence.wide := rfl
theorem FW_some (l : Nat) : FW (some l) = Fence.wide.inRound l := rfl
theorem callsFW {ro : Option Nat} {n : Nat} {f : FuncId} {args : Array Value} {w : World} {R : Ending → World → Prop} (h : Calls P f args w R) : CallsIn (FW ro) n P f args w R :=
  (callsIn_wide (n := n)).2 h

/-- None of the operations defers. -/
def noDefer (ops : Array Oper) : Bool := ops.all fun o => match o.op with | .defer _ => false | _ => true
theorem noDefer_spec (h : noDefer ops = true) : ∀ (j : Nat) (o : Oper), ops[j]? = some o → ∀ c, o.op ≠ .defer c := by
  intro j o ho c hc
  have := Array.all_eq_true'.1 h o (Array.mem_of_getElem? ho)
  rw [hc] at this
  simp at this
theorem semAt_FW {ro : Option Nat} (ρ : Operand → Value) (o : Oper) (h : ∀ c, o.op ≠ .defer c) : Oper.semAt (FW ro).round ρ o = execOp ρ o := by
  cases ro with
  | none => exact Oper.semAt_none _ _
  | some l => exact Oper.semAt_some l _ _ h

theorem wpIn_of_quiet {ro : Option Nat} {n : Nat} {o : Oper} {a : Act} {K : Act → Prop} {K' : Act → World → Prop} {Q' : Exit → Act → World → Prop} {w : World} (hd : ∀ c, o.op ≠ .defer c) (hw : C w)
    (h : ∀ a w', C w' → K a → K' a w') (hh : o.quiet P a C K) : o.wpIn (FW ro) n P a w K' Q' := by
  obtain ⟨v, h1, h2⟩ := hh
  have h3 := h1 w hw
  unfold Oper.quietAt at h3
  unfold Oper.wpIn
  refine ⟨fun _ _ => trivial, ?_⟩
  rw [semAt_FW _ _ hd]
  generalize (execOp a.eval o).run P w = r at *
  cases r with
  | ok n w' =>
    cases n <;> simp only [Oper.quietUpon] at h3 <;> simp only [Oper.uponIn]
    case value u =>
      obtain ⟨e1, e2⟩ := h3
      rw [e1, e2]
      exact h _ _ hw h2
    case skip =>
      obtain ⟨e1, e2⟩ := h3
      rw [e1, ← e2]
      exact h _ _ hw h2
    case enter f args =>
      obtain ⟨e1, hc⟩ := h3
      rw [e1]
      exact ⟨fun hs => by simp at hs, callsFW (hc.mono fun e w'' ⟨he, hw''⟩ => by subst he; exact h _ _ hw'' h2)⟩
  | halt x w' => simp only [Oper.quietUpon] at h3

theorem wpOpIn_of_qOp {ro : Option Nat} {n i : Nat} {a : Act} {K : Act → Prop} {K' : Act → World → Prop} {Q' : Exit → Act → World → Prop} {w : World} (hd : noDefer ops = true) (hC : C w)
    (h : ∀ a w', C w' → K a → K' a w') (hh : qOp P ops C i K a) : wpOpIn (FW ro) n P ops Q' i K' a w := by
  unfold qOp at hh
  unfold wpOpIn
  split
  · rename_i ho; simp only [ho] at hh; exact h _ _ hC hh
  · rename_i o ho
    simp only [ho] at hh
    split
    · rename_i hw; simp only [hw, if_true] at hh; exact wpIn_of_quiet (noDefer_spec hd i o ho) hC h hh
    · rename_i hw; simp only [hw] at hh; exact ⟨fun _ _ => trivial, h _ _ hC hh⟩

theorem wpAnyIn_of_quiet {ro : Option Nat} {n : Nat} {Q : Act → Prop} {Q' : Exit → Act → World → Prop} (hd : noDefer ops = true) (hQ : ∀ a w, C w → Q a → Q' .normal a w) : ∀ (fuel : Nat) (listed : Array Bool) (a : Act) (w : World), C w →
    wpAnyQ P md ops C Q fuel listed a → wpAnyIn (FW ro) n P md ops Q' fuel listed a w
  | 0, _, _, _, hw, h => ⟨h.1, hQ _ _ hw h.2⟩
  | fuel + 1, _, _, _, hw, h => ⟨fun h0 => hQ _ _ hw (h.1 h0), fun i hi => wpOpIn_of_qOp hd hw (fun a' w' hw' => wpAnyIn_of_quiet hd hQ fuel _ a' w' hw') (h.2 i hi)⟩

/-- A statement that only reads or calls quietly. -/
theorem wpIn_quiet {ro : Option Nat} {n id : Nat} {Q : Exit → Act → World → Prop} {a : Act} {w : World} {l : List Oper} (hm : P.follows .mixedOrders = true) (hB : Region.lexB .any l.toArray = true) (hd : noDefer l.toArray = true) (hC : C { w with drawn := w.drawn + 1 })
    (h : wpQuiet P l.toArray C (fun a' => ∀ w', C w' → Q .normal a' w') l a) : (Code.region id l.toArray true).wpIn (FW ro) n P Q a w := by
  simp only [Region.lexB, Bool.and_eq_true] at hB
  refine wpIn_region_any hm (wpAnyIn_of_quiet hd (Q := fun a' => ∀ w', C w' → Q .normal a' w') (fun _ w' hw' h => h w' hw') _ _ _ _ hC ?_)
  have := wpAnyQ_lex (C := C) (md := .any) hB.1 l 0 (Array.replicate l.toArray.size false) a (by simp) (by simpa using hB.2) h
  simpa using this

/-! ### With a tail -/
def wpAnyLQ (P : Program) (md : Region.Mode) (ops : Array Oper) (C : World → Prop) (n : Nat) (L : Array Bool → Act → Prop) : Nat → Array Bool → Act → Prop
  | 0, listed, a => L listed a
  | f + 1, listed, a =>
    Region.ready md ops listed ≠ [] ∧ ∀ i ∈ Region.ready md ops listed, i < n ∧ qOp P ops C i (wpAnyLQ P md ops C n L f (listed.setIfInBounds i true)) a

theorem wpAnyIn_of_head {ro : Option Nat} {m n g : Nat} {L : Array Bool → Act → Prop} {Q' : Exit → Act → World → Prop} (hd : noDefer ops = true) (hL : ∀ listed a w, C w → L listed a → wpAnyIn (FW ro) m P md ops Q' g listed a w) :
    ∀ (f : Nat) (listed : Array Bool) (a : Act) (w : World), C w → wpAnyLQ P md ops C n L f listed a → wpAnyIn (FW ro) m P md ops Q' (f + g) listed a w
  | 0, listed, a, w, hw, h => by rw [Nat.zero_add]; exact hL _ _ _ hw h
  | f + 1, listed, a, w, hw, h => by
    rw [show f + 1 + g = (f + g) + 1 by omega]
    exact ⟨fun h0 => absurd h0 h.1, fun i hi => wpOpIn_of_qOp hd hw (fun a' w' hw' h' => wpAnyIn_of_head hd hL f _ a' w' hw' h') (h.2 i hi).2⟩

theorem wpAnyLQ_first {n i : Nat} {oi : Oper} {v : Value} {L : Array Bool → Act → Prop} (hi : ops[i]? = some oi) (hsel : ∀ (j : Nat) (o : Oper) cs b, ops[j]? = some o → o.op ≠ .select cs b)
    (hs : Region.sinkB md ops n = true) (hc : Region.chainB md ops n = true) (hn : n < ops.size) (hin : i < n)
    (hdone : ∀ listed a, L listed a → ∀ j ∈ Region.ready md ops listed, n ≤ j) :
    ∀ (f : Nat) (listed : Array Bool) (a : Act), HeadInv md ops n listed →
      (∀ j oj, ops[j]? = some oj → j ≠ i → listed.getD j true = false → (∀ e ∈ oj.after, Region.binds md e = true → e.on ≠ i) → oi.apart ops oj = true) →
      i ∈ Region.ready md ops listed → YieldsIn P ops C oi v a →
      wpAnyLQ P md ops C n L f (listed.setIfInBounds i true) (a.put oi.dst v) → wpAnyLQ P md ops C n L (f + 1) listed a := by
  intro f
  induction f with
  | zero =>
    intro listed a inv _ hr hy H
    refine ⟨fun h => (by rw [h] at hr; cases hr), fun j hj => ?_⟩
    have hjn : j < n := by
      rcases Nat.lt_or_ge j n with h | h
      · exact h
      · exact absurd hj (tail_waits hs hc hn inv _ i rfl hin (mem_ready.1 hr).1 j h)
    refine ⟨hjn, ?_⟩
    by_cases hji : j = i
    · subst hji; exact hy.qOp hi H
    · have := hdone _ _ H j (ready_mono hj hji)
      omega
  | succ f ih =>
    intro listed a inv hfree hr hy H
    have hun := (mem_ready.1 hr).1
    refine ⟨fun h => (by rw [h] at hr; cases hr), fun j hj => ?_⟩
    have hjn : j < n := by
      rcases Nat.lt_or_ge j n with h | h
      · exact h
      · exact absurd hj (tail_waits hs hc hn inv _ i rfl hin hun j h)
    refine ⟨hjn, ?_⟩
    by_cases hji : j = i
    · subst hji; exact hy.qOp hi H
    · have h1 := (H.2 j (ready_mono hj hji)).2
      obtain ⟨hjun, oj, hoj, hall⟩ := mem_ready.1 hj
      have hnot : ∀ e ∈ oj.after, Region.binds md e = true → e.on ≠ i := fun e he hb heq => by
        have h1 := hall e he hb
        rw [heq, getD_both hun] at h1
        cases h1
      have h2 := qOp_put hoj (hfree j oj hoj hji hjun hnot) (fun cs b => hsel i oi cs b hi) (fun cs b => hsel j oj cs b hoj) hy h1
      have hfree' : ∀ k ok, ops[k]? = some ok → k ≠ i → (listed.setIfInBounds j true).getD k true = false →
          (∀ e ∈ ok.after, Region.binds md e = true → e.on ≠ i) → oi.apart ops ok = true := fun k ok hk hki hun hno => by
        refine hfree k ok hk hki ?_ hno
        by_cases hjk : j = k
        · subst hjk; exact hjun
        · rw [getD_set_ne true hjk] at hun; exact hun
      refine qOp_mono (fun a' h3 => ih (listed.setIfInBounds j true) a' (inv.set hj hjn) hfree' (ready_mono hr (Ne.symm hji)) h3.1 ?_) h2
      rw [Array.setIfInBounds_comm _ _ hji]
      exact h3.2

theorem wpAnyIn_of_seq {ro : Option Nat} {m : Nat} {Q' : Exit → Act → World → Prop} : ∀ (l : List Oper) (k : Nat) (listed : Array Bool) (a : Act) (w : World), (∀ j, l[j]? = ops[k + j]?) →
    Region.seqB md ops l.length k listed = true → wpListIn (FW ro) m P ops Q' l a w → wpAnyIn (FW ro) m P md ops Q' l.length listed a w
  | [], _, _, _, _, _, hB, h => ⟨by simpa [Region.seqB] using hB, h⟩
  | o :: l, k, listed, a, w, hl, hB, h => by
    have h0 : ops[k]? = some o := by simpa using (hl 0).symm
    simp only [List.length_cons, Region.seqB, Bool.and_eq_true, decide_eq_true_eq] at hB
    refine ⟨fun h1 => (by rw [hB.1] at h1; cases h1), fun i hi => ?_⟩
    rw [hB.1] at hi
    have hik : i = k := by simpa using hi
    subst hik
    have hw : wpOpIn (FW ro) m P ops Q' i (wpListIn (FW ro) m P ops Q' l) a w := by unfold wpOpIn; simp only [h0]; exact h
    exact wpOpIn_mono (fun a' w' h' => wpAnyIn_of_seq l (i + 1) _ a' w' (fun j => by have := hl (j + 1); simpa [Nat.add_assoc, Nat.add_comm 1 j] using this) hB.2 h') hw

theorem wpAnyLQ_lex {n g : Nat} {Lq : Act → Prop} (hsel : Region.noSelect ops = true) (hs : Region.sinkB md ops n = true) (hc : Region.chainB md ops n = true) (hn : n < ops.size) :
    ∀ (l : List Oper) (k : Nat) (listed : Array Bool) (a : Act), (∀ j, j < l.length → l[j]? = ops[k + j]?) → k + l.length = n → HeadInv md ops n listed →
    Region.lexHead md ops g l.length k listed = true → wpQuiet P ops C Lq l a →
    wpAnyLQ P md ops C n (fun listed' a' => Region.seqB md ops g n listed' = true ∧ Lq a') l.length listed a
  | [], k, listed, a, _, hk, _, hB, h => by
    have : k = n := by simpa using hk
    subst this
    exact ⟨by simpa [Region.lexHead] using hB, h⟩
  | o :: l, k, listed, a, hl, hk, inv, hB, h => by
    have h0 : ops[k]? = some o := by simpa using (hl 0 (by simp)).symm
    simp only [List.length_cons, Region.lexHead, Bool.and_eq_true] at hB
    obtain ⟨⟨hr, hf⟩, hB'⟩ := hB
    have hkn : k < n := by simp only [List.length_cons] at hk; omega
    have hr' : k ∈ Region.ready md ops listed := by simpa using hr
    have hst : qOp P ops C k (wpQuiet P ops C Lq l) a := by unfold qOp; simp only [h0]; exact h
    obtain ⟨v, hy, hK⟩ := yieldsIn_of_qOp h0 hst
    exact wpAnyLQ_first h0 (Region.noSelect_spec hsel) hs hc hn hkn (fun listed' a' hL => seqB_ready hL.1) l.length listed a inv (Region.free_spec h0 hf) hr' hy
      (wpAnyLQ_lex hsel hs hc hn l (k + 1) _ _ (fun j hj => by have := hl (j + 1) (by simp; omega); simpa [Nat.add_assoc, Nat.add_comm 1 j] using this) (by simp only [List.length_cons] at hk; omega) (inv.set hr' hkn) hB' hK)

/-- A statement that reads or calls quietly in its first n operations; the others come behind them, one after the other. -/
theorem wpIn_quiet_tail {ro : Option Nat} {m id : Nat} {Q : Exit → Act → World → Prop} {a : Act} {w : World} {l : List Oper} (n : Nat) (hm : P.follows .mixedOrders = true) (hB : Region.lexTailB .any l.toArray n = true) (hd : noDefer l.toArray = true) (hC : C { w with drawn := w.drawn + 1 })
    (h : wpQuiet P l.toArray C (fun a' => ∀ w', C w' → wpListIn (FW ro) m P l.toArray Q (l.drop n) a' w') (l.take n) a) : (Code.region id l.toArray true).wpIn (FW ro) m P Q a w := by
  simp only [Region.lexTailB, Bool.and_eq_true, decide_eq_true_eq] at hB
  obtain ⟨⟨⟨⟨hsel, hn⟩, hs⟩, hc⟩, hlex⟩ := hB
  have hn' : n < l.length := by simpa using hn
  have htl : (l.take n).length = n := by simp; omega
  have hdl : (l.drop n).length = l.toArray.size - n := by simp
  have inv0 : HeadInv .any l.toArray n (Array.replicate l.toArray.size false) :=
    ⟨by simp, fun j oj _ hl => (by rw [getD_replicate_false] at hl; cases hl), fun t _ ht => getD_in (by simpa using ht) (getD_replicate_false _ _)⟩
  have H := wpAnyLQ_lex (md := .any) (g := l.toArray.size - n) hsel hs hc hn (l.take n) 0 _ a (fun j hj => by
    have hj' : j < n := by rw [htl] at hj; exact hj
    simp [hj']) (by simpa using htl) inv0 (by rw [htl]; exact hlex) h
  refine wpIn_region_any hm ?_
  have := wpAnyIn_of_head (ro := ro) (m := m) (Q' := Q) (g := l.toArray.size - n) hd (fun listed a' w' hw' hL => by
    have := wpAnyIn_of_seq (ro := ro) (m := m) (md := .any) (Q' := Q) (l.drop n) n listed a' w' (fun j => by simp [List.getElem?_drop]) (by rw [hdl]; exact hL.1) (hL.2 w' hw')
    rwa [hdl] at this) _ _ _ _ hC H
  rw [htl, show n + (l.toArray.size - n) = l.toArray.size by omega] at this
  exact this
end
end Go.Proofs.YtkmfmhckpfomeaaGreatDoor

/- The words that all contracts of this seat share: a world that extends another, a slice of integers that is read, and the class of worlds for a statement whose order is drawn. No condition. -/
namespace Go.Proofs.YtkmfmhckpfomeaaGreatDoor
open Go.RowKit

/-- w' is w with new blocks: whatever lay there lies there as it did. -/
def Ext (w w' : World) : Prop := Below w.heap.size w w'
theorem Ext.refl (w : World) : Ext w w := Below.refl _ w
theorem Ext.trans {a b c : World} (h : Ext a b) (k : Ext b c) : Ext a c := Below.trans h (Below.mono k h.size)
theorem Ext.size {a b : World} (h : Ext a b) : a.heap.size ≤ b.heap.size := Below.size h
theorem Ext.drew {a b : World} (h : Ext a b) : Ext a b.drew := Below.drew h
theorem Ext.alloc {a b : World} (h : Ext a b) (o : Obj) : Ext a (b.alloc o) := Below.alloc h h.size o
theorem Ext.setCell {a b : World} (h : Ext a b) {p : Addr} (hp : a.heap.size ≤ p.block) (u : Value) : Ext a (b.setCell p u) := Below.setCell h hp u
theorem Ext.grown {a b c : World} {row : Option Nat} (h : Ext a b) (hg : b.grownBy c row) (hr : ∀ k, row = some k → a.heap.size ≤ k) : Ext a c := Below.grown h hg h.size hr
theorem Ext.below {B : Nat} {a b : World} (h : Ext a b) (hB : B ≤ a.heap.size) : Below B a b := Below.mono h hB
theorem Ext.cell {a b : World} (h : Ext a b) {x o : Nat} (hx : x < a.heap.size) : b.cell? ⟨x, o, none⟩ = a.cell? ⟨x, o, none⟩ := Below.cell (p := ⟨x, o, none⟩) h hx
theorem Ext.frozen {a b : World} (h : Ext a b) {x o : Nat} (hx : x < a.heap.size) : b.frozen? ⟨x, o, none⟩ = a.frozen? ⟨x, o, none⟩ := Below.frozen (p := ⟨x, o, none⟩) h hx
theorem Ext.block {a b : World} (h : Ext a b) {x : Nat} (hx : x < a.heap.size) : b.heap[x]? = a.heap[x]? := Below.block h x hx
theorem Ext.drewN (w : World) (n : Nat) : Ext w (w.drewN n) := ⟨rfl, rfl, rfl, Nat.le_refl _, fun _ _ => rfl⟩

/-- The worlds that extend w, named by whatever world. -/
noncomputable def clip (w u : World) : World := @ite _ (Ext w u) (Classical.propDecidable _) u w
theorem clip_ext (w u : World) : Ext w (clip w u) := by
  unfold clip
  split
  · assumption
  · exact Ext.refl w
theorem clip_of {w u : World} (h : Ext w u) : clip w u = u := by
  unfold clip
  rw [if_pos h]
theorem clip_cell (w u : World) {x o : Nat} (hx : x < w.heap.size) : (clip w u).cell? ⟨x, o, none⟩ = w.cell? ⟨x, o, none⟩ := (clip_ext w u).cell hx
theorem wp_region_ext {P : Program} {id : Nat} {Q : Exit → Act → World → Prop} {a : Act} {w : World} {l : List Oper} (hm : P.follows .mixedOrders = true) (hB : Region.lexB .any l.toArray = true)
    (h : wpQuiet P l.toArray (fun w' => ∃ u, w' = clip w u) (fun a' => ∀ w', (∃ u, w' = clip w u) → Q .normal a' w') l a) : (Code.region id l.toArray true).wp P Q a w :=
  wp_region_quiet (C := fun w' => ∃ u, w' = clip w u) hm hB ⟨w.drew, (clip_of (Ext.refl w).drew).symm⟩ (by simpa using h)
/-- At a call inside such a statement. -/
theorem Calls.clip_of {P : Program} {f : FuncId} {args : Array Value} {w u : World} {v : Value}
    (h : Calls P f args (clip w u) fun e w' => e = .returned v ∧ Ext (clip w u) w') : Calls P f args (clip w u) fun e w'' => e = .returned v ∧ ∃ u', w'' = clip w u' :=
  h.mono fun _ _ ⟨he, hx⟩ => ⟨he, _, (Proofs.YtkmfmhckpfomeaaGreatDoor.clip_of ((clip_ext w u).trans hx)).symm⟩

theorem Calls.clip_same {P : Program} {f : FuncId} {args : Array Value} {w u : World} {v : Value}
    (h : Calls P f args (clip w u) fun e w' => e = .returned v ∧ clip w u = w') : Calls P f args (clip w u) fun e w'' => e = .returned v ∧ ∃ u', w'' = clip w u' :=
  h.mono fun _ _ ⟨he, hx⟩ => ⟨he, _, hx.symm⟩

/-- A slice of integers that is read, nil or not: its cells lie below the heap's end. -/
def Rd (w : World) (v : Value) (xs : List Int) : Prop :=
  ∃ a c, v = .slice a xs.length c ∧ (xs.length = 0 ∨ ∃ b o, a = some ⟨b, o, none⟩ ∧ b < w.heap.size ∧ xs.length ≤ c ∧ (∀ i, i < xs.length → w.cell? ⟨b, o + i, none⟩ = some (.int .i64 (xs.getD i 0))))
theorem Rd.ext {w w' : World} {v : Value} {xs : List Int} (h : Rd w v xs) (hx : Ext w w') : Rd w' v xs := by
  obtain ⟨a, c, rfl, h⟩ := h
  refine ⟨a, c, rfl, h.imp id ?_⟩
  rintro ⟨b, o, rfl, hb, hc, h⟩
  exact ⟨b, o, rfl, Nat.lt_of_lt_of_le hb hx.size, hc, fun i hi => (hx.cell hb).trans (h i hi)⟩
/-- Its element i: the address, and what the cell holds in every world that extends w. -/
theorem Rd.at {w : World} {a : Option Addr} {n c : Nat} {xs : List Int} (h : Rd w (.slice a n c) xs) {k : Nat} (hk : k < n) :
    ∃ b o, a = some ⟨b, o, none⟩ ∧ n = xs.length ∧ k < xs.length ∧ ∀ w', Ext w w' → w'.cell? ⟨b, o + k, none⟩ = some (.int .i64 (xs.getD k 0)) := by
  obtain ⟨a', c', e, h⟩ := h
  simp only [Value.slice.injEq] at e
  obtain ⟨rfl, rfl, rfl⟩ := e
  rcases h with h | ⟨b, o, rfl, hb, hc, h⟩
  · omega
  · exact ⟨b, o, rfl, rfl, hk, fun w' hx => (hx.cell hb).trans (h k hk)⟩
theorem Rd.len {w : World} {a : Option Addr} {n c : Nat} {xs : List Int} (h : Rd w (.slice a n c) xs) : n = xs.length := by
  obtain ⟨a', c', e, h⟩ := h
  simp only [Value.slice.injEq] at e
  exact e.2.1
theorem Rd.form {w : World} {v : Value} {xs : List Int} (h : Rd w v xs) : ∃ a c, v = .slice a xs.length c := by
  obtain ⟨a, c, rfl, _⟩ := h
  exact ⟨a, c, rfl⟩

/-! ### Bits of numbers that are not negative -/
theorem toNat_ofInt_nat (x : Nat) (h : x < 2 ^ 63) : (BitVec.ofInt 64 (x : Int)).toNat = x := by
  rw [BitVec.ofInt_natCast, BitVec.toNat_ofNat]
  exact Nat.mod_eq_of_lt (by omega)
theorem wrap_i64_nat (x : Nat) (h : x < 2 ^ 63) : IntKind.i64.wrap (x : Int) = x := IntWalk.i64_in _ (by omega)
theorem toNat_ofInt_u64 (x : Nat) (h : x < 2 ^ 64) : (BitVec.ofInt 64 (x : Int)).toNat = x := by
  rw [BitVec.ofInt_natCast, BitVec.toNat_ofNat]
  exact Nat.mod_eq_of_lt h
theorem bits_and (x y : Nat) (hx : x < 2 ^ 63) (hy : y < 2 ^ 63) : bits .and .i64 (x : Int) (y : Int) = (band x y : Int) := by
  unfold bits
  show IntKind.i64.wrap ((BitVec.ofInt 64 x &&& BitVec.ofInt 64 y).toNat : Int) = _
  rw [BitVec.toNat_and, toNat_ofInt_nat x hx, toNat_ofInt_nat y hy]
  exact wrap_i64_nat _ (Nat.and_lt_two_pow _ hy)
theorem bits_and_u64 (x y : Nat) (hx : x < 2 ^ 63) (hy : y < 2 ^ 63) : bits .and .u64 (x : Int) (y : Int) = (band x y : Int) := by
  unfold bits
  show IntKind.u64.wrap ((BitVec.ofInt 64 x &&& BitVec.ofInt 64 y).toNat : Int) = _
  rw [BitVec.toNat_and, toNat_ofInt_nat x hx, toNat_ofInt_nat y hy]
  have : x &&& y < 2 ^ 63 := Nat.and_lt_two_pow _ hy
  exact IntWalk.u64_in _ (by omega)
theorem bits_or (x y : Nat) (hx : x < 2 ^ 63) (hy : y < 2 ^ 63) : bits .or .i64 (x : Int) (y : Int) = (bor x y : Int) := by
  unfold bits
  show IntKind.i64.wrap ((BitVec.ofInt 64 x ||| BitVec.ofInt 64 y).toNat : Int) = _
  rw [BitVec.toNat_or, toNat_ofInt_nat x hx, toNat_ofInt_nat y hy]
  exact wrap_i64_nat _ (Nat.or_lt_two_pow hx hy)
theorem bits_xor (x y : Nat) (hx : x < 2 ^ 63) (hy : y < 2 ^ 63) : bits .xor .i64 (x : Int) (y : Int) = (bxor x y : Int) := by
  unfold bits
  show IntKind.i64.wrap ((BitVec.ofInt 64 x ^^^ BitVec.ofInt 64 y).toNat : Int) = _
  rw [BitVec.toNat_xor, toNat_ofInt_nat x hx, toNat_ofInt_nat y hy]
  exact wrap_i64_nat _ (Nat.xor_lt_two_pow hx hy)
theorem bits_andNot (x y : Nat) (hx : x < 2 ^ 63) (hy : y < 2 ^ 63) : bits .andNot .i64 (x : Int) (y : Int) = (without x y : Int) := by
  unfold bits
  show IntKind.i64.wrap ((BitVec.ofInt 64 x &&& ~~~ BitVec.ofInt 64 y).toNat : Int) = _
  have e : (BitVec.ofInt 64 (x : Int) &&& ~~~ BitVec.ofInt 64 (y : Int)).toNat = without x y := by
    apply Nat.eq_of_testBit_eq
    intro i
    rw [testBit_without]
    have h1 : ∀ z : Nat, z < 2 ^ 63 → ∀ i, (BitVec.ofInt 64 (z : Int)).getLsbD i = z.testBit i := by
      intro z hz i
      rw [← BitVec.testBit_toNat, toNat_ofInt_nat z hz]
    rw [BitVec.testBit_toNat, BitVec.getLsbD_and, BitVec.getLsbD_not, h1 x hx, h1 y hy]
    by_cases hi : i < 64
    · simp [hi]
    · have : x.testBit i = false := Nat.testBit_lt_two_pow (Nat.lt_of_lt_of_le hx (Nat.pow_le_pow_right (by decide) (by omega)))
      simp [this]
  rw [e]
  exact wrap_i64_nat _ (without_lt hx)
theorem div_pow_nat (n k : Nat) : (n : Int) / 2 ^ k = (shr n k : Int) := by
  unfold shr
  rw [Nat.shiftRight_eq_div_pow]
  simp
theorem testBit_shift (n k : Nat) : ((((band (shr n k) 1 : Nat) : Int) == 1) : Bool) = n.testBit k := by
  unfold band shr
  rw [Nat.testBit, Nat.and_comm]
  have h : 1 &&& n >>> k = 0 ∨ 1 &&& n >>> k = 1 := by rw [Nat.and_comm, Nat.and_one_is_mod]; omega
  rcases h with h | h <;> rw [h] <;> rfl
theorem bit_shift (n k : Nat) : band (shr n k) 1 = (n.testBit k).toNat := by
  have h : band (shr n k) 1 = 0 ∨ band (shr n k) 1 = 1 := by unfold band shr; rw [Nat.and_one_is_mod]; omega
  rw [← testBit_shift n k]
  rcases h with h | h <;> rw [h] <;> rfl

/-! ### Slices of integers that the call itself makes -/
theorem info_int : (Tryz.prog.info? 3).map (fun i => (i.zero, i.size, i.bytes)) = some (some (.int .i64 0), 1, 8) := by kernel_rfl
/-- The slice value v leads to a row of the call's own, from block base on, that holds xs. -/
def Own (w : World) (base : Nat) (v : Value) (xs : List Int) : Prop := w.ownsRow base 3 1 v xs.length (xs.map (Value.int .i64))
theorem Own.nil (w : World) (base : Nat) : Own w base (.slice none 0 0) [] := World.ownsRow_nil _ _ _ _
theorem Own.drew {w : World} {base : Nat} {v : Value} {xs : List Int} (h : Own w base v xs) : Own w.drew base v xs := World.ownsRow.drew h
theorem Own.ext {w w' : World} {base : Nat} {v : Value} {xs : List Int} (h : Own w base v xs) (hx : Ext w w') : Own w' base v xs := by
  obtain ⟨h1, h2⟩ := h
  refine ⟨h1, ?_⟩
  rcases h2 with h2 | ⟨g, cap, cur, hv, hg, hh, r⟩
  · exact Or.inl h2
  · exact Or.inr ⟨g, cap, cur, hv, hg, (hx.block (Array.getElem?_eq_some_iff.1 hh).1).trans hh, r⟩
theorem Own.mono {w : World} {base base' : Nat} {v : Value} {xs : List Int} (h : Own w base v xs) (hb : base' ≤ base) : Own w base' v xs := by
  obtain ⟨h1, h2⟩ := h
  refine ⟨h1, ?_⟩
  rcases h2 with h2 | ⟨g, cap, cur, hv, hg, r⟩
  · exact Or.inl h2
  · exact Or.inr ⟨g, cap, cur, hv, Nat.le_trans hb hg, r⟩
theorem Own.len {w : World} {base : Nat} {v : Value} {xs : List Int} (h : Own w base v xs) : xs.length ≤ maxLen := by
  obtain ⟨_, ⟨_, h2⟩ | ⟨g, cap, cur, hv, hg, hh, h3, h4, _⟩⟩ := h
  · omega
  · omega
/-- What it is: nil, or a value at the head of a row, each cell of which is known and may be written. -/
theorem Own.get {w : World} {base : Nat} {v : Value} {xs : List Int} (h : Own w base v xs) :
    (v = .slice none 0 0 ∧ xs = []) ∨ ∃ g c, v = .slice (some ⟨g, 0, none⟩) xs.length c ∧ base ≤ g ∧ g < w.heap.size ∧ xs.length ≤ c ∧ (∀ i, i < xs.length → w.cell? ⟨g, i, none⟩ = some (.int .i64 (xs.getD i 0))) ∧ (∀ i, w.frozen? ⟨g, i, none⟩ = false) := by
  have h0 := h
  obtain ⟨h1, ⟨hv, h2⟩ | ⟨g, cap, cur, hv, hg, hh, h3, h4, h5, h6⟩⟩ := h
  · exact .inl ⟨hv, List.eq_nil_of_length_eq_zero h2⟩
  · subst hv
    refine .inr ⟨g, cap, rfl, hg, (Array.getElem?_eq_some_iff.1 hh).1, h3, fun i hi => ?_, fun i => World.ownsRow.frozenAt h0 i⟩
    rw [World.ownsRow.cellAt h0 i (by omega)]
    simp [hi]
/-- Its element k. -/
theorem Own.at {w : World} {base g c n : Nat} {xs : List Int} (h : Own w base (.slice (some ⟨g, 0, none⟩) n c) xs) :
    n = xs.length ∧ n ≤ c ∧ base ≤ g ∧ g < w.heap.size ∧ (∀ k, k < n → w.cell? ⟨g, k, none⟩ = some (.int .i64 (xs.getD k 0))) ∧ (∀ k, w.frozen? ⟨g, k, none⟩ = false) := by
  rcases h.get with ⟨h, _⟩ | ⟨g', c', e, h1, h2, h3, h4, h5⟩
  · cases h
  · simp only [Value.slice.injEq, Option.some.injEq, Addr.mk.injEq] at e
    obtain ⟨⟨rfl, _, _⟩, rfl, rfl⟩ := e
    exact ⟨rfl, h3, h1, h2, h4, h5⟩
theorem Own.set {w : World} {base g c n : Nat} {xs : List Int} (h : Own w base (.slice (some ⟨g, 0, none⟩) n c) xs) (i : Nat) (z : Int) :
    Own (w.setCell ⟨g, i, none⟩ (.int .i64 z)) base (.slice (some ⟨g, 0, none⟩) n c) (xs.set i z) := by
  have hn : n = xs.length := by
    obtain ⟨_, ⟨hv, _⟩ | ⟨g', cap, cur, hv, _⟩⟩ := h
    · cases hv
    · cases hv; rfl
  subst hn
  have := (World.ownsRow.stored h i (.int .i64 z)).1
  unfold Own
  simpa using this
theorem Own.rd {w : World} {base : Nat} {v : Value} {xs : List Int} (h : Own w base v xs) : Rd w v xs := by
  rcases h.get with ⟨rfl, rfl⟩ | ⟨g, c, rfl, _, hg, hc, h, _⟩
  · exact ⟨none, 0, rfl, .inl rfl⟩
  · exact ⟨_, c, rfl, .inr ⟨g, 0, rfl, hg, hc, fun i hi => by rw [Nat.zero_add]; exact h i hi⟩⟩
/-- A slice of integers that came in. -/
theorem rd_of {w : World} {a : Option Addr} {len cap : Nat} {zs : List Int}
    (h : (a = none ∧ len = 0 ∧ cap = 0 ∧ zs = []) ∨ ∃ x, a = some x ∧ len ≤ cap ∧ cap ≤ maxLen ∧ zs.length = cap ∧ (∀ i, i < zs.length → w.cell? (x.add i) = some (.int .i64 (zs.getD i 0))) ∧ ∀ n ∈ zs, (Lit.int .i64 n).wf = true) :
    Rd w (.slice a len cap) (zs.take len) := by
  rcases h with ⟨rfl, rfl, rfl, rfl⟩ | ⟨⟨b, o, sp⟩, rfl, hl, _, hz, hc, _⟩
  · exact ⟨none, 0, rfl, .inl rfl⟩
  · have hlen : (zs.take len).length = len := by simp; omega
    refine ⟨_, cap, by rw [hlen], ?_⟩
    by_cases h0 : len = 0
    · exact .inl (by omega)
    · have c0 := hc 0 (by omega)
      have hsp : sp = none := by
        cases sp with
        | none => rfl
        | some q =>
          simp [World.cell?, Addr.add] at c0
          split at c0 <;> simp at c0
      subst hsp
      refine .inr ⟨b, o, rfl, ?_, by omega, fun i hi => ?_⟩
      · have := World.block_lt_of_cell? _ _ c0
        simpa [Addr.add] using this
      · have := hc i (by omega)
        rw [Addr.add_lit] at this
        rw [this]
        have h1 : i < zs.length := by omega
        simp [h1, show i < len from by omega]
theorem rd_len {w : World} {a : Option Addr} {len cap : Nat} {xs : List Int} (h : Rd w (.slice a len cap) xs) : xs.length = len := h.len.symm
end Go.Proofs.YtkmfmhckpfomeaaGreatDoor
