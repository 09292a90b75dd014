/- What the walks of this seat rest on, one part: plain facts, and contracts of the functions that they reach. Each states its own condition. -/
import Derived.Test.YtkmfmhckpfomeaaGreatDoorB26
import Derived.Test.YtkmfmhckpfomeaaGreatDoorB9
import Derived.Test.YtkmfmhckpfomeaaGreatDoorB6
import Derived.Test.YtkmfmhckpfomeaaGreatDoorB24
set_option linter.all false
set_option linter.unusedSimpArgs false
set_option linter.unusedVariables false
/- A string written to a builder: what lies apart from the builder stays. The condition: the builder holds at most 2^20 bytes. -/
namespace Go.Proofs.YtkmfmhckpfomeaaGreatDoor
open Go.RowKit
open BigFrame
attribute [local go_sem] Oper.semAt_some

/-- The builder's buffer is another block. -/
def RowAway (w : World) (b k : Nat) : Prop := ∀ v, w.cell? ⟨b, 1, none⟩ = some v → some k ≠ v.ownBlock
theorem copyCheck_f (B b : Nat) (bs : List Value) (w : World) (h : Lib.IsBuilder 51 5 B b bs w) :
    Calls Tryz.prog 49 #[.pointer (some ⟨b, 0, none⟩)] w fun e w' => e = .returned (.tuple #[]) ∧ Lib.BuilderAt 51 5 B b (.pointer (some ⟨b, 0, none⟩)) bs w' ∧ Below B w w' ∧ (∀ k, k ≠ b → w'.heap[k]? = w.heap[k]?) ∧ w'.cell? ⟨b, 1, none⟩ = w.cell? ⟨b, 1, none⟩ ∧ w'.heap.size = w.heap.size := by
  rcases h with h | h
  · refine (copyCheck_fresh b w h.cell0 h.shape h.frozen0).mono ?_
    rintro e w' ⟨rfl, rfl⟩
    refine ⟨rfl, h.used _, (Below.refl B w).setCell (p := ⟨b, 0, none⟩) h.1 _, fun k hk => ?_, World.cell?_setCell_other _ _ _ _ (by simp), by simp⟩
    show (w.heap.modify b _)[k]? = _
    rw [Array.getElem?_modify, if_neg (fun e => hk e.symm)]
  · refine (copyCheck_used b w h.cell0).mono ?_
    rintro e w' ⟨rfl, rfl⟩
    exact ⟨rfl, h, Below.refl B _, fun _ _ => rfl, rfl, rfl⟩

set_option maxHeartbeats 2000000 in
set_option maxRecDepth 100000 in
theorem writeString_f (B b : Nat) (bs : List Value) (s : ByteArray) (w : World) (h : Lib.IsBuilder 51 5 B b bs w) (hlen : bs.length + s.size ≤ 1048576) (hBw : B ≤ w.heap.size) :
    Calls Tryz.prog 29 #[.pointer (some ⟨b, 0, none⟩), .string s] w fun e w' => (∃ v, e = .returned v) ∧ Lib.IsBuilder 51 5 B b (bs ++ Lib.strCells s) w' ∧ Below B w w' ∧ ∀ k, k < w.heap.size → k ≠ b → RowAway w b k → w'.heap[k]? = w.heap[k]? := by
  obtain ⟨i0, hi, hz0, hz1, hz2⟩ := info_parts info_byte
  have HC := Lib.hid (copyCheck_f B b bs w h)
  clear h
  go_enter Tryz.func29, Tryz.ntmps29
  go_wp2_with fail
  refine HC.out.mono ?_
  rintro e w1 ⟨rfl, h1, hb1, hk1, hc1, hz1'⟩
  obtain ⟨hB, v, hbk, hown, hne⟩ := h1
  have c0 : w1.cell? ⟨b, 0, none⟩ = some (.pointer (some ⟨b, 0, none⟩)) := by rw [Lib.cell_of_heap hbk]; rfl
  have c1 : w1.cell? ⟨b, 1, none⟩ = some v := by rw [Lib.cell_of_heap hbk]; rfl
  have hlt : b < w1.heap.size := (Array.getElem?_eq_some_iff.1 hbk).1
  have HK := Lib.hid hbk; have HO := Lib.hid hown; have HN := Lib.hid hne; have HB1 := Lib.hid hb1
  have HK1 := Lib.hid hk1
  have HC1 : Hid (w.cell? ⟨b, 1, none⟩ = some v) := hc1.symm.trans c1
  have HZ1 := Lib.hid hz1'
  clear hbk hown hne hb1 hk1 hc1 hz1'
  go_wp2_with (at_builtin; refine Lib.wpList_append_own_string _ rfl _ _ 22 9 rfl B 5 i0 Tryz.underlying22 Tryz.underlying9 hi hz0 hz1 hz2 _ _ _ rfl HO.out s rfl ?c3 ?c4 ?c5 ?_)
  case c3 => unfold maxLen; omega
  case c4 => omega
  case c5 => have := HB1.out.size; omega
  intro v' w2 hown' hgrow _
  have hb2 : w2.heap[b]? = some (.cells #[.pointer (some ⟨b, 0, none⟩), v] 51 (0, 0)) := by
    rw [hgrow.block b hlt (fun e => HN.out e.symm)]
    exact HK.out
  have d0 : w2.cell? ⟨b, 0, none⟩ = some (.pointer (some ⟨b, 0, none⟩)) := by rw [Lib.cell_of_heap hb2]; rfl
  have d1 : w2.cell? ⟨b, 1, none⟩ = some v := by rw [Lib.cell_of_heap hb2]; rfl
  have f1 : w2.frozen? ⟨b, 1, none⟩ = false := Lib.frozen_of_heap hb2 1
  obtain ⟨ao, n', cap, rfl⟩ : ∃ ao n' cap, v' = .slice ao n' cap := by
    rcases hown'.2 with ⟨hv, _⟩ | ⟨g, cap, cur, hv, _⟩
    · exact ⟨_, _, _, hv⟩
    · exact ⟨_, _, _, hv⟩
  have HB2 := Lib.hid hb2; have HO2 := Lib.hid hown'; have HG := Lib.hid hgrow
  clear hb2 hown' hgrow
  go_wp2
  go_ret2
  refine ⟨⟨_, rfl⟩, .inr ?_, ?_, ?_⟩
  · exact Lib.BuilderAt.put (T := 51) (e := 5) hB HB2.out (bs' := bs ++ Lib.strCells s) (by simpa [Lib.strCells_length] using HO2.out) (by decide)
  · exact (HB1.out.grown HG.out (by have := HB1.out.size; omega) (fun k hk => (HO.out.lt k hk).1)).setCell (p := ⟨b, 1, none⟩) hB _
  · intro k hk hkb haway
    rw [(Upd.setCell w2 b 1 _).block k (by have := HG.out.size; rw [← HZ1.out] at hk; omega) hkb, HG.out.block k (by rw [HZ1.out]; exact hk) (fun e => haway _ HC1.out e), HK1.out k hkb]
theorem builder_upd {T e : TypeId} {B b D : Nat} {bs : List Value} {w w' : World} (h : Lib.IsBuilder T e B b bs w) (hD : D < B) (hu : Upd D w w') : Lib.IsBuilder T e B b bs w' := by
  have key : ∀ p, Lib.BuilderAt T e B b p bs w → Lib.BuilderAt T e B b p bs w' := by
    rintro p ⟨hB, v, hb, ⟨h1, h2⟩, hne⟩
    refine ⟨hB, v, (hu.block b (Array.getElem?_eq_some_iff.1 hb).1 (by omega)).trans hb, ⟨h1, ?_⟩, hne⟩
    rcases h2 with h2 | ⟨g, cap, cur, hv, hg, hh, r⟩
    · exact Or.inl h2
    · exact Or.inr ⟨g, cap, cur, hv, hg, (hu.block g (Array.getElem?_eq_some_iff.1 hh).1 (by omega)).trans hh, r⟩
  exact h.imp (key _) (key _)
/-- A block that begins with an integer of 64 bits is not the builder's. -/
theorem builder_away {B b k : Nat} {l : List UInt8} {w : World} {z : Int} (h : Lib.IsBuilder 51 5 B b (Lib.byteCells l) w) (hk : w.cell? ⟨k, 0, none⟩ = some (.int .i64 z)) (h0 : l ≠ [] ∨ w.cell? ⟨b, 1, none⟩ = some (.slice none 0 0)) : k ≠ b ∧ RowAway w b k := by
  have key : ∀ p : Option Addr, Lib.BuilderAt 51 5 B b (.pointer p) (Lib.byteCells l) w → k ≠ b ∧ RowAway w b k := by
    intro p h
    have c0 := h.cell0
    obtain ⟨hB, v, hb, hown, hne⟩ := h
    have c1 : w.cell? ⟨b, 1, none⟩ = some v := by rw [Lib.cell_of_heap hb]; rfl
    refine ⟨fun e => ?_, fun u hu e => ?_⟩
    · subst e; rw [hk] at c0; cases c0
    · rw [c1] at hu
      cases hu
      rcases h0 with h0 | h0
      · have hpos : 0 < (Lib.byteCells l).length := by rw [Lib.byteCells_length]; exact List.length_pos_iff.2 h0
        obtain ⟨h1, ⟨rfl, h2⟩ | ⟨g, cap, cur, rfl, hg, hh, r⟩⟩ := id hown
        · cases e
        · cases e
          have := World.ownsRow.cellAt hown 0 (by omega)
          rw [hk] at this
          match l, h0 with
          | x :: l, _ => simp [Lib.byteCells] at this
      · rw [c1] at h0
        cases h0
        cases e
  rcases h with h | h
  · exact key _ h
  · exact key _ h
end Go.Proofs.YtkmfmhckpfomeaaGreatDoor

/- A script, the program's side. The condition: the text has at most 2^20 bytes. -/
namespace Go.Proofs.YtkmfmhckpfomeaaGreatDoor
open Go.RowKit
open BigFrame
attribute [local go_sem] Oper.semAt_some

theorem kind05 : graphKind 0 5 = (kindGr 0 5, true) := by decide
theorem kind05_len : (kindGr 0 5).length = 5 := kindGr_length 0 5
/-- At a round: the desk at D, the builder at B, the lines at block q. -/
structure LoopE (w0 : World) (D B q : Nat) (ps : List (List UInt8)) (k : Nat) (w : World) : Prop where
  desk : DeskG w D (runR (ps.take k)).2.1 (runR (ps.take k)).2.2
  buf : Lib.IsBuilder 51 5 B B (Lib.byteCells (runR (ps.take k)).1) w
  nil : (runR (ps.take k)).1 ≠ [] ∨ w.cell? ⟨B, 1, none⟩ = some (.slice none 0 0)
  lines : ∀ i, i < ps.length → w.cell? ⟨q, i, none⟩ = some (strV (ps.getD i []))
  ext : Ext w0 w
  lt : B ≤ w.heap.size
theorem strCells_of {S : ByteArray} {l : List UInt8} (h : strV l = .string S) : Lib.strCells S = Lib.byteCells l := by
  cases h
  rfl
theorem byteCells_app (a b : List UInt8) : Lib.byteCells (a ++ b) = Lib.byteCells a ++ Lib.byteCells b := by simp [Lib.byteCells]
theorem builder_ext' {T e : TypeId} {B b : Nat} {bs : List Value} {w w' : World} (h : Lib.IsBuilder T e B b bs w) (hx : Ext w w') : Lib.IsBuilder T e B b bs w' := by
  have key : ∀ p, Lib.BuilderAt T e B b p bs w → Lib.BuilderAt T e B b p bs w' := by
    rintro p ⟨hB, v, hb, ⟨h1, h2⟩, hne⟩
    refine ⟨hB, v, (hx.block (Array.getElem?_eq_some_iff.1 hb).1).trans hb, ⟨h1, ?_⟩, hne⟩
    rcases h2 with h2 | ⟨g, cap, cur, hv, hg, hh, r⟩
    · exact Or.inl h2
    · exact Or.inr ⟨g, cap, cur, hv, hg, (hx.block (Array.getElem?_eq_some_iff.1 hh).1).trans hh, r⟩
  exact h.imp (key _) (key _)
theorem DeskG.keep {w w' : World} {D c : Nat} {g : List Int} (h : DeskG w D g c) (hD : w'.heap[D]? = w.heap[D]?) (hs : w.heap.size ≤ w'.heap.size)
    (hk : ∀ k z, w.cell? ⟨k, 0, none⟩ = some (.int .i64 z) → w'.heap[k]? = w.heap[k]?) : DeskG w' D g c := by
  obtain ⟨⟨k, m, h1, hne, h3⟩, hf⟩ := h
  have hc : ∀ i, w'.cell? ⟨D, i, none⟩ = w.cell? ⟨D, i, none⟩ := fun i => World.cell?_of_block (a := ⟨D, i, none⟩) hD
  have hz : ∀ i, w'.frozen? ⟨D, i, none⟩ = w.frozen? ⟨D, i, none⟩ := fun i => World.frozen?_of_block (a := ⟨D, i, none⟩) hD
  refine ⟨⟨k, m, ⟨(hc 0).trans h1.graph, (hc 1).trans h1.code, fun i => (hz i).trans (h1.frozen i), Nat.lt_of_lt_of_le h1.lt hs⟩, hne, ?_⟩, hf⟩
  obtain ⟨a', c', e, h⟩ := h3
  simp only [Value.slice.injEq] at e
  obtain ⟨rfl, -, rfl⟩ := e
  refine ⟨_, _, rfl, h.imp id ?_⟩
  rintro ⟨b', o, e, hb, hc', h⟩
  cases e
  have h0 := h 0 hf.gr.pos
  have hblk := hk k _ h0
  exact ⟨_, _, rfl, Nat.lt_of_lt_of_le hb hs, hc', fun i hi => (World.cell?_of_block (a := ⟨k, 0 + i, none⟩) hblk).trans (h i hi)⟩
theorem LoopE.next {w0 wr w5 w6 : World} {D B q k : Nat} {ps : List (List UInt8)} (h : LoopE w0 D B q ps k wr) (hk : k < ps.length) (hDw : w0.heap.size ≤ D) (hDB : D < B) (hq : q < B) (hqD : q ≠ D) {T : ByteArray} (hT : strV ((lineR (runR (ps.take k)).2.1 (runR (ps.take k)).2.2 (ps.getD k [])).1 ++ [10]) = .string T)
    (hd : DeskG w5 D (lineR (runR (ps.take k)).2.1 (runR (ps.take k)).2.2 (ps.getD k [])).2.1 (lineR (runR (ps.take k)).2.1 (runR (ps.take k)).2.2 (ps.getD k [])).2.2) (hu : Upd D wr w5)
    (hb : Lib.IsBuilder 51 5 B B (Lib.byteCells (runR (ps.take k)).1 ++ Lib.strCells T) w6) (hbl : Below B w5 w6)
    (hkeep : ∀ k, k < w5.heap.size → k ≠ B → RowAway w5 B k → w6.heap[k]? = w5.heap[k]?) : LoopE w0 D B q ps (k + 1) w6 := by
  have hs := h.ext.size
  have h5 : Ext w0 w5 := h.ext.upd hDw hu
  have hB5 := builder_upd h.buf hDB hu
  have hn5 : (runR (ps.take k)).1 ≠ [] ∨ w5.cell? ⟨B, 1, none⟩ = some (.slice none 0 0) := by
    refine h.nil.imp id fun e => ?_
    rw [hu.cell (cell_lt e) (by omega)]
    exact e
  have hrun := runR_next hk
  refine ⟨?_, ?_, .inl ?_, fun i hi => ?_, ?_, Nat.le_trans (Nat.le_trans h.lt hu.size) hbl.size⟩
  · rw [hrun]
    refine hd.keep (hbl.block D hDB) hbl.size fun k' z hz => ?_
    obtain ⟨h1, h2⟩ := builder_away hB5 hz hn5
    exact hkeep k' (cell_lt hz) h1 h2
  · rw [hrun]
    show Lib.IsBuilder _ _ B B (Lib.byteCells (_ ++ (_ ++ [10]))) w6
    rw [byteCells_app, ← strCells_of hT]
    exact hb
  · rw [hrun]
    show _ ++ (_ ++ [10]) ≠ []
    simp
  · rw [hbl.cell (p := ⟨q, i, none⟩) hq, hu.cell (cell_lt (h.lines i hi)) hqD]
    exact h.lines i hi
  · exact Below.trans h5 (Below.mono hbl (by omega))
set_option maxRecDepth 100000 in
set_option maxHeartbeats 4000000 in
theorem executeI_c (l : List UInt8) (w : World) (hw : Wd w) (hl : l.length ≤ 1048576) :
    Calls Tryz.prog 10 #[strV l] w fun e w' => e = .returned (strV (execR l)) ∧ Ext w w' := by
  obtain ⟨S, L, hS⟩ := IsStr.of l
  have hL : L ≤ 1048576 := by rw [← hS.len]; exact hl
  have hsz := hS.size
  by_cases h6 : L ≤ 600
  · have hps := pieces_le 10 l
    have hpp := fun p (hp : p ∈ pieces 10 l) => piece_le hp
    obtain ⟨ps, hpe⟩ : ∃ ps, ps = pieces 10 l := ⟨_, rfl⟩
    have hne : ps ≠ [] := by rw [hpe]; exact pieces_ne 10 l
    obtain ⟨M, hM⟩ : ∃ M, ps.length = M + 1 := ⟨ps.length - 1, by have := List.length_pos_iff.2 hne; omega⟩
    have hSP := Lib.hid (fun W hx => splitT_c 10 l W (hw.ext hx) hl)
    rw [← hpe] at hps hpp hSP
    have HE : Hid (execR l = (runR (ps.take M)).1 ++ ((codeS ++ Lib.decDigits (runR (ps.take M)).2.2) ++ [10])) := by
      show execR l = _
      unfold execR
      rw [if_pos (by rw [hS.len]; exact h6), ← hpe, List.dropLast_eq_take, hM]
      rfl
    have hM6 : M ≤ 600 := by rw [hS.len] at hps; omega
    have HPP : Hid (∀ k, k < ps.length → (ps.getD k []).length ≤ 600) := fun k hk => by
      have : ps.getD k [] ∈ ps := by rw [List.getD_eq_getElem?_getD, List.getElem?_eq_getElem hk]; exact List.getElem_mem hk
      have := hpp _ this
      rw [hS.len] at this
      omega
    have HM := Lib.hid hM; have HW := Lib.hid hw
    have HG := graphKindJ_c 0 5 w
    rw [kind05] at HG
    simp only [listV] at HG
    have HGG := Lib.hid HG
    rw [HE.out]
    rw [hS.val] at hSP ⊢
    clear hps hpp hpe hne hM hw hl HG HE
    go_enter Tryz.func10, Tryz.ntmps10
    go_wp2_with fail
    refine HGG.out.mono ?_
    rintro e w1 ⟨v1, rfl, o1, x1⟩
    obtain ⟨z1, z2, rfl⟩ := o1.slice fit0.gr.pos
    have X1 := Lib.hid x1; have O1 := Lib.hid o1
    clear x1 o1
    go_wp2_with fail
    obtain ⟨W2, hW2⟩ : ∃ V, V = w1.alloc (.cells #[.slice (some ⟨z1, 0, none⟩) (kindGr 0 5).length z2, .int .i64 0] 46) := ⟨_, rfl⟩
    have hD0 := Lib.cell_of_heap (World.alloc_heap_new w1 (.cells #[.slice (some ⟨z1, 0, none⟩) (kindGr 0 5).length z2, .int .i64 0] 46))
    have hDF := Lib.frozen_of_heap (World.alloc_heap_new w1 (.cells #[.slice (some ⟨z1, 0, none⟩) (kindGr 0 5).length z2, .int .i64 0] 46))
    rw [← hW2] at hD0 hDF ⊢
    obtain ⟨D, hD⟩ : ∃ D, D = w1.heap.size := ⟨_, rfl⟩
    have HD2 : Hid (DeskG W2 D (kindGr 0 5) 0) := ⟨⟨z1, z2, ⟨by rw [hD, hD0]; rfl, by rw [hD, hD0]; rfl, fun i => by rw [hD]; exact hDF i, by rw [hD, hW2]; simp⟩, by have := O1.out.at.2.2.2.1; omega, O1.out.rd.ext (by rw [hW2]; exact (Ext.refl _).alloc _)⟩, fit0⟩
    have HX2 : Hid (Ext w W2) := by rw [hW2]; exact X1.out.alloc _
    rw [← hD]
    have HDw : Hid (w.heap.size ≤ D) := by rw [hD]; exact X1.out.size
    clear hW2 hD0 hDF hD
    refine (hSP.out _ HX2.out).mono ?_
    rintro e w3 ⟨v3, rfl, ⟨q, cq, rfl, hq, hcq, hql⟩, x3⟩
    have hqD : q ≠ D := fun e => by
      have h1 := hql 0 (by rw [HM.out]; omega)
      obtain ⟨k, m, d1, _⟩ := (HD2.out.ext x3).ex
      have h2 := d1.graph
      rw [← e, h1] at h2
      cases h2
    have HX3 := Lib.hid (HX2.out.trans x3)
    have HD3 := Lib.hid (HD2.out.ext x3)
    obtain ⟨W4, hW4⟩ : ∃ V, V = w3.alloc (.cells #[.pointer none, .slice none 0 0] 51) := ⟨_, rfl⟩
    obtain ⟨B, hB⟩ : ∃ B, B = w3.heap.size := ⟨_, rfl⟩
    have HL0 : Hid (LoopE w D B q ps 0 W4) := by
      have hx : Ext w3 W4 := by rw [hW4]; exact (Ext.refl _).alloc _
      refine ⟨HD3.out.ext hx, ?_, .inr ?_, fun i hi => (hx.cell hq).trans (hql i hi), HX3.out.trans hx, by rw [hB]; exact hx.size⟩
      · rw [hW4, hB]; exact Lib.fresh_isBuilder _ _ w3
      · rw [hW4, hB, Lib.cell_of_heap (World.alloc_heap_new w3 _)]; rfl
    have HDB : Hid (D < B) := by rw [hB]; exact HD3.out.lt
    have HqB : Hid (q < B) := by rw [hB]; exact hq
    have HqD := Lib.hid hqD
    have HW4 := Lib.hid hW4; have HB := Lib.hid hB
    rw [HM.out] at hcq ⊢
    clear hW4 hB hqD hq hql x3
    go_wp2
    rw [← HW4.out, ← HB.out]
    go_loopw [28] (fun i wr => ∃ k : Nat, k ≤ M ∧ i = .int .i64 k ∧ Hid (LoopE w D B q ps k wr)) (fun i _ => M - (intOf i).toNat)
    case atStart => exact ⟨0, Nat.zero_le _, rfl, HL0⟩
    case round =>
      obtain ⟨k, hk, rfl, HL⟩ := hrel
      by_cases hlt : k < M
      · have ck := HL.out.lines k (by rw [HM.out]; omega)
        have hpl := HPP.out k (by rw [HM.out]; omega)
        have HN : Hid (∀ {w5 w6 : World} {T : ByteArray}, strV ((lineR (runR (ps.take k)).2.1 (runR (ps.take k)).2.2 (ps.getD k [])).1 ++ [10]) = .string T → _ → _ → _ → _ → _ → LoopE w D B q ps (k + 1) w6) := fun {w5 w6 T} => HL.out.next (w5 := w5) (w6 := w6) (T := T) (by rw [HM.out]; omega) HDw.out HDB.out HqB.out HqD.out
        have hlf := lineR_fit HL.out.desk.fit (ps.getD k [])
        have hrl := (runR_fit (ps.take k)).2
        rw [List.length_take] at hrl
        have HLI := Lib.hid (line_c D _ _ (ps.getD k []) wr (HW.out.ext HL.out.ext) HL.out.desk (by omega))
        obtain ⟨pk, hpk⟩ : ∃ pk, pk = ps.getD k [] := ⟨_, rfl⟩
        rw [← hpk] at ck HN HLI hlf
        obtain ⟨t, ht⟩ : ∃ t, t = lineR (runR (ps.take k)).2.1 (runR (ps.take k)).2.2 pk := ⟨_, rfl⟩
        rw [← ht] at HN HLI hlf
        obtain ⟨T, TL, hT⟩ := IsStr.of t.1
        rw [hT.val] at HLI
        have hTL : TL ≤ 800 := by rw [← hT.len]; exact hlf.2
        have hTS := hT.size
        have HT := Lib.hid hT
        have hRL : (runR (ps.take k)).1.length ≤ 600000 := by
          have : min k ps.length ≤ 600 := by omega
          omega
        have HRL := Lib.hid hRL
        clear hpk ht hlf hrl hpl hT hRL
        go_wp2_with fail
        refine HLI.out.mono ?_
        rintro e w5 ⟨rfl, d5, u5⟩
        have D5 := Lib.hid d5; have U5 := Lib.hid u5
        clear d5 u5
        go_wp2_with fail
        refine (writeString_f B B _ _ w5 (builder_upd HL.out.buf HDB.out U5.out) (by rw [Lib.byteCells_length, ByteArray.size_append, hTS]; have := HRL.out; show _ + (TL + 1) ≤ _; omega) (Nat.le_trans HL.out.lt U5.out.size)).mono ?_
        rintro e w6 ⟨⟨v6, rfl⟩, h6, b6, k6⟩
        have HL6 : Hid (LoopE w D B q ps (k + 1) w6) := HN.out (w5 := w5) (cat_eq HT.out.eq rfl).symm D5.out U5.out h6 b6 k6
        clear h6 b6 k6
        go_wp2
        go_roundw
        case rel => exact ⟨k + 1, by omega, by go_num, HL6⟩
        case measure => simp [intOf]; omega
      · obtain rfl : k = M := by omega
        have hrf := runR_fit (ps.take k)
        have hrl := hrf.2
        rw [List.length_take] at hrl
        have hRL : (runR (ps.take k)).1.length ≤ 600000 := by
          have : min k ps.length ≤ 600 := by omega
          omega
        obtain ⟨z4, m4, d4, -⟩ := HL.out.desk.ex
        have c1 := d4.code
        obtain ⟨cc, hcc⟩ : ∃ cc, cc = (runR (ps.take k)).2.2 := ⟨_, rfl⟩
        have hcl := hrf.1.c_le
        have HIT := Lib.hid (itoa_c (runR (ps.take k)).2.2 wr (HW.out.ext HL.out.ext) (by omega) (by omega))
        rw [itoa_nat] at HIT
        have hdl := dec_len (runR (ps.take k)).2.2 (by omega)
        rw [← hcc] at c1 HIT hdl
        have HCC := Lib.hid hcc
        obtain ⟨T, TL, hT⟩ := IsStr.of (Lib.decDigits cc)
        rw [hT.val] at HIT
        have hTL : TL ≤ 7 := by rw [← hT.len]; exact hdl
        have hTS := hT.size
        have HT := Lib.hid hT; have HRL := Lib.hid hRL
        clear hrf hrl hRL d4 hcc hcl hdl hT
        go_wp2_with fail
        refine HIT.out.mono ?_
        rintro e w5 ⟨rfl, x5⟩
        have HB5 := Lib.hid (builder_ext' HL.out.buf x5)
        have HX5 := Lib.hid (HL.out.ext.trans x5)
        have HS5 := Lib.hid (Nat.le_trans HL.out.lt x5.size)
        clear x5
        go_wp2_with fail
        refine (writeString_f B B _ _ w5 HB5.out (by rw [Lib.byteCells_length, ByteArray.size_append, ByteArray.size_append, hTS]; have := HRL.out; show _ + (5 + TL + 1) ≤ _; omega) HS5.out).mono ?_
        rintro e w6 ⟨⟨v6, rfl⟩, h6, b6, -⟩
        rw [strCells_of (l := (codeS ++ Lib.decDigits cc) ++ [10]) (cat_eq (S := _ ++ T) (by rw [HT.out.eq]; rfl) rfl).symm, ← byteCells_app] at h6
        have HB6 := Lib.hid h6
        have HS6 := Lib.hid (Nat.le_trans HS5.out b6.size)
        have HX6 : Hid (Ext w w6) := Below.trans HX5.out (Below.mono b6 (by have := HDw.out; have := HDB.out; omega))
        clear h6 b6
        go_wp2_with fail
        refine (Tryz.Builder_String_any _ _ _ _ HB6.out HS6.out).mono ?_
        rintro e w7 ⟨rfl, b7⟩
        have HX7 : Hid (Ext w w7) := Below.trans HX6.out (Below.mono b7 (by have := HDw.out; have := HDB.out; omega))
        clear b7
        go_wp2
        go_ret
        rw [← HCC.out]
        exact ⟨rfl, HX7.out⟩
  · have he : execR l = longS := by unfold execR; rw [if_neg (by rw [hS.len]; exact h6)]
    have h6' : decide ((L : Int) > 600) = true := decide_eq_true (by omega)
    rw [he, hS.val]
    clear hw he
    go_enter Tryz.func10, Tryz.ntmps10
    go_wp2
    go_ret
    exact ⟨rfl, Ext.refl _⟩
end Go.Proofs.YtkmfmhckpfomeaaGreatDoor

/- The reference's l7Said at a list of one number that is -1 at least. The condition: at most 2^20. -/
namespace Go.Proofs.YtkmfmhckpfomeaaGreatDoor
open Go.RowKit
open BigFrame
attribute [local go_sem] Oper.semAt_some

set_option maxRecDepth 100000 in
set_option maxHeartbeats 1000000 in
theorem l6Dec_minus (w : World) : Calls Tryz.prog 34 #[.int .i64 (-1)] w fun e w' => e = .returned (strV [45, 49]) ∧ Ext w w' := by
  have HC := Lib.hid (fun w => l6Dec_c 1 w (by omega))
  rw [show Lib.decDigits 1 = [49] from by rw [Lib.decDigits, dif_pos (by omega)]; rfl, show ((1 : Nat) : Int) = 1 from rfl] at HC
  rw [show strV [49] = .string ⟨#[49]⟩ from rfl] at HC
  go_enter Tryz.func34, Tryz.ntmps34
  go_wp2_with fail
  refine (HC.out _).mono ?_
  rintro e w1 ⟨rfl, x1⟩
  have X1 := Lib.hid x1; clear x1
  go_wp2
  go_ret
  exact ⟨rfl, X1.out⟩
set_option maxRecDepth 100000 in
set_option maxHeartbeats 1000000 in
theorem said_minus (v : Value) (k : Bool) (w : World) (hv : Rd w v [-1]) : Calls Tryz.prog 111 #[v, .bool k] w fun e w' => e = .returned (strV (if k then [45, 49] ++ [10] else [110, 111, 10])) ∧ Ext w w' := by
  obtain ⟨a, c, rfl⟩ := hv.form
  rw [show ([-1] : List Int).length = 1 from rfl] at hv ⊢
  obtain ⟨b, o, rfl, -, -, hc⟩ := hv.atI (k := 0) (by omega)
  rw [show getI [-1] 0 = -1 from rfl] at hc
  have HCC := Lib.hid hc
  clear hv hc
  cases k
  · go_enter Tryz.func111, Tryz.ntmps111
    go_wp2
    go_ret
    exact ⟨rfl, Ext.refl _⟩
  · go_enter Tryz.func111, Tryz.ntmps111
    go_wp2
    go_loopw [5, 6] (fun o i wr => ∃ (j : Nat) (S : ByteArray), j ≤ 1 ∧ i = .int .i64 j ∧ o = .string S ∧ Hid ((j = 0 ∧ S = ⟨#[]⟩) ∨ (j = 1 ∧ S = ⟨#[45, 49]⟩)) ∧ Ext w wr) (fun _ i _ => 1 - (intOf i).toNat)
    case atStart => exact ⟨0, ⟨#[]⟩, Nat.zero_le _, rfl, rfl, .inl ⟨rfl, rfl⟩, Ext.refl _⟩
    case round =>
      obtain ⟨j, S, hj, rfl, rfl, HS, hx⟩ := hrel
      have HX := Lib.hid hx; clear hx
      rcases HS.out with ⟨rfl, rfl⟩ | ⟨rfl, rfl⟩
      · have c0 := HCC.out _ HX.out
        rw [Nat.add_zero] at c0
        clear HS
        go_wp2_with fail
        refine (l6Dec_minus _).mono ?_
        rintro e w2 ⟨rfl, x2⟩
        rw [show strV [45, 49] = .string ⟨#[45, 49]⟩ from rfl]
        have X2 := Lib.hid (HX.out.trans x2); clear x2
        go_wp2
        go_roundw
        case rel => exact ⟨1, ⟨#[45, 49]⟩, by omega, by go_num, rfl, .inr ⟨rfl, rfl⟩, X2.out⟩
        case measure => simp [intOf]
      · clear HS
        go_wp2
        go_ret
        exact ⟨rfl, HX.out⟩
theorem said1_c (v : Value) (z : Int) (k : Bool) (w : World) (hv : Rd w v [z]) (h0 : -1 ≤ z) (h1 : z ≤ 1048576) : Calls Tryz.prog 111 #[v, .bool k] w fun e w' => e = .returned (strV (if k then Lib.itoa z ++ [10] else [110, 111, 10])) ∧ Ext w w' := by
  by_cases h : z = -1
  · subst h
    have := said_minus v k w hv
    rwa [show Lib.itoa (-1) = [45, 49] from by unfold Lib.itoa; rw [if_pos (by omega)]; rw [show (-1 : Int).natAbs = 1 from rfl, Lib.decDigits, dif_pos (by omega)]; rfl]
  · obtain ⟨n, rfl⟩ : ∃ n : Nat, z = n := ⟨z.toNat, by omega⟩
    have := l7Said_c v [n] k w hv (fun m hm => by rw [List.mem_singleton.1 hm]; omega) (by simp)
    rw [said_one] at this
    rwa [show Lib.itoa (n : Int) = Lib.decDigits n from by unfold Lib.itoa; rw [if_neg (by omega), Int.toNat_natCast]]
/-- A list of one number, made by the call. -/
theorem rd_one (w : World) (z : Int) : Rd (w.alloc (.cells #[.int .i64 z] 3)) (.slice (some ⟨w.heap.size, 0, none⟩) 1 1) [z] := by
  refine ⟨_, 1, rfl, .inr ⟨w.heap.size, 0, rfl, by simp, Nat.le_refl 1, fun i hi => ?_⟩⟩
  obtain rfl : i = 0 := by simp at hi; omega
  rw [Lib.cell_of_heap (World.alloc_heap_new w _)]
  rfl
end Go.Proofs.YtkmfmhckpfomeaaGreatDoor
