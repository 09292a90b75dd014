/- The draw of asked nodes and answers; a list put behind a list. The condition: at most 2^20 bytes. -/
import Derived.Test.YtnpkkfaidejljaaDAsk
namespace Go.Proofs.Ytnpkkfaidejljaa
open Go.RowKit
open BigFrame

set_option maxHeartbeats 1000000 in
/-- One of two texts. -/
theorem of_c (w0 : World) (b m k : Nat) (s t : ByteArray) (w : World) (h : RdOk w0 b m w) (hm : m ≤ 900000) (hk : k < w.heap.size) (hkb : k ≠ b)
    (c0 : w.cell? ⟨k, 0, none⟩ = some (.string s)) (c1 : w.cell? ⟨k, 1, none⟩ = some (.string t)) :
    Calls Try.prog 122 #[.pointer (some ⟨b, 0, none⟩), .slice (some ⟨k, 0, none⟩) 2 2] w fun e w' => ∃ u : ByteArray, e = .returned (.string u) ∧ (u = s ∨ u = t) ∧ RdOk w0 b (m + 1) w' ∧ Upd b w w' := by
  have HR := Lib.hid h; have HC := Lib.hid (And.intro c0 c1)
  clear h c0 c1
  go_enter Try.func122, Try.ntmps122
  go_wp2_with fail
  refine (pick_c w0 b m 2 _ HR.out (by omega) (by omega) (by omega)).mono ?_
  rintro e w1 ⟨x, rfl, hx, r1, u1⟩
  have d0 := (u1.cell (o := 0) hk hkb).trans HC.out.1
  have d1 := (u1.cell (o := 1) hk hkb).trans HC.out.2
  have R1 := Lib.hid r1; have U1 := Lib.hid u1
  clear r1 u1
  rcases (show x = 0 ∨ x = 1 by omega) with rfl | rfl
  · go_wp2
    go_ret
    exact ⟨s, rfl, .inl rfl, R1.out, U1.out⟩
  · go_wp2
    go_ret
    exact ⟨t, rfl, .inr rfl, R1.out, U1.out⟩
theorem Own.some {w : World} {base g n c : Nat} {xs : List Int} (h : Own w base (.slice (some ⟨g, 0, none⟩) n c) xs) : base ≤ g ∧ g < w.heap.size := ⟨h.at.2.2.1, h.at.2.2.2.1⟩

theorem found_step {w0 w5 w6 : World} {b B L ga gc m j : Nat} {v v' : Value} {ys gs : List Int} {y : Int} {o : Obj} (hj : ys.length = j) (A5 : Own w5 B v ys) (O5 : Own w5 (b + 1) (.slice (some ⟨ga, 0, none⟩) L gc) gs) (R5 : RdOk w0 b m w5) (hga : ga < B) (hb : b < B) (hB : B < w5.heap.size)
    (ho : Own w6 B v' (ys ++ [y])) (hg : (w5.alloc o).grownBy w6 v.ownBlock) (hn : v' ≠ .slice none 0 0) :
    ∃ k c, v' = .slice (some ⟨k, 0, none⟩) (j + 1) c ∧ Hid (Own w6 B v' (ys ++ [y])) ∧ Hid (Own w6 (b + 1) (.slice (some ⟨ga, 0, none⟩) L gc) gs) ∧ Hid (RdOk w0 b m w6) ∧ B < w6.heap.size := by
  have hlt := fun k hk => ((A5.alloc o).lt k hk).1
  have hbel : Below B w5 w6 := Below.grown (Below.alloc (Below.refl _ _) (by omega) _) hg (by simp; omega) hlt
  rcases ho.get with ⟨h1, -⟩ | ⟨k, c, h1, -⟩
  · exact absurd h1 hn
  · refine ⟨k, c, by rw [h1, List.length_append, hj]; rfl, ho, (O5.alloc o).kept hg (.inr fun h => ?_), R5.below (hbel.mono (by omega)), Nat.lt_of_lt_of_le hB hbel.size⟩
    have h2 := hlt ga h.symm
    omega

set_option maxRecDepth 100000 in
set_option maxHeartbeats 4000000 in
theorem drawAskFound_c (v : Value) (bs : List Int) (w : World) (hv : Rb w v bs) (hm : bs.length ≤ 1048576) :
    Calls Try.prog 62 #[v] w fun e w' => ∃ (v' : Value) (gs : List Int) (k c : Nat) (asked : List Int) (said : ByteArray), e = .returned (.tuple #[v', .slice (some ⟨k, 0, none⟩) asked.length c, .string said]) ∧ 1 ≤ gs.length ∧ gs.length ≤ 7 ∧ asked.length ≤ 3 ∧ said.size ≤ 4 ∧ Rd w' v' gs ∧ Rd w' (.slice (some ⟨k, 0, none⟩) asked.length c) asked ∧ Ext w w' := by
  have HO := Lib.hid (l6Open_c v bs w hv hm)
  obtain ⟨a, c, rfl, -, -⟩ := hv
  clear hm
  go_enter Try.func62, Try.ntmps62
  go_wp2_with fail
  refine HO.out.mono ?_
  rintro e w1 ⟨rfl, r1, -⟩
  have R1 := Lib.hid r1; clear r1 HO
  go_wp2_with fail
  refine (l91Graph_c w _ 0 7 _ R1.out (by omega) (by omega) (by omega)).mono ?_
  rintro e w2 ⟨v2, gs, rfl, hn1, hn7, o2, r2⟩
  obtain ⟨ga, gc, rfl⟩ := o2.slice hn1
  obtain ⟨b, hb⟩ : ∃ b, b = w.heap.size := ⟨_, rfl⟩
  rw [← hb] at o2 r2 ⊢
  clear hb
  obtain ⟨B, hB⟩ : ∃ B, B = w2.heap.size := ⟨_, rfl⟩
  obtain ⟨hga1, hga2⟩ := o2.some
  obtain ⟨-, hbl⟩ := r2.lt
  obtain ⟨W, hW⟩ : ∃ W, W = w2.alloc (.cells #[] 3) := ⟨_, rfl⟩
  have ho0 : Own W B (.slice (some ⟨B, 0, none⟩) 0 0) [] := by rw [hW, hB]; exact Own.lit w2
  have r3 : RdOk w b (0 + 200) W := by rw [hW]; exact r2.next ((Ext.refl _).alloc _)
  have o3 : Own W (b + 1) (.slice (some ⟨ga, 0, none⟩) gs.length gc) gs := by rw [hW]; exact o2.alloc _
  have hsz : B < W.heap.size := by rw [hW, hB]; simp
  rw [← hB] at hga2 hbl
  have HW := Lib.hid hW; have HB := Lib.hid hB; have R3 := Lib.hid r3; have O3 := Lib.hid o3; have A3 := Lib.hid ho0
  clear r2 o2 R1 hW r3 o3 ho0 hB
  obtain ⟨L, hL⟩ : ∃ L, L = gs.length := ⟨_, rfl⟩
  rw [← hL] at hn1 hn7 O3 ⊢
  have HL := Lib.hid hL
  clear hL
  go_wp2_with fail
  rw [← HW.out, ← HB.out]
  refine (pick_c w b (0 + 200) 4 _ R3.out (by omega) (by omega) (by omega)).mono ?_
  rintro e w4 ⟨n, rfl, hn, r4, u4⟩
  have R4 := Lib.hid r4; have O4 := Lib.hid (O3.out.upd (by omega) u4); have A4 := Lib.hid (A3.out.upd (by omega) u4)
  have hsz4 : B < w4.heap.size := by have := u4.size; omega
  clear r4 u4 R3 O3 A3 HW HB hsz
  go_wp2
  go_loopw [7, 8, 10] (fun va vs i wr => ∃ (j k c : Nat) (ys : List Int) (said : ByteArray), j ≤ n ∧ i = .int .i64 j ∧ va = .slice (some ⟨k, 0, none⟩) j c ∧ vs = .string said ∧ Hid (ys.length = j) ∧ said.size ≤ j ∧ Hid (Own wr B (.slice (some ⟨k, 0, none⟩) j c) ys) ∧ Hid (Own wr (b + 1) (.slice (some ⟨ga, 0, none⟩) L gc) gs) ∧ Hid (RdOk w b (202 + 2 * j) wr) ∧ B < wr.heap.size) (fun _ _ i _ => n - (intOf i).toNat)
  case atStart => exact ⟨0, B, 0, [], _, by omega, rfl, rfl, rfl, rfl, by decide, A4, O4, R4.out.more (by omega), by omega⟩
  case round =>
    clear A4 O4 R4
    obtain ⟨j, k, c, ys, said, hj, rfl, rfl, rfl, HAL, hsl, HA, HO, HR, hwr⟩ := hrel
    by_cases hlt : j < n
    · go_wp2_with fail
      refine (pick_c w b (202 + 2 * j) L _ HR.out (by omega) (by omega) (by omega)).mono ?_
      rintro e w5 ⟨x, rfl, hx, r5, u5⟩
      have R5 := Lib.hid r5; have O5 := Lib.hid (HO.out.upd (by omega) u5); have A5 := Lib.hid (HA.out.upd (by omega) u5)
      have hs5 : B < w5.heap.size := by have := u5.size; omega
      clear r5 u5 HR HO HA
      have hs9 : said.size ≤ 99 := by omega
      go_wp2_with (at_builtin; refine wpList_append_int rfl _ _ rfl B _ _ rfl (A5.out.alloc _) w5.heap.size _ rfl (one_cell _ _ _) (by rw [HAL.out]; omega) (by simp; omega) ?_; intro v' w6 ho6 hg6 hn6; obtain ⟨k6, c6, rfl, A6, O6, R6, s6⟩ := found_step HAL.out A5.out O5.out R5.out hga2 hbl hs5 ho6 hg6 hn6; clear ho6 hg6 hn6)
      have HT := Lib.hid (two_cells (World.alloc_heap_new w6 (.cells #[.string { data := #[121] }, .string { data := #[110] }] 9)))
      refine (of_c w b (202 + 2 * j + 1) w6.heap.size _ _ _ (R6.out.next ((Ext.refl _).alloc _)) (by omega) (by simp) (by omega) HT.out.1 HT.out.2).mono ?_
      rintro e w7 ⟨u, rfl, hu, r7, u7⟩
      have hus : u.size ≤ 1 := by rcases hu with rfl | rfl <;> decide
      have hus9 : u.size ≤ 99 := by omega
      have R7 := Lib.hid r7; have O7 := Lib.hid ((O6.out.alloc _).upd (by omega) u7); have A7 := Lib.hid ((A6.out.alloc _).upd (by omega) u7)
      have s7 : B < w7.heap.size := by have := u7.size; simp at this; omega
      clear r7 u7 hu A5 O5 R5 A6 O6 R6 HT s6 hs5
      go_wp2
      go_roundw
      case rel => exact ⟨j + 1, k6, c6, _, said ++ u, by omega, by go_num, rfl, rfl, by unfold Hid; rw [List.length_append, HAL.out]; rfl, by rw [ByteArray.size_append]; omega, A7, O7, R7.out.more (by omega), s7⟩
      case measure => simp [intOf]; omega
    · obtain rfl : j = n := by omega
      go_wp2_with fail
      refine (pick_c w b (202 + 2 * j) 20 _ HR.out (by omega) (by omega) (by omega)).mono ?_
      rintro e w5 ⟨x, rfl, hx, r5, u5⟩
      have R5 := Lib.hid r5; have O5 := Lib.hid (HO.out.upd (by omega) u5); have A5 := Lib.hid (HA.out.upd (by omega) u5)
      clear r5 u5 HR HO HA
      have hs9 : said.size ≤ 99 := by omega
      obtain ⟨b4, hb4⟩ : ∃ t, ((x : Int) == 0) = t := ⟨_, rfl⟩
      have e1 := HAL.out
      have e2 := HL.out
      have hfin : ∀ sd : ByteArray, sd.size ≤ 4 → ∃ (v' : Value) (gs : List Int) (k' c' : Nat) (asked : List Int) (said : ByteArray), Ending.returned (.tuple #[.slice (some ⟨ga, 0, none⟩) L gc, .slice (some ⟨k, 0, none⟩) j c, .string sd]) = .returned (.tuple #[v', .slice (some ⟨k', 0, none⟩) asked.length c', .string said]) ∧ 1 ≤ gs.length ∧ gs.length ≤ 7 ∧ asked.length ≤ 3 ∧ said.size ≤ 4 ∧ Rd w5 v' gs ∧ Rd w5 (.slice (some ⟨k', 0, none⟩) asked.length c') asked ∧ Ext w w5 := fun sd hsd =>
        ⟨_, gs, k, c, ys, sd, by rw [e1], by omega, by omega, by omega, hsd, by rw [e2] at O5 ⊢; exact O5.out.rd, by rw [e1]; exact A5.out.rd, R5.out.ext⟩
      have HF := Lib.hid hfin
      clear e1 e2 hfin
      cases b4
      · go_wp2
        go_ret3
        exact HF.out _ (by omega)
      · go_wp2
        go_ret3
        exact HF.out _ (by rw [ByteArray.size_append]; show _ + 1 ≤ 4; omega)
end Go.Proofs.Ytnpkkfaidejljaa
