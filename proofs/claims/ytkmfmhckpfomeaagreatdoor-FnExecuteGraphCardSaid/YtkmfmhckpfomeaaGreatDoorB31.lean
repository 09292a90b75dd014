/- What the walks of this seat rest on, one part: plain facts, and contracts of the functions that they reach. Each states its own condition. -/
import Derived.Test.YtkmfmhckpfomeaaGreatDoorB30
import Derived.Test.YtkmfmhckpfomeaaGreatDoorB24
import Derived.Test.YtkmfmhckpfomeaaGreatDoorB27
import Derived.Test.YtkmfmhckpfomeaaGreatDoorRows
import Derived.Test.YtkmfmhckpfomeaaGreatDoorB3
import Derived.LaidMore
import Derived.Lib.LaidTab
import Derived.Stop.LaidErr
import Derived.Shelf.Vars
import Derived.ProofKit
import Derived.OpenShut
set_option linter.all false
set_option linter.unusedSimpArgs false
set_option linter.unusedVariables false
/- A line of a script with a space, the reference's side. The condition: the line has at most 2^20 bytes. -/
namespace Go.Proofs.YtkmfmhckpfomeaaGreatDoor
open Go.RowKit
open BigFrame
attribute [local go_sem] Oper.semAt_some

theorem Rd.away {w : World} {k n m r : Nat} {xs : List Int} (h : Rd w (.slice (some ⟨k, 0, none⟩) n m) xs) (hz : w.cell? ⟨r, 0, none⟩ = some (.slice none 0 0)) (x y : Value) : Rd ((w.setCell ⟨r, 0, none⟩ x).setCell ⟨r, 1, none⟩ y) (.slice (some ⟨k, 0, none⟩) n m) xs := by
  by_cases hne : k = r
  · obtain ⟨a', c', e, h⟩ := h
    simp only [Value.slice.injEq] at e
    obtain ⟨rfl, rfl, rfl⟩ := e
    rcases h with h | ⟨b', o, e, hb, hc, h⟩
    · exact ⟨_, _, rfl, .inl h⟩
    · by_cases h0 : xs.length = 0
      · exact ⟨_, _, rfl, .inl h0⟩
      · cases e
        have h1 := h 0 (by omega)
        rw [hne, Nat.add_zero, hz] at h1
        cases h1
  · exact (h.upd hne (Upd.setCell _ r 0 _)).upd hne (Upd.setCell _ r 1 _)
theorem l7Two_c (S : ByteArray) (k m : Nat) (g : List Int) (c x y : Nat) (w : World) (hv : Rd w (.slice (some ⟨k, 0, none⟩) g.length m) g) (hf : Fit g c) (i : Nat) (hS : Word S i) (hi : i = 1 ∨ i = 2 ∨ i = 13) (hx : x ≤ 9999) (hy : y ≤ 9999) :
    Calls Tryz.prog 58 #[.agg #[.slice (some ⟨k, 0, none⟩) g.length m, .int .i64 c], .string S, .int .i64 x, .int .i64 y] w fun e w' => ∃ v', e = .returned (.tuple #[v', strV (nl (cmdR i g c x y))]) ∧ StateV w' v' (nextS (cmdR i g c x y) g c) ∧ Ext w w' := by
  rcases hi with rfl | rfl | rfl
  · exact l7Two1_c S k m g c x y w hv hf hS
  · exact l7Two2_c S k m g c x y w hv hf hS hx hy
  · exact l7Two13_c S k m g c x y w hv hf hS hx hy
theorem l7One_c (S : ByteArray) (k m : Nat) (g : List Int) (c x y : Nat) (w : World) (hv : Rd w (.slice (some ⟨k, 0, none⟩) g.length m) g) (hf : Fit g c) (i : Nat) (hS : Word S i) (hi : i = 4 ∨ i = 5 ∨ i = 6 ∨ i = 10 ∨ i = 15 ∨ i = 16) (hx : x ≤ 9999) :
    Calls Tryz.prog 59 #[.agg #[.slice (some ⟨k, 0, none⟩) g.length m, .int .i64 c], .string S, .int .i64 x] w fun e w' => ∃ v', e = .returned (.tuple #[v', strV (nl (cmdR i g c x y))]) ∧ StateV w' v' (nextS (cmdR i g c x y) g c) ∧ Ext w w' := by
  rcases hi with rfl | rfl | rfl | rfl | rfl | rfl
  · exact l7One4_c S k m g c x y w hv hf hS hx
  · exact l7One5_c S k m g c x y w hv hf hS hx
  · exact l7One6_c S k m g c x y w hv hf hS hx
  · exact l7One10_c S k m g c x y w hv hf hS hx
  · exact l7One15_c S k m g c x y w hv hf hS hx
  · exact l7One16_c S k m g c x y w hv hf hS hx
set_option maxRecDepth 100000 in
set_option maxHeartbeats 8000000 in
theorem lineS_cut (k m : Nat) (g : List Int) (c : Nat) (a r : List UInt8) (w : World) (hv : Rd w (.slice (some ⟨k, 0, none⟩) g.length m) g) (hf : Fit g c) (hl : (a ++ 32 :: r).length ≤ 1048576) (hfr : (32 : UInt8) ∉ a) :
    Calls Tryz.prog 33 #[.agg #[.slice (some ⟨k, 0, none⟩) g.length m, .int .i64 c], strV (a ++ 32 :: r)] w fun e w' => ∃ v', e = .returned (.tuple #[v', strV ((lineR g c (a ++ 32 :: r)).1 ++ [10])]) ∧ StateV w' v' (lineR g c (a ++ 32 :: r)).2 ∧ Ext w w' := by
  obtain ⟨S, L, hS⟩ := IsStr.of (a ++ 32 :: r)
  have hL : L ≤ 1048576 := by rw [← hS.len]; exact hl
  have hsz := hS.size
  have HS := Lib.hid hS
  obtain ⟨K, hK⟩ : ∃ K, K = a.length := ⟨_, rfl⟩
  have hLK : K < L := by rw [← hS.len, hK]; simp
  have hby : ∀ j, j < K → (a ++ 32 :: r).getD j 0 ≠ 32 := fun j hj e => hfr (by
    rw [List.getD_eq_getElem?_getD, List.getElem?_append_left (by omega)] at e
    rw [← e, List.getElem?_eq_getElem (by omega)]
    exact List.getElem_mem _)
  have hbK : (a ++ 32 :: r).getD K 0 = 32 := by rw [hK, List.getD_eq_getElem?_getD, List.getElem?_append_right (Nat.le_refl _), Nat.sub_self]; rfl
  have HBY := Lib.hid hby; have HBK := Lib.hid hbK
  obtain ⟨W, hW⟩ : ∃ W, W = (w.alloc (.cells #[.slice (some ⟨k, 0, none⟩) g.length m, .int .i64 c] 58)).alloc (.cells #[.slice none 0 0, .int .i64 0] 58) := ⟨_, rfl⟩
  have hB := Box.of w (.slice (some ⟨k, 0, none⟩) g.length m) (.int .i64 c) (.slice none 0 0) (.int .i64 0) 58 58
  rw [← hW] at hB
  have HW := Lib.hid hW; have HB := Lib.hid hB; have HV := Lib.hid hv; have HF := Lib.hid hf
  have HFR := Lib.hid hfr
  have HRZ : Hid (∀ w', Ext W w' → w'.cell? ⟨w.heap.size + 1, 0, none⟩ = some (.slice none 0 0)) := fun w' hx => by
    rw [hx.cell hB.rl, hW]
    have := (cells_two (w.alloc (.cells #[.slice (some ⟨k, 0, none⟩) g.length m, .int .i64 c] 58)) (.slice none 0 0) (.int .i64 0) 58).1
    rwa [World.size_alloc] at this
  obtain ⟨A, hA⟩ : ∃ A, A = S.extract 0 K := ⟨_, rfl⟩
  have he0 : S.extract 0 K = A := hA.symm
  have hWd : Word A (cmdIx a) := by
    have h := (hS.mid 0 K).eq
    rw [mid_take, hK, List.take_left, ← hK, ← hA] at h
    rw [h]; exact Word.of a
  have HWD := Lib.hid hWd
  obtain ⟨R, hR⟩ : ∃ R, R = S.extract (K + 1) L := ⟨_, rfl⟩
  have he1 : S.extract (K + 1) L = R := hR.symm
  have hRv : strV r = .string R := by
    have h := (hS.mid (K + 1) L).eq
    rw [← hR] at h
    rw [h]
    unfold strV
    congr 3
    unfold mid
    rw [hK, ← List.drop_drop, List.drop_left, ← hS.len]
    simp only [List.drop_succ_cons, List.drop_zero, List.length_append, List.length_cons]
    rw [show a.length + (r.length + 1) - (a.length + 1) = r.length from by omega, List.take_length]
  have HNU := Lib.hid (l7Numbers_c r W (by simp at hl; omega))
  rw [hRv] at HNU
  have a0 := hB.a0
  have a1 := hB.a1
  rw [hS.val]
  clear hv hf hl hfr hby hbK hS hW hB hWd hA hR hRv hK
  go_enter Tryz.func33, Tryz.ntmps33
  go_wp2
  rw [← HW.out]
  go_loop [6] (fun i => ∃ j : Nat, j ≤ K ∧ i = .int .i64 j) (fun i => L - (intOf i).toNat)
  case atStart => exact ⟨0, Nat.zero_le _, rfl⟩
  case round =>
    obtain ⟨j, hj, rfl⟩ := hrel
    have d1 : decide ((j : Int) < (L : Int)) = true := decide_eq_true (by omega)
    by_cases hlt : j < K
    · obtain ⟨x, b, e1, e2, hb, hidx⟩ := HS.out.byte (show j < L by omega)
      have t1 : ((b : Int) == 32) = false := by
        rw [beq_eq_false_iff_ne]
        intro e
        have h32 : x = 32 := UInt8.toNat_inj.1 (by rw [e2]; show b = 32; omega)
        exact HBY.out j hlt (by rw [e1, h32])
      clear e1 e2
      go_wp2
      go_round
      case rel => exact ⟨j + 1, by omega, by go_num⟩
      case measure => simp [intOf]; omega
    · obtain rfl : j = K := by omega
      obtain ⟨x, b, e1, e2, hb, hidx⟩ := HS.out.byte hLK
      have t1 : ((b : Int) == 32) = true := by
        rw [beq_iff_eq]
        rw [HBK.out] at e1
        rw [← e2, ← e1]; rfl
      have t2 : ((j : Int) == (L : Int)) = false := beq_eq_false_iff_ne.2 (by omega)
      have h65 : IntKind.i64.wrap ((j : Int) + 1) = ((j + 1 : Nat) : Int) := by rw [IntWalk.i64_in _ (by omega)]; omega
      clear e1 e2 h65
      by_cases hm0 : manyN (cmdIx a) = 0
      · have hk := kindsN_nat (cmdIx a) (cmdIx_le a)
        rw [hm0] at hk
        have HK := Lib.hid (l7Kinds_c A (cmdIx a) (cmdIx_le a) HWD.out W)
        rw [hk, show (((0 : Nat) : Int)) = 0 from rfl] at HK
        have HR := Lib.hid (line_what (r := r) HFR.out hm0 g c)
        clear hk hm0
        have a2 := HB.out.a0
        have a3 := HB.out.a1
        obtain ⟨u2, r2⟩ := HB.out.r0
        obtain ⟨u3, r3⟩ := HB.out.r1
        have f2 := HB.out.fr 0
        have f3 := HB.out.fr 1
        go_wp2_with fail
        refine HK.out.mono ?_
        rintro e w' ⟨rfl, rfl⟩
        go_wp2
        obtain ⟨q0, q1, qx⟩ := HB.out.put (.slice (some ⟨k, 0, none⟩) g.length m) (.int .i64 c)
        refine bodyPost_ret (v := .tuple #[.agg #[.slice (some ⟨k, 0, none⟩) g.length m, .int .i64 c], .string ⟨#[119, 104, 97, 116, 10]⟩]) (by simp [results, Tryz.results33, go_sem, q0, q1]) rfl ?_
        rw [HR.out]
        exact ⟨_, rfl, ⟨k, m, rfl, HV.out.ext qx⟩, qx⟩
      by_cases hm1 : manyN (cmdIx a) = 1
      · have hk := kindsN_nat (cmdIx a) (cmdIx_le a)
        rw [hm1] at hk
        have HK := Lib.hid (l7Kinds_c A (cmdIx a) (cmdIx_le a) HWD.out W)
        rw [hk, show (((1 : Nat) : Int)) = 1 from rfl] at HK
        have HLR := Lib.hid (line_args (r := r) HFR.out (by rw [hm1]; omega) g c)
        rw [hm1] at HLR
        have HAR : Hid (argsOf 1 r = if (pieces 32 r).length = 1 then nums (pieces 32 r) else none) := rfl
        have HMW : Hid (cmdIx a = 4 ∨ cmdIx a = 5 ∨ cmdIx a = 6 ∨ cmdIx a = 10 ∨ cmdIx a = 15 ∨ cmdIx a = 16) := (many_word (cmdIx a) (cmdIx_le a)).2.1.1 hm1
        clear hk hm1
        go_wp2_with fail
        refine HK.out.mono ?_
        rintro e w' ⟨rfl, rfl⟩
        go_wp2_with fail
        refine HNU.out.mono ?_
        rintro e w2 ⟨v2, rfl, n2, x2⟩
        have B2 := Lib.hid (HB.out.go x2)
        have X2 := Lib.hid x2
        have a2 := B2.out.a0
        have a3 := B2.out.a1
        obtain ⟨u2, r2⟩ := B2.out.r0
        obtain ⟨u3, r3⟩ := B2.out.r1
        have f2 := B2.out.fr 0
        have f3 := B2.out.fr 1
        clear x2
        cases hnn : nums (pieces 32 r) with
        | none =>
          rw [hnn] at n2
          obtain ⟨v3, rfl⟩ := n2
          have HR : Hid (lineR g c (a ++ 32 :: r) = (noS, g, c)) := by
            show lineR g c (a ++ 32 :: r) = _
            rw [HLR.out, HAR.out, hnn, ite_self]
          clear hnn
          go_wp2
          obtain ⟨q0, q1, qx⟩ := B2.out.put (.slice (some ⟨k, 0, none⟩) g.length m) (.int .i64 c)
          refine bodyPost_ret (v := .tuple #[.agg #[.slice (some ⟨k, 0, none⟩) g.length m, .int .i64 c], .string ⟨#[110, 111, 10]⟩]) (by simp [results, Tryz.results33, go_sem, q0, q1]) rfl ?_
          rw [HR.out]
          exact ⟨_, rfl, ⟨k, m, rfl, HV.out.ext qx⟩, qx⟩
        | some ns =>
          rw [hnn] at n2
          obtain ⟨v3, rfl, o2⟩ := n2
          have O2 := Lib.hid o2
          have HNN := Lib.hid hnn
          obtain ⟨z1, z2, rfl⟩ := o2.form' rfl
          have hlen : (intsOf ns).length = ns.length := List.length_map _
          rw [hlen] at O2 ⊢
          clear o2 hnn hlen
          by_cases hlen2 : ns.length = 1
          · have t9 : ((ns.length : Int) == 1) = true := by rw [hlen2]; rfl
            rw [hlen2]
            have o3 : Rd w2 (.slice z1 ns.length z2) (intsOf ns) := O2.out.rd
            rw [hlen2] at o3
            obtain ⟨x, rfl⟩ : ∃ x, ns = [x] := by
              match ns, hlen2 with
              | [x], _ => exact ⟨x, rfl⟩
            obtain ⟨q, o, m2, e2', hq⟩ := arg_one o3
            injection e2' with e3' e4' e5'
            subst e3'; subst e5'
            clear e4'
            have c2 := hq _ (Ext.refl w2).drew
            have hx9 : ∀ z ∈ [x], z ≤ 9999 := (nums_facts HNN.out).2
            have HT := Lib.hid (l7One_c A k m g c x 0 w2.drew (HV.out.ext B2.out.ext.drew) HF.out (cmdIx a) HWD.out HMW.out (hx9 x (by simp)))
            have HR : Hid ((lineR g c (a ++ 32 :: r)).1 ++ [10] = nl (cmdR (cmdIx a) g c x 0) ∧ (lineR g c (a ++ 32 :: r)).2 = nextS (cmdR (cmdIx a) g c x 0) g c) := by
              rw [HLR.out, HAR.out, if_pos (show (pieces 32 r).length = 1 from by rw [← (nums_facts HNN.out).1]; rfl), HNN.out]
              exact ans_out (cmdR (cmdIx a) g c x 0) g c
            obtain ⟨z, hz⟩ : ∃ z, z = nl (cmdR (cmdIx a) g c x 0) := ⟨_, rfl⟩
            obtain ⟨s, hs⟩ : ∃ s, s = nextS (cmdR (cmdIx a) g c x 0) g c := ⟨_, rfl⟩
            rw [← hz, ← hs] at HT HR
            have B2d := Lib.hid (B2.out.go (Ext.refl w2).drew)
            clear hz hs hx9 hq hlen2 o3 t9 O2
            go_wp2
            go_region_with (go_at_call 59; refine HT.out.mono ?_; rintro e w3 ⟨v3, rfl, s3, x3⟩; have B3 := Lib.hid (B2d.out.go x3); obtain ⟨k3, m3, rfl, rd3⟩ := s3; have R3 := Lib.hid rd3; have Z3 := Lib.hid (HRZ.out w3 ((Ext.drew X2.out).trans x3)); clear x3 rd3; obtain ⟨u5, r5⟩ := B3.out.r0; obtain ⟨u6, r6⟩ := B3.out.r1; have f5 := B3.out.fr 0; have f6 := B3.out.fr 1)
            all_goals
              go_wp2
              obtain ⟨q0, q1, qx⟩ := B3.out.put (.slice (some ⟨k3, 0, none⟩) s.1.length m3) (.int .i64 s.2)
              refine bodyPost_ret (v := .tuple #[.agg #[.slice (some ⟨k3, 0, none⟩) s.1.length m3, .int .i64 s.2], strV z]) (by simp [results, Tryz.results33, go_sem, q0, q1]) rfl ?_
              rw [HR.out.1, HR.out.2]
              exact ⟨_, rfl, ⟨k3, m3, rfl, R3.out.away Z3.out _ _⟩, qx⟩
          · have t9 : ((ns.length : Int) == 1) = false := beq_eq_false_iff_ne.2 (by omega)
            have HR : Hid (lineR g c (a ++ 32 :: r) = (noS, g, c)) := by
              show lineR g c (a ++ 32 :: r) = _
              rw [HLR.out, HAR.out, if_neg (by rw [← (nums_facts HNN.out).1]; exact hlen2)]
            clear hlen2
            go_wp2
            obtain ⟨q0, q1, qx⟩ := B2.out.put (.slice (some ⟨k, 0, none⟩) g.length m) (.int .i64 c)
            refine bodyPost_ret (v := .tuple #[.agg #[.slice (some ⟨k, 0, none⟩) g.length m, .int .i64 c], .string ⟨#[110, 111, 10]⟩]) (by simp [results, Tryz.results33, go_sem, q0, q1]) rfl ?_
            rw [HR.out]
            exact ⟨_, rfl, ⟨k, m, rfl, HV.out.ext qx⟩, qx⟩
      have hm2 : manyN (cmdIx a) = 2 := by
        have := (many_word (cmdIx a) (cmdIx_le a)).2.2
        omega
      clear hm0 hm1
      have hk := kindsN_nat (cmdIx a) (cmdIx_le a)
      rw [hm2] at hk
      have HK := Lib.hid (l7Kinds_c A (cmdIx a) (cmdIx_le a) HWD.out W)
      rw [hk, show (((2 : Nat) : Int)) = 2 from rfl] at HK
      have HLR := Lib.hid (line_args (r := r) HFR.out (by rw [hm2]; omega) g c)
      rw [hm2] at HLR
      have HAR : Hid (argsOf 2 r = if (pieces 32 r).length = 2 then nums (pieces 32 r) else none) := rfl
      have HMW : Hid (cmdIx a = 1 ∨ cmdIx a = 2 ∨ cmdIx a = 13) := (many_word (cmdIx a) (cmdIx_le a)).1.1 hm2
      clear hk hm2
      go_wp2_with fail
      refine HK.out.mono ?_
      rintro e w' ⟨rfl, rfl⟩
      go_wp2_with fail
      refine HNU.out.mono ?_
      rintro e w2 ⟨v2, rfl, n2, x2⟩
      have B2 := Lib.hid (HB.out.go x2)
      have X2 := Lib.hid x2
      have a2 := B2.out.a0
      have a3 := B2.out.a1
      obtain ⟨u2, r2⟩ := B2.out.r0
      obtain ⟨u3, r3⟩ := B2.out.r1
      have f2 := B2.out.fr 0
      have f3 := B2.out.fr 1
      clear x2
      cases hnn : nums (pieces 32 r) with
      | none =>
        rw [hnn] at n2
        obtain ⟨v3, rfl⟩ := n2
        have HR : Hid (lineR g c (a ++ 32 :: r) = (noS, g, c)) := by
          show lineR g c (a ++ 32 :: r) = _
          rw [HLR.out, HAR.out, hnn, ite_self]
        clear hnn
        go_wp2
        obtain ⟨q0, q1, qx⟩ := B2.out.put (.slice (some ⟨k, 0, none⟩) g.length m) (.int .i64 c)
        refine bodyPost_ret (v := .tuple #[.agg #[.slice (some ⟨k, 0, none⟩) g.length m, .int .i64 c], .string ⟨#[110, 111, 10]⟩]) (by simp [results, Tryz.results33, go_sem, q0, q1]) rfl ?_
        rw [HR.out]
        exact ⟨_, rfl, ⟨k, m, rfl, HV.out.ext qx⟩, qx⟩
      | some ns =>
        rw [hnn] at n2
        obtain ⟨v3, rfl, o2⟩ := n2
        have O2 := Lib.hid o2
        have HNN := Lib.hid hnn
        obtain ⟨z1, z2, rfl⟩ := o2.form' rfl
        have hlen : (intsOf ns).length = ns.length := List.length_map _
        rw [hlen] at O2 ⊢
        clear o2 hnn hlen
        by_cases hlen2 : ns.length = 2
        · have t9 : ((ns.length : Int) == 2) = true := by rw [hlen2]; rfl
          rw [hlen2]
          have o3 : Rd w2 (.slice z1 ns.length z2) (intsOf ns) := O2.out.rd
          rw [hlen2] at o3
          obtain ⟨x, y, rfl⟩ : ∃ x y, ns = [x, y] := by
            match ns, hlen2 with
            | [x, y], _ => exact ⟨x, y, rfl⟩
          obtain ⟨q, o, m2, e2', hq, hq2⟩ := arg_two o3
          injection e2' with e3' e4' e5'
          subst e3'; subst e5'
          clear e4'
          have c2 := hq _ (Ext.refl w2).drew
          have c3 := hq2 _ (Ext.refl w2).drew
          have hx9 : ∀ z ∈ [x, y], z ≤ 9999 := (nums_facts HNN.out).2
          have HT := Lib.hid (l7Two_c A k m g c x y w2.drew (HV.out.ext B2.out.ext.drew) HF.out (cmdIx a) HWD.out HMW.out (hx9 x (by simp)) (hx9 y (by simp)))
          have HR : Hid ((lineR g c (a ++ 32 :: r)).1 ++ [10] = nl (cmdR (cmdIx a) g c x y) ∧ (lineR g c (a ++ 32 :: r)).2 = nextS (cmdR (cmdIx a) g c x y) g c) := by
            rw [HLR.out, HAR.out, if_pos (show (pieces 32 r).length = 2 from by rw [← (nums_facts HNN.out).1]; rfl), HNN.out]
            exact ans_out (cmdR (cmdIx a) g c x y) g c
          obtain ⟨z, hz⟩ : ∃ z, z = nl (cmdR (cmdIx a) g c x y) := ⟨_, rfl⟩
          obtain ⟨s, hs⟩ : ∃ s, s = nextS (cmdR (cmdIx a) g c x y) g c := ⟨_, rfl⟩
          rw [← hz, ← hs] at HT HR
          have B2d := Lib.hid (B2.out.go (Ext.refl w2).drew)
          clear hz hs hx9 hq hq2 hlen2 o3 t9 O2
          go_wp2
          go_region_with (go_at_call 58; refine HT.out.mono ?_; rintro e w3 ⟨v3, rfl, s3, x3⟩; have B3 := Lib.hid (B2d.out.go x3); obtain ⟨k3, m3, rfl, rd3⟩ := s3; have R3 := Lib.hid rd3; have Z3 := Lib.hid (HRZ.out w3 ((Ext.drew X2.out).trans x3)); clear x3 rd3; obtain ⟨u5, r5⟩ := B3.out.r0; obtain ⟨u6, r6⟩ := B3.out.r1; have f5 := B3.out.fr 0; have f6 := B3.out.fr 1)
          all_goals
            go_wp2
            obtain ⟨q0, q1, qx⟩ := B3.out.put (.slice (some ⟨k3, 0, none⟩) s.1.length m3) (.int .i64 s.2)
            refine bodyPost_ret (v := .tuple #[.agg #[.slice (some ⟨k3, 0, none⟩) s.1.length m3, .int .i64 s.2], strV z]) (by simp [results, Tryz.results33, go_sem, q0, q1]) rfl ?_
            rw [HR.out.1, HR.out.2]
            exact ⟨_, rfl, ⟨k3, m3, rfl, R3.out.away Z3.out _ _⟩, qx⟩
        · have t9 : ((ns.length : Int) == 2) = false := beq_eq_false_iff_ne.2 (by omega)
          have HR : Hid (lineR g c (a ++ 32 :: r) = (noS, g, c)) := by
            show lineR g c (a ++ 32 :: r) = _
            rw [HLR.out, HAR.out, if_neg (by rw [← (nums_facts HNN.out).1]; exact hlen2)]
          clear hlen2
          go_wp2
          obtain ⟨q0, q1, qx⟩ := B2.out.put (.slice (some ⟨k, 0, none⟩) g.length m) (.int .i64 c)
          refine bodyPost_ret (v := .tuple #[.agg #[.slice (some ⟨k, 0, none⟩) g.length m, .int .i64 c], .string ⟨#[110, 111, 10]⟩]) (by simp [results, Tryz.results33, go_sem, q0, q1]) rfl ?_
          rw [HR.out]
          exact ⟨_, rfl, ⟨k, m, rfl, HV.out.ext qx⟩, qx⟩
end Go.Proofs.YtkmfmhckpfomeaaGreatDoor

/- A script, the reference's side. The condition: the text has at most 2^20 bytes. -/
namespace Go.Proofs.YtkmfmhckpfomeaaGreatDoor
open Go.RowKit
open BigFrame
attribute [local go_sem] Oper.semAt_some

theorem l7Line_c (k m : Nat) (g : List Int) (c : Nat) (l : List UInt8) (w : World) (hv : Rd w (.slice (some ⟨k, 0, none⟩) g.length m) g) (hf : Fit g c) (hl : l.length ≤ 1048576) :
    Calls Tryz.prog 33 #[.agg #[.slice (some ⟨k, 0, none⟩) g.length m, .int .i64 c], strV l] w fun e w' => ∃ v', e = .returned (.tuple #[v', strV ((lineR g c l).1 ++ [10])]) ∧ StateV w' v' (lineR g c l).2 ∧ Ext w w' := by
  rcases free_or_cut 32 l with h | ⟨a, r, rfl, h⟩
  · exact lineS_free k m g c l w hv hf hl h
  · exact lineS_cut k m g c a r w hv hf hl h
theorem kind05T : graphKind 0 5 = (kindGr 0 5, true) := by decide
/-- A state that lies at block P. -/
structure Lies (w : World) (P : Nat) (s : St) : Prop where
  ex : ∃ k m, w.cell? ⟨P, 0, none⟩ = some (.slice (some ⟨k, 0, none⟩) s.1.length m) ∧ w.cell? ⟨P, 1, none⟩ = some (.int .i64 s.2) ∧ Rd w (.slice (some ⟨k, 0, none⟩) s.1.length m) s.1
  fr : ∀ i, w.frozen? ⟨P, i, none⟩ = false
  lt : P < w.heap.size
theorem Lies.ext {w w' : World} {P : Nat} {s : St} (h : Lies w P s) (hx : Ext w w') : Lies w' P s := by
  obtain ⟨⟨k, m, h0, h1, hr⟩, hf, hl⟩ := h
  exact ⟨⟨k, m, (hx.cell hl).trans h0, (hx.cell hl).trans h1, hr.ext hx⟩, fun i => (hx.frozen hl).trans (hf i), Nat.lt_of_lt_of_le hl hx.size⟩
/-- Behind the two stores of another state. -/
theorem Lies.put {w : World} {P : Nat} {s t : St} (h : Lies w P s) {k m : Nat} (hr : Rd w (.slice (some ⟨k, 0, none⟩) t.1.length m) t.1) : Lies ((w.setCell ⟨P, 0, none⟩ (.slice (some ⟨k, 0, none⟩) t.1.length m)).setCell ⟨P, 1, none⟩ (.int .i64 t.2)) P t := by
  obtain ⟨⟨k0, m0, h0, h1, -⟩, hf, hl⟩ := h
  refine ⟨⟨k, m, ?_, ?_, ?_⟩, fun i => by rw [World.frozen?_setCell, World.frozen?_setCell]; exact hf i, by simpa using hl⟩
  · rw [World.cell?_setCell_other _ _ _ _ (by simp)]
    exact World.cell?_setCell_same' _ _ _ (by rw [h0]; rfl)
  · refine World.cell?_setCell_same' _ _ _ ?_
    rw [World.cell?_setCell_other _ _ _ _ (by simp), h1]; rfl
  · by_cases hne : k = P
    · obtain ⟨a', c', e, h⟩ := hr
      injection e with e1 e2 e3
      subst e1; subst e3
      rcases h with h | ⟨b', o, e, hb, hc, h⟩
      · exact ⟨_, _, rfl, .inl h⟩
      · by_cases hz : t.1.length = 0
        · exact ⟨_, _, rfl, .inl hz⟩
        · cases e
          have h2 := h 0 (by omega)
          rw [hne, Nat.add_zero, h0] at h2
          cases h2
    · exact (hr.upd hne (Upd.setCell _ P 0 _)).upd hne (Upd.setCell _ P 1 _)
/-- At a round: the lines ds are done, the next begins at f. -/
structure LoopS (w0 w : World) (P : Nat) (l : List UInt8) (f j : Nat) (o : ByteArray) : Prop where
  ex : ∃ ds, pieces 10 l = ds ++ pieces 10 (l.drop f) ∧ o = ⟨(runR ds).1.toArray⟩ ∧ Lies w P (runR ds).2 ∧ ds.length ≤ f
  free : (10 : UInt8) ∉ mid l f j
  ext : Ext w0 w
set_option maxRecDepth 100000 in
set_option maxHeartbeats 8000000 in
theorem executeS_c (l : List UInt8) (w : World) (hl : l.length ≤ 1048576) :
    Calls Tryz.prog 11 #[strV l] w fun e w' => e = .returned (strV (execR l)) ∧ Ext w w' := by
  obtain ⟨S, L, hS⟩ := IsStr.of l
  have hL : L ≤ 1048576 := by rw [← hS.len]; exact hl
  have hsz := hS.size
  by_cases h6 : L ≤ 600
  · have HS := Lib.hid hS
    have HG := graphKindT_c 0 5 w
    rw [kind05T] at HG
    simp only [listV] at HG
    have HGG := Lib.hid HG
    obtain ⟨E, hE⟩ : ∃ E, E = execR l := ⟨_, rfl⟩
    rw [← hE, hS.val]
    have HE : Hid (∀ ds x, pieces 10 l = ds ++ [x] → E = (runR ds).1 ++ ((codeS ++ Lib.decDigits (runR ds).2.2) ++ [10])) := fun ds x h => by
      rw [hE]
      unfold execR
      rw [if_pos (by rw [hS.len]; exact h6), h, List.dropLast_concat]
    clear hl HG hS hE
    go_enter Tryz.func11, Tryz.ntmps11
    go_wp2_with fail
    refine HGG.out.mono ?_
    rintro e w1 ⟨v1, rfl, o1, x1⟩
    obtain ⟨z1, z2, rfl⟩ := o1.slice fit0.gr.pos
    obtain ⟨W, hW⟩ : ∃ V, V = w1.alloc (.cells #[.slice (some ⟨z1, 0, none⟩) (kindGr 0 5).length z2, .int .i64 0] 58) := ⟨_, rfl⟩
    obtain ⟨P, hP⟩ : ∃ P, P = w1.heap.size := ⟨_, rfl⟩
    have HL0 : Hid (LoopS w W P l 0 0 ⟨#[]⟩) := by
      have hc := cells_two w1 (.slice (some ⟨z1, 0, none⟩) (kindGr 0 5).length z2) (.int .i64 0) 58
      rw [← hW, ← hP] at hc
      refine ⟨⟨[], rfl, rfl, ⟨⟨z1, z2, hc.1, hc.2.1, o1.rd.ext (by rw [hW]; exact (Ext.refl _).alloc _)⟩, hc.2.2, by rw [hW, hP]; simp⟩, Nat.le_refl _⟩, by rw [mid_self]; simp, by rw [hW]; exact x1.alloc _⟩
    have HPw : Hid (w.heap.size ≤ P) := by rw [hP]; exact x1.size
    have HW := Lib.hid hW; have HP := Lib.hid hP
    clear hW hP o1 x1
    go_wp2
    rw [← HW.out, ← HP.out]
    go_loopw [6, 7, 8] (fun o q i wr => ∃ (f j : Nat) (O : ByteArray), f ≤ j ∧ j ≤ L ∧ i = .int .i64 j ∧ q = .int .i64 f ∧ o = .string O ∧ Hid (LoopS w wr P l f j O)) (fun _ _ i _ => L - (intOf i).toNat)
    case atStart => exact ⟨0, 0, ⟨#[]⟩, Nat.le_refl _, Nat.zero_le _, rfl, rfl, rfl, HL0⟩
    case round =>
      obtain ⟨f, j, O, hf, hj, rfl, rfl, rfl, HL⟩ := hrel
      by_cases hlt : j < L
      · have d1 : decide ((j : Int) < (L : Int)) = true := decide_eq_true (by omega)
        obtain ⟨x, b, e1, e2, hb, hidx⟩ := HS.out.byte hlt
        by_cases h10 : x = 10
        · have t1 : ((b : Int) == 10) = true := by
            rw [beq_iff_eq, ← e2, h10]; rfl
          obtain ⟨ds, hp, ho, ha, hd⟩ := HL.out.ex
          obtain ⟨⟨k0, m0, c0, c1, r0⟩, hfr, hPl⟩ := id ha
          have hx := HL.out.ext
          have hpk : pieces 10 (l.drop f) = mid l f j :: pieces 10 (l.drop (j + 1)) := by
            rw [mid_rest hf (by rw [HS.out.len]; exact hlt), e1, h10]
            exact pieces_cut _ HL.out.free
          have hfit := runR_fit ds
          have hml := mid_le l f j
          rw [HS.out.len] at hml
          have HZ := HS.out.mid f j
          have HT := Lib.hid (fun w' (h : Ext wr w') => l7Line_c k0 m0 (runR ds).2.1 (runR ds).2.2 (mid l f j) w' (r0.ext h) hfit.1 (by omega))
          have hlf := (lineR_fit hfit.1 (mid l f j)).2
          obtain ⟨Z, hZ⟩ : ∃ Z, Z = S.extract f j := ⟨_, rfl⟩
          have hext : S.extract f j = Z := hZ.symm
          rw [← hZ] at HZ
          rw [HZ.val] at HT
          obtain ⟨t, ht⟩ : ∃ t, t = lineR (runR ds).2.1 (runR ds).2.2 (mid l f j) := ⟨_, rfl⟩
          rw [← ht] at HT hlf
          obtain ⟨s, hs⟩ : ∃ s, s = (runR ds).2 := ⟨_, rfl⟩
          have hOs : O.size ≤ 600000 := by
            rw [ho]
            show (runR ds).1.toArray.size ≤ _
            have := hfit.2
            simp
            omega
          rw [← hs] at c0 c1 HT
          obtain ⟨T, TL, hT⟩ := IsStr.of (t.1 ++ [10])
          rw [hT.val] at HT
          have hTs : T.size ≤ 801 := by rw [hT.size, ← hT.len]; simp; exact hlf
          have HTT := Lib.hid hT
          have f0 := hfr 0
          have f1 := hfr 1
          have HA := Lib.hid ha; have HX := Lib.hid hx
          have HN : Hid (∀ w', Lies w' P t.2 → Ext w w' → LoopS w w' P l (j + 1) (j + 1) (O ++ T)) := fun w' h1 h2 => ⟨⟨ds ++ [mid l f j], by rw [hp, hpk]; simp, by
            rw [runR_snoc, ho, hT.eq]
            show _ = ByteArray.mk ((runR ds).1 ++ ((lineR (runR ds).2.1 (runR ds).2.2 (mid l f j)).1 ++ [10])).toArray
            rw [← ht]
            have := cat_eq (S := ⟨(runR ds).1.toArray⟩) (l := (runR ds).1) rfl (Z := ⟨(t.1 ++ [10]).toArray⟩) rfl
            exact Value.string.inj this, by
            rw [runR_snoc]
            show Lies w' P (lineR (runR ds).2.1 (runR ds).2.2 (mid l f j)).2
            rw [← ht]; exact h1, by simp; omega⟩, by rw [mid_self]; simp, h2⟩
          clear e1 e2 h10 hp ho ha hd hfr hx hpk hfit hml HZ hlf hZ ht hs hT r0
          go_wp2
          go_region_with (go_at_call 33; refine (HT.out _ (by first | exact (Ext.refl _).drew | exact (Ext.refl _).drew.alloc _)).mono ?_; rintro e w3 ⟨v3, rfl, s3, x3⟩; obtain ⟨k3, m3, rfl, rd3⟩ := s3; have R3 := Lib.hid rd3; first | (have q0 := (x3.cell (x := wr.heap.size) (o := 0) (by simp)).trans (cells_two wr.drew (.slice none 0 0) (.int .i64 0) 58).1; have q1 := (x3.cell (x := wr.heap.size) (o := 1) (by simp)).trans (cells_two wr.drew (.slice none 0 0) (.int .i64 0) 58).2.1; have q2 := (x3.frozen (x := wr.heap.size) (o := 0) (by simp)).trans ((cells_two wr.drew (.slice none 0 0) (.int .i64 0) 58).2.2 0); have q3 := (x3.frozen (x := wr.heap.size) (o := 1) (by simp)).trans ((cells_two wr.drew (.slice none 0 0) (.int .i64 0) 58).2.2 1); have X3 := Lib.hid (((Ext.refl wr).drew.alloc _).trans x3); have Q0 := Lib.hid q0; clear x3 rd3) | (have X3 := Lib.hid ((Ext.refl wr).drew.trans x3); clear x3 rd3))
          all_goals
            first
            | (obtain ⟨V, hV⟩ : ∃ V, V = w3.alloc (.cells #[.slice (some ⟨k3, 0, none⟩) t.2.1.length m3, .int .i64 t.2.2] 58) := ⟨_, rfl⟩
               rw [← hV]
               have e0 : V.cell? ⟨w3.heap.size, 0, none⟩ = some (.slice (some ⟨k3, 0, none⟩) t.2.1.length m3) := by rw [hV]; exact (cells_two _ _ _ _).1
               have e1 : V.cell? ⟨w3.heap.size, 1, none⟩ = some (.int .i64 t.2.2) := by rw [hV]; exact (cells_two _ _ _ _).2.1
               have HXV : Hid (Ext wr V) := by rw [hV]; exact X3.out.alloc _
               have R4 : Hid (Rd V (.slice (some ⟨k3, 0, none⟩) t.2.1.length m3) t.2.1) := R3.out.ext (by rw [hV]; exact (Ext.refl _).alloc _)
               clear hV)
            | (obtain ⟨V, hV⟩ : ∃ V, V = (w3.setCell ⟨wr.heap.size, 0, none⟩ (.slice (some ⟨k3, 0, none⟩) t.2.1.length m3)).setCell ⟨wr.heap.size, 1, none⟩ (.int .i64 t.2.2) := ⟨_, rfl⟩
               rw [← hV]
               have e0 : V.cell? ⟨wr.heap.size, 0, none⟩ = some (.slice (some ⟨k3, 0, none⟩) t.2.1.length m3) := by
                 rw [hV, World.cell?_setCell_other _ _ _ _ (by simp)]
                 exact World.cell?_setCell_same' _ _ _ (by rw [q0]; rfl)
               have e1 : V.cell? ⟨wr.heap.size, 1, none⟩ = some (.int .i64 t.2.2) := by
                 rw [hV]
                 refine World.cell?_setCell_same' _ _ _ ?_
                 rw [World.cell?_setCell_other _ _ _ _ (by simp), q1]; rfl
               have HXV : Hid (Ext wr V) := by rw [hV]; exact (X3.out.setCell (p := ⟨wr.heap.size, 0, none⟩) (Nat.le_refl _) _).setCell (p := ⟨wr.heap.size, 1, none⟩) (Nat.le_refl _) _
               have R4 : Hid (Rd V (.slice (some ⟨k3, 0, none⟩) t.2.1.length m3) t.2.1) := by rw [hV]; exact R3.out.away Q0.out _ _
               clear hV q0 q1 q2 q3)
            have LV := Lib.hid (HA.out.ext HXV.out)
            have v0 := (HXV.out.cell hPl).trans c0
            have v1 := (HXV.out.cell hPl).trans c1
            have g0 := LV.out.fr 0
            have g1 := LV.out.fr 1
            clear c0 c1 f0 f1
            go_wp2
            go_roundw
            case rel => exact ⟨j + 1, j + 1, O ++ T, Nat.le_refl _, by omega, by go_num, by go_num, rfl, HN.out _ (LV.out.put R4.out) (((HX.out.trans HXV.out).setCell (p := ⟨P, 0, none⟩) HPw.out _).setCell (p := ⟨P, 1, none⟩) HPw.out _)⟩
            case measure => simp [intOf]; omega
        · have t1 : ((b : Int) == 10) = false := by
            rw [beq_eq_false_iff_ne]
            intro e
            exact h10 (UInt8.toNat_inj.1 (by rw [e2]; show b = 10; omega))
          have HN : Hid (LoopS w wr P l f (j + 1) O) := ⟨HL.out.ex, by
            rw [mid_next hf (by rw [HS.out.len]; exact hlt), e1]
            intro h
            rcases List.mem_append.1 h with h | h
            · exact HL.out.free h
            · exact h10 (List.mem_singleton.1 h).symm, HL.out.ext⟩
          clear e1 e2 h10
          go_wp2
          go_roundw
          case rel => exact ⟨f, j + 1, O, by omega, by omega, by go_num, rfl, rfl, HN⟩
          case measure => simp [intOf]; omega
      · obtain rfl : j = L := by omega
        have d1 : decide ((j : Int) < (j : Int)) = false := decide_eq_false (by omega)
        obtain ⟨ds, hp, ho, ha, hd⟩ := HL.out.ex
        obtain ⟨⟨k0, m0, c0, c1, r0⟩, hfr, hPl⟩ := id ha
        have hmd : mid l f j = l.drop f := by rw [← HS.out.len]; exact mid_end
        have hfree := HL.out.free
        rw [hmd] at hfree
        rw [pieces_free hfree] at hp
        have HEE := Lib.hid (HE.out ds _ hp)
        have HX := Lib.hid HL.out.ext
        have hfit := runR_fit ds
        have hcl := hfit.1.c_le
        have hdl := dec_len (runR ds).2.2 (by omega)
        have HC := Lib.hid (l6Dec_c (runR ds).2.2 wr (by omega))
        obtain ⟨Dg, DL, hDg⟩ := IsStr.of (Lib.decDigits (runR ds).2.2)
        rw [hDg.val] at HC
        have hDs : Dg.size ≤ 7 := by rw [hDg.size, ← hDg.len]; exact hdl
        have HDG := Lib.hid hDg
        have HO := Lib.hid ho
        have hOs : O.size ≤ 600000 := by
          rw [ho]
          show (runR ds).1.toArray.size ≤ _
          have := hfit.2
          simp
          omega
        obtain ⟨cc, hcc⟩ : ∃ cc, cc = (runR ds).2.2 := ⟨_, rfl⟩
        rw [← hcc] at c1 HC
        clear hp ho ha hd c0 r0 hfr hPl hmd hfree hfit hcl hdl hDg hcc
        go_wp2_with fail
        refine HC.out.mono ?_
        rintro e w3 ⟨rfl, x3⟩
        have X3 := Lib.hid (HX.out.trans x3)
        clear x3 c1
        go_wp2
        go_ret
        rw [HEE.out]
        refine ⟨?_, X3.out⟩
        have e1 := cat_eq (S := O) (l := (runR ds).1) HO.out (Z := ⟨#[99, 111, 100, 101, 32]⟩) (r := codeS) rfl
        have e2 := cat_eq (S := O ++ ⟨#[99, 111, 100, 101, 32]⟩) (l := (runR ds).1 ++ codeS) (Value.string.inj e1) (Z := Dg) HDG.out.eq
        have e3 := cat_eq (S := O ++ ⟨#[99, 111, 100, 101, 32]⟩ ++ Dg) (l := (runR ds).1 ++ codeS ++ Lib.decDigits (runR ds).2.2) (Value.string.inj e2) (Z := ⟨#[10]⟩) (r := [10]) rfl
        rw [show (runR ds).1 ++ ((codeS ++ Lib.decDigits (runR ds).2.2) ++ [10]) = (((runR ds).1 ++ codeS) ++ Lib.decDigits (runR ds).2.2) ++ [10] from by simp]
        exact congrArg Ending.returned e3
  · have he : execR l = longS := by unfold execR; rw [if_neg (by rw [hS.len]; exact h6)]
    have h6' : decide ((L : Int) > 600) = true := decide_eq_true (by omega)
    rw [he, hS.val]
    clear he
    go_enter Tryz.func11, Tryz.ntmps11
    go_wp2
    go_ret
    exact ⟨rfl, Ext.refl _⟩
end Go.Proofs.YtkmfmhckpfomeaaGreatDoor

/- The law FnExactExecute: the program's Execute gives what the reference's gives. The condition: the world holds the library's two facts. -/
namespace Go.Proofs.YtkmfmhckpfomeaaGreatDoor
open Go.RowKit
open BigFrame
attribute [local go_sem] Oper.semAt_some

theorem str_bytes (s : ByteArray) : Value.string s = strV s.data.toList := by
  unfold strV
  cases s; simp
set_option maxRecDepth 100000 in
set_option maxHeartbeats 1000000 in
theorem FnExactExecute_walk (s : ByteArray) (w : World) (hw : Wd w) : Calls Tryz.prog 8 #[.string s] w fun e w' => e = .returned (.bool true) ∧ Below w.heap.size w w' := by
  by_cases hl : s.size ≤ 1048576
  · have hd1 : decide ((1048576 : Int) < (s.size : Int)) = false := decide_eq_false (by omega)
    have hll : s.data.toList.length ≤ 1048576 := by simpa using hl
    have HS := executeS_c s.data.toList w hll
    have HI := Lib.hid (fun w' (hx : Ext w w') => executeI_c s.data.toList w' (hw.ext hx) hll)
    rw [← str_bytes] at HS HI
    obtain ⟨E, EL, hE⟩ := IsStr.of (execR s.data.toList)
    rw [hE.val] at HS HI
    have HSS := Lib.hid HS
    clear hw hll HS hE
    go_enter Tryz.func8, Tryz.ntmps8
    go_wp2_with fail
    refine HSS.out.mono ?_
    rintro e w1 ⟨rfl, x1⟩
    have X1 := Lib.hid x1; clear x1
    go_wp2_with fail
    refine (HI.out _ X1.out).mono ?_
    rintro e w2 ⟨rfl, x2⟩
    have X2 := Lib.hid (X1.out.trans x2); clear x2
    go_wp2
    go_ret
    exact ⟨rfl, X2.out⟩
  · have hd1 : decide ((1048576 : Int) < (s.size : Int)) = true := decide_eq_true (by omega)
    clear hw
    go_enter Tryz.func8, Tryz.ntmps8
    go_wp2
    go_ret
    exact ⟨rfl, Ext.refl _⟩
end Go.Proofs.YtkmfmhckpfomeaaGreatDoor

/- From what the rows list and the world's shape to the library's two facts. No condition. -/
namespace Go.Proofs.YtkmfmhckpfomeaaGreatDoor
open Go

/-- What each row of this seat lists. -/
def laidL : List (String × DataW Unit) := [("math/bits.deBruijn32tab", Rows.laid_math_bits_deBruijn32tab), ("math/bits.deBruijn64tab", Rows.laid_math_bits_deBruijn64tab), ("internal/strconv.uint64pow10", Rows.laid_internal_strconv_uint64pow10), ("unicode/utf8.acceptRanges", Rows.laid_unicode_utf8_acceptRanges), ("unicode/utf8.first", Rows.laid_unicode_utf8_first)]
theorem pow_data : (Rows.laid_internal_strconv_uint64pow10 : DataW Unit) = Lib.tabData .u64 Lib.pow10Tab := by kernel_rfl
theorem wd_of {W : World} (h : laidMetH Tryz.prog laidL W) (hs : W.ShapedOpen Tryz.prog) : Wd W := by
  rw [MakeChecks.laidMetH_plain _ _ _ (by kernel_rfl)] at h
  refine ⟨?_, ?_⟩
  · exact cell_of_shapedOpen_int (zero := #[.int .i64 0]) (t := 3) hs (of_decide_eq_true (by kernel_rfl)) (by kernel_rfl) rfl (by kernel_rfl) (by kernel_rfl) Tryz.underlying3
  · have h2 := h.tail.tail
    rw [pow_data] at h2
    exact Lib.tabIs_of_head (g := 1) (by kernel_rfl) (by kernel_rfl) Tryz.underlying155 Tryz.underlying138 (by kernel_rfl) (by kernel_rfl) h2
end Go.Proofs.YtkmfmhckpfomeaaGreatDoor

/-
  THE HEAD OF THE SEAT: what the claim's facts ask of the program's first line, proved from its first words alone (the kernel never reads the rest of that line, which grows with the number of roots).
-/
namespace Go.Proofs.YtkmfmhckpfomeaaGreatDoor.head
theorem wordsSigns_cut : ∀ (a r : List Char), a.all (fun c => c != Char.ofNat 32) = true → wordsSigns (a ++ Char.ofNat 32 :: r) = a :: wordsSigns r
  | [], r, _ => rfl
  | c :: a, r, h => by
    simp only [List.all_cons, Bool.and_eq_true] at h
    have ih := wordsSigns_cut a r h.2
    have hc : c ≠ Char.ofNat 32 := by simpa using h.1
    rw [List.cons_append, wordsSigns]
    · rw [ih]
    · exact hc
theorem words_head {s : String} {L : List Char} (hs : s = String.ofList L)
    (h : L = "harness".toList ++ Char.ofNat 32 :: ((L.drop 8).take 64 ++ Char.ofNat 32 :: ("cut".toList ++ Char.ofNat 32 :: L.drop 77)))
    (h2 : isSumSigns ((L.drop 8).take 64) = true)
    (h1 : "harness".toList.all (fun c => c != Char.ofNat 32) = true) (h2' : ((L.drop 8).take 64).all (fun c => c != Char.ofNat 32) = true) (h3 : ("cut".toList).all (fun c => c != Char.ofNat 32) = true) :
    ∃ W, behindMainWord (wordsSigns s.toList) = "cut".toList :: W := by
  refine ⟨wordsSigns (L.drop 77), ?_⟩
  rw [hs, String.toList_ofList]
  conv => lhs; rw [h]
  rw [wordsSigns_cut _ _ h1, wordsSigns_cut _ _ h2', wordsSigns_cut _ _ h3]
  simp only [behindMainWord, h2, BEq.rfl, Bool.true_or, Bool.and_self, if_true]
theorem make_of (P : Program) (h : ∃ W, behindMainWord (wordsSigns P.initOrder.toList) = "cut".toList :: W) : P.make = some .cut := by
  obtain ⟨W, hw⟩ := h
  unfold Program.make
  rw [hw]
  kernel_rfl
theorem lifts_of (P : Program) (h : ∃ W, behindMainWord (wordsSigns P.initOrder.toList) = "cut".toList :: W) : P.liftsFinal = false := by
  obtain ⟨W, hw⟩ := h
  simp only [Program.liftsFinal, Program.headLifts, hw]
  kernel_rfl
theorem mayEnter_of (P : Program) (h : ∃ W, behindMainWord (wordsSigns P.initOrder.toList) = "cut".toList :: W) (h1 : P.laysLater = false) (h2 : P.bearsReflect = false) (h3 : P.doorFits [] = true) : P.mayEnter = true := by
  obtain ⟨W, hw⟩ := h
  have hs : stripLifts liftWords ("cut".toList :: W) = ([], "cut".toList :: W) := by kernel_rfl
  unfold Program.mayEnter
  rw [hw]
  simp only [hs, h1, h2, h3, List.head?_cons, BEq.rfl, Bool.not_false, Bool.or_true, Bool.and_true, List.contains_nil]
set_option maxRecDepth 1000000 in
theorem head_cut : ∃ W, behindMainWord (wordsSigns Tryz.prog.initOrder.toList) = "cut".toList :: W :=
  words_head (s := Tryz.prog.initOrder) rfl (by kernel_rfl) (by kernel_rfl) (by kernel_rfl) (by kernel_rfl) (by kernel_rfl)
theorem mayEnter : Tryz.pinned.checked.prog.mayEnter = true := mayEnter_of _ head_cut (by kernel_rfl) (by kernel_rfl) (by kernel_rfl)
theorem makex (b : Make) (h : b = .cut) : (Tryz.pinned.checked.prog.make == some b) = true := by rw [make_of Tryz.pinned.checked.prog head_cut, h]; rfl
theorem liftsx (b : Bool) (h : b = false) : (b == Tryz.pinned.checked.prog.liftsFinal) = true := by rw [lifts_of Tryz.pinned.checked.prog head_cut, h]; rfl
end Go.Proofs.YtkmfmhckpfomeaaGreatDoor.head
