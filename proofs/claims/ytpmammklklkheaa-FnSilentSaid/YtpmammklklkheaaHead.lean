/-
  THE HEAD OF THE SEAT: what the claim's facts ask of the program's first line, proved from its first words alone (the kernel never reads the rest of that line, which grows with the number of roots).
-/
import Derived.Test.YtpmammklklkheaaRows
import Derived.ProofKit
import Derived.OpenShut
namespace Go.Proofs.Ytpmammklklkheaa.head
theorem wordsSigns_cut : ∀ (a r : List Char), a.all (fun c => c != Char.ofNat 32) = true → wordsSigns (a ++ Char.ofNat 32 :: r) = a :: wordsSigns r
  | [], r, _ => rfl
  | c :: a, r, h => by
    simp only [List.all_cons, Bool.and_eq_true] at h
    have ih := wordsSigns_cut a r h.2
    have hc : c ≠ Char.ofNat 32 := by simpa using h.1
    rw [List.cons_append, wordsSigns]
    · rw [ih]
    · exact hc
theorem words_head {s : String} {L : List Char} (hs : s = String.ofList L)
    (h : L = "harness".toList ++ Char.ofNat 32 :: ((L.drop 8).take 64 ++ Char.ofNat 32 :: ("cut".toList ++ Char.ofNat 32 :: L.drop 77)))
    (h2 : isSumSigns ((L.drop 8).take 64) = true)
    (h1 : "harness".toList.all (fun c => c != Char.ofNat 32) = true) (h2' : ((L.drop 8).take 64).all (fun c => c != Char.ofNat 32) = true) (h3 : ("cut".toList).all (fun c => c != Char.ofNat 32) = true) :
    ∃ W, behindMainWord (wordsSigns s.toList) = "cut".toList :: W := by
  refine ⟨wordsSigns (L.drop 77), ?_⟩
  rw [hs, String.toList_ofList]
  conv => lhs; rw [h]
  rw [wordsSigns_cut _ _ h1, wordsSigns_cut _ _ h2', wordsSigns_cut _ _ h3]
  simp only [behindMainWord, h2, BEq.rfl, Bool.true_or, Bool.and_self, if_true]
theorem make_of (P : Program) (h : ∃ W, behindMainWord (wordsSigns P.initOrder.toList) = "cut".toList :: W) : P.make = some .cut := by
  obtain ⟨W, hw⟩ := h
  unfold Program.make
  rw [hw]
  kernel_rfl
theorem lifts_of (P : Program) (h : ∃ W, behindMainWord (wordsSigns P.initOrder.toList) = "cut".toList :: W) : P.liftsFinal = false := by
  obtain ⟨W, hw⟩ := h
  simp only [Program.liftsFinal, Program.headLifts, hw]
  kernel_rfl
theorem mayEnter_of (P : Program) (h : ∃ W, behindMainWord (wordsSigns P.initOrder.toList) = "cut".toList :: W) (h1 : P.laysLater = false) (h2 : P.bearsReflect = false) (h3 : P.doorFits [] = true) : P.mayEnter = true := by
  obtain ⟨W, hw⟩ := h
  have hs : stripLifts liftWords ("cut".toList :: W) = ([], "cut".toList :: W) := by kernel_rfl
  unfold Program.mayEnter
  rw [hw]
  simp only [hs, h1, h2, h3, List.head?_cons, BEq.rfl, Bool.not_false, Bool.or_true, Bool.and_true, List.contains_nil]
set_option maxRecDepth 1000000 in
theorem head_cut : ∃ W, behindMainWord (wordsSigns Try.prog.initOrder.toList) = "cut".toList :: W :=
  words_head (s := Try.prog.initOrder) rfl (by kernel_rfl) (by kernel_rfl) (by kernel_rfl) (by kernel_rfl) (by kernel_rfl)
theorem mayEnter : Try.pinned.checked.prog.mayEnter = true := mayEnter_of _ head_cut (by kernel_rfl) (by kernel_rfl) (by kernel_rfl)
theorem makex (b : Make) (h : b = .cut) : (Try.pinned.checked.prog.make == some b) = true := by rw [make_of Try.pinned.checked.prog head_cut, h]; rfl
theorem liftsx (b : Bool) (h : b = false) : (b == Try.pinned.checked.prog.liftsFinal) = true := by rw [lifts_of Try.pinned.checked.prog head_cut, h]; rfl
end Go.Proofs.Ytpmammklklkheaa.head
