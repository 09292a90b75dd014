/- A statement that draws its order, walked as in a plain frame, holds in a round too. The condition: none of its operations defers, and the way on lets nothing out. -/
import Derived.Test.YtpmammklklkheaaQuiet
namespace Go.Proofs.Ytpmammklklkheaa
open Go.RowKit
variable {P : Program} {ops : Array Oper} {md : Region.Mode}

theorem wpIn_of_wp {ro : Option Nat} {n : Nat} {o : Oper} {a : Act} {K K' : Act → World → Prop} {Q : Exit → Act → World → Prop} {w : World} (hd : ∀ c, o.op ≠ .defer c)
    (h : ∀ a w, K a w → K' a w) (hh : o.wp P a w K Q) : o.wpIn (FW ro) n P a w K' Q := by
  unfold Oper.wp at hh
  unfold Oper.wpIn
  refine ⟨fun _ _ => trivial, ?_⟩
  rw [semAt_FW _ _ hd]
  generalize (execOp a.eval o).run P w = r at *
  cases r with
  | ok x w' =>
    cases x with
    | value v => exact h _ _ hh
    | skip => exact h _ _ hh
    | defer d => exact h _ _ hh
    | enter f args =>
      refine ⟨fun hs => by simp at hs, callsFW (Calls.mono hh fun e w'' he => ?_)⟩
      cases e with
      | returned v => exact h _ _ he
      | panicked c => exact he
      | outgrown => exact he
    | row row args =>
      refine ⟨fun hs => by simp at hs, ?_⟩
      exact fun c cs _ => let ⟨v, w'', r, s⟩ := hh c cs; ⟨v, w'', h _ _ r, stepsIn_wide.2 s⟩
    | _ => exact hh.elim
  | halt x w' =>
    cases x <;> exact hh

theorem wpOpIn_of_wpOp {ro : Option Nat} {n i : Nat} {a : Act} {K K' : Act → World → Prop} {Q : Exit → Act → World → Prop} {w : World} (hd : noDefer ops = true) (hL : ¬ LetsOut Q)
    (h : ∀ a w, K a w → K' a w) (hh : wpOp P ops Q i K a w) : wpOpIn (FW ro) n P ops Q i K' a w := by
  unfold wpOp at hh
  unfold wpOpIn
  split
  · rename_i ho; simp only [ho] at hh; exact h _ _ hh
  · rename_i o ho
    simp only [ho] at hh
    split
    · rename_i hw
      rw [if_pos hw] at hh
      rcases hh with hh | ⟨_, hl⟩
      · exact wpIn_of_wp (noDefer_spec hd i o ho) h hh
      · exact absurd hl hL
    · rename_i hw
      rw [if_neg hw] at hh
      exact ⟨fun _ _ => trivial, h _ _ hh⟩

theorem wpAnyIn_of_wpAny {ro : Option Nat} {n : Nat} {Q : Exit → Act → World → Prop} (hd : noDefer ops = true) (hL : ¬ LetsOut Q) : ∀ (fuel : Nat) (listed : Array Bool) (a : Act) (w : World),
    wpAny P md ops Q fuel listed a w → wpAnyIn (FW ro) n P md ops Q fuel listed a w
  | 0, _, _, _, h => h
  | fuel + 1, _, _, _, h => ⟨h.1, fun i hi => wpOpIn_of_wpOp hd hL (fun a w => wpAnyIn_of_wpAny hd hL fuel _ a w) (h.2 i hi)⟩

/-- THE LAW: at a region that draws, in a round: walk it by 'wpAny', as in a plain frame. -/
theorem wpIn_region_plain {ro : Option Nat} {n id : Nat} {Q : Exit → Act → World → Prop} {a : Act} {w : World} (hm : P.follows .mixedOrders = true) (hd : noDefer ops = true) (hL : ¬ LetsOut Q)
    (h : wpAny P .any ops Q ops.size (Array.replicate ops.size false) a w.drew) : (Code.region id ops true).wpIn (FW ro) n P Q a w :=
  wpIn_region_any hm (wpAnyIn_of_wpAny hd hL _ _ _ _ h)
end Go.Proofs.Ytpmammklklkheaa
