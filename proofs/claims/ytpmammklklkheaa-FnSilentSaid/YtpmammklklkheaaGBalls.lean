/- The balls that the program gives for a graph. No condition. -/
import Derived.Test.YtpmammklklkheaaBalls
import Derived.Test.YtpmammklklkheaaGraphI
namespace Go.Proofs.Ytpmammklklkheaa
open Go.RowKit
open BigFrame

theorem Own.slice {w : World} {base : Nat} {v : Value} {xs : List Int} (h : Own w base v xs) (h1 : 1 ≤ xs.length) : ∃ g c, v = .slice (some ⟨g, 0, none⟩) xs.length c := by
  rcases h.get with ⟨rfl, h2⟩ | ⟨g, c, rfl, -⟩
  · rw [h2] at h1; simp at h1
  · exact ⟨g, c, rfl⟩

end Go.Proofs.Ytpmammklklkheaa
