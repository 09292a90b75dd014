/- Questions put behind questions: plain. No condition. -/
import Derived.Test.YtdoadigekmlnpaaFound
namespace Go.Proofs.Ytdoadigekmlnpaa

theorem byteAt_left {s t : ByteArray} {k : Nat} (h : k < s.size) : byteAt (s ++ t) k = byteAt s k := by
  unfold byteAt
  rw [dif_pos h, dif_pos (by rw [ByteArray.size_append]; omega), ByteArray.getElem_append_left h]
theorem byteAt_right {s t : ByteArray} {k : Nat} (h : k < t.size) : byteAt (s ++ t) (s.size + k) = byteAt t k := by
  unfold byteAt
  rw [dif_pos h, dif_pos (by rw [ByteArray.size_append]; omega), ByteArray.getElem_append_right (by omega)]
  congr 2
  omega
theorem getI_left {a b : List Int} {k : Nat} (h : k < a.length) : getI (a ++ b) k = getI a k := by
  unfold getI
  rw [List.getD_eq_getElem?_getD, List.getD_eq_getElem?_getD, List.getElem?_append_left h]
theorem getI_right {a b : List Int} {k : Nat} : getI (a ++ b) (a.length + k) = getI b k := by
  unfold getI
  rw [List.getD_eq_getElem?_getD, List.getD_eq_getElem?_getD, List.getElem?_append_right (by omega)]
  congr 2
  omega
theorem found_left {g a b : List Int} {s t : ByteArray} (h : a.length = s.size) : ∀ k, k ≤ a.length → foundTo g (a ++ b) (s ++ t) k = foundTo g a s k
  | 0, _ => rfl
  | k + 1, hk => by
    show (foundTo g (a ++ b) (s ++ t) k).bind _ = (foundTo g a s k).bind _
    rw [found_left h k (by omega), getI_left (show k < a.length by omega), byteAt_left (show k < s.size by omega)]
end Go.Proofs.Ytdoadigekmlnpaa
