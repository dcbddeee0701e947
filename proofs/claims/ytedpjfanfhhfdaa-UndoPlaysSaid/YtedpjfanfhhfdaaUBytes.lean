/- The reference's order of texts. -/
import Derived.Test.YtedpjfanfhhfdaaUCmp
namespace Go.Proofs.Ytedpjfanfhhfdaa

theorem cmpL_same (x : UInt8) (s t : List UInt8) : cmpL (x :: s) (x :: t) = cmpL s t := by
  have h1 : (x :: s < x :: t) ↔ s < t := by rw [List.cons_lt_cons_iff]; simp
  have h2 : (x :: t < x :: s) ↔ t < s := by rw [List.cons_lt_cons_iff]; simp
  unfold cmpL
  by_cases a : s < t
  · rw [if_pos a, if_pos (h1.2 a)]
  · rw [if_neg a, if_neg (fun h => a (h1.1 h))]
    by_cases b : t < s
    · rw [if_pos b, if_pos (h2.2 b)]
    · rw [if_neg b, if_neg (fun h => b (h2.1 h))]
theorem cmpL_ne {x y : UInt8} (h : x ≠ y) (s t : List UInt8) : cmpL (x :: s) (y :: t) = if x < y then -1 else 1 := by
  have h1 : (x :: s < y :: t) ↔ x < y := by rw [List.cons_lt_cons_iff]; simp [h]
  have h2 : (y :: t < x :: s) ↔ y < x := by rw [List.cons_lt_cons_iff]; simp; intro e; exact absurd e.symm h
  unfold cmpL
  by_cases a : x < y
  · rw [if_pos a, if_pos (h1.2 a)]
  · rw [if_neg a, if_neg (fun h => a (h1.1 h))]
    have b : y < x := by
      rcases UInt8.lt_or_lt_of_ne h with h | h
      · exact absurd h a
      · exact h
    rw [if_pos (h2.2 b)]
theorem cmpL_nil_left (t : List UInt8) : cmpL [] t = if t = [] then 0 else -1 := by
  cases t with
  | nil => rfl
  | cons y t => rfl
theorem cmpL_nil_right (s : List UInt8) : cmpL s [] = if s = [] then 0 else 1 := by
  cases s with
  | nil => rfl
  | cons y t => rfl

theorem drop_cons (s : ByteArray) {i : Nat} (h : i < s.size) : s.data.toList.drop i = s[i] :: s.data.toList.drop (i + 1) := by
  rw [List.drop_eq_getElem_cons (by simpa using h)]
  rfl

end Go.Proofs.Ytedpjfanfhhfdaa
