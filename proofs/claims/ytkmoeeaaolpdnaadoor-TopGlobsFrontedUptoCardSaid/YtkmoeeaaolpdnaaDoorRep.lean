/-
  Plain: replacing one byte by one other, everywhere, is a map. No program in sight.
-/
import Derived.Lib.Replace
namespace Go.Proofs.YtkmoeeaaolpdnaaDoor
open Go.Lib

theorem index_one (c : UInt8) (l : List UInt8) : (index l [c] = -1 ∧ c ∉ l) ∨ ∃ a b, l = a ++ c :: b ∧ c ∉ a ∧ index l [c] = (a.length : Int) := by
  induction l with
  | nil => exact Or.inl ⟨rfl, by simp⟩
  | cons x l ih =>
    by_cases h : c = x
    · subst h
      exact Or.inr ⟨[], l, rfl, by simp, by simp [index, List.isPrefixOf]⟩
    · have hp : ([c] : List UInt8).isPrefixOf (x :: l) = false := by simp [List.isPrefixOf, h]
      rcases ih with ⟨h1, h2⟩ | ⟨a, b, rfl, h2, h3⟩
      · refine Or.inl ⟨by simp [index, hp, h1], by simp [h, h2]⟩
      · refine Or.inr ⟨x :: a, b, rfl, by simp [h, h2], ?_⟩
        have hm : ¬ ((a.length : Int) == -1) = true := fun e => by have := beq_iff_eq.1 e; omega
        rw [index, if_neg (by simp [hp]), h3, if_neg hm]; simp

def swp (c d b : UInt8) : UInt8 := if b = c then d else b
theorem map_swp_none (c d : UInt8) (l : List UInt8) (h : c ∉ l) : l.map (swp c d) = l := by
  conv => rhs; rw [← List.map_id l]
  apply List.map_congr_left
  intro b hb
  have : b ≠ c := fun e => h (e ▸ hb)
  simp [swp, this]
theorem replaceK_one (c d : UInt8) (n : Nat) : ∀ l : List UInt8, l.length ≤ n → replaceK [c] [d] (count l [c]) l = l.map (swp c d) := by
  induction n with
  | zero =>
    intro l hl
    obtain rfl := List.eq_nil_of_length_eq_zero (Nat.le_zero.1 hl)
    rcases index_one c [] with ⟨h1, _⟩ | ⟨a, b, h, _⟩
    · rw [count_miss h1]; rfl
    · simp at h
  | succ n ih =>
    intro l hl
    rcases index_one c l with ⟨h1, h2⟩ | ⟨a, b, rfl, h2, h3⟩
    · rw [count_miss h1, map_swp_none c d l h2]; rfl
    · have hd : (a ++ c :: b).drop (a.length + ([c] : List UInt8).length) = b := by
        rw [List.length_singleton, ← List.drop_drop, List.drop_left]; rfl
      rw [count_hit (by simp) h3, Nat.add_comm 1, replaceK_hit _ _ _ _ _ h3, hd, ih b (by simp at hl; omega), List.take_left]
      rw [List.map_append, List.map_cons, map_swp_none c d a h2]
      simp [swp]
theorem replaceAll_one (c d : UInt8) (h : c ≠ d) (l : List UInt8) : replaceAll l [c] [d] = l.map (swp c d) := by
  have e : (([c] : List UInt8) == [d]) = false := by rw [beq_eq_false_iff_ne]; simpa using h
  unfold replaceAll replace
  rw [if_neg (by simp [e])]
  have hn : replaceNum l [c] (-1) = count l [c] := by unfold replaceNum; rw [if_pos (Or.inl (by decide))]
  rw [hn]
  exact replaceK_one c d l.length l (Nat.le_refl _)

end Go.Proofs.YtkmoeeaaolpdnaaDoor
