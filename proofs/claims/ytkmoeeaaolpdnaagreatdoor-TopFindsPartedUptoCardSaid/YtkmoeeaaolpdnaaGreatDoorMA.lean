/-
 The plain theory of patterns: what a pattern matches, and the automaton's places. No program in sight.
 The walk of glob.closure: the places of a pattern that are reached, with stars that match nothing. Condition: the pattern has at most 1000 bytes and each place of the argument lies in it.
 The walks of slices.Index, slices.Contains at whole numbers, and of glob.Matches: it answers whether the text is matched by the pattern, as the plain theory says. Condition of Matches: the pattern has at most 1000 bytes.
 The walks of glob.Match, wGlobs, wMatch and wPick: Match refuses what is longer than 100 bytes and else answers as the plain theory says; wGlobs answers true. Condition: each string has at most 140737488355000 bytes.
-/
import Derived.Below
import Derived.OwnWalk
import Derived.WalkKit
import Derived.KernelRfl
import Derived.Deep.LoopGhost
import Derived.BigQuiet
import Derived.Test.YtkmoeeaaolpdnaaGreatDoorProg
import Derived.Test.YtkmoeeaaolpdnaaGreatDoorWWords
namespace Go.Proofs.YtkmoeeaaolpdnaaGreatDoor.GlobPlain

/-- what one byte of a pattern takes -/
def El (a : UInt8) (u : List UInt8) : Prop := a = 42 ∨ ∃ c, u = [c] ∧ (a = 63 ∨ a = c)

/-- a text is matched by a pattern -/
def GM : List UInt8 → List UInt8 → Prop
  | [], t => t = []
  | a :: p, t => ∃ u v, t = u ++ v ∧ El a u ∧ GM p v

theorem GM_nil (t : List UInt8) : GM [] t ↔ t = [] := Iff.rfl
theorem GM_cons (a : UInt8) (p t : List UInt8) : GM (a :: p) t ↔ ∃ u v, t = u ++ v ∧ El a u ∧ GM p v := Iff.rfl

theorem GM_append (p q t : List UInt8) : GM (p ++ q) t ↔ ∃ u v, t = u ++ v ∧ GM p u ∧ GM q v := by
  induction p generalizing t with
  | nil =>
    simp only [List.nil_append, GM_nil]
    exact ⟨fun h => ⟨[], t, rfl, rfl, h⟩, fun ⟨u, v, h, hu, hv⟩ => by subst hu; subst h; exact hv⟩
  | cons a p ih =>
    simp only [List.cons_append, GM_cons, ih]
    constructor
    · rintro ⟨u, v, rfl, h1, u', v', rfl, h2, h3⟩
      exact ⟨u ++ u', v', by simp, ⟨u, u', rfl, h1, h2⟩, h3⟩
    · rintro ⟨u, v, rfl, ⟨u', v', rfl, h1, h2⟩, h3⟩
      exact ⟨u', v' ++ v, by simp, h1, v', v, rfl, h2, h3⟩

theorem GM_one (a : UInt8) (t : List UInt8) : GM [a] t ↔ El a t := by
  rw [GM_cons]
  constructor
  · rintro ⟨u, v, rfl, h, hv⟩; rw [GM_nil] at hv; subst hv; simpa using h
  · intro h; exact ⟨t, [], by simp, h, rfl⟩

theorem GM_congr {p q a b : List UInt8} (h : ∀ u, GM p u → GM q u) {t : List UInt8} (ht : GM (a ++ p ++ b) t) : GM (a ++ q ++ b) t := by
  rw [GM_append, ] at ht ⊢
  obtain ⟨u, v, rfl, h1, h2⟩ := ht
  refine ⟨u, v, rfl, ?_, h2⟩
  rw [GM_append] at h1 ⊢
  obtain ⟨u, v, rfl, h1, h3⟩ := h1
  exact ⟨u, v, rfl, h1, h _ h3⟩

theorem GM_star (t : List UInt8) : GM [42] t := (GM_one _ _).2 (Or.inl rfl)
theorem El_mark (t : List UInt8) : El 63 t ↔ t.length = 1 := by
  unfold El
  constructor
  · rintro (h | ⟨c, rfl, _⟩)
    · exact absurd h (by decide)
    · rfl
  · intro h
    match t, h with
    | [c], _ => exact Or.inr ⟨c, rfl, Or.inl rfl⟩
theorem GM_mark (t : List UInt8) : GM [63] t ↔ t.length = 1 := by rw [GM_one, El_mark]

theorem GM_starMark (t : List UInt8) : GM [42, 63] t ↔ 1 ≤ t.length := by
  show GM ([42] ++ [63]) t ↔ _
  rw [GM_append]
  constructor
  · rintro ⟨u, v, rfl, _, h⟩; rw [GM_mark] at h; simp; omega
  · intro h
    refine ⟨t.take (t.length - 1), t.drop (t.length - 1), by simp, GM_star _, ?_⟩
    rw [GM_mark]; simp; omega
theorem GM_markStar (t : List UInt8) : GM [63, 42] t ↔ 1 ≤ t.length := by
  show GM ([63] ++ [42]) t ↔ _
  rw [GM_append]
  constructor
  · rintro ⟨u, v, rfl, h, _⟩; rw [GM_mark] at h; simp; omega
  · intro h
    refine ⟨t.take 1, t.drop 1, (List.take_append_drop 1 t).symm, ?_, GM_star _⟩
    rw [GM_mark]; simp; omega

/-- a star and a question mark change their places -/
theorem stars_moved (a b t : List UInt8) : GM (a ++ [42, 63] ++ b) t ↔ GM (a ++ [63, 42] ++ b) t :=
  ⟨GM_congr fun u h => by rw [GM_markStar]; rwa [GM_starMark] at h, GM_congr fun u h => by rw [GM_starMark]; rwa [GM_markStar] at h⟩

/-- a star stands twice -/
theorem stars_twice (a b t : List UInt8) : GM (a ++ [42] ++ b) t ↔ GM (a ++ [42, 42] ++ b) t :=
  ⟨GM_congr fun u _ => by
      show GM ([42] ++ [42]) u
      rw [GM_append]; exact ⟨u, [], by simp, GM_star _, GM_star _⟩, GM_congr fun u _ => GM_star u⟩

theorem wider_star (a b t : List UInt8) (h : GM (a ++ b) t) : GM (a ++ [42] ++ b) t := by
  have h' : GM (a ++ [] ++ b) t := by simpa using h
  exact GM_congr (fun u _ => GM_star u) h'
theorem wider_one (x : UInt8) (hx : x ≠ 42) (a b t : List UInt8) (h : GM (a ++ [x] ++ b) t) : GM (a ++ [63] ++ b) t :=
  GM_congr (fun u hu => by
    rw [GM_mark]; rw [GM_one] at hu
    rcases hu with h | ⟨c, rfl, _⟩
    · exact absurd h hx
    · rfl) h
theorem wider_any (x : UInt8) (a b t : List UInt8) (h : GM (a ++ [x] ++ b) t) : GM (a ++ [42] ++ b) t := GM_congr (fun u _ => GM_star u) h

/-- two patterns behind each other -/
theorem joined {p q s t : List UInt8} (h : GM p s) (g : GM q t) : GM (p ++ q) (s ++ t) := (GM_append _ _ _).2 ⟨s, t, rfl, h, g⟩
theorem joined_star {p q s t : List UInt8} (m : List UInt8) (h : GM p s) (g : GM q t) : GM (p ++ [42] ++ q) (s ++ m ++ t) :=
  joined (joined h (GM_star m)) g

theorem El_reverse (a : UInt8) (u : List UInt8) : El a u.reverse ↔ El a u := by
  unfold El
  constructor
  · rintro (h | ⟨c, h, g⟩)
    · exact Or.inl h
    · exact Or.inr ⟨c, by rw [← List.reverse_reverse u, h]; rfl, g⟩
  · rintro (h | ⟨c, rfl, g⟩)
    · exact Or.inl h
    · exact Or.inr ⟨c, rfl, g⟩
theorem turned_le (p t : List UInt8) (h : GM p t) : GM p.reverse t.reverse := by
  induction p generalizing t with
  | nil => rw [GM_nil] at h; subst h; exact rfl
  | cons a p ih =>
    obtain ⟨u, v, rfl, h1, h2⟩ := h
    rw [List.reverse_cons, List.reverse_append]
    exact joined (ih v h2) ((GM_one _ _).2 ((El_reverse a u).2 h1))
/-- both the other way round -/
theorem turned (p t : List UInt8) : GM p t ↔ GM p.reverse t.reverse :=
  ⟨turned_le p t, fun h => by have := turned_le _ _ h; simpa using this⟩

def Lit (p : List UInt8) : Prop := ∀ a ∈ p, a ≠ 42 ∧ a ≠ 63
theorem GM_lit (p t : List UInt8) (h : Lit p) : GM p t ↔ t = p := by
  induction p generalizing t with
  | nil => exact Iff.rfl
  | cons a p ih =>
    have h1 := h a (by simp)
    have h2 : Lit p := fun b hb => h b (by simp [hb])
    rw [GM_cons]
    constructor
    · rintro ⟨u, v, rfl, hu, hv⟩
      rw [(ih v h2).1 hv]
      rcases hu with hu | ⟨c, rfl, hu | hu⟩
      · exact absurd hu h1.1
      · exact absurd hu h1.2
      · subst hu; rfl
    · rintro rfl
      exact ⟨[a], p, rfl, Or.inr ⟨a, rfl, Or.inr rfl⟩, (ih p h2).2 rfl⟩
theorem fronted (m p t : List UInt8) (h : Lit m) : GM p t ↔ GM (m ++ p) (m ++ t) := by
  constructor
  · exact fun g => joined ((GM_lit m m h).2 rfl) g
  · intro g
    obtain ⟨u, v, e, h1, h2⟩ := (GM_append _ _ _).1 g
    rw [(GM_lit m u h).1 h1] at e
    rw [List.append_cancel_left e]; exact h2
theorem behind (m p t : List UInt8) (h : Lit m) : GM p t ↔ GM (p ++ m) (t ++ m) := by
  constructor
  · exact fun g => joined g ((GM_lit m m h).2 rfl)
  · intro g
    obtain ⟨u, v, e, h1, h2⟩ := (GM_append _ _ _).1 g
    rw [(GM_lit m v h).1 h2] at e
    rw [List.append_cancel_right e]; exact h1

theorem named_le (f : UInt8 → UInt8) (hs : ∀ a, f a = 42 ↔ a = 42) (hq : ∀ a, f a = 63 ↔ a = 63) (p t : List UInt8) (h : GM p t) : GM (p.map f) (t.map f) := by
  induction p generalizing t with
  | nil => rw [GM_nil] at h; subst h; exact rfl
  | cons a p ih =>
    obtain ⟨u, v, rfl, h1, h2⟩ := h
    refine ⟨u.map f, v.map f, by simp, ?_, ih v h2⟩
    rcases h1 with h1 | ⟨c, rfl, h1 | h1⟩
    · exact Or.inl ((hs a).2 h1)
    · exact Or.inr ⟨f c, rfl, Or.inl ((hq a).2 h1)⟩
    · subst h1; exact Or.inr ⟨f a, rfl, Or.inr rfl⟩
theorem named (f : UInt8 → UInt8) (hf : ∀ a, f (f a) = a) (hs : ∀ a, f a = 42 ↔ a = 42) (hq : ∀ a, f a = 63 ↔ a = 63) (p t : List UInt8) : GM p t ↔ GM (p.map f) (t.map f) :=
  ⟨named_le f hs hq p t, fun h => by
    have := named_le f hs hq _ _ h
    simpa [List.map_map, Function.comp_def, hf] using this⟩

def markOf : List Bool → List UInt8 := fun l => l.map fun x => if x then 42 else 63
theorem marks (l : List Bool) (t : List UInt8) : GM (markOf l) t ↔ (t.length = l.count false ∨ (true ∈ l ∧ l.count false < t.length)) := by
  induction l generalizing t with
  | nil => simp [markOf, GM_nil]
  | cons x l ih =>
    show GM ((if x then 42 else 63) :: markOf l) t ↔ _
    rw [GM_cons]
    cases x with
    | true =>
      simp only [if_true, List.mem_cons, true_or, true_and]
      rw [List.count_cons_of_ne (by decide)]
      constructor
      · rintro ⟨u, v, rfl, _, h⟩
        have := (ih v).1 h
        simp only [List.length_append]
        omega
      · intro h
        refine ⟨t.take (t.length - l.count false), t.drop (t.length - l.count false), by simp, Or.inl rfl, (ih _).2 (Or.inl ?_)⟩
        simp only [List.length_drop]; omega
    | false =>
      simp only [Bool.false_eq_true, if_false, List.count_cons_self, List.mem_cons]
      constructor
      · rintro ⟨u, v, rfl, h, h'⟩
        have h1 := (El_mark u).1 h
        have := (ih v).1 h'
        simp only [List.length_append]
        rcases this with h | ⟨h, g⟩
        · exact Or.inl (by omega)
        · exact Or.inr ⟨by simp [h], by omega⟩
      · intro h
        refine ⟨t.take 1, t.drop 1, (List.take_append_drop 1 t).symm, (El_mark _).2 ?_, (ih _).2 ?_⟩
        · simp only [List.length_take]; omega
        · simp only [List.length_drop]
          rcases h with h | ⟨h, g⟩
          · exact Or.inl (by omega)
          · exact Or.inr ⟨by simpa using h, by omega⟩

/-- the step at the end of the pattern -/
theorem GM_snoc (p : List UInt8) (a : UInt8) (t : List UInt8) : GM (p ++ [a]) t ↔ ∃ u v, t = u ++ v ∧ GM p u ∧ El a v := by
  rw [GM_append]; simp only [GM_one]

theorem GM_snoc_star (p t : List UInt8) (c : UInt8) : GM (p ++ [42]) (t ++ [c]) ↔ (GM p (t ++ [c]) ∨ GM (p ++ [42]) t) := by
  rw [GM_snoc, GM_snoc]
  constructor
  · rintro ⟨u, v, e, h, _⟩
    rcases List.eq_nil_or_concat v with rfl | ⟨v', d, rfl⟩
    · left; rw [e]; simpa using h
    · right
      have e2 : t ++ [c] = (u ++ v') ++ [d] := by rw [e]; simp
      have := List.append_inj' e2 rfl
      exact ⟨u, v', this.1, h, Or.inl rfl⟩
  · rintro (h | ⟨u, v, rfl, h, _⟩)
    · exact ⟨_, [], by simp, h, Or.inl rfl⟩
    · exact ⟨u, v ++ [c], by simp, h, Or.inl rfl⟩
theorem GM_snoc_other (p t : List UInt8) (a c : UInt8) (ha : a ≠ 42) : GM (p ++ [a]) (t ++ [c]) ↔ ((a = 63 ∨ a = c) ∧ GM p t) := by
  rw [GM_snoc]
  constructor
  · rintro ⟨u, v, e, h, hv | ⟨d, rfl, hv⟩⟩
    · exact absurd hv ha
    · have := List.append_inj' e rfl
      obtain ⟨rfl, h2⟩ := this
      have h3 : c = d := by simpa using h2
      subst h3
      exact ⟨hv, h⟩
  · rintro ⟨h, g⟩
    exact ⟨t, [c], rfl, g, Or.inr ⟨c, rfl, h⟩⟩
theorem GM_nil_snoc (t : List UInt8) (c : UInt8) : ¬ GM [] (t ++ [c]) := by simp [GM_nil]
theorem GM_snoc_nil (p : List UInt8) (a : UInt8) : GM (p ++ [a]) [] ↔ a = 42 ∧ GM p [] := by
  rw [GM_snoc]
  constructor
  · rintro ⟨u, v, e, h, hv⟩
    obtain ⟨rfl, rfl⟩ : u = [] ∧ v = [] := by simpa using e.symm
    rcases hv with hv | ⟨c, hc, _⟩
    · exact ⟨hv, h⟩
    · cases hc
  · rintro ⟨rfl, h⟩; exact ⟨[], [], rfl, h, Or.inl rfl⟩

/-- the automaton: place k of the pattern is reached behind i bytes of the text -/
def At (p t : List UInt8) (k i : Nat) : Prop := GM (p.take k) (t.take i)
theorem take_snoc {p : List UInt8} {k : Nat} (h : k < p.length) : p.take (k + 1) = p.take k ++ [p[k]] := by
  rw [List.take_succ_eq_append_getElem h]
theorem At_zero (p t : List UInt8) : At p t 0 0 := by unfold At; rw [List.take_zero, List.take_zero, GM_nil]
theorem At_zero_succ (p t : List UInt8) (i : Nat) (hi : i < t.length) : ¬ At p t 0 (i + 1) := by
  unfold At; rw [List.take_zero, take_snoc hi]; exact GM_nil_snoc _ _
theorem At_succ_zero (p t : List UInt8) (k : Nat) (hk : k < p.length) : At p t (k + 1) 0 ↔ p[k] = 42 ∧ At p t k 0 := by
  unfold At; rw [take_snoc hk, List.take_zero]; exact GM_snoc_nil _ _
theorem At_star (p t : List UInt8) (k i : Nat) (hk : k < p.length) (hi : i < t.length) (h : p[k] = 42) : At p t (k + 1) (i + 1) ↔ (At p t k (i + 1) ∨ At p t (k + 1) i) := by
  unfold At; rw [take_snoc hk, take_snoc hi, h]; exact GM_snoc_star _ _ _
theorem At_other (p t : List UInt8) (k i : Nat) (hk : k < p.length) (hi : i < t.length) (h : p[k] ≠ 42) : At p t (k + 1) (i + 1) ↔ ((p[k] = 63 ∨ p[k] = t[i]) ∧ At p t k i) := by
  unfold At; rw [take_snoc hk, take_snoc hi]; exact GM_snoc_other _ _ _ _ h
theorem At_all (p t : List UInt8) : At p t p.length t.length ↔ GM p t := by
  unfold At; rw [List.take_length, List.take_length]

/-! ### the automaton's closure, as the program reckons it -/
def reach (st : Nat → Bool) (xs : List Nat) : Nat → Bool
  | 0 => decide (0 ∈ xs)
  | k + 1 => decide (k + 1 ∈ xs) || (st k && reach st xs k)
def seenA (n : Nat) (xs : List Nat) (j : Nat) : List Bool := (List.range n).map fun i => decide (i ∈ xs.take j)
def seenB (n : Nat) (st : Nat → Bool) (xs : List Nat) (k : Nat) : List Bool := (List.range n).map fun i => if i ≤ k then reach st xs i else decide (i ∈ xs)
def outB (st : Nat → Bool) (xs : List Nat) (k : Nat) : List Nat := (List.range k).filter (reach st xs)
theorem seenA_length (n : Nat) (xs : List Nat) (j : Nat) : (seenA n xs j).length = n := by simp [seenA]
theorem seenB_length (n : Nat) (st : Nat → Bool) (xs : List Nat) (j : Nat) : (seenB n st xs j).length = n := by simp [seenB]
theorem seenA_zero (n : Nat) (xs : List Nat) : seenA n xs 0 = List.replicate n false := by
  apply List.ext_getElem (by simp [seenA])
  intro i h1 h2; simp [seenA]
theorem seenA_succ (n : Nat) (xs : List Nat) (j : Nat) (hj : j < xs.length) : (seenA n xs j).set xs[j] true = seenA n xs (j + 1) := by
  apply List.ext_getElem (by simp [seenA])
  intro i h1 h2
  rw [List.getElem_set]
  simp only [seenA, List.getElem_map, List.getElem_range]
  rw [List.take_succ_eq_append_getElem hj]
  have e : (i ∈ xs.take j ++ [xs[j]]) ↔ (i ∈ xs.take j ∨ i = xs[j]) := by simp only [List.mem_append, List.mem_singleton]
  rw [decide_eq_decide.2 e]
  by_cases h : xs[j] = i
  · rw [if_pos h, decide_eq_true (Or.inr h.symm)]
  · rw [if_neg h]; exact decide_eq_decide.2 ⟨Or.inl, fun g => g.elim id fun g => absurd g.symm h⟩
theorem seenA_all (n : Nat) (st : Nat → Bool) (xs : List Nat) : seenA n xs xs.length = seenB n st xs 0 := by
  apply List.ext_getElem (by simp [seenA, seenB])
  intro i h1 h2
  simp only [seenA, seenB, List.getElem_map, List.getElem_range, List.take_length]
  by_cases h : i ≤ 0
  · rw [if_pos h]; obtain rfl : i = 0 := by omega
    rfl
  · rw [if_neg h]
theorem seenB_at (n : Nat) (st : Nat → Bool) (xs : List Nat) (k : Nat) (hk : k < n) : (seenB n st xs k).getD k false = reach st xs k := by
  simp [seenB, List.getD_eq_getElem?_getD, List.getElem?_map, List.getElem?_range hk]
theorem seenB_keep (n : Nat) (st : Nat → Bool) (xs : List Nat) (k : Nat) (h : reach st xs k = false ∨ st k = false ∨ n ≤ k + 1) : seenB n st xs (k + 1) = seenB n st xs k := by
  apply List.ext_getElem (by simp [seenB])
  intro i h1 h2
  simp only [seenB_length] at h1
  simp only [seenB, List.getElem_map, List.getElem_range]
  by_cases hi : i ≤ k
  · rw [if_pos (by omega), if_pos hi]
  · rw [if_neg hi]
    by_cases hi' : i ≤ k + 1
    · rw [if_pos hi']
      obtain rfl : i = k + 1 := by omega
      rcases h with h | h | h
      · simp [reach, h]
      · simp [reach, h]
      · omega
    · rw [if_neg hi']
theorem seenB_set (n : Nat) (st : Nat → Bool) (xs : List Nat) (k : Nat) (h : reach st xs k = true) (h2 : st k = true) : (seenB n st xs k).set (k + 1) true = seenB n st xs (k + 1) := by
  apply List.ext_getElem (by simp [seenB])
  intro i h1 h3
  rw [List.getElem_set]
  simp only [seenB, List.getElem_map, List.getElem_range]
  by_cases hi : k + 1 = i
  · rw [if_pos hi]; subst hi
    rw [if_pos (by omega)]; simp [reach, h, h2]
  · rw [if_neg hi]
    by_cases hi' : i ≤ k
    · rw [if_pos hi', if_pos (by omega)]
    · rw [if_neg hi', if_neg (by omega)]
theorem outB_in (st : Nat → Bool) (xs : List Nat) (k : Nat) (h : reach st xs k = true) : outB st xs (k + 1) = outB st xs k ++ [k] := by
  simp [outB, List.range_succ, List.filter_append, h]
theorem outB_out (st : Nat → Bool) (xs : List Nat) (k : Nat) (h : reach st xs k = false) : outB st xs (k + 1) = outB st xs k := by
  simp [outB, List.range_succ, List.filter_append, h]
theorem outB_le (st : Nat → Bool) (xs : List Nat) (k : Nat) : (outB st xs k).length ≤ k := by
  have := List.length_filter_le (reach st xs) (List.range k); simpa [outB] using this
theorem mem_outB (st : Nat → Bool) (xs : List Nat) (k i : Nat) : i ∈ outB st xs k ↔ i < k ∧ reach st xs i = true := by simp [outB]

/-! ### the automaton's step -/
def stL (p : List UInt8) (k : Nat) : Bool := p.getD k 0 == 42
def stepO (p : List UInt8) (c : UInt8) (q : Nat) : Option Nat :=
  if q = p.length then none else if p.getD q 0 = 42 then some q else if p.getD q 0 = 63 ∨ p.getD q 0 = c then some (q + 1) else none
/-- a star's place is reached as soon as what stands ahead of it, and whatever the star has taken since -/
def AtS (p t : List UInt8) (k i : Nat) : Prop := if stL p k = true then At p t (k + 1) i else At p t k i
theorem stL_lt {p : List UInt8} {k : Nat} (h : stL p k = true) : ∃ h : k < p.length, p[k] = 42 := by
  unfold stL at h
  by_cases hk : k < p.length
  · exact ⟨hk, by simpa [List.getD_eq_getElem?_getD, List.getElem?_eq_getElem hk] using h⟩
  · rw [List.getD_eq_getElem?_getD, List.getElem?_eq_none (by omega)] at h; simp at h
theorem stL_not {p : List UInt8} {k : Nat} (hk : k < p.length) (h : stL p k = false) : p[k] ≠ 42 := by
  unfold stL at h
  simpa [List.getD_eq_getElem?_getD, List.getElem?_eq_getElem hk] using h
theorem getD_lt {p : List UInt8} {k : Nat} (hk : k < p.length) : p.getD k 0 = p[k] := by simp [List.getD_eq_getElem?_getD, List.getElem?_eq_getElem hk]
theorem stL_eq {p : List UInt8} {k : Nat} (hk : k < p.length) : stL p k = (p[k] == 42) := by unfold stL; rw [getD_lt hk]
theorem AtS_zero (p t : List UInt8) (k : Nat) (hk : k ≤ p.length) : reach (stL p) [0] k = true ↔ AtS p t k 0 := by
  induction k with
  | zero =>
    refine ⟨fun _ => ?_, fun _ => by simp [reach]⟩
    unfold AtS
    by_cases h : stL p 0 = true
    · rw [if_pos h]; obtain ⟨h1, h2⟩ := stL_lt h
      rw [At_succ_zero _ _ _ h1]; exact ⟨h2, At_zero _ _⟩
    · rw [if_neg h]; exact At_zero _ _
  | succ k ih =>
    have ih := ih (by omega)
    have e : reach (stL p) [0] (k + 1) = true ↔ (stL p k = true ∧ reach (stL p) [0] k = true) := by simp [reach]
    rw [e, ih]
    have hk' : k < p.length := by omega
    have h0 : (stL p k = true ∧ AtS p t k 0) ↔ At p t (k + 1) 0 := by
      constructor
      · rintro ⟨h, g⟩; unfold AtS at g; rwa [if_pos h] at g
      · intro g
        have := (At_succ_zero p t k hk').1 g
        have h : stL p k = true := by rw [stL_eq hk', this.1]; rfl
        exact ⟨h, by unfold AtS; rwa [if_pos h]⟩
    rw [h0]
    unfold AtS
    by_cases h : stL p (k + 1) = true
    · rw [if_pos h]; obtain ⟨h1, h2⟩ := stL_lt h
      rw [At_succ_zero p t (k + 1) h1]; exact ⟨fun g => ⟨h2, g⟩, fun g => g.2⟩
    · rw [if_neg h]
theorem AtS_succ (p t : List UInt8) (l : List Nat) (i k : Nat) (hi : i < t.length) (hl : ∀ q, q ∈ l ↔ q ≤ p.length ∧ AtS p t q i) (hk : k ≤ p.length) :
    reach (stL p) (l.filterMap (stepO p t[i])) k = true ↔ AtS p t k (i + 1) := by
  have hmem : ∀ k, k ≤ p.length → (k ∈ l.filterMap (stepO p t[i]) ↔ ((stL p k = true ∧ AtS p t k i) ∨ ∃ q, ∃ hq : q < p.length, k = q + 1 ∧ stL p q = false ∧ (p[q] = 63 ∨ p[q] = t[i]) ∧ At p t q i)) := by
    intro k hk
    rw [List.mem_filterMap]
    constructor
    · rintro ⟨q, hq, e⟩
      have hq := (hl q).1 hq
      unfold stepO at e
      by_cases h1 : q = p.length
      · rw [if_pos h1] at e; cases e
      · have hlt : q < p.length := by omega
        rw [if_neg h1, getD_lt hlt] at e
        by_cases h2 : p[q] = 42
        · rw [if_pos h2] at e
          obtain rfl : q = k := by simpa using e
          exact Or.inl ⟨by rw [stL_eq hlt, h2]; rfl, hq.2⟩
        · rw [if_neg h2] at e
          by_cases h3 : p[q] = 63 ∨ p[q] = t[i]
          · rw [if_pos h3] at e
            have hs : stL p q = false := by rw [stL_eq hlt]; simpa using h2
            refine Or.inr ⟨q, hlt, by simpa using e.symm, hs, h3, ?_⟩
            have := hq.2; unfold AtS at this; rwa [if_neg (by simp [hs])] at this
          · rw [if_neg h3] at e; cases e
    · rintro (⟨h, g⟩ | ⟨q, hq, rfl, h, h3, g⟩)
      · obtain ⟨h1, h2⟩ := stL_lt h
        refine ⟨k, (hl k).2 ⟨by omega, g⟩, ?_⟩
        unfold stepO; rw [if_neg (by omega), getD_lt h1, if_pos h2]
      · refine ⟨q, (hl q).2 ⟨by omega, ?_⟩, ?_⟩
        · unfold AtS; rw [if_neg (by simp [h])]; exact g
        · unfold stepO; rw [if_neg (by omega), getD_lt hq, if_neg (stL_not hq h), if_pos h3]
  induction k with
  | zero =>
    have e : reach (stL p) (l.filterMap (stepO p t[i])) 0 = true ↔ 0 ∈ l.filterMap (stepO p t[i]) := by simp only [reach, decide_eq_true_eq]
    rw [e, hmem 0 (by omega)]
    constructor
    · rintro (⟨h, g⟩ | ⟨q, hq, h0, _⟩)
      · obtain ⟨h1, h2⟩ := stL_lt h
        unfold AtS at g ⊢
        rw [if_pos h] at g ⊢
        exact (At_star p t 0 i h1 hi h2).2 (Or.inr g)
      · omega
    · intro g
      unfold AtS at g
      by_cases h : stL p 0 = true
      · rw [if_pos h] at g
        obtain ⟨h1, h2⟩ := stL_lt h
        refine Or.inl ⟨h, ?_⟩
        unfold AtS; rw [if_pos h]
        exact ((At_star p t 0 i h1 hi h2).1 g).resolve_left (At_zero_succ p t i hi)
      · rw [if_neg h] at g; exact absurd g (At_zero_succ p t i hi)
  | succ k ih =>
    have ih := ih (by omega)
    have hk' : k < p.length := by omega
    have e : reach (stL p) (l.filterMap (stepO p t[i])) (k + 1) = true ↔ (k + 1 ∈ l.filterMap (stepO p t[i]) ∨ (stL p k = true ∧ reach (stL p) (l.filterMap (stepO p t[i])) k = true)) := by
      simp only [reach, Bool.or_eq_true, decide_eq_true_eq, Bool.and_eq_true]
    have e2 := or_congr (hmem (k + 1) hk) (and_congr (Iff.rfl (a := stL p k = true)) ih)
    refine (e.trans e2).trans ?_
    have h0 : ((∃ q, ∃ hq : q < p.length, k + 1 = q + 1 ∧ stL p q = false ∧ (p[q] = 63 ∨ p[q] = t[i]) ∧ At p t q i) ∨ (stL p k = true ∧ AtS p t k (i + 1))) ↔ At p t (k + 1) (i + 1) := by
      constructor
      · rintro (⟨q, hq, h1, h2, h3, h4⟩ | ⟨h, g⟩)
        · obtain rfl : k = q := by omega
          exact (At_other p t k i hq hi (stL_not hq h2)).2 ⟨h3, h4⟩
        · unfold AtS at g; rwa [if_pos h] at g
      · intro g
        by_cases h : stL p k = true
        · exact Or.inr ⟨h, by unfold AtS; rwa [if_pos h]⟩
        · have h' : stL p k = false := by simpa using h
          have := (At_other p t k i hk' hi (stL_not hk' h')).1 g
          exact Or.inl ⟨k, hk', rfl, h', this.1, this.2⟩
    rw [or_assoc, h0]
    unfold AtS
    by_cases h : stL p (k + 1) = true
    · rw [if_pos h, if_pos h]; obtain ⟨h1, h2⟩ := stL_lt h
      rw [At_star p t (k + 1) i h1 hi h2]
      constructor
      · rintro (g | g)
        · exact Or.inr g.2
        · exact Or.inl g
      · rintro (g | g)
        · exact Or.inr g
        · exact Or.inl ⟨h, g⟩
    · rw [if_neg h, if_neg h]
      constructor
      · rintro (g | g)
        · exact absurd g.1 h
        · exact g
      · exact Or.inr
theorem AtS_end (p t : List UInt8) : AtS p t p.length t.length ↔ GM p t := by
  unfold AtS
  rw [if_neg (by intro h; obtain ⟨h1, _⟩ := stL_lt h; omega)]
  exact At_all p t
theorem stepO_le (p : List UInt8) (c : UInt8) (q x : Nat) (hq : q ≤ p.length) (h : stepO p c q = some x) : x ≤ p.length := by
  unfold stepO at h
  split at h
  · cases h
  · split at h
    · simp at h; omega
    · split at h
      · simp at h; omega
      · cases h

end Go.Proofs.YtkmoeeaaolpdnaaGreatDoor.GlobPlain

namespace Go.Proofs.YtkmoeeaaolpdnaaGreatDoor
open Go.RowKit Go.Proofs.YtkmoeeaaolpdnaaGreatDoorW.PrintWords GlobPlain

theorem info3 : (Tryz.prog.info? 3).map (fun i => (i.zero, i.size, i.bytes)) = some (some (.int .i64 0), 1, 8) := by kernel_rfl
theorem info4 : (Tryz.prog.info? 4).map (fun i => (i.zero, i.size, i.bytes)) = some (some (.bool false), 1, 1) := by kernel_rfl

def ints (l : List Nat) : List Int := l.map fun (x : Nat) => (x : Int)
theorem ints_length (l : List Nat) : (ints l).length = l.length := by simp [ints]
theorem rd_ints (l : List Nat) (j : Nat) (h : j < l.length) : rd (ints l) (j : Int) = ((l[j] : Nat) : Int) := by
  simp [rd, ints, List.getD_eq_getElem?_getD, List.getElem?_map, List.getElem?_eq_getElem h]
theorem ints_snoc (l : List Nat) (x : Nat) : ints l ++ [(x : Int)] = ints (l ++ [x]) := by simp [ints]
def stB (P : ByteArray) (k : Nat) : Bool := bt P (k : Int) == 42

theorem stB_at (P : ByteArray) (k : Nat) (h : k < P.size) : (((P[k]'h).toNat : Int) == 42) = stB P k := by
  have := bt_at P (k : Int) (by simpa using h)
  simp only [Int.toNat_natCast] at this
  rw [stB, ← this]

/-- the row of marks, its own block; all that lay there stays -/
structure SeenAt (w wr : World) (n : Nat) (l : List Bool) : Prop where
  row : wr.ownsRow w.heap.size 4 1 (.slice (some ⟨w.heap.size, 0, none⟩) n n) n (encs Value.bool l)
  below : Below w.heap.size w wr
  size : w.heap.size < wr.heap.size

theorem SeenAt.grown {w wr w1 : World} {n m : Nat} {l : List Bool} {v : Value} {ys : List Value} (h : SeenAt w wr n l) (ho : wr.ownsRow w.heap.size 3 1 v m ys) (hg : wr.grownBy w1 v.ownBlock) : SeenAt w w1 n l :=
  ⟨own_other h.row hg (own_type_ne h.row ho (by decide)), h.below.grown hg (Nat.le_of_lt h.size) (own_base ho), Nat.lt_of_lt_of_le h.size hg.size⟩

/-- a row of numbers is another block than the marks: a mark leaves it -/
theorem SeenAt.other {w wr : World} {n m : Nat} {l : List Bool} {v : Value} {ys : List Value} (h : SeenAt w wr n l) (ho : wr.ownsRow w.heap.size 3 1 v m ys) (i : Nat) (u : Value) : (wr.setCell ⟨w.heap.size, i, none⟩ u).ownsRow w.heap.size 3 1 v m ys :=
  own_setCell ho (fun e => by
    rcases own_type_ne ho h.row (by decide) with h1 | h1
    · rw [← e] at h1; cases h1
    · exact h1 e.symm) u

theorem SeenAt.set {w wr : World} {n : Nat} {l : List Bool} (h : SeenAt w wr n l) (i : Nat) :
    SeenAt w (wr.setCell ⟨w.heap.size, i, none⟩ (.bool true)) n (l.set i true) := by
  have hs := own_store_of (enc := Value.bool) h.row (i : Int) true
  refine ⟨hs.1, h.below.setCell (p := ⟨w.heap.size, i, none⟩) (Nat.le_refl _) _, ?_⟩
  have := h.size
  simpa [World.setCell] using this

set_option maxHeartbeats 1000000 in
set_option maxRecDepth 100000 in
theorem closure_calls (P : ByteArray) (A : Option Addr) (c : Nat) (xs : List Nat) (w : World) (hP : P.size ≤ 1000) (hx : ∀ x ∈ xs, x ≤ P.size) (hr : ReadsInt w .i64 A xs.length (ints xs)) :
    Calls Tryz.prog 42 #[.string P, .slice A xs.length c] w fun e w' => ∃ v, e = .returned v ∧ w'.ownsRow w.heap.size 3 1 v (outB (stB P) xs (P.size + 1)).length (nums .i64 (ints (outB (stB P) xs (P.size + 1)))) ∧ Below w.heap.size w w' := by
  have hl := hr.2.1
  have hmk := print_make_of (P := Tryz.prog) 97 4 (.bool false) 1 Tryz.underlying97 info4 rfl (by decide) (P.size + 1) (by omega)
  rw [show ((P.size + 1 : Nat) : Int) = (P.size : Int) + 1 from by omega] at hmk
  have hmade : SeenAt w (w.alloc (.cells (madeCells #[.bool false] (P.size + 1)) 4)) (P.size + 1) (seenA (P.size + 1) xs 0) := by
    rw [seenA_zero]
    exact ⟨own_made_of (enc := Value.bool) (d := false) w w.heap.size 4 (P.size + 1) (Nat.le_refl _) (by omega), (Below.refl _ _).alloc (Nat.le_refl _) _, by simp⟩
  have HM := Aside0.mk hmade
  have HR := Aside0.mk hr
  have HX := Aside0.mk hx
  clear hmade hr hx
  go_enter Tryz.func42, Tryz.ntmps42
  go_wp2
  clear hmk
  go_loopw [17] (fun i wr => ∃ j : Nat, j ≤ xs.length ∧ i = .int .i64 j ∧ Aside0 (SeenAt w wr (P.size + 1) (seenA (P.size + 1) xs j))) (fun i _ => xs.length - (intOf i).toNat)
  case atStart => exact ⟨0, Nat.zero_le _, rfl, HM⟩
  case round =>
    clear HM
    obtain ⟨j, hj, rfl, HS⟩ := hrel
    by_cases hlt : j < xs.length
    · have hat : ∃ ad, A = some ad ∧ wr.cell? (ad.add j) = some (.int .i64 ((xs[j] : Nat) : Int)) := by
        have := (HR.out.below HS.out.below).at_ (j : Int) (by omega) (by omega)
        rw [rd_ints xs j hlt] at this
        simpa using this
      obtain ⟨ad, rfl, hc⟩ := hat
      have hxj := HX.out _ (List.getElem_mem hlt)
      have HS' := Aside0.mk (HS.out.set xs[j])
      rw [seenA_succ _ _ _ hlt] at HS'
      have hcf := own_at_of (d := false) (enc := Value.bool) HS.out.row (xs[j] : Int) (by omega) (by omega)
      rw [Int.toNat_natCast] at hcf
      generalize hX : xs[j] = X at *
      clear hX
      obtain ⟨hc1, hc2⟩ := hcf
      go_wp2
      go_roundw
      case rel => exact ⟨j + 1, by omega, by go_num, HS'⟩
      case measure => simp [intOf]; omega
    · obtain rfl : j = xs.length := by omega
      have HS0 := Aside0.mk HS.out
      rw [seenA_all _ (stB P)] at HS0
      clear HS HR HX
      go_wp2
      go_loopw [8, 27] (fun v i wr => ∃ k : Nat, k ≤ P.size + 1 ∧ i = .int .i64 k ∧ Aside0 (SeenAt w wr (P.size + 1) (seenB (P.size + 1) (stB P) xs k)) ∧
          Aside0 (wr.ownsRow w.heap.size 3 1 v (outB (stB P) xs k).length (nums .i64 (ints (outB (stB P) xs k))))) (fun _ i _ => P.size + 1 - (intOf i).toNat)
      case atStart => exact ⟨0, Nat.zero_le _, rfl, HS0, ⟨own_nil _ _ _ _⟩⟩
      case round =>
        clear HS0
        obtain ⟨k, hk, rfl, HS, HO⟩ := hrel
        by_cases hlt : k < P.size + 1
        · have hcf := own_at_of (d := false) (enc := Value.bool) HS.out.row (k : Int) (by omega) (by omega)
          rw [Int.toNat_natCast] at hcf
          rw [show rdOf false (seenB (P.size + 1) (stB P) xs k) (k : Int) = reach (stB P) xs k from by unfold rdOf; rw [Int.toNat_natCast]; exact seenB_at _ _ _ _ hlt] at hcf
          have hle := outB_le (stB P) xs k
          obtain ⟨hc1, hc2⟩ := hcf
          cases hrk : reach (stB P) xs k with
          | false =>
            rw [hrk] at hc1
            have HS1 := Aside0.mk HS.out
            rw [← seenB_keep _ _ _ _ (Or.inl hrk)] at HS1
            have HO1 := Aside0.mk HO.out
            rw [← outB_out _ _ _ hrk] at HO1
            clear HS HO hrk hle
            go_wp2
            go_roundw
            case rel => exact ⟨k + 1, by omega, by go_num, HS1, HO1⟩
            case measure => simp [intOf]; omega
          | true =>
            rw [hrk] at hc1
            have HR := Aside0.mk hrk
            clear hrk
            have HAP : ∀ v1 w1, w1.ownsRow w.heap.size 3 1 v1 (ints (outB (stB P) xs k) ++ [(k : Int)]).length (nums .i64 (ints (outB (stB P) xs k) ++ [(k : Int)])) → wr.grownBy w1 u8.ownBlock →
                Aside0 (SeenAt w w1 (P.size + 1) (seenB (P.size + 1) (stB P) xs k)) ∧ (k < P.size → (∃ b, w1.cell? ⟨w.heap.size, k + 1, none⟩ = some (.bool b)) ∧ w1.frozen? ⟨w.heap.size, k + 1, none⟩ = false) ∧ Aside0 (w1.ownsRow w.heap.size 3 1 v1 (outB (stB P) xs (k + 1)).length (nums .i64 (ints (outB (stB P) xs (k + 1))))) := by
              intro v1 w1 ho hg
              refine ⟨⟨HS.out.grown HO.out hg⟩, fun hk2 => ?_, ?_⟩
              · have h := own_at_of (d := false) (enc := Value.bool) (HS.out.grown HO.out hg).row ((k + 1 : Nat) : Int) (by omega) (by omega)
                rw [Int.toNat_natCast] at h
                exact ⟨⟨_, h.1⟩, h.2⟩
              rw [ints_snoc, ← outB_in _ _ _ HR.out, ints_length] at ho
              exact ⟨ho⟩
            have hb := HS.out.below
            have hsz := HS.out.size
            have HB := Aside0.mk hb
            clear hb
            have HOL := HO.out
            rw [← ints_length] at HOL
            have HOL' := Aside0.mk HOL
            clear HOL
            by_cases hlt2 : k < P.size
            · cases hst : stB P k with
              | true =>
                have hbt := stB_at P k hlt2
                rw [hst] at hbt
                have HST := Aside0.mk hst
                clear hst
                go_wp2_with (at_builtin; refine print_append_num (w0 := w) w.heap.size rfl _ _ 27 3 .i64 8 rfl Tryz.underlying27 info3 (by decide) u8 (ints (outB (stB P) xs k)) (k : Int) rfl rfl HOL'.out HB.out (Nat.le_of_lt hsz) (by rw [ints_length]; omega) ?_; intro v1 w1 ho hB1 hg _; obtain ⟨HS1, hs2, HO1⟩ := HAP v1 w1 ho hg; obtain ⟨⟨bx, hs3⟩, hs4⟩ := hs2 hlt2; clear ho hg hB1 hs2)
                have HS2 := Aside0.mk (HS1.out.set (k + 1))
                rw [seenB_set _ _ _ _ HR.out HST.out] at HS2
                have HO2 := Aside0.mk (HS1.out.other HO1.out (k + 1) (.bool true))
                go_roundw
                case rel => exact ⟨k + 1, by omega, by go_num, HS2, HO2⟩
                case measure => simp [intOf]; omega
              | false =>
                have hbt := stB_at P k hlt2
                rw [hst] at hbt
                have HST := Aside0.mk hst
                clear hst
                go_wp2_with (at_builtin; refine print_append_num (w0 := w) w.heap.size rfl _ _ 27 3 .i64 8 rfl Tryz.underlying27 info3 (by decide) u8 (ints (outB (stB P) xs k)) (k : Int) rfl rfl HOL'.out HB.out (Nat.le_of_lt hsz) (by rw [ints_length]; omega) ?_; intro v1 w1 ho hB1 hg _; obtain ⟨HS1, _, HO1⟩ := HAP v1 w1 ho hg; clear ho hg hB1)
                rw [← seenB_keep _ _ _ _ (Or.inr (Or.inl HST.out))] at HS1
                go_roundw
                case rel => exact ⟨k + 1, by omega, by go_num, HS1, HO1⟩
                case measure => simp [intOf]; omega
            · go_wp2_with (at_builtin; refine print_append_num (w0 := w) w.heap.size rfl _ _ 27 3 .i64 8 rfl Tryz.underlying27 info3 (by decide) u8 (ints (outB (stB P) xs k)) (k : Int) rfl rfl HOL'.out HB.out (Nat.le_of_lt hsz) (by rw [ints_length]; omega) ?_; intro v1 w1 ho hB1 hg _; obtain ⟨HS1, _, HO1⟩ := HAP v1 w1 ho hg; clear ho hg hB1)
              rw [← seenB_keep _ _ _ _ (Or.inr (Or.inr (by omega)))] at HS1
              go_roundw
              case rel => exact ⟨k + 1, by omega, by go_num, HS1, HO1⟩
              case measure => simp [intOf]; omega
        · obtain rfl : k = P.size + 1 := by omega
          have HO' := HO.out
          have HB := HS.out.below
          clear HS HO
          go_wp2
          go_ret
          exact ⟨_, rfl, HO', HB⟩

/-- what the closure hands back, as a row that is read -/
theorem closure_reads (P : ByteArray) (A : Option Addr) (c : Nat) (xs : List Nat) (w : World) (hP : P.size ≤ 1000) (hx : ∀ x ∈ xs, x ≤ P.size) (hr : ReadsInt w .i64 A xs.length (ints xs)) :
    Calls Tryz.prog 42 #[.string P, .slice A xs.length c] w fun e w' => ∃ A' c', e = .returned (.slice A' (outB (stB P) xs (P.size + 1)).length c') ∧ ReadsInt w' .i64 A' (outB (stB P) xs (P.size + 1)).length (ints (outB (stB P) xs (P.size + 1))) ∧ Below w.heap.size w w' :=
  (closure_calls P A c xs w hP hx hr).mono fun e w' ⟨v, he, ho, hb⟩ => by
    obtain ⟨A', c', hv, hr'⟩ := own_reads ho
    exact ⟨A', c', by rw [he, hv], hr', hb⟩

end Go.Proofs.YtkmoeeaaolpdnaaGreatDoor

namespace Go.Proofs.YtkmoeeaaolpdnaaGreatDoor
open Go.RowKit Go.Proofs.YtkmoeeaaolpdnaaGreatDoorW.PrintWords GlobPlain

set_option maxHeartbeats 1000000 in
set_option maxRecDepth 100000 in
theorem index_calls (A : Option Addr) (c : Nat) (xs : List Nat) (y : Nat) (w : World) (hr : ReadsInt w .i64 A xs.length (ints xs)) :
    Calls Tryz.prog 68 #[.slice A xs.length c, .int .i64 (y : Int)] w fun e w' => (∃ r : Int, e = .returned (.int .i64 r) ∧ (0 ≤ r ↔ y ∈ xs)) ∧ w = w' := by
  have hl := hr.2.1
  have HR := Aside0.mk hr
  clear hr
  go_enter Tryz.func68, Tryz.ntmps68
  go_wp2
  go_loop [8] (fun i => ∃ j : Nat, j ≤ xs.length ∧ i = .int .i64 j ∧ Aside0 (y ∉ xs.take j)) (fun i => xs.length - (intOf i).toNat)
  case atStart => exact ⟨0, Nat.zero_le _, rfl, ⟨by simp⟩⟩
  case round =>
    obtain ⟨j, hj, rfl, HN⟩ := hrel
    by_cases hlt : j < xs.length
    · have hat : ∃ ad, A = some ad ∧ w.cell? (ad.add j) = some (.int .i64 ((xs[j] : Nat) : Int)) := by
        have := HR.out.at_ (j : Int) (by omega) (by omega)
        rw [rd_ints xs j hlt] at this
        simpa using this
      obtain ⟨ad, rfl, hc⟩ := hat
      have HT := Aside0.mk (List.take_succ_eq_append_getElem hlt)
      have HI := Aside0.mk (List.getElem_mem hlt)
      generalize xs[j] = X at *
      by_cases hy : y = X
      · subst hy
        go_wp2
        go_ret
        exact ⟨⟨j, rfl, ⟨fun _ => HI.out, fun _ => by omega⟩⟩, rfl⟩
      · have hb : ((y : Int) == (X : Int)) = false := by rw [beq_eq_false_iff_ne]; omega
        have HY := Aside0.mk hy
        clear hy
        go_wp2
        go_round
        case rel => exact ⟨j + 1, by omega, by go_num, ⟨by rw [HT.out, List.mem_append, List.mem_singleton]; exact fun h => h.elim HN.out HY.out⟩⟩
        case measure => simp [intOf]; omega
    · obtain rfl : j = xs.length := by omega
      go_wp2
      go_ret
      have hn := HN.out
      rw [List.take_length] at hn
      exact ⟨⟨-1, rfl, ⟨fun h => by omega, fun h => absurd h hn⟩⟩, rfl⟩

set_option maxHeartbeats 1000000 in
set_option maxRecDepth 100000 in
theorem contains_calls (A : Option Addr) (c : Nat) (xs : List Nat) (y : Nat) (w : World) (hr : ReadsInt w .i64 A xs.length (ints xs)) :
    Calls Tryz.prog 43 #[.slice A xs.length c, .int .i64 (y : Int)] w fun e w' => e = .returned (.bool (decide (y ∈ xs))) ∧ w = w' := by
  have H := index_calls A c xs y w hr
  go_enter Tryz.func43, Tryz.ntmps43
  go_wp2_with fail
  refine H.mono ?_
  rintro e w' ⟨⟨r, rfl, h⟩, rfl⟩
  have hd : decide (0 ≤ r) = decide (y ∈ xs) := decide_eq_decide.2 h
  clear H h
  go_wp2
  go_ret
  exact ⟨by simp, rfl⟩

/-- the bytes of a string as a list -/
abbrev bl (P : ByteArray) : List UInt8 := P.data.toList
theorem bl_length (P : ByteArray) : (bl P).length = P.size := data_length P
theorem bl_get (P : ByteArray) (k : Nat) (h : k < P.size) : (bl P)[k]'(by rw [bl_length]; exact h) = P[k] := rfl
theorem bl_getD (P : ByteArray) (k : Nat) (h : k < P.size) : (bl P).getD k 0 = P[k] := by
  rw [getD_lt (by rw [bl_length]; exact h)]; rfl
theorem stB_eq (P : ByteArray) : stB P = stL (bl P) := by
  funext k
  by_cases h : k < P.size
  · rw [← stB_at P k h, stL_eq (by rw [bl_length]; exact h), bl_get P k h, Bool.eq_iff_iff]
    simp only [beq_iff_eq, ← UInt8.toNat_inj]
    exact ⟨fun h => by have : (P[k]).toNat = 42 := by omega
                       exact this, fun h => by rw [h]; rfl⟩
  · unfold stB stL
    have h1 : ¬ ((k : Int).toNat < P.size) := by simpa using h
    rw [bt, dif_neg h1, List.getD_eq_getElem?_getD, List.getElem?_eq_none (by rw [bl_length]; omega)]; rfl
open Classical in
/-- the text is matched by the pattern -/
noncomputable def mB (P T : ByteArray) : Bool := decide (GM (bl P) (bl T))
theorem byte_beq (a b : UInt8) : (((a.toNat : Int) == (b.toNat : Int)) = (a == b)) := by
  rw [Bool.eq_iff_iff]; simp only [beq_iff_eq, ← UInt8.toNat_inj]; omega
theorem byte_beq_lit (a : UInt8) (n : Nat) (hn : n < 256) : (((a.toNat : Int) == (n : Int)) = (a == UInt8.ofNat n)) := by
  rw [← byte_beq]; simp [Nat.mod_eq_of_lt hn]

/-- the places behind i bytes -/
structure Reach (P T : ByteArray) (w wr : World) (i : Nat) (v : Value) : Prop where
  out : ∃ (A : Option Addr) (c : Nat) (l : List Nat), v = .slice A l.length c ∧ ReadsInt wr .i64 A l.length (ints l) ∧ (∀ q, q ∈ l ↔ q ≤ P.size ∧ AtS (bl P) (bl T) q i) ∧ l.length ≤ P.size + 1 ∧ Below w.heap.size w wr

/-- a round inside: what of the places has been moved by the next byte -/
structure Moved (P T : ByteArray) (wo wr : World) (i : Nat) (l : List Nat) (j : Nat) (v : Value) : Prop where
  row : wr.ownsRow wo.heap.size 3 1 v ((l.take j).filterMap (stepO (bl P) (T.data.toList.getD i 0))).length (nums .i64 (ints ((l.take j).filterMap (stepO (bl P) (T.data.toList.getD i 0)))))
  below : Below wo.heap.size wo wr
theorem moved_none {P : List UInt8} {b : UInt8} {l : List Nat} {j : Nat} (h : j < l.length) (hs : stepO P b l[j] = none) : (l.take (j + 1)).filterMap (stepO P b) = (l.take j).filterMap (stepO P b) := by
  rw [List.take_succ_eq_append_getElem h, List.filterMap_append]; simp [hs]
theorem moved_some {P : List UInt8} {b : UInt8} {l : List Nat} {j x : Nat} (h : j < l.length) (hs : stepO P b l[j] = some x) : (l.take (j + 1)).filterMap (stepO P b) = (l.take j).filterMap (stepO P b) ++ [x] := by
  rw [List.take_succ_eq_append_getElem h, List.filterMap_append]; simp [hs]
theorem moved_le {P : List UInt8} {b : UInt8} (l : List Nat) (j : Nat) : ((l.take j).filterMap (stepO P b)).length ≤ j :=
  Nat.le_trans (List.length_filterMap_le _ _) (List.length_take_le _ _)
theorem Moved.stay {P T : ByteArray} {wo wr : World} {i j : Nat} {l : List Nat} {v : Value} (h : Moved P T wo wr i l j v) (hj : j < l.length) (hs : stepO (bl P) (T.data.toList.getD i 0) l[j] = none) (n : Nat) : Moved P T wo (wr.drewN n) i l (j + 1) v := by
  refine ⟨?_, pw_below_drewN h.below n⟩
  rw [moved_none hj hs]
  exact pw_own_below h.row (pw_below_drewN (Below.refl _ _) n)
theorem Moved.drewN {P T : ByteArray} {wo wr : World} {i j : Nat} {l : List Nat} {v : Value} (h : Moved P T wo wr i l j v) (n : Nat) : Moved P T wo (wr.drewN n) i l j v :=
  ⟨pw_own_below h.row (pw_below_drewN (Below.refl _ _) n), pw_below_drewN h.below n⟩
theorem Moved.go {P T : ByteArray} {wo w1 : World} {i j x : Nat} {l : List Nat} {v : Value} (hj : j < l.length) (hs : stepO (bl P) (T.data.toList.getD i 0) l[j] = some x)
    (ho : w1.ownsRow wo.heap.size 3 1 v (ints ((l.take j).filterMap (stepO (bl P) (T.data.toList.getD i 0))) ++ [(x : Int)]).length (nums .i64 (ints ((l.take j).filterMap (stepO (bl P) (T.data.toList.getD i 0))) ++ [(x : Int)])))
    (hb : Below wo.heap.size wo w1) : Moved P T wo w1 i l (j + 1) v := by
  refine ⟨?_, hb⟩
  rw [ints_snoc, ← moved_some hj hs, ints_length] at ho
  exact ho
theorem Moved.go1 {P T : ByteArray} {wo w1 : World} {i j x : Nat} {l : List Nat} {v : Value} (hj : j < l.length) (hs : stepO (bl P) (T.data.toList.getD i 0) l[j] = some (x + 1))
    (ho : w1.ownsRow wo.heap.size 3 1 v (ints ((l.take j).filterMap (stepO (bl P) (T.data.toList.getD i 0))) ++ [(x : Int) + 1]).length (nums .i64 (ints ((l.take j).filterMap (stepO (bl P) (T.data.toList.getD i 0))) ++ [(x : Int) + 1])))
    (hb : Below wo.heap.size wo w1) : Moved P T wo w1 i l (j + 1) v := Moved.go hj hs ho hb
theorem Moved.len {P T : ByteArray} {wo wr : World} {i j : Nat} {l : List Nat} {v : Value} (h : Moved P T wo wr i l j v) :
    wr.ownsRow wo.heap.size 3 1 v (ints ((l.take j).filterMap (stepO (bl P) (T.data.toList.getD i 0)))).length (nums .i64 (ints ((l.take j).filterMap (stepO (bl P) (T.data.toList.getD i 0))))) := by
  rw [ints_length]; exact h.row
theorem eq42 (P : ByteArray) (q : Nat) (h : q < P.size) : (((P[q]'h).toNat : Int) == 42) = (P[q] == 42) := byte_beq_lit _ 42 (by decide)
theorem eq63 (P : ByteArray) (q : Nat) (h : q < P.size) : (((P[q]'h).toNat : Int) == 63) = (P[q] == 63) := byte_beq_lit _ 63 (by decide)

set_option maxHeartbeats 1000000 in
set_option maxRecDepth 100000 in
theorem matches_calls (P T : ByteArray) (w : World) (hP : P.size ≤ 1000) (hT : T.size ≤ 140737488351232) :
    Calls Tryz.prog 28 #[.string P, .string T] w fun e w' => e = .returned (.bool (mB P T)) ∧ Below w.heap.size w w' := by
  have h0 : ReadsInt (w.alloc (.cells #[.int .i64 0] 3)) .i64 (some ⟨w.heap.size, 0, none⟩) 1 (ints [0]) :=
    ⟨rfl, by omega, fun _ => ⟨_, rfl, fun j hj => by
      obtain rfl : j = 0 := by omega
      rw [add_plain, World.cell?_alloc_at _ _ _ _ rfl]; rfl⟩⟩
  have HC := closure_reads P (some ⟨w.heap.size, 0, none⟩) 1 [0] (w.alloc (.cells #[.int .i64 0] 3)) hP (by simp) h0
  clear h0
  go_enter Tryz.func28, Tryz.ntmps28
  go_wp2_with fail
  refine HC.mono ?_
  clear HC
  rintro e w1 ⟨A1, c1, rfl, hr1, hb1⟩
  have HS : Aside0 (Reach P T w w1 0 (.slice A1 (outB (stB P) [0] (P.size + 1)).length c1)) := by
    refine ⟨⟨A1, c1, _, rfl, hr1, fun q => ?_, outB_le _ _ _, ?_⟩⟩
    · rw [mem_outB, stB_eq]
      constructor
      · rintro ⟨h1, h2⟩; exact ⟨by omega, (AtS_zero _ _ q (by rw [bl_length]; omega)).1 h2⟩
      · rintro ⟨h1, h2⟩; exact ⟨by omega, (AtS_zero _ _ q (by rw [bl_length]; omega)).2 h2⟩
    · exact below_then ((Below.refl _ _).alloc (Nat.le_refl _) _) (by simp) hb1
  generalize Value.slice A1 (outB (stB P) [0] (P.size + 1)).length c1 = V at *
  clear hr1 hb1
  go_wp2
  go_loopw [5, 15] (fun v i wr => ∃ k : Nat, k ≤ T.size ∧ i = .int .i64 k ∧ Aside0 (Reach P T w wr k v)) (fun _ i _ => T.size - (intOf i).toNat)
  case atStart => exact ⟨0, Nat.zero_le _, rfl, HS⟩
  case round =>
    clear HS
    obtain ⟨i, hi, rfl, ⟨⟨A, c, l, rfl, hr, hm, hl, hb⟩⟩⟩ := hrel
    have HM := Aside0.mk hm
    clear hm
    by_cases hlt : i < T.size
    · obtain ⟨wo, hwo⟩ : ∃ wo : World, wo = wr := ⟨_, rfl⟩
      rw [← hwo] at hr hb ⊢
      clear hwo
      have HR := Aside0.mk hr
      have HB := Aside0.mk hb
      clear hr hb
      go_wp2
      go_loopw [7, 20] (fun v k wr => ∃ j : Nat, j ≤ l.length ∧ k = .int .i64 j ∧ Aside0 (Moved P T wo wr i l j v)) (fun _ k _ => l.length - (intOf k).toNat)
      case atStart => exact ⟨0, Nat.zero_le _, rfl, ⟨⟨own_nil _ _ _ _, Below.refl _ _⟩⟩⟩
      case round =>
        obtain ⟨j, hj', rfl, HO⟩ := hrel
        by_cases hj : j < l.length
        · have hat : ∃ ad, A = some ad ∧ wr.cell? (ad.add j) = some (.int .i64 ((l[j] : Nat) : Int)) := by
            have := (HR.out.below HO.out.below).at_ (j : Int) (by omega) (by omega)
            rw [rd_ints l j hj] at this
            simpa using this
          obtain ⟨ad, rfl, hc⟩ := hat
          have hq := ((HM.out l[j]).1 (List.getElem_mem hj)).1
          have HSt : ∀ o, stepO (bl P) (T.data.toList.getD i 0) l[j] = o → Aside0 (stepO (bl P) (T.data.toList.getD i 0) l[j] = o) := fun o h => ⟨h⟩
          by_cases hqn : l[j] = P.size
          · have HSt := HSt none (by unfold stepO; rw [if_pos (by rw [bl_length]; exact hqn)])
            have HQ := Aside0.mk (HO.out.stay hj HSt.out 0)
            have hqb : (((l[j] : Nat) : Int) == (P.size : Int)) = true := by rw [hqn]; simp
            clear hqn hq
            generalize l[j] = q at *
            go_wp2
            go_roundw
            case rel => exact ⟨j + 1, by omega, by go_num, HQ⟩
            case measure => simp [intOf]; omega
          · have hqP : l[j] < P.size := by omega
            have hqb : (((l[j] : Nat) : Int) == (P.size : Int)) = false := by rw [beq_eq_false_iff_ne]; omega
            have e42 := eq42 P l[j] hqP
            have e63 := eq63 P l[j] hqP
            have eT := byte_beq P[l[j]] T[i]
            have HE := Aside0.mk (show stepO (bl P) (T.data.toList.getD i 0) l[j] = _ by unfold stepO; rw [if_neg (by rw [bl_length]; exact hqn), bl_getD P l[j] hqP, bl_getD T i hlt])
            clear hqn hq
            cases h42 : (P[l[j]] == 42) with
            | true =>
              have HSt := HSt (some l[j]) (by rw [HE.out, if_pos (beq_iff_eq.1 h42)])
              rw [h42] at e42
              clear HE h42 e63 eT
              have HGO := fun v1 w2 ho hb => Aside0.mk (Moved.go (P := P) (T := T) (wo := wo) (i := i) (v := v1) (w1 := w2) hj HSt.out ho hb)
              clear HSt
              generalize l[j] = q at *
              go_wp2_with (at_builtin; refine print_append_num (w0 := wo) wo.heap.size rfl _ _ 27 3 .i64 8 rfl Tryz.underlying27 info3 (by decide) u7 _ (q : Int) rfl rfl (HO.out.len) (HO.out.below) (HO.out.below.size) (by rw [ints_length]; have := moved_le (P := bl P) (b := T.data.toList.getD i 0) l j; omega) ?_; intro v1 w2 ho hB1 _ _; have HQ := HGO _ _ ho hB1; clear ho hB1)
              go_roundw
              case rel => exact ⟨j + 1, by omega, by go_num, HQ⟩
              case measure => simp [intOf]; omega
            | false =>
              rw [h42] at e42
              cases h63 : (P[l[j]] == 63) with
              | true =>
                have HSt := HSt (some (l[j] + 1)) (by rw [HE.out, if_neg (beq_eq_false_iff_ne.1 h42), if_pos (Or.inl (beq_iff_eq.1 h63))])
                rw [h63] at e63
                clear HE h42 h63 eT
                have HGO := fun v1 w2 ho hb => Aside0.mk (Moved.go1 (P := P) (T := T) (wo := wo) (i := i) (v := v1) (w1 := w2) hj HSt.out ho hb)
                clear HSt
                generalize l[j] = q at *
                go_wp2
                go_quiet (fail)
                go_wp2_with (at_builtin; refine print_append_num (w0 := wo) wo.heap.size rfl _ _ 27 3 .i64 8 rfl Tryz.underlying27 info3 (by decide) u7 _ ((q : Int) + 1) rfl rfl ((HO.out.drewN _).len) ((HO.out.drewN _).below) ((HO.out.drewN _).below.size) (by rw [ints_length]; have := moved_le (P := bl P) (b := T.data.toList.getD i 0) l j; omega) ?_; intro v1 w2 ho hB1 _ _; have HQ := HGO _ _ ho hB1; clear ho hB1)
                go_roundw
                case rel => exact ⟨j + 1, by omega, by go_num, HQ⟩
                case measure => simp [intOf]; omega
              | false =>
                rw [h63] at e63
                cases hT : (P[l[j]] == T[i]) with
                | true =>
                  have HSt := HSt (some (l[j] + 1)) (by rw [HE.out, if_neg (beq_eq_false_iff_ne.1 h42), if_pos (Or.inr (beq_iff_eq.1 hT))])
                  rw [hT] at eT
                  clear HE h42 h63 hT
                  have HGO := fun v1 w2 ho hb => Aside0.mk (Moved.go1 (P := P) (T := T) (wo := wo) (i := i) (v := v1) (w1 := w2) hj HSt.out ho hb)
                  clear HSt
                  generalize l[j] = q at *
                  go_wp2
                  go_quiet (fail)
                  go_wp2_with (at_builtin; refine print_append_num (w0 := wo) wo.heap.size rfl _ _ 27 3 .i64 8 rfl Tryz.underlying27 info3 (by decide) u7 _ ((q : Int) + 1) rfl rfl ((HO.out.drewN _).len) ((HO.out.drewN _).below) ((HO.out.drewN _).below.size) (by rw [ints_length]; have := moved_le (P := bl P) (b := T.data.toList.getD i 0) l j; omega) ?_; intro v1 w2 ho hB1 _ _; have HQ := HGO _ _ ho hB1; clear ho hB1)
                  go_roundw
                  case rel => exact ⟨j + 1, by omega, by go_num, HQ⟩
                  case measure => simp [intOf]; omega
                | false =>
                  have HSt := HSt none (by rw [HE.out, if_neg (beq_eq_false_iff_ne.1 h42), if_neg (fun h => h.elim (beq_eq_false_iff_ne.1 h63) (beq_eq_false_iff_ne.1 hT))])
                  rw [hT] at eT
                  clear HE h42 h63 hT
                  have HGO := fun n => Aside0.mk (HO.out.stay hj HSt.out n)
                  clear HSt
                  generalize l[j] = q at *
                  go_wp2
                  go_quiet (fail)
                  go_wp2
                  go_roundw
                  case rel => exact ⟨j + 1, by omega, by go_num, HGO _⟩
                  case measure => simp [intOf]; omega
        · obtain rfl : j = l.length := by omega
          obtain ⟨A2, c2, rfl, hr2⟩ := own_reads HO.out.row
          rw [List.take_length] at hr2 ⊢
          have hwl := HO.out.below
          have hx2 : ∀ x ∈ l.filterMap (stepO (bl P) (T.data.toList.getD i 0)), x ≤ P.size := fun x hx => by
            obtain ⟨q, hq1, hq2⟩ := List.mem_filterMap.1 hx
            have := stepO_le _ _ q x (by rw [bl_length]; exact ((HM.out q).1 hq1).1) hq2
            rwa [bl_length] at this
          have HC := closure_reads P A2 c2 _ wr hP hx2 hr2
          have HN : ∀ (A3 : Option Addr) (c3 : Nat) (w3 : World), ReadsInt w3 .i64 A3 (outB (stB P) (l.filterMap (stepO (bl P) (T.data.toList.getD i 0))) (P.size + 1)).length (ints (outB (stB P) (l.filterMap (stepO (bl P) (T.data.toList.getD i 0))) (P.size + 1))) → Below wr.heap.size wr w3 →
              Aside0 (Reach P T w w3 (i + 1) (.slice A3 (outB (stB P) (l.filterMap (stepO (bl P) (T.data.toList.getD i 0))) (P.size + 1)).length c3)) := by
            intro A3 c3 w3 hr3 hb3
            have hTi : i < (bl T).length := by rw [bl_length]; exact hlt
            refine ⟨⟨A3, c3, _, rfl, hr3, fun q => ?_, outB_le _ _ _, ?_⟩⟩
            · rw [mem_outB, stB_eq, show T.data.toList.getD i 0 = (bl T)[i] from getD_lt hTi]
              have hm : ∀ q, q ∈ l ↔ q ≤ (bl P).length ∧ AtS (bl P) (bl T) q i := by rw [bl_length]; exact HM.out
              constructor
              · rintro ⟨h1, h2⟩; exact ⟨by omega, (AtS_succ (bl P) (bl T) l i q hTi hm (by rw [bl_length]; omega)).1 h2⟩
              · rintro ⟨h1, h2⟩; exact ⟨by omega, (AtS_succ (bl P) (bl T) l i q hTi hm (by rw [bl_length]; omega)).2 h2⟩
            · exact below_then (below_then HB.out HB.out.size hwl) (Nat.le_trans HB.out.size hwl.size) hb3
          generalize l.filterMap (stepO (bl P) (T.data.toList.getD i 0)) = m at *
          clear hr2 hwl hx2 HM HR HO HB
          go_wp2_with fail
          refine HC.mono ?_
          clear HC
          rintro e w3 ⟨A3, c3, rfl, hr3, hb3⟩
          have HQ := HN A3 c3 w3 hr3 hb3
          clear HN hr3 hb3
          go_wp2
          go_roundw
          case rel => exact ⟨i + 1, by omega, by go_num, HQ⟩
          case measure => simp [intOf]; omega
    · obtain rfl : i = T.size := by omega
      have HC := contains_calls A c l P.size wr hr
      have HD : Hid (decide (P.size ∈ l) = mB P T) := by
        unfold mB
        rw [decide_eq_decide, HM.out]
        have := AtS_end (bl P) (bl T)
        rw [bl_length, bl_length] at this
        rw [this]; exact ⟨fun h => h.2, fun h => ⟨Nat.le_refl _, h⟩⟩
      have HB := Aside0.mk hb
      clear hr HM hb
      go_wp2_with fail
      refine HC.mono ?_
      clear HC
      rintro e w2 ⟨rfl, rfl⟩
      go_wp2
      go_ret
      exact ⟨by rw [HD.out]; rfl, HB.out⟩

end Go.Proofs.YtkmoeeaaolpdnaaGreatDoor

namespace Go.Proofs.YtkmoeeaaolpdnaaGreatDoor
open Go.RowKit Go.Proofs.YtkmoeeaaolpdnaaGreatDoorW.PrintWords GlobPlain

/-- a fault as a value -/
abbrev fltV (code at_ : Int) : Value := .agg #[.int .i64 code, .int .i64 at_]

/-- two new cells, then whatever is laid behind: they stand -/
theorem two_new {w w0 w1 : World} {a b : Value} {t : TypeId} (h0 : Below (w.heap.size + 1) (w.alloc (.cells #[a, b] t)) w0) (hs : w.heap.size + 1 ≤ w0.heap.size) (h1 : Below w0.heap.size w0 w1) :
    (w1.cell? ⟨w.heap.size, 0, none⟩ = some a ∧ w1.cell? ⟨w.heap.size, 1, none⟩ = some b) ∧ (w1.frozen? ⟨w.heap.size, 0, none⟩ = false ∧ w1.frozen? ⟨w.heap.size, 1, none⟩ = false) ∧ w.heap.size < w1.heap.size := by
  have hblk : w1.heap[w.heap.size]? = some (.cells #[a, b] t (0, 0)) := by
    rw [h1.block _ (by omega), h0.block _ (by omega)]; exact heap_alloc_new w _
  refine ⟨⟨?_, ?_⟩, ⟨blk_frozen hblk 0, blk_frozen hblk 1⟩, blk_lt hblk⟩
  · rw [blk_cell hblk]; rfl
  · rw [blk_cell hblk]; rfl

set_option maxHeartbeats 1000000 in
set_option maxRecDepth 100000 in
theorem match_ok (P T : ByteArray) (w : World) (hP : P.size ≤ 100) (hT : T.size ≤ 100) :
    Calls Tryz.prog 16 #[.string P, .string T] w fun e w' => e = .returned (.tuple #[.bool (mB P T), fltV 0 0]) ∧ Below w.heap.size w w' := by
  go_enter Tryz.func16, Tryz.ntmps16
  go_wp2
  refine wp_loop_rounds 3 ?_
  rw [rounds_succ]
  go_wp2
  rw [rounds_succ]
  go_wp2
  rw [rounds_succ]
  go_wp2_with fail
  refine (matches_calls P T _ (by omega) (by omega)).mono ?_
  rintro e w1 ⟨rfl, hb1⟩
  obtain ⟨⟨hc0, hc1⟩, ⟨hf0, hf1⟩, hz⟩ := two_new ((Below.refl _ _).alloc (by simp) _) (by simp) hb1
  have hB : Below w.heap.size w w1 := below_then (((Below.refl _ _).alloc (Nat.le_refl _) _).alloc (by simp) _) (by simp; omega) hb1
  have HB := Aside0.mk hB
  clear hb1 hB
  go_wp2
  exact bodyPost_ret (v := .tuple #[.bool (mB P T), fltV 0 0]) (by simp [results, Tryz.results16, go_sem, hc0, hc1]) rfl ⟨rfl, (HB.out.setCell (p := ⟨w.heap.size, 0, none⟩) (Nat.le_refl _) _).setCell (p := ⟨w.heap.size, 1, none⟩) (Nat.le_refl _) _⟩

set_option maxHeartbeats 1000000 in
set_option maxRecDepth 100000 in
theorem match_first (P T : ByteArray) (w : World) (hP : 100 < P.size) :
    Calls Tryz.prog 16 #[.string P, .string T] w fun e w' => e = .returned (.tuple #[.bool false, fltV 2 0]) ∧ Below w.heap.size w w' := by
  go_enter Tryz.func16, Tryz.ntmps16
  go_wp2
  refine wp_loop_rounds 3 ?_
  rw [rounds_succ]
  go_wp2
  exact bodyPost_ret (v := .tuple #[.bool false, fltV 2 0]) (by simp [results, Tryz.results16, go_sem]) rfl ⟨rfl, ((Below.refl _ _).alloc (Nat.le_refl _) _).alloc (by simp) _⟩

set_option maxHeartbeats 1000000 in
set_option maxRecDepth 100000 in
theorem match_second (P T : ByteArray) (w : World) (hP : P.size ≤ 100) (hT : 100 < T.size) :
    Calls Tryz.prog 16 #[.string P, .string T] w fun e w' => e = .returned (.tuple #[.bool false, fltV 2 1]) ∧ Below w.heap.size w w' := by
  go_enter Tryz.func16, Tryz.ntmps16
  go_wp2
  refine wp_loop_rounds 3 ?_
  rw [rounds_succ]
  go_wp2
  rw [rounds_succ]
  go_wp2
  exact bodyPost_ret (v := .tuple #[.bool false, fltV 2 1]) (by simp [results, Tryz.results16, go_sem]) rfl ⟨rfl, ((Below.refl _ _).alloc (Nat.le_refl _) _).alloc (by simp) _⟩

/-- what Match answers: a bool, and a fault's code -/
def MatchAns (P T : ByteArray) (b : Bool) (c : Int) : Prop := (c = 0 ∧ P.size ≤ 100 ∧ T.size ≤ 100 ∧ b = mB P T) ∨ (c = 2 ∧ (100 < P.size ∨ 100 < T.size) ∧ b = false)
theorem match_any (P T : ByteArray) (w : World) :
    Calls Tryz.prog 16 #[.string P, .string T] w fun e w' => ∃ b c i, e = .returned (.tuple #[.bool b, fltV c i]) ∧ MatchAns P T b c ∧ Below w.heap.size w w' := by
  by_cases hP : P.size ≤ 100
  · by_cases hT : T.size ≤ 100
    · exact (match_ok P T w hP hT).mono fun e w' ⟨he, hb⟩ => ⟨_, _, _, he, Or.inl ⟨rfl, hP, hT, rfl⟩, hb⟩
    · exact (match_second P T w hP (by omega)).mono fun e w' ⟨he, hb⟩ => ⟨_, _, _, he, Or.inr ⟨rfl, Or.inr (by omega), rfl⟩, hb⟩
  · exact (match_first P T w (by omega)).mono fun e w' ⟨he, hb⟩ => ⟨_, _, _, he, Or.inr ⟨rfl, Or.inl (by omega), rfl⟩, hb⟩

theorem mB_true {P T : ByteArray} (h : GM (bl P) (bl T)) : mB P T = true := @decide_eq_true _ (Classical.propDecidable _) h
theorem mB_false {P T : ByteArray} (h : ¬ GM (bl P) (bl T)) : mB P T = false := @decide_eq_false _ (Classical.propDecidable _) h
theorem mB_gm {P T : ByteArray} (h : mB P T = true) : GM (bl P) (bl T) := @of_decide_eq_true _ (Classical.propDecidable _) h
theorem mB_congr {P T P' T' : ByteArray} (h : GM (bl P) (bl T) ↔ GM (bl P') (bl T')) : mB P T = mB P' T' := by unfold mB; exact decide_eq_decide.2 h
theorem globs_yes : mB ⟨#[97, 42, 99]⟩ ⟨#[97, 98, 98, 99]⟩ = true := by
  refine mB_true ?_
  exact ⟨[97], [98, 98, 99], rfl, Or.inr ⟨97, rfl, Or.inr rfl⟩, [98, 98], [99], rfl, Or.inl rfl, [99], [], rfl, Or.inr ⟨99, rfl, Or.inr rfl⟩, rfl⟩
theorem globs_no : mB ⟨#[97, 63, 99]⟩ ⟨#[97, 98, 98, 99]⟩ = false := by
  refine mB_false ?_
  rintro ⟨u1, v1, e1, h1, u2, v2, e2, h2, u3, v3, e3, h3, h4⟩
  have l1 : u1.length = 1 := by
    rcases h1 with h | ⟨c, rfl, _⟩
    · exact absurd h (by decide)
    · rfl
  have l2 := (El_mark u2).1 h2
  have l3 : u3.length = 1 := by
    rcases h3 with h | ⟨c, rfl, _⟩
    · exact absurd h (by decide)
    · rfl
  have h4 : v3 = [] := h4
  have e := congrArg List.length e1
  rw [e2, e3, h4] at e
  simp [bl] at e
  omega

/-- a fault's two cells, and a new block's -/
theorem two_new' {w w1 : World} {a b : Value} {t : TypeId} (h1 : Below (w.alloc (.cells #[a, b] t)).heap.size (w.alloc (.cells #[a, b] t)) w1) :
    (w1.cell? ⟨w.heap.size, 0, none⟩ = some a ∧ w1.cell? ⟨w.heap.size, 1, none⟩ = some b) ∧ (w1.frozen? ⟨w.heap.size, 0, none⟩ = false ∧ w1.frozen? ⟨w.heap.size, 1, none⟩ = false) ∧ w.heap.size < w1.heap.size :=
  two_new (Below.refl _ _) (by simp) h1

set_option maxHeartbeats 1000000 in
set_option maxRecDepth 100000 in
theorem globs_calls (w : World) : Calls Tryz.prog 6 #[] w fun e w' => e = .returned (.bool true) ∧ Below w.heap.size w w' := by
  go_enter Tryz.func6, Tryz.ntmps6
  go_wp2_with fail
  refine (match_ok ⟨#[97, 42, 99]⟩ ⟨#[97, 98, 98, 99]⟩ w (by decide) (by decide)).mono ?_
  rintro e w1 ⟨rfl, hb1⟩
  rw [globs_yes]
  have HB := Aside0.mk hb1
  clear hb1
  go_wp2_with fail
  refine (match_ok ⟨#[97, 63, 99]⟩ ⟨#[97, 98, 98, 99]⟩ _ (by decide) (by decide)).mono ?_
  rintro e w2 ⟨rfl, hb2⟩
  rw [globs_no]
  obtain ⟨⟨hc0, hc1⟩, ⟨hf0, hf1⟩, hz⟩ := two_new' hb2
  have HB2 := Aside0.mk (below_then (HB.out.alloc HB.out.size _) (by have := HB.out.size; simp; omega) hb2)
  clear hb2
  go_wp2
  go_ret
  exact ⟨rfl, HB2.out.alloc HB2.out.size _⟩

/-- a block of two cells: what is known of it -/
structure Two (w : World) (g : Nat) (a b : Value) : Prop where
  blk : w.heap[g]? = some (.cells #[a, b] 40 (0, 0))
theorem Two.new (w : World) (a b : Value) : Two (w.alloc (.cells #[a, b] 40)) w.heap.size a b := ⟨heap_alloc_new w _⟩
theorem Two.lt {w : World} {g : Nat} {a b : Value} (h : Two w g a b) : g < w.heap.size := blk_lt h.blk
theorem Two.below {w w1 : World} {g : Nat} {a b : Value} (h : Two w g a b) (hb : Below w.heap.size w w1) : Two w1 g a b := ⟨(hb.block g h.lt).trans h.blk⟩
theorem Two.alloc {w : World} {g : Nat} {a b : Value} (h : Two w g a b) (o : Obj) : Two (w.alloc o) g a b := h.below ((Below.refl _ _).alloc (Nat.le_refl _) _)
theorem Two.cells {w : World} {g : Nat} {a b : Value} (h : Two w g a b) : (w.cell? ⟨g, 0, none⟩ = some a ∧ w.cell? ⟨g, 1, none⟩ = some b) ∧ w.frozen? ⟨g, 0, none⟩ = false ∧ w.frozen? ⟨g, 1, none⟩ = false :=
  ⟨⟨by rw [blk_cell h.blk]; rfl, by rw [blk_cell h.blk]; rfl⟩, blk_frozen h.blk 0, blk_frozen h.blk 1⟩
theorem Two.set {w : World} {g : Nat} {a b : Value} (h : Two w g a b) (x y : Value) : Two ((w.setCell ⟨g, 0, none⟩ x).setCell ⟨g, 1, none⟩ y) g x y := ⟨by
  have h1 := blk_set (blk_set h.blk 0 x) 1 y
  simpa using h1⟩
theorem Two.other {w : World} {g g' : Nat} {a b : Value} (h : Two w g a b) (hg : g ≠ g') (x y : Value) : Two ((w.setCell ⟨g', 0, none⟩ x).setCell ⟨g', 1, none⟩ y) g a b :=
  ⟨blk_far (blk_far h.blk hg x) hg y⟩
theorem Two.upper {w w1 : World} {g : Nat} {x y : Value} (hb : Below w.heap.size w w1) (hg : w.heap.size ≤ g) : Below w.heap.size w ((w1.setCell ⟨g, 0, none⟩ x).setCell ⟨g, 1, none⟩ y) :=
  (hb.setCell (p := ⟨g, 0, none⟩) hg _).setCell (p := ⟨g, 1, none⟩) hg _

end Go.Proofs.YtkmoeeaaolpdnaaGreatDoor
