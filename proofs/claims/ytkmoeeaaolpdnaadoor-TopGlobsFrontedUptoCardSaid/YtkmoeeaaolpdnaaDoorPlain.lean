/- The plain theory of patterns: what a pattern matches, and the automaton's places. No program in sight. -/
namespace Go.Proofs.YtkmoeeaaolpdnaaDoor.GlobPlain

/-- what one byte of a pattern takes -/
def El (a : UInt8) (u : List UInt8) : Prop := a = 42 ∨ ∃ c, u = [c] ∧ (a = 63 ∨ a = c)

/-- a text is matched by a pattern -/
def GM : List UInt8 → List UInt8 → Prop
  | [], t => t = []
  | a :: p, t => ∃ u v, t = u ++ v ∧ El a u ∧ GM p v

theorem GM_nil (t : List UInt8) : GM [] t ↔ t = [] := Iff.rfl
theorem GM_cons (a : UInt8) (p t : List UInt8) : GM (a :: p) t ↔ ∃ u v, t = u ++ v ∧ El a u ∧ GM p v := Iff.rfl

theorem GM_append (p q t : List UInt8) : GM (p ++ q) t ↔ ∃ u v, t = u ++ v ∧ GM p u ∧ GM q v := by
  induction p generalizing t with
  | nil =>
    simp only [List.nil_append, GM_nil]
    exact ⟨fun h => ⟨[], t, rfl, rfl, h⟩, fun ⟨u, v, h, hu, hv⟩ => by subst hu; subst h; exact hv⟩
  | cons a p ih =>
    simp only [List.cons_append, GM_cons, ih]
    constructor
    · rintro ⟨u, v, rfl, h1, u', v', rfl, h2, h3⟩
      exact ⟨u ++ u', v', by simp, ⟨u, u', rfl, h1, h2⟩, h3⟩
    · rintro ⟨u, v, rfl, ⟨u', v', rfl, h1, h2⟩, h3⟩
      exact ⟨u', v' ++ v, by simp, h1, v', v, rfl, h2, h3⟩

theorem GM_one (a : UInt8) (t : List UInt8) : GM [a] t ↔ El a t := by
  rw [GM_cons]
  constructor
  · rintro ⟨u, v, rfl, h, hv⟩; rw [GM_nil] at hv; subst hv; simpa using h
  · intro h; exact ⟨t, [], by simp, h, rfl⟩

theorem GM_congr {p q a b : List UInt8} (h : ∀ u, GM p u → GM q u) {t : List UInt8} (ht : GM (a ++ p ++ b) t) : GM (a ++ q ++ b) t := by
  rw [GM_append, ] at ht ⊢
  obtain ⟨u, v, rfl, h1, h2⟩ := ht
  refine ⟨u, v, rfl, ?_, h2⟩
  rw [GM_append] at h1 ⊢
  obtain ⟨u, v, rfl, h1, h3⟩ := h1
  exact ⟨u, v, rfl, h1, h _ h3⟩

theorem GM_star (t : List UInt8) : GM [42] t := (GM_one _ _).2 (Or.inl rfl)
theorem El_mark (t : List UInt8) : El 63 t ↔ t.length = 1 := by
  unfold El
  constructor
  · rintro (h | ⟨c, rfl, _⟩)
    · exact absurd h (by decide)
    · rfl
  · intro h
    match t, h with
    | [c], _ => exact Or.inr ⟨c, rfl, Or.inl rfl⟩
theorem GM_mark (t : List UInt8) : GM [63] t ↔ t.length = 1 := by rw [GM_one, El_mark]

theorem GM_starMark (t : List UInt8) : GM [42, 63] t ↔ 1 ≤ t.length := by
  show GM ([42] ++ [63]) t ↔ _
  rw [GM_append]
  constructor
  · rintro ⟨u, v, rfl, _, h⟩; rw [GM_mark] at h; simp; omega
  · intro h
    refine ⟨t.take (t.length - 1), t.drop (t.length - 1), by simp, GM_star _, ?_⟩
    rw [GM_mark]; simp; omega
theorem GM_markStar (t : List UInt8) : GM [63, 42] t ↔ 1 ≤ t.length := by
  show GM ([63] ++ [42]) t ↔ _
  rw [GM_append]
  constructor
  · rintro ⟨u, v, rfl, h, _⟩; rw [GM_mark] at h; simp; omega
  · intro h
    refine ⟨t.take 1, t.drop 1, (List.take_append_drop 1 t).symm, ?_, GM_star _⟩
    rw [GM_mark]; simp; omega

/-- a star and a question mark change their places -/
theorem stars_moved (a b t : List UInt8) : GM (a ++ [42, 63] ++ b) t ↔ GM (a ++ [63, 42] ++ b) t :=
  ⟨GM_congr fun u h => by rw [GM_markStar]; rwa [GM_starMark] at h, GM_congr fun u h => by rw [GM_starMark]; rwa [GM_markStar] at h⟩

/-- a star stands twice -/
theorem stars_twice (a b t : List UInt8) : GM (a ++ [42] ++ b) t ↔ GM (a ++ [42, 42] ++ b) t :=
  ⟨GM_congr fun u _ => by
      show GM ([42] ++ [42]) u
      rw [GM_append]; exact ⟨u, [], by simp, GM_star _, GM_star _⟩, GM_congr fun u _ => GM_star u⟩

theorem wider_star (a b t : List UInt8) (h : GM (a ++ b) t) : GM (a ++ [42] ++ b) t := by
  have h' : GM (a ++ [] ++ b) t := by simpa using h
  exact GM_congr (fun u _ => GM_star u) h'
theorem wider_one (x : UInt8) (hx : x ≠ 42) (a b t : List UInt8) (h : GM (a ++ [x] ++ b) t) : GM (a ++ [63] ++ b) t :=
  GM_congr (fun u hu => by
    rw [GM_mark]; rw [GM_one] at hu
    rcases hu with h | ⟨c, rfl, _⟩
    · exact absurd h hx
    · rfl) h
theorem wider_any (x : UInt8) (a b t : List UInt8) (h : GM (a ++ [x] ++ b) t) : GM (a ++ [42] ++ b) t := GM_congr (fun u _ => GM_star u) h

/-- two patterns behind each other -/
theorem joined {p q s t : List UInt8} (h : GM p s) (g : GM q t) : GM (p ++ q) (s ++ t) := (GM_append _ _ _).2 ⟨s, t, rfl, h, g⟩
theorem joined_star {p q s t : List UInt8} (m : List UInt8) (h : GM p s) (g : GM q t) : GM (p ++ [42] ++ q) (s ++ m ++ t) :=
  joined (joined h (GM_star m)) g

theorem El_reverse (a : UInt8) (u : List UInt8) : El a u.reverse ↔ El a u := by
  unfold El
  constructor
  · rintro (h | ⟨c, h, g⟩)
    · exact Or.inl h
    · exact Or.inr ⟨c, by rw [← List.reverse_reverse u, h]; rfl, g⟩
  · rintro (h | ⟨c, rfl, g⟩)
    · exact Or.inl h
    · exact Or.inr ⟨c, rfl, g⟩
theorem turned_le (p t : List UInt8) (h : GM p t) : GM p.reverse t.reverse := by
  induction p generalizing t with
  | nil => rw [GM_nil] at h; subst h; exact rfl
  | cons a p ih =>
    obtain ⟨u, v, rfl, h1, h2⟩ := h
    rw [List.reverse_cons, List.reverse_append]
    exact joined (ih v h2) ((GM_one _ _).2 ((El_reverse a u).2 h1))
/-- both the other way round -/
theorem turned (p t : List UInt8) : GM p t ↔ GM p.reverse t.reverse :=
  ⟨turned_le p t, fun h => by have := turned_le _ _ h; simpa using this⟩

def Lit (p : List UInt8) : Prop := ∀ a ∈ p, a ≠ 42 ∧ a ≠ 63
theorem GM_lit (p t : List UInt8) (h : Lit p) : GM p t ↔ t = p := by
  induction p generalizing t with
  | nil => exact Iff.rfl
  | cons a p ih =>
    have h1 := h a (by simp)
    have h2 : Lit p := fun b hb => h b (by simp [hb])
    rw [GM_cons]
    constructor
    · rintro ⟨u, v, rfl, hu, hv⟩
      rw [(ih v h2).1 hv]
      rcases hu with hu | ⟨c, rfl, hu | hu⟩
      · exact absurd hu h1.1
      · exact absurd hu h1.2
      · subst hu; rfl
    · rintro rfl
      exact ⟨[a], p, rfl, Or.inr ⟨a, rfl, Or.inr rfl⟩, (ih p h2).2 rfl⟩
theorem fronted (m p t : List UInt8) (h : Lit m) : GM p t ↔ GM (m ++ p) (m ++ t) := by
  constructor
  · exact fun g => joined ((GM_lit m m h).2 rfl) g
  · intro g
    obtain ⟨u, v, e, h1, h2⟩ := (GM_append _ _ _).1 g
    rw [(GM_lit m u h).1 h1] at e
    rw [List.append_cancel_left e]; exact h2
theorem behind (m p t : List UInt8) (h : Lit m) : GM p t ↔ GM (p ++ m) (t ++ m) := by
  constructor
  · exact fun g => joined g ((GM_lit m m h).2 rfl)
  · intro g
    obtain ⟨u, v, e, h1, h2⟩ := (GM_append _ _ _).1 g
    rw [(GM_lit m v h).1 h2] at e
    rw [List.append_cancel_right e]; exact h1

theorem named_le (f : UInt8 → UInt8) (hs : ∀ a, f a = 42 ↔ a = 42) (hq : ∀ a, f a = 63 ↔ a = 63) (p t : List UInt8) (h : GM p t) : GM (p.map f) (t.map f) := by
  induction p generalizing t with
  | nil => rw [GM_nil] at h; subst h; exact rfl
  | cons a p ih =>
    obtain ⟨u, v, rfl, h1, h2⟩ := h
    refine ⟨u.map f, v.map f, by simp, ?_, ih v h2⟩
    rcases h1 with h1 | ⟨c, rfl, h1 | h1⟩
    · exact Or.inl ((hs a).2 h1)
    · exact Or.inr ⟨f c, rfl, Or.inl ((hq a).2 h1)⟩
    · subst h1; exact Or.inr ⟨f a, rfl, Or.inr rfl⟩
theorem named (f : UInt8 → UInt8) (hf : ∀ a, f (f a) = a) (hs : ∀ a, f a = 42 ↔ a = 42) (hq : ∀ a, f a = 63 ↔ a = 63) (p t : List UInt8) : GM p t ↔ GM (p.map f) (t.map f) :=
  ⟨named_le f hs hq p t, fun h => by
    have := named_le f hs hq _ _ h
    simpa [List.map_map, Function.comp_def, hf] using this⟩

def markOf : List Bool → List UInt8 := fun l => l.map fun x => if x then 42 else 63
theorem marks (l : List Bool) (t : List UInt8) : GM (markOf l) t ↔ (t.length = l.count false ∨ (true ∈ l ∧ l.count false < t.length)) := by
  induction l generalizing t with
  | nil => simp [markOf, GM_nil]
  | cons x l ih =>
    show GM ((if x then 42 else 63) :: markOf l) t ↔ _
    rw [GM_cons]
    cases x with
    | true =>
      simp only [if_true, List.mem_cons, true_or, true_and]
      rw [List.count_cons_of_ne (by decide)]
      constructor
      · rintro ⟨u, v, rfl, _, h⟩
        have := (ih v).1 h
        simp only [List.length_append]
        omega
      · intro h
        refine ⟨t.take (t.length - l.count false), t.drop (t.length - l.count false), by simp, Or.inl rfl, (ih _).2 (Or.inl ?_)⟩
        simp only [List.length_drop]; omega
    | false =>
      simp only [Bool.false_eq_true, if_false, List.count_cons_self, List.mem_cons]
      constructor
      · rintro ⟨u, v, rfl, h, h'⟩
        have h1 := (El_mark u).1 h
        have := (ih v).1 h'
        simp only [List.length_append]
        rcases this with h | ⟨h, g⟩
        · exact Or.inl (by omega)
        · exact Or.inr ⟨by simp [h], by omega⟩
      · intro h
        refine ⟨t.take 1, t.drop 1, (List.take_append_drop 1 t).symm, (El_mark _).2 ?_, (ih _).2 ?_⟩
        · simp only [List.length_take]; omega
        · simp only [List.length_drop]
          rcases h with h | ⟨h, g⟩
          · exact Or.inl (by omega)
          · exact Or.inr ⟨by simpa using h, by omega⟩

/-- the step at the end of the pattern -/
theorem GM_snoc (p : List UInt8) (a : UInt8) (t : List UInt8) : GM (p ++ [a]) t ↔ ∃ u v, t = u ++ v ∧ GM p u ∧ El a v := by
  rw [GM_append]; simp only [GM_one]

theorem GM_snoc_star (p t : List UInt8) (c : UInt8) : GM (p ++ [42]) (t ++ [c]) ↔ (GM p (t ++ [c]) ∨ GM (p ++ [42]) t) := by
  rw [GM_snoc, GM_snoc]
  constructor
  · rintro ⟨u, v, e, h, _⟩
    rcases List.eq_nil_or_concat v with rfl | ⟨v', d, rfl⟩
    · left; rw [e]; simpa using h
    · right
      have e2 : t ++ [c] = (u ++ v') ++ [d] := by rw [e]; simp
      have := List.append_inj' e2 rfl
      exact ⟨u, v', this.1, h, Or.inl rfl⟩
  · rintro (h | ⟨u, v, rfl, h, _⟩)
    · exact ⟨_, [], by simp, h, Or.inl rfl⟩
    · exact ⟨u, v ++ [c], by simp, h, Or.inl rfl⟩
theorem GM_snoc_other (p t : List UInt8) (a c : UInt8) (ha : a ≠ 42) : GM (p ++ [a]) (t ++ [c]) ↔ ((a = 63 ∨ a = c) ∧ GM p t) := by
  rw [GM_snoc]
  constructor
  · rintro ⟨u, v, e, h, hv | ⟨d, rfl, hv⟩⟩
    · exact absurd hv ha
    · have := List.append_inj' e rfl
      obtain ⟨rfl, h2⟩ := this
      have h3 : c = d := by simpa using h2
      subst h3
      exact ⟨hv, h⟩
  · rintro ⟨h, g⟩
    exact ⟨t, [c], rfl, g, Or.inr ⟨c, rfl, h⟩⟩
theorem GM_nil_snoc (t : List UInt8) (c : UInt8) : ¬ GM [] (t ++ [c]) := by simp [GM_nil]
theorem GM_snoc_nil (p : List UInt8) (a : UInt8) : GM (p ++ [a]) [] ↔ a = 42 ∧ GM p [] := by
  rw [GM_snoc]
  constructor
  · rintro ⟨u, v, e, h, hv⟩
    obtain ⟨rfl, rfl⟩ : u = [] ∧ v = [] := by simpa using e.symm
    rcases hv with hv | ⟨c, hc, _⟩
    · exact ⟨hv, h⟩
    · cases hc
  · rintro ⟨rfl, h⟩; exact ⟨[], [], rfl, h, Or.inl rfl⟩

/-- the automaton: place k of the pattern is reached behind i bytes of the text -/
def At (p t : List UInt8) (k i : Nat) : Prop := GM (p.take k) (t.take i)
theorem take_snoc {p : List UInt8} {k : Nat} (h : k < p.length) : p.take (k + 1) = p.take k ++ [p[k]] := by
  rw [List.take_succ_eq_append_getElem h]
theorem At_zero (p t : List UInt8) : At p t 0 0 := by unfold At; rw [List.take_zero, List.take_zero, GM_nil]
theorem At_zero_succ (p t : List UInt8) (i : Nat) (hi : i < t.length) : ¬ At p t 0 (i + 1) := by
  unfold At; rw [List.take_zero, take_snoc hi]; exact GM_nil_snoc _ _
theorem At_succ_zero (p t : List UInt8) (k : Nat) (hk : k < p.length) : At p t (k + 1) 0 ↔ p[k] = 42 ∧ At p t k 0 := by
  unfold At; rw [take_snoc hk, List.take_zero]; exact GM_snoc_nil _ _
theorem At_star (p t : List UInt8) (k i : Nat) (hk : k < p.length) (hi : i < t.length) (h : p[k] = 42) : At p t (k + 1) (i + 1) ↔ (At p t k (i + 1) ∨ At p t (k + 1) i) := by
  unfold At; rw [take_snoc hk, take_snoc hi, h]; exact GM_snoc_star _ _ _
theorem At_other (p t : List UInt8) (k i : Nat) (hk : k < p.length) (hi : i < t.length) (h : p[k] ≠ 42) : At p t (k + 1) (i + 1) ↔ ((p[k] = 63 ∨ p[k] = t[i]) ∧ At p t k i) := by
  unfold At; rw [take_snoc hk, take_snoc hi]; exact GM_snoc_other _ _ _ _ h
theorem At_all (p t : List UInt8) : At p t p.length t.length ↔ GM p t := by
  unfold At; rw [List.take_length, List.take_length]

/-! ### the automaton's closure, as the program reckons it -/
def reach (st : Nat → Bool) (xs : List Nat) : Nat → Bool
  | 0 => decide (0 ∈ xs)
  | k + 1 => decide (k + 1 ∈ xs) || (st k && reach st xs k)
def seenA (n : Nat) (xs : List Nat) (j : Nat) : List Bool := (List.range n).map fun i => decide (i ∈ xs.take j)
def seenB (n : Nat) (st : Nat → Bool) (xs : List Nat) (k : Nat) : List Bool := (List.range n).map fun i => if i ≤ k then reach st xs i else decide (i ∈ xs)
def outB (st : Nat → Bool) (xs : List Nat) (k : Nat) : List Nat := (List.range k).filter (reach st xs)
theorem seenA_length (n : Nat) (xs : List Nat) (j : Nat) : (seenA n xs j).length = n := by simp [seenA]
theorem seenB_length (n : Nat) (st : Nat → Bool) (xs : List Nat) (j : Nat) : (seenB n st xs j).length = n := by simp [seenB]
theorem seenA_zero (n : Nat) (xs : List Nat) : seenA n xs 0 = List.replicate n false := by
  apply List.ext_getElem (by simp [seenA])
  intro i h1 h2; simp [seenA]
theorem seenA_succ (n : Nat) (xs : List Nat) (j : Nat) (hj : j < xs.length) : (seenA n xs j).set xs[j] true = seenA n xs (j + 1) := by
  apply List.ext_getElem (by simp [seenA])
  intro i h1 h2
  rw [List.getElem_set]
  simp only [seenA, List.getElem_map, List.getElem_range]
  rw [List.take_succ_eq_append_getElem hj]
  have e : (i ∈ xs.take j ++ [xs[j]]) ↔ (i ∈ xs.take j ∨ i = xs[j]) := by simp only [List.mem_append, List.mem_singleton]
  rw [decide_eq_decide.2 e]
  by_cases h : xs[j] = i
  · rw [if_pos h, decide_eq_true (Or.inr h.symm)]
  · rw [if_neg h]; exact decide_eq_decide.2 ⟨Or.inl, fun g => g.elim id fun g => absurd g.symm h⟩
theorem seenA_all (n : Nat) (st : Nat → Bool) (xs : List Nat) : seenA n xs xs.length = seenB n st xs 0 := by
  apply List.ext_getElem (by simp [seenA, seenB])
  intro i h1 h2
  simp only [seenA, seenB, List.getElem_map, List.getElem_range, List.take_length]
  by_cases h : i ≤ 0
  · rw [if_pos h]; obtain rfl : i = 0 := by omega
    rfl
  · rw [if_neg h]
theorem seenB_at (n : Nat) (st : Nat → Bool) (xs : List Nat) (k : Nat) (hk : k < n) : (seenB n st xs k).getD k false = reach st xs k := by
  simp [seenB, List.getD_eq_getElem?_getD, List.getElem?_map, List.getElem?_range hk]
theorem seenB_keep (n : Nat) (st : Nat → Bool) (xs : List Nat) (k : Nat) (h : reach st xs k = false ∨ st k = false ∨ n ≤ k + 1) : seenB n st xs (k + 1) = seenB n st xs k := by
  apply List.ext_getElem (by simp [seenB])
  intro i h1 h2
  simp only [seenB_length] at h1
  simp only [seenB, List.getElem_map, List.getElem_range]
  by_cases hi : i ≤ k
  · rw [if_pos (by omega), if_pos hi]
  · rw [if_neg hi]
    by_cases hi' : i ≤ k + 1
    · rw [if_pos hi']
      obtain rfl : i = k + 1 := by omega
      rcases h with h | h | h
      · simp [reach, h]
      · simp [reach, h]
      · omega
    · rw [if_neg hi']
theorem seenB_set (n : Nat) (st : Nat → Bool) (xs : List Nat) (k : Nat) (h : reach st xs k = true) (h2 : st k = true) : (seenB n st xs k).set (k + 1) true = seenB n st xs (k + 1) := by
  apply List.ext_getElem (by simp [seenB])
  intro i h1 h3
  rw [List.getElem_set]
  simp only [seenB, List.getElem_map, List.getElem_range]
  by_cases hi : k + 1 = i
  · rw [if_pos hi]; subst hi
    rw [if_pos (by omega)]; simp [reach, h, h2]
  · rw [if_neg hi]
    by_cases hi' : i ≤ k
    · rw [if_pos hi', if_pos (by omega)]
    · rw [if_neg hi', if_neg (by omega)]
theorem outB_in (st : Nat → Bool) (xs : List Nat) (k : Nat) (h : reach st xs k = true) : outB st xs (k + 1) = outB st xs k ++ [k] := by
  simp [outB, List.range_succ, List.filter_append, h]
theorem outB_out (st : Nat → Bool) (xs : List Nat) (k : Nat) (h : reach st xs k = false) : outB st xs (k + 1) = outB st xs k := by
  simp [outB, List.range_succ, List.filter_append, h]
theorem outB_le (st : Nat → Bool) (xs : List Nat) (k : Nat) : (outB st xs k).length ≤ k := by
  have := List.length_filter_le (reach st xs) (List.range k); simpa [outB] using this
theorem mem_outB (st : Nat → Bool) (xs : List Nat) (k i : Nat) : i ∈ outB st xs k ↔ i < k ∧ reach st xs i = true := by simp [outB]

/-! ### the automaton's step -/
def stL (p : List UInt8) (k : Nat) : Bool := p.getD k 0 == 42
def stepO (p : List UInt8) (c : UInt8) (q : Nat) : Option Nat :=
  if q = p.length then none else if p.getD q 0 = 42 then some q else if p.getD q 0 = 63 ∨ p.getD q 0 = c then some (q + 1) else none
/-- a star's place is reached as soon as what stands ahead of it, and whatever the star has taken since -/
def AtS (p t : List UInt8) (k i : Nat) : Prop := if stL p k = true then At p t (k + 1) i else At p t k i
theorem stL_lt {p : List UInt8} {k : Nat} (h : stL p k = true) : ∃ h : k < p.length, p[k] = 42 := by
  unfold stL at h
  by_cases hk : k < p.length
  · exact ⟨hk, by simpa [List.getD_eq_getElem?_getD, List.getElem?_eq_getElem hk] using h⟩
  · rw [List.getD_eq_getElem?_getD, List.getElem?_eq_none (by omega)] at h; simp at h
theorem stL_not {p : List UInt8} {k : Nat} (hk : k < p.length) (h : stL p k = false) : p[k] ≠ 42 := by
  unfold stL at h
  simpa [List.getD_eq_getElem?_getD, List.getElem?_eq_getElem hk] using h
theorem getD_lt {p : List UInt8} {k : Nat} (hk : k < p.length) : p.getD k 0 = p[k] := by simp [List.getD_eq_getElem?_getD, List.getElem?_eq_getElem hk]
theorem stL_eq {p : List UInt8} {k : Nat} (hk : k < p.length) : stL p k = (p[k] == 42) := by unfold stL; rw [getD_lt hk]
theorem AtS_zero (p t : List UInt8) (k : Nat) (hk : k ≤ p.length) : reach (stL p) [0] k = true ↔ AtS p t k 0 := by
  induction k with
  | zero =>
    refine ⟨fun _ => ?_, fun _ => by simp [reach]⟩
    unfold AtS
    by_cases h : stL p 0 = true
    · rw [if_pos h]; obtain ⟨h1, h2⟩ := stL_lt h
      rw [At_succ_zero _ _ _ h1]; exact ⟨h2, At_zero _ _⟩
    · rw [if_neg h]; exact At_zero _ _
  | succ k ih =>
    have ih := ih (by omega)
    have e : reach (stL p) [0] (k + 1) = true ↔ (stL p k = true ∧ reach (stL p) [0] k = true) := by simp [reach]
    rw [e, ih]
    have hk' : k < p.length := by omega
    have h0 : (stL p k = true ∧ AtS p t k 0) ↔ At p t (k + 1) 0 := by
      constructor
      · rintro ⟨h, g⟩; unfold AtS at g; rwa [if_pos h] at g
      · intro g
        have := (At_succ_zero p t k hk').1 g
        have h : stL p k = true := by rw [stL_eq hk', this.1]; rfl
        exact ⟨h, by unfold AtS; rwa [if_pos h]⟩
    rw [h0]
    unfold AtS
    by_cases h : stL p (k + 1) = true
    · rw [if_pos h]; obtain ⟨h1, h2⟩ := stL_lt h
      rw [At_succ_zero p t (k + 1) h1]; exact ⟨fun g => ⟨h2, g⟩, fun g => g.2⟩
    · rw [if_neg h]
theorem AtS_succ (p t : List UInt8) (l : List Nat) (i k : Nat) (hi : i < t.length) (hl : ∀ q, q ∈ l ↔ q ≤ p.length ∧ AtS p t q i) (hk : k ≤ p.length) :
    reach (stL p) (l.filterMap (stepO p t[i])) k = true ↔ AtS p t k (i + 1) := by
  have hmem : ∀ k, k ≤ p.length → (k ∈ l.filterMap (stepO p t[i]) ↔ ((stL p k = true ∧ AtS p t k i) ∨ ∃ q, ∃ hq : q < p.length, k = q + 1 ∧ stL p q = false ∧ (p[q] = 63 ∨ p[q] = t[i]) ∧ At p t q i)) := by
    intro k hk
    rw [List.mem_filterMap]
    constructor
    · rintro ⟨q, hq, e⟩
      have hq := (hl q).1 hq
      unfold stepO at e
      by_cases h1 : q = p.length
      · rw [if_pos h1] at e; cases e
      · have hlt : q < p.length := by omega
        rw [if_neg h1, getD_lt hlt] at e
        by_cases h2 : p[q] = 42
        · rw [if_pos h2] at e
          obtain rfl : q = k := by simpa using e
          exact Or.inl ⟨by rw [stL_eq hlt, h2]; rfl, hq.2⟩
        · rw [if_neg h2] at e
          by_cases h3 : p[q] = 63 ∨ p[q] = t[i]
          · rw [if_pos h3] at e
            have hs : stL p q = false := by rw [stL_eq hlt]; simpa using h2
            refine Or.inr ⟨q, hlt, by simpa using e.symm, hs, h3, ?_⟩
            have := hq.2; unfold AtS at this; rwa [if_neg (by simp [hs])] at this
          · rw [if_neg h3] at e; cases e
    · rintro (⟨h, g⟩ | ⟨q, hq, rfl, h, h3, g⟩)
      · obtain ⟨h1, h2⟩ := stL_lt h
        refine ⟨k, (hl k).2 ⟨by omega, g⟩, ?_⟩
        unfold stepO; rw [if_neg (by omega), getD_lt h1, if_pos h2]
      · refine ⟨q, (hl q).2 ⟨by omega, ?_⟩, ?_⟩
        · unfold AtS; rw [if_neg (by simp [h])]; exact g
        · unfold stepO; rw [if_neg (by omega), getD_lt hq, if_neg (stL_not hq h), if_pos h3]
  induction k with
  | zero =>
    have e : reach (stL p) (l.filterMap (stepO p t[i])) 0 = true ↔ 0 ∈ l.filterMap (stepO p t[i]) := by simp only [reach, decide_eq_true_eq]
    rw [e, hmem 0 (by omega)]
    constructor
    · rintro (⟨h, g⟩ | ⟨q, hq, h0, _⟩)
      · obtain ⟨h1, h2⟩ := stL_lt h
        unfold AtS at g ⊢
        rw [if_pos h] at g ⊢
        exact (At_star p t 0 i h1 hi h2).2 (Or.inr g)
      · omega
    · intro g
      unfold AtS at g
      by_cases h : stL p 0 = true
      · rw [if_pos h] at g
        obtain ⟨h1, h2⟩ := stL_lt h
        refine Or.inl ⟨h, ?_⟩
        unfold AtS; rw [if_pos h]
        exact ((At_star p t 0 i h1 hi h2).1 g).resolve_left (At_zero_succ p t i hi)
      · rw [if_neg h] at g; exact absurd g (At_zero_succ p t i hi)
  | succ k ih =>
    have ih := ih (by omega)
    have hk' : k < p.length := by omega
    have e : reach (stL p) (l.filterMap (stepO p t[i])) (k + 1) = true ↔ (k + 1 ∈ l.filterMap (stepO p t[i]) ∨ (stL p k = true ∧ reach (stL p) (l.filterMap (stepO p t[i])) k = true)) := by
      simp only [reach, Bool.or_eq_true, decide_eq_true_eq, Bool.and_eq_true]
    have e2 := or_congr (hmem (k + 1) hk) (and_congr (Iff.rfl (a := stL p k = true)) ih)
    refine (e.trans e2).trans ?_
    have h0 : ((∃ q, ∃ hq : q < p.length, k + 1 = q + 1 ∧ stL p q = false ∧ (p[q] = 63 ∨ p[q] = t[i]) ∧ At p t q i) ∨ (stL p k = true ∧ AtS p t k (i + 1))) ↔ At p t (k + 1) (i + 1) := by
      constructor
      · rintro (⟨q, hq, h1, h2, h3, h4⟩ | ⟨h, g⟩)
        · obtain rfl : k = q := by omega
          exact (At_other p t k i hq hi (stL_not hq h2)).2 ⟨h3, h4⟩
        · unfold AtS at g; rwa [if_pos h] at g
      · intro g
        by_cases h : stL p k = true
        · exact Or.inr ⟨h, by unfold AtS; rwa [if_pos h]⟩
        · have h' : stL p k = false := by simpa using h
          have := (At_other p t k i hk' hi (stL_not hk' h')).1 g
          exact Or.inl ⟨k, hk', rfl, h', this.1, this.2⟩
    rw [or_assoc, h0]
    unfold AtS
    by_cases h : stL p (k + 1) = true
    · rw [if_pos h, if_pos h]; obtain ⟨h1, h2⟩ := stL_lt h
      rw [At_star p t (k + 1) i h1 hi h2]
      constructor
      · rintro (g | g)
        · exact Or.inr g.2
        · exact Or.inl g
      · rintro (g | g)
        · exact Or.inr g
        · exact Or.inl ⟨h, g⟩
    · rw [if_neg h, if_neg h]
      constructor
      · rintro (g | g)
        · exact absurd g.1 h
        · exact g
      · exact Or.inr
theorem AtS_end (p t : List UInt8) : AtS p t p.length t.length ↔ GM p t := by
  unfold AtS
  rw [if_neg (by intro h; obtain ⟨h1, _⟩ := stL_lt h; omega)]
  exact At_all p t
theorem stepO_le (p : List UInt8) (c : UInt8) (q x : Nat) (hq : q ≤ p.length) (h : stepO p c q = some x) : x ≤ p.length := by
  unfold stepO at h
  split at h
  · cases h
  · split at h
    · simp at h; omega
    · split at h
      · simp at h; omega
      · cases h

end Go.Proofs.YtkmoeeaaolpdnaaDoor.GlobPlain
