/-
  The walks of glob.Match, wGlobs, wMatch and wPick: Match refuses what is longer than 100 bytes and else answers as the plain theory says; wGlobs answers true.
  Condition: each string has at most 140737488355000 bytes.
-/
import Derived.Test.YtkmoeeaaolpdnaaDoorMat
namespace Go.Proofs.YtkmoeeaaolpdnaaDoor
open Go.RowKit Go.Proofs.YtkmoeeaaolpdnaaDoorW.PrintWords GlobPlain

/-- a fault as a value -/
abbrev fltV (code at_ : Int) : Value := .agg #[.int .i64 code, .int .i64 at_]

/-- two new cells, then whatever is laid behind: they stand -/
theorem two_new {w w0 w1 : World} {a b : Value} {t : TypeId} (h0 : Below (w.heap.size + 1) (w.alloc (.cells #[a, b] t)) w0) (hs : w.heap.size + 1 ≤ w0.heap.size) (h1 : Below w0.heap.size w0 w1) :
    (w1.cell? ⟨w.heap.size, 0, none⟩ = some a ∧ w1.cell? ⟨w.heap.size, 1, none⟩ = some b) ∧ (w1.frozen? ⟨w.heap.size, 0, none⟩ = false ∧ w1.frozen? ⟨w.heap.size, 1, none⟩ = false) ∧ w.heap.size < w1.heap.size := by
  have hblk : w1.heap[w.heap.size]? = some (.cells #[a, b] t (0, 0)) := by
    rw [h1.block _ (by omega), h0.block _ (by omega)]; exact heap_alloc_new w _
  refine ⟨⟨?_, ?_⟩, ⟨blk_frozen hblk 0, blk_frozen hblk 1⟩, blk_lt hblk⟩
  · rw [blk_cell hblk]; rfl
  · rw [blk_cell hblk]; rfl

set_option maxHeartbeats 1000000 in
set_option maxRecDepth 100000 in
theorem match_ok (P T : ByteArray) (w : World) (hP : P.size ≤ 100) (hT : T.size ≤ 100) :
    Calls Tryd.prog 13 #[.string P, .string T] w fun e w' => e = .returned (.tuple #[.bool (mB P T), fltV 0 0]) ∧ Below w.heap.size w w' := by
  go_enter Tryd.func13, Tryd.ntmps13
  go_wp2
  refine wp_loop_rounds 3 ?_
  rw [rounds_succ]
  go_wp2
  rw [rounds_succ]
  go_wp2
  rw [rounds_succ]
  go_wp2_with fail
  refine (matches_calls P T _ (by omega) (by omega)).mono ?_
  rintro e w1 ⟨rfl, hb1⟩
  obtain ⟨⟨hc0, hc1⟩, ⟨hf0, hf1⟩, hz⟩ := two_new ((Below.refl _ _).alloc (by simp) _) (by simp) hb1
  have hB : Below w.heap.size w w1 := below_then (((Below.refl _ _).alloc (Nat.le_refl _) _).alloc (by simp) _) (by simp; omega) hb1
  have HB := Aside0.mk hB
  clear hb1 hB
  go_wp2
  exact bodyPost_ret (v := .tuple #[.bool (mB P T), fltV 0 0]) (by simp [results, Tryd.results13, go_sem, hc0, hc1]) rfl ⟨rfl, (HB.out.setCell (p := ⟨w.heap.size, 0, none⟩) (Nat.le_refl _) _).setCell (p := ⟨w.heap.size, 1, none⟩) (Nat.le_refl _) _⟩

set_option maxHeartbeats 1000000 in
set_option maxRecDepth 100000 in
theorem match_first (P T : ByteArray) (w : World) (hP : 100 < P.size) :
    Calls Tryd.prog 13 #[.string P, .string T] w fun e w' => e = .returned (.tuple #[.bool false, fltV 2 0]) ∧ Below w.heap.size w w' := by
  go_enter Tryd.func13, Tryd.ntmps13
  go_wp2
  refine wp_loop_rounds 3 ?_
  rw [rounds_succ]
  go_wp2
  exact bodyPost_ret (v := .tuple #[.bool false, fltV 2 0]) (by simp [results, Tryd.results13, go_sem]) rfl ⟨rfl, ((Below.refl _ _).alloc (Nat.le_refl _) _).alloc (by simp) _⟩

set_option maxHeartbeats 1000000 in
set_option maxRecDepth 100000 in
theorem match_second (P T : ByteArray) (w : World) (hP : P.size ≤ 100) (hT : 100 < T.size) :
    Calls Tryd.prog 13 #[.string P, .string T] w fun e w' => e = .returned (.tuple #[.bool false, fltV 2 1]) ∧ Below w.heap.size w w' := by
  go_enter Tryd.func13, Tryd.ntmps13
  go_wp2
  refine wp_loop_rounds 3 ?_
  rw [rounds_succ]
  go_wp2
  rw [rounds_succ]
  go_wp2
  exact bodyPost_ret (v := .tuple #[.bool false, fltV 2 1]) (by simp [results, Tryd.results13, go_sem]) rfl ⟨rfl, ((Below.refl _ _).alloc (Nat.le_refl _) _).alloc (by simp) _⟩

/-- what Match answers: a bool, and a fault's code -/
def MatchAns (P T : ByteArray) (b : Bool) (c : Int) : Prop := (c = 0 ∧ P.size ≤ 100 ∧ T.size ≤ 100 ∧ b = mB P T) ∨ (c = 2 ∧ (100 < P.size ∨ 100 < T.size) ∧ b = false)
theorem match_any (P T : ByteArray) (w : World) :
    Calls Tryd.prog 13 #[.string P, .string T] w fun e w' => ∃ b c i, e = .returned (.tuple #[.bool b, fltV c i]) ∧ MatchAns P T b c ∧ Below w.heap.size w w' := by
  by_cases hP : P.size ≤ 100
  · by_cases hT : T.size ≤ 100
    · exact (match_ok P T w hP hT).mono fun e w' ⟨he, hb⟩ => ⟨_, _, _, he, Or.inl ⟨rfl, hP, hT, rfl⟩, hb⟩
    · exact (match_second P T w hP (by omega)).mono fun e w' ⟨he, hb⟩ => ⟨_, _, _, he, Or.inr ⟨rfl, Or.inr (by omega), rfl⟩, hb⟩
  · exact (match_first P T w (by omega)).mono fun e w' ⟨he, hb⟩ => ⟨_, _, _, he, Or.inr ⟨rfl, Or.inl (by omega), rfl⟩, hb⟩

theorem mB_true {P T : ByteArray} (h : GM (bl P) (bl T)) : mB P T = true := @decide_eq_true _ (Classical.propDecidable _) h
theorem mB_false {P T : ByteArray} (h : ¬ GM (bl P) (bl T)) : mB P T = false := @decide_eq_false _ (Classical.propDecidable _) h
theorem mB_gm {P T : ByteArray} (h : mB P T = true) : GM (bl P) (bl T) := @of_decide_eq_true _ (Classical.propDecidable _) h
theorem mB_congr {P T P' T' : ByteArray} (h : GM (bl P) (bl T) ↔ GM (bl P') (bl T')) : mB P T = mB P' T' := by unfold mB; exact decide_eq_decide.2 h
theorem globs_yes : mB ⟨#[97, 42, 99]⟩ ⟨#[97, 98, 98, 99]⟩ = true := by
  refine mB_true ?_
  exact ⟨[97], [98, 98, 99], rfl, Or.inr ⟨97, rfl, Or.inr rfl⟩, [98, 98], [99], rfl, Or.inl rfl, [99], [], rfl, Or.inr ⟨99, rfl, Or.inr rfl⟩, rfl⟩
theorem globs_no : mB ⟨#[97, 63, 99]⟩ ⟨#[97, 98, 98, 99]⟩ = false := by
  refine mB_false ?_
  rintro ⟨u1, v1, e1, h1, u2, v2, e2, h2, u3, v3, e3, h3, h4⟩
  have l1 : u1.length = 1 := by
    rcases h1 with h | ⟨c, rfl, _⟩
    · exact absurd h (by decide)
    · rfl
  have l2 := (El_mark u2).1 h2
  have l3 : u3.length = 1 := by
    rcases h3 with h | ⟨c, rfl, _⟩
    · exact absurd h (by decide)
    · rfl
  have h4 : v3 = [] := h4
  have e := congrArg List.length e1
  rw [e2, e3, h4] at e
  simp [bl] at e
  omega

/-- a fault's two cells, and a new block's -/
theorem two_new' {w w1 : World} {a b : Value} {t : TypeId} (h1 : Below (w.alloc (.cells #[a, b] t)).heap.size (w.alloc (.cells #[a, b] t)) w1) :
    (w1.cell? ⟨w.heap.size, 0, none⟩ = some a ∧ w1.cell? ⟨w.heap.size, 1, none⟩ = some b) ∧ (w1.frozen? ⟨w.heap.size, 0, none⟩ = false ∧ w1.frozen? ⟨w.heap.size, 1, none⟩ = false) ∧ w.heap.size < w1.heap.size :=
  two_new (Below.refl _ _) (by simp) h1

set_option maxHeartbeats 1000000 in
set_option maxRecDepth 100000 in
theorem globs_calls (w : World) : Calls Tryd.prog 8 #[] w fun e w' => e = .returned (.bool true) ∧ Below w.heap.size w w' := by
  go_enter Tryd.func8, Tryd.ntmps8
  go_wp2_with fail
  refine (match_ok ⟨#[97, 42, 99]⟩ ⟨#[97, 98, 98, 99]⟩ w (by decide) (by decide)).mono ?_
  rintro e w1 ⟨rfl, hb1⟩
  rw [globs_yes]
  have HB := Aside0.mk hb1
  clear hb1
  go_wp2_with fail
  refine (match_ok ⟨#[97, 63, 99]⟩ ⟨#[97, 98, 98, 99]⟩ _ (by decide) (by decide)).mono ?_
  rintro e w2 ⟨rfl, hb2⟩
  rw [globs_no]
  obtain ⟨⟨hc0, hc1⟩, ⟨hf0, hf1⟩, hz⟩ := two_new' hb2
  have HB2 := Aside0.mk (below_then (HB.out.alloc HB.out.size _) (by have := HB.out.size; simp; omega) hb2)
  clear hb2
  go_wp2
  go_ret
  exact ⟨rfl, HB2.out.alloc HB2.out.size _⟩

/-- a block of two cells: what is known of it -/
structure Two (w : World) (g : Nat) (a b : Value) : Prop where
  blk : w.heap[g]? = some (.cells #[a, b] 33 (0, 0))
theorem Two.new (w : World) (a b : Value) : Two (w.alloc (.cells #[a, b] 33)) w.heap.size a b := ⟨heap_alloc_new w _⟩
theorem Two.lt {w : World} {g : Nat} {a b : Value} (h : Two w g a b) : g < w.heap.size := blk_lt h.blk
theorem Two.below {w w1 : World} {g : Nat} {a b : Value} (h : Two w g a b) (hb : Below w.heap.size w w1) : Two w1 g a b := ⟨(hb.block g h.lt).trans h.blk⟩
theorem Two.alloc {w : World} {g : Nat} {a b : Value} (h : Two w g a b) (o : Obj) : Two (w.alloc o) g a b := h.below ((Below.refl _ _).alloc (Nat.le_refl _) _)
theorem Two.cells {w : World} {g : Nat} {a b : Value} (h : Two w g a b) : (w.cell? ⟨g, 0, none⟩ = some a ∧ w.cell? ⟨g, 1, none⟩ = some b) ∧ w.frozen? ⟨g, 0, none⟩ = false ∧ w.frozen? ⟨g, 1, none⟩ = false :=
  ⟨⟨by rw [blk_cell h.blk]; rfl, by rw [blk_cell h.blk]; rfl⟩, blk_frozen h.blk 0, blk_frozen h.blk 1⟩
theorem Two.set {w : World} {g : Nat} {a b : Value} (h : Two w g a b) (x y : Value) : Two ((w.setCell ⟨g, 0, none⟩ x).setCell ⟨g, 1, none⟩ y) g x y := ⟨by
  have h1 := blk_set (blk_set h.blk 0 x) 1 y
  simpa using h1⟩
theorem Two.other {w : World} {g g' : Nat} {a b : Value} (h : Two w g a b) (hg : g ≠ g') (x y : Value) : Two ((w.setCell ⟨g', 0, none⟩ x).setCell ⟨g', 1, none⟩ y) g a b :=
  ⟨blk_far (blk_far h.blk hg x) hg y⟩
theorem Two.upper {w w1 : World} {g : Nat} {x y : Value} (hb : Below w.heap.size w w1) (hg : w.heap.size ≤ g) : Below w.heap.size w ((w1.setCell ⟨g, 0, none⟩ x).setCell ⟨g, 1, none⟩ y) :=
  (hb.setCell (p := ⟨g, 0, none⟩) hg _).setCell (p := ⟨g, 1, none⟩) hg _

set_option maxHeartbeats 2000000 in
set_option maxRecDepth 100000 in
/-- two patterns that match two texts alike -/
theorem wmatch_calls (p s q t : ByteArray) (w : World) (h : p.size ≤ 100 → s.size ≤ 100 → q.size ≤ 100 → t.size ≤ 100 → mB p s = mB q t) :
    Calls Tryd.prog 7 #[.string p, .string s, .string q, .string t] w fun e w' => e = .returned (.bool true) ∧ Below w.heap.size w w' := by
  have HH := Aside0.mk h
  clear h
  go_enter Tryd.func7, Tryd.ntmps7
  go_wp2_with fail
  refine (globs_calls w).mono ?_
  rintro e w1 ⟨rfl, hb1⟩
  have HB := Aside0.mk hb1
  clear hb1
  go_wp2_with fail
  refine (match_any p s _).mono ?_
  rintro e w2 ⟨b1, c1, i1, rfl, ha1, hb2⟩
  have HB2 := Aside0.mk (below_then HB.out HB.out.size hb2)
  clear hb2
  have HA1 := Aside0.mk ha1
  clear ha1
  go_wp2_with fail
  refine (match_any q t _).mono ?_
  rintro e w3 ⟨b2, c2, i2, rfl, ha2, hb3⟩
  obtain ⟨⟨hc0, hc1⟩, ⟨hf0, hf1⟩, hz⟩ := two_new' hb3
  have HB3 := Aside0.mk (below_then (HB2.out.alloc HB2.out.size _) (by have := HB2.out.size; simp; omega) hb3)
  clear hb3
  rcases HA1.out with ⟨rfl, h1, h2, g1⟩ | ⟨rfl, h1, h2⟩
  · rcases ha2 with ⟨rfl, h3, h4, g2⟩ | ⟨rfl, h3, h4⟩
    · have HE := HH.out h1 h2 h3 h4
      rw [← g1, ← g2] at HE
      clear g1 g2 HA1 HH
      subst HE
      go_wp2
      go_ret
      exact ⟨by simp, HB3.out.alloc HB3.out.size _⟩
    · clear HA1 HH h2 h4 g1
      go_wp2
      go_ret
      exact ⟨rfl, HB3.out.alloc HB3.out.size _⟩
  · clear HA1 HH h2 ha2
    go_wp2
    go_ret
    exact ⟨rfl, HB3.out.alloc HB3.out.size _⟩

end Go.Proofs.YtkmoeeaaolpdnaaDoor
