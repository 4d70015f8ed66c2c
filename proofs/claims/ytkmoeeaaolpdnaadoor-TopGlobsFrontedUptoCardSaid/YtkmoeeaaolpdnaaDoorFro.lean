/-
  The walk of TopGlobsFronted: it returns true. Condition: each string has at most 1048576 bytes, and the library's variable MaxLen holds a number.
-/
import Derived.Test.YtkmoeeaaolpdnaaDoorMch
import Derived.Test.YtkmoeeaaolpdnaaDoorRep
import Derived.Test.YtkmoeeaaolpdnaaDoorShelfA
namespace Go.Proofs.YtkmoeeaaolpdnaaDoor
open Go.RowKit Go.Proofs.YtkmoeeaaolpdnaaDoorW.PrintWords GlobPlain

/-- one byte replaced by another one, everywhere -/
def repS (c d : UInt8) (s : ByteArray) : ByteArray := ⟨((bl s).map (swp c d)).toArray⟩
theorem bl_rep (c d : UInt8) (s : ByteArray) : bl (repS c d s) = (bl s).map (swp c d) := by simp [bl, repS]
theorem repS_size (c d : UInt8) (s : ByteArray) : (repS c d s).size = s.size := by
  rw [← bl_length, bl_rep, List.length_map, bl_length]
theorem rep_calls (c d : UInt8) (h : c ≠ d) (s : ByteArray) (m : Int) (w : World) (hs : s.size ≤ 1048576) (hm : w.cell? ⟨0, 0, none⟩ = some (.int .i64 m)) :
    Calls Tryd.prog 6 #[.string s, .string ⟨#[c]⟩, .string ⟨#[d]⟩] w fun e w' => e = .returned (.string (repS c d s)) ∧ Below w.heap.size w w' :=
  (Tryd.strings_ReplaceAll s ⟨#[c]⟩ ⟨#[d]⟩ m w (by omega) hm (Nat.le_refl _) (by
    have h1 := Lib.countB_le ⟨#[c]⟩ (Nat.le_refl _) s.size s (Nat.le_refl _)
    have h2 : (⟨#[d]⟩ : ByteArray).size = 1 := rfl
    rw [h2]; omega)).mono fun e w' ⟨he, hb⟩ => ⟨by
      rw [he]
      have e1 : Lib.replaceAll s.data.toList [c] [d] = (bl s).map (swp c d) := replaceAll_one c d h _
      exact congrArg (fun l : List UInt8 => Ending.returned (.string ⟨l.toArray⟩)) e1, hb⟩
theorem rep_lit (s : ByteArray) : GlobPlain.Lit (bl (repS 63 121 (repS 42 120 s))) := by
  intro a ha
  rw [bl_rep, bl_rep, List.map_map, List.mem_map] at ha
  obtain ⟨b, _, rfl⟩ := ha
  simp only [Function.comp_def, swp]
  by_cases h1 : b = 42
  · subst h1; decide
  · by_cases h2 : b = 63
    · subst h2; decide
    · simp only [if_neg h1, if_neg h2]; exact ⟨h1, h2⟩
theorem bl_append' (p q : ByteArray) : bl (p ++ q) = bl p ++ bl q := by simp [bl]

set_option maxHeartbeats 2000000 in
set_option maxRecDepth 100000 in
theorem fronted_walk (p s more : ByteArray) (behind : Bool) (w : World) (hp : p.size ≤ 1048576) (hs : s.size ≤ 1048576) (hr : more.size ≤ 1048576) (hm : ∃ m, w.cell? ⟨0, 0, none⟩ = some (.int .i64 m)) :
    Calls Tryd.prog 3 #[.string p, .string s, .string more, .bool behind] w fun e w' => e = .returned (.bool true) ∧ Below w.heap.size w w' := by
  obtain ⟨m, hm⟩ := hm
  have HM := Aside0.mk hm
  have h0 : 0 < w.heap.size := World.block_lt_of_cell? w _ hm
  clear hm
  go_enter Tryd.func3, Tryd.ntmps3
  go_wp2_with fail
  refine (rep_calls 42 120 (by decide) more m _ hr HM.out).mono ?_
  rintro e w1 ⟨rfl, hb1⟩
  have HM1 := Aside0.mk ((hb1.cell (p := ⟨0, 0, none⟩) h0).trans HM.out)
  have HB1 := Aside0.mk hb1
  clear hb1
  go_wp2_with fail
  refine (rep_calls 63 121 (by decide) (repS 42 120 more) m _ (by rw [repS_size]; exact hr) HM1.out).mono ?_
  rintro e w2 ⟨rfl, hb2⟩
  have HB2 := Aside0.mk (below_then HB1.out HB1.out.size hb2)
  have HL := Aside0.mk (rep_lit more)
  have hsz : (repS 63 121 (repS 42 120 more)).size ≤ 1048576 := by rw [repS_size, repS_size]; exact hr
  clear hb2
  generalize repS 63 121 (repS 42 120 more) = q at *
  cases behind with
  | true =>
    go_wp2_with fail
    refine (wmatch_calls p s _ _ _ (fun _ _ _ _ => mB_congr ?_)).mono ?_
    · rw [bl_append', bl_append']; exact GlobPlain.behind (bl q) (bl p) (bl s) HL.out
    rintro e w3 ⟨rfl, hb3⟩
    have HB3 := Aside0.mk (below_then HB2.out HB2.out.size hb3)
    clear hb3
    go_wp2
    go_ret
    exact ⟨rfl, HB3.out⟩
  | false =>
    go_wp2_with fail
    refine (wmatch_calls p s _ _ _ (fun _ _ _ _ => mB_congr ?_)).mono ?_
    · rw [bl_append', bl_append']; exact GlobPlain.fronted (bl q) (bl p) (bl s) HL.out
    rintro e w3 ⟨rfl, hb3⟩
    have HB3 := Aside0.mk (below_then HB2.out HB2.out.size hb3)
    clear hb3
    go_wp2
    go_ret
    exact ⟨rfl, HB3.out⟩

end Go.Proofs.YtkmoeeaaolpdnaaDoor
