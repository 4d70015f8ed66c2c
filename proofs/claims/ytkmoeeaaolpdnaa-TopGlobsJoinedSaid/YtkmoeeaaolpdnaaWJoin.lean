/-
  The walk of TopGlobsJoined: it returns true for all five strings. Condition: the fifth has at most 2^47 bytes.
-/
import Derived.Test.YtkmoeeaaolpdnaaMch
namespace Go.Proofs.Ytkmoeeaaolpdnaa
open Go.RowKit Go.Proofs.YtkmoeeaaolpdnaaW.PrintWords GlobPlain

set_option maxHeartbeats 2000000 in
set_option maxRecDepth 100000 in
theorem joined_calls (p s q t m : ByteArray) (w : World) (hm : m.size ≤ 140737488355328) :
    Calls Try.prog 7 #[.string p, .string s, .string q, .string t, .string m] w fun e w' => e = .returned (.bool true) ∧ Below w.heap.size w w' := by
  go_enter Try.func7, Try.ntmps7
  go_wp2_with fail
  refine (globs_calls w).mono ?_
  rintro e w1 ⟨rfl, hb1⟩
  have HB := Aside0.mk hb1
  clear hb1
  go_wp2_with fail
  refine (match_any p s _).mono ?_
  rintro e w2 ⟨b1, c1, i1, rfl, ha1, hb2⟩
  have HB2 := Aside0.mk (below_then HB.out HB.out.size hb2)
  clear hb2
  have HA1 := Aside0.mk ha1
  clear ha1
  go_wp2_with fail
  refine (match_any q t _).mono ?_
  rintro e w3 ⟨b2, c2, i2, rfl, ha2, hb3⟩
  have T1 := (Two.new w2 (.int .i64 c1) (.int .i64 i1)).below hb3
  obtain ⟨⟨hc0, hc1⟩, hf0, hf1⟩ := T1.cells
  have hz := T1.lt
  have AT1 := Aside0.mk T1
  clear T1
  have HB3 := Aside0.mk (below_then (HB2.out.alloc HB2.out.size _) (by have := HB2.out.size; simp; omega) hb3)
  clear hb3
  rcases HA1.out with ⟨rfl, h1, h2, g1⟩ | ⟨rfl, h1, h2⟩
  · rcases ha2 with ⟨rfl, h3, h4, g2⟩ | ⟨rfl, h3, h4⟩
    · have G1 := Aside0.mk g1
      have G2 := Aside0.mk g2
      clear g1 g2 HA1
      cases b1 with
      | false =>
        clear G1 G2
        go_wp2
        go_ret
        exact ⟨rfl, HB3.out.alloc HB3.out.size _⟩
      | true =>
        cases b2 with
        | false =>
          clear G1 G2
          go_wp2
          go_ret
          exact ⟨rfl, HB3.out.alloc HB3.out.size _⟩
        | true =>
          have HT1 := Aside0.mk (AT1.out.alloc (.cells #[.int .i64 0, .int .i64 i2] 28))
          have HT2 := Aside0.mk (Two.new w3 (.int .i64 0) (.int .i64 i2))
          have HG := Aside0.mk (show w2.heap.size ≠ w3.heap.size by omega)
          have HB4 := Aside0.mk (HB3.out.alloc HB3.out.size (.cells #[.int .i64 0, .int .i64 i2] 28))
          go_wp2_with fail
          refine (match_any (p ++ q) (s ++ t) _).mono ?_
          rintro e w4 ⟨b3, c3, i3, rfl, ha3, hb4⟩
          have HA3 := Aside0.mk ha3
          clear ha3 hc0 hc1 hf0 hf1 hz
          have T3 := HT1.out.below hb4
          have T4 := HT2.out.below hb4
          obtain ⟨⟨hc0, hc1⟩, hf0, hf1⟩ := T3.cells
          have AT3 := Aside0.mk T3
          have AT4 := Aside0.mk T4
          have HB5 := Aside0.mk (below_then HB4.out HB4.out.size hb4)
          clear T3 T4 hb4
          go_wp2_with fail
          refine (match_any (p ++ ⟨#[42]⟩ ++ q) (s ++ m ++ t) _).mono ?_
          rintro e w5 ⟨b4, c4, i4, rfl, ha4, hb5⟩
          have HA4 := Aside0.mk ha4
          clear ha4 hc0 hc1 hf0 hf1
          have T5 := (AT3.out.set (.int .i64 c3) (.int .i64 i3)).below hb5
          have T6 := (AT4.out.other (Ne.symm HG.out) (.int .i64 c3) (.int .i64 i3)).below hb5
          obtain ⟨⟨hc0, hc1⟩, hf0, hf1⟩ := T5.cells
          obtain ⟨⟨hd0, hd1⟩, hg0, hg1⟩ := T6.cells
          have hne := HG.out
          have hz : w.heap.size ≤ w2.heap.size := HB2.out.size
          have hz3 : w.heap.size ≤ w3.heap.size := HB3.out.size
          have HB6 := Aside0.mk (below_then (Two.upper HB5.out hz (x := .int .i64 c3) (y := .int .i64 i3)) (by have := HB5.out.size; simpa [World.setCell] using this) hb5)
          clear T5 T6 hb5
          have e1 : mB p s = true := G1.out.symm
          have e2 : mB q t = true := G2.out.symm
          have E3 : Aside0 (c3 = 0 → b3 = true) := ⟨by
            rcases HA3.out with ⟨rfl, _, _, rfl⟩ | ⟨rfl, _, _⟩
            · intro _
              refine mB_true ?_
              have := joined (mB_gm e1) (mB_gm e2)
              simpa [bl] using this
            · intro h; cases h⟩
          have E4 : Aside0 (c4 = 0 → b4 = true) := ⟨by
            rcases HA4.out with ⟨rfl, _, _, rfl⟩ | ⟨rfl, _, _⟩
            · intro _
              refine mB_true ?_
              have := joined_star (bl m) (mB_gm e1) (mB_gm e2)
              simpa [bl] using this
            · intro h; cases h⟩
          have hk3 : c3 = 0 ∨ c3 = 2 := by
            rcases HA3.out with ⟨h, _⟩ | ⟨h, _⟩
            · exact Or.inl h
            · exact Or.inr h
          have hk4 : c4 = 0 ∨ c4 = 2 := by
            rcases HA4.out with ⟨h, _⟩ | ⟨h, _⟩
            · exact Or.inl h
            · exact Or.inr h
          clear HA3 HA4 e1 e2
          rcases hk3 with rfl | rfl <;> rcases hk4 with rfl | rfl
          · obtain rfl := E3.out rfl
            obtain rfl := E4.out rfl
            go_wp2
            go_ret
            exact ⟨rfl, Two.upper HB6.out hz3⟩
          · obtain rfl := E3.out rfl
            go_wp2
            go_ret
            exact ⟨rfl, Two.upper HB6.out hz3⟩
          · obtain rfl := E4.out rfl
            go_wp2
            go_ret
            exact ⟨rfl, Two.upper HB6.out hz3⟩
          · go_wp2
            go_ret
            exact ⟨rfl, Two.upper HB6.out hz3⟩
    · clear HA1 h2 h4 g1
      go_wp2
      go_ret
      exact ⟨rfl, HB3.out.alloc HB3.out.size _⟩
  · clear HA1 h2 ha2
    go_wp2
    go_ret
    exact ⟨rfl, HB3.out.alloc HB3.out.size _⟩

theorem joined_walk (p s q t m : ByteArray) (w : World) (_ : p.size ≤ 140737488351232) (_ : s.size ≤ 140737488351232) (_ : q.size ≤ 140737488351232) (_ : t.size ≤ 140737488351232) (hm : m.size ≤ 140737488351232) :
    Calls Try.prog 7 #[.string p, .string s, .string q, .string t, .string m] w fun e w' => e = .returned (.bool true) ∧ Below w.heap.size w w' := joined_calls p s q t m w (by omega)

end Go.Proofs.Ytkmoeeaaolpdnaa
