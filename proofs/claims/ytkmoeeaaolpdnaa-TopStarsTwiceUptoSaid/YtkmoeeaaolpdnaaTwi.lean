/-
  The walk of TopStarsTwice: it returns true. Condition: the pattern has at most 1048576 bytes.
-/
import Derived.Test.YtkmoeeaaolpdnaaOne
import Derived.Test.YtkmoeeaaolpdnaaWid
namespace Go.Proofs.Ytkmoeeaaolpdnaa
open Go.RowKit Go.Proofs.YtkmoeeaaolpdnaaW.PrintWords GlobPlain

theorem twice_gm (p : ByteArray) (k : Nat) (h : k < p.size) (h2 : p[k] = 42) (t : List UInt8) : GM (bl p) t ↔ GM (bl (p.extract 0 k ++ ⟨#[42]⟩ ++ p.extract k p.size)) t := by
  rw [bl_wide, bl_star]
  have hl : k < (bl p).length := by rw [bl_length]; exact h
  have e : (bl p).drop k = [42] ++ (bl p).drop (k + 1) := by
    rw [List.drop_eq_getElem_cons hl, show (bl p)[k] = p[k] from rfl, h2]; rfl
  have hp : bl p = (bl p).take k ++ [42] ++ (bl p).drop (k + 1) := by
    rw [List.append_assoc, ← e, List.take_append_drop]
  rw [e]
  conv => lhs; rw [hp]
  have := stars_twice ((bl p).take k) ((bl p).drop (k + 1)) t
  simpa using this

set_option maxHeartbeats 2000000 in
set_option maxRecDepth 100000 in
theorem twice_walk (p s : ByteArray) (which : Int) (w : World) (hp : p.size ≤ 1048576) (_ : s.size ≤ 1048576) (_ : (Lit.int .i64 which).wf = true) :
    Calls Try.prog 9 #[.string p, .string s, .int .i64 which] w fun e w' => e = .returned (.bool true) ∧ Below w.heap.size w w' := by
  go_enter Try.func9, Try.ntmps9
  go_wp2_with fail
  refine (one_calls p 42 which w hp).mono ?_
  rintro e w1 ⟨ha, hb1⟩
  have HB := Aside0.mk hb1
  clear hb1
  rcases ha with ⟨k, hk, hx, rfl⟩ | ⟨hn, rfl⟩
  · have HX := Aside0.mk hx
    clear hx
    go_wp2
    go_quiet (fail)
    go_wp2_with fail
    refine (wmatch_calls p s _ s _ (fun _ _ _ _ => mB_congr ?_)).mono ?_
    · exact twice_gm p k hk HX.out _
    rintro e w3 ⟨rfl, hb3⟩
    have HB3 := Aside0.mk (below_then (pw_below_drewN HB.out nq) (pw_below_drewN HB.out nq).size hb3)
    clear hb3
    go_wp2
    go_ret
    exact ⟨rfl, HB3.out⟩
  · clear hn
    go_wp2_with fail
    refine (wmatch_calls p s p s _ (fun _ _ _ _ => rfl)).mono ?_
    rintro e w3 ⟨rfl, hb3⟩
    have HB3 := Aside0.mk (below_then HB.out HB.out.size hb3)
    clear hb3
    go_wp2
    go_ret
    exact ⟨rfl, HB3.out⟩

end Go.Proofs.Ytkmoeeaaolpdnaa
