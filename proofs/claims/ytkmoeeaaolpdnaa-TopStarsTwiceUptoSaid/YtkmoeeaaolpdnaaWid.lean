/-
  The walk of TopGlobsWider: it returns true for all strings and numbers. No condition.
-/
import Derived.Test.YtkmoeeaaolpdnaaPick
import Derived.RegionTactic
import Derived.BigRegion
import Derived.Deep.RegionWith
namespace Go.Proofs.Ytkmoeeaaolpdnaa
open Go.RowKit Go.Proofs.YtkmoeeaaolpdnaaW.PrintWords GlobPlain

theorem bl_extract (p : ByteArray) (a b : Nat) : bl (p.extract a b) = ((bl p).take b).drop a := by
  unfold bl
  rw [ByteArray.data_extract, Array.toList_extract, List.extract_eq_take_drop, List.drop_take]
theorem bl_append (p q : ByteArray) : bl (p ++ q) = bl p ++ bl q := by simp [bl]
theorem bl_star : bl ⟨#[42]⟩ = [42] := rfl
theorem bl_mark : bl ⟨#[63]⟩ = [63] := rfl
theorem bl_cut (p : ByteArray) (k j : Nat) (m : ByteArray) : bl (p.extract 0 k ++ m ++ p.extract j p.size) = (bl p).take k ++ bl m ++ (bl p).drop j := by
  rw [bl_append, bl_append, bl_extract, bl_extract, List.drop_zero, show p.size = (bl p).length from (bl_length p).symm, List.take_length]
theorem split_at (p : ByteArray) (k : Nat) (h : k < p.size) : bl p = (bl p).take k ++ [p[k]] ++ (bl p).drop (k + 1) := by
  have hl : k < (bl p).length := by rw [bl_length]; exact h
  have e : (bl p)[k] = p[k] := rfl
  rw [← e, List.append_assoc, List.singleton_append, List.getElem_cons_drop, List.take_append_drop]
theorem bl_wide (p : ByteArray) (k : Nat) (m : ByteArray) : bl (p.extract 0 k ++ m ++ p.extract k p.size) = (bl p).take k ++ bl m ++ (bl p).drop k := by
  rw [bl_append, bl_append, bl_extract, bl_extract, List.drop_zero, show p.size = (bl p).length from (bl_length p).symm, List.take_length]

set_option maxHeartbeats 2000000 in
set_option maxRecDepth 100000 in
theorem wider_calls (p s : ByteArray) (at_ how : Int) (w : World) :
    Calls Try.prog 4 #[.string p, .string s, .int .i64 at_, .int .i64 how] w fun e w' => e = .returned (.bool true) ∧ Below w.heap.size w w' := by
  go_enter Try.func4, Try.ntmps4
  go_wp2_with fail
  refine (globs_calls w).mono ?_
  rintro e w1 ⟨rfl, hb1⟩
  have HB := Aside0.mk hb1
  clear hb1
  go_wp2_with fail
  refine (match_any p s _).mono ?_
  rintro e w2 ⟨b1, c1, i1, rfl, ha1, hb2⟩
  have HB2 := Aside0.mk (below_then HB.out HB.out.size hb2)
  clear hb2
  rcases ha1 with ⟨rfl, h1, h2, g1⟩ | ⟨rfl, h1, h2⟩
  · have G1 := Aside0.mk g1
    clear g1
    cases b1 with
    | false =>
      clear G1
      go_wp2
      go_ret
      exact ⟨rfl, HB2.out.alloc HB2.out.size _⟩
    | true =>
      go_wp2_with fail
      refine (pick_calls at_ (p.size + 1) _ (by omega) (by omega)).mono ?_
      rintro e w3 ⟨⟨k, hk, rfl⟩, rfl⟩
      have hk2 : k ≤ p.size := by omega
      clear hk
      by_cases hlt : k < p.size
      · have e42 := eq42 p k hlt
        have HP3 : ∀ W, Calls Try.prog 10 #[.int .i64 how, .int .i64 3] W fun e w' => (∃ r : Nat, r < 3 ∧ e = .returned (.int .i64 r)) ∧ W = w' := fun W => pick_calls how 3 W (by omega) (by omega)
        have AP3 := Aside0.mk HP3
        clear HP3
        have AE := Aside0.mk e42
        clear e42
        go_wp2_with fail
        go_quiet (fail)
        go_wp2_with fail
        refine (AP3.out _).mono ?_
        rintro e w3 ⟨⟨r3, hr3, rfl⟩, rfl⟩
        have HT := Aside0.mk ((Two.new w2 (.int .i64 0) (.int .i64 i1)).below (pw_below_drewN (Below.refl _ _) nq))
        have HBW := Aside0.mk (pw_below_drewN (HB2.out.alloc HB2.out.size (.cells #[.int .i64 0, .int .i64 i1] 28)) nq)
        by_cases hr0 : 0 < r3
        · cases h42 : (p[k] == 42) with
          | true =>
            have he := AE.out
            rw [h42] at he
            have he2 : (((p[k].toNat : Int)) != 42) = false := by rw [bne, he]; rfl
            clear h42 AE
            go_wp2_with fail
            refine (match_any _ s _).mono ?_
            rintro e w4 ⟨b4, c4, i4, rfl, ha4, hb4⟩
            have T := HT.out.below hb4
            obtain ⟨⟨hc0, hc1⟩, hf0, hf1⟩ := T.cells
            have HB4 := Aside0.mk (below_then HBW.out HBW.out.size hb4)
            have hz := HB2.out.size
            have E4 : Aside0 (c4 = 0 → b4 = true) := ⟨by
              rcases ha4 with ⟨rfl, _, _, rfl⟩ | ⟨rfl, _, _⟩
              · intro _; exact mB_true (by have := wider_star ((bl p).take k) ((bl p).drop k) (bl s) (by rw [List.take_append_drop]; exact mB_gm G1.out.symm); rw [bl_wide, bl_star]; exact this)
              · intro h; cases h⟩
            have hk4 : c4 = 0 ∨ c4 = 2 := ha4.imp (fun h => h.1) (fun h => h.1)
            clear ha4 hb4 T HT HBW
            rcases hk4 with rfl | rfl
            · obtain rfl := E4.out rfl
              clear E4
              go_wp2
              go_ret
              exact ⟨rfl, Two.upper HB4.out hz⟩
            · clear E4
              go_wp2
              go_ret
              exact ⟨rfl, Two.upper HB4.out hz⟩
          | false =>
            have he := AE.out
            rw [h42] at he
            have he2 : (((p[k].toNat : Int)) != 42) = true := by rw [bne, he]; rfl
            have H42 := Aside0.mk h42
            clear h42 AE
            go_wp2_with fail
            have GS := Aside0.mk (split_at p k hlt)
            rcases pick_two how with h | h
            · skip
              have AP2 := Aside0.mk h
              clear h
              have f1 : IntKind.i64.wrap ((k : Int) + 1) = (k : Int) + 1 := IntWalk.i64_in _ (by omega)
              have f2 : (0 : Int) ≤ (k : Int) + 1 := by omega
              have f3 : ((k : Int) + 1).toNat = k + 1 := by omega
              have f4 : (k : Int) + 1 ≤ (p.size : Int) := by omega
              have f5 : k + 1 ≤ p.size := by omega
              go_region_with (first | (go_at_call 10; refine (AP2.out _).mono ?_; rintro e w3 ⟨rfl, rfl⟩) | fail)
              all_goals
                clear f1 f2 f3 f4 f5
                have HT2 := Aside0.mk (((Two.new w2 (.int .i64 0) (.int .i64 i1)).below (pw_below_drewN (Below.refl _ _) (nq + 1))).alloc (.cells #[.string ⟨#[63]⟩, .string ⟨#[42]⟩] 9))
                have HBW2 := Aside0.mk ((pw_below_drewN (HB2.out.alloc HB2.out.size (.cells #[.int .i64 0, .int .i64 i1] 28)) (nq + 1)).alloc (pw_below_drewN (HB2.out.alloc HB2.out.size _) (nq + 1)).size (.cells #[.string ⟨#[63]⟩, .string ⟨#[42]⟩] 9))
                clear HT HBW AP2 AP3
                have HT := HT2
                have HBW := HBW2
                clear HT2 HBW2
                go_wp2_with fail
                refine (match_any _ s _).mono ?_
                rintro e w4 ⟨b4, c4, i4, rfl, ha4, hb4⟩
                have T := HT.out.below hb4
                obtain ⟨⟨hc0, hc1⟩, hf0, hf1⟩ := T.cells
                have HB4 := Aside0.mk (below_then HBW.out HBW.out.size hb4)
                have hz := HB2.out.size
                have E4 : Aside0 (c4 = 0 → b4 = true) := ⟨by
                  rcases ha4 with ⟨rfl, _, _, rfl⟩ | ⟨rfl, _, _⟩
                  · intro _; exact mB_true (by have := wider_one _ (beq_eq_false_iff_ne.1 H42.out) ((bl p).take k) ((bl p).drop (k + 1)) (bl s) (GS.out ▸ mB_gm G1.out.symm); rw [bl_cut, bl_mark]; exact this)
                  · intro h; cases h⟩
                have hk4 : c4 = 0 ∨ c4 = 2 := ha4.imp (fun h => h.1) (fun h => h.1)
                clear ha4 hb4 T HT HBW
                rcases hk4 with rfl | rfl
                · obtain rfl := E4.out rfl
                  clear E4
                  go_wp2
                  go_ret
                  exact ⟨rfl, Two.upper HB4.out hz⟩
                · clear E4
                  go_wp2
                  go_ret
                  exact ⟨rfl, Two.upper HB4.out hz⟩
            · skip
              have AP2 := Aside0.mk h
              clear h
              have f1 : IntKind.i64.wrap ((k : Int) + 1) = (k : Int) + 1 := IntWalk.i64_in _ (by omega)
              have f2 : (0 : Int) ≤ (k : Int) + 1 := by omega
              have f3 : ((k : Int) + 1).toNat = k + 1 := by omega
              have f4 : (k : Int) + 1 ≤ (p.size : Int) := by omega
              have f5 : k + 1 ≤ p.size := by omega
              go_region_with (first | (go_at_call 10; refine (AP2.out _).mono ?_; rintro e w3 ⟨rfl, rfl⟩) | fail)
              all_goals
                clear f1 f2 f3 f4 f5
                have HT2 := Aside0.mk (((Two.new w2 (.int .i64 0) (.int .i64 i1)).below (pw_below_drewN (Below.refl _ _) (nq + 1))).alloc (.cells #[.string ⟨#[63]⟩, .string ⟨#[42]⟩] 9))
                have HBW2 := Aside0.mk ((pw_below_drewN (HB2.out.alloc HB2.out.size (.cells #[.int .i64 0, .int .i64 i1] 28)) (nq + 1)).alloc (pw_below_drewN (HB2.out.alloc HB2.out.size _) (nq + 1)).size (.cells #[.string ⟨#[63]⟩, .string ⟨#[42]⟩] 9))
                clear HT HBW AP2 AP3
                have HT := HT2
                have HBW := HBW2
                clear HT2 HBW2
                go_wp2_with fail
                refine (match_any _ s _).mono ?_
                rintro e w4 ⟨b4, c4, i4, rfl, ha4, hb4⟩
                have T := HT.out.below hb4
                obtain ⟨⟨hc0, hc1⟩, hf0, hf1⟩ := T.cells
                have HB4 := Aside0.mk (below_then HBW.out HBW.out.size hb4)
                have hz := HB2.out.size
                have E4 : Aside0 (c4 = 0 → b4 = true) := ⟨by
                  rcases ha4 with ⟨rfl, _, _, rfl⟩ | ⟨rfl, _, _⟩
                  · intro _; exact mB_true (by have := wider_any _ ((bl p).take k) ((bl p).drop (k + 1)) (bl s) (GS.out ▸ mB_gm G1.out.symm); rw [bl_cut, bl_star]; exact this)
                  · intro h; cases h⟩
                have hk4 : c4 = 0 ∨ c4 = 2 := ha4.imp (fun h => h.1) (fun h => h.1)
                clear ha4 hb4 T HT HBW
                rcases hk4 with rfl | rfl
                · obtain rfl := E4.out rfl
                  clear E4
                  go_wp2
                  go_ret
                  exact ⟨rfl, Two.upper HB4.out hz⟩
                · clear E4
                  go_wp2
                  go_ret
                  exact ⟨rfl, Two.upper HB4.out hz⟩
        · clear AE
          go_wp2_with fail
          refine (match_any _ s _).mono ?_
          rintro e w4 ⟨b4, c4, i4, rfl, ha4, hb4⟩
          have T := HT.out.below hb4
          obtain ⟨⟨hc0, hc1⟩, hf0, hf1⟩ := T.cells
          have HB4 := Aside0.mk (below_then HBW.out HBW.out.size hb4)
          have hz := HB2.out.size
          have E4 : Aside0 (c4 = 0 → b4 = true) := ⟨by
            rcases ha4 with ⟨rfl, _, _, rfl⟩ | ⟨rfl, _, _⟩
            · intro _; exact mB_true (by have := wider_star ((bl p).take k) ((bl p).drop k) (bl s) (by rw [List.take_append_drop]; exact mB_gm G1.out.symm); rw [bl_wide, bl_star]; exact this)
            · intro h; cases h⟩
          have hk4 : c4 = 0 ∨ c4 = 2 := ha4.imp (fun h => h.1) (fun h => h.1)
          clear ha4 hb4 T HT HBW
          rcases hk4 with rfl | rfl
          · obtain rfl := E4.out rfl
            clear E4
            go_wp2
            go_ret
            exact ⟨rfl, Two.upper HB4.out hz⟩
          · clear E4
            go_wp2
            go_ret
            exact ⟨rfl, Two.upper HB4.out hz⟩
      · go_wp2_with fail
        go_quiet (fail)
        have HT := Aside0.mk ((Two.new w2 (.int .i64 0) (.int .i64 i1)).below (pw_below_drewN (Below.refl _ _) nq))
        have HBW := Aside0.mk (pw_below_drewN (HB2.out.alloc HB2.out.size (.cells #[.int .i64 0, .int .i64 i1] 28)) nq)
        go_wp2_with fail
        refine (match_any _ s _).mono ?_
        rintro e w4 ⟨b4, c4, i4, rfl, ha4, hb4⟩
        have T := HT.out.below hb4
        obtain ⟨⟨hc0, hc1⟩, hf0, hf1⟩ := T.cells
        have HB4 := Aside0.mk (below_then HBW.out HBW.out.size hb4)
        have hz := HB2.out.size
        have E4 : Aside0 (c4 = 0 → b4 = true) := ⟨by
          rcases ha4 with ⟨rfl, _, _, rfl⟩ | ⟨rfl, _, _⟩
          · intro _; exact mB_true (by have := wider_star ((bl p).take k) ((bl p).drop k) (bl s) (by rw [List.take_append_drop]; exact mB_gm G1.out.symm); rw [bl_wide, bl_star]; exact this)
          · intro h; cases h⟩
        have hk4 : c4 = 0 ∨ c4 = 2 := ha4.imp (fun h => h.1) (fun h => h.1)
        clear ha4 hb4 T HT HBW
        rcases hk4 with rfl | rfl
        · obtain rfl := E4.out rfl
          clear E4
          go_wp2
          go_ret
          exact ⟨rfl, Two.upper HB4.out hz⟩
        · clear E4
          go_wp2
          go_ret
          exact ⟨rfl, Two.upper HB4.out hz⟩
  · clear h2
    go_wp2
    go_ret
    exact ⟨rfl, HB2.out.alloc HB2.out.size _⟩

theorem wider_walk (p s : ByteArray) (at_ how : Int) (w : World) (_ : p.size ≤ 140737488351232) (_ : s.size ≤ 140737488351232) (_ : (Lit.int .i64 at_).wf = true) (_ : (Lit.int .i64 how).wf = true) :
    Calls Try.prog 4 #[.string p, .string s, .int .i64 at_, .int .i64 how] w fun e w' => e = .returned (.bool true) ∧ Below w.heap.size w w' := wider_calls p s at_ how w

end Go.Proofs.Ytkmoeeaaolpdnaa
