/-
  The walk of TopStarsMoved: it returns true. Condition: the pattern has at most 1048576 bytes.
-/
import Derived.Test.YtkmoeeaaolpdnaaWid
import Derived.Test.YtkmoeeaaolpdnaaWMore
import Derived.Laws.Strings2
namespace Go.Proofs.Ytkmoeeaaolpdnaa
open Go.RowKit Go.Proofs.YtkmoeeaaolpdnaaW.PrintWords GlobPlain
open Go.Proofs.YtkmoeeaaolpdnaaW.PrintMore (max2_int max_two)
attribute [local go_sem] max2_int max_two

def pairB (p : ByteArray) (k : Nat) : Bool := ((p.extract k (k + 2)).toList == [42, 63]) || ((p.extract k (k + 2)).toList == [63, 42])
def pairsL (p : ByteArray) (n : Nat) : List Nat := (List.range n).filter (pairB p)
theorem pairsL_in (p : ByteArray) (k : Nat) (h : pairB p k = true) : pairsL p (k + 1) = pairsL p k ++ [k] := by simp [pairsL, List.range_succ, List.filter_append, h]
theorem pairsL_out (p : ByteArray) (k : Nat) (h : pairB p k = false) : pairsL p (k + 1) = pairsL p k := by simp [pairsL, List.range_succ, List.filter_append, h]
theorem pairsL_le (p : ByteArray) (k : Nat) : (pairsL p k).length ≤ k := by
  have := List.length_filter_le (pairB p) (List.range k); simpa [pairsL] using this

theorem move_gm (p : ByteArray) (x : Nat) (h : pairB p x = true) (t : List UInt8) :
    GM (bl p) t ↔ GM (bl (p.extract 0 x ++ p.extract (x + 1) (x + 2) ++ p.extract x (x + 1) ++ p.extract (x + 2) p.size)) t := by
  have e0 : bl (p.extract 0 x) = (bl p).take x := by rw [bl_extract, List.drop_zero]
  have e1 : bl (p.extract (x + 1) (x + 2)) = (((bl p).drop x).take 2).drop 1 := by
    rw [bl_extract, List.drop_take, List.drop_take, List.drop_drop, show x + 2 - (x + 1) = 2 - 1 from by omega]
  have e2 : bl (p.extract x (x + 1)) = (((bl p).drop x).take 2).take 1 := by
    rw [bl_extract, List.drop_take, List.take_take, show x + 1 - x = min 1 2 from by omega]
  have e3 : bl (p.extract (x + 2) p.size) = (bl p).drop (x + 2) := by
    rw [bl_extract, show p.size = (bl p).length from (bl_length p).symm, List.take_length]
  have e4 : (p.extract x (x + 2)).toList = ((bl p).drop x).take 2 := by
    rw [Go.ByteArray.toList_eq, show (p.extract x (x + 2)).data.toList = bl (p.extract x (x + 2)) from rfl, bl_extract, List.drop_take, show x + 2 - x = 2 from by omega]
  have hp : bl p = (bl p).take x ++ ((bl p).drop x).take 2 ++ (bl p).drop (x + 2) := by
    rw [List.append_assoc, ← List.drop_drop, List.take_append_drop, List.take_append_drop]
  rw [bl_append, bl_append, bl_append, e0, e1, e2, e3]
  unfold pairB at h
  rw [Bool.or_eq_true, beq_iff_eq, beq_iff_eq, e4] at h
  rcases h with h | h
  · rw [h] at hp ⊢
    conv => lhs; rw [hp]
    have := stars_moved ((bl p).take x) ((bl p).drop (x + 2)) t
    simpa using this
  · rw [h] at hp ⊢
    conv => lhs; rw [hp]
    have := (stars_moved ((bl p).take x) ((bl p).drop (x + 2)) t).symm
    simpa using this

theorem cut_lh (p : ByteArray) (i j : Nat) (hij : i ≤ j) (hj : j ≤ p.size) (W : World) : (Instr.slice 9 (.string p) (some (.int .i64 (i : Int))) (some (.int .i64 (j : Int))) none).run Try.prog W = .ok (.string (p.extract i j)) W := by
  have h := run_slice_string (P := Try.prog) W 9 p .i64 .i64 (i : Int) (j : Int) Try.underlying9 (by omega) (by omega) (by omega)
  simpa using h

set_option maxHeartbeats 2000000 in
set_option maxRecDepth 100000 in
theorem moved_some_walk (p s : ByteArray) (which : Int) (w : World) (hp : p.size ≤ 1048576) (h0 : 2 ≤ p.size) :
    Calls Try.prog 3 #[.string p, .string s, .int .i64 which] w fun e w' => e = .returned (.bool true) ∧ Below w.heap.size w w' := by
  have hmx : (0 : Int) < (p.size : Int) - 1 := by omega
  go_enter Try.func3, Try.ntmps3
  go_wp2
  go_loopw [7, 15] (fun v i wr => ∃ k : Nat, k ≤ p.size - 1 ∧ i = .int .i64 k ∧ Aside0 (wr.ownsRow w.heap.size 3 1 v (pairsL p k).length (nums .i64 (ints (pairsL p k)))) ∧ Aside0 (Below w.heap.size w wr)) (fun _ i _ => p.size - (intOf i).toNat)
  case atStart => exact ⟨0, Nat.zero_le _, rfl, ⟨own_nil _ _ _ _⟩, ⟨Below.refl _ _⟩⟩
  case round =>
    obtain ⟨k, hk, rfl, HO, HB⟩ := hrel
    by_cases hlt : k < p.size - 1
    · have hk2 : k + 2 ≤ p.size := by omega
      have hsl : ∀ W : World, (Instr.slice 9 (.string p) (some (.int .i64 (k : Int))) (some (.int .i64 ((k : Int) + 2))) none).run Try.prog W = .ok (.string (p.extract k (k + 2))) W := cut_lh p k (k + 2) (by omega) hk2
      have g1 : (k : Int) < (p.size : Int) - 1 := by omega
      cases e1 : ((p.extract k (k + 2)).toList == [42, 63]) with
      | true =>
        have hpb : pairB p k = true := by unfold pairB; rw [e1]; rfl
        have HL := HO.out
        rw [← ints_length] at HL
        have HL' := Aside0.mk HL
        have HPI := Aside0.mk (pairsL_in p k hpb)
        clear HL hpb
        go_wp2_with (at_builtin; refine print_append_num (w0 := w) w.heap.size rfl _ _ 22 3 .i64 8 rfl Try.underlying22 info3 (by decide) u7 _ (k : Int) rfl rfl (HL'.out) (HB.out) (HB.out.size) (by rw [ints_length]; have := pairsL_le p k; omega) ?_; intro v1 w2 ho hB1 _ _; have HQ := Aside0.mk ho; have HB2 := Aside0.mk hB1; clear ho hB1)
        rw [ints_snoc, ← HPI.out, ints_length] at HQ
        go_roundw
        case rel => exact ⟨k + 1, by omega, by go_num, HQ, HB2⟩
        case measure => simp [intOf]; omega
      | false =>
        cases e2 : ((p.extract k (k + 2)).toList == [63, 42]) with
        | true =>
          have hpb : pairB p k = true := by unfold pairB; rw [e1, e2]; rfl
          have HL := HO.out
          rw [← ints_length] at HL
          have HL' := Aside0.mk HL
          have HPI := Aside0.mk (pairsL_in p k hpb)
          clear HL hpb
          go_wp2_with (at_builtin; refine print_append_num (w0 := w) w.heap.size rfl _ _ 22 3 .i64 8 rfl Try.underlying22 info3 (by decide) u7 _ (k : Int) rfl rfl (HL'.out) (HB.out) (HB.out.size) (by rw [ints_length]; have := pairsL_le p k; omega) ?_; intro v1 w2 ho hB1 _ _; have HQ := Aside0.mk ho; have HB2 := Aside0.mk hB1; clear ho hB1)
          rw [ints_snoc, ← HPI.out, ints_length] at HQ
          go_roundw
          case rel => exact ⟨k + 1, by omega, by go_num, HQ, HB2⟩
          case measure => simp [intOf]; omega
        | false =>
          have hpb : pairB p k = false := by unfold pairB; rw [e1, e2]; rfl
          have HQ := Aside0.mk HO.out
          rw [← pairsL_out p k hpb] at HQ
          clear hpb
          go_wp2
          go_roundw
          case rel => exact ⟨k + 1, by omega, by go_num, HQ, HB⟩
          case measure => simp [intOf]; omega
    · have hk1 : k = p.size - 1 := by omega
      have g1 : ¬ (k : Int) < (p.size : Int) - 1 := by omega
      clear hk1 hlt
      obtain ⟨A2, c2, rfl, hr2⟩ := own_reads HO.out
      have hlen := pairsL_le p k
      have HMem := Aside0.mk (fun x (hx : x ∈ pairsL p k) => show x < k ∧ pairB p x = true by simpa [pairsL] using hx)
      clear HO
      generalize pairsL p k = L at *
      by_cases h0L : L.length = 0
      · have hL : ¬ (0 : Int) < (L.length : Int) := by omega
        clear h0L hr2
        go_wp2_with fail
        refine (wmatch_calls p s p s _ (fun _ _ _ _ => rfl)).mono ?_
        rintro e w3 ⟨rfl, hb3⟩
        have HB3 := Aside0.mk (below_then HB.out HB.out.size hb3)
        clear hb3
        go_wp2
        go_ret
        exact ⟨rfl, HB3.out⟩
      · have hL : (0 : Int) < (L.length : Int) := by omega
        have hrl := pickV_lt which L.length (by omega)
        have hpk := pick_val which L.length wr (by omega) (by omega)
        generalize pickV which L.length = r at *
        obtain ⟨ad, rfl, hc⟩ := hr2.at_ (r : Int) (by omega) (by omega)
        rw [rd_ints L r hrl, Int.toNat_natCast] at hc
        obtain ⟨hx1, hx2⟩ := HMem.out _ (List.getElem_mem hrl)
        clear HMem hr2 h0L
        generalize L[r] = x at *
        have HP := Aside0.mk hpk
        have HX := Aside0.mk hx2
        have hx3 : x + 2 ≤ p.size := by omega
        clear hpk hx1 hx2
        have hs1 : ∀ W : World, (Instr.slice 9 (.string p) (some (.int .i64 ((x : Int) + 1))) (some (.int .i64 ((x : Int) + 2))) none).run Try.prog W = .ok (.string (p.extract (x + 1) (x + 2))) W := cut_lh p (x + 1) (x + 2) (by omega) hx3
        have hs2 : ∀ W : World, (Instr.slice 9 (.string p) (some (.int .i64 (x : Int))) (some (.int .i64 ((x : Int) + 1))) none).run Try.prog W = .ok (.string (p.extract x (x + 1))) W := cut_lh p x (x + 1) (by omega) (by omega)
        go_wp2_with fail
        refine HP.out.mono ?_
        rintro e w2 ⟨rfl, rfl⟩
        clear HP
        go_wp2
        have f1 : IntKind.i64.wrap ((x : Int) + 1) = (x : Int) + 1 := IntWalk.i64_in _ (by omega)
        have f2 : IntKind.i64.wrap ((x : Int) + 2) = (x : Int) + 2 := IntWalk.i64_in _ (by omega)
        have f3 : (0 : Int) ≤ (x : Int) + 2 := by omega
        have f4 : ((x : Int) + 2).toNat = x + 2 := by omega
        have f5 : (x : Int) + 2 ≤ (p.size : Int) := by omega
        have f6 : (x : Int) ≤ (p.size : Int) := by omega
        go_quiet (fail)
        clear f1 f2 f3 f4 f5 f6 hs1 hs2
        go_wp2_with fail
        refine (wmatch_calls p s _ s _ (fun _ _ _ _ => mB_congr ?_)).mono ?_
        · exact move_gm p x HX.out _
        rintro e w3 ⟨rfl, hb3⟩
        have HB3 := Aside0.mk (below_then (pw_below_drewN HB.out nq) (pw_below_drewN HB.out nq).size hb3)
        clear hb3
        go_wp2
        go_ret
        exact ⟨rfl, HB3.out⟩

set_option maxHeartbeats 2000000 in
set_option maxRecDepth 100000 in
theorem moved_none_walk (p s : ByteArray) (which : Int) (w : World) (h0 : p.size ≤ 1) :
    Calls Try.prog 3 #[.string p, .string s, .int .i64 which] w fun e w' => e = .returned (.bool true) ∧ Below w.heap.size w w' := by
  have hmx : ¬ (0 : Int) < (p.size : Int) - 1 := by omega
  go_enter Try.func3, Try.ntmps3
  go_wp2
  refine wp_loop_rounds 1 ?_
  rw [rounds_succ]
  go_wp2_with fail
  refine (wmatch_calls p s p s _ (fun _ _ _ _ => rfl)).mono ?_
  rintro e w3 ⟨rfl, hb3⟩
  have HB3 := Aside0.mk hb3
  clear hb3
  go_wp2
  go_ret
  exact ⟨rfl, HB3.out⟩

theorem moved_walk (p s : ByteArray) (which : Int) (w : World) (hp : p.size ≤ 1048576) (_ : s.size ≤ 1048576) (_ : (Lit.int .i64 which).wf = true) :
    Calls Try.prog 3 #[.string p, .string s, .int .i64 which] w fun e w' => e = .returned (.bool true) ∧ Below w.heap.size w w' := by
  by_cases h : p.size ≤ 1
  · exact moved_none_walk p s which w h
  · exact moved_some_walk p s which w hp (by omega)

end Go.Proofs.Ytkmoeeaaolpdnaa
