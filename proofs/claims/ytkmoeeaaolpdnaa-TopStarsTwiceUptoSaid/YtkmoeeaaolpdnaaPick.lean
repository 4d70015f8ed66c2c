/-
  The walk of wPick: one of n, by any number. Condition: n is at least 1 and at most 2^62.
-/
import Derived.Test.YtkmoeeaaolpdnaaMch
import Derived.IntWalk
namespace Go.Proofs.Ytkmoeeaaolpdnaa
open Go.RowKit Go.Proofs.YtkmoeeaaolpdnaaW.PrintWords GlobPlain

theorem u64_nonneg (x : Int) : 0 ≤ IntKind.u64.wrap x := by rw [IntKind.wrap_u64]; omega
/-- which of n -/
def pickV (x : Int) (n : Nat) : Nat := (IntKind.u64.wrap x).toNat % n
theorem pickV_lt (x : Int) (n : Nat) (h : 0 < n) : pickV x n < n := Nat.mod_lt _ h

set_option maxHeartbeats 1000000 in
set_option maxRecDepth 100000 in
theorem pick_val (x : Int) (n : Nat) (w : World) (h0 : 0 < n) (h1 : n ≤ 4611686018427387904) :
    Calls Try.prog 10 #[.int .i64 x, .int .i64 (n : Int)] w fun e w' => e = .returned (.int .i64 (pickV x n : Int)) ∧ w = w' := by
  have hu := u64_nonneg x
  have HN := Aside0.mk (IntWalk.u64_in (n : Int) (by omega))
  have hz : ((IntKind.u64.wrap (n : Int)) == 0) = false := by rw [HN.out, beq_eq_false_iff_ne]; omega
  have hz2 : ¬ IntKind.u64.wrap (n : Int) = 0 := by rw [HN.out]; omega
  have HF : Aside0 (wrap64 (Int.tmod (IntKind.u64.wrap x) (IntKind.u64.wrap (n : Int))) = (pickV x n : Int)) := by
    refine ⟨?_⟩
    rw [HN.out]
    unfold pickV
    generalize IntKind.u64.wrap x = X at *
    obtain ⟨m, rfl⟩ := Int.eq_ofNat_of_zero_le hu
    have e : Int.tmod (m : Int) (n : Int) = ((m % n : Nat) : Int) := by rw [Int.tmod_eq_emod_of_nonneg (by omega)]; simp
    rw [e, Int.toNat_natCast]
    have := Nat.mod_lt m h0
    unfold wrap64; omega
  clear hu h0 h1
  go_enter Try.func10, Try.ntmps10
  go_wp2
  go_ret
  exact ⟨by rw [← HF.out]; rfl, rfl⟩

theorem pick_calls (x : Int) (n : Nat) (w : World) (h0 : 0 < n) (h1 : n ≤ 4611686018427387904) :
    Calls Try.prog 10 #[.int .i64 x, .int .i64 (n : Int)] w fun e w' => (∃ r : Nat, r < n ∧ e = .returned (.int .i64 r)) ∧ w = w' :=
  (pick_val x n w h0 h1).mono fun _ _ ⟨he, hw⟩ => ⟨⟨_, pickV_lt x n h0, he⟩, hw⟩
theorem pick_two (x : Int) : (∀ w, Calls Try.prog 10 #[.int .i64 x, .int .i64 2] w fun e w' => e = .returned (.int .i64 0) ∧ w = w') ∨ (∀ w, Calls Try.prog 10 #[.int .i64 x, .int .i64 2] w fun e w' => e = .returned (.int .i64 1) ∧ w = w') := by
  have h := pickV_lt x 2 (by omega)
  have hc : pickV x 2 = 0 ∨ pickV x 2 = 1 := by omega
  rcases hc with hc | hc
  · refine Or.inl fun w => (pick_val x 2 w (by omega) (by omega)).mono fun _ _ ⟨he, hw⟩ => ⟨?_, hw⟩
    rw [hc] at he; exact he
  · refine Or.inr fun w => (pick_val x 2 w (by omega) (by omega)).mono fun _ _ ⟨he, hw⟩ => ⟨?_, hw⟩
    rw [hc] at he; exact he

end Go.Proofs.Ytkmoeeaaolpdnaa
