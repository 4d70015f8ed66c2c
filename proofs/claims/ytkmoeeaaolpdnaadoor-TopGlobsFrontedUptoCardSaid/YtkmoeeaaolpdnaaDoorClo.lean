/-
  The walk of glob.closure: the places of a pattern that are reached, with stars that match nothing.
  Condition: the pattern has at most 1000 bytes and each place of the argument lies in it.
-/
import Derived.Test.YtkmoeeaaolpdnaaDoorProg
import Derived.Test.YtkmoeeaaolpdnaaDoorWWords
import Derived.Test.YtkmoeeaaolpdnaaDoorPlain
import Derived.Below
import Derived.OwnWalk
import Derived.WalkKit
import Derived.KernelRfl
import Derived.Deep.LoopGhost
import Derived.BigQuiet
import Derived.Outline
namespace Go.Proofs.YtkmoeeaaolpdnaaDoor
open Go.RowKit Go.Proofs.YtkmoeeaaolpdnaaDoorW.PrintWords GlobPlain

theorem info3 : (Tryd.prog.info? 3).map (fun i => (i.zero, i.size, i.bytes)) = some (some (.int .i64 0), 1, 8) := by kernel_rfl
theorem info4 : (Tryd.prog.info? 4).map (fun i => (i.zero, i.size, i.bytes)) = some (some (.bool false), 1, 1) := by kernel_rfl

def ints (l : List Nat) : List Int := l.map fun (x : Nat) => (x : Int)
theorem ints_length (l : List Nat) : (ints l).length = l.length := by simp [ints]
theorem rd_ints (l : List Nat) (j : Nat) (h : j < l.length) : rd (ints l) (j : Int) = ((l[j] : Nat) : Int) := by
  simp [rd, ints, List.getD_eq_getElem?_getD, List.getElem?_map, List.getElem?_eq_getElem h]
theorem ints_snoc (l : List Nat) (x : Nat) : ints l ++ [(x : Int)] = ints (l ++ [x]) := by simp [ints]
def stB (P : ByteArray) (k : Nat) : Bool := bt P (k : Int) == 42

theorem stB_at (P : ByteArray) (k : Nat) (h : k < P.size) : (((P[k]'h).toNat : Int) == 42) = stB P k := by
  have := bt_at P (k : Int) (by simpa using h)
  simp only [Int.toNat_natCast] at this
  rw [stB, ← this]

/-- the row of marks, its own block; all that lay there stays -/
structure SeenAt (w wr : World) (n : Nat) (l : List Bool) : Prop where
  row : wr.ownsRow w.heap.size 4 1 (.slice (some ⟨w.heap.size, 0, none⟩) n n) n (encs Value.bool l)
  below : Below w.heap.size w wr
  size : w.heap.size < wr.heap.size

theorem SeenAt.grown {w wr w1 : World} {n m : Nat} {l : List Bool} {v : Value} {ys : List Value} (h : SeenAt w wr n l) (ho : wr.ownsRow w.heap.size 3 1 v m ys) (hg : wr.grownBy w1 v.ownBlock) : SeenAt w w1 n l :=
  ⟨own_other h.row hg (own_type_ne h.row ho (by decide)), h.below.grown hg (Nat.le_of_lt h.size) (own_base ho), Nat.lt_of_lt_of_le h.size hg.size⟩

/-- a row of numbers is another block than the marks: a mark leaves it -/
theorem SeenAt.other {w wr : World} {n m : Nat} {l : List Bool} {v : Value} {ys : List Value} (h : SeenAt w wr n l) (ho : wr.ownsRow w.heap.size 3 1 v m ys) (i : Nat) (u : Value) : (wr.setCell ⟨w.heap.size, i, none⟩ u).ownsRow w.heap.size 3 1 v m ys :=
  own_setCell ho (fun e => by
    rcases own_type_ne ho h.row (by decide) with h1 | h1
    · rw [← e] at h1; cases h1
    · exact h1 e.symm) u

theorem SeenAt.set {w wr : World} {n : Nat} {l : List Bool} (h : SeenAt w wr n l) (i : Nat) :
    SeenAt w (wr.setCell ⟨w.heap.size, i, none⟩ (.bool true)) n (l.set i true) := by
  have hs := own_store_of (enc := Value.bool) h.row (i : Int) true
  refine ⟨hs.1, h.below.setCell (p := ⟨w.heap.size, i, none⟩) (Nat.le_refl _) _, ?_⟩
  have := h.size
  simpa [World.setCell] using this

set_option maxHeartbeats 1000000 in
set_option maxRecDepth 100000 in
theorem closure_calls (P : ByteArray) (A : Option Addr) (c : Nat) (xs : List Nat) (w : World) (hP : P.size ≤ 1000) (hx : ∀ x ∈ xs, x ≤ P.size) (hr : ReadsInt w .i64 A xs.length (ints xs)) :
    Calls Tryd.prog 53 #[.string P, .slice A xs.length c] w fun e w' => ∃ v, e = .returned v ∧ w'.ownsRow w.heap.size 3 1 v (outB (stB P) xs (P.size + 1)).length (nums .i64 (ints (outB (stB P) xs (P.size + 1)))) ∧ Below w.heap.size w w' := by
  have hl := hr.2.1
  have hmk := print_make_of (P := Tryd.prog) 114 4 (.bool false) 1 Tryd.underlying114 info4 rfl (by decide) (P.size + 1) (by omega)
  rw [show ((P.size + 1 : Nat) : Int) = (P.size : Int) + 1 from by omega] at hmk
  have hmade : SeenAt w (w.alloc (.cells (madeCells #[.bool false] (P.size + 1)) 4)) (P.size + 1) (seenA (P.size + 1) xs 0) := by
    rw [seenA_zero]
    exact ⟨own_made_of (enc := Value.bool) (d := false) w w.heap.size 4 (P.size + 1) (Nat.le_refl _) (by omega), (Below.refl _ _).alloc (Nat.le_refl _) _, by simp⟩
  have HM := Aside0.mk hmade
  have HR := Aside0.mk hr
  have HX := Aside0.mk hx
  clear hmade hr hx
  go_enter Tryd.func53, Tryd.ntmps53
  go_wp2
  clear hmk
  go_loopw [17] (fun i wr => ∃ j : Nat, j ≤ xs.length ∧ i = .int .i64 j ∧ Aside0 (SeenAt w wr (P.size + 1) (seenA (P.size + 1) xs j))) (fun i _ => xs.length - (intOf i).toNat)
  case atStart => exact ⟨0, Nat.zero_le _, rfl, HM⟩
  case round =>
    clear HM
    obtain ⟨j, hj, rfl, HS⟩ := hrel
    by_cases hlt : j < xs.length
    · have hat : ∃ ad, A = some ad ∧ wr.cell? (ad.add j) = some (.int .i64 ((xs[j] : Nat) : Int)) := by
        have := (HR.out.below HS.out.below).at_ (j : Int) (by omega) (by omega)
        rw [rd_ints xs j hlt] at this
        simpa using this
      obtain ⟨ad, rfl, hc⟩ := hat
      have hxj := HX.out _ (List.getElem_mem hlt)
      have HS' := Aside0.mk (HS.out.set xs[j])
      rw [seenA_succ _ _ _ hlt] at HS'
      have hcf := own_at_of (d := false) (enc := Value.bool) HS.out.row (xs[j] : Int) (by omega) (by omega)
      rw [Int.toNat_natCast] at hcf
      generalize hX : xs[j] = X at *
      clear hX
      obtain ⟨hc1, hc2⟩ := hcf
      go_wp2
      go_roundw
      case rel => exact ⟨j + 1, by omega, by go_num, HS'⟩
      case measure => simp [intOf]; omega
    · obtain rfl : j = xs.length := by omega
      have HS0 := Aside0.mk HS.out
      rw [seenA_all _ (stB P)] at HS0
      clear HS HR HX
      go_wp2
      go_loopw [8, 27] (fun v i wr => ∃ k : Nat, k ≤ P.size + 1 ∧ i = .int .i64 k ∧ Aside0 (SeenAt w wr (P.size + 1) (seenB (P.size + 1) (stB P) xs k)) ∧
          Aside0 (wr.ownsRow w.heap.size 3 1 v (outB (stB P) xs k).length (nums .i64 (ints (outB (stB P) xs k))))) (fun _ i _ => P.size + 1 - (intOf i).toNat)
      case atStart => exact ⟨0, Nat.zero_le _, rfl, HS0, ⟨own_nil _ _ _ _⟩⟩
      case round =>
        clear HS0
        obtain ⟨k, hk, rfl, HS, HO⟩ := hrel
        by_cases hlt : k < P.size + 1
        · have hcf := own_at_of (d := false) (enc := Value.bool) HS.out.row (k : Int) (by omega) (by omega)
          rw [Int.toNat_natCast] at hcf
          rw [show rdOf false (seenB (P.size + 1) (stB P) xs k) (k : Int) = reach (stB P) xs k from by unfold rdOf; rw [Int.toNat_natCast]; exact seenB_at _ _ _ _ hlt] at hcf
          have hle := outB_le (stB P) xs k
          obtain ⟨hc1, hc2⟩ := hcf
          cases hrk : reach (stB P) xs k with
          | false =>
            rw [hrk] at hc1
            have HS1 := Aside0.mk HS.out
            rw [← seenB_keep _ _ _ _ (Or.inl hrk)] at HS1
            have HO1 := Aside0.mk HO.out
            rw [← outB_out _ _ _ hrk] at HO1
            clear HS HO hrk hle
            go_wp2
            go_roundw
            case rel => exact ⟨k + 1, by omega, by go_num, HS1, HO1⟩
            case measure => simp [intOf]; omega
          | true =>
            rw [hrk] at hc1
            have HR := Aside0.mk hrk
            clear hrk
            have HAP : ∀ v1 w1, w1.ownsRow w.heap.size 3 1 v1 (ints (outB (stB P) xs k) ++ [(k : Int)]).length (nums .i64 (ints (outB (stB P) xs k) ++ [(k : Int)])) → wr.grownBy w1 u8.ownBlock →
                Aside0 (SeenAt w w1 (P.size + 1) (seenB (P.size + 1) (stB P) xs k)) ∧ (k < P.size → (∃ b, w1.cell? ⟨w.heap.size, k + 1, none⟩ = some (.bool b)) ∧ w1.frozen? ⟨w.heap.size, k + 1, none⟩ = false) ∧ Aside0 (w1.ownsRow w.heap.size 3 1 v1 (outB (stB P) xs (k + 1)).length (nums .i64 (ints (outB (stB P) xs (k + 1))))) := by
              intro v1 w1 ho hg
              refine ⟨⟨HS.out.grown HO.out hg⟩, fun hk2 => ?_, ?_⟩
              · have h := own_at_of (d := false) (enc := Value.bool) (HS.out.grown HO.out hg).row ((k + 1 : Nat) : Int) (by omega) (by omega)
                rw [Int.toNat_natCast] at h
                exact ⟨⟨_, h.1⟩, h.2⟩
              rw [ints_snoc, ← outB_in _ _ _ HR.out, ints_length] at ho
              exact ⟨ho⟩
            have hb := HS.out.below
            have hsz := HS.out.size
            have HB := Aside0.mk hb
            clear hb
            have HOL := HO.out
            rw [← ints_length] at HOL
            have HOL' := Aside0.mk HOL
            clear HOL
            by_cases hlt2 : k < P.size
            · cases hst : stB P k with
              | true =>
                have hbt := stB_at P k hlt2
                rw [hst] at hbt
                have HST := Aside0.mk hst
                clear hst
                go_wp2_with (at_builtin; refine print_append_num (w0 := w) w.heap.size rfl _ _ 62 3 .i64 8 rfl Tryd.underlying62 info3 (by decide) u8 (ints (outB (stB P) xs k)) (k : Int) rfl rfl HOL'.out HB.out (Nat.le_of_lt hsz) (by rw [ints_length]; omega) ?_; intro v1 w1 ho hB1 hg _; obtain ⟨HS1, hs2, HO1⟩ := HAP v1 w1 ho hg; obtain ⟨⟨bx, hs3⟩, hs4⟩ := hs2 hlt2; clear ho hg hB1 hs2)
                have HS2 := Aside0.mk (HS1.out.set (k + 1))
                rw [seenB_set _ _ _ _ HR.out HST.out] at HS2
                have HO2 := Aside0.mk (HS1.out.other HO1.out (k + 1) (.bool true))
                go_roundw
                case rel => exact ⟨k + 1, by omega, by go_num, HS2, HO2⟩
                case measure => simp [intOf]; omega
              | false =>
                have hbt := stB_at P k hlt2
                rw [hst] at hbt
                have HST := Aside0.mk hst
                clear hst
                go_wp2_with (at_builtin; refine print_append_num (w0 := w) w.heap.size rfl _ _ 62 3 .i64 8 rfl Tryd.underlying62 info3 (by decide) u8 (ints (outB (stB P) xs k)) (k : Int) rfl rfl HOL'.out HB.out (Nat.le_of_lt hsz) (by rw [ints_length]; omega) ?_; intro v1 w1 ho hB1 hg _; obtain ⟨HS1, _, HO1⟩ := HAP v1 w1 ho hg; clear ho hg hB1)
                rw [← seenB_keep _ _ _ _ (Or.inr (Or.inl HST.out))] at HS1
                go_roundw
                case rel => exact ⟨k + 1, by omega, by go_num, HS1, HO1⟩
                case measure => simp [intOf]; omega
            · go_wp2_with (at_builtin; refine print_append_num (w0 := w) w.heap.size rfl _ _ 62 3 .i64 8 rfl Tryd.underlying62 info3 (by decide) u8 (ints (outB (stB P) xs k)) (k : Int) rfl rfl HOL'.out HB.out (Nat.le_of_lt hsz) (by rw [ints_length]; omega) ?_; intro v1 w1 ho hB1 hg _; obtain ⟨HS1, _, HO1⟩ := HAP v1 w1 ho hg; clear ho hg hB1)
              rw [← seenB_keep _ _ _ _ (Or.inr (Or.inr (by omega)))] at HS1
              go_roundw
              case rel => exact ⟨k + 1, by omega, by go_num, HS1, HO1⟩
              case measure => simp [intOf]; omega
        · obtain rfl : k = P.size + 1 := by omega
          have HO' := HO.out
          have HB := HS.out.below
          clear HS HO
          go_wp2
          go_ret
          exact ⟨_, rfl, HO', HB⟩

/-- what the closure hands back, as a row that is read -/
theorem closure_reads (P : ByteArray) (A : Option Addr) (c : Nat) (xs : List Nat) (w : World) (hP : P.size ≤ 1000) (hx : ∀ x ∈ xs, x ≤ P.size) (hr : ReadsInt w .i64 A xs.length (ints xs)) :
    Calls Tryd.prog 53 #[.string P, .slice A xs.length c] w fun e w' => ∃ A' c', e = .returned (.slice A' (outB (stB P) xs (P.size + 1)).length c') ∧ ReadsInt w' .i64 A' (outB (stB P) xs (P.size + 1)).length (ints (outB (stB P) xs (P.size + 1))) ∧ Below w.heap.size w w' :=
  (closure_calls P A c xs w hP hx hr).mono fun e w' ⟨v, he, ho, hb⟩ => by
    obtain ⟨A', c', hv, hr'⟩ := own_reads ho
    exact ⟨A', c', by rw [he, hv], hr', hb⟩

end Go.Proofs.YtkmoeeaaolpdnaaDoor
