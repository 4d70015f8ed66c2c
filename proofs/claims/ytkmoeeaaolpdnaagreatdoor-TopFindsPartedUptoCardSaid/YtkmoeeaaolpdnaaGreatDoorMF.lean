/-
 The walk of glob.matchComponents.
 The walks of slices.IndexFunc and slices.DeleteFunc on strings, at a predicate that may lay blocks of its own.
 Plain: a string cut at its slashes; its elements. No program in sight.
 The walk of the closure in glob.Find: whether a path's components do not match the pattern's elements.
-/
import Derived.Deep.RegionHeld3
import Derived.Lib.SliceRun
import Derived.Lib.SplitLaws
import Derived.Lib.IndexLaws
import Derived.Lib.Join
import Derived.Test.YtkmoeeaaolpdnaaGreatDoorMA
import Derived.Test.YtkmoeeaaolpdnaaGreatDoorWKept
import Derived.Test.YtkmoeeaaolpdnaaGreatDoorShelfB
namespace Go.Proofs.YtkmoeeaaolpdnaaGreatDoor
open Go.RowKit Go.Proofs.YtkmoeeaaolpdnaaGreatDoorW.PrintWords
set_option linter.unusedSimpArgs false

theorem infoStr : (Tryz.prog.info? 9).map (fun i => (i.zero, i.size, i.bytes)) = some (some (.string ⟨#[]⟩), 1, 16) := by kernel_rfl
/-- two stars -/
def ss (p : ByteArray) : Bool := p.toList == [42, 42]
noncomputable def mc : List ByteArray → List ByteArray → Bool
  | [], l => l.isEmpty
  | p :: ps, [] => if ss p then mc ps [] else false
  | p :: ps, x :: r => if ss p then mc ps (x :: r) || mc (p :: ps) r else mB p x && mc ps r
termination_by ps l => ps.length + l.length

abbrev RS (w : World) (A : Option Addr) (n : Nat) (xs : List ByteArray) : Prop := ReadsOf Value.string (⟨#[]⟩ : ByteArray) w A n xs
abbrev rdS (xs : List ByteArray) (i : Int) : ByteArray := rdOf (⟨#[]⟩ : ByteArray) xs i

theorem mc_nil {ps l : List ByteArray} (h : ps.length = 0) : mc ps l = decide (l.length = 0) := by
  obtain rfl := List.eq_nil_of_length_eq_zero h
  rw [mc]
  cases l <;> simp
theorem mc_star {ps l : List ByteArray} (h : 0 < ps.length) (hs : ss (rdS ps 0) = true) : mc ps l = (mc (ps.drop 1) l || (decide (0 < l.length) && mc ps (l.drop 1))) := by
  cases ps with
  | nil => simp at h
  | cons p ps =>
    have hs : ss p = true := hs
    cases l with
    | nil => rw [mc, if_pos hs]; simp
    | cons x r => rw [mc, if_pos hs]; simp
theorem mc_else {ps l : List ByteArray} (h : 0 < ps.length) (hs : ss (rdS ps 0) = false) : mc ps l = (decide (0 < l.length) && (mB (rdS ps 0) (rdS l 0) && mc (ps.drop 1) (l.drop 1))) := by
  cases ps with
  | nil => simp at h
  | cons p ps =>
    have hs : ¬ ss p = true := by have hs : ss p = false := hs; simp [hs]
    cases l with
    | nil => rw [mc, if_neg hs]; simp
    | cons x r =>
      rw [mc, if_neg hs]
      simp
      rfl

theorem cut_strs (A : Option Addr) (n c : Nat) (h : 1 ≤ n) : ∃ A' : Option Addr, (∀ W : World, (Instr.slice 25 (.slice A n c) (some (.int .i64 1)) none none).run Tryz.prog W = .ok (.slice A' (n - 1) (c - 1)) W) ∧
    ∀ (w : World) (xs : List ByteArray), n ≤ c → RS w A n xs → RS w A' (n - 1) (xs.drop 1) := by
  obtain ⟨i0, hi, hzz⟩ := Option.map_eq_some_iff.1 infoStr
  simp only [Prod.mk.injEq] at hzz
  exact print_cut_of (P := Tryz.prog) Value.string (⟨#[]⟩ : ByteArray) 25 9 .i64 Tryz.underlying25 hi hzz.2.1 A n c 1 h

set_option maxHeartbeats 4000000 in
set_option maxRecDepth 100000 in
theorem mc_calls : ∀ (d : Nat) (ps l : List ByteArray) (A B : Option Addr) (n m c e : Nat) (w : World), n + m ≤ d → n ≤ c → m ≤ e → RS w A n ps → RS w B m l → (∀ p ∈ ps, p.size ≤ 1000) → (∀ p ∈ l, p.size ≤ 1000) →
    Calls Tryz.prog 34 #[.slice A n c, .slice B m e] w fun en w' => en = .returned (.bool (mc ps l)) ∧ Below w.heap.size w w' := by
  intro d
  induction d with
  | zero =>
    intro ps l A B n m c e w hd hc he ha hb hp hq
    obtain rfl : n = 0 := by omega
    obtain rfl : m = 0 := by omega
    have HM := Aside0.mk (show mc ps l = true by rw [mc_nil ha.1, hb.1]; rfl)
    clear ha hb hp hq
    go_enter Tryz.func34, Tryz.ntmps34
    go_wp2
    go_ret
    exact ⟨by rw [HM.out]; rfl, Below.refl _ _⟩
  | succ d ih =>
    intro ps l A B n m c e w hd hc he ha hb hp hq
    have HIH := Aside0.mk ih
    have HA := Aside0.mk ha
    have HBL := Aside0.mk hb
    have HP := Aside0.mk hp
    have HQ := Aside0.mk hq
    have hm9 := hb.2.1
    have hn9 := ha.2.1
    clear ih ha hb hp hq
    by_cases hn : n = 0
    · subst hn
      by_cases hm : m = 0
      · subst hm
        have HM := Aside0.mk (show mc ps l = true by rw [mc_nil HA.out.1, HBL.out.1]; rfl)
        clear HA HBL HP HQ HIH
        go_enter Tryz.func34, Tryz.ntmps34
        go_wp2
        go_ret
        exact ⟨by rw [HM.out]; rfl, Below.refl _ _⟩
      · have HM := Aside0.mk (show mc ps l = false by rw [mc_nil HA.out.1, HBL.out.1]; exact decide_eq_false hm)
        have hne : ((m : Int) == 0) = false := beq_eq_false_iff_ne.2 (by omega)
        clear HA HBL HP HQ HIH
        go_enter Tryz.func34, Tryz.ntmps34
        go_wp2
        go_ret
        exact ⟨by rw [HM.out]; simp, Below.refl _ _⟩
    · have hn0 : 0 < n := by omega
      have hnb : ((n : Int) == 0) = false := beq_eq_false_iff_ne.2 (by omega)
      have hn1 : (0 : Int) < (n : Int) := by omega
      obtain ⟨ad, rfl, hc0⟩ := HA.out.at_ (0 : Int) (Int.le_refl _) (by omega)
      have hadd : ad.add 0 = ad := by unfold Addr.add; simp
      simp only [Int.toNat_zero] at hc0
      rw [hadd] at hc0
      clear hadd
      obtain ⟨A', hrA, hrdA⟩ := cut_strs (some ad) n c (by omega)
      have HRA := Aside0.mk hrdA
      clear hrdA
      cases hs : ss (rdS ps 0) with
      | true =>
        have HM := Aside0.mk (mc_star (l := l) (by rw [HA.out.1]; exact hn0) hs)
        have hsl : ((rdS ps 0).toList == [42, 42]) = true := hs
        clear hs
        have HC1 : Aside0 (Calls Tryz.prog 34 #[.slice A' (n - 1) (c - 1), .slice B m e] w fun en w' => en = .returned (.bool (mc (ps.drop 1) l)) ∧ Below w.heap.size w w') :=
          ⟨HIH.out _ _ _ _ _ _ _ _ _ (by omega) (by omega) he (HRA.out _ _ hc HA.out) HBL.out (fun p hp => HP.out p (List.mem_of_mem_drop hp)) HQ.out⟩
        by_cases hm : m = 0
        · have HM2 := Aside0.mk (show mc ps l = mc (ps.drop 1) l by rw [HM.out, HBL.out.1, decide_eq_false (show ¬ 0 < m by omega)]; simp)
          clear HM HIH HRA HA HBL HP HQ
          generalize mc (ps.drop 1) l = b1 at *
          subst hm
          go_enter Tryz.func34, Tryz.ntmps34
          go_wp2_with fail
          refine HC1.out.mono ?_
          rintro en w1 ⟨rfl, hb1⟩
          have HB1 := Aside0.mk hb1
          clear hb1 HC1 hc0
          cases b1 with
          | true =>
            go_wp2
            go_ret
            exact ⟨by rw [HM2.out]; rfl, HB1.out⟩
          | false =>
            go_wp2
            go_ret
            exact ⟨by rw [HM2.out]; rfl, HB1.out⟩
        · obtain ⟨B', hrB, hrdB⟩ := cut_strs B m e (by omega)
          have HRB := Aside0.mk hrdB
          clear hrdB
          have HM2 := Aside0.mk (show mc ps l = (mc (ps.drop 1) l || mc ps (l.drop 1)) by rw [HM.out, HBL.out.1, decide_eq_true (show 0 < m by omega)]; simp)
          have HC2 : Aside0 (∀ W, Below w.heap.size w W → Calls Tryz.prog 34 #[.slice (some ad) n c, .slice B' (m - 1) (e - 1)] W fun en w' => en = .returned (.bool (mc ps (l.drop 1))) ∧ Below W.heap.size W w') :=
            ⟨fun W hW => HIH.out _ _ _ _ _ _ _ _ _ (by omega) hc (by omega) (HA.out.below hW) (HRB.out _ _ he (HBL.out.below hW)) HP.out (fun p hp => HQ.out p (List.mem_of_mem_drop hp))⟩
          clear HM HIH HRA HRB HA HBL HP HQ
          have hm0 : 0 < m := by omega
          have hm1 : (0 : Int) < (m : Int) := by omega
          generalize mc (ps.drop 1) l = b1 at *
          generalize mc ps (l.drop 1) = b2 at *
          go_enter Tryz.func34, Tryz.ntmps34
          go_wp2_with fail
          refine HC1.out.mono ?_
          rintro en w1 ⟨rfl, hb1⟩
          have HB1 := Aside0.mk hb1
          clear hb1 HC1 hc0
          cases b1 with
          | true =>
            clear HC2
            go_wp2
            go_ret
            exact ⟨by rw [HM2.out]; rfl, HB1.out⟩
          | false =>
            go_wp2_with fail
            refine (HC2.out _ HB1.out).mono ?_
            rintro en w2 ⟨rfl, hb2⟩
            have HB2 := Aside0.mk (below_then HB1.out HB1.out.size hb2)
            clear hb2 HC2 HB1
            cases b2 with
            | true =>
              go_wp2
              go_ret
              exact ⟨by rw [HM2.out]; rfl, HB2.out⟩
            | false =>
              go_wp2
              go_ret
              exact ⟨by rw [HM2.out]; rfl, HB2.out⟩
      | false =>
        have HM := Aside0.mk (mc_else (l := l) (by rw [HA.out.1]; exact hn0) hs)
        have hsl : ((rdS ps 0).toList == [42, 42]) = false := hs
        clear hs
        by_cases hm : m = 0
        · have HM2 := Aside0.mk (show mc ps l = false by rw [HM.out, HBL.out.1, decide_eq_false (show ¬ 0 < m by omega)]; rfl)
          clear HM HIH HRA HA HBL HP HQ
          subst hm
          go_enter Tryz.func34, Tryz.ntmps34
          go_wp2_with fail
          go_quiet (fail)
          go_wp2
          go_ret
          exact ⟨by rw [HM2.out]; rfl, pw_below_drewN (Below.refl _ _) nq⟩
        · obtain ⟨B', hrB, hrdB⟩ := cut_strs B m e (by omega)
          have HRB := Aside0.mk hrdB
          clear hrdB
          have hm0 : 0 < m := by omega
          have hm1 : (0 : Int) < (m : Int) := by omega
          obtain ⟨bd, rfl, hb0⟩ := HBL.out.at_ (0 : Int) (Int.le_refl _) (by omega)
          have hadd : bd.add 0 = bd := by unfold Addr.add; simp
          simp only [Int.toNat_zero] at hb0
          rw [hadd] at hb0
          clear hadd
          have HM2 := Aside0.mk (show mc ps l = (mB (rdS ps 0) (rdS l 0) && mc (ps.drop 1) (l.drop 1)) by rw [HM.out, HBL.out.1, decide_eq_true hm0]; rfl)
          have HC2 : Aside0 (∀ W, Below w.heap.size w W → Calls Tryz.prog 34 #[.slice A' (n - 1) (c - 1), .slice B' (m - 1) (e - 1)] W fun en w' => en = .returned (.bool (mc (ps.drop 1) (l.drop 1))) ∧ Below W.heap.size W w') :=
            ⟨fun W hW => HIH.out _ _ _ _ _ _ _ _ _ (by omega) (by omega) (by omega) (HRA.out _ _ hc (HA.out.below hW)) (HRB.out _ _ he (HBL.out.below hW)) (fun p hp => HP.out p (List.mem_of_mem_drop hp)) (fun p hp => HQ.out p (List.mem_of_mem_drop hp))⟩
          have hpz : (rdS ps 0).size ≤ 1000 := by
            have hl : 0 < ps.length := by rw [HA.out.1]; exact hn0
            have e0 : rdS ps 0 = ps[0] := by show ps.getD 0 _ = ps[0]; rw [List.getD_eq_getElem?_getD, List.getElem?_eq_getElem hl]; rfl
            rw [e0]; exact HP.out _ (List.getElem_mem hl)
          have hqz : (rdS l 0).size ≤ 140737488351232 := by
            have hl : 0 < l.length := by rw [HBL.out.1]; exact hm0
            have e0 : rdS l 0 = l[0] := by show l.getD 0 _ = l[0]; rw [List.getD_eq_getElem?_getD, List.getElem?_eq_getElem hl]; rfl
            rw [e0]; have := HQ.out _ (List.getElem_mem hl); omega
          have HMT : Aside0 (∀ W, Calls Tryz.prog 28 #[.string (rdS ps 0), .string (rdS l 0)] W fun en w' => en = .returned (.bool (mB (rdS ps 0) (rdS l 0))) ∧ Below W.heap.size W w') := ⟨fun W => matches_calls (rdS ps 0) (rdS l 0) W hpz hqz⟩
          clear HM HIH HRA HRB HA HBL HP HQ hpz hqz
          replace hc0 : w.cell? ad = some (.string (rdS ps 0)) := hc0
          replace hb0 : w.cell? bd = some (.string (rdS l 0)) := hb0
          generalize mB (rdS ps 0) (rdS l 0) = bM at *
          generalize mc (ps.drop 1) (l.drop 1) = b2 at *
          generalize rdS ps 0 = p0 at *
          generalize rdS l 0 = x0 at *
          have hm1d : decide ((0 : Int) < (m : Int)) = true := decide_eq_true hm1
          cases bM with
          | false =>
            go_enter Tryz.func34, Tryz.ntmps34
            go_wp2_with fail
            refine wp_region_noPanic ?_
            refine wp_region_held_drew (S := fun w' => w'.cell? ad = some (.string p0) ∧ w'.cell? bd = some (.string x0)) (by kernel_rfl) ⟨hc0, hb0⟩ (fun hHeld => ?_)
            refine wpAnyH_take (i := 0) (oi := _) (v := ?_) rfl (by kernel_rfl) (by kernel_rfl) (by kernel_rfl) (fun _ _ _ h => h) (Or.inl ⟨by rfl, ?_⟩) (by assumption) ?_
            rotate_left
            · (intro w hSw; (try dsimp only at hSw); (try simp only [List.getElem_toArray, List.getElem_cons_zero, List.getElem_cons_succ]); go_simp; first | done | (with_reducible rfl))
            try simp only [Act.put, List.getElem_toArray, List.getElem_cons_zero, List.getElem_cons_succ, List.setIfInBounds_toArray, List.set_cons_zero, List.set_cons_succ]
            refine wpAnyH_take (i := 1) (oi := _) (v := ?_) rfl (by kernel_rfl) (by kernel_rfl) (by kernel_rfl) (fun _ _ _ h => h) (Or.inl ⟨by rfl, ?_⟩) (by assumption) ?_
            rotate_left
            · (intro w hSw; (try dsimp only at hSw); (try simp only [List.getElem_toArray, List.getElem_cons_zero, List.getElem_cons_succ]); go_simp; first | done | (with_reducible rfl))
            try simp only [Act.put, List.getElem_toArray, List.getElem_cons_zero, List.getElem_cons_succ, List.setIfInBounds_toArray, List.set_cons_zero, List.set_cons_succ]
            refine wpAnyH_take (i := 2) (oi := _) (v := ?_) rfl (by kernel_rfl) (by kernel_rfl) (by kernel_rfl) (fun _ _ _ h => h) (Or.inl ⟨by rfl, ?_⟩) (by assumption) ?_
            rotate_left
            · (intro w hSw; (try dsimp only at hSw); (try simp only [List.getElem_toArray, List.getElem_cons_zero, List.getElem_cons_succ]); go_simp; first | done | (with_reducible rfl))
            try simp only [Act.put, List.getElem_toArray, List.getElem_cons_zero, List.getElem_cons_succ, List.setIfInBounds_toArray, List.set_cons_zero, List.set_cons_succ]
            refine wpAnyH_take (i := 3) (oi := _) (v := ?_) rfl (by kernel_rfl) (by kernel_rfl) (by kernel_rfl) (fun _ _ _ h => h) (Or.inl ⟨by rfl, ?_⟩) (by assumption) ?_
            rotate_left
            · (intro w hSw; (try dsimp only at hSw); (try simp only [List.getElem_toArray, List.getElem_cons_zero, List.getElem_cons_succ]); go_simp; first | done | (with_reducible rfl))
            try simp only [Act.put, List.getElem_toArray, List.getElem_cons_zero, List.getElem_cons_succ, List.setIfInBounds_toArray, List.set_cons_zero, List.set_cons_succ]
            refine wpAnyH_take (i := 4) (oi := _) (v := ?_) rfl (by kernel_rfl) (by kernel_rfl) (by kernel_rfl) (fun _ _ _ h => h) (Or.inl ⟨by rfl, ?_⟩) (by assumption) ?_
            rotate_left
            · (intro w hSw; (try dsimp only at hSw); (try simp only [List.getElem_toArray, List.getElem_cons_zero, List.getElem_cons_succ]); go_simp; first | done | (with_reducible rfl))
            try simp only [Act.put, List.getElem_toArray, List.getElem_cons_zero, List.getElem_cons_succ, List.setIfInBounds_toArray, List.set_cons_zero, List.set_cons_succ]
            refine wpAnyH_take (i := 5) (oi := _) (v := ?_) rfl (by kernel_rfl) (by kernel_rfl) (by kernel_rfl) (fun _ _ _ h => h) (Or.inl ⟨by rfl, ?_⟩) (by assumption) ?_
            rotate_left
            · (intro w hSw; (try dsimp only at hSw); (try simp only [List.getElem_toArray, List.getElem_cons_zero, List.getElem_cons_succ]); go_simp; first | done | (with_reducible rfl))
            try simp only [Act.put, List.getElem_toArray, List.getElem_cons_zero, List.getElem_cons_succ, List.setIfInBounds_toArray, List.set_cons_zero, List.set_cons_succ]
            refine wpAnyH_take (i := 6) (oi := _) (v := ?_) rfl (by kernel_rfl) (by kernel_rfl) (by kernel_rfl) (fun _ _ _ h => h) (Or.inl ⟨by rfl, ?_⟩) (by assumption) ?_
            rotate_left
            · (intro w hSw; (try dsimp only at hSw); (try simp only [List.getElem_toArray, List.getElem_cons_zero, List.getElem_cons_succ]); go_simp; first | done | (with_reducible rfl))
            try simp only [Act.put, List.getElem_toArray, List.getElem_cons_zero, List.getElem_cons_succ, List.setIfInBounds_toArray, List.set_cons_zero, List.set_cons_succ]
            refine wpAnyH_take (i := 7) (oi := _) (v := ?_) rfl (by kernel_rfl) (by kernel_rfl) (by kernel_rfl) (fun _ _ _ h => h) (Or.inl ⟨by rfl, ?_⟩) (by assumption) ?_
            rotate_left
            · (intro w hSw; (try dsimp only at hSw); (try simp only [List.getElem_toArray, List.getElem_cons_zero, List.getElem_cons_succ]); go_simp; first | done | (with_reducible rfl))
            try simp only [Act.put, List.getElem_toArray, List.getElem_cons_zero, List.getElem_cons_succ, List.setIfInBounds_toArray, List.set_cons_zero, List.set_cons_succ]
            refine wpAnyH_take (i := 8) (oi := _) (v := ?_) rfl (by kernel_rfl) (by kernel_rfl) (by kernel_rfl) (fun _ _ _ h => h) (Or.inl ⟨by rfl, ?_⟩) (by assumption) ?_
            rotate_left
            · (intro w hSw; (try dsimp only at hSw); (try simp only [List.getElem_toArray, List.getElem_cons_zero, List.getElem_cons_succ]); go_simp; first | done | (with_reducible rfl))
            try simp only [Act.put, List.getElem_toArray, List.getElem_cons_zero, List.getElem_cons_succ, List.setIfInBounds_toArray, List.set_cons_zero, List.set_cons_succ]
            refine wpAnyH_take (i := 9) (oi := _) (v := ?_) rfl (by kernel_rfl) (by kernel_rfl) (by kernel_rfl) (fun _ _ _ h => h) (Or.inl ⟨by rfl, ?_⟩) (by assumption) ?_
            rotate_left
            · (intro w hSw; (try dsimp only at hSw); (try simp only [List.getElem_toArray, List.getElem_cons_zero, List.getElem_cons_succ]); go_simp; first | done | (with_reducible rfl))
            try simp only [Act.put, List.getElem_toArray, List.getElem_cons_zero, List.getElem_cons_succ, List.setIfInBounds_toArray, List.set_cons_zero, List.set_cons_succ]
            refine wpAnyH_ready (rs := [10]) (by kernel_rfl) (by simp) ?_
            refine AllReadyH.cons (o := _) rfl (fun K hK => ?_) AllReadyH.nil
            try simp only [List.getElem_toArray, List.getElem_cons_zero, List.getElem_cons_succ]
            go_simp
            go_at_call 28
            refine (HMT.out _).mono ?_
            rintro en w1 ⟨rfl, hb1⟩
            go_wp2_with fail
            refine hK.out _ _ ⟨pw_cell_below hb1 hc0, pw_cell_below hb1 hb0⟩ (fun hHeld2 => ?_)
            clear hK K
            try simp only [Act.put, List.getElem_toArray, List.getElem_cons_zero, List.getElem_cons_succ, List.setIfInBounds_toArray, List.set_cons_zero, List.set_cons_succ]
            refine wpAnyH_take (i := 11) (oi := _) (v := ?_) rfl (by kernel_rfl) (by kernel_rfl) (by kernel_rfl) (fun _ _ _ h => h) (Or.inl ⟨by rfl, ?_⟩) (by assumption) ?_
            rotate_left
            · (intro w hSw; (try dsimp only at hSw); (try simp only [List.getElem_toArray, List.getElem_cons_zero, List.getElem_cons_succ]); go_simp; first | done | (with_reducible rfl))
            try simp only [Act.put, List.getElem_toArray, List.getElem_cons_zero, List.getElem_cons_succ, List.setIfInBounds_toArray, List.set_cons_zero, List.set_cons_succ]
            refine wpAnyH_take (i := 12) (oi := _) (v := ?_) rfl (by kernel_rfl) (by kernel_rfl) (by kernel_rfl) (fun _ _ _ h => h) (Or.inl ⟨by rfl, ?_⟩) (by assumption) ?_
            rotate_left
            · (intro w hSw; (try dsimp only at hSw); (try simp only [List.getElem_toArray, List.getElem_cons_zero, List.getElem_cons_succ]); go_simp; first | done | (with_reducible rfl))
            try simp only [Act.put, List.getElem_toArray, List.getElem_cons_zero, List.getElem_cons_succ, List.setIfInBounds_toArray, List.set_cons_zero, List.set_cons_succ]
            refine wpAnyH_take (i := 13) (oi := _) (v := undef) rfl (by kernel_rfl) (by kernel_rfl) (by kernel_rfl) (fun _ _ _ h => h) (Or.inr ⟨by rfl, rfl⟩) (by assumption) ?_
            try simp only [Act.put, List.getElem_toArray, List.getElem_cons_zero, List.getElem_cons_succ, List.setIfInBounds_toArray, List.set_cons_zero, List.set_cons_succ]
            refine wpAnyH_take (i := 14) (oi := _) (v := undef) rfl (by kernel_rfl) (by kernel_rfl) (by kernel_rfl) (fun _ _ _ h => h) (Or.inr ⟨by rfl, rfl⟩) (by assumption) ?_
            try simp only [Act.put, List.getElem_toArray, List.getElem_cons_zero, List.getElem_cons_succ, List.setIfInBounds_toArray, List.set_cons_zero, List.set_cons_succ]
            refine wpAnyH_take (i := 15) (oi := _) (v := undef) rfl (by kernel_rfl) (by kernel_rfl) (by kernel_rfl) (fun _ _ _ h => h) (Or.inr ⟨by rfl, rfl⟩) (by assumption) ?_
            try simp only [Act.put, List.getElem_toArray, List.getElem_cons_zero, List.getElem_cons_succ, List.setIfInBounds_toArray, List.set_cons_zero, List.set_cons_succ]
            refine wpAnyH_take (i := 16) (oi := _) (v := undef) rfl (by kernel_rfl) (by kernel_rfl) (by kernel_rfl) (fun _ _ _ h => h) (Or.inr ⟨by rfl, rfl⟩) (by assumption) ?_
            try simp only [Act.put, List.getElem_toArray, List.getElem_cons_zero, List.getElem_cons_succ, List.setIfInBounds_toArray, List.set_cons_zero, List.set_cons_succ]
            refine wpAnyH_take (i := 17) (oi := _) (v := undef) rfl (by kernel_rfl) (by kernel_rfl) (by kernel_rfl) (fun _ _ _ h => h) (Or.inr ⟨by rfl, rfl⟩) (by assumption) ?_
            try simp only [Act.put, List.getElem_toArray, List.getElem_cons_zero, List.getElem_cons_succ, List.setIfInBounds_toArray, List.set_cons_zero, List.set_cons_succ]
            refine wpAnyH_take (i := 18) (oi := _) (v := ?_) rfl (by kernel_rfl) (by kernel_rfl) (by kernel_rfl) (fun _ _ _ h => h) (Or.inl ⟨by rfl, ?_⟩) (by assumption) ?_
            rotate_left
            · (intro w hSw; (try dsimp only at hSw); (try simp only [List.getElem_toArray, List.getElem_cons_zero, List.getElem_cons_succ]); go_simp; first | done | (with_reducible rfl))
            try simp only [Act.put, List.getElem_toArray, List.getElem_cons_zero, List.getElem_cons_succ, List.setIfInBounds_toArray, List.set_cons_zero, List.set_cons_succ]
            refine wpAnyH_take (i := 19) (oi := _) (v := ?_) rfl (by kernel_rfl) (by kernel_rfl) (by kernel_rfl) (fun _ _ _ h => h) (Or.inl ⟨by rfl, ?_⟩) (by assumption) ?_
            rotate_left
            · (intro w hSw; (try dsimp only at hSw); (try simp only [List.getElem_toArray, List.getElem_cons_zero, List.getElem_cons_succ]); go_simp; first | done | (with_reducible rfl))
            try simp only [Act.put, List.getElem_toArray, List.getElem_cons_zero, List.getElem_cons_succ, List.setIfInBounds_toArray, List.set_cons_zero, List.set_cons_succ]
            refine wpAnyH_done (by kernel_rfl) ?_ _
            refine NoPanic.normal ?_
            have HB1 := Aside0.mk (below_then (below_drew (Below.refl w.heap.size w)) (Nat.le_refl _) hb1)
            clear hb1 HC2 HMT
            go_wp2
            go_ret
            exact ⟨by rw [HM2.out]; rfl, HB1.out⟩
          | true =>
            go_enter Tryz.func34, Tryz.ntmps34
            go_wp2_with fail
            go_region_held3 (fun w' => w'.cell? ad = some (.string p0) ∧ w'.cell? bd = some (.string x0))
              (first
                | go_keep
                | (go_split_ands
                   exact ⟨pw_cell_below hb2 (by assumption), pw_cell_below hb2 (by assumption)⟩)
                | (go_split_ands
                   exact ⟨pw_cell_below hb1 (by assumption), pw_cell_below hb1 (by assumption)⟩))
              (first
              | (go_at_call 28; refine (HMT.out _).mono ?_; rintro en w1 ⟨rfl, hb1⟩; have HB1 := Aside0.mk (below_then (below_drew (Below.refl w.heap.size w)) (Nat.le_refl _) hb1))
              | (go_at_call 34; refine (HC2.out _ HB1.out).mono ?_; rintro en w2 ⟨rfl, hb2⟩)
              | fail)
            all_goals
              have HB2 := Aside0.mk (below_then HB1.out HB1.out.size hb2)
              clear hb1 hb2 HC2 HMT HB1
              cases b2 with
              | true =>
                go_wp2
                go_ret
                exact ⟨by rw [HM2.out]; rfl, HB2.out⟩
              | false =>
                go_wp2
                go_ret
                exact ⟨by rw [HM2.out]; rfl, HB2.out⟩
end Go.Proofs.YtkmoeeaaolpdnaaGreatDoor

namespace Go.Proofs.YtkmoeeaaolpdnaaGreatDoor
open Go.RowKit Go.Proofs.YtkmoeeaaolpdnaaGreatDoorW.PrintWords

/-- the function value answers p at x, and turns nothing that lay -/
def PredB (g : Nat) (lb : Array Value) (p : ByteArray → Bool) (x : ByteArray) (W : World) : Prop :=
  Calls Tryz.prog g (#[.string x] ++ lb) W fun e W' => e = .returned (.bool (p x)) ∧ Below W.heap.size W W'

/-- the place of the first element of which p holds -/
def idxP (p : ByteArray → Bool) : List ByteArray → Option Nat
  | [] => none
  | x :: l => if p x then some 0 else (idxP p l).map (· + 1)
theorem idxP_none {p : ByteArray → Bool} {l : List ByteArray} (h : ∀ x ∈ l, p x = false) : idxP p l = none := by
  induction l with
  | nil => rfl
  | cons x l ih => rw [idxP, if_neg (by simp [h x (by simp)]), ih fun y hy => h y (by simp [hy])]; rfl
theorem idxP_some {p : ByteArray → Bool} {l : List ByteArray} {k : Nat} (hk : k < l.length) (h : ∀ x ∈ l.take k, p x = false) (hp : p l[k] = true) : idxP p l = some k := by
  induction l generalizing k with
  | nil => simp at hk
  | cons x l ih =>
    cases k with
    | zero =>
      have hp : p x = true := hp
      rw [idxP, if_pos hp]
    | succ k =>
      rw [idxP, if_neg (by simp [h x (by simp)]), ih (k := k) (by simpa using hk) (fun y hy => h y (by simp [hy])) hp]
      rfl
def idxV (p : ByteArray → Bool) (l : List ByteArray) : Int := match idxP p l with | some k => (k : Int) | none => -1
theorem take_all {α : Type} {q : α → Prop} {l : List α} {k : Nat} (hk : k < l.length) (h : ∀ x ∈ l.take k, q x) (hp : q l[k]) : ∀ x ∈ l.take (k + 1), q x := by
  intro x hx
  rw [List.take_succ_eq_append_getElem hk] at hx
  rcases List.mem_append.1 hx with h' | h'
  · exact h x h'
  · rw [List.mem_singleton.1 h']; exact hp

set_option maxHeartbeats 2000000 in
set_option maxRecDepth 100000 in
theorem idxf_calls (g : Nat) (lb : Array Value) (eg : ∀ args w, (callFunc g args).run Tryz.prog w = .ok (.enter g args) w) (p : ByteArray → Bool) (v : Value) (B : Nat) (xs : List ByteArray) (w : World)
    (hv : w.ownsRow B 9 1 v xs.length (encs Value.string xs)) (hsz : xs.length ≤ 1000000000) (hp : ∀ W, Below w.heap.size w W → ∀ x ∈ xs, PredB g lb p x W) :
    Calls Tryz.prog 26 #[v, .func (.func g) #[] lb] w fun e w' => e = .returned (.int .i64 (idxV p xs)) ∧ Below w.heap.size w w' := by
  have HP := Aside0.mk hp
  obtain ⟨A, c, rfl, hr⟩ := own_reads_of (d := (⟨#[]⟩ : ByteArray)) hv
  have HR := Aside0.mk hr
  clear hp hr hv
  go_enter Tryz.func26, Tryz.ntmps26
  go_wp2
  go_loopw [8] (fun i wr => ∃ k : Nat, k ≤ xs.length ∧ i = .int .i64 k ∧ Aside0 (∀ x ∈ xs.take k, p x = false) ∧ Aside0 (Below w.heap.size w wr)) (fun i _ => xs.length - (intOf i).toNat)
  case atStart => exact ⟨0, Nat.zero_le _, rfl, ⟨by simp⟩, ⟨Below.refl _ _⟩⟩
  case round =>
    obtain ⟨k, hk, rfl, HT, HB⟩ := hrel
    by_cases hlt : k < xs.length
    · obtain ⟨ad, rfl, hc⟩ := (HR.out.below HB.out).at_ (k : Int) (Int.natCast_nonneg _) (by omega)
      have hx : rdOf (⟨#[]⟩ : ByteArray) xs (k : Int) = xs[k] := by unfold rdOf; rw [Int.toNat_natCast, List.getD_eq_getElem?_getD, List.getElem?_eq_getElem hlt]; rfl
      rw [hx, Int.toNat_natCast] at hc
      clear hx
      have HC := Aside0.mk (HP.out _ HB.out xs[k] (List.getElem_mem hlt))
      have HK := Aside0.mk (fun hq : p xs[k] = true => idxP_some hlt HT.out hq)
      have HN := Aside0.mk (fun hq : p xs[k] = false => take_all (q := fun x => p x = false) hlt HT.out hq)
      unfold PredB at HC
      have hlz : (k : Int) < (xs.length : Int) := by omega
      generalize xs[k] = x at *
      go_wp2_with fail
      refine HC.out.mono ?_
      rintro e w1 ⟨rfl, hb1⟩
      have HB1 := Aside0.mk (below_then HB.out HB.out.size hb1)
      clear hb1 HC
      cases hq : p x with
      | true =>
        have HV := Aside0.mk (show idxV p xs = (k : Int) by unfold idxV; rw [HK.out hq])
        clear hq HK HN
        go_wp2
        go_ret
        exact ⟨by rw [HV.out]; rfl, HB1.out⟩
      | false =>
        have HN2 := Aside0.mk (HN.out hq)
        clear hq HK HN
        go_wp2
        go_roundw
        case rel => exact ⟨k + 1, by omega, by go_num, HN2, HB1⟩
        case measure => simp [intOf]; omega
    · obtain rfl : k = xs.length := by omega
      have HV := Aside0.mk (show idxV p xs = -1 by unfold idxV; rw [idxP_none (by have := HT.out; rwa [List.take_length] at this)])
      go_wp2
      go_ret
      exact ⟨by rw [HV.out]; rfl, HB.out⟩

theorem setCells_blk (b : Nat) (t : TypeId) : ∀ (vs : List Value) (o : Nat) (cs : Array Value) (w : World), w.heap[b]? = some (.cells cs t (0, 0)) →
    ∃ cs' : Array Value, (w.setCells b o vs).heap[b]? = some (.cells cs' t (0, 0)) ∧ cs'.size = cs.size ∧ cs'.toList.take o = cs.toList.take o
  | [], _, cs, _, h => ⟨cs, h, rfl, rfl⟩
  | v :: vs, o, cs, w, h => by
    obtain ⟨cs', h1, h2, h3⟩ := setCells_blk b t vs (o + 1) (cs.setIfInBounds o v) (w.setCell ⟨b, o, none⟩ v) (blk_set h o v)
    refine ⟨cs', h1, by rw [h2, Array.size_setIfInBounds], ?_⟩
    have h4 := congrArg (List.take o) h3
    rw [List.take_take, List.take_take, Nat.min_eq_left (by omega), Array.toList_setIfInBounds, List.take_set_of_le (Nat.le_refl _)] at h4
    exact h4
theorem setCells_grown (b : Nat) : ∀ (vs : List Value) (o : Nat) (w : World), w.grownBy (w.setCells b o vs) (some b)
  | [], _, w => ⟨rfl, rfl, rfl, Nat.le_refl _, fun _ _ _ => rfl⟩
  | v :: vs, o, w => by
    have h := setCells_grown b vs (o + 1) (w.setCell ⟨b, o, none⟩ v)
    have hs : (w.setCell ⟨b, o, none⟩ v).heap.size = w.heap.size := by simp [World.setCell]
    refine ⟨h.os, h.tape, h.output, by have := h.size; rw [hs] at this; exact this, fun k hk hne => ?_⟩
    exact (h.block k (by rw [hs]; exact hk) hne).trans (Below.heap_setCell w ⟨b, o, none⟩ v k (fun e => hne (by rw [e])))
/-- a row cut, and what lies behind the cut turned -/
theorem own_cut {W : World} {B g n cap i : Nat} {xs : List ByteArray} (h : W.ownsRow B 9 1 (.slice (some ⟨g, 0, none⟩) n cap) n (encs Value.string xs)) (hi : i ≤ n) (vs : List Value) :
    (W.setCells g i vs).ownsRow B 9 1 (.slice (some ⟨g, 0, none⟩) i cap) i (encs Value.string (xs.take i)) := by
  have hl : xs.length = n := by have := h.1; simp [encs] at this; exact this
  rcases h.2 with ⟨h', _⟩ | ⟨g', cap', cur, h', h1, h2, h3, h4, h5, h6⟩
  · cases h'
  · have hg : g = g' := by injection h' with h'; injection h' with h'; injection h' with h'
    have hcap : cap = cap' := by injection h'
    subst hg hcap
    obtain ⟨cs', e1, e2, e3⟩ := setCells_blk g 9 vs i cur W h2
    refine ⟨by simp [encs]; omega, Or.inr ⟨g, cap, cs', rfl, h1, e1, by omega, h4, by rw [e2]; exact h5, ?_⟩⟩
    rw [Nat.mul_one] at h6 ⊢
    rw [e3]
    have := congrArg (List.take i) h6
    rw [List.take_take, Nat.min_eq_left hi] at this
    rw [this]
    simp [encs, List.map_take]

/-- what DeleteFunc has done when it comes to place j: i elements are kept -/
structure DelInv (p : ByteArray → Bool) (xs cur : List ByteArray) (i j : Nat) : Prop where
  len : cur.length = xs.length
  le : j ≤ xs.length
  lt : i < j
  kept : cur.take i = (xs.take j).filter fun x => !p x
  rest : cur.drop j = xs.drop j
theorem DelInv.start {p : ByteArray → Bool} {xs : List ByteArray} {k : Nat} (hk : k < xs.length) (h : ∀ x ∈ xs.take k, p x = false) (hp : p xs[k] = true) : DelInv p xs xs k (k + 1) := by
  refine ⟨rfl, by omega, by omega, ?_, rfl⟩
  rw [List.take_succ_eq_append_getElem hk, List.filter_append, List.filter_eq_self.2 (fun x hx => by simp [h x hx])]
  simp [hp]
theorem DelInv.get {p : ByteArray → Bool} {xs cur : List ByteArray} {i j : Nat} (h : DelInv p xs cur i j) (hj : j < xs.length) : cur[j]'(by rw [h.len]; exact hj) = xs[j] := by
  have := congrArg (fun l => l[0]?) h.rest
  simp only [List.getElem?_drop, Nat.add_zero] at this
  rw [List.getElem?_eq_getElem hj, List.getElem?_eq_getElem (by rw [h.len]; exact hj)] at this
  exact Option.some.inj this
theorem drop_next {α : Type} {a b : List α} {j : Nat} (h : a.drop j = b.drop j) : a.drop (j + 1) = b.drop (j + 1) := by
  have := congrArg (List.drop 1) h
  rwa [List.drop_drop, List.drop_drop] at this
theorem DelInv.skip {p : ByteArray → Bool} {xs cur : List ByteArray} {i j : Nat} (h : DelInv p xs cur i j) (hj : j < xs.length) (hp : p xs[j] = true) : DelInv p xs cur i (j + 1) := by
  refine ⟨h.len, by omega, by have := h.lt; omega, ?_, drop_next h.rest⟩
  rw [List.take_succ_eq_append_getElem hj, List.filter_append, h.kept]
  simp [hp]
theorem DelInv.keep {p : ByteArray → Bool} {xs cur : List ByteArray} {i j : Nat} (h : DelInv p xs cur i j) (hj : j < xs.length) (hp : p xs[j] = false) : DelInv p xs (cur.set i xs[j]) (i + 1) (j + 1) := by
  have hlt := h.lt
  have hlen := h.len
  refine ⟨by simp [h.len], by omega, by omega, ?_, ?_⟩
  · have hi : i < (cur.set i xs[j]).length := by simp; omega
    rw [List.take_succ_eq_append_getElem hi, List.take_set_of_le (Nat.le_refl _), h.kept, List.take_succ_eq_append_getElem hj, List.filter_append]
    simp [hp]
  · rw [List.drop_set_of_lt (by omega)]
    exact drop_next h.rest
theorem idxV_ok (p : ByteArray → Bool) (l : List ByteArray) : (idxV p l = -1 ∧ ∀ x ∈ l, p x = false) ∨ ∃ (k : Nat) (h : k < l.length), idxV p l = (k : Int) ∧ (∀ x ∈ l.take k, p x = false) ∧ p l[k] = true := by
  unfold idxV
  induction l with
  | nil => exact Or.inl ⟨rfl, by simp⟩
  | cons x l ih =>
    cases hx : p x with
    | true => exact Or.inr ⟨0, by simp, by rw [idxP, if_pos hx], by simp, hx⟩
    | false =>
      rw [idxP, if_neg (by simp [hx])]
      rcases ih with ⟨e, ha⟩ | ⟨k, hk, e, ha, hp⟩
      · refine Or.inl ⟨?_, fun y hy => ?_⟩
        · cases hi : idxP p l with
          | none => rfl
          | some k => rw [hi] at e; simp at e
        · rcases List.mem_cons.1 hy with rfl | hy
          · exact hx
          · exact ha y hy
      · refine Or.inr ⟨k + 1, by simpa using hk, ?_, ?_, hp⟩
        · cases hi : idxP p l with
          | none => rw [hi] at e; simp at e
          | some m =>
            rw [hi] at e
            have e : (m : Int) = (k : Int) := e
            obtain rfl : m = k := by omega
            rfl
        · intro y hy
          rw [List.take_succ_cons] at hy
          rcases List.mem_cons.1 hy with rfl | hy
          · exact hx
          · exact ha y hy

/-- what DeleteFunc hands back -/
def DelAns (B : Nat) (p : ByteArray → Bool) (xs : List ByteArray) (v : Value) (w : World) (e : Ending) (w' : World) : Prop :=
  ∃ v', e = .returned v' ∧ w'.ownsRow B 9 1 v' (xs.filter fun x => !p x).length (encs Value.string (xs.filter fun x => !p x)) ∧ (v'.ownBlock = v.ownBlock) ∧ w.grownBy w' v.ownBlock

set_option maxHeartbeats 4000000 in
set_option maxRecDepth 100000 in
theorem delf_calls (g : Nat) (lb : Array Value) (eg : ∀ args w, (callFunc g args).run Tryz.prog w = .ok (.enter g args) w) (p : ByteArray → Bool) (v : Value) (B : Nat) (xs : List ByteArray) (w : World)
    (hv : w.ownsRow B 9 1 v xs.length (encs Value.string xs)) (hsz : xs.length ≤ 1000000000) (hp : ∀ W, w.grownBy W v.ownBlock → ∀ x ∈ xs, PredB g lb p x W) :
    Calls Tryz.prog 13 #[v, .func (.func g) #[] lb] w (DelAns B p xs v w) := by
  have HP := Aside0.mk hp
  have HI := Aside0.mk (idxf_calls g lb eg p v B xs w hv hsz (fun W hW => hp W (grown_of_below hW _)))
  have HV := Aside0.mk hv
  clear hp
  rcases idxV_ok p xs with ⟨e1, hall⟩ | ⟨k, hk, e1, hall, hpk⟩
  · rw [e1] at HI
    have HF := Aside0.mk (show (xs.filter fun x => !p x) = xs from List.filter_eq_self.2 (fun x hx => by simp [hall x hx]))
    clear e1 hall HP
    obtain ⟨A, c, rfl⟩ := own_slice hv
    clear hv
    go_enter Tryz.func13, Tryz.ntmps13
    go_wp2_with fail
    refine HI.out.mono ?_
    rintro e w1 ⟨rfl, hb1⟩
    have HB := Aside0.mk hb1
    clear hb1 HI
    go_wp2
    go_ret
    exact ⟨_, rfl, by rw [HF.out]; exact pw_own_below HV.out HB.out, rfl, grown_of_below HB.out _⟩
  · rw [e1] at HI
    have HS := Aside0.mk (DelInv.start hk hall hpk)
    have hne1 : ((k : Int) == -1) = false := beq_eq_false_iff_ne.2 (by omega)
    have hkz : (k : Int) + 1 ≤ 1000000000 := by omega
    clear e1 hall hpk
    rcases hv.2 with ⟨rfl, h0⟩ | ⟨gb, cap, cur0, rfl, h1, h2, h3, h4, _, _⟩
    · omega
    have hcapn : xs.length ≤ cap := h3
    have hcapm : cap ≤ 9223372036854775807 := h4
    have HBG := Aside0.mk h1
    clear hv h1 h2 h3 h4
    go_enter Tryz.func13, Tryz.ntmps13
    go_wp2_with fail
    refine HI.out.mono ?_
    rintro e w1 ⟨rfl, hb1⟩
    have HB := Aside0.mk hb1
    clear hb1 HI
    go_wp2
    go_loopw [5, 6, 7] (fun s5 s6 _ wr => ∃ (i j : Nat) (cur : List ByteArray), s5 = .int .i64 i ∧ s6 = .int .i64 j ∧ i < j ∧ j ≤ xs.length ∧ Aside0 (DelInv p xs cur i j) ∧ Aside0 (wr.ownsRow B 9 1 (.slice (some ⟨gb, 0, none⟩) xs.length cap) xs.length (encs Value.string cur)) ∧ Aside0 (w.grownBy wr (some gb))) (fun _ s6 _ _ => xs.length - (intOf s6).toNat)
    case atStart => exact ⟨k, k + 1, xs, rfl, by go_num, by omega, by omega, HS, ⟨pw_own_below HV.out HB.out⟩, ⟨grown_of_below HB.out _⟩⟩
    case round =>
      clear HB HS
      obtain ⟨i, j, cur, rfl, rfl, hij, hj, HD, HO, HG⟩ := hrel
      by_cases hlt : j < xs.length
      · have hcl : j < cur.length := by rw [HD.out.len]; exact hlt
        obtain ⟨cj, fj⟩ := own_at_of (d := (⟨#[]⟩ : ByteArray)) HO.out (j : Int) (Int.natCast_nonneg _) (by omega)
        have hx : rdOf (⟨#[]⟩ : ByteArray) cur (j : Int) = xs[j] := by
          rw [← HD.out.get hlt]
          unfold rdOf; rw [Int.toNat_natCast, List.getD_eq_getElem?_getD, List.getElem?_eq_getElem hcl]; rfl
        rw [hx, Int.toNat_natCast] at cj
        clear hx fj
        have HC := Aside0.mk (HP.out _ (by exact HG.out) xs[j] (List.getElem_mem hlt))
        unfold PredB at HC
        have HDK := Aside0.mk (fun hq : p xs[j] = false => HD.out.keep hlt hq)
        have HDS := Aside0.mk (fun hq : p xs[j] = true => HD.out.skip hlt hq)
        have hltz : (j : Int) < (xs.length : Int) := by omega
        generalize xs[j] = x at *
        clear HD
        go_wp2_with fail
        refine HC.out.mono ?_
        rintro e w2 ⟨rfl, hb2⟩
        have HO2 := Aside0.mk (pw_own_below HO.out hb2)
        have HG2 := Aside0.mk (show w.grownBy w2 (some gb) from ⟨hb2.os.trans HG.out.os, hb2.tape.trans HG.out.tape, hb2.output.trans HG.out.output, Nat.le_trans HG.out.size hb2.size, fun k hk hn => (hb2.block k (Nat.lt_of_lt_of_le hk HG.out.size)).trans (HG.out.block k hk hn)⟩)
        clear hb2 HC HO HG cj
        cases hq : p x with
        | true =>
          have HD2 := Aside0.mk (HDS.out hq)
          clear hq HDS HDK
          go_wp2
          go_roundw
          case rel => exact ⟨i, j + 1, cur, rfl, by go_num, by omega, by omega, HD2, HO2, HG2⟩
          case measure => simp [intOf]; omega
        | false =>
          have HD2 := Aside0.mk (HDK.out hq)
          clear hq HDS HDK
          obtain ⟨ci, fi⟩ := own_at_of (d := (⟨#[]⟩ : ByteArray)) HO2.out (i : Int) (Int.natCast_nonneg _) (by omega)
          obtain ⟨hs1, hs2⟩ := own_store_of HO2.out (i : Int) x
          rw [Int.toNat_natCast] at ci fi hs1 hs2
          have HO3 := Aside0.mk hs1
          have HG3 := Aside0.mk (show w.grownBy (w2.setCell ⟨gb, i, none⟩ (.string x)) (some gb) from ⟨hs2.os.trans HG2.out.os, hs2.tape.trans HG2.out.tape, hs2.output.trans HG2.out.output, Nat.le_trans HG2.out.size hs2.size, fun k hk hn => (hs2.block k (Nat.lt_of_lt_of_le hk HG2.out.size) hn).trans (HG2.out.block k hk hn)⟩)
          clear hs1 hs2 HO2 HG2
          have hiz : (i : Int) < (xs.length : Int) := by omega
          go_wp2
          go_roundw
          case rel => exact ⟨i + 1, j + 1, _, by go_num, by go_num, by omega, by omega, HD2, HO3, HG3⟩
          case measure => simp [intOf]; omega
      · obtain rfl : j = xs.length := by omega
        have hil : i ≤ xs.length := by omega
        have HCL : Aside0 (∀ ty, (Builtin.clear_ #[25] ty #[.slice (some ⟨gb, i, none⟩) (xs.length - i) (cap - i)]).run Tryz.prog wr = .ok (.tuple #[]) (wr.setCells gb i (List.replicate (xs.length - i) (.string ⟨#[]⟩)))) := ⟨fun ty => by
          have hat : ∀ t, t < xs.length - i → wr.cell? ⟨gb, i + t, none⟩ = some (.string (rdOf (⟨#[]⟩ : ByteArray) cur ((i + t : Nat) : Int))) ∧ wr.frozen? ⟨gb, i + t, none⟩ = false := fun t ht => by
            have := own_at_of (d := (⟨#[]⟩ : ByteArray)) HO.out ((i + t : Nat) : Int) (Int.natCast_nonneg _) (by omega)
            rwa [Int.toNat_natCast] at this
          exact Lib.run_clear_slice wr _ _ ty _ Tryz.underlying25 Tryz.zeroValue9 rfl rfl gb i _ _ (by omega) (fun t ht => by rw [(hat t ht).1]; rfl) (fun t ht => (hat t ht).2)⟩
        have HK := Aside0.mk (show cur.take i = xs.filter fun x => !p x by rw [HD.out.kept, List.take_length])
        have HO3 := Aside0.mk (own_cut HO.out hil (List.replicate (xs.length - i) (.string ⟨#[]⟩)))
        have HL := Aside0.mk (show (xs.filter fun x => !p x).length = i by rw [← HK.out, List.length_take, HD.out.len]; omega)
        have HG3 := Aside0.mk (setCells_grown gb (List.replicate (xs.length - i) (.string ⟨#[]⟩)) i wr)
        have hclr := HCL.out
        have hiz : (i : Int) ≤ (xs.length : Int) := by omega
        have hicap : (i : Int) ≤ (cap : Int) := by omega
        have hcapz : (cap : Int) ≤ 9223372036854775807 := by omega
        clear HCL HO HD
        go_wp2
        go_ret
        refine ⟨.slice (some ⟨gb, 0, none⟩) i cap, rfl, ?_, rfl, ?_⟩
        · rw [HL.out, ← HK.out]; exact HO3.out
        · exact ⟨HG3.out.os.trans HG.out.os, HG3.out.tape.trans HG.out.tape, HG3.out.output.trans HG.out.output, Nat.le_trans HG.out.size HG3.out.size, fun k hk hn => (HG3.out.block k (Nat.lt_of_lt_of_le hk HG.out.size) hn).trans (HG.out.block k hk hn)⟩
end Go.Proofs.YtkmoeeaaolpdnaaGreatDoor

namespace Go.Proofs.YtkmoeeaaolpdnaaGreatDoor
open Go.Lib

/-- the pieces between the slashes -/
def cutAll : List UInt8 → List (List UInt8)
  | [] => [[]]
  | b :: l => if b = 47 then [] :: cutAll l else (b :: (cutAll l).headD []) :: (cutAll l).tail
theorem cutAll_ne (l : List UInt8) : cutAll l ≠ [] := by
  cases l with
  | nil => simp [cutAll]
  | cons b l => rw [cutAll]; split <;> simp
theorem cutAll_app (a b : List UInt8) : cutAll (a ++ 47 :: b) = cutAll a ++ cutAll b := by
  induction a with
  | nil => simp [cutAll]
  | cons x a ih =>
    by_cases h : x = 47
    · subst h
      simp only [List.cons_append, cutAll, if_pos]
      rw [ih]
    · rw [List.cons_append, cutAll, if_neg h, ih, cutAll, if_neg h]
      obtain ⟨y, r, hy⟩ := List.exists_cons_of_ne_nil (cutAll_ne a)
      rw [hy]; rfl
theorem cutAll_none {a : List UInt8} (h : (47 : UInt8) ∉ a) : cutAll a = [a] := by
  induction a with
  | nil => rfl
  | cons x a ih =>
    rw [List.mem_cons, not_or] at h
    rw [cutAll, if_neg (fun e => h.1 e.symm), ih h.2]
    rfl
theorem mem_cutAll {l x : List UInt8} (h : x ∈ cutAll l) : (47 : UInt8) ∉ x := by
  induction l generalizing x with
  | nil =>
    have h : x ∈ [([] : List UInt8)] := h
    rw [List.mem_singleton.1 h]; simp
  | cons b l ih =>
    obtain ⟨y, r, hy⟩ := List.exists_cons_of_ne_nil (cutAll_ne l)
    rw [cutAll] at h
    by_cases hb : b = 47
    · rw [if_pos hb] at h
      rcases List.mem_cons.1 h with rfl | h
      · simp
      · exact ih h
    · rw [if_neg hb, hy] at h
      rcases List.mem_cons.1 h with rfl | h
      · have := ih (x := y) (by rw [hy]; simp)
        simp only [List.headD_cons, List.mem_cons, not_or]
        exact ⟨fun e => hb e.symm, this⟩
      · exact ih (by rw [hy]; exact List.mem_cons_of_mem _ h)
theorem cutAll_len (l : List UInt8) : (cutAll l).length ≤ l.length + 1 := by
  induction l with
  | nil => simp [cutAll]
  | cons b l ih =>
    rw [cutAll]
    split
    · simp; omega
    · simp; omega
theorem cutAll_size {l x : List UInt8} (h : x ∈ cutAll l) : x.length ≤ l.length := by
  induction l generalizing x with
  | nil =>
    have h : x ∈ [([] : List UInt8)] := h
    rw [List.mem_singleton.1 h]; simp
  | cons b l ih =>
    obtain ⟨y, r, hy⟩ := List.exists_cons_of_ne_nil (cutAll_ne l)
    rw [cutAll] at h
    by_cases hb : b = 47
    · rw [if_pos hb] at h
      rcases List.mem_cons.1 h with rfl | h
      · simp
      · have := ih h; simp; omega
    · rw [if_neg hb, hy] at h
      rcases List.mem_cons.1 h with rfl | h
      · have := ih (x := y) (by rw [hy]; simp)
        simp only [List.headD_cons, List.length_cons]; omega
      · have := ih (x := x) (by rw [hy]; exact List.mem_cons_of_mem _ h)
        simp; omega

theorem ix_one (c : UInt8) (l : List UInt8) : (index l [c] = -1 ∧ c ∉ l) ∨ ∃ a b, l = a ++ c :: b ∧ c ∉ a ∧ index l [c] = (a.length : Int) := by
  induction l with
  | nil => exact Or.inl ⟨rfl, by simp⟩
  | cons x l ih =>
    by_cases h : c = x
    · subst h
      exact Or.inr ⟨[], l, rfl, by simp, by simp [index, List.isPrefixOf]⟩
    · have hp : ([c] : List UInt8).isPrefixOf (x :: l) = false := by simp [List.isPrefixOf, h]
      rcases ih with ⟨h1, h2⟩ | ⟨a, b, rfl, h2, h3⟩
      · refine Or.inl ⟨by simp [index, hp, h1], by simp [h, h2]⟩
      · refine Or.inr ⟨x :: a, b, rfl, by simp [h, h2], ?_⟩
        have hm : ¬ ((a.length : Int) == -1) = true := fun e => by have := beq_iff_eq.1 e; omega
        rw [index, if_neg (by simp [hp]), h3, if_neg hm]; simp
theorem ib_one (c : UInt8) (l : List UInt8) : (indexByte l c = -1 ∧ c ∉ l) ∨ ∃ a b, l = a ++ c :: b ∧ c ∉ a ∧ indexByte l c = (a.length : Int) := by
  rcases ix_one c l with ⟨_, h⟩ | ⟨a, b, rfl, h, _⟩
  · refine Or.inl ⟨?_, h⟩
    have hge := indexByte_ge l c
    by_cases hm : indexByte l c = -1
    · exact hm
    · have := (indexByte_some (o := (indexByte l c).toNat) (l := l) (c := c) (by omega)).1
      exact absurd (List.mem_of_getElem? this) h
  · refine Or.inr ⟨a, b, rfl, h, ?_⟩
    have hge := indexByte_ge (a ++ c :: b) c
    by_cases hm : indexByte (a ++ c :: b) c = -1
    · exact absurd (by simp) (indexByte_none hm a.length)
    · have h2 := indexByte_some (o := (indexByte (a ++ c :: b) c).toNat) (l := a ++ c :: b) (c := c) (by omega)
      by_cases h3 : (indexByte (a ++ c :: b) c).toNat = a.length
      · omega
      · exfalso
        by_cases h4 : (indexByte (a ++ c :: b) c).toNat < a.length
        · have := h2.1
          rw [List.getElem?_append_left h4] at this
          exact h (List.mem_of_getElem? this)
        · exact h2.2 a.length (by omega) (by simp)
theorem splitK_one (n : Nat) : ∀ l : List UInt8, l.length ≤ n → splitK [47] 0 (count l [47]) l = cutAll l := by
  induction n with
  | zero =>
    intro l hl
    obtain rfl := List.eq_nil_of_length_eq_zero (Nat.le_zero.1 hl)
    rw [count_miss (by simp [index])]; rfl
  | succ n ih =>
    intro l hl
    rcases ix_one 47 l with ⟨h1, h2⟩ | ⟨a, b, rfl, h2, h3⟩
    · rw [count_miss h1, cutAll_none h2]; rfl
    · have hd : (a ++ 47 :: b).drop (a.length + ([47] : List UInt8).length) = b := by
        rw [List.length_singleton, ← List.drop_drop, List.drop_left]; rfl
      have hm : ¬ ((a.length : Int) == -1) = true := fun e => by have := beq_iff_eq.1 e; omega
      rw [count_hit (by simp) h3, Nat.add_comm 1, splitK, h3, if_neg hm, Int.toNat_natCast, hd, ih b (by simp at hl; omega), Nat.add_zero, List.take_left, cutAll_app, cutAll_none h2]
      rfl

/-- the pieces of a string, and those that are not empty -/
def pcs (s : ByteArray) : List ByteArray := (cutAll (bl s)).map fun l => ⟨l.toArray⟩
def isE (x : ByteArray) : Bool := x.toList.isEmpty
def elts (s : ByteArray) : List ByteArray := (pcs s).filter fun x => !isE x
theorem isE_mk (l : List UInt8) : isE ⟨l.toArray⟩ = l.isEmpty := by unfold isE; rw [ByteArray.toList_eq]
theorem split_pcs (s : ByteArray) : splitB ⟨#[47]⟩ 0 (countB s ⟨#[47]⟩) s = pcs s := by
  have h := splitB_data ⟨#[47]⟩ 0 (countB s ⟨#[47]⟩) s
  have h2 : splitK [47] 0 (countB s ⟨#[47]⟩) s.data.toList = cutAll (bl s) := splitK_one _ (bl s) (Nat.le_refl _)
  have h3 : (splitB ⟨#[47]⟩ 0 (countB s ⟨#[47]⟩) s).map (·.data.toList) = cutAll (bl s) := h.trans h2
  unfold pcs
  rw [← h3, List.map_map]
  generalize splitB ⟨#[47]⟩ 0 (countB s ⟨#[47]⟩) s = L
  induction L with
  | nil => rfl
  | cons x L ih => rw [List.map_cons, ← ih]; rfl
theorem pcs_len (s : ByteArray) : (pcs s).length ≤ s.size + 1 := by
  unfold pcs
  rw [List.length_map, ← bl_length]
  exact cutAll_len _
theorem pcs_size {s x : ByteArray} (h : x ∈ pcs s) : x.size ≤ s.size := by
  obtain ⟨l, hl, rfl⟩ := List.mem_map.1 h
  have := cutAll_size hl
  rw [bl_length] at this
  show l.toArray.size ≤ s.size
  rw [List.size_toArray]; exact this
theorem elts_size {s x : ByteArray} (h : x ∈ elts s) : x.size ≤ s.size := pcs_size (List.mem_filter.1 h).1

/-- the elements of a list of bytes -/
def el (l : List UInt8) : List (List UInt8) := (cutAll l).filter fun x => !x.isEmpty
theorem elts_el (s : ByteArray) : elts s = (el (bl s)).map fun l => ⟨l.toArray⟩ := by
  unfold elts pcs el
  rw [List.filter_map]
  congr 1
  apply List.filter_congr
  intro x _
  simp [isE_mk]
theorem el_app (a b : List UInt8) : el (a ++ 47 :: b) = el a ++ el b := by unfold el; rw [cutAll_app, List.filter_append]
theorem el_nil : el [] = [] := rfl
theorem el_one {a : List UInt8} (h : (47 : UInt8) ∉ a) (hne : a ≠ []) : el a = [a] := by
  unfold el
  rw [cutAll_none h]
  cases a with
  | nil => exact absurd rfl hne
  | cons b a => rfl
/-- an element -/
def IsEl (x : List UInt8) : Prop := x ≠ [] ∧ (47 : UInt8) ∉ x
theorem mem_el {l x : List UInt8} (h : x ∈ el l) : IsEl x := by
  unfold el at h
  have h2 := List.mem_filter.1 h
  exact ⟨fun e => by rw [e] at h2; simp at h2, mem_cutAll h2.1⟩
theorem el_join (l : List (List UInt8)) (h : ∀ x ∈ l, IsEl x) : el (join l [47]) = l := by
  induction l with
  | nil => simp [join, el_nil]
  | cons x l ih =>
    have hx := h x (by simp)
    cases l with
    | nil => simp [join]; exact el_one hx.2 hx.1
    | cons y l =>
      have e : join (x :: y :: l) [47] = x ++ 47 :: join (y :: l) [47] := by simp [join, List.intercalate, List.intersperse]
      rw [e, el_app, el_one hx.2 hx.1, ih fun z hz => h z (by simp [hz])]
      rfl
theorem el_path (l : List (List UInt8)) (h : ∀ x ∈ l, IsEl x) : el (47 :: join l [47]) = l := by
  have := el_app [] (join l [47])
  rw [List.nil_append, el_nil, List.nil_append] at this
  rw [this, el_join l h]
end Go.Proofs.YtkmoeeaaolpdnaaGreatDoor

namespace Go.Proofs.YtkmoeeaaolpdnaaGreatDoor
open Go.RowKit Go.Proofs.YtkmoeeaaolpdnaaGreatDoorW.PrintWords

theorem split_len (s : ByteArray) : (pcs s).length = Lib.countB s ⟨#[47]⟩ + 1 := by
  rw [← split_pcs]; exact Lib.splitB_all _ (Nat.le_refl _) 0 _ s rfl
/-- strings.Split at a slash: a row of its own that holds the pieces -/
theorem split_calls (s : ByteArray) (m : Int) (w : World) (hs : s.size ≤ 1048576) (hm : w.cell? ⟨0, 0, none⟩ = some (.int .i64 m)) :
    Calls Tryz.prog 14 #[.string s, .string ⟨#[47]⟩] w fun e w' => e = .returned (.slice (some ⟨w.heap.size, 0, none⟩) (pcs s).length (pcs s).length) ∧
      w'.ownsRow w.heap.size 9 1 (.slice (some ⟨w.heap.size, 0, none⟩) (pcs s).length (pcs s).length) (pcs s).length (encs Value.string (pcs s)) ∧ Below w.heap.size w w' := by
  refine (Tryz.strings_Split s ⟨#[47]⟩ m w (by omega) hm (Nat.le_refl _)).mono ?_
  rintro e w' ⟨he, hw⟩
  rw [← split_len] at he
  rw [split_pcs] at hw
  subst hw
  have := pcs_len s
  exact ⟨he, own_lit_of (enc := Value.string) w w.heap.size 9 (pcs s) (Nat.le_refl _) (by omega), below_alloc (Below.refl _ _) _⟩

/-- the components of a path -/
def comps (x : ByteArray) : List ByteArray := if x.toList == [47] then [] else pcs (x.extract 1 x.size)

set_option maxHeartbeats 4000000 in
set_option maxRecDepth 100000 in
theorem find1_calls (b B : Nat) (v : Value) (ps : List ByteArray) (x : ByteArray) (m : Int) (W : World) (hbox : W.heap[b]? = some (.cells #[v] 25 (0, 0))) (hv : W.ownsRow B 9 1 v ps.length (encs Value.string ps))
    (hm : W.cell? ⟨0, 0, none⟩ = some (.int .i64 m)) (hps : ∀ p ∈ ps, p.size ≤ 1000) (hx0 : 1 ≤ x.size) (hx1 : x.size ≤ 1000) :
    PredB 33 #[.pointer (some ⟨b, 0, none⟩)] (fun x => !(mc ps (comps x))) x W := by
  unfold PredB
  dsimp only
  obtain ⟨A, c, rfl, hle, hr⟩ := own_reads_of_le (d := (⟨#[]⟩ : ByteArray)) hv
  have HR := Aside0.mk hr
  have HBX := Aside0.mk hbox
  have HPS := Aside0.mk hps
  have hcb := (blk_cell hbox 0).trans rfl
  clear hv hr hbox hps
  cases hc : (x.toList == [47]) with
  | true =>
    have HM : Aside0 (∀ w, Below W.heap.size W w → Calls Tryz.prog 34 #[.slice A ps.length c, .slice none 0 0] w fun e w' => e = .returned (.bool (mc ps (comps x))) ∧ Below w.heap.size w w') := ⟨fun w hw => by
      have e1 : comps x = [] := by unfold comps; rw [if_pos hc]
      rw [e1]
      exact mc_calls (ps.length + 0) ps [] A none ps.length 0 c 0 w (Nat.le_refl _) hle (Nat.le_refl _) (HR.out.below hw) ⟨rfl, by simp, fun h => absurd h (Nat.lt_irrefl 0)⟩ HPS.out (by simp)⟩
    clear HPS
    generalize mc ps (comps x) = r at *
    go_enter Tryz.func33, Tryz.ntmps33
    go_wp2_with fail
    refine (HM.out _ (Below.refl _ _)).mono ?_
    rintro e w1 ⟨rfl, hb1⟩
    have HB1 := Aside0.mk hb1
    clear hb1 HM
    cases r with
    | true =>
      go_wp2
      go_ret
      exact ⟨rfl, HB1.out⟩
    | false =>
      go_wp2
      go_ret
      exact ⟨rfl, HB1.out⟩
  | false =>
    have HS := Aside0.mk (split_calls (x.extract 1 x.size) m W (by rw [ByteArray.size_extract]; omega) hm)
    have HM : Aside0 (∀ w, Below W.heap.size W w → w.ownsRow W.heap.size 9 1 (.slice (some ⟨W.heap.size, 0, none⟩) (pcs (x.extract 1 x.size)).length (pcs (x.extract 1 x.size)).length) (pcs (x.extract 1 x.size)).length (encs Value.string (pcs (x.extract 1 x.size))) →
        Calls Tryz.prog 34 #[.slice A ps.length c, .slice (some ⟨W.heap.size, 0, none⟩) (pcs (x.extract 1 x.size)).length (pcs (x.extract 1 x.size)).length] w fun e w' => e = .returned (.bool (mc ps (comps x))) ∧ Below w.heap.size w w') := ⟨fun w hw ho => by
      have e1 : comps x = pcs (x.extract 1 x.size) := by unfold comps; rw [if_neg (by rw [hc]; simp)]
      rw [e1]
      obtain ⟨A2, c2, e2, hle2, hr2⟩ := own_reads_of_le (d := (⟨#[]⟩ : ByteArray)) ho
      injection e2 with e2 e3 e4
      subst e2 e4
      exact mc_calls _ ps (pcs (x.extract 1 x.size)) A _ ps.length _ c _ w (Nat.le_refl _) hle hle2 (HR.out.below hw) hr2 HPS.out (fun p hp => by have := pcs_size hp; rw [ByteArray.size_extract] at this; omega)⟩
    have hxz : (1 : Int) ≤ (x.size : Int) := by omega
    clear HPS
    generalize mc ps (comps x) = r at *
    generalize (pcs (x.extract 1 x.size)) = qs at *
    go_enter Tryz.func33, Tryz.ntmps33
    go_wp2_with fail
    refine HS.out.mono ?_
    rintro e w1 ⟨rfl, ho1, hb1⟩
    have HM1 := Aside0.mk (HM.out _ hb1 ho1)
    have HB1 := Aside0.mk hb1
    have hcb1 := (blk_cell (blk_below HBX.out hb1) 0).trans rfl
    clear hb1 ho1 HM HS
    go_wp2_with fail
    refine HM1.out.mono ?_
    rintro e w2 ⟨rfl, hb2⟩
    have HB2 := Aside0.mk (below_then HB1.out HB1.out.size hb2)
    clear hb2 HM1 HB1
    cases r with
    | true =>
      go_wp2
      go_ret
      exact ⟨rfl, HB2.out⟩
    | false =>
      go_wp2
      go_ret
      exact ⟨rfl, HB2.out⟩
end Go.Proofs.YtkmoeeaaolpdnaaGreatDoor
