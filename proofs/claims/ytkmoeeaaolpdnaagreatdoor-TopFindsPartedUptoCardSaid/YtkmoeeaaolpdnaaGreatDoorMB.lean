/-
 The walk of path.ValidName: it returns whether a string is a valid name; a valid name is not empty and holds no slash.
 The walks of xattr.Code and xattr.Validate: the code is 0 just if the attributes are in order.
 The walk of fstree.entriesCode: its code is 0 just if the entries of a directory are in order.
 The walk of fstree.inodeCode: its code is 0 just if an inode is in order.
-/
import Derived.Laws.RangeString
import Derived.Laws.RangeAny
import Derived.Shelf.Abstract
import Derived.WalkLawsBesides
import Derived.IntWalk
import Derived.Test.YtkmoeeaaolpdnaaGreatDoorMA
import Derived.Test.YtkmoeeaaolpdnaaGreatDoorShelfB
import Derived.Test.YtkmoeeaaolpdnaaGreatDoorPTopFindsTwicex9
namespace Go.Proofs.YtkmoeeaaolpdnaaGreatDoor
open Go.RowKit Go.Proofs.YtkmoeeaaolpdnaaGreatDoorW.PrintWords

/-- a rune that no name may hold -/
def badR (x : Nat) : Bool := !(decide (97 ≤ x ∧ x ≤ 122) || decide (65 ≤ x ∧ x ≤ 90) || decide (48 ≤ x ∧ x ≤ 57) || decide (x = 46) || decide (x = 95) || decide (x = 45))
theorem badR_in {x : Nat} (h : (97 ≤ x ∧ x ≤ 122) ∨ (65 ≤ x ∧ x ≤ 90) ∨ (48 ≤ x ∧ x ≤ 57) ∨ x = 46 ∨ x = 95 ∨ x = 45) : badR x = false := by
  unfold badR
  rcases h with h | h | h | h | h | h <;> simp [h]
theorem badR_out {x : Nat} (h1 : ¬ (97 ≤ x ∧ x ≤ 122)) (h2 : ¬ (65 ≤ x ∧ x ≤ 90)) (h3 : ¬ (48 ≤ x ∧ x ≤ 57)) (h4 : x ≠ 46) (h5 : x ≠ 95) (h6 : x ≠ 45) : badR x = true := by
  unfold badR
  rw [decide_eq_false h1, decide_eq_false h2, decide_eq_false h3, decide_eq_false h4, decide_eq_false h5, decide_eq_false h6]; rfl

set_option maxHeartbeats 1000000 in
set_option maxRecDepth 100000 in
theorem bad_calls (x : Nat) (w : World) : Calls Tryz.prog 103 #[.int .i32 (x : Int)] w fun e w' => e = .returned (.bool (badR x)) ∧ w = w' := by
  by_cases h1 : 97 ≤ x ∧ x ≤ 122
  · have HB := Aside0.mk (badR_in (Or.inl h1))
    obtain ⟨h1, h1'⟩ := h1
    go_enter Tryz.func103, Tryz.ntmps103
    go_wp2
    go_ret
    exact ⟨by rw [HB.out]; rfl, rfl⟩
  · by_cases h2 : 65 ≤ x ∧ x ≤ 90
    · have HB := Aside0.mk (badR_in (Or.inr (Or.inl h2)))
      obtain ⟨h2, h2'⟩ := h2
      have h3 : ¬ 97 ≤ x := by omega
      clear h1
      go_enter Tryz.func103, Tryz.ntmps103
      go_wp2
      go_ret
      exact ⟨by rw [HB.out]; rfl, rfl⟩
    · by_cases h3 : 48 ≤ x ∧ x ≤ 57
      · have HB := Aside0.mk (badR_in (Or.inr (Or.inr (Or.inl h3))))
        obtain ⟨h3, h3'⟩ := h3
        have h4 : ¬ 97 ≤ x := by omega
        have h5 : ¬ 65 ≤ x := by omega
        clear h1 h2
        go_enter Tryz.func103, Tryz.ntmps103
        go_wp2
        go_ret
        exact ⟨by rw [HB.out]; rfl, rfl⟩
      · by_cases h4 : x = 46 ∨ x = 95 ∨ x = 45
        · have HB := Aside0.mk (badR_in (Or.inr (Or.inr (Or.inr h4))))
          clear h1 h2 h3
          rcases h4 with rfl | rfl | rfl
          · go_enter Tryz.func103, Tryz.ntmps103
            go_wp2
            go_ret
            exact ⟨by rw [HB.out]; rfl, rfl⟩
          · go_enter Tryz.func103, Tryz.ntmps103
            go_wp2
            go_ret
            exact ⟨by rw [HB.out]; rfl, rfl⟩
          · go_enter Tryz.func103, Tryz.ntmps103
            go_wp2
            go_ret
            exact ⟨by rw [HB.out]; rfl, rfl⟩
        · have HB := Aside0.mk (badR_out h1 h2 h3 (fun e => h4 (Or.inl e)) (fun e => h4 (Or.inr (Or.inl e))) (fun e => h4 (Or.inr (Or.inr e))))
          have e1 : ((x : Int) == 46) = false := by rw [beq_eq_false_iff_ne]; omega
          have e2 : ((x : Int) == 95) = false := by rw [beq_eq_false_iff_ne]; omega
          have e3 : ((x : Int) == 45) = false := by rw [beq_eq_false_iff_ne]; omega
          go_enter Tryz.func103, Tryz.ntmps103
          go_wp2
          all_goals first
            | omega
            | (go_ret; exact ⟨by rw [HB.out]; rfl, rfl⟩)

/-- a valid name -/
def vName (s : ByteArray) : Bool := decide (1 ≤ s.size) && decide (s.size ≤ 12) && !(s.toList == [46]) && !(s.toList == [46, 46]) && !(decide (0 ≤ Lib.idxFunc badR true s))

set_option maxHeartbeats 1000000 in
set_option maxRecDepth 100000 in
theorem vname_calls (s : ByteArray) (w : World) : Calls Tryz.prog 101 #[.string s] w fun e w' => e = .returned (.bool (vName s)) ∧ Below w.heap.size w w' := by
  have HC := Aside0.mk (Tryz.strings_ContainsFunc_grows 103 #[] (enters_of Tryz.func103 (by kernel_rfl) rfl) badR s w (fun W x _ _ => (bad_calls x W).mono fun _ _ ⟨he, hw⟩ => ⟨he, hw ▸ Below.refl _ _⟩))
  by_cases h1 : 1 ≤ s.size
  · by_cases h2 : s.size ≤ 12
    · cases h3 : (s.toList == [46]) with
      | true =>
        have HV := Aside0.mk (show vName s = false by unfold vName; rw [h3]; simp)
        go_enter Tryz.func101, Tryz.ntmps101
        go_wp2
        go_ret
        exact ⟨by rw [HV.out]; rfl, Below.refl _ _⟩
      | false =>
        cases h4 : (s.toList == [46, 46]) with
        | true =>
          have HV := Aside0.mk (show vName s = false by unfold vName; rw [h4]; simp)
          go_enter Tryz.func101, Tryz.ntmps101
          go_wp2
          go_ret
          exact ⟨by rw [HV.out]; rfl, Below.refl _ _⟩
        | false =>
          have HV := Aside0.mk (show vName s = !(decide (0 ≤ Lib.idxFunc badR true s)) by unfold vName; rw [h3, h4, decide_eq_true h1, decide_eq_true h2]; rfl)
          go_enter Tryz.func101, Tryz.ntmps101
          go_wp2_with fail
          refine HC.out.mono ?_
          rintro e w' ⟨rfl, hb⟩
          have HB := Aside0.mk hb
          clear hb
          generalize decide (0 ≤ Lib.idxFunc badR true s) = b at *
          go_wp2
          go_ret
          exact ⟨by rw [HV.out]; rfl, HB.out⟩
    · have HV := Aside0.mk (show vName s = false by unfold vName; rw [decide_eq_false h2]; simp)
      go_enter Tryz.func101, Tryz.ntmps101
      go_wp2
      go_ret
      exact ⟨by rw [HV.out]; rfl, Below.refl _ _⟩
  · have HV := Aside0.mk (show vName s = false by unfold vName; rw [decide_eq_false h1]; rfl)
    go_enter Tryz.func101, Tryz.ntmps101
    go_wp2
    go_ret
    exact ⟨by rw [HV.out]; rfl, Below.refl _ _⟩

theorem idx_none (s : ByteArray) : ∀ (f pos : Nat), s.size ≤ pos + f → Lib.idxFuncFrom badR true s f pos < 0 → ∀ i (h : i < s.size), pos ≤ i → s[i] ≠ 47 := by
  intro f
  induction f with
  | zero => intro pos h1 _ i h hi; omega
  | succ f ih =>
    intro pos h1 h2 i h hi
    unfold Lib.idxFuncFrom at h2
    have hp : pos < s.size := by omega
    rw [if_pos hp] at h2
    by_cases hb : badR (Utf8.decode s pos).1 = true
    · rw [if_pos hb] at h2; omega
    · rw [if_neg hb] at h2
      by_cases ha : (s[pos]'hp).toNat < 128
      · have hd := decode_ascii s pos hp ha
        rw [hd] at h2 hb
        by_cases e : pos = i
        · subst e
          intro e47
          rw [e47] at hb
          exact hb rfl
        · exact ih (pos + 1) (by omega) h2 i h (by omega)
      · have hd := decode_high s pos hp (by omega)
        exfalso
        exact hb (badR_out (by omega) (by omega) (by omega) (by omega) (by omega) (by omega))
theorem vName_facts {s : ByteArray} (h : vName s = true) : 1 ≤ s.size ∧ s.size ≤ 12 ∧ (47 : UInt8) ∉ s.data.toList := by
  unfold vName at h
  simp only [Bool.and_eq_true, decide_eq_true_eq, Bool.not_eq_true'] at h
  obtain ⟨⟨⟨⟨h1, h2⟩, _⟩, _⟩, h5⟩ := h
  refine ⟨h1, h2, fun hm => ?_⟩
  have h6 := of_decide_eq_false h5
  obtain ⟨i, hi, e⟩ := List.getElem_of_mem hm
  have hl : i < s.size := by rw [← data_length]; exact hi
  exact idx_none s s.size 0 (by omega) (by unfold Lib.idxFunc at h6; omega) i hl (Nat.zero_le _) e

end Go.Proofs.YtkmoeeaaolpdnaaGreatDoor

namespace Go.Proofs.YtkmoeeaaolpdnaaGreatDoor
open Go.RowKit Go.Proofs.YtkmoeeaaolpdnaaGreatDoorW.PrintWords Go.Proofs.YtkmoeeaaolpdnaaGreatDoor.PTopFindsTwice

def aCode (a : S134) : Int := if vName a.f0 = true then (if 20 < a.f1.size then 10 else 0) else 12

set_option maxHeartbeats 1000000 in
set_option maxRecDepth 100000 in
theorem acode_calls (a : S134) (w : World) : Calls Tryz.prog 100 #[.agg #[.string a.f0, .string a.f1]] w fun e w' => e = .returned (.int .i64 (aCode a)) ∧ Below w.heap.size w w' := by
  obtain ⟨nm, v⟩ := a
  have HC : ∀ W, Calls Tryz.prog 101 #[.string nm] W fun e w' => e = .returned (.bool (vName nm)) ∧ Below W.heap.size W w' := fun W => vname_calls nm W
  have HA := Aside0.mk HC
  have HD := Aside0.mk (show aCode ⟨nm, v⟩ = (if vName nm = true then (if 20 < v.size then 10 else 0) else 12) from rfl)
  clear HC
  generalize aCode ⟨nm, v⟩ = C at *
  generalize vName nm = b at *
  go_enter Tryz.func100, Tryz.ntmps100
  go_wp2_with fail
  refine (HA.out _).mono ?_
  rintro e w1 ⟨rfl, hb1⟩
  have T := (show w1.heap[w.heap.size]? = some (.cells #[.string nm, .string v] 134 (0, 0)) from (hb1.block _ (by simp)).trans (heap_alloc_new w _))
  have hc1 := blk_cell T 1
  simp only [List.getElem?_toArray, List.getElem?_cons_succ, List.getElem?_cons_zero] at hc1
  have HB := Aside0.mk (below_then ((Below.refl _ _).alloc (Nat.le_refl _) _) (by simp) hb1)
  clear hb1 T HA
  cases b with
  | false =>
    go_wp2
    go_ret
    exact ⟨by rw [HD.out]; rfl, HB.out⟩
  | true =>
    by_cases h : 20 < v.size
    · have HD2 := Aside0.mk (show C = 10 by rw [HD.out, if_pos rfl, if_pos h])
      clear HD
      go_wp2
      go_ret
      exact ⟨by rw [HD2.out]; rfl, HB.out⟩
    · have HD2 := Aside0.mk (show C = 0 by rw [HD.out, if_pos rfl, if_neg h])
      clear HD
      go_wp2
      go_ret
      exact ⟨by rw [HD2.out]; rfl, HB.out⟩

theorem fault_calls (c i : Int) (w : World) : Calls Tryz.prog 99 #[.int .i64 c, .int .i64 i] w fun e w' => e = .returned (fltV c i) ∧ Below w.heap.size w w' := by
  go_enter Tryz.func99, Tryz.ntmps99
  go_wp2
  exact bodyPost_ret (v := fltV c i) (by simp [results, Tryz.results99, go_sem]) rfl ⟨rfl, by first | exact (Below.refl _ _).alloc (Nat.le_refl _) _ | exact Below.refl _ _⟩

/-- a fault that tells whether something holds -/
def FltAns (ok : Prop) (e : Ending) : Prop := ∃ cd ix : Int, e = .returned (fltV cd ix) ∧ ((cd = 0 ∧ ix = 0 ∧ ok) ∨ (cd ≠ 0 ∧ ¬ ok))
abbrev rdA (l : List S134) (j : Nat) : S134 := rd_T134 l (j : Int)
def attrB (l : List S134) (j : Nat) : Bool := (aCode (rdA l j) == 0) && !((rdA l j).f1.toList.isEmpty) && !(decide (0 < j) && !(Op.bytesLess (rdA l (j - 1)).f0.toList (rdA l j).f0.toList))
def AttrsOk (l : List S134) : Prop := l.length ≤ 6 ∧ ∀ j, j < l.length → attrB l j = true
theorem attrs_not {l : List S134} {k : Nat} (hk : k < l.length) (h : attrB l k = false) : ¬ AttrsOk l := fun ⟨_, g⟩ => by rw [g k hk] at h; cases h

set_option maxHeartbeats 2000000 in
set_option maxRecDepth 100000 in
theorem aval_calls (A : Option Addr) (c : Nat) (l : List S134) (w : World) (hr : Kd.C k134 w A l.length l) (hc : l.length ≤ c) :
    Calls Tryz.prog 89 #[.slice A l.length c] w fun e w' => FltAns (AttrsOk l) e ∧ Below w.heap.size w w' := by
  have HR := Aside0.mk hr
  have HC := Aside0.mk hc
  have AT := Aside0.mk (Two.new w (.int .i64 0) (.int .i64 0))
  have ABW := Aside0.mk ((Below.refl w.heap.size w).alloc (Nat.le_refl _) (.cells #[.int .i64 0, .int .i64 0] 40))
  clear hr hc
  by_cases h6 : 6 < l.length
  · have HN := Aside0.mk (show ¬ AttrsOk l from fun h => by have := h.1; omega)
    go_enter Tryz.func89, Tryz.ntmps89
    go_wp2_with fail
    refine (fault_calls 2 0 _).mono ?_
    rintro e w3 ⟨rfl, hb3⟩
    have T3 := AT.out.below hb3
    obtain ⟨⟨ht0, ht1⟩, hg0, hg1⟩ := T3.cells
    have HB3 := Aside0.mk (below_then ABW.out ABW.out.size hb3)
    clear hb3 T3 AT ABW
    go_wp2
    exact bodyPost_ret (v := fltV 2 0) (by simp [results, Tryz.results89, go_sem, ht0, ht1]) rfl ⟨⟨_, _, rfl, Or.inr ⟨by decide, HN.out⟩⟩, Two.upper HB3.out (Nat.le_refl _)⟩
  · go_enter Tryz.func89, Tryz.ntmps89
    go_wp2
    go_loopw [12] (fun i wr => ∃ k : Nat, k ≤ l.length ∧ i = .int .i64 k ∧ Aside0 (∀ j, j < k → attrB l j = true) ∧ Aside0 (Two wr w.heap.size (.int .i64 0) (.int .i64 0)) ∧ Aside0 (Below w.heap.size w wr)) (fun i _ => l.length - (intOf i).toNat)
    case atStart => exact ⟨0, Nat.zero_le _, rfl, ⟨fun j hj => by omega⟩, AT, ABW⟩
    case round =>
      clear AT ABW
      obtain ⟨k, hk, rfl, HG, HT, HB⟩ := hrel
      by_cases hlt : k < l.length
      · obtain ⟨ad, rfl, hc0, hc1⟩ := at_T134 (Kd.C_below HR.out HB.out) (k : Int) (by omega) (by omega)
        rw [Int.toNat_natCast] at hc0 hc1
        have HAB := Aside0.mk (show attrB l k = ((aCode (rd_T134 l (k : Int)) == 0) && !((rd_T134 l (k : Int)).f1.toList.isEmpty) && !(decide (0 < k) && !(Op.bytesLess (rd_T134 l ((k - 1 : Nat) : Int)).f0.toList (rd_T134 l (k : Int)).f0.toList))) from rfl)
        have HNot := Aside0.mk (fun h : attrB l k = false => attrs_not hlt h)
        have HD : Aside0 (0 < k → ∀ w1 : World, Below wr.heap.size wr w1 → w1.cell? (ad.add ((k - 1) * 2)) = some (.string (rd_T134 l ((k - 1 : Nat) : Int)).f0)) := ⟨fun h0 w1 hb => by
          obtain ⟨ad2, e2, hd0, _⟩ := at_T134 (Kd.C_below HR.out HB.out) ((k - 1 : Nat) : Int) (by omega) (by omega)
          obtain rfl : ad = ad2 := by injection e2
          rw [Int.toNat_natCast] at hd0
          exact pw_cell_below hb hd0⟩
        generalize rd_T134 l (k : Int) = a at *
        generalize (rd_T134 l ((k - 1 : Nat) : Int)).f0 = nb at *
        go_wp2_with fail
        refine (acode_calls a _).mono ?_
        rintro e w1 ⟨rfl, hb1⟩
        have T := (show w1.heap[wr.heap.size]? = some (.cells #[.string a.f0, .string a.f1] 134 (0, 0)) from (hb1.block _ (by simp)).trans (heap_alloc_new wr _))
        have hc2 : w1.cell? ⟨wr.heap.size, 0, none⟩ = some (.string a.f0) := by rw [blk_cell T]; rfl
        have hc3 : w1.cell? ⟨wr.heap.size, 1, none⟩ = some (.string a.f1) := by rw [blk_cell T]; rfl
        have hbr := below_then ((Below.refl wr.heap.size wr).alloc (Nat.le_refl _) _) (by simp) hb1
        have HD1 := Aside0.mk (fun h0 => HD.out h0 w1 hbr)
        have AT := Aside0.mk (HT.out.below hbr)
        have ABW := Aside0.mk (below_then HB.out HB.out.size hbr)
        clear hb1 hbr T HD hc0 hc1 HT HB
        cases hac : (aCode a == 0) with
        | false =>
          have HN := Aside0.mk (HNot.out (by rw [HAB.out, hac]; rfl))
          have HC0 := Aside0.mk (beq_eq_false_iff_ne.1 hac)
          have hac2 : (aCode a != 0) = true := by rw [bne, hac]; rfl
          clear HAB HNot HD1
          generalize aCode a = C at *
          go_wp2_with fail
          refine (fault_calls C (k : Int) _).mono ?_
          rintro e w3 ⟨rfl, hb3⟩
          have T3 := AT.out.below hb3
          obtain ⟨⟨ht0, ht1⟩, hg0, hg1⟩ := T3.cells
          have HB3 := Aside0.mk (below_then ABW.out ABW.out.size hb3)
          clear hb3 T3 AT ABW
          go_wp2
          exact bodyPost_ret (v := fltV C (k : Int)) (by simp [results, Tryz.results89, go_sem, ht0, ht1]) rfl ⟨⟨_, _, rfl, Or.inr ⟨HC0.out, HN.out⟩⟩, Two.upper HB3.out (Nat.le_refl _)⟩
        | true =>
          rw [hac, Bool.true_and] at HAB
          rw [beq_iff_eq.1 hac]
          clear hac
          cases hev : (a.f1.toList.isEmpty) with
          | true =>
            have HN := Aside0.mk (HNot.out (by rw [HAB.out, hev]; rfl))
            clear HAB HNot HD1
            go_wp2_with fail
            go_quiet (fail)
            have AT2 := Aside0.mk (AT.out.below (pw_below_drewN (Below.refl _ _) nq))
            have ABW2 := Aside0.mk (pw_below_drewN ABW.out nq)
            clear AT ABW
            have AT := AT2
            have ABW := ABW2
            clear AT2 ABW2
            go_wp2_with fail
            refine (fault_calls 5 (k : Int) _).mono ?_
            rintro e w3 ⟨rfl, hb3⟩
            have T3 := AT.out.below hb3
            obtain ⟨⟨ht0, ht1⟩, hg0, hg1⟩ := T3.cells
            have HB3 := Aside0.mk (below_then ABW.out ABW.out.size hb3)
            clear hb3 T3 AT ABW
            go_wp2
            exact bodyPost_ret (v := fltV 5 (k : Int)) (by simp [results, Tryz.results89, go_sem, ht0, ht1]) rfl ⟨⟨_, _, rfl, Or.inr ⟨by decide, HN.out⟩⟩, Two.upper HB3.out (Nat.le_refl _)⟩
          | false =>
            rw [hev] at HAB
            by_cases hk0 : 0 < k
            · have hd2 := HD1.out hk0
              have f1 : IntKind.i64.wrap ((k : Int) - 1) = (k : Int) - 1 := IntWalk.i64_in _ (by omega)
              have f2 : ((k : Int) - 1).toNat = k - 1 := by omega
              have f3 : (0 : Int) ≤ (k : Int) - 1 := by omega
              have f4 : (k : Int) - 1 < (l.length : Int) := by omega
              cases hbl : Op.bytesLess nb.toList a.f0.toList with
              | false =>
                have HN := Aside0.mk (HNot.out (by rw [HAB.out, hbl, decide_eq_true hk0]; rfl))
                clear HAB HNot HD1
                go_wp2_with fail
                go_quiet (fail)
                clear f1 f2 f3 f4
                have AT2 := Aside0.mk (AT.out.below (pw_below_drewN (Below.refl _ _) nq))
                have ABW2 := Aside0.mk (pw_below_drewN ABW.out nq)
                clear AT ABW
                have AT := AT2
                have ABW := ABW2
                clear AT2 ABW2
                go_wp2_with fail
                refine (fault_calls 5 (k : Int) _).mono ?_
                rintro e w3 ⟨rfl, hb3⟩
                have T3 := AT.out.below hb3
                obtain ⟨⟨ht0, ht1⟩, hg0, hg1⟩ := T3.cells
                have HB3 := Aside0.mk (below_then ABW.out ABW.out.size hb3)
                clear hb3 T3 AT ABW
                go_wp2
                exact bodyPost_ret (v := fltV 5 (k : Int)) (by simp [results, Tryz.results89, go_sem, ht0, ht1]) rfl ⟨⟨_, _, rfl, Or.inr ⟨by decide, HN.out⟩⟩, Two.upper HB3.out (Nat.le_refl _)⟩
              | true =>
                have HY := Aside0.mk (show attrB l k = true by rw [HAB.out, hbl, decide_eq_true hk0]; rfl)
                clear HAB HNot HD1
                go_wp2_with fail
                go_quiet (fail)
                clear f1 f2 f3 f4
                go_wp2
                go_roundw
                case rel => exact ⟨k + 1, by omega, by go_num, ⟨fun j hj => by
                  by_cases e : j = k
                  · rw [e]; exact HY.out
                  · exact HG.out j (by omega)⟩, ⟨AT.out.below (pw_below_drewN (Below.refl _ _) nq)⟩, ⟨pw_below_drewN ABW.out nq⟩⟩
                case measure => simp [intOf]; omega
            · have HY := Aside0.mk (show attrB l k = true by rw [HAB.out, decide_eq_false hk0]; rfl)
              clear HAB HNot HD1
              go_wp2_with fail
              go_quiet (fail)
              go_wp2
              go_roundw
              case rel => exact ⟨k + 1, by omega, by go_num, ⟨fun j hj => by
                by_cases e : j = k
                · rw [e]; exact HY.out
                · exact HG.out j (by omega)⟩, ⟨AT.out.below (pw_below_drewN (Below.refl _ _) nq)⟩, ⟨pw_below_drewN ABW.out nq⟩⟩
              case measure => simp [intOf]; omega
      · obtain rfl : k = l.length := by omega
        have HY := Aside0.mk (show AttrsOk l from ⟨by omega, HG.out⟩)
        obtain ⟨⟨ht0, ht1⟩, hg0, hg1⟩ := HT.out.cells
        clear HG HT
        go_wp2
        exact bodyPost_ret (v := fltV 0 0) (by simp [results, Tryz.results89, go_sem, ht0, ht1]) rfl ⟨⟨_, _, rfl, Or.inl ⟨rfl, rfl, HY.out⟩⟩, Two.upper HB.out (Nat.le_refl _)⟩

end Go.Proofs.YtkmoeeaaolpdnaaGreatDoor

namespace Go.Proofs.YtkmoeeaaolpdnaaGreatDoor
open Go.RowKit Go.Proofs.YtkmoeeaaolpdnaaGreatDoorW.PrintWords Go.Proofs.YtkmoeeaaolpdnaaGreatDoor.PTopFindsTwice

set_option maxHeartbeats 1000000 in
set_option maxRecDepth 100000 in
theorem within_calls (n lo hi : Int) (w : World) : Calls Tryz.prog 86 #[.int .i64 n, .int .i64 lo, .int .i64 hi] w fun e w' => e = .returned (.bool (decide (lo ≤ n ∧ n ≤ hi))) ∧ w = w' := by
  generalize hD : decide (lo ≤ n ∧ n ≤ hi) = D
  by_cases h1 : lo ≤ n
  · by_cases h2 : n ≤ hi
    · have HD := Aside0.mk (show D = true by rw [← hD]; exact decide_eq_true (And.intro h1 h2))
      clear hD
      go_enter Tryz.func86, Tryz.ntmps86
      go_wp2
      go_ret
      exact ⟨by rw [HD.out]; rfl, rfl⟩
    · have HD := Aside0.mk (show D = false by rw [← hD]; exact decide_eq_false (fun h : lo ≤ n ∧ n ≤ hi => h2 h.2))
      clear hD
      go_enter Tryz.func86, Tryz.ntmps86
      go_wp2
      go_ret
      exact ⟨by rw [HD.out]; rfl, rfl⟩
  · have HD := Aside0.mk (show D = false by rw [← hD]; exact decide_eq_false (fun h : lo ≤ n ∧ n ≤ hi => h1 h.1))
    clear hD
    go_enter Tryz.func86, Tryz.ntmps86
    go_wp2
    go_ret
    exact ⟨by rw [HD.out]; rfl, rfl⟩

/-- the tree's own box: one cell that holds the slice of inodes -/
structure TBox (w : World) (g : Nat) (A : Option Addr) (n c : Nat) : Prop where
  blk : w.heap[g]? = some (.cells #[.slice A n c] 24 (0, 0))
theorem TBox.new (w : World) (A : Option Addr) (n c : Nat) : TBox (w.alloc (.cells #[.slice A n c] 24)) w.heap.size A n c := ⟨heap_alloc_new w _⟩
theorem TBox.lt {w : World} {g n c : Nat} {A : Option Addr} (h : TBox w g A n c) : g < w.heap.size := blk_lt h.blk
theorem TBox.below {w w1 : World} {g n c : Nat} {A : Option Addr} (h : TBox w g A n c) (hb : Below w.heap.size w w1) : TBox w1 g A n c := ⟨(hb.block g h.lt).trans h.blk⟩
theorem TBox.cell {w : World} {g n c : Nat} {A : Option Addr} (h : TBox w g A n c) : w.cell? ⟨g, 0, none⟩ = some (.slice A n c) := by rw [blk_cell h.blk]; rfl

def entB (T : List S104) (l : List S108) (j : Nat) : Bool :=
  vName (rd_T108 l (j : Int)).f0 && !(decide (0 < j) && !(Op.bytesLess (rd_T108 l ((j - 1 : Nat) : Int)).f0.toList (rd_T108 l (j : Int)).f0.toList)) &&
    decide (1 ≤ (rd_T108 l (j : Int)).f1 ∧ (rd_T108 l (j : Int)).f1 ≤ (T.length : Int) - 1) && !((rd_T104 T (rd_T108 l (j : Int)).f1).f0 == 0)
def EntsOk (T : List S104) (l : List S108) : Prop := l.length ≤ 16 ∧ ∀ j, j < l.length → entB T l j = true
theorem ents_not {T : List S104} {l : List S108} {k : Nat} (hk : k < l.length) (h : entB T l k = false) : ¬ EntsOk T l := fun ⟨_, g⟩ => by rw [g k hk] at h; cases h
/-- a code that tells whether something holds -/
def CodeAns (ok : Prop) (e : Ending) : Prop := ∃ cd : Int, e = .returned (.int .i64 cd) ∧ ((cd = 0 ∧ ok) ∨ (cd ≠ 0 ∧ ¬ ok))

set_option maxHeartbeats 2000000 in
set_option maxRecDepth 100000 in
theorem ents_calls (A : Option Addr) (c : Nat) (T : List S104) (B : Option Addr) (d : Nat) (l : List S108) (w : World) (hT : Kd.C k104 w A T.length T) (hTm : T.length ≤ 1000)
    (hr : Kd.C k108 w B l.length l) (hc : l.length ≤ d) :
    Calls Tryz.prog 90 #[.agg #[.slice A T.length c], .slice B l.length d] w fun e w' => CodeAns (EntsOk T l) e ∧ Below w.heap.size w w' := by
  have HR := Aside0.mk hr
  have HC := Aside0.mk hc
  have HTr := Aside0.mk hT
  have AT := Aside0.mk (TBox.new w A T.length c)
  have ABW := Aside0.mk ((Below.refl w.heap.size w).alloc (Nat.le_refl _) (.cells #[.slice A T.length c] 24))
  clear hr hc hT
  by_cases h6 : 16 < l.length
  · have HN := Aside0.mk (show ¬ EntsOk T l from fun h => by have := h.1; omega)
    go_enter Tryz.func90, Tryz.ntmps90
    go_wp2
    go_ret
    exact ⟨⟨_, rfl, Or.inr ⟨by decide, HN.out⟩⟩, ABW.out⟩
  · go_enter Tryz.func90, Tryz.ntmps90
    go_wp2
    go_loopw [12] (fun i wr => ∃ k : Nat, k ≤ l.length ∧ i = .int .i64 k ∧ Aside0 (∀ j, j < k → entB T l j = true) ∧ Aside0 (TBox wr w.heap.size A T.length c) ∧ Aside0 (Below w.heap.size w wr)) (fun i _ => l.length - (intOf i).toNat)
    case atStart => exact ⟨0, Nat.zero_le _, rfl, ⟨fun j hj => by omega⟩, AT, ABW⟩
    case round =>
      clear AT ABW
      obtain ⟨k, hk, rfl, HG, HT, HB⟩ := hrel
      by_cases hlt : k < l.length
      · obtain ⟨ad, rfl, hc0, hc1⟩ := at_T108 (Kd.C_below HR.out HB.out) (k : Int) (by omega) (by omega)
        rw [Int.toNat_natCast] at hc0 hc1
        have HAB := Aside0.mk (show entB T l k = (vName (rd_T108 l (k : Int)).f0 && !(decide (0 < k) && !(Op.bytesLess (rd_T108 l ((k - 1 : Nat) : Int)).f0.toList (rd_T108 l (k : Int)).f0.toList)) &&
            decide (1 ≤ (rd_T108 l (k : Int)).f1 ∧ (rd_T108 l (k : Int)).f1 ≤ (T.length : Int) - 1) && !((rd_T104 T (rd_T108 l (k : Int)).f1).f0 == 0)) from rfl)
        have HNot := Aside0.mk (fun h : entB T l k = false => ents_not hlt h)
        have HD : Aside0 (0 < k → ∀ w1 : World, Below wr.heap.size wr w1 → w1.cell? (ad.add ((k - 1) * 2)) = some (.string (rd_T108 l ((k - 1 : Nat) : Int)).f0)) := ⟨fun h0 w1 hb => by
          obtain ⟨ad2, e2, hd0, _⟩ := at_T108 (Kd.C_below HR.out HB.out) ((k - 1 : Nat) : Int) (by omega) (by omega)
          obtain rfl : ad = ad2 := by injection e2
          rw [Int.toNat_natCast] at hd0
          exact pw_cell_below hb hd0⟩
        generalize rd_T108 l (k : Int) = a at *
        generalize (rd_T108 l ((k - 1 : Nat) : Int)).f0 = nb at *
        obtain ⟨nm, ino⟩ := a
        simp only at hc0 hc1
        have HVN : Aside0 (∀ W, Calls Tryz.prog 101 #[.string nm] W fun e w' => e = .returned (.bool (vName nm)) ∧ Below W.heap.size W w') := ⟨fun W => vname_calls nm W⟩
        simp only at HAB
        generalize vName nm = vb at *
        go_wp2_with fail
        refine (HVN.out _).mono ?_
        rintro e w1 ⟨rfl, hb1⟩
        have TT := (show w1.heap[wr.heap.size]? = some (.cells #[.string nm, .int .i64 ino] 108 (0, 0)) from (hb1.block _ (by simp)).trans (heap_alloc_new wr _))
        have hc2 : w1.cell? ⟨wr.heap.size, 0, none⟩ = some (.string nm) := by rw [blk_cell TT]; rfl
        have hc3 : w1.cell? ⟨wr.heap.size, 1, none⟩ = some (.int .i64 ino) := by rw [blk_cell TT]; rfl
        have hbr := below_then ((Below.refl wr.heap.size wr).alloc (Nat.le_refl _) _) (by simp) hb1
        have HD1 := Aside0.mk (fun h0 => HD.out h0 w1 hbr)
        have AT := Aside0.mk (HT.out.below hbr)
        have ABW := Aside0.mk (below_then HB.out HB.out.size hbr)
        have htc := AT.out.cell
        clear hb1 hbr TT HD hc0 hc1 HT HB HVN
        cases vb with
        | false =>
          have HN := Aside0.mk (HNot.out (by rw [HAB.out]; rfl))
          clear HAB HNot HD1
          go_wp2
          go_ret
          exact ⟨⟨_, rfl, Or.inr ⟨by decide, HN.out⟩⟩, ABW.out⟩
        | true =>
          rw [Bool.true_and] at HAB
          by_cases hk0 : 0 < k
          · have hd2 := HD1.out hk0
            have f1 : IntKind.i64.wrap ((k : Int) - 1) = (k : Int) - 1 := IntWalk.i64_in _ (by omega)
            have f2 : ((k : Int) - 1).toNat = k - 1 := by omega
            have f3 : (0 : Int) ≤ (k : Int) - 1 := by omega
            have f4 : (k : Int) - 1 < (l.length : Int) := by omega
            cases hbl : Op.bytesLess nb.toList nm.toList with
            | false =>
              have HN := Aside0.mk (HNot.out (by rw [HAB.out, hbl, decide_eq_true hk0]; rfl))
              clear HAB HNot HD1
              go_wp2_with fail
              go_quiet (fail)
              clear f1 f2 f3 f4
              go_wp2
              go_ret
              exact ⟨⟨_, rfl, Or.inr ⟨by decide, HN.out⟩⟩, pw_below_drewN ABW.out nq⟩
            | true =>
              rw [hbl, decide_eq_true hk0] at HAB
              simp only [Bool.not_true, Bool.and_false, Bool.not_false, Bool.true_and] at HAB
              go_wp2_with fail
              go_quiet (fail)
              have AT2 := Aside0.mk (AT.out.below (pw_below_drewN (Below.refl _ _) nq))
              have ABW2 := Aside0.mk (pw_below_drewN ABW.out nq)
              clear AT ABW
              have AT := AT2
              have ABW := ABW2
              clear AT2 ABW2
              go_wp2_with fail
              refine (within_calls ino 1 ((T.length : Int) - 1) _).mono ?_
              rintro e w3 ⟨rfl, rfl⟩
              cases hw : decide (1 ≤ ino ∧ ino ≤ (T.length : Int) - 1) with
              | false =>
                have HN := Aside0.mk (HNot.out (by rw [HAB.out, hw]; rfl))
                clear HAB HNot HD1 hw
                go_wp2
                go_ret
                exact ⟨⟨_, rfl, Or.inr ⟨by decide, HN.out⟩⟩, ABW.out⟩
              | true =>
                rw [hw, Bool.true_and] at HAB
                have hw2 := of_decide_eq_true hw
                clear hw
                have hi0 : 0 ≤ ino := by omega
                have hi1 : ino < (T.length : Int) := by omega
                obtain ⟨adT, A2, c2, A3, c3, A4, c4, A5, c5, rfl, hk0, _⟩ := at_T104 (Kd.C_below HTr.out ABW.out) ino hi0 hi1
                cases hkk : ((rd_T104 T ino).f0 == 0) with
                | true =>
                  have HN := Aside0.mk (HNot.out (by rw [HAB.out, hkk]; rfl))
                  clear HAB HNot HD1
                  generalize (rd_T104 T ino).f0 = kd at *
                  go_wp2
                  go_ret
                  exact ⟨⟨_, rfl, Or.inr ⟨by decide, HN.out⟩⟩, ABW.out⟩
                | false =>
                  have HY := Aside0.mk (show entB T l k = true by rw [HAB.out, hkk]; rfl)
                  clear HAB HNot HD1
                  generalize (rd_T104 T ino).f0 = kd at *
                  go_wp2
                  go_roundw
                  case rel => exact ⟨k + 1, by omega, by go_num, ⟨fun j hj => by
                    by_cases e : j = k
                    · rw [e]; exact HY.out
                    · exact HG.out j (by omega)⟩, AT, ABW⟩
                  case measure => simp [intOf]; omega
          · rw [decide_eq_false hk0] at HAB
            simp only [Bool.false_and, Bool.not_false, Bool.true_and] at HAB
            go_wp2_with fail
            go_quiet (fail)
            have AT2 := Aside0.mk (AT.out.below (pw_below_drewN (Below.refl _ _) nq))
            have ABW2 := Aside0.mk (pw_below_drewN ABW.out nq)
            clear AT ABW
            have AT := AT2
            have ABW := ABW2
            clear AT2 ABW2
            go_wp2_with fail
            refine (within_calls ino 1 ((T.length : Int) - 1) _).mono ?_
            rintro e w3 ⟨rfl, rfl⟩
            cases hw : decide (1 ≤ ino ∧ ino ≤ (T.length : Int) - 1) with
            | false =>
              have HN := Aside0.mk (HNot.out (by rw [HAB.out, hw]; rfl))
              clear HAB HNot HD1 hw
              go_wp2
              go_ret
              exact ⟨⟨_, rfl, Or.inr ⟨by decide, HN.out⟩⟩, ABW.out⟩
            | true =>
              rw [hw, Bool.true_and] at HAB
              have hw2 := of_decide_eq_true hw
              clear hw
              have hi0 : 0 ≤ ino := by omega
              have hi1 : ino < (T.length : Int) := by omega
              obtain ⟨adT, A2, c2, A3, c3, A4, c4, A5, c5, rfl, hk0, _⟩ := at_T104 (Kd.C_below HTr.out ABW.out) ino hi0 hi1
              cases hkk : ((rd_T104 T ino).f0 == 0) with
              | true =>
                have HN := Aside0.mk (HNot.out (by rw [HAB.out, hkk]; rfl))
                clear HAB HNot HD1
                generalize (rd_T104 T ino).f0 = kd at *
                go_wp2
                go_ret
                exact ⟨⟨_, rfl, Or.inr ⟨by decide, HN.out⟩⟩, ABW.out⟩
              | false =>
                have HY := Aside0.mk (show entB T l k = true by rw [HAB.out, hkk]; rfl)
                clear HAB HNot HD1
                generalize (rd_T104 T ino).f0 = kd at *
                go_wp2
                go_roundw
                case rel => exact ⟨k + 1, by omega, by go_num, ⟨fun j hj => by
                  by_cases e : j = k
                  · rw [e]; exact HY.out
                  · exact HG.out j (by omega)⟩, AT, ABW⟩
                case measure => simp [intOf]; omega
      · obtain rfl : k = l.length := by omega
        have HY := Aside0.mk (show EntsOk T l from ⟨by omega, HG.out⟩)
        clear HG HT
        go_wp2
        go_ret
        exact ⟨⟨_, rfl, Or.inl ⟨rfl, HY.out⟩⟩, HB.out⟩

end Go.Proofs.YtkmoeeaaolpdnaaGreatDoor

namespace Go.Proofs.YtkmoeeaaolpdnaaGreatDoor
open Go.RowKit Go.Proofs.YtkmoeeaaolpdnaaGreatDoorW.PrintWords Go.Proofs.YtkmoeeaaolpdnaaGreatDoor.PTopFindsTwice

def AclOk (l : List S132) : Prop := ∃ k, acl_Validate.f k l = some (0, 0)
theorem acl_loop (l : List S132) (hl : l.length ≤ 6) (d : Nat) : ∀ i : Nat, i ≤ l.length → l.length - i = d → ∃ k r1 r2, acl_Validate.l0 k l (l.length : Int) (i : Int) = some (r1, r2) ∧ ((r1 = 0 ∧ r2 = 0) ∨ r1 ≠ 0) := by
  induction d with
  | zero =>
    intro i hi hd
    refine ⟨1, 0, 0, ?_, Or.inl ⟨rfl, rfl⟩⟩
    rw [acl_Validate.l0, if_neg (by omega)]
  | succ d ih =>
    intro i hi hd
    obtain ⟨k, r1, r2, hk, hr⟩ := ih (i + 1) (by omega) (by omega)
    have hw : wrap64 ((i : Int) + 1) = ((i + 1 : Nat) : Int) := by unfold wrap64; omega
    have j1 : ∀ b u v z, ∃ r1 r2, acl_Validate.j1 (k + 1) (i : Int) l (l.length : Int) (i : Int) b u v z = some (r1, r2) ∧ ((r1 = 0 ∧ r2 = 0) ∨ r1 ≠ 0) := by
      intro b u v z
      rw [acl_Validate.j1, hw]
      by_cases h1 : b = true
      · rw [if_pos h1]; exact ⟨3, i, rfl, Or.inr (by decide)⟩
      · rw [if_neg h1]
        by_cases h2 : Go.bits .andNot .i64 v 15 = 0
        · rw [if_pos h2]
          by_cases h3 : Go.bits .andNot .i64 z 15 = 0
          · rw [if_pos h3]
            by_cases h4 : Go.bits .and .i64 v z = 0
            · rw [if_pos h4]
              by_cases h5 : Go.bits .or .i64 v z = 0
              · rw [if_pos h5]; exact ⟨5, i, rfl, Or.inr (by decide)⟩
              · rw [if_neg h5]; exact ⟨r1, r2, hk, hr⟩
            · rw [if_neg h4]; exact ⟨5, i, rfl, Or.inr (by decide)⟩
          · rw [if_neg h3]; exact ⟨5, i, rfl, Or.inr (by decide)⟩
        · rw [if_neg h2]; exact ⟨5, i, rfl, Or.inr (by decide)⟩
    have e1 : (i : Int) < (l.length : Int) := by omega
    have e2 : (0 : Int) ≤ (i : Int) := by omega
    by_cases h : (rd_T132 l (i : Int)).f0 < -1
    · obtain ⟨q1, q2, h1, h2⟩ := j1 true (rd_T132 l (i : Int)).f0 (rd_T132 l (i : Int)).f1 (rd_T132 l (i : Int)).f2
      refine ⟨k + 2, q1, q2, ?_, h2⟩
      rw [acl_Validate.l0, if_pos e1, if_pos e2, if_pos e1, if_pos h]; exact h1
    · obtain ⟨q1, q2, h1, h2⟩ := j1 (decide ((rd_T132 l (i : Int)).f0 > 7)) (rd_T132 l (i : Int)).f0 (rd_T132 l (i : Int)).f1 (rd_T132 l (i : Int)).f2
      refine ⟨k + 2, q1, q2, ?_, h2⟩
      rw [acl_Validate.l0, if_pos e1, if_pos e2, if_pos e1, if_neg h]; exact h1
theorem acl_total (l : List S132) : ∃ k r1 r2, acl_Validate.f k l = some (r1, r2) ∧ ((r1 = 0 ∧ r2 = 0) ∨ r1 ≠ 0) := by
  by_cases h : (l.length : Int) > 6
  · exact ⟨0, 2, 0, by unfold acl_Validate.f; rw [if_pos h]; rfl, Or.inr (by decide)⟩
  · obtain ⟨k, r1, r2, h1, h2⟩ := acl_loop l (by omega) l.length 0 (Nat.zero_le _) (by omega)
    exact ⟨k, r1, r2, by unfold acl_Validate.f; rw [if_neg h]; exact h1, h2⟩
theorem acl_calls (A : Option Addr) (c : Nat) (l : List S132) (w : World) (hr : Kd.C k132 w A l.length l) (hc : l.length ≤ c) :
    Calls Tryz.prog 88 #[.slice A l.length c] w fun e w' => FltAns (AclOk l) e ∧ Below w.heap.size w w' := by
  obtain ⟨k, r1, r2, h1, h2⟩ := acl_total l
  refine (acl_Validate.calls k A c l r1 r2 w hr hc h1).mono fun e w' ⟨he, hb⟩ => ⟨⟨r1, r2, he, ?_⟩, hb⟩
  rcases h2 with ⟨rfl, rfl⟩ | h2
  · exact Or.inl ⟨rfl, rfl, k, h1⟩
  · refine Or.inr ⟨h2, fun ⟨k', h3⟩ => h2 ?_⟩
    have hm := fun k => acl_Validate.mono l k
    have g1 := at_rounds hm (Nat.le_add_right k k') h1
    have g2 := at_rounds hm (Nat.le_add_left k' k) h3
    rw [g1] at g2
    injection g2 with g2
    injection g2 with g2 _

def iZero (n : S104) : Prop := fstree_isZero.f n.f0 n.f1 n.f2 n.f3 n.f4 n.f5 n.f6 n.f7 = some true
def InodeOk (T : List S104) (n : S104) : Prop := (0 ≤ n.f0 ∧ n.f0 ≤ 2) ∧ ((n.f0 = 0 ∧ iZero n) ∨ (n.f0 ≠ 0 ∧ (0 ≤ n.f1 ∧ n.f1 ≤ 7) ∧ (0 ≤ n.f7 ∧ n.f7 ≤ 1000000) ∧ (0 ≤ n.f6 ∧ n.f6 ≤ 100000) ∧
  ¬ (n.f0 = 1 ∧ 0 < n.f3.length) ∧ ¬ (n.f0 = 2 ∧ (0 < n.f2.length ∨ 0 < n.f6)) ∧ n.f3.length ≤ 200 ∧ AclOk n.f4 ∧ AttrsOk n.f5 ∧ EntsOk T n.f2))
theorem zero_total (n : S104) : ∃ b, fstree_isZero.f n.f0 n.f1 n.f2 n.f3 n.f4 n.f5 n.f6 n.f7 = some b := by
  unfold fstree_isZero.f
  split
  · split
    · split
      · exact ⟨_, rfl⟩
      · exact ⟨_, rfl⟩
    · exact ⟨_, rfl⟩
  · exact ⟨_, rfl⟩

/-- an inode's box: eight cells -/
structure IBox (w : World) (g : Nat) (n : S104) (v2 v3 v4 v5 : Value) : Prop where
  blk : w.heap[g]? = some (.cells #[.int .i64 n.f0, .int .i64 n.f1, v2, v3, v4, v5, .int .i64 n.f6, .int .i64 n.f7] 104 (0, 0))
theorem IBox.below {w w1 : World} {g : Nat} {n : S104} {v2 v3 v4 v5 : Value} (h : IBox w g n v2 v3 v4 v5) (hb : Below w.heap.size w w1) : IBox w1 g n v2 v3 v4 v5 := ⟨(hb.block g (blk_lt h.blk)).trans h.blk⟩

theorem IBox.new (w : World) (o : Obj) (n : S104) (v2 v3 v4 v5 : Value) : IBox ((w.alloc o).alloc (.cells #[.int .i64 n.f0, .int .i64 n.f1, v2, v3, v4, v5, .int .i64 n.f6, .int .i64 n.f7] 104)) (w.heap.size + 1) n v2 v3 v4 v5 := ⟨by
  have h := heap_alloc_new (w.alloc o) (.cells #[.int .i64 n.f0, .int .i64 n.f1, v2, v3, v4, v5, .int .i64 n.f6, .int .i64 n.f7] 104)
  rw [World.size_alloc] at h
  exact h⟩
theorem IBox.c2 {w : World} {g : Nat} {n : S104} {v2 v3 v4 v5 : Value} (h : IBox w g n v2 v3 v4 v5) : w.cell? ⟨g, 2, none⟩ = some v2 := by rw [blk_cell h.blk]; rfl
theorem IBox.c5 {w : World} {g : Nat} {n : S104} {v2 v3 v4 v5 : Value} (h : IBox w g n v2 v3 v4 v5) : w.cell? ⟨g, 5, none⟩ = some v5 := by rw [blk_cell h.blk]; rfl

set_option maxHeartbeats 4000000 in
set_option maxRecDepth 100000 in
theorem inode_calls (A : Option Addr) (c : Nat) (T : List S104) (n : S104) (A2 A3 A4 A5 : Option Addr) (c2 c3 c4 c5 : Nat) (w : World) (hT : Kd.C k104 w A T.length T) (hTm : T.length ≤ 1000)
    (l2 : n.f2.length ≤ c2) (g2 : k108.C w A2 n.f2.length n.f2) (l3 : n.f3.length ≤ c3) (g3 : (Kd.int .u8).C w A3 n.f3.length n.f3) (l4 : n.f4.length ≤ c4) (g4 : k132.C w A4 n.f4.length n.f4) (l5 : n.f5.length ≤ c5) (g5 : k134.C w A5 n.f5.length n.f5) :
    Calls Tryz.prog 70 #[.agg #[.slice A T.length c], .agg #[.int .i64 n.f0, .int .i64 n.f1, .slice A2 n.f2.length c2, .slice A3 n.f3.length c3, .slice A4 n.f4.length c4, .slice A5 n.f5.length c5, .int .i64 n.f6, .int .i64 n.f7]] w fun e w' => CodeAns (InodeOk T n) e ∧ Below w.heap.size w w' := by
  have HT := Aside0.mk hT
  have G2 := Aside0.mk (And.intro l2 g2)
  have G3 := Aside0.mk (And.intro l3 g3)
  have G4 := Aside0.mk (And.intro l4 g4)
  have G5 := Aside0.mk (And.intro l5 g5)
  obtain ⟨bz, hbz⟩ := zero_total n
  have HZ := Aside0.mk hbz
  have HI := Aside0.mk (show InodeOk T n ↔ ((0 ≤ n.f0 ∧ n.f0 ≤ 2) ∧ ((n.f0 = 0 ∧ iZero n) ∨ (n.f0 ≠ 0 ∧ (0 ≤ n.f1 ∧ n.f1 ≤ 7) ∧ (0 ≤ n.f7 ∧ n.f7 ≤ 1000000) ∧ (0 ≤ n.f6 ∧ n.f6 ≤ 100000) ∧
    ¬ (n.f0 = 1 ∧ 0 < n.f3.length) ∧ ¬ (n.f0 = 2 ∧ (0 < n.f2.length ∨ 0 < n.f6)) ∧ n.f3.length ≤ 200 ∧ AclOk n.f4 ∧ AttrsOk n.f5 ∧ EntsOk T n.f2))) from Iff.rfl)
  have HIZ := Aside0.mk (show iZero n ↔ bz = true by unfold iZero; rw [hbz]; simp)
  have HBT := Aside0.mk (Below.refl w.heap.size w |>.alloc (Nat.le_refl _) (.cells #[.slice A T.length c] 24))
  have HBW := Aside0.mk (HBT.out.alloc HBT.out.size (.cells #[.int .i64 n.f0, .int .i64 n.f1, .slice A2 n.f2.length c2, .slice A3 n.f3.length c3, .slice A4 n.f4.length c4, .slice A5 n.f5.length c5, .int .i64 n.f6, .int .i64 n.f7] 104))
  have HBX := Aside0.mk (IBox.new w (.cells #[.slice A T.length c] 24) n (.slice A2 n.f2.length c2) (.slice A3 n.f3.length c3) (.slice A4 n.f4.length c4) (.slice A5 n.f5.length c5))
  have HTB := Aside0.mk ((TBox.new w A T.length c).below ((Below.refl _ _).alloc (Nat.le_refl _) (.cells #[.int .i64 n.f0, .int .i64 n.f1, .slice A2 n.f2.length c2, .slice A3 n.f3.length c3, .slice A4 n.f4.length c4, .slice A5 n.f5.length c5, .int .i64 n.f6, .int .i64 n.f7] 104)))
  generalize hok : InodeOk T n = ok at *
  clear hok hT l2 g2 l3 g3 l4 g4 l5 g5 hbz
  obtain ⟨kd, ow, ents, dat, acl, att, qu, ve⟩ := n
  simp only at HI HBW HBX HTB HZ G2 G3 G4 G5 ⊢
  go_enter Tryz.func70, Tryz.ntmps70
  go_wp2_with fail
  refine (within_calls kd 0 2 _).mono ?_
  rintro e w' ⟨rfl, rfl⟩
  cases hw0 : decide (0 ≤ kd ∧ kd ≤ 2) with
  | false =>
    have HN := Aside0.mk (show ¬ ok from fun h => of_decide_eq_false hw0 ((HI.out.1 h).1))
    clear hw0 HI HIZ
    go_wp2
    go_ret
    exact ⟨⟨_, rfl, Or.inr ⟨by decide, HN.out⟩⟩, HBW.out⟩
  | true =>
    have hk := of_decide_eq_true hw0
    clear hw0
    by_cases hk0 : kd = 0
    · have HY := Aside0.mk (show ok ↔ bz = true from by
        rw [HI.out]
        exact ⟨fun h => h.2.elim (fun g => HIZ.out.1 g.2) (fun g => absurd hk0 g.1), fun h => ⟨hk, Or.inl ⟨hk0, HIZ.out.2 h⟩⟩⟩)
      have hkb : (kd == 0) = true := beq_iff_eq.2 hk0
      have HCZ : Aside0 (∀ W, Below w.heap.size w W → Calls Tryz.prog 87 #[.agg #[.int .i64 kd, .int .i64 ow, .slice A2 ents.length c2, .slice A3 dat.length c3, .slice A4 acl.length c4, .slice A5 att.length c5, .int .i64 qu, .int .i64 ve]] W fun e w' => e = .returned (.bool bz) ∧ Below W.heap.size W w') :=
        ⟨fun W hW => fstree_isZero.calls kd ow A2 c2 ents A3 c3 dat A4 c4 acl A5 c5 att qu ve bz W (Kd.C_below G2.out.2 hW) G2.out.1 (Kd.C_below G3.out.2 hW) G3.out.1 (Kd.C_below G4.out.2 hW) G4.out.1 (Kd.C_below G5.out.2 hW) G5.out.1 HZ.out⟩
      clear hk hk0 HI HIZ HZ
      go_wp2_with fail
      refine (HCZ.out _ HBW.out).mono ?_
      rintro e w1 ⟨rfl, hb1⟩
      have HB1 := Aside0.mk (below_then HBW.out HBW.out.size hb1)
      clear hb1 HCZ
      cases bz with
      | false =>
        have HN := Aside0.mk (show ¬ ok from fun h => by have := HY.out.1 h; cases this)
        clear HY
        go_wp2
        go_ret
        exact ⟨⟨_, rfl, Or.inr ⟨by decide, HN.out⟩⟩, HB1.out⟩
      | true =>
        have HN := Aside0.mk (show ok from HY.out.2 rfl)
        clear HY
        go_wp2
        go_ret
        exact ⟨⟨_, rfl, Or.inl ⟨rfl, HN.out⟩⟩, HB1.out⟩
    · have HY := Aside0.mk (show ok ↔ ((0 ≤ ow ∧ ow ≤ 7) ∧ (0 ≤ ve ∧ ve ≤ 1000000) ∧ (0 ≤ qu ∧ qu ≤ 100000) ∧
          ¬ (kd = 1 ∧ 0 < dat.length) ∧ ¬ (kd = 2 ∧ (0 < ents.length ∨ 0 < qu)) ∧ dat.length ≤ 200 ∧ AclOk acl ∧ AttrsOk att ∧ EntsOk T ents) from by
        rw [HI.out]
        exact ⟨fun h => h.2.elim (fun g => absurd g.1 hk0) (fun g => g.2), fun h => ⟨hk, Or.inr ⟨hk0, h⟩⟩⟩)
      have hkb : (kd == 0) = false := beq_eq_false_iff_ne.2 hk0
      clear HI HIZ HZ
      go_wp2_with fail
      refine (within_calls ow 0 7 _).mono ?_
      rintro e w' ⟨rfl, rfl⟩
      cases hw1 : decide (0 ≤ ow ∧ ow ≤ 7) with
      | false =>
        have HN := Aside0.mk (show ¬ ok from fun h => of_decide_eq_false hw1 (HY.out.1 h).1)
        clear hw1 HY
        go_wp2
        go_ret
        exact ⟨⟨_, rfl, Or.inr ⟨by decide, HN.out⟩⟩, HBW.out⟩
      | true =>
        have H1 := Aside0.mk (of_decide_eq_true hw1)
        clear hw1
        go_wp2_with fail
        refine (within_calls ve 0 1000000 _).mono ?_
        rintro e w' ⟨rfl, rfl⟩
        cases hw2 : decide (0 ≤ ve ∧ ve ≤ 1000000) with
        | false =>
          have HN := Aside0.mk (show ¬ ok from fun h => of_decide_eq_false hw2 (HY.out.1 h).2.1)
          clear hw2 HY
          go_wp2
          go_ret
          exact ⟨⟨_, rfl, Or.inr ⟨by decide, HN.out⟩⟩, HBW.out⟩
        | true =>
          have H2 := Aside0.mk (of_decide_eq_true hw2)
          clear hw2
          go_wp2_with fail
          refine (within_calls qu 0 100000 _).mono ?_
          rintro e w' ⟨rfl, rfl⟩
          cases hw3 : decide (0 ≤ qu ∧ qu ≤ 100000) with
          | false =>
            have HN := Aside0.mk (show ¬ ok from fun h => of_decide_eq_false hw3 (HY.out.1 h).2.2.1)
            clear hw3 HY
            go_wp2
            go_ret
            exact ⟨⟨_, rfl, Or.inr ⟨by decide, HN.out⟩⟩, HBW.out⟩
          | true =>
            have H3 := Aside0.mk (of_decide_eq_true hw3)
            clear hw3
            have hk12 : kd = 1 ∨ kd = 2 := by omega
            clear hkb hk hk0
            rcases hk12 with rfl | rfl
            · by_cases hd0 : 0 < dat.length
              · have HN := Aside0.mk (show ¬ ok from fun h => (HY.out.1 h).2.2.2.1 ⟨rfl, hd0⟩)
                clear HY
                go_wp2
                go_ret
                exact ⟨⟨_, rfl, Or.inr ⟨by decide, HN.out⟩⟩, HBW.out⟩
              · have HD0 := Aside0.mk hd0
                have hdz : dat.length = 0 := by omega
                have hd : ¬ 200 < dat.length := by omega
                have HDZ := Aside0.mk hdz
                clear hdz
                have HD := Aside0.mk (show dat.length ≤ 200 by omega)
                go_wp2_with fail
                refine (acl_calls A4 c4 acl _ (Kd.C_below G4.out.2 HBW.out) G4.out.1).mono ?_
                rintro e w1 ⟨⟨cd, ix, rfl, ha⟩, hb1⟩
                have HBX1 := Aside0.mk (HBX.out.below hb1)
                have HTB1 := Aside0.mk (HTB.out.below hb1)
                have HB1 := Aside0.mk (below_then HBW.out HBW.out.size hb1)
                have hv5 := HBX1.out.c5
                have hg := blk_lt HBX1.out.blk
                clear hb1
                rcases ha with ⟨rfl, rfl, ha⟩ | ⟨hcd, ha⟩
                · have HA := Aside0.mk ha
                  clear ha
                  have HBX2 := Aside0.mk (HBX1.out.below ((Below.refl _ _).alloc (Nat.le_refl _) (.cells #[.int .i64 0, .int .i64 0] 40)))
                  have HTB2 := Aside0.mk (HTB1.out.below ((Below.refl _ _).alloc (Nat.le_refl _) (.cells #[.int .i64 0, .int .i64 0] 40)))
                  have HB2 := Aside0.mk (HB1.out.alloc HB1.out.size (.cells #[.int .i64 0, .int .i64 0] 40))
                  go_wp2_with fail
                  refine (aval_calls A5 c5 att _ (Kd.C_below G5.out.2 HB2.out) G5.out.1).mono ?_
                  rintro e w2 ⟨⟨cd, ix, rfl, ha⟩, hb2⟩
                  have HBX3 := Aside0.mk (HBX2.out.below hb2)
                  have HTB3 := Aside0.mk (HTB2.out.below hb2)
                  have HB3 := Aside0.mk (below_then HB2.out HB2.out.size hb2)
                  clear hb2 hv5 hg
                  have hv2 := HBX3.out.c2
                  have htc := HTB3.out.cell
                  have hg := blk_lt HBX3.out.blk
                  have hg2 := HTB3.out.lt
                  rcases ha with ⟨rfl, rfl, ha⟩ | ⟨hcd, ha⟩
                  · have HA2 := Aside0.mk ha
                    clear ha
                    have HB4 := Aside0.mk (HB3.out.alloc HB3.out.size (.cells #[.int .i64 0, .int .i64 0] 40))
                    go_wp2_with fail
                    refine (ents_calls A c T A2 c2 ents _ (Kd.C_below HT.out HB4.out) hTm (Kd.C_below G2.out.2 HB4.out) G2.out.1).mono ?_
                    rintro e w3 ⟨⟨cd, rfl, ha⟩, hb3⟩
                    have HB5 := Aside0.mk (below_then HB4.out HB4.out.size hb3)
                    clear hb3
                    have HF : Aside0 ((cd = 0 ∧ ok) ∨ (cd ≠ 0 ∧ ¬ ok)) := ⟨by
                      rcases ha with ⟨h1, h2⟩ | ⟨h1, h2⟩
                      · exact Or.inl ⟨h1, HY.out.2 ⟨H1.out, H2.out, H3.out, fun g => HD0.out g.2, fun g => absurd g.1 (by decide), HD.out, HA.out, HA2.out, h2⟩⟩
                      · exact Or.inr ⟨h1, fun h => h2 (HY.out.1 h).2.2.2.2.2.2.2.2⟩⟩
                    clear ha HY
                    go_wp2
                    go_ret
                    exact ⟨⟨_, rfl, HF.out⟩, HB5.out⟩
                  · have HN := Aside0.mk (show ¬ ok from fun h => ha ((HY.out.1 h).2.2.2.2.2.2.2.1))
                    have HC := Aside0.mk hcd
                    have hc1 : (cd == 0) = false := beq_eq_false_iff_ne.2 hcd
                    have hc2 : (cd != 0) = true := by rw [bne, hc1]; rfl
                    clear hcd ha HY
                    go_wp2
                    go_ret
                    exact ⟨⟨_, rfl, Or.inr ⟨HC.out, HN.out⟩⟩, HB3.out.alloc HB3.out.size _⟩
                · have HN := Aside0.mk (show ¬ ok from fun h => ha ((HY.out.1 h).2.2.2.2.2.2.1))
                  have HC := Aside0.mk hcd
                  have hc1 : (cd == 0) = false := beq_eq_false_iff_ne.2 hcd
                  have hc2 : (cd != 0) = true := by rw [bne, hc1]; rfl
                  clear hcd ha HY
                  go_wp2
                  go_ret
                  exact ⟨⟨_, rfl, Or.inr ⟨HC.out, HN.out⟩⟩, HB1.out.alloc HB1.out.size _⟩
            · by_cases he0 : 0 < ents.length
              · have HN := Aside0.mk (show ¬ ok from fun h => (HY.out.1 h).2.2.2.2.1 ⟨rfl, Or.inl he0⟩)
                clear HY
                go_wp2
                go_ret
                exact ⟨⟨_, rfl, Or.inr ⟨by decide, HN.out⟩⟩, HBW.out⟩
              · by_cases hq0 : 0 < qu
                · have HN := Aside0.mk (show ¬ ok from fun h => (HY.out.1 h).2.2.2.2.1 ⟨rfl, Or.inr hq0⟩)
                  clear HY
                  go_wp2
                  go_ret
                  exact ⟨⟨_, rfl, Or.inr ⟨by decide, HN.out⟩⟩, HBW.out⟩
                · have HE0 := Aside0.mk (And.intro he0 hq0)
                  by_cases hd : 200 < dat.length
                  · have HN := Aside0.mk (show ¬ ok from fun h => by have := (HY.out.1 h).2.2.2.2.2.1; omega)
                    clear HY
                    go_wp2
                    go_ret
                    exact ⟨⟨_, rfl, Or.inr ⟨by decide, HN.out⟩⟩, HBW.out⟩
                  · have HD := Aside0.mk (show dat.length ≤ 200 by omega)
                    go_wp2_with fail
                    refine (acl_calls A4 c4 acl _ (Kd.C_below G4.out.2 HBW.out) G4.out.1).mono ?_
                    rintro e w1 ⟨⟨cd, ix, rfl, ha⟩, hb1⟩
                    have HBX1 := Aside0.mk (HBX.out.below hb1)
                    have HTB1 := Aside0.mk (HTB.out.below hb1)
                    have HB1 := Aside0.mk (below_then HBW.out HBW.out.size hb1)
                    have hv5 := HBX1.out.c5
                    have hg := blk_lt HBX1.out.blk
                    clear hb1
                    rcases ha with ⟨rfl, rfl, ha⟩ | ⟨hcd, ha⟩
                    · have HA := Aside0.mk ha
                      clear ha
                      have HBX2 := Aside0.mk (HBX1.out.below ((Below.refl _ _).alloc (Nat.le_refl _) (.cells #[.int .i64 0, .int .i64 0] 40)))
                      have HTB2 := Aside0.mk (HTB1.out.below ((Below.refl _ _).alloc (Nat.le_refl _) (.cells #[.int .i64 0, .int .i64 0] 40)))
                      have HB2 := Aside0.mk (HB1.out.alloc HB1.out.size (.cells #[.int .i64 0, .int .i64 0] 40))
                      go_wp2_with fail
                      refine (aval_calls A5 c5 att _ (Kd.C_below G5.out.2 HB2.out) G5.out.1).mono ?_
                      rintro e w2 ⟨⟨cd, ix, rfl, ha⟩, hb2⟩
                      have HBX3 := Aside0.mk (HBX2.out.below hb2)
                      have HTB3 := Aside0.mk (HTB2.out.below hb2)
                      have HB3 := Aside0.mk (below_then HB2.out HB2.out.size hb2)
                      clear hb2 hv5 hg
                      have hv2 := HBX3.out.c2
                      have htc := HTB3.out.cell
                      have hg := blk_lt HBX3.out.blk
                      have hg2 := HTB3.out.lt
                      rcases ha with ⟨rfl, rfl, ha⟩ | ⟨hcd, ha⟩
                      · have HA2 := Aside0.mk ha
                        clear ha
                        have HB4 := Aside0.mk (HB3.out.alloc HB3.out.size (.cells #[.int .i64 0, .int .i64 0] 40))
                        go_wp2_with fail
                        refine (ents_calls A c T A2 c2 ents _ (Kd.C_below HT.out HB4.out) hTm (Kd.C_below G2.out.2 HB4.out) G2.out.1).mono ?_
                        rintro e w3 ⟨⟨cd, rfl, ha⟩, hb3⟩
                        have HB5 := Aside0.mk (below_then HB4.out HB4.out.size hb3)
                        clear hb3
                        have HF : Aside0 ((cd = 0 ∧ ok) ∨ (cd ≠ 0 ∧ ¬ ok)) := ⟨by
                          rcases ha with ⟨h1, h2⟩ | ⟨h1, h2⟩
                          · exact Or.inl ⟨h1, HY.out.2 ⟨H1.out, H2.out, H3.out, fun g => absurd g.1 (by decide), fun g => by have := HE0.out; have := g.2; omega, HD.out, HA.out, HA2.out, h2⟩⟩
                          · exact Or.inr ⟨h1, fun h => h2 (HY.out.1 h).2.2.2.2.2.2.2.2⟩⟩
                        clear ha HY
                        go_wp2
                        go_ret
                        exact ⟨⟨_, rfl, HF.out⟩, HB5.out⟩
                      · have HN := Aside0.mk (show ¬ ok from fun h => ha ((HY.out.1 h).2.2.2.2.2.2.2.1))
                        have HC := Aside0.mk hcd
                        have hc1 : (cd == 0) = false := beq_eq_false_iff_ne.2 hcd
                        have hc2 : (cd != 0) = true := by rw [bne, hc1]; rfl
                        clear hcd ha HY
                        go_wp2
                        go_ret
                        exact ⟨⟨_, rfl, Or.inr ⟨HC.out, HN.out⟩⟩, HB3.out.alloc HB3.out.size _⟩
                    · have HN := Aside0.mk (show ¬ ok from fun h => ha ((HY.out.1 h).2.2.2.2.2.2.1))
                      have HC := Aside0.mk hcd
                      have hc1 : (cd == 0) = false := beq_eq_false_iff_ne.2 hcd
                      have hc2 : (cd != 0) = true := by rw [bne, hc1]; rfl
                      clear hcd ha HY
                      go_wp2
                      go_ret
                      exact ⟨⟨_, rfl, Or.inr ⟨HC.out, HN.out⟩⟩, HB1.out.alloc HB1.out.size _⟩

end Go.Proofs.YtkmoeeaaolpdnaaGreatDoor
