/-
  The walk of TopMarksCounted: it returns true for every row of bools and every string. Condition: the slice reads as a row of bools.
-/
import Derived.Test.YtkmoeeaaolpdnaaPick
import Derived.Deep.Grids
import Derived.ProofKit
namespace Go.Proofs.Ytkmoeeaaolpdnaa
open Go.RowKit Go.Proofs.YtkmoeeaaolpdnaaW.PrintWords GlobPlain

theorem bools_of_trod {H : Type} {enc : TypeId × Value → H} {W : World} {a : Option Addr} {len cap : Nat} {d : DataW H} {p : List MemPlace}
    (h : DataW.Trod enc Try.prog W 0 (fun _ => true) true 36 (.slice a len cap) d p) : ∃ zs : List Bool, len ≤ cap ∧ ReadsOf Value.bool false W a len zs := by
  obtain ⟨fuel, hf⟩ := h
  rcases Go.Deep.open_bools Try.underlying36 Try.underlying4 (by kernel_rfl) hf with ⟨hcs, _⟩ | ⟨x, l, c, B, hcs, _, hl, hm, _, hcell⟩
  · simp [Value.cells] at hcs
    obtain ⟨rfl, rfl, rfl⟩ := hcs
    exact ⟨[], Nat.le_refl _, rfl, by omega, fun h => by omega⟩
  · simp [Value.cells] at hcs
    obtain ⟨rfl, rfl, rfl⟩ := hcs
    unfold maxLen at hm
    refine ⟨(List.range len).map B, hl, by simp, by omega, fun _ => ⟨x, rfl, fun j hj => ?_⟩⟩
    rw [hcell j (by omega)]
    simp [List.getD_eq_getElem?_getD, List.getElem?_range hj]

def markStr (l : List Bool) : ByteArray := ⟨(markOf l).toArray⟩
theorem bl_markStr (l : List Bool) : bl (markStr l) = markOf l := by simp [bl, markStr]
theorem markStr_t (l : List Bool) : markStr l ++ ⟨#[42]⟩ = markStr (l ++ [true]) := by
  apply ByteArray.ext
  simp [markStr, markOf]
theorem markStr_f (l : List Bool) : markStr l ++ ⟨#[63]⟩ = markStr (l ++ [false]) := by
  apply ByteArray.ext
  simp [markStr, markOf]
theorem markStr_size (l : List Bool) : (markStr l).size = l.length := by simp [markStr, ByteArray.size, markOf]


set_option maxHeartbeats 2000000 in
set_option maxRecDepth 100000 in
theorem marks_short (A : Option Addr) (cap : Nat) (zs ys : List Bool) (s : ByteArray) (w : World) (hlc : zs.length ≤ cap) (hz : zs.length ≤ 9223372036854775807) (hy : ys.length = zs.length) (hlt : zs.length ≤ 90) (hr : ReadsOf Value.bool false w A (zs.length) ys) (_ : s.size ≤ 140737488351232) :
    Calls Try.prog 6 #[.slice A zs.length cap, .string s] w fun e w' => e = .returned (.bool true) ∧ Below w.heap.size w w' := by
  obtain ⟨i0, hi, _⟩ := info_parts info4
  have hcut : ∀ W : World, (Instr.slice 36 (.slice A zs.length cap) none (some (.int .i64 (zs.length : Int))) none).run Try.prog W = .ok (.slice A (zs.length) cap) W :=
    cut_to (P := Try.prog) 36 4 .i64 Try.underlying36 hi A zs.length cap ((zs.length : Int)) (by omega) (by omega) hlc
  have HR := Aside0.mk hr
  have HY := Aside0.mk hy
  have hy90 : ys.length ≤ 90 := by omega
  clear hr hy
  go_enter Try.func6, Try.ntmps6
  go_wp2_with fail
  refine (globs_calls w).mono ?_
  rintro e w1 ⟨rfl, hb1⟩
  have HR1 := Aside0.mk (HR.out.below hb1)
  have HB := Aside0.mk hb1
  clear hb1 HR
  go_wp2
  clear hcut
  go_loop [5, 6, 7, 20] (fun a b c d => ∃ j : Nat, j ≤ ys.length ∧ d = .int .i64 j ∧ a = .string (markStr (ys.take j)) ∧ b = .int .i64 ((ys.take j).count false : Nat) ∧ c = .bool (decide (true ∈ ys.take j))) (fun _ _ _ d => ys.length - (intOf d).toNat)
  case atStart => exact ⟨0, Nat.zero_le _, rfl, rfl, rfl, by simp⟩
  case round =>
    obtain ⟨j, hj, rfl, rfl, rfl, rfl⟩ := hrel
    have HLE := Aside0.mk (Nat.le_trans (List.count_le_length (l := ys.take j) (a := false)) (List.length_take_le _ _))
    by_cases hjl : j < ys.length
    · have hat : ∃ ad, A = some ad ∧ w1.cell? (ad.add j) = some (.bool ys[j]) := by
        have := HR1.out.at_ (j : Int) (by omega) (by have := HY.out; omega)
        rw [Int.toNat_natCast, show rdOf false ys (j : Int) = ys[j] from by simp [rdOf, List.getD_eq_getElem?_getD, List.getElem?_eq_getElem hjl]] at this
        exact this
      obtain ⟨ad, rfl, hc⟩ := hat
      have HT := Aside0.mk (List.take_succ_eq_append_getElem hjl)
      have hsz : (markStr (ys.take j)).size ≤ 90 := by rw [markStr_size, List.length_take]; omega
      have hjn : j < zs.length := by have := HY.out; omega
      have hcn := HLE.out
      cases hx : ys[j] with
      | true =>
        rw [hx] at hc
        have HT2 := Aside0.mk (hx ▸ HT.out)
        have e1 := Aside0.mk (markStr_t (ys.take j))
        clear hx HT
        generalize ys.take j = zj at *
        go_wp2
        go_round
        case rel => exact ⟨j + 1, by omega, by go_num, by rw [HT2.out, ← e1.out], by rw [HT2.out, List.count_append]; rfl, by rw [HT2.out]; simp⟩
        case measure => simp [intOf]; omega
      | false =>
        rw [hx] at hc
        have HT2 := Aside0.mk (hx ▸ HT.out)
        have e1 := Aside0.mk (markStr_f (ys.take j))
        clear hx HT
        generalize ys.take j = zj at *
        go_wp2
        go_round
        case rel => exact ⟨j + 1, by omega, by go_num, by rw [HT2.out, ← e1.out], by rw [HT2.out, List.count_append]; rfl, by rw [HT2.out]; simp⟩
        case measure => simp [intOf]; omega
    · obtain rfl : j = ys.length := by omega
      rw [List.take_length]
      have hjn : ¬ ys.length < zs.length := by have := HY.out; omega
      have HLE2 := HLE.out
      clear HLE HR1
      have HG := Aside0.mk (marks ys (bl s))
      generalize hst : decide (true ∈ ys) = st at *
      have HST := Aside0.mk hst
      clear hst
      have hc90 : ys.count false ≤ 90 := Nat.le_trans List.count_le_length hy90
      generalize hcnt : ys.count false = cnt at *
      clear hcnt
      go_wp2_with fail
      refine (match_any _ s _).mono ?_
      rintro e w4 ⟨b4, c4, i4, rfl, ha4, hb4⟩
      have HB4 := Aside0.mk (below_then HB.out HB.out.size hb4)
      have E4 : Aside0 (c4 = 0 → b4 = (decide (s.size = cnt) || (st && decide (cnt < s.size)))) := ⟨by
        rcases ha4 with ⟨rfl, _, _, rfl⟩ | ⟨rfl, _, _⟩
        · intro _
          have hg := HG.out
          rw [bl_length] at hg
          unfold mB
          rw [bl_markStr, decide_eq_decide.2 hg, ← HST.out]
          rw [Bool.decide_or, Bool.decide_and]
        · intro h; cases h⟩
      have hk4 : c4 = 0 ∨ c4 = 2 := ha4.imp (fun h => h.1) (fun h => h.1)
      clear ha4 hb4 HB HG HST
      rcases hk4 with rfl | rfl
      · have E := E4.out rfl
        clear E4
        by_cases h1 : s.size = cnt
        · have hb1 : ((s.size : Int) == (cnt : Int)) = true := by rw [beq_iff_eq]; omega
          rw [decide_eq_true h1, Bool.true_or] at E
          subst E
          clear h1
          go_wp2
          go_ret
          exact ⟨rfl, HB4.out.alloc HB4.out.size _⟩
        · have hb1 : ((s.size : Int) == (cnt : Int)) = false := by rw [beq_eq_false_iff_ne]; omega
          rw [decide_eq_false h1, Bool.false_or] at E
          clear h1
          cases st with
          | false =>
            rw [Bool.false_and] at E
            subst E
            go_wp2
            go_ret
            exact ⟨rfl, HB4.out.alloc HB4.out.size _⟩
          | true =>
            by_cases h2 : cnt < s.size
            · rw [decide_eq_true h2, Bool.true_and] at E
              subst E
              go_wp2
              go_ret
              exact ⟨rfl, HB4.out.alloc HB4.out.size _⟩
            · rw [decide_eq_false h2, Bool.true_and] at E
              subst E
              go_wp2
              go_ret
              exact ⟨rfl, HB4.out.alloc HB4.out.size _⟩
      · clear E4
        go_wp2
        go_ret
        exact ⟨rfl, HB4.out.alloc HB4.out.size _⟩

set_option maxHeartbeats 2000000 in
set_option maxRecDepth 100000 in
theorem marks_long (A : Option Addr) (cap : Nat) (zs ys : List Bool) (s : ByteArray) (w : World) (hlc : zs.length ≤ cap) (hz : zs.length ≤ 9223372036854775807) (hy : ys.length = 90) (hlt : 90 < zs.length) (hr : ReadsOf Value.bool false w A (90) ys) (_ : s.size ≤ 140737488351232) :
    Calls Try.prog 6 #[.slice A zs.length cap, .string s] w fun e w' => e = .returned (.bool true) ∧ Below w.heap.size w w' := by
  obtain ⟨i0, hi, _⟩ := info_parts info4
  have hcut : ∀ W : World, (Instr.slice 36 (.slice A zs.length cap) none (some (.int .i64 90)) none).run Try.prog W = .ok (.slice A (90) cap) W :=
    cut_to (P := Try.prog) 36 4 .i64 Try.underlying36 hi A zs.length cap (90) (by omega) (by omega) hlc
  have HR := Aside0.mk hr
  have HY := Aside0.mk hy
  have hy90 : ys.length ≤ 90 := by omega
  clear hr hy
  go_enter Try.func6, Try.ntmps6
  go_wp2_with fail
  refine (globs_calls w).mono ?_
  rintro e w1 ⟨rfl, hb1⟩
  have HR1 := Aside0.mk (HR.out.below hb1)
  have HB := Aside0.mk hb1
  clear hb1 HR
  go_wp2
  clear hcut
  go_loop [5, 6, 7, 20] (fun a b c d => ∃ j : Nat, j ≤ ys.length ∧ d = .int .i64 j ∧ a = .string (markStr (ys.take j)) ∧ b = .int .i64 ((ys.take j).count false : Nat) ∧ c = .bool (decide (true ∈ ys.take j))) (fun _ _ _ d => ys.length - (intOf d).toNat)
  case atStart => exact ⟨0, Nat.zero_le _, rfl, rfl, rfl, by simp⟩
  case round =>
    obtain ⟨j, hj, rfl, rfl, rfl, rfl⟩ := hrel
    have HLE := Aside0.mk (Nat.le_trans (List.count_le_length (l := ys.take j) (a := false)) (List.length_take_le _ _))
    by_cases hjl : j < ys.length
    · have hat : ∃ ad, A = some ad ∧ w1.cell? (ad.add j) = some (.bool ys[j]) := by
        have := HR1.out.at_ (j : Int) (by omega) (by have := HY.out; omega)
        rw [Int.toNat_natCast, show rdOf false ys (j : Int) = ys[j] from by simp [rdOf, List.getD_eq_getElem?_getD, List.getElem?_eq_getElem hjl]] at this
        exact this
      obtain ⟨ad, rfl, hc⟩ := hat
      have HT := Aside0.mk (List.take_succ_eq_append_getElem hjl)
      have hsz : (markStr (ys.take j)).size ≤ 90 := by rw [markStr_size, List.length_take]; omega
      have hjn : j < 90 := by have := HY.out; omega
      have hcn := HLE.out
      cases hx : ys[j] with
      | true =>
        rw [hx] at hc
        have HT2 := Aside0.mk (hx ▸ HT.out)
        have e1 := Aside0.mk (markStr_t (ys.take j))
        clear hx HT
        generalize ys.take j = zj at *
        go_wp2
        go_round
        case rel => exact ⟨j + 1, by omega, by go_num, by rw [HT2.out, ← e1.out], by rw [HT2.out, List.count_append]; rfl, by rw [HT2.out]; simp⟩
        case measure => simp [intOf]; omega
      | false =>
        rw [hx] at hc
        have HT2 := Aside0.mk (hx ▸ HT.out)
        have e1 := Aside0.mk (markStr_f (ys.take j))
        clear hx HT
        generalize ys.take j = zj at *
        go_wp2
        go_round
        case rel => exact ⟨j + 1, by omega, by go_num, by rw [HT2.out, ← e1.out], by rw [HT2.out, List.count_append]; rfl, by rw [HT2.out]; simp⟩
        case measure => simp [intOf]; omega
    · obtain rfl : j = ys.length := by omega
      rw [List.take_length]
      have hjn : ¬ ys.length < 90 := by have := HY.out; omega
      have HLE2 := HLE.out
      clear HLE HR1
      have HG := Aside0.mk (marks ys (bl s))
      generalize hst : decide (true ∈ ys) = st at *
      have HST := Aside0.mk hst
      clear hst
      have hc90 : ys.count false ≤ 90 := Nat.le_trans List.count_le_length hy90
      generalize hcnt : ys.count false = cnt at *
      clear hcnt
      go_wp2_with fail
      refine (match_any _ s _).mono ?_
      rintro e w4 ⟨b4, c4, i4, rfl, ha4, hb4⟩
      have HB4 := Aside0.mk (below_then HB.out HB.out.size hb4)
      have E4 : Aside0 (c4 = 0 → b4 = (decide (s.size = cnt) || (st && decide (cnt < s.size)))) := ⟨by
        rcases ha4 with ⟨rfl, _, _, rfl⟩ | ⟨rfl, _, _⟩
        · intro _
          have hg := HG.out
          rw [bl_length] at hg
          unfold mB
          rw [bl_markStr, decide_eq_decide.2 hg, ← HST.out]
          rw [Bool.decide_or, Bool.decide_and]
        · intro h; cases h⟩
      have hk4 : c4 = 0 ∨ c4 = 2 := ha4.imp (fun h => h.1) (fun h => h.1)
      clear ha4 hb4 HB HG HST
      rcases hk4 with rfl | rfl
      · have E := E4.out rfl
        clear E4
        by_cases h1 : s.size = cnt
        · have hb1 : ((s.size : Int) == (cnt : Int)) = true := by rw [beq_iff_eq]; omega
          rw [decide_eq_true h1, Bool.true_or] at E
          subst E
          clear h1
          go_wp2
          go_ret
          exact ⟨rfl, HB4.out.alloc HB4.out.size _⟩
        · have hb1 : ((s.size : Int) == (cnt : Int)) = false := by rw [beq_eq_false_iff_ne]; omega
          rw [decide_eq_false h1, Bool.false_or] at E
          clear h1
          cases st with
          | false =>
            rw [Bool.false_and] at E
            subst E
            go_wp2
            go_ret
            exact ⟨rfl, HB4.out.alloc HB4.out.size _⟩
          | true =>
            by_cases h2 : cnt < s.size
            · rw [decide_eq_true h2, Bool.true_and] at E
              subst E
              go_wp2
              go_ret
              exact ⟨rfl, HB4.out.alloc HB4.out.size _⟩
            · rw [decide_eq_false h2, Bool.true_and] at E
              subst E
              go_wp2
              go_ret
              exact ⟨rfl, HB4.out.alloc HB4.out.size _⟩
      · clear E4
        go_wp2
        go_ret
        exact ⟨rfl, HB4.out.alloc HB4.out.size _⟩

theorem marks_walk (A : Option Addr) (len cap : Nat) (zs : List Bool) (s : ByteArray) (w : World) (hz : len ≤ cap ∧ ReadsOf Value.bool false w A len zs) (hs : s.size ≤ 140737488351232) :
    Calls Try.prog 6 #[.slice A len cap, .string s] w fun e w' => e = .returned (.bool true) ∧ Below w.heap.size w w' := by
  obtain ⟨hlc, hr⟩ := hz
  obtain rfl := hr.1
  by_cases h : zs.length ≤ 90
  · exact marks_short A cap zs zs s w hlc hr.2.1 rfl h hr hs
  · exact marks_long A cap zs (zs.take 90) s w hlc hr.2.1 (by rw [List.length_take]; omega) (by omega) (hr.take_ 90 (by omega)) hs

end Go.Proofs.Ytkmoeeaaolpdnaa
