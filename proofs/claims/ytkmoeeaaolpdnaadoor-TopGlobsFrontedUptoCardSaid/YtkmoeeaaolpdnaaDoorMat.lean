/-
  The walks of slices.Index, slices.Contains at whole numbers, and of glob.Matches: it answers whether the text is matched by the pattern, as the plain theory says.
  Condition of Matches: the pattern has at most 1000 bytes.
-/
import Derived.Test.YtkmoeeaaolpdnaaDoorClo
namespace Go.Proofs.YtkmoeeaaolpdnaaDoor
open Go.RowKit Go.Proofs.YtkmoeeaaolpdnaaDoorW.PrintWords GlobPlain

set_option maxHeartbeats 1000000 in
set_option maxRecDepth 100000 in
theorem index_calls (A : Option Addr) (c : Nat) (xs : List Nat) (y : Nat) (w : World) (hr : ReadsInt w .i64 A xs.length (ints xs)) :
    Calls Tryd.prog 84 #[.slice A xs.length c, .int .i64 (y : Int)] w fun e w' => (∃ r : Int, e = .returned (.int .i64 r) ∧ (0 ≤ r ↔ y ∈ xs)) ∧ w = w' := by
  have hl := hr.2.1
  have HR := Aside0.mk hr
  clear hr
  go_enter Tryd.func84, Tryd.ntmps84
  go_wp2
  go_loop [8] (fun i => ∃ j : Nat, j ≤ xs.length ∧ i = .int .i64 j ∧ Aside0 (y ∉ xs.take j)) (fun i => xs.length - (intOf i).toNat)
  case atStart => exact ⟨0, Nat.zero_le _, rfl, ⟨by simp⟩⟩
  case round =>
    obtain ⟨j, hj, rfl, HN⟩ := hrel
    by_cases hlt : j < xs.length
    · have hat : ∃ ad, A = some ad ∧ w.cell? (ad.add j) = some (.int .i64 ((xs[j] : Nat) : Int)) := by
        have := HR.out.at_ (j : Int) (by omega) (by omega)
        rw [rd_ints xs j hlt] at this
        simpa using this
      obtain ⟨ad, rfl, hc⟩ := hat
      have HT := Aside0.mk (List.take_succ_eq_append_getElem hlt)
      have HI := Aside0.mk (List.getElem_mem hlt)
      generalize xs[j] = X at *
      by_cases hy : y = X
      · subst hy
        go_wp2
        go_ret
        exact ⟨⟨j, rfl, ⟨fun _ => HI.out, fun _ => by omega⟩⟩, rfl⟩
      · have hb : ((y : Int) == (X : Int)) = false := by rw [beq_eq_false_iff_ne]; omega
        have HY := Aside0.mk hy
        clear hy
        go_wp2
        go_round
        case rel => exact ⟨j + 1, by omega, by go_num, ⟨by rw [HT.out, List.mem_append, List.mem_singleton]; exact fun h => h.elim HN.out HY.out⟩⟩
        case measure => simp [intOf]; omega
    · obtain rfl : j = xs.length := by omega
      go_wp2
      go_ret
      have hn := HN.out
      rw [List.take_length] at hn
      exact ⟨⟨-1, rfl, ⟨fun h => by omega, fun h => absurd h hn⟩⟩, rfl⟩

set_option maxHeartbeats 1000000 in
set_option maxRecDepth 100000 in
theorem contains_calls (A : Option Addr) (c : Nat) (xs : List Nat) (y : Nat) (w : World) (hr : ReadsInt w .i64 A xs.length (ints xs)) :
    Calls Tryd.prog 54 #[.slice A xs.length c, .int .i64 (y : Int)] w fun e w' => e = .returned (.bool (decide (y ∈ xs))) ∧ w = w' := by
  have H := index_calls A c xs y w hr
  go_enter Tryd.func54, Tryd.ntmps54
  go_wp2_with fail
  refine H.mono ?_
  rintro e w' ⟨⟨r, rfl, h⟩, rfl⟩
  have hd : decide (0 ≤ r) = decide (y ∈ xs) := decide_eq_decide.2 h
  clear H h
  go_wp2
  go_ret
  exact ⟨by simp, rfl⟩

/-- the bytes of a string as a list -/
abbrev bl (P : ByteArray) : List UInt8 := P.data.toList
theorem bl_length (P : ByteArray) : (bl P).length = P.size := data_length P
theorem bl_get (P : ByteArray) (k : Nat) (h : k < P.size) : (bl P)[k]'(by rw [bl_length]; exact h) = P[k] := rfl
theorem bl_getD (P : ByteArray) (k : Nat) (h : k < P.size) : (bl P).getD k 0 = P[k] := by
  rw [getD_lt (by rw [bl_length]; exact h)]; rfl
theorem stB_eq (P : ByteArray) : stB P = stL (bl P) := by
  funext k
  by_cases h : k < P.size
  · rw [← stB_at P k h, stL_eq (by rw [bl_length]; exact h), bl_get P k h, Bool.eq_iff_iff]
    simp only [beq_iff_eq, ← UInt8.toNat_inj]
    exact ⟨fun h => by have : (P[k]).toNat = 42 := by omega
                       exact this, fun h => by rw [h]; rfl⟩
  · unfold stB stL
    have h1 : ¬ ((k : Int).toNat < P.size) := by simpa using h
    rw [bt, dif_neg h1, List.getD_eq_getElem?_getD, List.getElem?_eq_none (by rw [bl_length]; omega)]; rfl
open Classical in
/-- the text is matched by the pattern -/
noncomputable def mB (P T : ByteArray) : Bool := decide (GM (bl P) (bl T))
theorem byte_beq (a b : UInt8) : (((a.toNat : Int) == (b.toNat : Int)) = (a == b)) := by
  rw [Bool.eq_iff_iff]; simp only [beq_iff_eq, ← UInt8.toNat_inj]; omega
theorem byte_beq_lit (a : UInt8) (n : Nat) (hn : n < 256) : (((a.toNat : Int) == (n : Int)) = (a == UInt8.ofNat n)) := by
  rw [← byte_beq]; simp [Nat.mod_eq_of_lt hn]

/-- the places behind i bytes -/
structure Reach (P T : ByteArray) (w wr : World) (i : Nat) (v : Value) : Prop where
  out : ∃ (A : Option Addr) (c : Nat) (l : List Nat), v = .slice A l.length c ∧ ReadsInt wr .i64 A l.length (ints l) ∧ (∀ q, q ∈ l ↔ q ≤ P.size ∧ AtS (bl P) (bl T) q i) ∧ l.length ≤ P.size + 1 ∧ Below w.heap.size w wr

/-- a round inside: what of the places has been moved by the next byte -/
structure Moved (P T : ByteArray) (wo wr : World) (i : Nat) (l : List Nat) (j : Nat) (v : Value) : Prop where
  row : wr.ownsRow wo.heap.size 3 1 v ((l.take j).filterMap (stepO (bl P) (T.data.toList.getD i 0))).length (nums .i64 (ints ((l.take j).filterMap (stepO (bl P) (T.data.toList.getD i 0)))))
  below : Below wo.heap.size wo wr
theorem moved_none {P : List UInt8} {b : UInt8} {l : List Nat} {j : Nat} (h : j < l.length) (hs : stepO P b l[j] = none) : (l.take (j + 1)).filterMap (stepO P b) = (l.take j).filterMap (stepO P b) := by
  rw [List.take_succ_eq_append_getElem h, List.filterMap_append]; simp [hs]
theorem moved_some {P : List UInt8} {b : UInt8} {l : List Nat} {j x : Nat} (h : j < l.length) (hs : stepO P b l[j] = some x) : (l.take (j + 1)).filterMap (stepO P b) = (l.take j).filterMap (stepO P b) ++ [x] := by
  rw [List.take_succ_eq_append_getElem h, List.filterMap_append]; simp [hs]
theorem moved_le {P : List UInt8} {b : UInt8} (l : List Nat) (j : Nat) : ((l.take j).filterMap (stepO P b)).length ≤ j :=
  Nat.le_trans (List.length_filterMap_le _ _) (List.length_take_le _ _)
theorem Moved.stay {P T : ByteArray} {wo wr : World} {i j : Nat} {l : List Nat} {v : Value} (h : Moved P T wo wr i l j v) (hj : j < l.length) (hs : stepO (bl P) (T.data.toList.getD i 0) l[j] = none) (n : Nat) : Moved P T wo (wr.drewN n) i l (j + 1) v := by
  refine ⟨?_, pw_below_drewN h.below n⟩
  rw [moved_none hj hs]
  exact pw_own_below h.row (pw_below_drewN (Below.refl _ _) n)
theorem Moved.drewN {P T : ByteArray} {wo wr : World} {i j : Nat} {l : List Nat} {v : Value} (h : Moved P T wo wr i l j v) (n : Nat) : Moved P T wo (wr.drewN n) i l j v :=
  ⟨pw_own_below h.row (pw_below_drewN (Below.refl _ _) n), pw_below_drewN h.below n⟩
theorem Moved.go {P T : ByteArray} {wo w1 : World} {i j x : Nat} {l : List Nat} {v : Value} (hj : j < l.length) (hs : stepO (bl P) (T.data.toList.getD i 0) l[j] = some x)
    (ho : w1.ownsRow wo.heap.size 3 1 v (ints ((l.take j).filterMap (stepO (bl P) (T.data.toList.getD i 0))) ++ [(x : Int)]).length (nums .i64 (ints ((l.take j).filterMap (stepO (bl P) (T.data.toList.getD i 0))) ++ [(x : Int)])))
    (hb : Below wo.heap.size wo w1) : Moved P T wo w1 i l (j + 1) v := by
  refine ⟨?_, hb⟩
  rw [ints_snoc, ← moved_some hj hs, ints_length] at ho
  exact ho
theorem Moved.go1 {P T : ByteArray} {wo w1 : World} {i j x : Nat} {l : List Nat} {v : Value} (hj : j < l.length) (hs : stepO (bl P) (T.data.toList.getD i 0) l[j] = some (x + 1))
    (ho : w1.ownsRow wo.heap.size 3 1 v (ints ((l.take j).filterMap (stepO (bl P) (T.data.toList.getD i 0))) ++ [(x : Int) + 1]).length (nums .i64 (ints ((l.take j).filterMap (stepO (bl P) (T.data.toList.getD i 0))) ++ [(x : Int) + 1])))
    (hb : Below wo.heap.size wo w1) : Moved P T wo w1 i l (j + 1) v := Moved.go hj hs ho hb
theorem Moved.len {P T : ByteArray} {wo wr : World} {i j : Nat} {l : List Nat} {v : Value} (h : Moved P T wo wr i l j v) :
    wr.ownsRow wo.heap.size 3 1 v (ints ((l.take j).filterMap (stepO (bl P) (T.data.toList.getD i 0)))).length (nums .i64 (ints ((l.take j).filterMap (stepO (bl P) (T.data.toList.getD i 0))))) := by
  rw [ints_length]; exact h.row
theorem eq42 (P : ByteArray) (q : Nat) (h : q < P.size) : (((P[q]'h).toNat : Int) == 42) = (P[q] == 42) := byte_beq_lit _ 42 (by decide)
theorem eq63 (P : ByteArray) (q : Nat) (h : q < P.size) : (((P[q]'h).toNat : Int) == 63) = (P[q] == 63) := byte_beq_lit _ 63 (by decide)

set_option maxHeartbeats 1000000 in
set_option maxRecDepth 100000 in
theorem matches_calls (P T : ByteArray) (w : World) (hP : P.size ≤ 1000) (hT : T.size ≤ 140737488351232) :
    Calls Tryd.prog 31 #[.string P, .string T] w fun e w' => e = .returned (.bool (mB P T)) ∧ Below w.heap.size w w' := by
  have h0 : ReadsInt (w.alloc (.cells #[.int .i64 0] 3)) .i64 (some ⟨w.heap.size, 0, none⟩) 1 (ints [0]) :=
    ⟨rfl, by omega, fun _ => ⟨_, rfl, fun j hj => by
      obtain rfl : j = 0 := by omega
      rw [add_plain, World.cell?_alloc_at _ _ _ _ rfl]; rfl⟩⟩
  have HC := closure_reads P (some ⟨w.heap.size, 0, none⟩) 1 [0] (w.alloc (.cells #[.int .i64 0] 3)) hP (by simp) h0
  clear h0
  go_enter Tryd.func31, Tryd.ntmps31
  go_wp2_with fail
  refine HC.mono ?_
  clear HC
  rintro e w1 ⟨A1, c1, rfl, hr1, hb1⟩
  have HS : Aside0 (Reach P T w w1 0 (.slice A1 (outB (stB P) [0] (P.size + 1)).length c1)) := by
    refine ⟨⟨A1, c1, _, rfl, hr1, fun q => ?_, outB_le _ _ _, ?_⟩⟩
    · rw [mem_outB, stB_eq]
      constructor
      · rintro ⟨h1, h2⟩; exact ⟨by omega, (AtS_zero _ _ q (by rw [bl_length]; omega)).1 h2⟩
      · rintro ⟨h1, h2⟩; exact ⟨by omega, (AtS_zero _ _ q (by rw [bl_length]; omega)).2 h2⟩
    · exact below_then ((Below.refl _ _).alloc (Nat.le_refl _) _) (by simp) hb1
  generalize Value.slice A1 (outB (stB P) [0] (P.size + 1)).length c1 = V at *
  clear hr1 hb1
  go_wp2
  go_loopw [5, 15] (fun v i wr => ∃ k : Nat, k ≤ T.size ∧ i = .int .i64 k ∧ Aside0 (Reach P T w wr k v)) (fun _ i _ => T.size - (intOf i).toNat)
  case atStart => exact ⟨0, Nat.zero_le _, rfl, HS⟩
  case round =>
    clear HS
    obtain ⟨i, hi, rfl, ⟨⟨A, c, l, rfl, hr, hm, hl, hb⟩⟩⟩ := hrel
    have HM := Aside0.mk hm
    clear hm
    by_cases hlt : i < T.size
    · obtain ⟨wo, hwo⟩ : ∃ wo : World, wo = wr := ⟨_, rfl⟩
      rw [← hwo] at hr hb ⊢
      clear hwo
      have HR := Aside0.mk hr
      have HB := Aside0.mk hb
      clear hr hb
      go_wp2
      go_loopw [7, 20] (fun v k wr => ∃ j : Nat, j ≤ l.length ∧ k = .int .i64 j ∧ Aside0 (Moved P T wo wr i l j v)) (fun _ k _ => l.length - (intOf k).toNat)
      case atStart => exact ⟨0, Nat.zero_le _, rfl, ⟨⟨own_nil _ _ _ _, Below.refl _ _⟩⟩⟩
      case round =>
        obtain ⟨j, hj', rfl, HO⟩ := hrel
        by_cases hj : j < l.length
        · have hat : ∃ ad, A = some ad ∧ wr.cell? (ad.add j) = some (.int .i64 ((l[j] : Nat) : Int)) := by
            have := (HR.out.below HO.out.below).at_ (j : Int) (by omega) (by omega)
            rw [rd_ints l j hj] at this
            simpa using this
          obtain ⟨ad, rfl, hc⟩ := hat
          have hq := ((HM.out l[j]).1 (List.getElem_mem hj)).1
          have HSt : ∀ o, stepO (bl P) (T.data.toList.getD i 0) l[j] = o → Aside0 (stepO (bl P) (T.data.toList.getD i 0) l[j] = o) := fun o h => ⟨h⟩
          by_cases hqn : l[j] = P.size
          · have HSt := HSt none (by unfold stepO; rw [if_pos (by rw [bl_length]; exact hqn)])
            have HQ := Aside0.mk (HO.out.stay hj HSt.out 0)
            have hqb : (((l[j] : Nat) : Int) == (P.size : Int)) = true := by rw [hqn]; simp
            clear hqn hq
            generalize l[j] = q at *
            go_wp2
            go_roundw
            case rel => exact ⟨j + 1, by omega, by go_num, HQ⟩
            case measure => simp [intOf]; omega
          · have hqP : l[j] < P.size := by omega
            have hqb : (((l[j] : Nat) : Int) == (P.size : Int)) = false := by rw [beq_eq_false_iff_ne]; omega
            have e42 := eq42 P l[j] hqP
            have e63 := eq63 P l[j] hqP
            have eT := byte_beq P[l[j]] T[i]
            have HE := Aside0.mk (show stepO (bl P) (T.data.toList.getD i 0) l[j] = _ by unfold stepO; rw [if_neg (by rw [bl_length]; exact hqn), bl_getD P l[j] hqP, bl_getD T i hlt])
            clear hqn hq
            cases h42 : (P[l[j]] == 42) with
            | true =>
              have HSt := HSt (some l[j]) (by rw [HE.out, if_pos (beq_iff_eq.1 h42)])
              rw [h42] at e42
              clear HE h42 e63 eT
              have HGO := fun v1 w2 ho hb => Aside0.mk (Moved.go (P := P) (T := T) (wo := wo) (i := i) (v := v1) (w1 := w2) hj HSt.out ho hb)
              clear HSt
              generalize l[j] = q at *
              go_wp2_with (at_builtin; refine print_append_num (w0 := wo) wo.heap.size rfl _ _ 62 3 .i64 8 rfl Tryd.underlying62 info3 (by decide) u7 _ (q : Int) rfl rfl (HO.out.len) (HO.out.below) (HO.out.below.size) (by rw [ints_length]; have := moved_le (P := bl P) (b := T.data.toList.getD i 0) l j; omega) ?_; intro v1 w2 ho hB1 _ _; have HQ := HGO _ _ ho hB1; clear ho hB1)
              go_roundw
              case rel => exact ⟨j + 1, by omega, by go_num, HQ⟩
              case measure => simp [intOf]; omega
            | false =>
              rw [h42] at e42
              cases h63 : (P[l[j]] == 63) with
              | true =>
                have HSt := HSt (some (l[j] + 1)) (by rw [HE.out, if_neg (beq_eq_false_iff_ne.1 h42), if_pos (Or.inl (beq_iff_eq.1 h63))])
                rw [h63] at e63
                clear HE h42 h63 eT
                have HGO := fun v1 w2 ho hb => Aside0.mk (Moved.go1 (P := P) (T := T) (wo := wo) (i := i) (v := v1) (w1 := w2) hj HSt.out ho hb)
                clear HSt
                generalize l[j] = q at *
                go_wp2
                go_quiet (fail)
                go_wp2_with (at_builtin; refine print_append_num (w0 := wo) wo.heap.size rfl _ _ 62 3 .i64 8 rfl Tryd.underlying62 info3 (by decide) u7 _ ((q : Int) + 1) rfl rfl ((HO.out.drewN _).len) ((HO.out.drewN _).below) ((HO.out.drewN _).below.size) (by rw [ints_length]; have := moved_le (P := bl P) (b := T.data.toList.getD i 0) l j; omega) ?_; intro v1 w2 ho hB1 _ _; have HQ := HGO _ _ ho hB1; clear ho hB1)
                go_roundw
                case rel => exact ⟨j + 1, by omega, by go_num, HQ⟩
                case measure => simp [intOf]; omega
              | false =>
                rw [h63] at e63
                cases hT : (P[l[j]] == T[i]) with
                | true =>
                  have HSt := HSt (some (l[j] + 1)) (by rw [HE.out, if_neg (beq_eq_false_iff_ne.1 h42), if_pos (Or.inr (beq_iff_eq.1 hT))])
                  rw [hT] at eT
                  clear HE h42 h63 hT
                  have HGO := fun v1 w2 ho hb => Aside0.mk (Moved.go1 (P := P) (T := T) (wo := wo) (i := i) (v := v1) (w1 := w2) hj HSt.out ho hb)
                  clear HSt
                  generalize l[j] = q at *
                  go_wp2
                  go_quiet (fail)
                  go_wp2_with (at_builtin; refine print_append_num (w0 := wo) wo.heap.size rfl _ _ 62 3 .i64 8 rfl Tryd.underlying62 info3 (by decide) u7 _ ((q : Int) + 1) rfl rfl ((HO.out.drewN _).len) ((HO.out.drewN _).below) ((HO.out.drewN _).below.size) (by rw [ints_length]; have := moved_le (P := bl P) (b := T.data.toList.getD i 0) l j; omega) ?_; intro v1 w2 ho hB1 _ _; have HQ := HGO _ _ ho hB1; clear ho hB1)
                  go_roundw
                  case rel => exact ⟨j + 1, by omega, by go_num, HQ⟩
                  case measure => simp [intOf]; omega
                | false =>
                  have HSt := HSt none (by rw [HE.out, if_neg (beq_eq_false_iff_ne.1 h42), if_neg (fun h => h.elim (beq_eq_false_iff_ne.1 h63) (beq_eq_false_iff_ne.1 hT))])
                  rw [hT] at eT
                  clear HE h42 h63 hT
                  have HGO := fun n => Aside0.mk (HO.out.stay hj HSt.out n)
                  clear HSt
                  generalize l[j] = q at *
                  go_wp2
                  go_quiet (fail)
                  go_wp2
                  go_roundw
                  case rel => exact ⟨j + 1, by omega, by go_num, HGO _⟩
                  case measure => simp [intOf]; omega
        · obtain rfl : j = l.length := by omega
          obtain ⟨A2, c2, rfl, hr2⟩ := own_reads HO.out.row
          rw [List.take_length] at hr2 ⊢
          have hwl := HO.out.below
          have hx2 : ∀ x ∈ l.filterMap (stepO (bl P) (T.data.toList.getD i 0)), x ≤ P.size := fun x hx => by
            obtain ⟨q, hq1, hq2⟩ := List.mem_filterMap.1 hx
            have := stepO_le _ _ q x (by rw [bl_length]; exact ((HM.out q).1 hq1).1) hq2
            rwa [bl_length] at this
          have HC := closure_reads P A2 c2 _ wr hP hx2 hr2
          have HN : ∀ (A3 : Option Addr) (c3 : Nat) (w3 : World), ReadsInt w3 .i64 A3 (outB (stB P) (l.filterMap (stepO (bl P) (T.data.toList.getD i 0))) (P.size + 1)).length (ints (outB (stB P) (l.filterMap (stepO (bl P) (T.data.toList.getD i 0))) (P.size + 1))) → Below wr.heap.size wr w3 →
              Aside0 (Reach P T w w3 (i + 1) (.slice A3 (outB (stB P) (l.filterMap (stepO (bl P) (T.data.toList.getD i 0))) (P.size + 1)).length c3)) := by
            intro A3 c3 w3 hr3 hb3
            have hTi : i < (bl T).length := by rw [bl_length]; exact hlt
            refine ⟨⟨A3, c3, _, rfl, hr3, fun q => ?_, outB_le _ _ _, ?_⟩⟩
            · rw [mem_outB, stB_eq, show T.data.toList.getD i 0 = (bl T)[i] from getD_lt hTi]
              have hm : ∀ q, q ∈ l ↔ q ≤ (bl P).length ∧ AtS (bl P) (bl T) q i := by rw [bl_length]; exact HM.out
              constructor
              · rintro ⟨h1, h2⟩; exact ⟨by omega, (AtS_succ (bl P) (bl T) l i q hTi hm (by rw [bl_length]; omega)).1 h2⟩
              · rintro ⟨h1, h2⟩; exact ⟨by omega, (AtS_succ (bl P) (bl T) l i q hTi hm (by rw [bl_length]; omega)).2 h2⟩
            · exact below_then (below_then HB.out HB.out.size hwl) (Nat.le_trans HB.out.size hwl.size) hb3
          generalize l.filterMap (stepO (bl P) (T.data.toList.getD i 0)) = m at *
          clear hr2 hwl hx2 HM HR HO HB
          go_wp2_with fail
          refine HC.mono ?_
          clear HC
          rintro e w3 ⟨A3, c3, rfl, hr3, hb3⟩
          have HQ := HN A3 c3 w3 hr3 hb3
          clear HN hr3 hb3
          go_wp2
          go_roundw
          case rel => exact ⟨i + 1, by omega, by go_num, HQ⟩
          case measure => simp [intOf]; omega
    · obtain rfl : i = T.size := by omega
      have HC := contains_calls A c l P.size wr hr
      have HD : Hid (decide (P.size ∈ l) = mB P T) := by
        unfold mB
        rw [decide_eq_decide, HM.out]
        have := AtS_end (bl P) (bl T)
        rw [bl_length, bl_length] at this
        rw [this]; exact ⟨fun h => h.2, fun h => ⟨Nat.le_refl _, h⟩⟩
      have HB := Aside0.mk hb
      clear hr HM hb
      go_wp2_with fail
      refine HC.mono ?_
      clear HC
      rintro e w2 ⟨rfl, rfl⟩
      go_wp2
      go_ret
      exact ⟨by rw [HD.out]; rfl, HB.out⟩

end Go.Proofs.YtkmoeeaaolpdnaaDoor
