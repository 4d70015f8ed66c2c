/-
  The walks of slices.Reverse at bytes and of wBack: a string the other way round.
  Condition: the string has at most 140737488351232 bytes.
-/
import Derived.Test.YtkmoeeaaolpdnaaMch
import Derived.Lib.ConvBytes
import Derived.Laws.BytesArg
import Derived.RegionTactic
namespace Go.Proofs.Ytkmoeeaaolpdnaa
open Go.RowKit Go.Proofs.YtkmoeeaaolpdnaaW.PrintWords GlobPlain

/-- a row of bytes at the head of a block, none of them frozen -/
structure Bs (w : World) (g : Nat) (xs : List Int) : Prop where
  ex : ∃ (cs : Array Value) (lo hi : Nat), w.heap[g]? = some (.cells cs 5 (lo, hi)) ∧ xs.length ≤ lo ∧ xs.length ≤ cs.size ∧ ∀ i (h : i < xs.length), cs[i]? = some (.int .u8 xs[i])
theorem Bs.lt {w : World} {g : Nat} {xs : List Int} (h : Bs w g xs) : g < w.heap.size := by
  obtain ⟨cs, lo, hi, hb, _⟩ := h.ex
  exact (Array.getElem?_eq_some_iff.1 hb).1
theorem Bs.of_block {w w1 : World} {g : Nat} {xs : List Int} (h : Bs w g xs) (hb : w1.heap[g]? = w.heap[g]?) : Bs w1 g xs := by
  obtain ⟨cs, lo, hi, hk, r⟩ := h.ex
  exact ⟨cs, lo, hi, hb.trans hk, r⟩
theorem Bs.below {w w1 : World} {g : Nat} {xs : List Int} (h : Bs w g xs) (hb : Below w.heap.size w w1) : Bs w1 g xs := h.of_block (hb.block g h.lt)
theorem Bs.drew {w : World} {g : Nat} {xs : List Int} (h : Bs w g xs) : Bs w.drew g xs := h.of_block rfl
theorem Bs.new (w : World) (s : ByteArray) : Bs (Lib.bytesWorld w 5 s) w.heap.size (bytesOf s) := by
  have hsz : s.size ≤ (Lib.bytesCells w 5 s).size := by
    unfold Lib.bytesCells
    rw [Array.size_append, Array.size_map]; exact Nat.le_add_right _ _
  refine ⟨_, _, _, Lib.bytesWorld_at_new w 5 s, by rw [bytesOf_length]; exact hsz, by rw [bytesOf_length]; exact hsz, fun i hi => ?_⟩
  rw [bytesOf_length] at hi
  have hc := Lib.bytesWorld_cell w 5 s i hi
  have hb := Lib.bytesWorld_at_new w 5 s
  have hl : i < s.data.toList.length := by rw [data_length]; exact hi
  have e : (bytesOf s)[i]'(by rw [bytesOf_length]; exact hi) = ((s.data.toList.getD i 0).toNat : Int) := by
    simp [bytesOf, List.getD_eq_getElem?_getD, List.getElem?_eq_getElem hl]
  rw [e]
  rw [cell_of_row _ _ _ _ _ _ hb] at hc
  exact hc
theorem Bs.cell {w : World} {g : Nat} {xs : List Int} (h : Bs w g xs) (i : Nat) (hi : i < xs.length) : w.cell? ⟨g, i, none⟩ = some (.int .u8 xs[i]) ∧ w.frozen? ⟨g, i, none⟩ = false := by
  obtain ⟨cs, lo, hi', hb, h1, h2, h3⟩ := h.ex
  refine ⟨by rw [cell_of_row _ _ _ _ _ _ hb]; exact h3 i hi, ?_⟩
  simp [World.frozen?, hb]
  omega
theorem Bs.set {w : World} {g : Nat} {xs : List Int} (h : Bs w g xs) (i : Nat) (v : Int) : Bs (w.setCell ⟨g, i, none⟩ (.int .u8 v)) g (xs.set i v) := by
  obtain ⟨cs, lo, hi', hb, h1, h2, h3⟩ := h.ex
  refine ⟨cs.setIfInBounds i (.int .u8 v), lo, hi', ?_, by simpa using h1, by simpa using h2, fun j hj => ?_⟩
  · simp [World.setCell, Array.getElem?_modify, hb]
  · rw [List.length_set] at hj
    rw [Array.getElem?_setIfInBounds]
    by_cases e : i = j
    · subst e
      rw [if_pos rfl, if_pos (by omega)]; simp
    · rw [if_neg e, h3 j hj]; simp [e]
theorem Bs.string {w : World} {g : Nat} {xs : List Int} (h : Bs w g xs) (cap : Nat) : (convert 33 9 (.slice (some ⟨g, 0, none⟩) xs.length cap)).run Try.prog w = .ok (.string (strOfNums xs)) w :=
  run_convert_bytes_arg w 33 5 Try.underlying33 Try.underlying5 g 0 xs.length cap xs rfl (fun i hi => by
    rw [Nat.zero_add, (h.cell i hi).1]; simp [List.getD_eq_getElem?_getD, List.getElem?_eq_getElem hi]) 9 Try.underlying9

/-- the first k and the last k exchanged -/
def revK (xs : List Int) (k : Nat) : List Int := (List.range xs.length).map fun i => if i < k ∨ xs.length - k ≤ i then xs.getD (xs.length - 1 - i) 0 else xs.getD i 0
theorem revK_length (xs : List Int) (k : Nat) : (revK xs k).length = xs.length := by simp [revK]
theorem revK_get (xs : List Int) (k i : Nat) (h : i < (revK xs k).length) : (revK xs k)[i] = if i < k ∨ xs.length - k ≤ i then xs.getD (xs.length - 1 - i) 0 else xs.getD i 0 := by simp [revK]
theorem revK_zero (xs : List Int) : revK xs 0 = xs := by
  apply List.ext_getElem (revK_length _ _)
  intro i h1 h2
  rw [revK_get, if_neg (by omega)]
  simp [List.getD_eq_getElem?_getD, List.getElem?_eq_getElem h2]
theorem revK_step (xs : List Int) (k m : Nat) (hk : k < m) (h : k + m + 1 = xs.length) (h1 : k < (revK xs k).length) (h2 : m < (revK xs k).length) : ((revK xs k).set k (revK xs k)[m]).set m (revK xs k)[k] = revK xs (k + 1) := by
  apply List.ext_getElem (by simp [revK_length])
  intro i h3 h4
  rw [List.getElem_set, List.getElem_set]
  simp only [revK_get]
  by_cases e : m = i
  · subst e
    rw [if_pos rfl, if_neg (by omega), if_pos (by omega)]
    rw [show xs.length - 1 - m = k from by omega]
  · rw [if_neg e]
    by_cases e2 : k = i
    · subst e2
      rw [if_pos rfl, if_neg (by omega), if_pos (by omega)]
      rw [show xs.length - 1 - k = m from by omega]
    · rw [if_neg e2]
      by_cases c : i < k ∨ xs.length - k ≤ i
      · rw [if_pos c, if_pos (by omega)]
      · rw [if_neg c, if_neg (by omega)]
theorem revK_all (xs : List Int) (k m : Nat) (hk : ¬ k < m) (h : k + m + 1 = xs.length) : revK xs k = xs.reverse := by
  apply List.ext_getElem (by simp [revK_length])
  intro i h1 h2
  have h3 : i < xs.length := by simpa using h2
  rw [revK_get, List.getElem_reverse]
  have e : ∀ j (hj : j < xs.length), xs.getD j 0 = xs[j] := fun j hj => by simp [List.getD_eq_getElem?_getD, List.getElem?_eq_getElem hj]
  by_cases c : i < k ∨ xs.length - k ≤ i
  · rw [if_pos c, e _ (by omega)]
  · rw [if_neg c, e _ h3]
    congr 1; omega

set_option maxHeartbeats 1000000 in
set_option maxRecDepth 100000 in
theorem reverse_calls (g cap : Nat) (xs : List Int) (w : World) (hn : xs.length ≤ 140737488351232) (h : Bs w g xs) :
    Calls Try.prog 18 #[.slice (some ⟨g, 0, none⟩) xs.length cap] w fun e w' => e = .returned (.tuple #[]) ∧ Bs w' g xs.reverse ∧ Below g w w' := by
  by_cases h0 : xs.length = 0
  · obtain rfl : xs = [] := List.eq_nil_of_length_eq_zero h0
    have HS := Aside0.mk h
    clear h h0
    go_enter Try.func18, Try.ntmps18
    go_wp2
    refine wp_loop_rounds 1 ?_
    rw [rounds_succ]
    go_wp2
    go_end0
    exact ⟨rfl, by simpa using HS.out, Below.refl _ _⟩
  · have HS := Aside0.mk h
    have HN := Aside0.mk (show 0 < xs.length by omega)
    clear h h0
    go_enter Try.func18, Try.ntmps18
    go_wp2
    go_loopw [2, 3] (fun a b wr => ∃ k m : Nat, a = .int .i64 k ∧ b = .int .i64 m ∧ Aside0 (k + m + 1 = xs.length) ∧ Aside0 (Bs wr g (revK xs k)) ∧ Aside0 (Below g w wr)) (fun a _ _ => xs.length - (intOf a).toNat)
    case atStart => exact ⟨0, xs.length - 1, rfl, by have := HN.out; congr 1; omega, ⟨by have := HN.out; omega⟩, ⟨by rw [revK_zero]; exact HS.out⟩, ⟨Below.refl _ _⟩⟩
    case round =>
      obtain ⟨k, m, rfl, rfl, HE, HB, HW⟩ := hrel
      by_cases hlt : k < m
      · have hm : m < xs.length := by have := HE.out; omega
        have hkl : k < (revK xs k).length := by rw [revK_length]; omega
        have hml : m < (revK xs k).length := by rw [revK_length]; omega
        have HQ := Aside0.mk ((HB.out.drew.set k (revK xs k)[m]).set m (revK xs k)[k])
        rw [revK_step xs k m hlt HE.out] at HQ
        obtain ⟨hc1, hf1⟩ := HB.out.cell k hkl
        obtain ⟨hc2, hf2⟩ := HB.out.cell m hml
        generalize (revK xs k)[m] = X at *
        generalize (revK xs k)[k] = Y at *
        clear hkl hml
        have hkm : ¬ k = m := by omega
        have hk2 : k < xs.length := by omega
        go_wp2
        go_region
        go_wp2
        go_roundw
        case rel => exact ⟨k + 1, m - 1, by go_num, by congr 1; omega, ⟨by have := HE.out; omega⟩, HQ, ⟨(HW.out.drew.setCell (p := ⟨g, k, none⟩) (Nat.le_refl _) _).setCell (p := ⟨g, m, none⟩) (Nat.le_refl _) _⟩⟩
        case measure => simp [intOf]; have := HE.out; omega
      · have HR := Aside0.mk HB.out
        rw [revK_all xs k m hlt HE.out] at HR
        go_wp2
        go_end0
        exact ⟨rfl, HR.out, HW.out⟩

/-- a string the other way round -/
def backS (s : ByteArray) : ByteArray := strOfNums (bytesOf s).reverse
theorem bl_strOf (l : List UInt8) : bl (strOfNums (l.map fun b => (b.toNat : Int))) = l := by
  show (strOfNums _).data.toList = l
  rw [strOfNums_data, List.map_map]
  conv => rhs; rw [← List.map_id l]
  apply List.map_congr_left
  intro b _
  simp
theorem bl_back (s : ByteArray) : bl (backS s) = (bl s).reverse := by
  unfold backS bytesOf
  rw [← List.map_reverse]; exact bl_strOf _

set_option maxHeartbeats 1000000 in
set_option maxRecDepth 100000 in
theorem back_calls (s : ByteArray) (w : World) (hs : s.size ≤ 140737488351232) :
    Calls Try.prog 15 #[.string s] w fun e w' => e = .returned (.string (backS s)) ∧ Below w.heap.size w w' := by
  have kb := fun W => print_bytes (P := Try.prog) 9 33 5 Try.underlying9 Try.underlying33 Try.underlying5 s W
  have HL := Aside0.mk (bytesOf_length s)
  have HR := reverse_calls w.heap.size (grownCap w s.size 0 5) (bytesOf s) (Lib.bytesWorld w 5 s) (by rw [bytesOf_length]; exact hs) (Bs.new w s)
  rw [bytesOf_length] at HR
  have HB := Aside0.mk (bytes_below (Below.refl w.heap.size w) (Nat.le_refl _) 5 s)
  go_enter Try.func15, Try.ntmps15
  go_wp2_with fail
  refine HR.mono ?_
  rintro e w1 ⟨rfl, hb, hw⟩
  have hstr := hb.string (grownCap w s.size 0 5)
  rw [List.length_reverse, bytesOf_length] at hstr
  have HB2 := Aside0.mk (HB.out.trans hw)
  clear HR hb hw kb
  go_wp2
  go_ret
  exact ⟨rfl, HB2.out⟩

set_option maxHeartbeats 1000000 in
set_option maxRecDepth 100000 in
theorem turned_walk (p s : ByteArray) (w : World) (hp : p.size ≤ 140737488351232) (hs : s.size ≤ 140737488351232) :
    Calls Try.prog 8 #[.string p, .string s] w fun e w' => e = .returned (.bool true) ∧ Below w.heap.size w w' := by
  go_enter Try.func8, Try.ntmps8
  go_wp2_with fail
  refine (back_calls p w hp).mono ?_
  rintro e w1 ⟨rfl, hb1⟩
  have HB := Aside0.mk hb1
  clear hb1
  go_wp2_with fail
  refine (back_calls s _ hs).mono ?_
  rintro e w2 ⟨rfl, hb2⟩
  have HB2 := Aside0.mk (below_then HB.out HB.out.size hb2)
  clear hb2
  go_wp2_with fail
  refine (wmatch_calls p s (backS p) (backS s) _ (fun _ _ _ _ => mB_congr (by rw [bl_back, bl_back]; exact turned _ _))).mono ?_
  rintro e w3 ⟨rfl, hb3⟩
  have HB3 := Aside0.mk (below_then HB2.out HB2.out.size hb3)
  clear hb3
  go_wp2
  go_ret
  exact ⟨rfl, HB3.out⟩

end Go.Proofs.Ytkmoeeaaolpdnaa
