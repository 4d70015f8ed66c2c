/-
 A law for a range over a function whose iterator keeps a state in a cell of its own: over whatever program.
 The walks of strings.SplitSeq and of its iterator, at a slash: it yields the pieces of the string, in order.
 Plain: the paths of a tree in order: names joined by slashes; different, and sorted.
 Plain: a sorted list without its runs; what Compact behind Sort gives.
 The walk of glob.Find: the paths of a tree in order that a pattern's elements match, sorted.
-/
import Derived.RangeFuncNested
import Derived.RangeFuncBox
import Derived.RangeFuncBound
import Derived.RangeFuncCalls
import Derived.RangeFuncLeaves
import Derived.Shelf.Abstract
import Derived.WalkKit
import Derived.OwnWalkIn
import Derived.TacticsInMore
import Derived.LoopNIn
import Derived.LoopIn
import Derived.IntWalk
import Derived.Test.YtkmoeeaaolpdnaaGreatDoorWWords
import Derived.Test.YtkmoeeaaolpdnaaGreatDoorMF
import Derived.Test.YtkmoeeaaolpdnaaGreatDoorShelfB
import Derived.Test.YtkmoeeaaolpdnaaGreatDoorWKept
import Derived.Test.YtkmoeeaaolpdnaaGreatDoorME
namespace Go.Proofs.YtkmoeeaaolpdnaaGreatDoor
open Go.RowKit

/-- how a round's body must end -/
def RoundEnd (lo hi : Nat) (I : List ByteArray → World → Prop) (ys : List ByteArray) (W : World) : Exit → Act → World → Prop
  | .normal, _, W' => I ys W' ∧ W.heap.size ≤ W'.heap.size ∧ ∀ k, lo ≤ k → k < hi → W'.heap[k]? = W.heap[k]?
  | _, _, _ => False

theorem keep_two {W W' : World} {lo hi k : Nat} {o : Obj} (h : ∀ k, lo ≤ k → k < hi → W'.heap[k]? = W.heap[k]?) (h1 : lo ≤ k) (h2 : k < hi) (ho : W.heap[k]? = some o) : W'.heap[k]? = some o := (h k h1 h2).trans ho

theorem range_law {P : Program} {g : Operand} {q : Tmp} {assign body : Code} {Q : Exit → Act → World → Prop} {a : Act} {w : World} {n : Nat} {gf : Nat} {lb : Array Value}
    (hg : a.eval g = .func (.func gf) #[] lb) (eg : ∀ args w, (callFunc gf args).run P w = .ok (.enter gf args) w) (xs : List ByteArray) (lo b : Nat) (hlo : lo ≤ b) (hb : b < w.heap.size)
    (hseq : ∀ (l : Nat) (J : List ByteArray → World → Prop) (W : World), Below w.heap.size w W → (∀ pre W1 W2, J pre W1 → W1.grownBy W2 (some b) → J pre W2) →
      (∀ pre x W1, J pre W1 → pre.length < xs.length → YieldAt Fence.wide (n - 1 - 1) P l #[.string x] W1 fun e W' => e = .returned (.bool true) ∧ J (pre ++ [x]) W' ∧ ∀ k, lo ≤ k → k < w.heap.size → W'.heap[k]? = W1.heap[k]?) →
      J [] W → CallsIn Fence.wide (n - 1) P gf (#[.func (.yield l) #[] #[]] ++ lb) W fun e W' => (∃ v, e = .returned v) ∧ J xs W')
    (I : List ByteArray → World → Prop) (hI : ∀ pre W W' k, (k = b ∨ k = w.heap.size ∨ k = w.heap.size + 1) → I pre W → W.grownBy W' (some k) → I pre W') (h0 : I [] w) (a₁ : ByteArray → Act)
    (hassign : ∀ (l : Nat) (x : ByteArray) (W : World) (K : Act → World → Prop), K (a₁ x) W →
      assign.wpIn (Fence.wide.inRound l) (n - 1 - 1) P (Exit.then K (fun _ _ _ => False)) { tmps := ((#[q] : Array Tmp).zip #[Value.string x]).foldl (fun t (p, v) => t.setIfInBounds p v) a.tmps, defers := [] } W)
    (hbody : ∀ (l : Nat) (pre : List ByteArray) (x : ByteArray) (W : World), I pre W → pre.length < xs.length → w.heap.size + 1 < W.heap.size → body.wpIn (Fence.wide.inRound l) (n - 1 - 1) P (RoundEnd lo (w.heap.size + 2) I (pre ++ [x]) W) (a₁ x) W)
    (hdone : ∀ (D : Nat) (W : World), w.heap.size ≤ D → I xs W → W.heap[D]? = some (.deferred (some [])) → Q .normal { a with defers := { target := .collected D, args := #[] } :: a.defers } W) :
    (Code.rangeFunc g #[q] assign body).wpIn Fence.wide n P Q a w := by
  refine wpIn_rangeFunc ?_
  intro fn hfn
  let R : LoopState → Loop := fun st => { state := st, pending := none, fn := fn, tmps := a.tmps, params := #[q], assign := assign, body := body, defers := w.heap.size }
  have hsz : ((w.alloc (.deferred (some []))).alloc (.loop (R .ready))).heap.size = w.heap.size + 2 := by rw [World.size_alloc, World.size_alloc]
  have hL0 : ((w.alloc (.deferred (some []))).alloc (.loop (R .ready))).heap[w.heap.size + 1]? = some (.loop (R .ready)) := by
    have := World.alloc_heap_new (w.alloc (.deferred (some []))) (.loop (R .ready)); rwa [World.size_alloc] at this
  have hD0 : ((w.alloc (.deferred (some []))).alloc (.loop (R .ready))).heap[w.heap.size]? = some (.deferred (some [])) :=
    (Below.heap_alloc _ _ _ (by rw [World.size_alloc]; omega)).trans (World.alloc_heap_new w _)
  have hB0 : Below w.heap.size w ((w.alloc (.deferred (some []))).alloc (.loop (R .ready))) := ((Below.refl _ w).alloc (Nat.le_refl _) _).alloc (by rw [World.size_alloc]; omega) _
  have hI0 : I [] ((w.alloc (.deferred (some []))).alloc (.loop (R .ready))) :=
    hI _ _ _ w.heap.size (.inr (.inl rfl)) h0 ⟨hB0.os, hB0.tape, hB0.output, hB0.size, fun k hk _ => hB0.block k hk⟩
  refine ⟨w.heap.size + 1, [{ target := .collected w.heap.size, args := #[] }], (w.alloc (.deferred (some []))).alloc (.loop (R .ready)), { target := .fn (.func gf) lb, args := #[.func (.yield (w.heap.size + 1)) #[] #[]] },
    (w.alloc (.deferred (some []))).alloc (.loop (R .ready)), gf, #[.func (.yield (w.heap.size + 1)) #[] #[]] ++ lb, (w.alloc (.deferred (some []))).alloc (.loop (R .ready)), ?_, ?_, ?_, ?_, ?_, ?_⟩
  · exact run_enterLoop_outer _ _ _ _ _
  · simp only [resolve, hg]
    simp [go_sem]
  · intro f' _; trivial
  · simp [invoke, go_sem, eg]
  · intro h; cases h
  · refine (hseq (w.heap.size + 1) (fun pre W => I pre W ∧ W.heap[w.heap.size + 1]? = some (.loop (R .ready)) ∧ W.heap[w.heap.size]? = some (.deferred (some []))) _ hB0 ?_ ?_ ⟨hI0, hL0, hD0⟩).mono ?_
    · rintro pre W1 W2 ⟨h1, h2, h3⟩ hgr
      refine ⟨hI _ _ _ b (.inl rfl) h1 hgr, (hgr.block _ (Array.getElem?_eq_some_iff.1 h2).1 ?_).trans h2, (hgr.block _ (Array.getElem?_eq_some_iff.1 h3).1 ?_).trans h3⟩
      · intro e; injection e with e; omega
      · intro e; injection e with e; omega
    · rintro pre x W ⟨hi, hl, hd⟩ hlen
      have hlt := (Array.getElem?_eq_some_iff.1 hl).1
      have hy := run_yield (P := P) (args := #[Value.string x]) hl rfl
      refine ⟨fn, _, assign, body, hy, roundIn_of_wpIn hfn (hassign _ x W _ ⟨_, run_beginRound hl rfl, ?_⟩)⟩
      have e1 : (W.putObj (w.heap.size + 1) (.loop (R .busy))).heap[w.heap.size + 1]? = some (.loop (R .busy)) := World.putObj_heap_same hlt
      have e2 : (W.putObj (w.heap.size + 1) (.loop (R .busy))).heap[w.heap.size]? = some (.deferred (some [])) := (World.putObj_heap_other (by omega)).trans hd
      have e3 : I pre (W.putObj (w.heap.size + 1) (.loop (R .busy))) := hI _ _ _ _ (.inr (.inr rfl)) hi (grownBy_putObj' W _ _)
      have e4 : w.heap.size + 1 < (W.putObj (w.heap.size + 1) (.loop (R .busy))).heap.size := by rw [World.putObj_size]; exact hlt
      refine wpIn_mono (hbody _ pre x _ e3 hlen e4) ?_
      rintro e a3 W3 hp
      cases e with
      | normal =>
        obtain ⟨h1, h2, h3⟩ := hp
        have f1 := keep_two h3 (by omega) (by omega) e1
        have f2 := keep_two h3 (by omega) (by omega) e2
        have f3 : (W3.putObj (w.heap.size + 1) (.loop (R .ready))).heap[w.heap.size + 1]? = some (.loop (R .ready)) := World.putObj_heap_same (Array.getElem?_eq_some_iff.1 f1).1
        refine ⟨.bool true, W3.putObj (w.heap.size + 1) (.loop (R .ready)), run_endRound (P := P) none f1, rfl, ⟨hI _ _ _ _ (.inr (.inr rfl)) h1 (grownBy_putObj' W3 _ _), f3, (World.putObj_heap_other (by omega)).trans f2⟩, ?_⟩
        intro k hk1 hk2
        rw [World.putObj_heap_other (by omega), h3 k hk1 (by omega), World.putObj_heap_other (by omega)]
      | ret => exact hp.elim
      | exit id => exact hp.elim
      | goto t => exact hp.elim
      | panic ch => exact hp.elim
      | outgrown => exact hp.elim
    · rintro e W2 ⟨⟨v, rfl⟩, hi, hl, hd⟩
      exact ⟨none, _, run_endLoop (P := P) hl (by show LoopState.ready ≠ LoopState.busy; simp), hdone _ _ (Nat.le_refl _) (hI _ _ _ _ (.inr (.inr rfl)) hi (grownBy_putObj' W2 _ _)) ((World.putObj_heap_other (by omega)).trans hd)⟩
end Go.Proofs.YtkmoeeaaolpdnaaGreatDoor

namespace Go.Proofs.YtkmoeeaaolpdnaaGreatDoor
open Go.RowKit Go.Proofs.YtkmoeeaaolpdnaaGreatDoorW.PrintWords
attribute [local go_sem] Oper.semAt_some

/-- how long the string in a box is -/
def boxLen (b : Nat) (W : World) : Nat := match W.cell? ⟨b, 0, none⟩ with
  | some (.string s) => s.size
  | _ => 0
theorem boxLen_eq {b : Nat} {W : World} {s : ByteArray} (h : W.cell? ⟨b, 0, none⟩ = some (.string s)) : boxLen b W = s.size := by unfold boxLen; rw [h]

/-- the three boxes of the iterator -/
structure SeqBoxes (b : Nat) (W : World) (s : ByteArray) : Prop where
  s : W.heap[b]? = some (.cells #[.string s] 9 (0, 0))
  sep : W.heap[b + 1]? = some (.cells #[.string ⟨#[47]⟩] 9 (0, 0))
  save : W.heap[b + 2]? = some (.cells #[.int .i64 0] 3 (0, 0))
theorem SeqBoxes.move {b : Nat} {W W' : World} {s : ByteArray} (h : SeqBoxes b W s) (hk : ∀ k, b ≤ k → k < b + 3 → W'.heap[k]? = W.heap[k]?) : SeqBoxes b W' s :=
  ⟨(hk _ (by omega) (by omega)).trans h.s, (hk _ (by omega) (by omega)).trans h.sep, (hk _ (by omega) (by omega)).trans h.save⟩
theorem SeqBoxes.set {b : Nat} {W : World} {s : ByteArray} (h : SeqBoxes b W s) (r : ByteArray) : SeqBoxes b (W.setCell ⟨b, 0, none⟩ (.string r)) r :=
  ⟨blk_set h.s 0 (.string r), blk_far h.sep (p := ⟨b, 0, none⟩) (by simp) _, blk_far h.save (p := ⟨b, 0, none⟩) (by simp) _⟩

set_option maxRecDepth 100000 in
set_option maxHeartbeats 4000000 in
theorem seq1_calls (n l b : Nat) (s : ByteArray) (J : List ByteArray → World → Prop) (hJ : ∀ pre W1 W2, J pre W1 → W1.grownBy W2 (some b) → J pre W2)
    (hY : ∀ pre x W1, J pre W1 → pre.length < (pcs s).length → YieldAt Fence.wide (n - 1) Tryz.prog l #[.string x] W1 fun e W' => e = .returned (.bool true) ∧ J (pre ++ [x]) W' ∧ ∀ k, b ≤ k → k < b + 3 → W'.heap[k]? = W1.heap[k]?)
    (W : World) (hB : SeqBoxes b W s) (hs : s.size ≤ 1000000000) (hj : J [] W) :
    CallsIn Fence.wide n Tryz.prog 74 #[.func (.yield l) #[] #[], .pointer (some ⟨b + 1, 0, none⟩), .pointer (some ⟨b, 0, none⟩), .pointer (some ⟨b + 2, 0, none⟩)] W fun e W' => (∃ v, e = .returned v) ∧ J (pcs s) W' := by
  have HJ := Aside0.mk hJ
  have HY := Aside0.mk hY
  have HB := Aside0.mk hB
  have HJ0 := Aside0.mk hj
  have c1 := (blk_cell hB.sep 0).trans rfl
  clear hJ hY hB hj
  refine callsIn_of_wp Tryz.func74 rfl trivial ?_ rfl
  simp only [Tryz.ntmps74, List.size_toArray, List.length_cons, List.length_nil, Nat.reduceAdd, Nat.reduceSub, Array.replicate_succ, Array.replicate_zero, List.push_toArray, List.append_toArray, List.nil_append, List.cons_append]
  gi_wp2
  gi_loopw [7, 8] (fun _ _ wr => ∃ (pre : List ByteArray) (r : ByteArray), Aside0 (pre ++ pcs r = pcs s) ∧ Aside0 (J pre wr) ∧ Aside0 (SeqBoxes b wr r) ∧ r.size ≤ 1000000000) (fun _ _ wr => boxLen b wr)
  case atStart => exact ⟨[], s, ⟨rfl⟩, HJ0, HB, hs⟩
  case round =>
    clear HJ0 HB c1
    obtain ⟨pre, r, HP, HJ1, HB1, hr⟩ := hrel
    have c0 := (blk_cell HB1.out.s 0).trans rfl
    have c1 := (blk_cell HB1.out.sep 0).trans rfl
    have c2 := (blk_cell HB1.out.save 0).trans rfl
    have HIX := Aside0.mk (fun w : World => (Tryz.strings_Index_one r 47 w).mono (fun e w' h => And.intro h.1 h.2.symm))
    have hpl : pre.length < (pcs s).length := by
      have h := congrArg List.length HP.out
      rw [List.length_append] at h
      have h2 : (pcs r).length ≠ 0 := by unfold pcs; rw [List.length_map]; intro e; exact cutAll_ne _ (List.eq_nil_of_length_eq_zero e)
      omega
    rcases ib_one 47 (bl r) with ⟨h1, h2⟩ | ⟨x, y, h1, h2, h3⟩
    · have HE : Aside0 (pre ++ [r] = pcs s) := ⟨by
        rw [← HP.out]
        unfold pcs
        rw [cutAll_none h2]
        rfl⟩
      have h1 : Lib.indexByte r.data.toList 47 = -1 := h1
      rw [h1] at HIX
      clear h1 h2 HP
      obtain ⟨fn, tmps, assign, body, hy, hR⟩ := HY.out pre r wr HJ1.out hpl
      have HR := Aside0.mk hR
      clear hR HJ1
      gi_wp2_with fail
      refine ⟨trivial, fun h => (by cases h), (callsIn_wide.2 (HIX.out _)).mono ?_⟩
      rintro e w' ⟨rfl, rfl⟩
      clear HIX
      gi_wp2
      refine ⟨fun h => (by cases h), HR.out.mono ?_⟩
      rintro e W3 ⟨rfl, hJ3, _⟩
      have HJ3 := Aside0.mk hJ3
      clear hJ3 HR hy
      gi_wp2
      go_end0
      exact ⟨⟨_, rfl⟩, by rw [← HE.out]; exact HJ3.out⟩
    · have hxs : x.length < r.size := by
        have := congrArg List.length h1
        rw [bl_length] at this
        simp at this
        omega
      have h3 : Lib.indexByte r.data.toList 47 = (x.length : Int) := h3
      rw [h3] at HIX
      have HE : Aside0 (pre ++ [r.extract 0 x.length] ++ pcs (r.extract (x.length + 1) r.size) = pcs s) := ⟨by
        rw [← HP.out, List.append_assoc]
        congr 1
        have e1 : bl (r.extract (x.length + 1) r.size) = y := by
          have : (r.extract (x.length + 1) r.size).data.toList = r.data.toList.drop (x.length + 1) := Lib.extract_to_end r _
          show (r.extract (x.length + 1) r.size).data.toList = y
          rw [this, show r.data.toList = bl r from rfl, h1]
          simp
        have e2 : r.extract 0 x.length = ⟨x.toArray⟩ := by
          have : (r.extract 0 x.length).data.toList = r.data.toList.take x.length := Lib.extract_from_zero r _
          rw [show r.data.toList = bl r from rfl, h1, List.take_left] at this
          generalize r.extract 0 x.length = d at this
          cases d with
          | mk d =>
            have this : d.toList = x := this
            rw [← this, Array.toArray_toList]
        unfold pcs
        rw [e1, h1, cutAll_app, cutAll_none h2, e2]
        rfl⟩
      have hsz2 : (r.extract (x.length + 1) r.size).size = r.size - (x.length + 1) := by rw [ByteArray.size_extract]; omega
      clear h1 h2 h3 HP
      generalize x.length = i at *
      obtain ⟨fn, tmps, assign, body, hy, hR⟩ := HY.out pre (r.extract 0 i) wr HJ1.out hpl
      have HR := Aside0.mk hR
      have HS2 := Aside0.mk hsz2
      have hiz : (i : Int) < (r.size : Int) := by omega
      have hw0 : IntKind.i64.wrap ((i : Int) + 0) = (i : Int) := by rw [Int.add_zero]; exact IntWalk.i64_in _ (by omega)
      have hw1 : IntKind.i64.wrap ((i : Int) + 1) = (i : Int) + 1 := IntWalk.i64_in _ (by omega)
      clear hR HJ1 hsz2
      gi_wp2_with fail
      refine ⟨trivial, fun h => (by cases h), (callsIn_wide.2 (HIX.out _)).mono ?_⟩
      rintro e w' ⟨rfl, rfl⟩
      clear HIX
      gi_wp2
      refine ⟨fun h => (by cases h), HR.out.mono ?_⟩
      rintro e W3 ⟨rfl, hJ3, hk3⟩
      have HB3 := Aside0.mk (HB1.out.move hk3)
      have d0 := (blk_cell HB3.out.s 0).trans rfl
      have d1 := (blk_cell HB3.out.sep 0).trans rfl
      have d0f := blk_frozen HB3.out.s 0
      have HJ4 := Aside0.mk (HJ.out _ _ (W3.setCell ⟨b, 0, none⟩ (.string (r.extract (i + 1) r.size))) hJ3 ⟨rfl, rfl, rfl, by simp [World.setCell], fun k _ hne => Below.heap_setCell W3 ⟨b, 0, none⟩ _ k (fun e => hne (by rw [e]))⟩)
      have HB4 := Aside0.mk (HB3.out.set (r.extract (i + 1) r.size))
      have HM := Aside0.mk (show boxLen b (W3.setCell ⟨b, 0, none⟩ (.string (r.extract (i + 1) r.size))) < boxLen b wr by
        rw [boxLen_eq ((blk_cell HB4.out.s 0).trans rfl), boxLen_eq ((blk_cell HB1.out.s 0).trans rfl), HS2.out]; omega)
      clear hJ3 hk3 HB3 HR hy HB1 c0 c1 c2
      gi_wp2
      go_roundw
      case rel => exact ⟨pre ++ [r.extract 0 i], _, HE, HJ4, HB4, by rw [HS2.out]; omega⟩
      case measure => exact HM.out

set_option maxRecDepth 100000 in
set_option maxHeartbeats 1000000 in
theorem splitSeq_calls (s : ByteArray) (w : World) : Calls Tryz.prog 50 #[.string s, .string ⟨#[47]⟩, .int .i64 0] w fun e w' =>
    e = .returned (.func (.func 74) #[] #[.pointer (some ⟨w.heap.size + 1, 0, none⟩), .pointer (some ⟨w.heap.size, 0, none⟩), .pointer (some ⟨w.heap.size + 2, 0, none⟩)]) ∧
    w' = ((w.alloc (.cells #[.string s] 9)).alloc (.cells #[.string ⟨#[47]⟩] 9)).alloc (.cells #[.int .i64 0] 3) := by
  go_enter Tryz.func50, Tryz.ntmps50
  go_wp2
  go_ret
  exact ⟨rfl, rfl⟩
set_option maxRecDepth 100000 in
set_option maxHeartbeats 1000000 in
theorem splitS_calls (s : ByteArray) (w : World) : Calls Tryz.prog 32 #[.string s, .string ⟨#[47]⟩] w fun e w' =>
    e = .returned (.func (.func 74) #[] #[.pointer (some ⟨w.heap.size + 1, 0, none⟩), .pointer (some ⟨w.heap.size, 0, none⟩), .pointer (some ⟨w.heap.size + 2, 0, none⟩)]) ∧
    SeqBoxes w.heap.size w' s ∧ Below w.heap.size w w' ∧ w'.heap.size = w.heap.size + 3 := by
  go_enter Tryz.func32, Tryz.ntmps32
  go_wp2_with fail
  refine (splitSeq_calls s _).mono ?_
  rintro e w' ⟨rfl, rfl⟩
  have s1 : (w.alloc (.cells #[.string s] 9)).heap.size = w.heap.size + 1 := World.size_alloc _ _
  have s2 : ((w.alloc (.cells #[.string s] 9)).alloc (.cells #[.string ⟨#[47]⟩] 9)).heap.size = w.heap.size + 2 := by rw [World.size_alloc, s1]
  have b0 := blk_alloc (blk_alloc (blk_new w (.cells #[.string s] 9)) (.cells #[.string ⟨#[47]⟩] 9)) (.cells #[.int .i64 0] 3)
  have b1 := blk_alloc (blk_new (w.alloc (.cells #[.string s] 9)) (.cells #[.string ⟨#[47]⟩] 9)) (.cells #[.int .i64 0] 3)
  have b2 := blk_new ((w.alloc (.cells #[.string s] 9)).alloc (.cells #[.string ⟨#[47]⟩] 9)) (.cells #[.int .i64 0] 3)
  rw [s1] at b1
  rw [s2] at b2
  have HB := Aside0.mk (SeqBoxes.mk b0 b1 b2)
  have HBl := Aside0.mk (below_alloc (below_alloc (below_alloc (Below.refl w.heap.size w) (.cells #[.string s] 9)) (.cells #[.string ⟨#[47]⟩] 9)) (.cells #[.int .i64 0] 3))
  have HS := Aside0.mk (show (((w.alloc (.cells #[.string s] 9)).alloc (.cells #[.string ⟨#[47]⟩] 9)).alloc (.cells #[.int .i64 0] 3)).heap.size = w.heap.size + 3 by rw [World.size_alloc, s2])
  clear b0 b1 b2 s1 s2
  generalize ((w.alloc (.cells #[.string s] 9)).alloc (.cells #[.string ⟨#[47]⟩] 9)).alloc (.cells #[.int .i64 0] 3) = w3 at *
  go_wp2
  go_ret
  exact ⟨rfl, HB.out, HBl.out, HS.out⟩
end Go.Proofs.YtkmoeeaaolpdnaaGreatDoor

namespace Go.Proofs.YtkmoeeaaolpdnaaGreatDoor
open Go.RowKit Go.Proofs.YtkmoeeaaolpdnaaGreatDoorW.PrintWords Go.Proofs.YtkmoeeaaolpdnaaGreatDoor.PTopFindsTwice

theorem cutAll_join (l : List (List UInt8)) (hne : l ≠ []) (h : ∀ x ∈ l, (47 : UInt8) ∉ x) : cutAll (Lib.join l [47]) = l := by
  induction l with
  | nil => exact absurd rfl hne
  | cons x l ih =>
    have hx := h x (by simp)
    cases l with
    | nil =>
      have e : Lib.join [x] [47] = x := by simp [Lib.join]
      rw [e, cutAll_none hx]
    | cons y l =>
      have e : Lib.join (x :: y :: l) [47] = x ++ 47 :: Lib.join (y :: l) [47] := by simp [Lib.join, List.intercalate, List.intersperse]
      rw [e, cutAll_app, cutAll_none hx, ih (by simp) fun z hz => h z (by simp [hz])]
      rfl
theorem ba_ext {x y : ByteArray} (h : bl x = bl y) : x = y := by
  cases x with
  | mk a =>
    cases y with
    | mk b =>
      have h : a.toList = b.toList := h
      have : a = b := by rw [← Array.toArray_toList (xs := a), h, Array.toArray_toList]
      rw [this]
theorem ba_mk (x : ByteArray) : (⟨(bl x).toArray⟩ : ByteArray) = x := ba_ext (by simp [bl])
theorem map_ba (l : List ByteArray) : (l.map (·.data.toList)).map (fun x => (⟨x.toArray⟩ : ByteArray)) = l := by
  induction l with
  | nil => rfl
  | cons x l ih =>
    rw [List.map_cons, List.map_cons, ih]
theorem bl_pStr (l : List ByteArray) : bl (pStr l) = 47 :: Lib.join (l.map (·.data.toList)) [47] := by
  unfold pStr
  simp [bl]
/-- names -/
def Names (l : List ByteArray) : Prop := ∀ s ∈ l, vName s = true
theorem Names.els {l : List ByteArray} (h : Names l) : ∀ x ∈ l.map (·.data.toList), IsEl x := by
  intro x hx
  obtain ⟨s, hs, rfl⟩ := List.mem_map.1 hx
  have := vName_facts (h s hs)
  refine ⟨fun e => ?_, this.2.2⟩
  have h1 : s.size = 0 := (Array.length_toList (xs := s.data)).symm.trans (congrArg List.length e)
  omega
theorem elts_pStr {l : List ByteArray} (h : Names l) : elts (pStr l) = l := by
  rw [elts_el, bl_pStr, el_path _ h.els, map_ba]
theorem pStr_inj {l l' : List ByteArray} (h : Names l) (h' : Names l') (e : pStr l = pStr l') : l = l' := by
  rw [← elts_pStr h, e, elts_pStr h']
theorem comps_pStr {l : List ByteArray} (h : Names l) : comps (pStr l) = l := by
  unfold comps
  rw [ByteArray.toList_eq, show (pStr l).data.toList = bl (pStr l) from rfl, bl_pStr]
  cases l with
  | nil => rfl
  | cons s l =>
    have hj : Lib.join ((s :: l).map (·.data.toList)) [47] ≠ [] := by
      intro e
      have h2 := el_join _ h.els
      rw [e, el_nil] at h2
      simp at h2
    rw [if_neg (by simpa using hj)]
    have e1 : bl ((pStr (s :: l)).extract 1 (pStr (s :: l)).size) = Lib.join ((s :: l).map (·.data.toList)) [47] := by
      show ((pStr (s :: l)).extract 1 (pStr (s :: l)).size).data.toList = _
      rw [Lib.extract_to_end, show (pStr (s :: l)).data.toList = bl (pStr (s :: l)) from rfl, bl_pStr]
      rfl
    unfold pcs
    rw [e1, cutAll_join _ (by simp) fun x hx => (h.els x hx).2]
    exact map_ba (s :: l)
theorem pStr_size (l : List ByteArray) (hl : l.length ≤ 40) (h : Names l) : 1 ≤ (pStr l).size ∧ (pStr l).size ≤ 1000 := by
  have h1 := congrArg List.length (bl_pStr l)
  rw [bl_length, List.length_cons] at h1
  have h2 := join_le (l.map (·.data.toList)) (by
    intro s hs
    obtain ⟨x, hx, rfl⟩ := List.mem_map.1 hs
    have := (vName_facts (h x hx)).2.1
    rw [show x.data.toList.length = x.size from Array.length_toList]
    exact this)
  rw [List.length_map] at h2
  omega

theorem mem_sortB {xs : List ByteArray} {x : ByteArray} : x ∈ sortB xs ↔ x ∈ xs := by
  unfold sortB
  rw [List.mem_map]
  constructor
  · rintro ⟨l, hl, rfl⟩
    obtain ⟨y, hy, rfl⟩ := List.mem_map.1 ((List.mem_mergeSort).1 hl)
    rw [show (⟨y.data.toList.toArray⟩ : ByteArray) = y from ba_mk y]
    exact hy
  · intro hx
    exact ⟨x.data.toList, List.mem_mergeSort.2 (List.mem_map.2 ⟨x, hx, rfl⟩), ba_mk x⟩
theorem allP_mem {T : List S104} (hV : Valid T) (hs : Small T) {x : ByteArray} (h : x ∈ allP T) : ∃ l, x = pStr l ∧ Names l ∧ l.length ≤ 40 := by
  unfold allP pths at h
  obtain ⟨v, hv, rfl⟩ := List.mem_map.1 (mem_sortB.1 h)
  have hr := (TreePlain.mem_visits (a0 := []) hv TreePlain.Reach.root).1
  rw [List.nil_append] at hr
  have := hr.depth (hV.good hs)
  have := hV.le
  exact ⟨v.2, rfl, (hV.sound hs).names hr, by omega⟩

/-- sorted, each but once -/
def SortedB (l : List ByteArray) : Prop := l.Pairwise fun x y => bl x < bl y
theorem sortB_sorted {xs : List ByteArray} (h : xs.Nodup) : SortedB (sortB xs) := by
  unfold SortedB sortB
  rw [List.pairwise_map]
  have h1 : (xs.map (·.data.toList)).Nodup := TreePlain.nodup_map_of _ _ h fun x _ y _ e => ba_ext e
  have h2 : ((xs.map (·.data.toList)).mergeSort fun x y => decide (x ≤ y)).Pairwise fun x y => decide (x ≤ y) = true :=
    List.pairwise_mergeSort (le := fun x y => decide (x ≤ y)) (fun a b c h1 h2 => by
      rw [decide_eq_true_eq] at h1 h2 ⊢
      exact List.le_trans h1 h2) (fun a b => by
      rw [Bool.or_eq_true, decide_eq_true_eq, decide_eq_true_eq]
      exact List.le_total a b) _
  have h3 : ((xs.map (·.data.toList)).mergeSort fun x y => decide (x ≤ y)).Pairwise fun x y => x ≠ y := (List.mergeSort_perm _ _).nodup_iff.2 h1
  refine (h2.and h3).imp ?_
  rintro a b ⟨h4, h5⟩
  simp only [bl]
  rw [decide_eq_true_eq] at h4
  rcases List.le_iff_lt_or_eq.1 h4 with h | h
  · exact h
  · exact absurd h h5
theorem allP_sorted {T : List S104} (hV : Valid T) (hs : Small T) : SortedB (allP T) := by
  refine sortB_sorted ?_
  unfold pths VS
  have h1 := TreePlain.visits_nodup (hV.good hs) (T.length + 1) 0 []
  have e : (TreePlain.visits (Ent T) (T.length + 1) 0 []).map (fun v => pStr v.2) = ((TreePlain.visits (Ent T) (T.length + 1) 0 []).map (·.2)).map pStr := by rw [List.map_map]; rfl
  rw [e]
  have hn : ∀ l ∈ (TreePlain.visits (Ent T) (T.length + 1) 0 []).map (·.2), Names l := by
    intro l hl
    obtain ⟨v, hv, rfl⟩ := List.mem_map.1 hl
    have hr := (TreePlain.mem_visits (a0 := []) hv TreePlain.Reach.root).1
    rw [List.nil_append] at hr
    exact (hV.sound hs).names hr
  exact TreePlain.nodup_map_of _ _ h1 fun x hx y hy e => pStr_inj (hn x hx) (hn y hy) e
end Go.Proofs.YtkmoeeaaolpdnaaGreatDoor

namespace Go.Proofs.YtkmoeeaaolpdnaaGreatDoor
open Go.RowKit Go.Lib Go.Proofs.YtkmoeeaaolpdnaaGreatDoorW.PrintWords Go.Proofs.YtkmoeeaaolpdnaaGreatDoor.PTopFindsTwice

theorem compact_up (d : Array (List UInt8)) (h : ∀ j k : Nat, j ≤ k → k < d.size → d[j]! ≤ d[k]!) : ∀ m, m ≤ d.size →
    ((compactUpTo d m).Pairwise fun x y => x < y) ∧ (∀ x, x ∈ compactUpTo d m ↔ ∃ j, j < m ∧ d[j]! = x) := by
  intro m
  induction m with
  | zero => intro _; exact ⟨by simp [compactUpTo], fun x => by simp [compactUpTo]⟩
  | succ m ih =>
    intro hm
    obtain ⟨h1, h2⟩ := ih (by omega)
    rw [compactUpTo_succ]
    by_cases hk : keeps d m = true
    · rw [if_pos hk]
      refine ⟨List.pairwise_append.2 ⟨h1, by simp, ?_⟩, fun x => ?_⟩
      · intro a ha b hb
        rw [List.mem_singleton.1 hb]
        obtain ⟨j, hj, rfl⟩ := (h2 a).1 ha
        have hne : d[m]! ≠ d[m - 1]! := by
          unfold keeps at hk
          rw [decide_eq_true_eq] at hk
          rcases hk with hk | hk
          · omega
          · exact hk
        have g1 := h j (m - 1) (by omega) (by omega)
        have g2 := h (m - 1) m (by omega) (by omega)
        rcases List.le_iff_lt_or_eq.1 g2 with g | g
        · exact List.lt_of_le_of_lt g1 g
        · exact absurd g.symm hne
      · rw [List.mem_append, h2, List.mem_singleton]
        constructor
        · rintro (⟨j, hj, rfl⟩ | rfl)
          · exact ⟨j, by omega, rfl⟩
          · exact ⟨m, by omega, rfl⟩
        · rintro ⟨j, hj, rfl⟩
          by_cases e : j = m
          · subst e; exact Or.inr rfl
          · exact Or.inl ⟨j, by omega, rfl⟩
    · rw [if_neg hk, List.append_nil]
      refine ⟨h1, fun x => ?_⟩
      rw [h2]
      have he : 0 < m ∧ d[m]! = d[m - 1]! := by
        unfold keeps at hk
        rw [decide_eq_true_eq, not_or, Classical.not_not] at hk
        exact ⟨by omega, hk.2⟩
      constructor
      · rintro ⟨j, hj, rfl⟩; exact ⟨j, by omega, rfl⟩
      · rintro ⟨j, hj, rfl⟩
        by_cases e : j = m
        · subst e; exact ⟨j - 1, by omega, he.2.symm⟩
        · exact ⟨j, by omega, rfl⟩
theorem compact_spec (zs : List (List UInt8)) (h : zs.Pairwise fun x y => x ≤ y) : ((Lib.compact zs).Pairwise fun x y => x < y) ∧ ∀ x, x ∈ Lib.compact zs ↔ x ∈ zs := by
  have hd : ∀ j k : Nat, j ≤ k → k < zs.toArray.size → zs.toArray[j]! ≤ zs.toArray[k]! := by
    intro j k hjk hk
    have hk' : k < zs.length := by simpa using hk
    rw [getElem!_pos zs.toArray j (by simp; omega), getElem!_pos zs.toArray k hk]
    by_cases e : j = k
    · subst e; exact List.le_refl _
    · have := List.pairwise_iff_getElem.1 h j k (by omega) hk' (by omega)
      simpa using this
  obtain ⟨h1, h2⟩ := compact_up zs.toArray hd zs.length (by simp)
  refine ⟨h1, fun x => (h2 x).trans ?_⟩
  constructor
  · rintro ⟨j, hj, rfl⟩
    rw [getElem!_pos zs.toArray j (by simpa using hj)]
    simp
  · intro hx
    obtain ⟨j, hj, rfl⟩ := List.mem_iff_getElem.1 hx
    exact ⟨j, hj, by rw [getElem!_pos zs.toArray j (by simpa using hj)]; simp⟩
theorem sorted_ext : ∀ {a b : List (List UInt8)}, (a.Pairwise fun x y => x < y) → (b.Pairwise fun x y => x < y) → (∀ x, x ∈ a ↔ x ∈ b) → a = b
  | [], [], _, _, _ => rfl
  | [], y :: b, _, _, h => absurd ((h y).2 (by simp)) (by simp)
  | x :: a, [], _, _, h => absurd ((h x).1 (by simp)) (by simp)
  | x :: a, y :: b, ha, hb, h => by
    rw [List.pairwise_cons] at ha hb
    have hxy : x = y := by
      rcases List.mem_cons.1 ((h x).1 (by simp)) with e | e
      · exact e
      · rcases List.mem_cons.1 ((h y).2 (by simp)) with f | f
        · exact f.symm
        · exact absurd (List.lt_trans (ha.1 y f) (hb.1 x e)) (List.lt_irrefl x)
    subst hxy
    congr 1
    refine sorted_ext ha.2 hb.2 fun z => ⟨fun hz => ?_, fun hz => ?_⟩
    · rcases List.mem_cons.1 ((h z).1 (List.mem_cons_of_mem _ hz)) with rfl | e
      · exact absurd (ha.1 z hz) (List.lt_irrefl z)
      · exact e
    · rcases List.mem_cons.1 ((h z).2 (List.mem_cons_of_mem _ hz)) with rfl | e
      · exact absurd (hb.1 z hz) (List.lt_irrefl z)
      · exact e

def cmpB (xs : List ByteArray) : List ByteArray := (Lib.compact (xs.map (·.data.toList))).map fun l => ⟨l.toArray⟩
theorem cmpB_le (xs : List ByteArray) : (cmpB xs).length ≤ xs.length := by
  unfold cmpB
  rw [List.length_map]
  have := compact_length_le (xs.map (·.data.toList))
  rwa [List.length_map] at this
theorem sortB_le (xs : List ByteArray) : ((sortB xs).map (·.data.toList)).Pairwise fun x y => x ≤ y := by
  unfold sortB
  rw [List.map_map]
  have e : (((xs.map (·.data.toList)).mergeSort fun x y => decide (x ≤ y)).map ((fun x : ByteArray => x.data.toList) ∘ fun l => ⟨l.toArray⟩)) = (xs.map (·.data.toList)).mergeSort fun x y => decide (x ≤ y) := by
    generalize (xs.map (·.data.toList)).mergeSort (fun x y => decide (x ≤ y)) = L
    induction L with
    | nil => rfl
    | cons x L ih => rw [List.map_cons, ih]; rfl
  rw [e]
  refine (List.pairwise_mergeSort (le := fun x y => decide (x ≤ y)) (fun a b c h1 h2 => by
      rw [decide_eq_true_eq] at h1 h2 ⊢
      exact List.le_trans h1 h2) (fun a b => by
      rw [Bool.or_eq_true, decide_eq_true_eq, decide_eq_true_eq]
      exact List.le_total a b) _).imp ?_
  intro a b h
  rwa [decide_eq_true_eq] at h
theorem SortedB.data {l : List ByteArray} (h : SortedB l) : (l.map (·.data.toList)).Pairwise fun x y => x < y := List.pairwise_map.2 h
/-- what Compact behind Sort gives: the sorted list of the members -/
theorem cmp_sort {l ys : List ByteArray} (hl : SortedB l) (hm : ∀ x, x ∈ ys ↔ x ∈ l) : cmpB (sortB ys) = l := by
  obtain ⟨h1, h2⟩ := compact_spec _ (sortB_le ys)
  have e : Lib.compact ((sortB ys).map (·.data.toList)) = l.map (·.data.toList) := by
    refine sorted_ext h1 hl.data fun x => (h2 x).trans ?_
    rw [List.mem_map, List.mem_map]
    constructor
    · rintro ⟨y, hy, rfl⟩; exact ⟨y, (hm y).1 (mem_sortB.1 hy), rfl⟩
    · rintro ⟨y, hy, rfl⟩; exact ⟨y, mem_sortB.2 ((hm y).2 hy), rfl⟩
  unfold cmpB
  rw [e]
  exact map_ba l
/-- a sorted list, sorted -/
theorem sort_self {l : List ByteArray} (hl : SortedB l) : sortB l = l := by
  unfold sortB
  have e : (l.map (·.data.toList)).mergeSort (fun x y => decide (x ≤ y)) = l.map (·.data.toList) := by
    refine List.mergeSort_of_pairwise ?_
    refine hl.data.imp ?_
    intro a b h
    rw [decide_eq_true_eq]
    exact List.le_of_lt h
  rw [e]
  exact map_ba l
theorem SortedB.filter {l : List ByteArray} (h : SortedB l) (q : ByteArray → Bool) : SortedB (l.filter q) := List.Pairwise.filter q h
end Go.Proofs.YtkmoeeaaolpdnaaGreatDoor

namespace Go.Proofs.YtkmoeeaaolpdnaaGreatDoor
open Go.RowKit Go.Proofs.YtkmoeeaaolpdnaaGreatDoorW.PrintWords Go.Proofs.YtkmoeeaaolpdnaaGreatDoor.PTopFindsTwice
attribute [local go_sem] Oper.semAt_some

theorem postM_ret {F : Fence} {n : Nat} {P : Program} {fn : Func} {R : Ending → World → Prop} {a : Act} {w : World} {v : Value} (hr : (results fn a.tmps).run P w = .ok v w) (hd : a.defers = []) (hR : R (.returned v) w) : bodyPostM F n P fn R .ret a w := by
  show LeavesInM F n P fn a.tmps R a.defers .returning w
  rw [hd]
  exact ⟨v, hr, hR⟩

/-- when Find has no fault, and what it finds then -/
def FindOk (T : List S104) (p : ByteArray) : Prop := Valid T ∧ p.size ≤ 100 ∧ Lib.hasPrefix p.data.toList [47] = true
noncomputable def findP (T : List S104) (p : ByteArray) : List ByteArray := (allP T).filter fun x => !(!(mc (elts p) (comps x)))
def FindAns (B : Nat) (T : List S104) (p : ByteArray) (e : Ending) (w' : World) : Prop := ∃ v cd ix, e = .returned (.tuple #[v, fltV cd ix]) ∧
  ((cd = 0 ∧ FindOk T p ∧ w'.ownsRow B 9 1 v (findP T p).length (encs Value.string (findP T p))) ∨ (cd ≠ 0 ∧ ¬ FindOk T p ∧ v = .slice none 0 0))

/-- the elements collected so far -/
def flt (l : List ByteArray) : List ByteArray := l.filter fun x => !isE x
theorem flt_in (l : List ByteArray) {x : ByteArray} (h : isE x = false) : flt (l ++ [x]) = flt l ++ [x] := by unfold flt; rw [List.filter_append]; simp [h]
theorem flt_out (l : List ByteArray) {x : ByteArray} (h : isE x = true) : flt (l ++ [x]) = flt l := by unfold flt; rw [List.filter_append]; simp [h]
theorem flt_le (l : List ByteArray) : (flt l).length ≤ l.length := List.length_filter_le _ _

structure PartI (w0 w2 : World) (bp b : Nat) (pre : List ByteArray) (W : World) : Prop where
  box : ∃ v, W.heap[bp]? = some (.cells #[v] 25 (0, 0)) ∧ W.ownsRow (w2.heap.size + 2) 9 1 v (flt pre).length (encs Value.string (flt pre))
  low : ∀ k, k < w2.heap.size → k ≠ bp → k ≠ b → W.heap[k]? = w2.heap[k]?
  below : Below w0.heap.size w0 W
  size : w2.heap.size ≤ W.heap.size
theorem PartI.move {w0 w2 : World} {bp b k : Nat} {pre : List ByteArray} {W W' : World} (hbb : bp < b) (hbl : b < w2.heap.size) (hw : w0.heap.size ≤ b) (hk : k = b ∨ k = w2.heap.size ∨ k = w2.heap.size + 1) (h : PartI w0 w2 bp b pre W) (hg : W.grownBy W' (some k)) : PartI w0 w2 bp b pre W' := by
  obtain ⟨v, h1, h2⟩ := h.box
  refine ⟨⟨v, blk_grown h1 hg (fun e => by injection e with e; omega), own_move h2 fun k' hk' => ?_⟩, fun k' h3 h4 h5 => ?_, ?_, Nat.le_trans h.size hg.size⟩
  · have := own_base h2 k' hk'
    exact hg.block k' (own_lt h2 k' hk') (fun e => by injection e with e; omega)
  · exact (hg.block k' (Nat.lt_of_lt_of_le h3 h.size) (fun e => by injection e with e; omega)).trans (h.low k' h3 h4 h5)
  · exact pw_below_grown h.below (some k) h.below.size hg (fun k' e => by injection e with e; omega)
theorem PartI.app {w0 w2 w1 : World} {bp b n : Nat} {pre : List ByteArray} {W : World} {v v' : Value} {x : ByteArray} {o : Obj} (hbb : bp < b) (hbl : b < w2.heap.size) (hw : w0.heap.size ≤ bp) (hW : w2.heap.size + 1 < W.heap.size) (h : PartI w0 w2 bp b pre W)
    (h1 : W.heap[bp]? = some (.cells #[v] 25 (0, 0))) (h2 : W.ownsRow (w2.heap.size + 2) 9 1 v (flt pre).length (encs Value.string (flt pre))) (hx : isE x = false)
    (hown : w1.ownsRow (w2.heap.size + 2) 9 1 v' n (encs Value.string (flt pre) ++ [Value.string x])) (hn : n = (flt pre).length + 1) (hg : (W.alloc o).grownBy w1 v.ownBlock) :
    PartI w0 w2 bp b (pre ++ [x]) (w1.setCell ⟨bp, 0, none⟩ v') ∧ W.heap.size ≤ (w1.setCell ⟨bp, 0, none⟩ v').heap.size ∧ (∀ k, b ≤ k → k < w2.heap.size + 2 → (w1.setCell ⟨bp, 0, none⟩ v').heap[k]? = W.heap[k]?) ∧
      w1.heap[bp]? = some (.cells #[v] 25 (0, 0)) := by
  have hrow : ∀ k, v.ownBlock = some k → w2.heap.size + 2 ≤ k := fun k hk => own_base h2 k hk
  have hrow' : ∀ k, v'.ownBlock = some k → w2.heap.size + 2 ≤ k := fun k hk => own_base hown k hk
  have hb1 : w1.heap[bp]? = some (.cells #[v] 25 (0, 0)) := blk_grown (blk_alloc h1 o) hg (fun e => by have := hrow bp e.symm; omega)
  have hsz : W.heap.size ≤ w1.heap.size := by have := hg.size; rw [World.size_alloc] at this; omega
  have hss : (w1.setCell ⟨bp, 0, none⟩ v').heap.size = w1.heap.size := by simp [World.setCell]
  have hsame : ∀ k, k < W.heap.size → k ≠ bp → k < w2.heap.size + 2 → (w1.setCell ⟨bp, 0, none⟩ v').heap[k]? = W.heap[k]? := fun k hk hne hlt => by
    rw [Below.heap_setCell w1 ⟨bp, 0, none⟩ v' k hne, hg.block k (by rw [World.size_alloc]; omega) (fun e => by have := hrow k e.symm; omega), Below.heap_alloc W o k hk]
  subst hn
  refine ⟨⟨⟨v', blk_set hb1 0 v', ?_⟩, fun k h3 h4 h5 => ?_, ?_, by have := h.size; omega⟩, by rw [hss]; exact hsz, fun k h3 h4 => ?_, hb1⟩
  · rw [flt_in _ hx, encs_append, List.length_append]
    exact own_setCell (p := ⟨bp, 0, none⟩) hown (fun e => by have := hrow' bp e.symm; omega) v'
  · rw [hsame k (Nat.lt_of_lt_of_le h3 h.size) h4 (by omega)]; exact h.low k h3 h4 h5
  · refine (pw_below_grown (h.below.alloc h.below.size o) v.ownBlock (by rw [World.size_alloc]; have := h.below.size; omega) hg (fun k e => by have := hrow k e; have := h.below.size; omega)).setCell (p := ⟨bp, 0, none⟩) hw v'
  · exact hsame k (by omega) (by omega) h4

theorem two_s {w : World} {a b : Nat} {x y : Value} {t t' : TypeId} (h : w.heap[a]? = some (.cells #[x, y] t (0, 0))) (k : w.heap[b]? = some (.cells #[x, y] t' (0, 0))) :
    w.cell? ⟨a, 0, none⟩ = some x ∧ w.cell? ⟨a, 1, none⟩ = some y ∧ w.cell? ⟨b, 0, none⟩ = some x ∧ w.cell? ⟨b, 1, none⟩ = some y ∧ w.frozen? ⟨b, 0, none⟩ = false ∧ w.frozen? ⟨b, 1, none⟩ = false :=
  ⟨(blk_cell h 0).trans rfl, (blk_cell h 1).trans rfl, (blk_cell k 0).trans rfl, (blk_cell k 1).trans rfl, blk_frozen k 0, blk_frozen k 1⟩

set_option maxHeartbeats 4000000 in
set_option maxRecDepth 100000 in
theorem find_calls (A : Option Addr) (c : Nat) (T : List S104) (p : ByteArray) (m : Int) (w : World) (hT : Kd.C k104 w A T.length T) (hc : T.length ≤ c) (hTm : T.length ≤ 1000000000) (hsm : Small T) (hm : w.cell? ⟨0, 0, none⟩ = some (.int .i64 m)) :
    Calls Tryz.prog 19 #[.agg #[.slice A T.length c], .string p] w fun e w' => FindAns w.heap.size T p e w' ∧ Below w.heap.size w w' := by
  have HTr := Aside0.mk hT
  have HSM := Aside0.mk hsm
  have HMX := Aside0.mk hm
  have HB0 := Aside0.mk (below_alloc (below_alloc (Below.refl w.heap.size w) (.cells #[.slice A T.length c] 24)) (.cells #[.int .i64 0, .int .i64 0] 40))
  have HSZ := Aside0.mk (show (w.alloc (.cells #[.slice A T.length c] 24)).heap.size = w.heap.size + 1 from World.size_alloc _ _)
  have HTW := Aside0.mk (Two.new (w.alloc (.cells #[.slice A T.length c] 24)) (.int .i64 0) (.int .i64 0))
  rw [HSZ.out] at HTW
  have HAC := Aside0.mk (allpaths_calls A c T _ (Kd.C_below hT HB0.out) hc hTm hsm)
  clear hT hsm hm
  refine (callsIn_wide (n := 3)).1 (callsIn_of_wp_marks Tryz.func19 rfl trivial (wpIn_wide.2 ?_) rfl)
  simp only [Tryz.ntmps19, List.size_toArray, List.length_cons, List.length_nil, Nat.reduceAdd, Nat.reduceSub, Array.replicate_succ, Array.replicate_zero, List.push_toArray, List.append_toArray, List.nil_append, List.cons_append]
  go_wp2_with fail
  refine HAC.out.mono ?_
  rintro e w1 ⟨⟨v, cd, ix, rfl, ha⟩, hb1⟩
  have HT1 := Aside0.mk (HTW.out.below hb1)
  have HB1 := Aside0.mk (below_then HB0.out HB0.out.size hb1)
  clear hb1 HTW HB0 HAC
  rcases ha with ⟨rfl, rfl, ha, ho⟩ | ⟨hcd, ha, rfl⟩
  · have HV := Aside0.mk ha
    have HO := Aside0.mk ho
    clear ha ho
    by_cases h100 : 100 < p.size
    · have HN := Aside0.mk (show ¬ FindOk T p from fun h => by have := h.2.1; omega)
      have T3 := HT1.out.below (below_alloc (Below.refl _ _) (.cells #[.int .i64 0, .int .i64 0] 40))
      obtain ⟨⟨ht0, ht1⟩, hg0, hg1⟩ := T3.cells
      have HBf := Aside0.mk (below_then HB1.out HB1.out.size (below_alloc (Below.refl _ _) (.cells #[.int .i64 0, .int .i64 0] 40)))
      clear T3 HT1 HB1 HO
      go_wp2
      refine postM_ret (v := .tuple #[.slice none 0 0, fltV 2 (-1)]) (by simp [results, Tryz.results19, go_sem, ht0, ht1]) rfl ⟨⟨_, _, _, rfl, Or.inr ⟨by decide, HN.out, rfl⟩⟩, Two.upper HBf.out (by omega)⟩
    · have HPX := Aside0.mk (fun w : World => (Tryz.strings_HasPrefix p ⟨#[47]⟩ w).mono (fun e w' h => And.intro h.1 h.2.symm))
      cases hp : Lib.hasPrefix p.data.toList [47] with
      | false =>
        have HN := Aside0.mk (show ¬ FindOk T p from fun h => by have := h.2.2; rw [hp] at this; cases this)
        have hp2 : Lib.hasPrefix p.data.toList (⟨#[47]⟩ : ByteArray).data.toList = false := hp
        rw [hp2] at HPX
        have T3 := HT1.out.below (below_alloc (Below.refl _ _) (.cells #[.int .i64 0, .int .i64 0] 40))
        obtain ⟨⟨ht0, ht1⟩, hg0, hg1⟩ := T3.cells
        have HBf := Aside0.mk (below_then HB1.out HB1.out.size (below_alloc (Below.refl _ _) (.cells #[.int .i64 0, .int .i64 0] 40)))
        clear T3 HT1 HB1 HO hp hp2
        go_wp2_with fail
        refine (HPX.out _).mono ?_
        rintro e w2 ⟨rfl, rfl⟩
        go_wp2
        refine postM_ret (v := .tuple #[.slice none 0 0, fltV 5 (-1)]) (by simp [results, Tryz.results19, go_sem, ht0, ht1]) rfl ⟨⟨_, _, _, rfl, Or.inr ⟨by decide, HN.out, rfl⟩⟩, Two.upper HBf.out (by omega)⟩
      | true =>
        have HOK := Aside0.mk (show FindOk T p from ⟨HV.out, by omega, hp⟩)
        have hp2 : Lib.hasPrefix p.data.toList (⟨#[47]⟩ : ByteArray).data.toList = true := hp
        rw [hp2] at HPX
        clear hp hp2
        go_wp2_with fail
        refine (HPX.out _).mono ?_
        rintro e w2 ⟨rfl, rfl⟩
        clear HPX
        go_wp2_with fail
        refine (splitS_calls p _).mono ?_
        rintro e w2 ⟨rfl, hsb, hb2, hs2⟩
        have s1 : (w1.alloc (.cells #[.int .i64 0, .int .i64 0] 40)).heap.size = w1.heap.size + 1 := World.size_alloc _ _
        have s2 : ((w1.alloc (.cells #[.int .i64 0, .int .i64 0] 40)).alloc (.cells #[.slice none 0 0] 25)).heap.size = w1.heap.size + 2 := by rw [World.size_alloc, s1]
        rw [s2] at hsb hs2
        have hlw : w.heap.size + 1 < w1.heap.size := HT1.out.lt
        have hbp := blk_below (blk_new (w1.alloc (.cells #[.int .i64 0, .int .i64 0] 40)) (.cells #[.slice none 0 0] 25)) hb2
        rw [s1] at hbp
        have HI0 := Aside0.mk (show PartI w w2 (w1.heap.size + 1) (w1.heap.size + 2) [] w2 from
          ⟨⟨_, hbp, own_nil _ _ _ _⟩, fun _ _ _ _ => rfl, below_then (below_then HB1.out HB1.out.size (below_alloc (below_alloc (Below.refl _ _) (.cells #[.int .i64 0, .int .i64 0] 40)) (.cells #[.slice none 0 0] 25))) (by rw [s2]; omega) hb2, Nat.le_refl _⟩)
        have HSB := Aside0.mk hsb
        have HS2 := Aside0.mk hs2
        have HT7 := Aside0.mk (((Two.new w1 (.int .i64 0) (.int .i64 0)).below (below_alloc (Below.refl _ _) (.cells #[.slice none 0 0] 25))).below hb2)
        have HT5 := Aside0.mk ((HT1.out.below (below_alloc (below_alloc (Below.refl _ _) (.cells #[.int .i64 0, .int .i64 0] 40)) (.cells #[.slice none 0 0] 25))).below hb2)
        have HO2 := Aside0.mk (pw_own_below (pw_own_below HO.out (below_alloc (below_alloc (Below.refl _ _) (.cells #[.int .i64 0, .int .i64 0] 40)) (.cells #[.slice none 0 0] 25))) hb2)
        have HOL := Aside0.mk (fun k hk => And.intro (own_lt HO.out k hk) (own_base HO.out k hk))
        have HPM := Aside0.mk (show ∀ x ∈ allP T, 1 ≤ x.size ∧ x.size ≤ 1000 from fun x hx => by
          obtain ⟨l, rfl, h1, h2⟩ := allP_mem HV.out HSM.out hx
          exact pStr_size l h2 h1)
        have HPL := Aside0.mk (show (allP T).length ≤ 1000 by
          have := (HV.out.sound HSM.out).few (HV.out.good HSM.out) TreePlain.Reach.root (T.length + 1)
          rw [allP_len]
          simpa [pths, VS] using this)
        clear hsb hb2 hbp s1 s2 HT1 HO
        go_wp2_with fail
        refine (wpIn_wide (n := 3)).1 ?_
        refine range_law (n := 3) (gf := 74) rfl (enters_of Tryz.func74 (by kernel_rfl) rfl) (pcs p) (w1.heap.size + 2) (w1.heap.size + 2) (Nat.le_refl _) (by rw [HS2.out]; omega)
          (fun l J W hW hJ hY hj => seq1_calls (3 - 1) l (w1.heap.size + 2) p J hJ (fun pre x W1 h1 h2 => (hY pre x W1 h1 h2).mono fun e W' h => ⟨h.1, h.2.1, fun k hk1 hk2 => h.2.2 k hk1 (by rw [HS2.out]; omega)⟩) W (HSB.out.move fun k hk1 hk2 => hW.block k (by rw [HS2.out]; omega)) (by omega) hj)
          (PartI w w2 (w1.heap.size + 1) (w1.heap.size + 2)) (fun pre W W' k hk h hg => h.move (by omega) (by rw [HS2.out]; omega) (by omega) hk hg) HI0.out
          (fun x => { tmps := #[.agg #[.slice A T.length c], .string p, .pointer (some ⟨w.heap.size, 0, none⟩), undef, .slice none 0 0, .pointer (some ⟨w.heap.size + 1, 0, none⟩), v, .pointer (some ⟨w1.heap.size, 0, none⟩), .pointer (some ⟨w1.heap.size + 1, 0, none⟩), .string x,
              .tuple #[v, fltV 0 0], .agg #[.slice A T.length c], .tuple #[v, fltV 0 0], v, fltV 0 0, .bool false, .agg #[.int .i64 0, .int .i64 0], .agg #[.int .i64 0, .int .i64 0], .bool false, undef, .bool (decide ((100 : Int) < (p.size : Int))), .string p, .int .i64 (p.size : Int), .bool (decide ((100 : Int) < (p.size : Int))), undef,
              .bool false, .string p, .bool true, .bool false, undef, .string p, .func (.func 74) #[] #[.pointer (some ⟨w1.heap.size + 1 + 1 + 1, 0, none⟩), .pointer (some ⟨w1.heap.size + 1 + 1, 0, none⟩), .pointer (some ⟨w1.heap.size + 1 + 1 + 2, 0, none⟩)], .string x,
              undef, undef, undef, undef, undef, undef, undef, undef, undef, undef], defers := [] }) ?assign ?body ?done
        case assign =>
          intro l x W K hK
          gi_wp2
          exact hK
        case body =>
          intro l pre x W hI hlen hW
          obtain ⟨vp, hb, ho⟩ := hI.box
          have hfl := flt_le pre
          have hpl := pcs_len p
          have hcb := (blk_cell hb 0).trans rfl
          have hle := hI.size
          have HI := Aside0.mk hI
          have HB := Aside0.mk hb
          have HOW := Aside0.mk ho
          obtain ⟨i0, hi, hzz⟩ := Option.map_eq_some_iff.1 infoS
          simp only [Prod.mk.injEq] at hzz
          obtain ⟨hz0, hz1, hz2⟩ := hzz
          have HIN := Aside0.mk (And.intro hi (And.intro hz0 (And.intro hz1 hz2)))
          clear hI hb ho hi hz0 hz1 hz2
          cases hx : x.toList.isEmpty with
          | true =>
            have HE := Aside0.mk (flt_out pre (x := x) hx)
            gi_wp2
            show PartI w w2 (w1.heap.size + 1) (w1.heap.size + 2) (pre ++ [x]) W ∧ _ ∧ _
            refine ⟨⟨?_, HI.out.low, HI.out.below, HI.out.size⟩, Nat.le_refl _, fun _ _ _ => rfl⟩
            rw [HE.out]
            exact HI.out.box
          | false =>
            have HE := Aside0.mk (show isE x = false from hx)
            obtain ⟨Av, cv, rfl⟩ := own_slice HOW.out
            gi_wp2_with (gi_at_builtin; refine wpListIn_append_own _ rfl _ _ 25 rfl (w2.heap.size + 2) 9 i0 (.string ⟨#[]⟩) 1 16 Tryz.underlying25 HIN.out.1 HIN.out.2.1 HIN.out.2.2.1 HIN.out.2.2.2 rfl (by decide) _ _ _ rfl (HOW.out.alloc _) ⟨W.heap.size, 0, none⟩ 1 1 [.string x] rfl rfl (cell_one_new _ _ _) (by simp [Value.oneCell']) (by unfold maxLen; omega) (by omega) (by simp; omega) ?_; intro v' w3 hown' hgrow _; have HF := Aside0.mk (PartI.app (by omega) (by rw [HS2.out]; omega) (by omega) hW HI.out HB.out HOW.out HE.out hown' rfl hgrow); obtain ⟨g', cap', rfl⟩ := ownsRow_succ hown'; have hc1 := (blk_cell HF.out.2.2.2 0).trans rfl; have hf1 := blk_frozen HF.out.2.2.2 0; clear hown' hgrow)
            show PartI w w2 (w1.heap.size + 1) (w1.heap.size + 2) (pre ++ [x]) _ ∧ _ ∧ _
            exact ⟨HF.out.1, HF.out.2.1, HF.out.2.2.1⟩
        case done =>
          intro D W hD hI hdef
          have hDw := hD
          have f1 : ((w.alloc (.cells #[.slice A T.length c] 24)).alloc (.cells #[.int .i64 0, .int .i64 0] 40)).heap.size = w.heap.size + 2 := by rw [World.size_alloc, HSZ.out]
          rw [f1] at HO2 HOL
          have hpl := pcs_len p
          have hw2 := HS2.out
          have T7 : Two W w1.heap.size (.int .i64 0) (.int .i64 0) := ⟨(hI.low _ (by omega) (by omega) (by omega)).trans HT7.out.blk⟩
          have T5 : Two W (w.heap.size + 1) (.int .i64 0) (.int .i64 0) := ⟨(hI.low _ (by omega) (by omega) (by omega)).trans HT5.out.blk⟩
          have ho : W.ownsRow (w.heap.size + 2) 9 1 v (allP T).length (encs Value.string (allP T)) := own_move HO2.out fun k hk => by
            have := HOL.out k hk
            exact hI.low k (by omega) (by omega) (by omega)
          obtain ⟨vp, hbx, hop⟩ := hI.box
          have HBW := Aside0.mk hI.below
          have hvne : ∀ k, v.ownBlock = some k → w.heap.size + 2 ≤ k ∧ k < w1.heap.size := fun k hk => ⟨(HOL.out k hk).2, (HOL.out k hk).1⟩
          have HDEL : Aside0 (∀ X, Below W.heap.size W X → Calls Tryz.prog 13 #[v, .func (.func 33) #[] #[.pointer (some ⟨w1.heap.size + 1, 0, none⟩)]] X fun e w' =>
              ∃ v', e = .returned v' ∧ w'.ownsRow (w.heap.size + 2) 9 1 v' (findP T p).length (encs Value.string (findP T p)) ∧ v'.ownBlock = v.ownBlock ∧ W.grownBy w' v.ownBlock) := ⟨fun X hX => by
            refine (delf_calls 33 _ (enters_of Tryz.func33 (by kernel_rfl) rfl) (fun x => !(mc (elts p) (comps x))) v (w.heap.size + 2) (allP T) X (pw_own_below ho hX) (by have := HPL.out; omega) ?_).mono ?_
            · intro X' hX' x hx
              have g1 : W.grownBy X' v.ownBlock := ⟨hX'.os.trans hX.os, hX'.tape.trans hX.tape, hX'.output.trans hX.output, Nat.le_trans hX.size hX'.size, fun k hk hn => (hX'.block k (Nat.lt_of_lt_of_le hk hX.size) hn).trans (hX.block k hk)⟩
              have g2 : X'.heap[w1.heap.size + 1]? = some (.cells #[vp] 25 (0, 0)) := blk_grown hbx g1 (fun e => by have := hvne _ e.symm; omega)
              have g3 : X'.ownsRow (w2.heap.size + 2) 9 1 vp (elts p).length (encs Value.string (elts p)) := own_move hop fun k hk => by
                have := own_base hop k hk
                exact g1.block k (own_lt hop k hk) (fun e => by have := hvne _ e.symm; omega)
              have g4 : W.cell? ⟨0, 0, none⟩ = some (.int .i64 m) := pw_cell_below HBW.out HMX.out
              have h0 : 0 < W.heap.size := World.block_lt_of_cell? W _ g4
              have g5 : X'.cell? ⟨0, 0, none⟩ = some (.int .i64 m) := by
                have e1 : X'.heap[0]? = W.heap[0]? := g1.block 0 h0 (fun e => by have := hvne _ e.symm; omega)
                rw [← g4]; exact World.cell?_of_block e1
              have := HPM.out x hx
              exact find1_calls (w1.heap.size + 1) _ vp (elts p) x m X' g2 g3 g5 (fun q hq => by have := elts_size hq; omega) this.1 this.2
            · rintro e w' ⟨v', he, h1, h2, h3⟩
              exact ⟨v', he, h1, h2, ⟨h3.os.trans hX.os, h3.tape.trans hX.tape, h3.output.trans hX.output, Nat.le_trans hX.size h3.size, fun k hk hn => (h3.block k (Nat.lt_of_lt_of_le hk hX.size) hn).trans (hX.block k hk)⟩⟩⟩
          obtain ⟨⟨c70, c71⟩, _, _⟩ := T7.cells
          obtain ⟨⟨c50, c51⟩, f50, f51⟩ := T5.cells
          have HT5' := Aside0.mk T5
          have HT7' := Aside0.mk T7
          have HOV := Aside0.mk ho
          have HVN := Aside0.mk hvne
          have HK := Aside0.mk hdef
          clear hI hbx hop hvne T7 T5 HO2 HOL HT7 HT5 ho hdef hD f1 hw2
          go_wp2_with fail
          refine wp_region_noPanic ?_
          go_region_held3 (fun w' => w'.cell? ⟨w1.heap.size, 0, none⟩ = some (.int .i64 0) ∧ w'.cell? ⟨w1.heap.size, 1, none⟩ = some (.int .i64 0) ∧ w'.cell? ⟨w.heap.size + 1, 0, none⟩ = some (.int .i64 0) ∧ w'.cell? ⟨w.heap.size + 1, 1, none⟩ = some (.int .i64 0) ∧ w'.frozen? ⟨w.heap.size + 1, 0, none⟩ = false ∧ w'.frozen? ⟨w.heap.size + 1, 1, none⟩ = false)
              (first
                | exact HCK2.out
                | exact HCK.out
                | go_keep)
              (first
              | (go_at_call 13; refine (HDEL.out _ (below_drew (Below.refl _ _))).mono ?_; rintro e w4 ⟨v4, rfl, ho4, hv4, hg4⟩; have HCK := Aside0.mk (two_s (blk_grown HT7'.out.blk hg4 (fun e => by have := HVN.out _ e.symm; omega)) (blk_grown HT5'.out.blk hg4 (fun e => by have := HVN.out _ e.symm; omega))); have HCK2 := Aside0.mk (two_s (((Two.mk (blk_grown HT7'.out.blk hg4 (fun e => by have := HVN.out _ e.symm; omega))).other (g' := w.heap.size + 1) (by omega) (.int .i64 0) (.int .i64 0)).blk) (((Two.mk (blk_grown HT5'.out.blk hg4 (fun e => by have := HVN.out _ e.symm; omega))).set (.int .i64 0) (.int .i64 0)).blk)); have HO4 := Aside0.mk ho4; have HV4 := Aside0.mk hv4; have HG4 := Aside0.mk hg4; obtain ⟨A4, c4, rfl⟩ := own_slice ho4; clear ho4 hv4 hg4)
              | fail)
          refine NoPanic.normal ?_
          have B5 : Two w4 (w.heap.size + 1) (.int .i64 0) (.int .i64 0) := ⟨blk_grown HT5'.out.blk HG4.out (fun e => by have := HVN.out _ e.symm; omega)⟩
          have hDk : w4.heap[D]? = some (.deferred (some [])) := blk_grown HK.out HG4.out (fun e => by have := HVN.out _ e.symm; have := HS2.out; omega)
          have hDl := blk_lt hDk
          have hr5 : ((w4.setCell ⟨w.heap.size + 1, 0, none⟩ (.int .i64 0)).setCell ⟨w.heap.size + 1, 1, none⟩ (.int .i64 0)).heap[D]? = some (.deferred (some [])) := by
            have hs2 := HS2.out
            rw [Below.heap_setCell _ _ _ D (by show D ≠ w.heap.size + 1; omega), Below.heap_setCell _ _ _ D (by show D ≠ w.heap.size + 1; omega)]; exact hDk
          have HR5 := Aside0.mk hr5
          have HB5 := Aside0.mk (B5.set (.int .i64 0) (.int .i64 0))
          have HBf := Aside0.mk (show Below w.heap.size w ((w4.setCell ⟨w.heap.size + 1, 0, none⟩ (.int .i64 0)).setCell ⟨w.heap.size + 1, 1, none⟩ (.int .i64 0)) from
            Two.upper (pw_below_grown HBW.out v.ownBlock HBW.out.size HG4.out (fun k hk => by have := HVN.out k hk; omega)) (by omega))
          have hne4 : ∀ k, (Value.slice A4 (findP T p).length c4).ownBlock = some k → w.heap.size + 2 ≤ k := fun k hk => (HVN.out k (by rw [← HV4.out]; exact hk)).1
          have HO5 := Aside0.mk (show ((w4.setCell ⟨w.heap.size + 1, 0, none⟩ (.int .i64 0)).setCell ⟨w.heap.size + 1, 1, none⟩ (.int .i64 0)).ownsRow w.heap.size 9 1 (.slice A4 (findP T p).length c4) (findP T p).length (encs Value.string (findP T p)) from
            own_weaken (own_setCell (p := ⟨w.heap.size + 1, 1, none⟩) (own_setCell (p := ⟨w.heap.size + 1, 0, none⟩) HO4.out (fun e => by have h : w.heap.size + 2 ≤ w.heap.size + 1 := hne4 _ e.symm; omega) _) (fun e => by have h : w.heap.size + 2 ≤ w.heap.size + 1 := hne4 _ e.symm; omega) _) (by omega))
          clear B5 hDk hr5 hDl hne4 HG4 HV4 HO4 HCK HCK2 HDEL HT5' HT7' HOV HVN HK HBW
          generalize (w4.setCell ⟨w.heap.size + 1, 0, none⟩ (.int .i64 0)).setCell ⟨w.heap.size + 1, 1, none⟩ (.int .i64 0) = wf at *
          go_wp2
          have hDne : w.heap.size + 1 ≠ D := by have := HS2.out; omega
          have b6 : (wf.putObj D (.deferred none)).heap[w.heap.size + 1]? = some (.cells #[.int .i64 0, .int .i64 0] 40 (0, 0)) := (World.putObj_heap_other hDne).trans HB5.out.blk
          have ht0 : (wf.putObj D (.deferred none)).cell? ⟨w.heap.size + 1, 0, none⟩ = some (.int .i64 0) := (blk_cell b6 0).trans rfl
          have ht1 : (wf.putObj D (.deferred none)).cell? ⟨w.heap.size + 1, 1, none⟩ = some (.int .i64 0) := (blk_cell b6 1).trans rfl
          refine ⟨by simp, .inl ⟨_, _, rfl, run_takeDeferred HR5.out, ?_⟩⟩
          refine ⟨.tuple #[.slice A4 (findP T p).length c4, fltV 0 0], by simp [results, Tryz.results19, go_sem, ht0, ht1], ?_⟩
          refine ⟨⟨_, _, _, rfl, Or.inl ⟨rfl, HOK.out, ownsRow_putObj HO5.out _ HR5.out rfl⟩⟩, ?_⟩
          exact HBf.out.grown (grownBy_putObj' wf D _) HBf.out.size (fun k e => by injection e with e; have := HS2.out; omega)
  · have HN := Aside0.mk (show ¬ FindOk T p from fun h => ha h.1)
    have HCD := Aside0.mk hcd
    have hc1 : (cd == 0) = false := beq_eq_false_iff_ne.2 hcd
    have hc2 : (cd != 0) = true := by rw [bne, hc1]; rfl
    have T3 := HT1.out.below (below_alloc (Below.refl _ _) (.cells #[.int .i64 cd, .int .i64 ix] 40))
    obtain ⟨⟨ht0, ht1⟩, hg0, hg1⟩ := T3.cells
    have HBf := Aside0.mk (below_then HB1.out HB1.out.size (below_alloc (Below.refl _ _) (.cells #[.int .i64 cd, .int .i64 ix] 40)))
    clear hcd ha T3 HT1 HB1
    go_wp2_with fail
    refine wp_region_noPanic ?_
    go_region
    all_goals
      refine NoPanic.normal ?_
      go_wp2
      refine postM_ret (v := .tuple #[.slice none 0 0, fltV cd ix]) (by simp [results, Tryz.results19, go_sem, ht0, ht1]) rfl ⟨⟨_, _, _, rfl, Or.inr ⟨HCD.out, HN.out, rfl⟩⟩, pw_below_drewN (Two.upper HBf.out (by omega)) 1⟩
end Go.Proofs.YtkmoeeaaolpdnaaGreatDoor
