/-
 The visitor of fstree.Usage: it marks what it is shown.
 The visitor of fstree.validateLinks: it marks what it is shown, and keeps what lies too deep.
 The visitor of fstree.AllPaths: it keeps the path of what it is shown.
 The walk of fstree.validateLinks.
-/
import Derived.Deep.AppendLies
import Derived.Deep.RegionLaw
import Derived.Test.YtkmoeeaaolpdnaaGreatDoorMC
namespace Go.Proofs.YtkmoeeaaolpdnaaGreatDoor
open Go.RowKit Go.Proofs.YtkmoeeaaolpdnaaGreatDoorW.PrintWords Go.Proofs.YtkmoeeaaolpdnaaGreatDoor.PTopFindsTwice

def seenV (vs : List (Nat × List ByteArray)) (j : Nat) : Bool := vs.any fun v => v.1 == j
def marks (N : Nat) (vs : List (Nat × List ByteArray)) : List Value := (List.range N).map fun j => .bool (seenV vs j)
theorem marks_len (N : Nat) (vs : List (Nat × List ByteArray)) : (marks N vs).length = N := by simp [marks]
theorem marks_get (N : Nat) (vs : List (Nat × List ByteArray)) (j : Nat) (h : j < N) : (marks N vs)[j]? = some (.bool (seenV vs j)) := by
  simp [marks, List.getElem?_map, List.getElem?_range h]
theorem marks_set (N : Nat) (vs : List (Nat × List ByteArray)) (n : Nat) (a : List ByteArray) : (marks N vs).toArray.setIfInBounds n (.bool true) = (marks N (vs ++ [(n, a)])).toArray := by
  apply Array.ext'
  apply List.ext_getElem?
  intro j
  simp only [Array.toList_setIfInBounds, List.getElem?_set]
  by_cases hj : j < N
  · rw [marks_get N vs j hj, marks_get N (vs ++ [(n, a)]) j hj]
    by_cases h : n = j
    · subst h
      rw [if_pos rfl, if_pos (by rw [marks_len]; exact hj)]
      simp [seenV]
    · rw [if_neg h]
      have : seenV (vs ++ [(n, a)]) j = seenV vs j := by
        have : (n == j) = false := beq_eq_false_iff_ne.2 h
        simp only [seenV, List.any_append, List.any_cons, List.any_nil, this, Bool.or_false]
      rw [this]
  · rw [List.getElem?_eq_none (by rw [marks_len]; omega)]
    by_cases h : n = j
    · subst h
      rw [if_pos rfl, if_neg (by rw [marks_len]; exact hj), List.getElem?_eq_none (by rw [marks_len]; omega)]
    · rw [if_neg h, List.getElem?_eq_none (by rw [marks_len]; omega)]

/-- the marks: a cell b with a row r of N marks -/
structure Marks (B b r N : Nat) (W : World) (vs : List (Nat × List ByteArray)) : Prop where
  hb : B ≤ b
  hr : B ≤ r
  cell : W.heap[b]? = some (.cells #[.slice (some ⟨r, 0, none⟩) N N] 97 (0, 0))
  row : W.heap[r]? = some (.cells (marks N vs).toArray 4 (0, 0))
theorem Marks.move {B b r N : Nat} {W W' : World} {vs : List (Nat × List ByteArray)} (h : Marks B b r N W vs) (hk : ∀ k, k = b ∨ k = r → W'.heap[k]? = W.heap[k]?) : Marks B b r N W' vs :=
  ⟨h.hb, h.hr, (hk b (Or.inl rfl)).trans h.cell, (hk r (Or.inr rfl)).trans h.row⟩
theorem Marks.ne {B b r N : Nat} {W : World} {vs : List (Nat × List ByteArray)} (h : Marks B b r N W vs) : b ≠ r := blk_ne h.cell h.row (by decide)
theorem Marks.at_ {B b r N : Nat} {W : World} {vs : List (Nat × List ByteArray)} (h : Marks B b r N W vs) (n : Nat) (hn : n < N) : W.cell? ⟨r, n, none⟩ = some (.bool (seenV vs n)) := by
  rw [blk_cell h.row, List.getElem?_toArray, marks_get N vs n hn]
theorem Marks.set {B b r N : Nat} {W : World} {vs : List (Nat × List ByteArray)} (h : Marks B b r N W vs) (n : Nat) (a : List ByteArray) : Marks B b r N (W.setCell ⟨r, n, none⟩ (.bool true)) (vs ++ [(n, a)]) :=
  ⟨h.hb, h.hr, blk_far h.cell (p := ⟨r, n, none⟩) h.ne _, blk_put h.row n _ (marks_set N vs n a)⟩

def UseJ (B b r N : Nat) (W : World) (S : Nat → Prop) (vs : List (Nat × List ByteArray)) : Prop := S = (fun k => k = b ∨ k = r) ∧ Marks B b r N W vs
theorem use_vis (B b r N : Nat) : Vis B (UseJ B b r N) where
  own := by
    rintro W S vs ⟨rfl, h⟩ k (rfl | rfl)
    · exact ⟨h.hb, blk_lt h.cell⟩
    · exact ⟨h.hr, blk_lt h.row⟩
  move := by
    rintro W W' S vs ⟨rfl, h⟩ hk _
    exact ⟨rfl, h.move hk⟩

set_option maxHeartbeats 1000000 in
set_option maxRecDepth 100000 in
theorem use_calls (w0 : World) (b r N : Nat) (W : World) (S : Nat → Prop) (vs : List (Nat × List ByteArray)) (n : Nat) (at_ : List ByteArray) (v : Value) (hj : UseJ w0.heap.size b r N W S vs) (hn : n < N) (hb : Below w0.heap.size w0 W) :
    Calls Tryz.prog 94 (#[.int .i64 (n : Int), v] ++ #[.pointer (some ⟨b, 0, none⟩)]) W fun e W' => e = .returned (.bool true) ∧ Left (UseJ w0.heap.size b r N) w0 W S (vs ++ [(n, at_)]) W' := by
  obtain ⟨rfl, hm⟩ := hj
  have hc := (blk_cell hm.cell 0).trans rfl
  have hx := hm.at_ n hn
  have hf := blk_frozen hm.row n
  have hi0 : (0 : Int) ≤ (n : Int) := Int.natCast_nonneg _
  have hi1 : (n : Int) < (N : Int) := by omega
  have HL : Aside0 (Left (UseJ w0.heap.size b r N) w0 W (fun k => k = b ∨ k = r) (vs ++ [(n, at_)]) (W.setCell ⟨r, n, none⟩ (.bool true))) :=
    ⟨_, ⟨rfl, hm.set n at_⟩, (Kept.refl W _).setCell (p := ⟨r, n, none⟩) (Or.inl (Or.inr rfl)) _, fun k hk => Or.inl hk, hb.setCell (p := ⟨r, n, none⟩) hm.hr _⟩
  clear hm hb
  show Calls Tryz.prog 94 #[.int .i64 (n : Int), v, .pointer (some ⟨b, 0, none⟩)] W _
  go_enter Tryz.func94, Tryz.ntmps94
  go_wp2
  go_ret
  exact ⟨rfl, HL.out⟩
end Go.Proofs.YtkmoeeaaolpdnaaGreatDoor

namespace Go.Proofs.YtkmoeeaaolpdnaaGreatDoor
open Go.RowKit Go.Proofs.YtkmoeeaaolpdnaaGreatDoorW.PrintWords Go.Proofs.YtkmoeeaaolpdnaaGreatDoor.PTopFindsTwice

def longs (vs : List (Nat × List ByteArray)) : List Int := (vs.filter fun v => tooD v.2).map fun v => (v.1 : Int)
theorem longs_snoc (vs : List (Nat × List ByteArray)) (n : Nat) (a : List ByteArray) : longs (vs ++ [(n, a)]) = if tooD a then longs vs ++ [(n : Int)] else longs vs := by
  unfold longs
  rw [List.filter_append, List.filter_cons]
  cases tooD a <;> simp
theorem longs_len (vs : List (Nat × List ByteArray)) : (longs vs).length ≤ vs.length := by
  unfold longs
  rw [List.length_map]
  exact List.length_filter_le _ _

/-- the marks, the long ones, and the tree's box -/
structure LnkM (B b r bl gt N : Nat) (A : Option Addr) (c : Nat) (W : World) (vs : List (Nat × List ByteArray)) (xs : List Int) (vL : Value) : Prop where
  m : Marks B b r N W vs
  hl : B ≤ bl
  hg : B ≤ gt
  long : W.heap[bl]? = some (.cells #[vL] 27 (0, 0))
  box : W.heap[gt]? = some (.cells #[.slice A N c] 24 (0, 0))
  own : W.ownsRow B 3 1 vL xs.length (nums .i64 xs)
section
variable {B b r bl gt N c : Nat} {A : Option Addr} {W W' : World} {vs : List (Nat × List ByteArray)} {xs : List Int} {vL : Value}
theorem LnkM.move (h : LnkM B b r bl gt N A c W vs xs vL) (hk : ∀ k, (k = b ∨ k = r ∨ k = bl ∨ k = gt ∨ vL.ownBlock = some k) → W'.heap[k]? = W.heap[k]?) : LnkM B b r bl gt N A c W' vs xs vL :=
  ⟨h.m.move fun k hk' => hk k (by rcases hk' with h | h <;> simp [h]), h.hl, h.hg, (hk bl (by simp)).trans h.long, (hk gt (by simp)).trans h.box, own_move h.own fun k hk' => hk k (by simp [hk'])⟩
theorem LnkM.lt (h : LnkM B b r bl gt N A c W vs xs vL) (k : Nat) (hk : k = b ∨ k = r ∨ k = bl ∨ k = gt ∨ vL.ownBlock = some k) : B ≤ k ∧ k < W.heap.size := by
  rcases hk with rfl | rfl | rfl | rfl | hk
  · exact ⟨h.m.hb, blk_lt h.m.cell⟩
  · exact ⟨h.m.hr, blk_lt h.m.row⟩
  · exact ⟨h.hl, blk_lt h.long⟩
  · exact ⟨h.hg, blk_lt h.box⟩
  · exact ⟨own_base h.own k hk, own_lt h.own k hk⟩
theorem LnkM.below (h : LnkM B b r bl gt N A c W vs xs vL) (hb : Below W.heap.size W W') : LnkM B b r bl gt N A c W' vs xs vL := h.move fun k hk => hb.block k (h.lt k hk).2
theorem LnkM.mark (h : LnkM B b r bl gt N A c W vs xs vL) (n : Nat) (a : List ByteArray) : LnkM B b r bl gt N A c (W.setCell ⟨r, n, none⟩ (.bool true)) (vs ++ [(n, a)]) xs vL :=
  ⟨h.m.set n a, h.hl, h.hg, blk_far h.long (p := ⟨r, n, none⟩) (blk_ne h.long h.m.row (by decide)) _, blk_far h.box (p := ⟨r, n, none⟩) (blk_ne h.box h.m.row (by decide)) _,
    own_setCell h.own (p := ⟨r, n, none⟩) (own_ne h.own h.m.row (by decide)) _⟩
theorem LnkM.grow (h : LnkM B b r bl gt N A c W vs xs vL) {v1 : Value} {ys : List Int} (ho : W'.ownsRow B 3 1 v1 ys.length (nums .i64 ys)) (hg : W.grownBy W' vL.ownBlock) :
    W'.heap[bl]? = some (.cells #[vL] 27 (0, 0)) ∧ LnkM B b r bl gt N A c (W'.setCell ⟨bl, 0, none⟩ v1) vs ys v1 := by
  have e1 := blk_grown h.long hg (own_ne h.own h.long (by decide))
  refine ⟨e1, ⟨h.m.hb, h.m.hr, ?_, ?_⟩, h.hl, h.hg, blk_put e1 0 _ rfl, ?_, own_setCell ho (p := ⟨bl, 0, none⟩) (own_ne ho e1 (by decide)) _⟩
  · exact blk_far (blk_grown h.m.cell hg (own_ne h.own h.m.cell (by decide))) (p := ⟨bl, 0, none⟩) (blk_ne h.m.cell h.long (by decide)) _
  · exact blk_far (blk_grown h.m.row hg (own_ne h.own h.m.row (by decide))) (p := ⟨bl, 0, none⟩) (blk_ne h.m.row h.long (by decide)) _
  · exact blk_far (blk_grown h.box hg (own_ne h.own h.box (by decide))) (p := ⟨bl, 0, none⟩) (blk_ne h.box h.long (by decide)) _
end

def LnkJ (B b r bl gt N : Nat) (A : Option Addr) (c : Nat) (W : World) (S : Nat → Prop) (vs : List (Nat × List ByteArray)) : Prop :=
  ∃ vL, S = (fun k => k = b ∨ k = r ∨ k = bl ∨ k = gt ∨ vL.ownBlock = some k) ∧ LnkM B b r bl gt N A c W vs (longs vs) vL
theorem lnk_vis (B b r bl gt N : Nat) (A : Option Addr) (c : Nat) : Vis B (LnkJ B b r bl gt N A c) where
  own := by
    rintro W S vs ⟨vL, rfl, h⟩ k hk
    exact h.lt k hk
  move := by
    rintro W W' S vs ⟨vL, rfl, h⟩ hk _
    exact ⟨vL, rfl, h.move hk⟩

set_option maxHeartbeats 2000000 in
set_option maxRecDepth 100000 in
theorem lnkv_calls (w0 : World) (b r bl gt N : Nat) (A : Option Addr) (c : Nat) (W : World) (S : Nat → Prop) (vs : List (Nat × List ByteArray)) (n : Nat) (at_ : List ByteArray) (v : Value) (hj : LnkJ w0.heap.size b r bl gt N A c W S vs) (hn : n < N) (hM : vs.length ≤ 1000000) (hN : N ≤ 1000)
    (hal : at_.length ≤ N) (has : ∀ s ∈ at_, s.size ≤ 12) (hv : W.ownsRow w0.heap.size 9 1 v at_.length (encs Value.string at_)) (hvS : ∀ k, v.ownBlock = some k → ¬ S k) (hb : Below w0.heap.size w0 W) :
    Calls Tryz.prog 92 (#[.int .i64 (n : Int), v] ++ #[.pointer (some ⟨b, 0, none⟩), .pointer (some ⟨bl, 0, none⟩), .pointer (some ⟨gt, 0, none⟩)]) W fun e W' => e = .returned (.bool true) ∧ Left (LnkJ w0.heap.size b r bl gt N A c) w0 W S (vs ++ [(n, at_)]) W' := by
  obtain ⟨vL, rfl, hm⟩ := hj
  have hc := (blk_cell hm.m.cell 0).trans rfl
  have hx := hm.m.at_ n hn
  have hf := blk_frozen hm.m.row n
  have hi0 : (0 : Int) ≤ (n : Int) := Int.natCast_nonneg _
  have hi1 : (n : Int) < (N : Int) := by omega
  have hiN : (at_.length : Int) ≤ (N : Int) := by omega
  have HO1 := Aside0.mk (own_setCell hv (p := ⟨r, n, none⟩) (fun e => hvS r e.symm (by simp)) (.bool true))
  have HM1 := Aside0.mk (hm.mark n at_)
  have HK1 := Aside0.mk ((Kept.refl W (fun k => k = b ∨ k = r ∨ k = bl ∨ k = gt ∨ vL.ownBlock = some k)).setCell (p := ⟨r, n, none⟩) (Or.inl (Or.inr (Or.inl rfl))) (.bool true))
  have HB1 := Aside0.mk (hb.setCell (p := ⟨r, n, none⟩) hm.m.hr (.bool true))
  have HLS := Aside0.mk (longs_snoc vs n at_)
  have HLL := Aside0.mk (Nat.le_trans (longs_len vs) hM)
  have HDC := Aside0.mk (deep_calls v w0.heap.size at_ (W.setCell ⟨r, n, none⟩ (.bool true)) HO1.out (by omega) has)
  obtain ⟨Av, cv, rfl⟩ := own_slice hv
  clear hm hb hv hvS has hM HO1
  generalize hys : longs (vs ++ [(n, at_)]) = ys at *
  generalize longs vs = xs at *
  replace hys := Aside0.mk hys
  generalize tooD at_ = td at *
  show Calls Tryz.prog 92 #[.int .i64 (n : Int), .slice Av at_.length cv, .pointer (some ⟨b, 0, none⟩), .pointer (some ⟨bl, 0, none⟩), .pointer (some ⟨gt, 0, none⟩)] W _
  go_enter Tryz.func92, Tryz.ntmps92
  go_wp2_with fail
  refine HDC.out.mono ?_
  rintro e w2 ⟨rfl, hb2⟩
  have HM2 := Aside0.mk (HM1.out.below hb2)
  have HK2 := Aside0.mk (HK1.out.below hb2)
  have HB2 := Aside0.mk (below_then HB1.out HB1.out.size hb2)
  clear hb2 HM1 HK1 HB1 HDC hc hx hf
  have hcb := (blk_cell HM2.out.box 0).trans rfl
  have hcl := (blk_cell HM2.out.long 0).trans rfl
  have hgl : gt ≠ bl := blk_ne HM2.out.box HM2.out.long (by decide)
  cases td with
  | false =>
    have HLY := Aside0.mk (show ys = xs from HLS.out)
    clear HLS
    go_wp2
    go_ret
    refine ⟨rfl, _, ⟨vL, rfl, ?_⟩, HK2.out, fun k hk => Or.inl hk, HB2.out⟩
    rw [hys.out, HLY.out]
    exact HM2.out
  | true =>
    have HLY := Aside0.mk (show ys = xs ++ [(n : Int)] from HLS.out)
    clear HLS
    go_wp2_with (at_builtin; refine print_append_num (w0 := w0) w0.heap.size rfl _ _ 27 3 .i64 8 rfl Tryz.underlying27 info3 (by decide) vL xs (n : Int) rfl rfl HM2.out.own HB2.out HB2.out.size (Nat.le_trans (Nat.mul_le_mul_right 8 (Nat.succ_le_succ HLL.out)) (by decide)) ?_; intro v1 w3 ho hB3 hg hat; obtain ⟨A1, c1, rfl⟩ := own_slice ho; obtain ⟨hbl3, HM3⟩ := HM2.out.grow ho hg; have hcl3 := (blk_cell hbl3 0).trans rfl; have hfl3 := blk_frozen hbl3 0; have hcb3 := (blk_cell HM3.box 0).trans rfl; have hcb4 := (blk_cell (blk_grown HM2.out.box hg (own_ne HM2.out.own HM2.out.box (by decide))) 0).trans rfl; have HO3 := Aside0.mk (And.intro hB3 (And.intro hg hat)); clear ho hB3 hg hat hbl3)
    go_ret
    rw [List.length_append, List.length_singleton] at HM3 HO3
    refine ⟨rfl, (fun k => k = b ∨ k = r ∨ k = bl ∨ k = gt ∨ (Value.slice A1 (xs.length + 1) c1).ownBlock = some k), ⟨.slice A1 (xs.length + 1) c1, rfl, ?_⟩, ?_, ?_, HO3.out.1.setCell (p := ⟨bl, 0, none⟩) HM2.out.hl _⟩
    · rw [hys.out, HLY.out]
      exact HM3
    · exact (Kept.of_grown HO3.out.2.1 HK2.out (fun k hk => Or.inl (by simp [hk]))).setCell (p := ⟨bl, 0, none⟩) (Or.inl (by simp)) _
    · intro k hk
      rcases hk with h | h | h | h | h
      · exact Or.inl (by simp [h])
      · exact Or.inl (by simp [h])
      · exact Or.inl (by simp [h])
      · exact Or.inl (by simp [h])
      · rcases HO3.out.2.2 with e | ⟨q, e, hq⟩
        · exact Or.inl (by simp [← e, h])
        · rw [e] at h
          injection h with h
          exact Or.inr (by have := HK2.out.1; omega)
end Go.Proofs.YtkmoeeaaolpdnaaGreatDoor

namespace Go.Proofs.YtkmoeeaaolpdnaaGreatDoor
open Go.RowKit Go.Proofs.YtkmoeeaaolpdnaaGreatDoorW.PrintWords Go.Proofs.YtkmoeeaaolpdnaaGreatDoor.PTopFindsTwice

/-- a call of a function of the program, as one step of a region that draws -/
theorem step_calls {P : Program} {ops : Array Oper} {o : Oper} {a : Act} {w : World} {K : Act → World → Prop} {Q : Exit → Act → World → Prop} {E : Prop} (hg : o.guard = none) (f : FuncId) (s : Operand) (ty : Array TypeId)
    (hop : o.op = .call { callee := .value (.func f), args := #[s], argTypes := ty }) (x : Value) (hargs : a.eval s = x) (eg : ∀ args w, (callFunc f args).run P w = .ok (.enter f args) w)
    (v : Value) (R : World → Prop) (hC : Calls P f #[x] w fun e w' => e = .returned v ∧ R w') (h : ∀ w', R w' → K (a.put o.dst v) w') : if Region.wanted o (yielded ops a.tmps) = true then Oper.wp P o a w K Q else E := by
  have hw : Region.wanted o (yielded ops a.tmps) = true := by simp [Region.wanted, hg]
  rw [if_pos hw]
  have hrun : (execOp a.eval o).run P w = .ok (.enter f #[x]) w := by
    subst hargs
    have he : a.eval (Operand.func f) = .func (.func f) #[] #[] := rfl
    simp [execOp, hop, resolve, invoke, he, Deferred.ofValue, eg]
  unfold Oper.wp
  rw [hrun, Oper.upon_enter]
  refine hC.mono ?_
  rintro e w' ⟨rfl, hr⟩
  exact h w' hr

def pths (vs : List (Nat × List ByteArray)) : List ByteArray := vs.map fun v => pStr v.2
/-- the paths: a cell b that holds a row of the call's own -/
structure PthM (B b : Nat) (W : World) (xs : List ByteArray) (vL : Value) : Prop where
  hb : B ≤ b
  cell : W.heap[b]? = some (.cells #[vL] 25 (0, 0))
  own : W.ownsRow B 9 1 vL xs.length (encs Value.string xs)
section
variable {B b : Nat} {W W' : World} {xs : List ByteArray} {vL : Value}
theorem PthM.move (h : PthM B b W xs vL) (hk : ∀ k, (k = b ∨ vL.ownBlock = some k) → W'.heap[k]? = W.heap[k]?) : PthM B b W' xs vL :=
  ⟨h.hb, (hk b (by simp)).trans h.cell, own_move h.own fun k hk' => hk k (by simp [hk'])⟩
theorem PthM.lt (h : PthM B b W xs vL) (k : Nat) (hk : k = b ∨ vL.ownBlock = some k) : B ≤ k ∧ k < W.heap.size := by
  rcases hk with rfl | hk
  · exact ⟨h.hb, blk_lt h.cell⟩
  · exact ⟨own_base h.own k hk, own_lt h.own k hk⟩
theorem PthM.below (h : PthM B b W xs vL) (hb : Below W.heap.size W W') : PthM B b W' xs vL := h.move fun k hk => hb.block k (h.lt k hk).2
theorem PthM.grow (h : PthM B b W xs vL) {v1 : Value} {ys : List ByteArray} (ho : W'.ownsRow B 9 1 v1 ys.length (encs Value.string ys)) (hg : W.grownBy W' vL.ownBlock) :
    W'.heap[b]? = some (.cells #[vL] 25 (0, 0)) ∧ PthM B b (W'.setCell ⟨b, 0, none⟩ v1) ys v1 := by
  have e1 := blk_grown h.cell hg (own_ne h.own h.cell (by decide))
  exact ⟨e1, h.hb, blk_put e1 0 _ rfl, own_setCell ho (p := ⟨b, 0, none⟩) (own_ne ho e1 (by decide)) _⟩
end
def PthJ (B b : Nat) (W : World) (S : Nat → Prop) (vs : List (Nat × List ByteArray)) : Prop :=
  ∃ vL, S = (fun k => k = b ∨ vL.ownBlock = some k) ∧ PthM B b W (pths vs) vL
theorem pth_vis (B b : Nat) : Vis B (PthJ B b) where
  own := by
    rintro W S vs ⟨vL, rfl, h⟩ k hk
    exact h.lt k hk
  move := by
    rintro W W' S vs ⟨vL, rfl, h⟩ hk _
    exact ⟨vL, rfl, h.move hk⟩

set_option maxHeartbeats 2000000 in
set_option maxRecDepth 100000 in
theorem pthv_calls (w0 : World) (b : Nat) (W : World) (S : Nat → Prop) (vs : List (Nat × List ByteArray)) (n : Nat) (at_ : List ByteArray) (v : Value) (hj : PthJ w0.heap.size b W S vs) (hM : vs.length ≤ 1000000)
    (hal : at_.length ≤ 1000) (has : ∀ s ∈ at_, s.size ≤ 12) (hv : W.ownsRow w0.heap.size 9 1 v at_.length (encs Value.string at_)) (hb : Below w0.heap.size w0 W) :
    Calls Tryz.prog 47 (#[.int .i64 (n : Int), v] ++ #[.pointer (some ⟨b, 0, none⟩)]) W fun e W' => e = .returned (.bool true) ∧ Left (PthJ w0.heap.size b) w0 W S (vs ++ [(n, at_)]) W' := by
  obtain ⟨vL, rfl, hm⟩ := hj
  have HSC : Aside0 (∀ W', Below W.heap.size W W' → Calls Tryz.prog 48 #[v] W' fun e w' => e = .returned (.string (pStr at_)) ∧ Below W'.heap.size W' w') := ⟨fun W' hW' => string_calls v w0.heap.size at_ W' (pw_own_below hv hW') hal has⟩
  have HPS := Aside0.mk (show pths (vs ++ [(n, at_)]) = pths vs ++ [pStr at_] by simp [pths])
  have HLL := Aside0.mk (show (pths vs).length ≤ 1000000 by simpa [pths] using hM)
  have HM0 : Aside0 (∀ W', Below W.heap.size W W' → PthM w0.heap.size b W' (pths vs) vL) := ⟨fun W' hW' => hm.below hW'⟩
  have HB0 := Aside0.mk hb
  have hcb := (blk_cell hm.cell 0).trans rfl
  obtain ⟨Av, cv, rfl⟩ := own_slice hv
  obtain ⟨Al, cl, rfl⟩ := own_slice hm.own
  obtain ⟨i0, hi, hzz⟩ := Option.map_eq_some_iff.1 infoS
  simp only [Prod.mk.injEq] at hzz
  obtain ⟨hz0, hz1, hz2⟩ := hzz
  have HI := Aside0.mk (And.intro hi (And.intro hz0 (And.intro hz1 hz2)))
  have eg30 : ∀ args w, (callFunc 48 args).run Tryz.prog w = .ok (.enter 48 args) w := enters_of Tryz.func48 (by kernel_rfl) rfl
  have EG := Aside0.mk eg30
  clear hi hz0 hz1 hz2 hm hb hv has hM hal eg30
  generalize hys : pths (vs ++ [(n, at_)]) = ys at *
  generalize pths vs = xs at *
  generalize pStr at_ = ps at *
  replace hys := Aside0.mk hys
  show Calls Tryz.prog 47 #[.int .i64 (n : Int), .slice Av at_.length cv, .pointer (some ⟨b, 0, none⟩)] W _
  go_enter Tryz.func47, Tryz.ntmps47
  go_wp2_with fail
  go_region_law (first
    | (refine step_calls rfl 48 (.tmp 7) #[25] rfl (.slice Av at_.length cv) ?_ EG.out (.string ps) _ (HSC.out _ ?_) ?_
       · rfl
       · exact below_drew (Below.refl _ _)
       intro w2 hb2
       have HW2 := Aside0.mk (below_then (below_drew (Below.refl W.heap.size W)) (Nat.le_refl _) hb2)
       have hcb2 := (blk_cell (HM0.out _ HW2.out).cell 0).trans rfl
       have hbl2 := blk_lt (HM0.out _ HW2.out).cell
       have hcb2a := (blk_cell (blk_alloc (HM0.out _ HW2.out).cell (.cells #[.string ps] 9)) 0).trans rfl
       have HWA := Aside0.mk (below_alloc HW2.out (.cells #[.string ps] 9))
       have HBA := Aside0.mk (below_then HB0.out HB0.out.size HWA.out)
       have HPA := Aside0.mk (HM0.out _ HWA.out)
       have HNW := Aside0.mk (heap_alloc_new w2 (.cells #[.string ps] 9))
       clear hb2)
    | (refine step_append_lies _ rfl (.tmp 6) (.tmp 9) 25 rfl w0.heap.size 9 i0 (.string ⟨#[]⟩) 1 16 Tryz.underlying25 HI.out.1 HI.out.2.1 HI.out.2.2.1 HI.out.2.2.2 rfl (by decide) (.slice Al xs.length cl) xs.length (encs Value.string xs) ?_ ?_
         ⟨w2.heap.size, 0, none⟩ 1 1 [.string ps] ?_ rfl ?_ ?_ (by decide) (Nat.le_trans (Nat.succ_le_succ HLL.out) (by decide)) (Nat.le_trans (Nat.mul_le_mul_right 16 (Nat.succ_le_succ HLL.out)) (by decide)) ?_ (w2.heap.size + 1) ?_ ?_
       · rfl
       · exact HPA.out.own
       · rfl
       · exact World.news_of_block (cs := #[.string ps]) (t := 9) (fr := (0, 0)) HNW.out
       · simp [Value.oneCell']
       · exact Nat.le_trans HB0.out.size HWA.out.size
       · simp
       intro gg cap w3 hown hgr hat hlt
       obtain ⟨hb3, HM3⟩ := HPA.out.grow (v1 := .slice (some ⟨gg, 0, none⟩) (xs.length + 1) cap) (ys := xs ++ [ps]) (by simpa [encs] using hown) hgr
       have hcb3 := (blk_cell hb3 0).trans rfl
       have hfb3 := blk_frozen hb3 0
       have HO3 := Aside0.mk (And.intro (pw_below_grown HBA.out _ HBA.out.size hgr (fun k hk => (HPA.out.lt k (Or.inr hk)).1)) (And.intro hgr hat))
       clear hown hgr hat hlt hb3))
  all_goals
    have HF : Aside0 (Left (PthJ w0.heap.size b) w0 W (fun k => k = b ∨ (Value.slice Al xs.length cl).ownBlock = some k) (vs ++ [(n, at_)]) (w3.setCell ⟨b, 0, none⟩ (.slice (some ⟨gg, 0, none⟩) (xs.length + 1) cap))) := ⟨by
      refine ⟨(fun k => k = b ∨ (Value.slice (some ⟨gg, 0, none⟩) (xs.length + 1) cap).ownBlock = some k), ⟨.slice (some ⟨gg, 0, none⟩) (xs.length + 1) cap, rfl, ?_⟩, ?_, ?_, HO3.out.1.setCell (p := ⟨b, 0, none⟩) HM3.hb _⟩
      · rw [hys.out, HPS.out]
        exact HM3
      · exact (Kept.of_grown HO3.out.2.1 (Kept.of_below HWA.out (fun k => k = b ∨ (Value.slice Al xs.length cl).ownBlock = some k)) (fun k hk => Or.inl (Or.inr hk))).setCell (p := ⟨b, 0, none⟩) (Or.inl (Or.inl rfl)) _
      · intro k hk
        rcases hk with h | h
        · exact Or.inl (Or.inl h)
        · have h : gg = k := by simpa [Value.ownBlock] using h
          subst h
          rcases HO3.out.2.2 with e | e
          · exact Or.inl (Or.inr e)
          · refine Or.inr ?_
            have := HW2.out.size
            omega⟩
    clear HO3 HM3 hcb3 hfb3
    go_wp2
    go_ret
    exact ⟨rfl, HF.out⟩
end Go.Proofs.YtkmoeeaaolpdnaaGreatDoor

namespace Go.Proofs.YtkmoeeaaolpdnaaGreatDoor
open Go.RowKit Go.Proofs.YtkmoeeaaolpdnaaGreatDoorW.PrintWords Go.Proofs.YtkmoeeaaolpdnaaGreatDoor.PTopFindsTwice

theorem ffault_calls (c i : Int) (w : World) : Calls Tryz.prog 69 #[.int .i64 c, .int .i64 i] w fun e w' => e = .returned (fltV c i) ∧ Below w.heap.size w w' := by
  go_enter Tryz.func69, Tryz.ntmps69
  go_wp2
  exact bodyPost_ret (v := fltV c i) (by simp [results, Tryz.results69, go_sem]) rfl ⟨rfl, by first | exact (Below.refl _ _).alloc (Nat.le_refl _) _ | exact Below.refl _ _⟩

def VS (T : List S104) : List (Nat × List ByteArray) := TreePlain.visits (Ent T) (T.length + 1) 0 []
def SeenOk (T : List S104) : Prop := ∀ i : Nat, i < T.length → (rd_T104 T (i : Int)).f0 ≠ 0 → seenV (VS T) i = true
def LongOk (T : List S104) : Prop := ∀ i : Nat, i < T.length → (longs (VS T)).contains (i : Int) = false

def linkB (T : List S104) (i : Nat) : Bool := (rd_T104 T (i : Int)).f0 == 2 && decide (0 < rd (links T) (i : Int)) || (rd_T104 T (i : Int)).f0 == 1 && (rd (links T) (i : Int) == 1) || (rd_T104 T (i : Int)).f0 == 0
theorem linksOk_iff (T : List S104) : LinksOk T ↔ ∀ i : Nat, 0 < i → i < T.length → linkB T i = true := by
  unfold LinksOk linkB
  simp only [Bool.or_eq_true, Bool.and_eq_true, decide_eq_true_eq, beq_iff_eq, or_assoc]

theorem contains_own (v : Value) (B : Nat) (xs : List Int) (x : Int) (w : World) (h : w.ownsRow B 3 1 v xs.length (nums .i64 xs)) :
    Calls Tryz.prog 43 #[v, .int .i64 x] w fun e w' => e = .returned (.bool (xs.contains x)) ∧ w = w' := by
  rcases h.2 with ⟨rfl, h0⟩ | ⟨g, cap, cur, rfl, hb, hh, hnc, hm, _⟩
  · obtain rfl : xs = [] := List.eq_nil_of_length_eq_zero h0
    exact (Tryz.slices_Contains_int_empty none 0 x w).mono fun e w' ⟨he, hw⟩ => ⟨he, hw.symm⟩
  · refine (Tryz.slices_Contains_int g 0 xs.length cap xs x w (Nat.le_refl _) (by simp only [maxLen] at hm; omega) ?_).mono fun e w' ⟨he, hw⟩ => ⟨by rw [he, List.take_length], hw.symm⟩
    intro j hj
    have := h.cells (g := g) rfl j (.int .i64 (xs.getD j 0)) (by rw [nums, List.getElem?_map, List.getElem?_eq_getElem hj, List.getD_eq_getElem?_getD, List.getElem?_eq_getElem hj]; rfl)
    rw [add_plain] at this
    rw [Nat.zero_add]; exact this

/-- a good tree, its links apart -/
structure Sound (T : List S104) : Prop where
  pos : 0 < T.length
  le : T.length ≤ 40
  small : Small T
  ok : ∀ n ∈ T, InodeOk T n
theorem Sound.at_ {T : List S104} (h : Sound T) {i : Nat} (hi : i < T.length) : InodeOk T (rd_T104 T (i : Int)) := by
  rw [rdT_get T i hi]
  exact h.ok _ (List.getElem_mem hi)

theorem Sound.range {T : List S104} (h : Sound T) (p : Nat) : (rd_T104 T (p : Int)).f2.length ≤ 16 ∧ ∀ e ∈ (rd_T104 T (p : Int)).f2, vName e.f0 = true ∧ 0 ≤ e.f1 ∧ e.f1 < (T.length : Int) := by
  by_cases hp : p < T.length
  · rw [rdT_get T p hp]
    have := (ok_ents (h.ok _ (List.getElem_mem hp)) (h.small _ (List.getElem_mem hp))).1
    refine ⟨this.1, fun e he => ?_⟩
    have := entB_range this e he
    exact ⟨this.1, by omega, this.2.2⟩
  · rw [rdT_out T p hp]
    exact ⟨Nat.zero_le _, fun e he => by cases he⟩
theorem Sound.names {T : List S104} (h : Sound T) {a : List ByteArray} {n : Nat} (hr : TreePlain.Reach (Ent T) a n) : ∀ s ∈ a, vName s = true := by
  induction hr with
  | root => intro s hs; cases hs
  | step _ hm ih =>
    intro s hs
    rcases List.mem_append.1 hs with hs | hs
    · exact ih s hs
    · obtain ⟨e, he, heq⟩ := List.mem_map.1 hm
      have h1 := ((h.range _).2 e he).1
      have h2 := congrArg Prod.fst heq
      rw [List.mem_singleton.1 hs]
      simp only at h2
      rw [← h2]
      exact h1
theorem Sound.few {T : List S104} (h : Sound T) (hG : TreePlain.Good (Ent T) T.length) {a0 : List ByteArray} {n : Nat} (hr : TreePlain.Reach (Ent T) a0 n) (f : Nat) : (TreePlain.visits (Ent T) f n []).length ≤ 1000 := by
  have := TreePlain.visits_bound hG 16 (fun p => by unfold Ent; rw [List.length_map]; exact (h.range p).1) f n a0 hr
  have := h.le
  omega
theorem marks_nil (N : Nat) : (marks N []).toArray = madeCells #[.bool false] N := by
  apply Array.ext'
  apply List.ext_getElem
  · simp [marks, madeCells]
  · intro i h1 h2
    simp [marks, madeCells, seenV, Nat.mod_one]

theorem walkl_calls {A : Option Addr} {c : Nat} {T : List S104} {w : World} (hT : Kd.C k104 w A T.length T) (hS : Sound T) (hG : TreePlain.Good (Ent T) T.length) (b r bl gt : Nat) (W : World) (S : Nat → Prop)
    (hj : LnkJ w.heap.size b r bl gt T.length A c W S []) (hb : Below w.heap.size w W) :
    Calls Tryz.prog 46 #[.agg #[.slice A T.length c], .int .i64 0, .slice none 0 0, .func (.func 92) #[] #[.pointer (some ⟨b, 0, none⟩), .pointer (some ⟨bl, 0, none⟩), .pointer (some ⟨gt, 0, none⟩)]] W
      fun e W' => e = .returned (.bool true) ∧ Left (LnkJ w.heap.size b r bl gt T.length A c) w W S (VS T) W' := by
  have hle := hS.le
  have h := walk_calls (M := 1000) (a0 := []) (c := c) hT (by omega) hG (fun p => ⟨by have := (hS.range p).1; omega, fun e he => ((hS.range p).2 e he).2⟩) (enters_of Tryz.func92 (by kernel_rfl) rfl) (lnk_vis w.heap.size b r bl gt T.length A c)
    (fun W' S' vs n at_ v hj' hM hr hn hv hvS hb' => lnkv_calls w b r bl gt T.length A c W' S' vs n at_ v hj' hn (by omega) (by omega) (hr.depth hG) (fun s hs => (vName_facts (hS.names hr s hs)).2.1) hv hvS hb')
    (T.length + 1) 0 [] (.slice none 0 0) W S [] (by simp) TreePlain.Reach.root hS.pos (by have := hS.few hG TreePlain.Reach.root (T.length + 1); simpa using this) hj (own_nil _ _ _ _) (fun k hk => by cases hk) hb
  exact h

set_option maxHeartbeats 4000000 in
set_option maxRecDepth 100000 in
theorem vlinks_calls (A : Option Addr) (c : Nat) (T : List S104) (w : World) (hT : Kd.C k104 w A T.length T) (hc : T.length ≤ c) (hS : Sound T) :
    Calls Tryz.prog 71 #[.agg #[.slice A T.length c]] w fun e w' => FltAns (LinksOk T ∧ SeenOk T ∧ LongOk T) e ∧ Below w.heap.size w w' := by
  have HTr := Aside0.mk hT
  have HS := Aside0.mk hS
  have hN0 := hS.pos
  have hN1 := hS.le
  have HLO := Aside0.mk (linksOk_iff T)
  have HLC : Aside0 (∀ W, Below w.heap.size w W → Calls Tryz.prog 91 #[.agg #[.slice A T.length c]] W fun e w' => ∃ v : Value, e = .returned v ∧ w'.ownsRow W.heap.size 3 1 v (links T).length (nums .i64 (links T)) ∧ Below W.heap.size W w') := ⟨fun W hW =>
    (links_calls A c T W (Kd.C_below hT hW) hc (by omega) hS.small hS.ok).mono fun e w' ⟨v, he, hr, hb⟩ => ⟨v, he, Kd.own_of_R hr, hb⟩⟩
  have HLL := Aside0.mk (show (links T).length = T.length by unfold links; rw [bump_len]; simp)
  have HB0 := Aside0.mk (below_alloc (below_alloc (Below.refl w.heap.size w) (.cells #[.slice A T.length c] 24)) (.cells #[.int .i64 0, .int .i64 0] 40))
  have HBX := Aside0.mk (TBox.new w A T.length c)
  have HTW := Aside0.mk (Two.new (w.alloc (.cells #[.slice A T.length c] 24)) (.int .i64 0) (.int .i64 0))
  have HSZ := Aside0.mk (show (w.alloc (.cells #[.slice A T.length c] 24)).heap.size = w.heap.size + 1 from World.size_alloc _ _)
  clear hT hS
  go_enter Tryz.func71, Tryz.ntmps71
  go_wp2_with fail
  refine (HLC.out _ HB0.out).mono ?_
  rintro e w1 ⟨vK, rfl, hk, hb1⟩
  have HB1 := Aside0.mk (below_then HB0.out HB0.out.size hb1)
  have HBX1 := Aside0.mk ((HBX.out.below (below_alloc (Below.refl _ _) _)).below hb1)
  have HTW1 := Aside0.mk (HTW.out.below hb1)
  rw [HSZ.out] at HTW1
  have hk2 := hk
  rw [HLL.out] at hk2
  obtain ⟨gL, cL, rfl, _, _⟩ := hk2.form hN0
  have HKK : Aside0 (∀ wr, Below w1.heap.size w1 wr → ∀ j : Nat, j < T.length → wr.cell? ⟨gL, j, none⟩ = some (.int .i64 (rd (links T) (j : Int)))) := ⟨fun wr hwr j hj => by
    have h := hk2.cells (g := gL) rfl j (.int .i64 (rd (links T) (j : Int))) (by
      have : j < (links T).length := by rw [HLL.out]; exact hj
      rw [nums, List.getElem?_map, List.getElem?_eq_getElem this]
      unfold rd
      rw [Int.toNat_natCast, List.getD_eq_getElem?_getD, List.getElem?_eq_getElem this]
      rfl)
    rw [add_plain] at h
    exact pw_cell_below hwr h⟩
  clear hk hk2 hb1 HB0 HBX HTW HLC
  have htc := HBX1.out.cell
  go_wp2_with fail
  go_loopw [16] (fun i wr => ∃ k : Nat, k ≤ T.length ∧ i = .int .i64 k ∧ Aside0 (∀ j, 0 < j → j < k → linkB T j = true) ∧ Aside0 (Below w1.heap.size w1 wr)) (fun i _ => T.length - (intOf i).toNat)
  case atStart => exact ⟨0, Nat.zero_le _, rfl, ⟨fun j hj hj2 => by omega⟩, ⟨Below.refl _ _⟩⟩
  case round =>
    clear htc
    obtain ⟨k, hk, rfl, HG, HBr⟩ := hrel
    by_cases hlt : k < T.length
    · obtain ⟨ad, A2, c2, A3, c3, A4, c4, A5, c5, rfl, i0, i1, i2, i3, i4, i5, i6, i7, _⟩ := at_T104 (Kd.C_below HTr.out (below_then HB1.out HB1.out.size HBr.out)) (k : Int) (by omega) (by omega)
      rw [Int.toNat_natCast] at i0 i1 i2 i3 i4 i5 i6 i7
      have HK2 : Aside0 (∀ wr, Below w1.heap.size w1 wr → wr.cell? ⟨gL, k, none⟩ = some (Value.int .i64 (rd (links T) (k : Int)))) := ⟨fun wr hwr => HKK.out wr hwr k hlt⟩
      have HLB := Aside0.mk (show linkB T k = ((rd_T104 T (k : Int)).f0 == 2 && decide (0 < rd (links T) (k : Int)) || (rd_T104 T (k : Int)).f0 == 1 && (rd (links T) (k : Int) == 1) || (rd_T104 T (k : Int)).f0 == 0) from rfl)
      have HKD := Aside0.mk (HS.out.at_ hlt).1
      have HNOT := Aside0.mk (show 0 < k → linkB T k = false → ¬ (LinksOk T ∧ SeenOk T ∧ LongOk T) from fun h0 h g => by
        have := HLO.out.1 g.1 k h0 hlt
        rw [h] at this
        cases this)
      have HGO := Aside0.mk (show (0 < k → linkB T k = true) → ∀ j, 0 < j → j < k + 1 → linkB T j = true from fun h j h1 h2 => by
        by_cases e : j = k
        · rw [e]; exact h (by omega)
        · exact HG.out j h1 (by omega))
      generalize rd (links T) (k : Int) = lk at *
      generalize rd_T104 T (k : Int) = a at *
      obtain ⟨kd, ow, ents, dat, acl, att, qu, ve⟩ := a
      simp only at i0 i1 i2 i3 i4 i5 i6 i7 HLB HKD
      have hkd : kd = 0 ∨ kd = 1 ∨ kd = 2 := by have := HKD.out; omega
      rcases hkd with rfl | rfl | rfl
      · have HY := Aside0.mk (HGO.out (fun h0 => by rw [HLB.out]; simp))
        clear HGO HNOT HLB HKD
        have HB3 := Aside0.mk (below_alloc HBr.out (.cells #[.int .i64 0, .int .i64 ow, .slice A2 ents.length c2, .slice A3 dat.length c3, .slice A4 acl.length c4, .slice A5 att.length c5, .int .i64 qu, .int .i64 ve] 104))
        have hkk := HK2.out _ HB3.out
        go_wp2
        all_goals
          go_roundw
          case rel => exact ⟨k + 1, by omega, by go_num, HY, HB3⟩
          case measure => simp [intOf]; omega
      · by_cases hlk : lk = 1
        · have HY := Aside0.mk (HGO.out (fun h0 => by rw [HLB.out]; simp [hlk]))
          clear HGO HNOT HLB HKD
          have HB3 := Aside0.mk (below_alloc HBr.out (.cells #[.int .i64 1, .int .i64 ow, .slice A2 ents.length c2, .slice A3 dat.length c3, .slice A4 acl.length c4, .slice A5 att.length c5, .int .i64 qu, .int .i64 ve] 104))
          have hkk := HK2.out _ HB3.out
          go_wp2
          all_goals
            go_roundw
            case rel => exact ⟨k + 1, by omega, by go_num, HY, HB3⟩
            case measure => simp [intOf]; omega
        · have hlb : (lk == 1) = false := beq_eq_false_iff_ne.2 hlk
          by_cases h0 : 0 < k
          · have HN := Aside0.mk (HNOT.out h0 (by rw [HLB.out]; simp [hlk]))
            clear HGO HNOT HLB HKD
            have HB3 := Aside0.mk (below_alloc HBr.out (.cells #[.int .i64 1, .int .i64 ow, .slice A2 ents.length c2, .slice A3 dat.length c3, .slice A4 acl.length c4, .slice A5 att.length c5, .int .i64 qu, .int .i64 ve] 104))
            have hkk := HK2.out _ HB3.out
            go_wp2_with fail
            refine (ffault_calls 11 (k : Int) _).mono ?_
            rintro e w3 ⟨rfl, hb3⟩
            have HB4 := Aside0.mk (below_then HB3.out HB3.out.size hb3)
            have T3 := HTW1.out.below HB4.out
            obtain ⟨⟨ht0, ht1⟩, hg0, hg1⟩ := T3.cells
            have HB5 := Aside0.mk (below_then HB1.out HB1.out.size HB4.out)
            clear hb3 T3 HB3 HB4
            go_wp2
            exact bodyPost_ret (v := fltV 11 (k : Int)) (by simp [results, Tryz.results71, go_sem, ht0, ht1]) rfl ⟨⟨_, _, rfl, Or.inr ⟨by decide, HN.out⟩⟩, Two.upper HB5.out (by omega)⟩
          · have HY := Aside0.mk (HGO.out (fun h0 => by omega))
            clear HGO HNOT HLB HKD
            have HB3 := Aside0.mk (below_alloc HBr.out (.cells #[.int .i64 1, .int .i64 ow, .slice A2 ents.length c2, .slice A3 dat.length c3, .slice A4 acl.length c4, .slice A5 att.length c5, .int .i64 qu, .int .i64 ve] 104))
            have hkk := HK2.out _ HB3.out
            go_wp2
            all_goals
              go_roundw
              case rel => exact ⟨k + 1, by omega, by go_num, HY, HB3⟩
              case measure => simp [intOf]; omega
      · by_cases hlk : 0 < lk
        · have HY := Aside0.mk (HGO.out (fun h0 => by rw [HLB.out]; simp [hlk]))
          clear HGO HNOT HLB HKD
          have HB3 := Aside0.mk (below_alloc HBr.out (.cells #[.int .i64 2, .int .i64 ow, .slice A2 ents.length c2, .slice A3 dat.length c3, .slice A4 acl.length c4, .slice A5 att.length c5, .int .i64 qu, .int .i64 ve] 104))
          have hkk := HK2.out _ HB3.out
          go_wp2
          all_goals
            go_roundw
            case rel => exact ⟨k + 1, by omega, by go_num, HY, HB3⟩
            case measure => simp [intOf]; omega
        · by_cases h0 : 0 < k
          · have HN := Aside0.mk (HNOT.out h0 (by rw [HLB.out]; simp [hlk]))
            clear HGO HNOT HLB HKD
            have HB3 := Aside0.mk (below_alloc HBr.out (.cells #[.int .i64 2, .int .i64 ow, .slice A2 ents.length c2, .slice A3 dat.length c3, .slice A4 acl.length c4, .slice A5 att.length c5, .int .i64 qu, .int .i64 ve] 104))
            have hkk := HK2.out _ HB3.out
            go_wp2_with fail
            refine (ffault_calls 11 (k : Int) _).mono ?_
            rintro e w3 ⟨rfl, hb3⟩
            have HB4 := Aside0.mk (below_then HB3.out HB3.out.size hb3)
            have T3 := HTW1.out.below HB4.out
            obtain ⟨⟨ht0, ht1⟩, hg0, hg1⟩ := T3.cells
            have HB5 := Aside0.mk (below_then HB1.out HB1.out.size HB4.out)
            clear hb3 T3 HB3 HB4
            go_wp2
            exact bodyPost_ret (v := fltV 11 (k : Int)) (by simp [results, Tryz.results71, go_sem, ht0, ht1]) rfl ⟨⟨_, _, rfl, Or.inr ⟨by decide, HN.out⟩⟩, Two.upper HB5.out (by omega)⟩
          · have HY := Aside0.mk (HGO.out (fun h0 => by omega))
            clear HGO HNOT HLB HKD
            have HB3 := Aside0.mk (below_alloc HBr.out (.cells #[.int .i64 2, .int .i64 ow, .slice A2 ents.length c2, .slice A3 dat.length c3, .slice A4 acl.length c4, .slice A5 att.length c5, .int .i64 qu, .int .i64 ve] 104))
            have hkk := HK2.out _ HB3.out
            go_wp2
            all_goals
              go_roundw
              case rel => exact ⟨k + 1, by omega, by go_num, HY, HB3⟩
              case measure => simp [intOf]; omega
    · obtain rfl : k = T.length := by omega
      have HLK := Aside0.mk (show LinksOk T from HLO.out.2 HG.out)
      have HGood := Aside0.mk (good_of T (by omega) HS.out.small HS.out.ok HLK.out)
      have HBw := Aside0.mk (below_then HB1.out HB1.out.size HBr.out)
      have HBXr := Aside0.mk (HBX1.out.below HBr.out)
      have HTWr := Aside0.mk (HTW1.out.below HBr.out)
      clear HG HBr HBX1 HTW1 HKK
      have htc := HBXr.out.cell
      have hmk := print_make_of (P := Tryz.prog) 97 4 (.bool false) 1 Tryz.underlying97 info4 rfl (by decide) T.length (by omega)
      have hwl := HBXr.out.lt
      have HW3 := Aside0.mk (below_alloc (below_alloc (below_alloc (Below.refl wr.heap.size wr) (.cells (madeCells #[.bool false] T.length) 4)) (.cells #[.slice (some ⟨wr.heap.size, 0, none⟩) T.length T.length] 97)) (.cells #[.slice none 0 0] 27))
      have htc3 := (HBXr.out.below HW3.out).cell
      have HCW : Aside0 (Calls Tryz.prog 46 #[.agg #[.slice A T.length c], .int .i64 0, .slice none 0 0, .func (.func 92) #[] #[.pointer (some ⟨wr.heap.size + 1, 0, none⟩), .pointer (some ⟨wr.heap.size + 1 + 1, 0, none⟩), .pointer (some ⟨w.heap.size, 0, none⟩)]]
          (((wr.alloc (.cells (madeCells #[.bool false] T.length) 4)).alloc (.cells #[.slice (some ⟨wr.heap.size, 0, none⟩) T.length T.length] 97)).alloc (.cells #[.slice none 0 0] 27))
          fun e w4 => e = .returned (.bool true) ∧ ∃ vL, LnkM w.heap.size (wr.heap.size + 1) wr.heap.size (wr.heap.size + 1 + 1) w.heap.size T.length A c w4 (VS T) (longs (VS T)) vL ∧ Two w4 (w.heap.size + 1) (.int .i64 0) (.int .i64 0) ∧ Below w.heap.size w w4) := ⟨by
        have s1 : (wr.alloc (.cells (madeCells #[.bool false] T.length) 4)).heap.size = wr.heap.size + 1 := World.size_alloc _ _
        have s2 : ((wr.alloc (.cells (madeCells #[.bool false] T.length) 4)).alloc (.cells #[.slice (some ⟨wr.heap.size, 0, none⟩) T.length T.length] 97)).heap.size = wr.heap.size + 1 + 1 := by rw [World.size_alloc, s1]
        have hsw := HBw.out.size
        have hm : LnkM w.heap.size (wr.heap.size + 1) wr.heap.size (wr.heap.size + 1 + 1) w.heap.size T.length A c (((wr.alloc (.cells (madeCells #[.bool false] T.length) 4)).alloc (.cells #[.slice (some ⟨wr.heap.size, 0, none⟩) T.length T.length] 97)).alloc (.cells #[.slice none 0 0] 27)) [] [] (.slice none 0 0) :=
          ⟨⟨by omega, hsw, by
              have h := blk_alloc (blk_new (wr.alloc (.cells (madeCells #[.bool false] T.length) 4)) (.cells #[.slice (some ⟨wr.heap.size, 0, none⟩) T.length T.length] 97)) (.cells #[.slice none 0 0] 27)
              rw [s1] at h; exact h, by
              rw [marks_nil]
              exact blk_alloc (blk_alloc (blk_new wr _) _) _⟩, by omega, Nat.le_refl _, by
              have h := blk_new ((wr.alloc (.cells (madeCells #[.bool false] T.length) 4)).alloc (.cells #[.slice (some ⟨wr.heap.size, 0, none⟩) T.length T.length] 97)) (.cells #[.slice none 0 0] 27)
              rw [s2] at h; exact h, (HBXr.out.below HW3.out).blk, own_nil _ _ _ _⟩
        refine (walkl_calls HTr.out HS.out HGood.out _ _ _ _ _ _ ⟨_, rfl, hm⟩ (below_then HBw.out HBw.out.size HW3.out)).mono ?_
        rintro e w4 ⟨he, S', ⟨vL, _, hm4⟩, hk, _, hb4⟩
        refine ⟨he, vL, hm4, ⟨blk_kept (HTWr.out.below HW3.out).blk hk ?_⟩, hb4⟩
        have := HTWr.out.lt
        rintro (h | h | h | h | h)
        · omega
        · omega
        · omega
        · omega
        · cases h⟩
      go_wp2_with fail
      refine HCW.out.mono ?_
      rintro e w4 ⟨rfl, vL, hm4, ht4, hb4⟩
      have HM4 := Aside0.mk hm4
      have HT4 := Aside0.mk ht4
      have HB4 := Aside0.mk hb4
      have hbx4 : TBox w4 w.heap.size A T.length c := ⟨hm4.box⟩
      have htc4 := hbx4.cell
      clear hm4 ht4 hb4 HCW HTWr HBXr htc htc3 HW3 hmk hwl
      go_wp2_with fail
      go_loopw [67] (fun i wr2 => ∃ k : Nat, k ≤ T.length ∧ i = .int .i64 k ∧ Aside0 (∀ j, j < k → ((rd_T104 T (j : Int)).f0 ≠ 0 → seenV (VS T) j = true) ∧ (longs (VS T)).contains (j : Int) = false) ∧ Aside0 (Below w4.heap.size w4 wr2)) (fun i _ => T.length - (intOf i).toNat)
      case atStart => exact ⟨0, Nat.zero_le _, rfl, ⟨fun j hj => by omega⟩, ⟨Below.refl _ _⟩⟩
      case round =>
        clear htc4
        obtain ⟨k, hk, rfl, HG, HBr⟩ := hrel
        by_cases hlt : k < T.length
        · obtain ⟨ad, A2, c2, A3, c3, A4, c4, A5, c5, rfl, i0, i1, i2, i3, i4, i5, i6, i7, _⟩ := at_T104 (Kd.C_below HTr.out (below_then HB4.out HB4.out.size HBr.out)) (k : Int) (by omega) (by omega)
          rw [Int.toNat_natCast] at i0 i1 i2 i3 i4 i5 i6 i7
          have HCC : Aside0 (∀ W, Below w4.heap.size w4 W → Calls Tryz.prog 43 #[vL, .int .i64 (k : Int)] W fun e w' => e = .returned (.bool ((longs (VS T)).contains (k : Int))) ∧ W = w') := ⟨fun W hW => contains_own vL w.heap.size (longs (VS T)) (k : Int) W (HM4.out.below hW).own⟩
          have HNL := Aside0.mk (show (longs (VS T)).contains (k : Int) = true → ¬ (LinksOk T ∧ SeenOk T ∧ LongOk T) from fun h g => by
            have := g.2.2 k hlt
            rw [h] at this
            cases this)
          have HNS := Aside0.mk (show (rd_T104 T (k : Int)).f0 ≠ 0 → seenV (VS T) k = false → ¬ (LinksOk T ∧ SeenOk T ∧ LongOk T) from fun h0 h g => by
            have := g.2.1 k hlt h0
            rw [h] at this
            cases this)
          have HGO := Aside0.mk (show ((rd_T104 T (k : Int)).f0 ≠ 0 → seenV (VS T) k = true) → (longs (VS T)).contains (k : Int) = false → ∀ j, j < k + 1 → ((rd_T104 T (j : Int)).f0 ≠ 0 → seenV (VS T) j = true) ∧ (longs (VS T)).contains (j : Int) = false from fun h1 h2 j hj => by
            by_cases e : j = k
            · rw [e]; exact ⟨h1, h2⟩
            · exact HG.out j (by omega))
          generalize hcv : (longs (VS T)).contains (k : Int) = cv at HCC HNL HGO
          replace hcv := Aside0.mk hcv
          generalize rd_T104 T (k : Int) = a at *
          obtain ⟨kd, ow, ents, dat, acl, att, qu, ve⟩ := a
          simp only at i0 i1 i2 i3 i4 i5 i6 i7 HNS HGO
          by_cases hk0 : kd = 0
          · subst hk0
            have HB3 := Aside0.mk (below_alloc HBr.out (.cells #[.int .i64 0, .int .i64 ow, .slice A2 ents.length c2, .slice A3 dat.length c3, .slice A4 acl.length c4, .slice A5 att.length c5, .int .i64 qu, .int .i64 ve] 104))
            have hm3 := HM4.out.below HB3.out
            have hcb := (blk_cell hm3.m.cell 0).trans rfl
            have hcr := hm3.m.at_ k hlt
            have hcl := (blk_cell hm3.long 0).trans rfl
            clear hm3
            go_wp2_with fail
            refine (HCC.out _ HB3.out).mono ?_
            rintro e w6 ⟨rfl, rfl⟩
            cases cv with
            | true =>
              have HN := Aside0.mk (HNL.out rfl)
              clear HGO HNL HNS HCC
              go_wp2_with fail
              refine (ffault_calls 10 (k : Int) _).mono ?_
              rintro e w5 ⟨rfl, hb5⟩
              have HB5 := Aside0.mk (below_then HB3.out HB3.out.size hb5)
              have T3 := HT4.out.below HB5.out
              obtain ⟨⟨ht0, ht1⟩, hg0, hg1⟩ := T3.cells
              have HB6 := Aside0.mk (below_then HB4.out HB4.out.size HB5.out)
              clear hb5 T3 HB3 HB5 hcb hcr hcl
              go_wp2
              exact bodyPost_ret (v := fltV 10 (k : Int)) (by simp [results, Tryz.results71, go_sem, ht0, ht1]) rfl ⟨⟨_, _, rfl, Or.inr ⟨by decide, HN.out⟩⟩, Two.upper HB6.out (by omega)⟩
            | false =>
              have HY := Aside0.mk (HGO.out (by intro h; exact absurd rfl h) rfl)
              clear HGO HNL HNS HCC
              go_wp2
              go_roundw
              case rel => exact ⟨k + 1, by omega, by go_num, HY, HB3⟩
              case measure => simp [intOf]; omega
          · have hkb : (kd == 0) = false := beq_eq_false_iff_ne.2 hk0
            have hkb2 : (kd != 0) = true := by rw [bne, hkb]; rfl
            have HK0 := Aside0.mk hk0
            clear hk0
            have HB3 := Aside0.mk (below_alloc HBr.out (.cells #[.int .i64 kd, .int .i64 ow, .slice A2 ents.length c2, .slice A3 dat.length c3, .slice A4 acl.length c4, .slice A5 att.length c5, .int .i64 qu, .int .i64 ve] 104))
            have hm3 := HM4.out.below HB3.out
            have hcb := (blk_cell hm3.m.cell 0).trans rfl
            have hcr := hm3.m.at_ k hlt
            have hcl := (blk_cell hm3.long 0).trans rfl
            clear hm3
            cases hsv : seenV (VS T) k with
            | true =>
              rw [hsv] at hcr
              have HSV := Aside0.mk hsv
              clear hsv
              go_wp2_with fail
              refine (HCC.out _ HB3.out).mono ?_
              rintro e w6 ⟨rfl, rfl⟩
              cases cv with
              | true =>
                have HN := Aside0.mk (HNL.out rfl)
                clear HGO HNL HNS HCC
                go_wp2_with fail
                refine (ffault_calls 10 (k : Int) _).mono ?_
                rintro e w5 ⟨rfl, hb5⟩
                have HB5 := Aside0.mk (below_then HB3.out HB3.out.size hb5)
                have T3 := HT4.out.below HB5.out
                obtain ⟨⟨ht0, ht1⟩, hg0, hg1⟩ := T3.cells
                have HB6 := Aside0.mk (below_then HB4.out HB4.out.size HB5.out)
                clear hb5 T3 HB3 HB5 hcb hcr hcl
                go_wp2
                exact bodyPost_ret (v := fltV 10 (k : Int)) (by simp [results, Tryz.results71, go_sem, ht0, ht1]) rfl ⟨⟨_, _, rfl, Or.inr ⟨by decide, HN.out⟩⟩, Two.upper HB6.out (by omega)⟩
              | false =>
                have HY := Aside0.mk (HGO.out (by intro _; exact HSV.out) rfl)
                clear HGO HNL HNS HCC
                go_wp2
                go_roundw
                case rel => exact ⟨k + 1, by omega, by go_num, HY, HB3⟩
                case measure => simp [intOf]; omega
            | false =>
              rw [hsv] at hcr
              have HN := Aside0.mk (HNS.out HK0.out hsv)
              clear hsv HGO HNL HNS HCC
              go_wp2_with fail
              refine (ffault_calls 11 (k : Int) _).mono ?_
              rintro e w5 ⟨rfl, hb5⟩
              have HB5 := Aside0.mk (below_then HB3.out HB3.out.size hb5)
              have T3 := HT4.out.below HB5.out
              obtain ⟨⟨ht0, ht1⟩, hg0, hg1⟩ := T3.cells
              have HB6 := Aside0.mk (below_then HB4.out HB4.out.size HB5.out)
              clear hb5 T3 HB3 HB5 hcb hcr hcl
              go_wp2
              exact bodyPost_ret (v := fltV 11 (k : Int)) (by simp [results, Tryz.results71, go_sem, ht0, ht1]) rfl ⟨⟨_, _, rfl, Or.inr ⟨by decide, HN.out⟩⟩, Two.upper HB6.out (by omega)⟩
        · obtain rfl : k = T.length := by omega
          have HY := Aside0.mk (show LinksOk T ∧ SeenOk T ∧ LongOk T from ⟨HLK.out, fun i hi => (HG.out i hi).1, fun i hi => (HG.out i hi).2⟩)
          have T3 := HT4.out.below HBr.out
          obtain ⟨⟨ht0, ht1⟩, hg0, hg1⟩ := T3.cells
          have HB6 := Aside0.mk (below_then HB4.out HB4.out.size HBr.out)
          clear T3 HG HBr
          go_wp2
          exact bodyPost_ret (v := fltV 0 0) (by simp [results, Tryz.results71, go_sem, ht0, ht1]) rfl ⟨⟨_, _, rfl, Or.inl ⟨rfl, rfl, HY.out⟩⟩, Two.upper HB6.out (by omega)⟩
end Go.Proofs.YtkmoeeaaolpdnaaGreatDoor
