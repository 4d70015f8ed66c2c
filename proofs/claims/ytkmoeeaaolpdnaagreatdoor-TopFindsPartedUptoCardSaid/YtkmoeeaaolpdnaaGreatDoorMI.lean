/-
 slices.Insert, slices.Clone and strings.Join on a row of strings of the call's own.
 The plain laws of two stars as an element: they can stand twice, change places with a star, and find what is found without them, and with a star ahead of them.
 slices.Clone, strings.Join and slices.Insert of nothing on a row of strings of the call's own; the walk of the function that TopFindsParted calls three times.
 The walk of wPick: one of n, by any number. Condition: n is at least 1 and at most 2^62.
-/
import Derived.IntWalk
import Derived.Test.YtkmoeeaaolpdnaaGreatDoorMC
import Derived.Test.YtkmoeeaaolpdnaaGreatDoorShelfC
import Derived.Test.YtkmoeeaaolpdnaaGreatDoorMG
import Derived.Test.YtkmoeeaaolpdnaaGreatDoorMH
import Derived.Test.YtkmoeeaaolpdnaaGreatDoorMA
namespace Go.Proofs.YtkmoeeaaolpdnaaGreatDoor
open Go.RowKit Go.Proofs.YtkmoeeaaolpdnaaGreatDoorW.PrintWords Go.Proofs.YtkmoeeaaolpdnaaGreatDoor.PTopFindsTwice

theorem set_split {α : Type} (l : List α) (o : Nat) (v : α) (h : o < l.length) : l.set o v = l.take o ++ v :: l.drop (o + 1) := by rw [List.set_eq_take_append_cons_drop, if_pos h]
theorem list_put {α : Type} (l : List α) (o : Nat) (v : α) (vs : List α) (h : o < l.length) : (l.set o v).take (o + 1) ++ vs ++ (l.set o v).drop (o + 1 + vs.length) = l.take o ++ v :: vs ++ l.drop (o + (vs.length + 1)) := by
  have hl : (l.take o).length = o := by rw [List.length_take]; omega
  rw [set_split l o v h]
  have e1 : (l.take o ++ v :: l.drop (o + 1)).take (o + 1) = l.take o ++ [v] := by
    rw [List.take_append, hl, List.take_of_length_le (by omega), show o + 1 - o = 1 from by omega]; rfl
  have e2 : (l.take o ++ v :: l.drop (o + 1)).drop (o + 1 + vs.length) = l.drop (o + (vs.length + 1)) := by
    rw [List.drop_append, hl, List.drop_of_length_le (by omega), show o + 1 + vs.length - o = vs.length + 1 from by omega, List.drop_succ_cons, List.drop_drop, List.nil_append]
    congr 1; omega
  rw [e1, e2]; simp
theorem ins_blk (b : Nat) (t : TypeId) : ∀ (vs : List Value) (o : Nat) (cs : Array Value) (w : World), w.heap[b]? = some (.cells cs t (0, 0)) → o + vs.length ≤ cs.size →
    ∃ cs' : Array Value, (w.setCells b o vs).heap[b]? = some (.cells cs' t (0, 0)) ∧ cs'.size = cs.size ∧ cs'.toList = cs.toList.take o ++ vs ++ cs.toList.drop (o + vs.length)
  | [], o, cs, w, h, _ => ⟨cs, h, rfl, by simp⟩
  | v :: vs, o, cs, w, h, hl => by
    simp only [List.length_cons] at hl
    obtain ⟨cs', h1, h2, h3⟩ := ins_blk b t vs (o + 1) (cs.setIfInBounds o v) (w.setCell ⟨b, o, none⟩ v) (blk_set h o v) (by rw [Array.size_setIfInBounds]; omega)
    refine ⟨cs', h1, by rw [h2, Array.size_setIfInBounds], ?_⟩
    rw [h3, Array.toList_setIfInBounds, list_put _ _ _ _ (by rw [Array.length_toList]; omega)]
    simp
theorem ins_grown (b : Nat) : ∀ (vs : List Value) (o : Nat) (w : World), w.grownBy (w.setCells b o vs) (some b)
  | [], _, w => ⟨rfl, rfl, rfl, Nat.le_refl _, fun _ _ _ => rfl⟩
  | v :: vs, o, w => by
    have h := ins_grown b vs (o + 1) (w.setCell ⟨b, o, none⟩ v)
    have hs : (w.setCell ⟨b, o, none⟩ v).heap.size = w.heap.size := by simp [World.setCell]
    refine ⟨h.os, h.tape, h.output, by have := h.size; rw [hs] at this; exact this, fun k hk hne => ?_⟩
    exact (h.block k (by rw [hs]; exact hk) hne).trans (Below.heap_setCell w ⟨b, o, none⟩ v k (fun e => hne (by rw [e])))
theorem grown_drew (w : World) (row : Option Nat) : w.grownBy w.drew row := ⟨rfl, rfl, rfl, Nat.le_refl _, fun _ _ _ => rfl⟩
theorem grown_then {w w1 w2 : World} {row row2 : Option Nat} (h : w.grownBy w1 row) (g : w1.grownBy w2 row2) (hr : row2 = row ∨ ∃ b, row2 = some b ∧ w.heap.size ≤ b) : w.grownBy w2 row := by
  refine ⟨g.os.trans h.os, g.tape.trans h.tape, g.output.trans h.output, Nat.le_trans h.size g.size, fun k hk hne => ?_⟩
  refine (g.block k (Nat.lt_of_lt_of_le hk h.size) ?_).trans (h.block k hk hne)
  rcases hr with rfl | ⟨b, rfl, hb⟩
  · exact hne
  · intro e; injection e with e; omega

/-- two pieces put into a list, the second one behind the first one -/
theorem put_two {α : Type} (L vs ds : List α) (i : Nat) (h : i + vs.length + ds.length ≤ L.length) :
    let L1 := L.take i ++ vs ++ L.drop (i + vs.length)
    (L1.take (i + vs.length) ++ ds ++ L1.drop (i + vs.length + ds.length)).take (i + vs.length + ds.length) = L.take i ++ vs ++ ds := by
  intro L1
  have hl : (L.take i ++ vs).length = i + vs.length := by rw [List.length_append, List.length_take]; omega
  have e1 : L1.take (i + vs.length) = L.take i ++ vs := by
    show (L.take i ++ vs ++ L.drop (i + vs.length)).take (i + vs.length) = _
    rw [← hl, List.take_left]
  rw [e1]
  have h2 : (L.take i ++ vs ++ ds).length = i + vs.length + ds.length := by rw [List.length_append, hl]
  rw [← h2, List.take_left]
theorem put_two' {α : Type} (L vs ds : List α) (i : Nat) (h : i + vs.length + ds.length ≤ L.length) :
    let L1 := L.take (i + vs.length) ++ ds ++ L.drop (i + vs.length + ds.length)
    (L1.take i ++ vs ++ L1.drop (i + vs.length)).take (i + vs.length + ds.length) = L.take i ++ vs ++ ds := by
  intro L1
  have hl : (L.take (i + vs.length)).length = i + vs.length := by rw [List.length_take]; omega
  have e1 : L1.take i = L.take i := by
    show (L.take (i + vs.length) ++ ds ++ L.drop (i + vs.length + ds.length)).take i = _
    rw [List.append_assoc, List.take_append_of_le_length (by omega), List.take_take, Nat.min_eq_left (by omega)]
  have e2 : L1.drop (i + vs.length) = ds ++ L.drop (i + vs.length + ds.length) := by
    show (L.take (i + vs.length) ++ ds ++ L.drop (i + vs.length + ds.length)).drop (i + vs.length) = _
    rw [List.append_assoc]; exact List.drop_left' hl
  rw [e1, e2, ← List.append_assoc]
  have h2 : (L.take i ++ vs ++ ds).length = i + vs.length + ds.length := by rw [List.length_append, List.length_append, List.length_take]; omega
  rw [← h2, List.take_left]

theorem enc_one (xs : List ByteArray) : ∀ v ∈ encs Value.string xs, v.oneCell' = true := by
  intro v hv
  obtain ⟨x, _, rfl⟩ := List.mem_map.1 hv
  rfl
theorem own_at {w : World} {B n g cap : Nat} {xs : List ByteArray} (h : w.ownsRow B 9 1 (.slice (some ⟨g, 0, none⟩) n cap) n (encs Value.string xs)) : ∀ (j : Nat) (v : Value), (encs Value.string xs)[j]? = some v → w.cell? ⟨g, 0 + j, none⟩ = some v := by
  intro j v hj
  have := h.cells (g := g) rfl j v hj
  rw [add_plain] at this
  rw [Nat.zero_add]; exact this
theorem cur_some {w : World} {g : Nat} {t : TypeId} {cur : Array Value} (h : w.heap[g]? = some (.cells cur t (0, 0))) (k : Nat) (hk : k < cur.size) : (w.cell? ⟨g, 0 + k, none⟩).isSome = true := by
  rw [Nat.zero_add, blk_cell h, Array.getElem?_eq_getElem hk]; rfl

set_option maxHeartbeats 1000000 in
theorem insert_own (v V : Value) (B B2 i : Nat) (xs ys : List ByteArray) (w : World) (hv : w.ownsRow B 9 1 v xs.length (encs Value.string xs)) (hV : w.ownsRow B2 9 1 V ys.length (encs Value.string ys))
    (hne : ∀ k, v.ownBlock = some k → V.ownBlock ≠ some k) (hi : i ≤ xs.length) (hy : 0 < ys.length) (hsz : xs.length + ys.length ≤ 1000000000) (hB : B ≤ w.heap.size) :
    Calls Tryz.prog 8 #[v, .int .i64 (i : Int), V] w fun e w' => ∃ v', e = .returned v' ∧
      w'.ownsRow B 9 1 v' (xs.take i ++ ys ++ xs.drop i).length (encs Value.string (xs.take i ++ ys ++ xs.drop i)) ∧ w.grownBy w' v.ownBlock := by
  rcases hV.2 with ⟨_, h0⟩ | ⟨g2, vc, cur2, rfl, hb2, hh2, hn2, _, _, _⟩
  · omega
  have hys : (encs Value.string ys).length = ys.length := encs_length ys
  have hxs : (encs Value.string xs).length = xs.length := encs_length xs
  have hlen : (xs.take i ++ ys ++ xs.drop i).length = xs.length + ys.length := by simp; omega
  have henc : encs Value.string (xs.take i ++ ys ++ xs.drop i) = (encs Value.string xs).take i ++ encs Value.string ys ++ (encs Value.string xs).drop i := by simp [encs, List.map_take, List.map_drop]
  have hvs := own_at hV
  have hmx : maxLen = 9223372036854775807 := rfl
  have hdl : ((encs Value.string xs).drop i).length = xs.length - i := by rw [List.length_drop, hxs]
  have hzc : (Value.string ⟨#[]⟩ : Value).cells.size = 1 := rfl
  have hrt : Tryz.laysNm222_ren.t 9 = 9 := rfl
  rw [hlen, henc]
  rcases hv.2 with ⟨rfl, h0⟩ | ⟨g, cap, cur, rfl, hbase, hh, h1, h2, h3, h4⟩
  · have hnil : xs = [] := List.eq_nil_of_length_eq_zero h0
    subst hnil
    obtain rfl : i = 0 := by simpa using hi
    refine (Any2.slices_Insert_string_end_grow Tryz.laysNm222 none 0 0 g2 0 ys.length vc [] (encs Value.string ys) w hy (Nat.le_refl _) (by omega) (by simp at hsz; omega) rfl hys (fun _ => rfl) (fun a ha => by cases ha) hvs (enc_one ys)).mono ?_
    rintro e w' ⟨rfl, rfl⟩
    refine ⟨_, rfl, ⟨by simp [encs], Or.inr ⟨w.heap.size, _, _, by simp only [List.length_nil, Nat.zero_add]; rfl, hB, heap_alloc_new _ _, ?_, ?_, ?_, ?_⟩⟩, grown_then (grown_drew w _) (World.grownBy_alloc _ _ _) (Or.inl rfl)⟩
    · simpa [hrt] using grownCap_ge w ys.length 0 9
    · simpa [hrt] using grownCap_le_maxLen w ys.length 0 9 (by simp at hsz; omega)
    · have := grownCap_ge w ys.length 0 9
      simp only [Nat.zero_add, Array.size_append, List.size_toArray, List.nil_append, size_zeroCells, hzc, hys, hrt]
      show _ = grownCap w (ys.length) 0 9 * 1
      omega
    · simp [encs]
  · have hcs := own_at hv
    have hcz : cur.size = cap := by omega
    have hcl : cur.toList.length = cap := by rw [Array.length_toList]; exact hcz
    have h5 : cur.toList.take xs.length = encs Value.string xs := by rw [← h4, Nat.mul_one]
    by_cases hroom : xs.length + ys.length ≤ cap
    · rcases Nat.lt_or_ge i xs.length with hlt | hge
      · refine (Any2.slices_Insert_string_shift Tryz.laysNm222 g 0 xs.length cap i g2 0 ys.length vc (encs Value.string xs) (encs Value.string ys) w hlt hy hroom (by omega) (fun e => hne g rfl (by rw [e]; rfl)) hxs hys hcs
          (fun j hj => cur_some hh j (by omega)) (fun j _ => blk_frozen hh _) hvs (enc_one xs) (enc_one ys) 9 9 cur2.size cur.size (by simp [World.shape?, hh2]) (by simp [World.shape?, hh]) (by omega) (blk_frozen hh2 _) (blk_frozen hh2 _)).mono ?_
        rintro e w' ⟨rfl, rfl⟩
        obtain ⟨c1, e1, e2, e3⟩ := ins_blk g 9 ((encs Value.string xs).drop i) (0 + (i + ys.length)) cur w.drew hh (by rw [hdl]; omega)
        obtain ⟨c2, f1, f2, f3⟩ := ins_blk g 9 (encs Value.string ys) (0 + i) c1 _ e1 (by rw [hys]; omega)
        refine ⟨_, rfl, ⟨by simp [encs]; omega, Or.inr ⟨g, cap, c2, rfl, hbase, f1, hroom, h2, by omega, ?_⟩⟩, ?_⟩
        · have hp := put_two' cur.toList (encs Value.string ys) ((encs Value.string xs).drop i) i (by rw [hdl, hys, hcl]; omega)
          simp only [hys, hdl, Nat.zero_add] at hp e3 f3 ⊢
          rw [f3, e3, Nat.mul_one, show xs.length + ys.length = i + ys.length + (xs.length - i) from by omega, hp]
          congr 2
          rw [← h5, List.take_take, Nat.min_eq_left hi]
        · exact grown_then (grown_then (grown_drew w _) (ins_grown g _ _ _) (Or.inl rfl)) (ins_grown g _ _ _) (Or.inl rfl)
      · obtain rfl : i = xs.length := by omega
        refine (Any2.slices_Insert_string_end_room Tryz.laysNm222 g 0 xs.length cap g2 0 ys.length vc (encs Value.string ys) w hy hroom (by omega) hys (fun j hj => by rw [Nat.add_assoc]; exact cur_some hh _ (by omega)) (fun j _ => blk_frozen hh _) hvs (enc_one ys)).mono ?_
        rintro e w' ⟨rfl, rfl⟩
        obtain ⟨c2, f1, f2, f3⟩ := ins_blk g 9 (encs Value.string ys) (0 + xs.length) cur w hh (by rw [hys]; omega)
        refine ⟨_, rfl, ⟨by simp [encs], Or.inr ⟨g, cap, c2, rfl, hbase, f1, hroom, h2, by omega, ?_⟩⟩, ins_grown g _ _ _⟩
        rw [f3, Nat.zero_add, h5, Nat.mul_one, List.take_append_of_le_length (by rw [List.length_append, hxs, hys]; omega), List.take_of_length_le (by rw [List.length_append, hxs, hys]; omega)]
        rw [List.take_of_length_le (by omega), List.drop_of_length_le (by omega), List.append_nil]
    · have hgc := grownCap_ge w (xs.length + ys.length) cap 9
      have hgm := grownCap_le_maxLen w (xs.length + ys.length) cap 9 (by omega)
      rcases Nat.lt_or_ge i xs.length with hlt | hge
      · refine (Any2.slices_Insert_string_grow Tryz.laysNm222 g 0 xs.length cap i g2 0 ys.length vc (encs Value.string xs) (encs Value.string ys) w hlt hy h1 (by omega) (by omega) hxs hys hcs hvs (enc_one xs) (enc_one ys)).mono ?_
        rintro e w' ⟨rfl, rfl⟩
        generalize hO : (((encs Value.string xs).take i).toArray ++ Builtin.zeroCells (Value.string ⟨#[]⟩).cells (xs.length + ys.length - i) ++ Builtin.zeroCells (Value.string ⟨#[]⟩).cells (grownCap w (xs.length + ys.length) cap (Tryz.laysNm222_ren.t 9) - (xs.length + ys.length))) = O
        have hOs : O.size = grownCap w (xs.length + ys.length) cap 9 := by
          rw [← hO]
          simp only [Array.size_append, List.size_toArray, List.length_take, size_zeroCells, hzc, hxs]
          show _ + _ + (grownCap w (xs.length + ys.length) cap 9 - _) * 1 = _
          omega
        have hOl : O.toList.length = grownCap w (xs.length + ys.length) cap 9 := by rw [← hOs]; rfl
        have hOt : O.toList.take i = (encs Value.string xs).take i := by
          rw [← hO]
          simp only [Array.toList_append]
          rw [List.append_assoc, List.take_append_of_le_length (by simp [hxs]; omega), List.take_of_length_le (by simp; omega)]
        have hal : ((w.alloc (.cells O 9)).drew).heap[w.heap.size]? = some (.cells O 9 (0, 0)) := heap_alloc_new w _
        obtain ⟨c1, e1, e2, e3⟩ := ins_blk w.heap.size 9 (encs Value.string ys) i O _ hal (by rw [hys]; omega)
        obtain ⟨c2, f1, f2, f3⟩ := ins_blk w.heap.size 9 ((encs Value.string xs).drop i) (i + ys.length) c1 (((w.alloc (.cells O 9)).drew.setCells w.heap.size i (encs Value.string ys)).drew) e1 (by rw [hdl]; omega)
        refine ⟨_, rfl, ⟨by simp [encs]; omega, Or.inr ⟨w.heap.size, grownCap w (xs.length + ys.length) cap 9, c2, rfl, hB, f1, hgc, hgm, by omega, ?_⟩⟩, ?_⟩
        · have hp := put_two O.toList (encs Value.string ys) ((encs Value.string xs).drop i) i (by rw [hdl, hys, hOl]; omega)
          simp only [hys, hdl] at hp e3 f3 ⊢
          rw [f3, e3, Nat.mul_one, show xs.length + ys.length = i + ys.length + (xs.length - i) from by omega, hp, hOt]
        · exact grown_then (grown_then (grown_then (grown_then (World.grownBy_alloc w _ _) (grown_drew _ _) (Or.inl rfl)) (ins_grown w.heap.size _ _ _) (Or.inr ⟨_, rfl, Nat.le_refl _⟩)) (grown_drew _ _) (Or.inl rfl)) (ins_grown w.heap.size _ _ _) (Or.inr ⟨_, rfl, Nat.le_refl _⟩)
      · obtain rfl : i = xs.length := by omega
        refine (Any2.slices_Insert_string_end_grow Tryz.laysNm222 (some ⟨g, 0, none⟩) xs.length cap g2 0 ys.length vc (encs Value.string xs) (encs Value.string ys) w hy h1 (by omega) (by omega) hxs hys (fun h => by cases h) (fun a ha j u hj => by injection ha with ha; subst ha; have := hcs j u hj; rw [Nat.zero_add] at this; rw [add_plain]; exact this) hvs (enc_one ys)).mono ?_
        rintro e w' ⟨rfl, rfl⟩
        refine ⟨_, rfl, ⟨by simp [encs], Or.inr ⟨w.heap.size, _, _, rfl, hB, heap_alloc_new _ _, hgc, hgm, ?_, ?_⟩⟩, grown_then (grown_drew w _) (World.grownBy_alloc _ _ _) (Or.inl rfl)⟩
        · simp only [Array.size_append, List.size_toArray, List.length_append, size_zeroCells, hzc, hys, hxs]
          show _ + (grownCap w (xs.length + ys.length) cap 9 - _) * 1 = grownCap w (xs.length + ys.length) cap 9 * 1
          omega
        · simp only [Array.toList_append, Nat.mul_one]
          rw [List.take_append_of_le_length (by simp [hxs, hys]), List.take_of_length_le (by simp [hxs, hys]), List.take_of_length_le (by omega), List.drop_of_length_le (by omega), List.append_nil]
end Go.Proofs.YtkmoeeaaolpdnaaGreatDoor

namespace Go.Proofs.YtkmoeeaaolpdnaaGreatDoor
open Go.RowKit Go.Lib Go.Proofs.YtkmoeeaaolpdnaaGreatDoorW.PrintWords Go.Proofs.YtkmoeeaaolpdnaaGreatDoor.PTopFindsTwice Go.Proofs.YtkmoeeaaolpdnaaGreatDoor.GlobPlain

/-- two stars; a star -/
def dd : ByteArray := ⟨#[42, 42]⟩
def st : ByteArray := ⟨#[42]⟩
theorem ss_iff (p : ByteArray) : ss p = true ↔ p = dd := by
  unfold ss
  rw [ByteArray.toList_eq, beq_iff_eq]
  exact ⟨fun e => ba_ext e, fun e => by rw [e]; rfl⟩
theorem ss_dd : ss dd = true := (ss_iff _).2 rfl
theorem ss_st : ss st = false := by
  cases e : ss st with
  | false => rfl
  | true => exact absurd (congrArg ByteArray.size ((ss_iff _).1 e)) (by decide)
theorem mB_st (x : ByteArray) : mB st x = true := mB_true (GM_star _)

theorem mc_dd_nil (u : List ByteArray) : mc (dd :: u) [] = mc u [] := by rw [mc, if_pos ss_dd]
theorem mc_dd_cons (u : List ByteArray) (x : ByteArray) (r : List ByteArray) : mc (dd :: u) (x :: r) = (mc u (x :: r) || mc (dd :: u) r) := by rw [mc, if_pos ss_dd]
theorem mc_st_nil (u : List ByteArray) : mc (st :: u) [] = false := by rw [mc, if_neg (by rw [ss_st]; decide)]
theorem mc_st_cons (u : List ByteArray) (x : ByteArray) (r : List ByteArray) : mc (st :: u) (x :: r) = mc u r := by rw [mc, if_neg (by rw [ss_st]; decide), mB_st, Bool.true_and]

theorem mc_or {u v z : List ByteArray} (h : ∀ xs, mc u xs = (mc v xs || mc z xs)) : ∀ (a xs : List ByteArray), mc (a ++ u) xs = (mc (a ++ v) xs || mc (a ++ z) xs)
  | [], xs => h xs
  | p :: a, [] => by
    rw [List.cons_append, List.cons_append, List.cons_append, mc, mc, mc]
    cases ss p with
    | true => exact mc_or h a []
    | false => rfl
  | p :: a, x :: r => by
    rw [List.cons_append, List.cons_append, List.cons_append, mc, mc, mc]
    have h1 := mc_or h a (x :: r)
    have h2 := mc_or h (p :: a) r
    have h3 := mc_or h a r
    rw [List.cons_append, List.cons_append, List.cons_append] at h2
    cases ss p with
    | true =>
      simp only [if_true]
      rw [h1, h2]
      cases mc (a ++ v) (x :: r) <;> cases mc (a ++ z) (x :: r) <;> simp
    | false =>
      simp only [Bool.false_eq_true, if_false]
      rw [h3]
      cases mB p x <;> simp
termination_by a xs => a.length + xs.length
theorem mc_cong {u v : List ByteArray} (h : ∀ xs, mc u xs = mc v xs) (a xs : List ByteArray) : mc (a ++ u) xs = mc (a ++ v) xs := by
  have := mc_or (u := u) (v := v) (z := v) (fun xs => by rw [h xs, Bool.or_self]) a xs
  rw [Bool.or_self] at this
  exact this

theorem mc_part (u : List ByteArray) : ∀ xs, mc (dd :: u) xs = (mc u xs || mc (st :: dd :: u) xs)
  | [] => by rw [mc_dd_nil, mc_st_nil, Bool.or_false]
  | x :: r => by rw [mc_dd_cons, mc_st_cons]
theorem mc_twice (u : List ByteArray) : ∀ xs, mc (dd :: dd :: u) xs = mc (dd :: u) xs
  | [] => by rw [mc_dd_nil]
  | x :: r => by
    rw [mc_dd_cons, mc_twice u r, mc_dd_cons]
    cases mc u (x :: r) <;> cases mc (dd :: u) r <;> rfl
theorem mc_swap (u : List ByteArray) : ∀ xs, mc (st :: dd :: u) xs = mc (dd :: st :: u) xs
  | [] => by rw [mc_st_nil, mc_dd_nil, mc_st_nil]
  | x :: r => by rw [mc_st_cons, mc_dd_cons, mc_st_cons, ← mc_swap u r, mc_part u r]

/-- elements -/
def Els (l : List ByteArray) : Prop := ∀ x ∈ l, IsEl x.data.toList
theorem els_elts (p : ByteArray) : Els (elts p) := by
  intro x hx
  rw [elts_el] at hx
  obtain ⟨y, hy, rfl⟩ := List.mem_map.1 hx
  exact mem_el hy
theorem els_dd : IsEl dd.data.toList := ⟨by decide, by decide⟩
theorem els_st : IsEl st.data.toList := ⟨by decide, by decide⟩
theorem elts_back_of {l : List ByteArray} (h : Els l) : elts (pStr l) = l := by
  rw [elts_el, bl_pStr, el_path _ (by
    intro x hx
    obtain ⟨s, hs, rfl⟩ := List.mem_map.1 hx
    exact h s hs), map_ba]
theorem Els.app {a b : List ByteArray} (h : Els a) (g : Els b) : Els (a ++ b) := by
  intro x hx
  rcases List.mem_append.1 hx with hx | hx
  · exact h x hx
  · exact g x hx
theorem Els.take {l : List ByteArray} (h : Els l) (k : Nat) : Els (l.take k) := fun x hx => h x (List.mem_of_mem_take hx)
theorem Els.drop {l : List ByteArray} (h : Els l) (k : Nat) : Els (l.drop k) := fun x hx => h x (List.mem_of_mem_drop hx)
theorem Els.one_dd : Els [dd] := by intro x hx; rw [List.mem_singleton.1 hx]; exact els_dd
theorem Els.one_st : Els [st] := by intro x hx; rw [List.mem_singleton.1 hx]; exact els_st

theorem findP_of {T : List S104} {l q : List ByteArray} (hl : Els l) (hq : Els q) (h : ∀ xs, mc q xs = mc l xs) : findP T (pStr q) = findP T (pStr l) := by
  unfold findP
  rw [elts_back_of hl, elts_back_of hq]
  exact List.filter_congr fun x _ => by rw [h]

/-- where two stars stand, two more can stand -/
theorem law_twice {T : List S104} {l : List ByteArray} (hl : Els l) (k : Nat) (hk : k < l.length) (hs : ss l[k] = true) : findP T (pStr (l.take k ++ [dd] ++ l.drop k)) = findP T (pStr l) := by
  refine findP_of hl (((hl.take k).app Els.one_dd).app (hl.drop k)) fun xs => ?_
  have hd : l.drop k = dd :: l.drop (k + 1) := by rw [List.drop_eq_getElem_cons hk, (ss_iff _).1 hs]
  conv => rhs; rw [← List.take_append_drop k l]
  rw [List.append_assoc, hd]
  exact mc_cong (mc_twice _) _ _
/-- two stars, and a star behind them: they can change places -/
theorem law_swap {T : List S104} {l : List ByteArray} (hl : Els l) (k : Nat) (hk : k + 1 < l.length) (hs : ss l[k] = true) (ht : l[k + 1] = st) : findP T (pStr ((l.set k st).set (k + 1) dd)) = findP T (pStr l) := by
  have hd : l.drop k = dd :: st :: l.drop (k + 2) := by
    rw [List.drop_eq_getElem_cons (by omega), List.drop_eq_getElem_cons hk, (ss_iff _).1 hs, ht]
  have hlt : (l.take k).length = k := by rw [List.length_take]; omega
  have he : (l.set k st).set (k + 1) dd = l.take k ++ st :: dd :: l.drop (k + 2) := by
    conv => lhs; rw [← List.take_append_drop k l, hd]
    rw [List.set_append_right _ _ (by omega), hlt, Nat.sub_self, List.set_cons_zero, List.set_append_right _ _ (by omega), hlt, show k + 1 - k = 1 from by omega]
    rfl
  have hE : Els (l.take k ++ st :: dd :: l.drop (k + 2)) := by
    have := ((hl.take k).app Els.one_st).app (Els.one_dd.app (hl.drop (k + 2)))
    rw [List.append_assoc] at this
    exact this
  rw [he]
  refine findP_of hl hE fun xs => ?_
  conv => rhs; rw [← List.take_append_drop k l, hd]
  exact mc_cong (mc_swap _) _ _
/-- two stars put in find what is found without them, and with a star ahead of them -/
theorem law_part {T : List S104} {l : List ByteArray} (hl : Els l) (k : Nat) (x : ByteArray) :
    x ∈ [pStr l, pStr (l.take k ++ [st, dd] ++ l.drop k)].flatMap (findP T) ↔ x ∈ findP T (pStr (l.take k ++ [dd] ++ l.drop k)) := by
  have h1 : elts (pStr l) = l := elts_back_of hl
  have h2 := elts_back_of (((hl.take k).app Els.one_dd).app (hl.drop k))
  have h3 := elts_back_of (((hl.take k).app (Els.one_st.app Els.one_dd)).app (hl.drop k))
  rw [show [st] ++ [dd] = [st, dd] from rfl] at h3
  unfold findP
  simp only [List.flatMap_cons, List.flatMap_nil, List.append_nil, List.mem_append, List.mem_filter]
  rw [h1, h2, h3]
  have hm : ∀ xs, mc (l.take k ++ [dd] ++ l.drop k) xs = (mc l xs || mc (l.take k ++ [st, dd] ++ l.drop k) xs) := fun xs => by
    have := mc_or (mc_part (l.drop k)) (l.take k) xs
    rw [List.take_append_drop] at this
    rw [List.append_assoc, List.append_assoc]
    exact this
  rw [hm]
  simp only [Bool.not_not, Bool.or_eq_true]
  constructor
  · rintro (h | h)
    · exact ⟨h.1, Or.inl h.2⟩
    · exact ⟨h.1, Or.inr h.2⟩
  · rintro ⟨h, g | g⟩
    · exact Or.inl ⟨h, g⟩
    · exact Or.inr ⟨h, g⟩
end Go.Proofs.YtkmoeeaaolpdnaaGreatDoor

namespace Go.Proofs.YtkmoeeaaolpdnaaGreatDoor
set_option linter.unusedVariables false
open Go.RowKit Go.Proofs.YtkmoeeaaolpdnaaGreatDoorW.PrintWords Go.Proofs.YtkmoeeaaolpdnaaGreatDoor.PTopFindsTwice

theorem clone_own (v : Value) (B : Nat) (xs : List ByteArray) (w : World) (hv : w.ownsRow B 9 1 v xs.length (encs Value.string xs)) (hsz : xs.length ≤ 1000000000) :
    Calls Tryz.prog 9 #[v] w fun e w' => ∃ v', e = .returned v' ∧ w'.ownsRow w.heap.size 9 1 v' xs.length (encs Value.string xs) ∧ Below w.heap.size w w' := by
  rcases hv.2 with ⟨rfl, h0⟩ | ⟨g, cap, cur, rfl, _⟩
  · obtain rfl : xs = [] := List.eq_nil_of_length_eq_zero h0
    exact (Tryz.slices_Clone_string_nil 0 0 w).mono fun e w' ⟨he, hw⟩ => ⟨_, he, own_nil _ _ _ _, hw ▸ Below.refl _ _⟩
  · refine (Tryz.slices_Clone_string g 0 xs.length cap xs w (Nat.le_refl _) (by omega) (own_cellS hv rfl)).mono fun e w' ⟨v', he, ho, _, hb⟩ => ⟨v', he, ?_, hb⟩
    rw [List.take_length] at ho
    exact ho

def jn (l : List ByteArray) : ByteArray := ⟨(Lib.join (l.map (·.data.toList)) [47]).toArray⟩
theorem pStr_jn (l : List ByteArray) : pStr l = (⟨#[47]⟩ : ByteArray) ++ jn l := rfl
theorem join_le2 (l : List (List UInt8)) (h : ∀ s ∈ l, s.length ≤ 1048576) : (Lib.join l [47]).length ≤ 1048577 * l.length := by
  induction l with
  | nil => simp [Lib.join]
  | cons x l ih =>
    have hx := h x (by simp)
    have := ih fun s hs => h s (by simp [hs])
    cases l with
    | nil => simp [Lib.join]; omega
    | cons y l =>
      have e : Lib.join (x :: y :: l) [47] = x ++ ([47] ++ Lib.join (y :: l) [47]) := by simp [Lib.join, List.intercalate, List.intersperse]
      rw [e, List.length_append, List.length_append]
      simp only [List.length_cons, List.length_nil] at this ⊢
      omega
/-- rows that can be joined -/
def Fine (l : List ByteArray) : Prop := l.length ≤ 2000000 ∧ ∀ s ∈ l, s.size ≤ 1048576
theorem fine_elts (p : ByteArray) (hp : p.size ≤ 1048576) : Fine (elts p) ∧ (elts p).length ≤ 1048577 :=
  have h : (elts p).length ≤ 1048577 := Nat.le_trans (List.length_filter_le _ _) (by have := pcs_len p; omega)
  ⟨⟨by omega, fun s hs => by have := elts_size hs; omega⟩, h⟩
theorem jn_size {l : List ByteArray} (h : Fine l) : (Lib.join (l.map (·.data.toList)) [47]).length ≤ 140737488355328 ∧ (jn l).size ≤ 140737488355328 := by
  have hj := join_le2 (l.map (·.data.toList)) (by
    intro s hs
    obtain ⟨x, hx, rfl⟩ := List.mem_map.1 hs
    have := h.2 x hx
    have h2 : x.data.toList.length = x.size := Array.length_toList
    omega)
  rw [List.length_map] at hj
  have h1 := h.1
  have h3 : (Lib.join (l.map (·.data.toList)) [47]).length ≤ 140737488355328 := by omega
  exact ⟨h3, by have : (jn l).size = (Lib.join (l.map (·.data.toList)) [47]).length := by simp [jn, ByteArray.size]
                omega⟩
theorem join_own (v : Value) (B : Nat) (l : List ByteArray) (w : World) (hv : w.ownsRow B 9 1 v l.length (encs Value.string l)) (hl : Fine l) :
    Calls Tryz.prog 11 #[v, .string ⟨#[47]⟩] w fun e w' => e = .returned (.string (jn l)) ∧ Below w.heap.size w w' := by
  rcases hv.2 with ⟨rfl, h0⟩ | ⟨g, cap, cur, rfl, hb, hh, hnc, _, _, _⟩
  · obtain rfl : l = [] := List.eq_nil_of_length_eq_zero h0
    refine (Tryz.strings_Join_none none 0 ⟨#[47]⟩ _).mono fun e w' ⟨he, hw⟩ => ⟨he, hw ▸ Below.refl _ _⟩
  · have hc : ∀ (j : Nat) x, l[j]? = some x → w.cell? ⟨g, 0 + j, none⟩ = some (.string x) := by
      intro j x hx
      exact own_at hv j _ (by rw [encs, List.getElem?_map, hx]; rfl)
    have h1 := hl.1
    exact Tryz.strings_Join g 0 cap l ⟨#[47]⟩ w hc (blk_lt hh) (by omega) hnc (jn_size hl).1

set_option maxHeartbeats 1000000 in
set_option maxRecDepth 100000 in
theorem insert_none (A : Option Addr) (n c i : Nat) (w : World) (hi : i ≤ n) (hn : n ≤ c) (hc : c ≤ 9223372036854775807) :
    Calls Tryz.prog 8 #[.slice A n c, .int .i64 (i : Int), .slice none 0 0] w fun e w' => e = .returned (.slice A n c) ∧ Below w.heap.size w w' := by
  have h1 : (i : Int) ≤ (n : Int) := by omega
  have h2 : (i : Int) ≤ (c : Int) := by omega
  go_enter Tryz.func8, Tryz.ntmps8
  go_wp2
  all_goals
    go_ret
    exact ⟨rfl, Below.refl _ _⟩

/-- slices.Insert on a row of the call's own, of another row or of nothing -/
theorem insert_any (v V : Value) (B B2 i : Nat) (xs ys : List ByteArray) (w : World) (hv : w.ownsRow B 9 1 v xs.length (encs Value.string xs)) (hV : w.ownsRow B2 9 1 V ys.length (encs Value.string ys))
    (hne : ∀ k, v.ownBlock = some k → V.ownBlock ≠ some k) (hi : i ≤ xs.length) (hy : V = .slice none 0 0 ∨ 0 < ys.length) (hsz : xs.length + ys.length ≤ 1000000000) (hB : B ≤ w.heap.size) :
    Calls Tryz.prog 8 #[v, .int .i64 (i : Int), V] w fun e w' => ∃ v', e = .returned v' ∧
      w'.ownsRow B 9 1 v' (xs.take i ++ ys ++ xs.drop i).length (encs Value.string (xs.take i ++ ys ++ xs.drop i)) ∧ w.grownBy w' v.ownBlock := by
  rcases hy with rfl | hy
  · obtain rfl : ys = [] := by
      rcases hV.2 with ⟨_, h0⟩ | ⟨_, _, _, h, _⟩
      · exact List.eq_nil_of_length_eq_zero h0
      · cases h
    obtain ⟨A, c, rfl, hle, _⟩ := own_reads_of_le (d := (⟨#[]⟩ : ByteArray)) hv
    have hcm : c ≤ 9223372036854775807 := by
      rcases hv.2 with ⟨h, _⟩ | ⟨_, _, _, h, _, _, _, hm, _, _⟩
      · injection h with _ _ h; omega
      · injection h with _ _ h; subst h; exact hm
    refine (insert_none A xs.length c i w hi hle hcm).mono fun e w' ⟨he, hb⟩ => ⟨_, he, ?_, grown_of_below hb _⟩
    rw [List.append_nil, List.take_append_drop]
    exact pw_own_below hv hb
  · exact insert_own v V B B2 i xs ys w hv hV hne hi hy hsz hB

/-- a box that holds one value -/
theorem box_cell {w : World} {b : Nat} {x : Value} {t : TypeId} (h : w.heap[b]? = some (.cells #[x] t (0, 0))) : w.cell? ⟨b, 0, none⟩ = some x := (blk_cell h 0).trans rfl
theorem box_grown {w w1 : World} {b : Nat} {x : Value} {t : TypeId} {row : Option Nat} (h : w.heap[b]? = some (.cells #[x] t (0, 0))) (hg : w.grownBy w1 row) (hne : some b ≠ row) : w1.heap[b]? = some (.cells #[x] t (0, 0)) := blk_grown h hg hne

set_option maxHeartbeats 4000000 in
set_option maxRecDepth 100000 in
theorem with_calls (b1 b2 : Nat) (v V : Value) (B B2 k : Nat) (l ys : List ByteArray) (w : World) (hx1 : w.heap[b1]? = some (.cells #[v] 25 (0, 0))) (hx2 : w.heap[b2]? = some (.cells #[.int .i64 (k : Int)] 3 (0, 0)))
    (hv : w.ownsRow B 9 1 v l.length (encs Value.string l)) (hV : w.ownsRow B2 9 1 V ys.length (encs Value.string ys)) (hk : k ≤ l.length) (hy : V = .slice none 0 0 ∨ 0 < ys.length) (hl : Fine l) (hf : Fine (l.take k ++ ys ++ l.drop k)) :
    Calls Tryz.prog 12 #[V, .pointer (some ⟨b1, 0, none⟩), .pointer (some ⟨b2, 0, none⟩)] w fun e w' => e = .returned (.string (pStr (l.take k ++ ys ++ l.drop k))) ∧ Below w.heap.size w w' := by
  have HCL := Aside0.mk (clone_own v B l w.drew (pw_own_below hv (below_drew (Below.refl _ _))) (by have := hl.1; omega))
  have HIN : Aside0 (∀ (W : World) (v1 : Value), Below w.heap.size w W → W.ownsRow w.heap.size 9 1 v1 l.length (encs Value.string l) → Calls Tryz.prog 8 #[v1, .int .i64 (k : Int), V] W fun e w' => ∃ v', e = .returned v' ∧
      w'.ownsRow w.heap.size 9 1 v' (l.take k ++ ys ++ l.drop k).length (encs Value.string (l.take k ++ ys ++ l.drop k)) ∧ Below w.heap.size w w') := ⟨fun W v1 hW ho => by
    refine (insert_any v1 V w.heap.size B2 k l ys W ho (pw_own_below hV hW) (fun q hq e => by have h1 := own_base ho q hq; have h2 := own_lt hV q e; omega) hk hy (by have := hl.1; have := hf.1; simp at this; omega) hW.size).mono ?_
    rintro e w' ⟨v', he, ho', hg⟩
    exact ⟨v', he, ho', pw_below_grown hW _ hW.size hg (fun q hq => own_base ho q hq)⟩⟩
  have HJN : Aside0 (∀ (W : World) (v2 : Value), W.ownsRow w.heap.size 9 1 v2 (l.take k ++ ys ++ l.drop k).length (encs Value.string (l.take k ++ ys ++ l.drop k)) → Calls Tryz.prog 11 #[v2, .string ⟨#[47]⟩] W fun e w' => e = .returned (.string (jn (l.take k ++ ys ++ l.drop k))) ∧ Below W.heap.size W w') :=
    ⟨fun W v2 ho => join_own v2 _ _ W ho hf⟩
  have hjs := (jn_size hf).2
  have HPS := Aside0.mk (pStr_jn (l.take k ++ ys ++ l.drop k))
  have hc1 := box_cell hx1
  have hc2 := box_cell hx2
  obtain ⟨Av, cv, rfl⟩ := own_slice hv
  obtain ⟨A2, c2, rfl⟩ := own_slice hV
  have HLN := Aside0.mk (rfl : (l.take k ++ ys ++ l.drop k) = (l.take k ++ ys ++ l.drop k))
  clear hx1 hx2 hv hV hf hl hy
  generalize (l.take k ++ ys ++ l.drop k) = qs at *
  generalize jn qs = js at *
  have hz : ¬ 9223372036854775807 < 1 + js.size := by omega
  go_enter Tryz.func12, Tryz.ntmps12
  go_wp2_with fail
  go_region_held3 (fun w' => w'.cell? ⟨b1, 0, none⟩ = some (.slice Av l.length cv) ∧ w'.cell? ⟨b2, 0, none⟩ = some (.int .i64 (k : Int)))
    (first
      | exact HCK3.out
      | exact HCK2.out
      | exact HCK.out
      | go_keep)
    (first
      | (go_at_call 9; refine HCL.out.mono ?_; rintro e w1 ⟨v1, rfl, ho1, hb1⟩; have HB1 := Aside0.mk (below_then (below_drew (Below.refl w.heap.size w)) (Nat.le_refl _) hb1); have HO1 := Aside0.mk ho1; have HCK := Aside0.mk (And.intro (pw_cell_below HB1.out hc1) (pw_cell_below HB1.out hc2)); obtain ⟨A1, c1, rfl⟩ := own_slice ho1; clear ho1 hb1)
      | (go_at_call 8; refine (HIN.out _ _ HB1.out HO1.out).mono ?_; rintro e w3 ⟨v3, rfl, ho3, hb3⟩; have HB3 := Aside0.mk hb3; have HO3 := Aside0.mk ho3; have HCK2 := Aside0.mk (And.intro (pw_cell_below hb3 hc1) (pw_cell_below hb3 hc2)); obtain ⟨A3, c3, rfl⟩ := own_slice ho3; clear ho3 hb3)
      | (go_at_call 11; refine (HJN.out _ _ HO3.out).mono ?_; rintro e w4 ⟨rfl, hb4⟩; have HB4 := Aside0.mk (below_then HB3.out HB3.out.size hb4); have HCK3 := Aside0.mk (And.intro (pw_cell_below HB4.out hc1) (pw_cell_below HB4.out hc2)); clear hb4)
      | fail)
  all_goals
    go_wp2
    go_ret
    exact ⟨by rw [HPS.out]; first | rfl | skip, HB4.out⟩
end Go.Proofs.YtkmoeeaaolpdnaaGreatDoor

namespace Go.Proofs.YtkmoeeaaolpdnaaGreatDoor
open Go.RowKit Go.Proofs.YtkmoeeaaolpdnaaGreatDoorW.PrintWords GlobPlain

theorem u64_nonneg (x : Int) : 0 ≤ IntKind.u64.wrap x := by rw [IntKind.wrap_u64]; omega
/-- which of n -/
def pickV (x : Int) (n : Nat) : Nat := (IntKind.u64.wrap x).toNat % n
theorem pickV_lt (x : Int) (n : Nat) (h : 0 < n) : pickV x n < n := Nat.mod_lt _ h

set_option maxHeartbeats 1000000 in
set_option maxRecDepth 100000 in
theorem pick_val (x : Int) (n : Nat) (w : World) (h0 : 0 < n) (h1 : n ≤ 4611686018427387904) :
    Calls Tryz.prog 7 #[.int .i64 x, .int .i64 (n : Int)] w fun e w' => e = .returned (.int .i64 (pickV x n : Int)) ∧ w = w' := by
  have hu := u64_nonneg x
  have HN := Aside0.mk (IntWalk.u64_in (n : Int) (by omega))
  have hz : ((IntKind.u64.wrap (n : Int)) == 0) = false := by rw [HN.out, beq_eq_false_iff_ne]; omega
  have hz2 : ¬ IntKind.u64.wrap (n : Int) = 0 := by rw [HN.out]; omega
  have HF : Aside0 (wrap64 (Int.tmod (IntKind.u64.wrap x) (IntKind.u64.wrap (n : Int))) = (pickV x n : Int)) := by
    refine ⟨?_⟩
    rw [HN.out]
    unfold pickV
    generalize IntKind.u64.wrap x = X at *
    obtain ⟨m, rfl⟩ := Int.eq_ofNat_of_zero_le hu
    have e : Int.tmod (m : Int) (n : Int) = ((m % n : Nat) : Int) := by rw [Int.tmod_eq_emod_of_nonneg (by omega)]; simp
    rw [e, Int.toNat_natCast]
    have := Nat.mod_lt m h0
    unfold wrap64; omega
  clear hu h0 h1
  go_enter Tryz.func7, Tryz.ntmps7
  go_wp2
  go_ret
  exact ⟨by rw [← HF.out]; rfl, rfl⟩

theorem pick_calls (x : Int) (n : Nat) (w : World) (h0 : 0 < n) (h1 : n ≤ 4611686018427387904) :
    Calls Tryz.prog 7 #[.int .i64 x, .int .i64 (n : Int)] w fun e w' => (∃ r : Nat, r < n ∧ e = .returned (.int .i64 r)) ∧ w = w' :=
  (pick_val x n w h0 h1).mono fun _ _ ⟨he, hw⟩ => ⟨⟨_, pickV_lt x n h0, he⟩, hw⟩
theorem pick_two (x : Int) : (∀ w, Calls Tryz.prog 7 #[.int .i64 x, .int .i64 2] w fun e w' => e = .returned (.int .i64 0) ∧ w = w') ∨ (∀ w, Calls Tryz.prog 7 #[.int .i64 x, .int .i64 2] w fun e w' => e = .returned (.int .i64 1) ∧ w = w') := by
  have h := pickV_lt x 2 (by omega)
  have hc : pickV x 2 = 0 ∨ pickV x 2 = 1 := by omega
  rcases hc with hc | hc
  · refine Or.inl fun w => (pick_val x 2 w (by omega) (by omega)).mono fun _ _ ⟨he, hw⟩ => ⟨?_, hw⟩
    rw [hc] at he; exact he
  · refine Or.inr fun w => (pick_val x 2 w (by omega) (by omega)).mono fun _ _ ⟨he, hw⟩ => ⟨?_, hw⟩
    rw [hc] at he; exact he

end Go.Proofs.YtkmoeeaaolpdnaaGreatDoor
