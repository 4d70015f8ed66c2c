/-
 The walk of TopFindsMatched: it returns true. Conditions: the pattern has at most 1048576 bytes; the tree is not beyond a bound; the library's variable MaxLen holds a number.
 The walk of TopFindsMatched: it returns true. Conditions: the pattern has at most 1048576 bytes; the tree is not beyond a bound; the library's variable MaxLen holds a number.
-/
import Derived.Test.YtkmoeeaaolpdnaaDoorMH
namespace Go.Proofs.YtkmoeeaaolpdnaaDoor
open Go.RowKit Go.Sort Go.Proofs.YtkmoeeaaolpdnaaDoorW.PrintWords Go.Proofs.YtkmoeeaaolpdnaaDoor.PTopFindsMatched

/-- element by element -/
noncomputable def mm : List ByteArray → List ByteArray → Bool
  | [], [] => true
  | p :: ps, x :: xs => mB p x && mm ps xs
  | _, _ => false
theorem mc_mm : ∀ (ps xs : List ByteArray), (∀ p ∈ ps, ss p = false) → mc ps xs = mm ps xs
  | [], [], _ => by rw [mc, mm]; rfl
  | [], x :: xs, _ => by rw [mc, mm] <;> simp
  | p :: ps, [], h => by rw [mc, if_neg (by simp [h p (by simp)]), mm] <;> simp
  | p :: ps, x :: xs, h => by rw [mc, if_neg (by simp [h p (by simp)]), mm, mc_mm ps xs fun q hq => h q (by simp [hq])]
theorem mm_len : ∀ {ps xs : List ByteArray}, ps.length ≠ xs.length → mm ps xs = false
  | [], [], h => absurd rfl h
  | [], x :: xs, _ => by rw [mm] <;> simp
  | p :: ps, [], _ => by rw [mm] <;> simp
  | p :: ps, x :: xs, h => by rw [mm, mm_len (ps := ps) (xs := xs) (by simpa using h)]; simp
theorem mm_all : ∀ {ps xs : List ByteArray} (hl : ps.length = xs.length), (∀ (k : Nat) (h : k < ps.length), mB ps[k] (xs[k]'(by omega)) = true) → mm ps xs = true
  | [], [], _, _ => by rw [mm]
  | [], x :: xs, h, _ => absurd h (by simp)
  | p :: ps, [], h, _ => absurd h (by simp)
  | p :: ps, x :: xs, hl, h => by
    rw [mm, mm_all (ps := ps) (xs := xs) (by simpa using hl) fun k hk => h (k + 1) (by simpa using hk)]
    have := h 0 (by simp)
    simp only [List.getElem_cons_zero] at this
    rw [this]; rfl
theorem mm_some : ∀ {ps xs : List ByteArray} (k : Nat) (h1 : k < ps.length) (h2 : k < xs.length), mB ps[k] xs[k] = false → mm ps xs = false
  | p :: ps, x :: xs, 0, _, _, h => by
    simp only [List.getElem_cons_zero] at h
    rw [mm, h]; rfl
  | p :: ps, x :: xs, k + 1, h1, h2, h => by
    rw [mm, mm_some (ps := ps) (xs := xs) k (by simpa using h1) (by simpa using h2) h]; simp

theorem findP_mm {T : List S87} {p : ByteArray} (hV : Valid T) (hs : Small T) (h : ∀ q ∈ elts p, ss q = false) : findP T p = (allP T).filter fun x => mm (elts p) (elts x) := by
  unfold findP
  apply List.filter_congr
  intro x hx
  obtain ⟨l, rfl, h1, _⟩ := allP_mem hV hs hx
  rw [comps_pStr h1, elts_pStr h1, mc_mm _ _ h]
  simp

theorem contains_none {zs : List ByteArray} (h : Lib.containsS zs ⟨#[42, 42]⟩ = false) : ∀ q ∈ zs, ss q = false := by
  intro q hq
  cases e : ss q with
  | false => rfl
  | true =>
    exfalso
    unfold ss at e
    rw [ByteArray.toList_eq, beq_iff_eq] at e
    have : q = ⟨#[42, 42]⟩ := ba_ext e
    subst this
    have := (Lib.containsS_iff _ _).2 hq
    rw [h] at this
    cases this
theorem containsS_calls (v : Value) (B : Nat) (xs : List ByteArray) (w : World) (hv : w.ownsRow B 9 1 v xs.length (encs Value.string xs)) (hsz : xs.length ≤ 1000000000) :
    Calls Tryd.prog 10 #[v, .string ⟨#[42, 42]⟩] w fun e w' => e = .returned (.bool (Lib.containsS xs ⟨#[42, 42]⟩)) ∧ w = w' := by
  rcases hv.2 with ⟨rfl, h0⟩ | ⟨g, cap, cur, rfl, _, _, _, _, _, _⟩
  · obtain rfl : xs = [] := List.eq_nil_of_length_eq_zero h0
    exact (Tryd.slices_Contains_string_empty none 0 ⟨#[42, 42]⟩ w).mono fun e w' ⟨he, hw⟩ => ⟨he, hw.symm⟩
  · refine (Tryd.slices_Contains_string g 0 xs.length cap xs ⟨#[42, 42]⟩ w (Nat.le_refl _) (by omega) (own_cellS hv rfl)).mono ?_
    rintro e w' ⟨he, hw⟩
    rw [List.take_length] at he
    exact ⟨he, hw.symm⟩
end Go.Proofs.YtkmoeeaaolpdnaaDoor

namespace Go.Proofs.YtkmoeeaaolpdnaaDoor
open Go.RowKit Go.Sort Go.Proofs.YtkmoeeaaolpdnaaDoorW.PrintWords Go.Proofs.YtkmoeeaaolpdnaaDoor.PTopFindsMatched
set_option linter.unusedVariables false

theorem rdS_get (xs : List ByteArray) (k : Nat) (h : k < xs.length) : rdOf (⟨#[]⟩ : ByteArray) xs (k : Int) = xs[k] := by
  unfold rdOf; rw [Int.toNat_natCast, List.getD_eq_getElem?_getD, List.getElem?_eq_getElem h]; rfl
theorem mm_all2 {ps xs : List ByteArray} (hl : ps.length = xs.length) (h : ∀ t : Nat, t < ps.length → mB (rdOf (⟨#[]⟩ : ByteArray) ps (t : Int)) (rdOf (⟨#[]⟩ : ByteArray) xs (t : Int)) = true) : mm ps xs = true :=
  mm_all hl fun k hk => by
    have := h k hk
    rwa [rdS_get ps k hk, rdS_get xs k (by omega)] at this
theorem mm_some2 {ps xs : List ByteArray} (hl : ps.length = xs.length) (t : Nat) (ht : t < ps.length) (h : mB (rdOf (⟨#[]⟩ : ByteArray) ps (t : Int)) (rdOf (⟨#[]⟩ : ByteArray) xs (t : Int)) = false) : mm ps xs = false :=
  mm_some t ht (by omega) (by rwa [rdS_get ps t ht, rdS_get xs t (by omega)] at h)
theorem two_far {w : World} {g : Nat} {a b u v x y : Value} {p q : Addr} (h : Two w g a b) (hp : w.cell? p = some x) (hq : w.cell? q = some y) (np : p.block ≠ g) (nq : q.block ≠ g) :
    ((w.setCell ⟨g, 0, none⟩ u).setCell ⟨g, 1, none⟩ v).cell? p = some x ∧ ((w.setCell ⟨g, 0, none⟩ u).setCell ⟨g, 1, none⟩ v).cell? q = some y := by
  have e : ∀ r : Addr, r.block ≠ g → ((w.setCell ⟨g, 0, none⟩ u).setCell ⟨g, 1, none⟩ v).cell? r = w.cell? r := fun r hr =>
    World.cell?_of_block ((Below.heap_setCell _ ⟨g, 1, none⟩ _ r.block hr).trans (Below.heap_setCell _ ⟨g, 0, none⟩ _ r.block hr))
  exact ⟨(e p np).trans hp, (e q nq).trans hq⟩
theorem filter_in {f : ByteArray → Bool} {l : List ByteArray} {k : Nat} (hk : k < l.length) (h : f l[k] = true) : (l.take (k + 1)).filter f = (l.take k).filter f ++ [l[k]] := by
  rw [List.take_succ_eq_append_getElem hk, List.filter_append]; simp [h]
theorem filter_out {f : ByteArray → Bool} {l : List ByteArray} {k : Nat} (hk : k < l.length) (h : f l[k] = false) : (l.take (k + 1)).filter f = (l.take k).filter f := by
  rw [List.take_succ_eq_append_getElem hk, List.filter_append]; simp [h]

set_option maxHeartbeats 8000000 in
set_option maxRecDepth 100000 in
theorem matched_walk (A : Option Addr) (c : Nat) (T : List S87) (p : ByteArray) (w : World) (hT : Kd.C k87 w A T.length T) (hc : T.length ≤ c) (hTm : T.length ≤ 1000000000) (hsm : Small T) (hp : p.size ≤ 1048576)
    (hm : ∃ m, w.cell? ⟨0, 0, none⟩ = some (.int .i64 m)) :
    Calls Tryd.prog 4 #[.agg #[.slice A T.length c], .string p] w fun e w' => e = .returned (.bool true) ∧ Below w.heap.size w w' := by
  obtain ⟨m, hm⟩ := hm
  have HSM := Aside0.mk hsm
  have HB0 := Aside0.mk (below_alloc (Below.refl w.heap.size w) (.cells #[.slice A T.length c] 27))
  have HTB := Aside0.mk (TBox.new w A T.length c)
  have HFC : Aside0 (∀ (W : World), Below w.heap.size w W → Calls Tryd.prog 11 #[.agg #[.slice A T.length c], .string p] W fun e w' => FindAns W.heap.size T p e w' ∧ Below W.heap.size W w') := ⟨fun W hW => find_calls A c T p m W (Kd.C_below hT hW) hc hTm hsm (pw_cell_below hW hm)⟩
  have HAC : Aside0 (∀ (W : World), Below w.heap.size w W → Calls Tryd.prog 12 #[.agg #[.slice A T.length c]] W fun e w' => AllAns W.heap.size T e w' ∧ Below W.heap.size W w') := ⟨fun W hW => allpaths_calls A c T W (Kd.C_below hT hW) hc hTm hsm⟩
  have HPC : Aside0 (∀ (W : World) (s : ByteArray), Below w.heap.size w W → s.size ≤ 1048576 → Calls Tryd.prog 9 #[.string s] W fun e w' => ∃ v, e = .returned v ∧ w'.ownsRow W.heap.size 9 1 v (elts s).length (encs Value.string (elts s)) ∧ Below W.heap.size W w') := ⟨fun W s hW hs => parts_calls s m W hs (pw_cell_below hW hm)⟩
  clear hT hsm hm
  go_enter Tryd.func4, Tryd.ntmps4
  go_wp2_with fail
  refine (globs_calls _).mono ?_
  rintro e w1 ⟨rfl, hb1⟩
  have HB1 := Aside0.mk (below_then HB0.out HB0.out.size hb1)
  have HTB1 := Aside0.mk (HTB.out.below hb1)
  clear hb1 HB0 HTB
  go_wp2_with fail
  refine (HPC.out _ p HB1.out hp).mono ?_
  rintro e w2 ⟨vl, rfl, hol, hb2⟩
  have HB2 := Aside0.mk (below_then HB1.out HB1.out.size hb2)
  have HTB2 := Aside0.mk (HTB1.out.below hb2)
  have HOL := Aside0.mk hol
  have hlp : (elts p).length ≤ 1048577 := Nat.le_trans (List.length_filter_le _ _) (by have := pcs_len p; omega)
  have HCT := Aside0.mk (containsS_calls _ _ _ _ hol (by omega))
  clear hb2 hol HB1 HTB1
  go_wp2_with fail
  refine HCT.out.mono ?_
  rintro e w3 ⟨rfl, rfl⟩
  clear HCT
  cases hct : Lib.containsS (elts p) ⟨#[42, 42]⟩ with
  | true =>
    clear hct
    go_wp2
    go_ret
    exact ⟨rfl, HB2.out⟩
  | false =>
    have HNS := Aside0.mk (contains_none hct)
    have ht2 := HTB2.out.cell
    clear hct
    go_wp2_with fail
    refine (HFC.out _ HB2.out).mono ?_
    rintro e w3 ⟨⟨vg, cd, ix, rfl, ha⟩, hb3⟩
    have HB3 := Aside0.mk (below_then HB2.out HB2.out.size hb3)
    have HTB3 := Aside0.mk (HTB2.out.below hb3)
    have HOL3 := Aside0.mk (pw_own_below HOL.out hb3)
    clear hb3 HB2 HTB2 HOL ht2
    rcases ha with ⟨rfl, hok, ho⟩ | ⟨hcd, _, rfl⟩
    · have HOK := Aside0.mk hok
      have HFM := Aside0.mk (findP_mm hok.1 HSM.out HNS.out)
      have hpz : p.size ≤ 100 := hok.2.1
      have HB4 := Aside0.mk (below_then HB3.out HB3.out.size (below_alloc (Below.refl w3.heap.size w3) (.cells #[.int .i64 0, .int .i64 ix] 33)))
      have HT4 := Aside0.mk (Two.new w3 (.int .i64 0) (.int .i64 ix))
      have HTB4 := Aside0.mk (HTB3.out.below (below_alloc (Below.refl w3.heap.size w3) (.cells #[.int .i64 0, .int .i64 ix] 33)))
      have HOL4 := Aside0.mk (pw_own_below HOL3.out (below_alloc (Below.refl w3.heap.size w3) (.cells #[.int .i64 0, .int .i64 ix] 33)))
      have HOG4 := Aside0.mk (pw_own_below ho (below_alloc (Below.refl w3.heap.size w3) (.cells #[.int .i64 0, .int .i64 ix] 33)))
      have HGL := Aside0.mk (fun k hk => own_lt ho k hk)
      have HLL := Aside0.mk (fun k hk => own_lt HOL3.out k hk)
      have ht3 := HTB4.out.cell
      have hbx3 := HTB3.out.lt
      clear hok ho HB3 HTB3 HOL3
      go_wp2_with fail
      refine (HAC.out _ HB4.out).mono ?_
      rintro e w5 ⟨⟨va, cd2, ix2, rfl, ha2⟩, hb5⟩
      rcases ha2 with ⟨rfl, rfl, _, hoa⟩ | ⟨_, hnv, _⟩
      · have s4 : (w3.alloc (.cells #[.int .i64 0, .int .i64 ix] 33)).heap.size = w3.heap.size + 1 := World.size_alloc _ _
        have T5 := HT4.out.below hb5
        obtain ⟨⟨ct0, ct1⟩, gt0, gt1⟩ := T5.cells
        rw [s4] at hoa
        obtain ⟨Aa, ca, rfl⟩ := own_slice hoa
        have hb4 := HB4.out
        have hgl : ∀ k, vg.ownBlock = some k → k < w3.heap.size := HGL.out
        have hll : ∀ k, vl.ownBlock = some k → k < w3.heap.size := HLL.out
        have hal : ∀ k, (Value.slice Aa (allP T).length ca).ownBlock = some k → w3.heap.size + 1 ≤ k := fun k hk => own_base hoa k hk
        have hlt5 : w3.heap.size < w5.heap.size := T5.lt
        have HW : Aside0 (∃ W6 : World, W6 = (w5.setCell ⟨w3.heap.size, 0, none⟩ (.int .i64 0)).setCell ⟨w3.heap.size, 1, none⟩ (.int .i64 0) ∧ Below w.heap.size w W6 ∧ TBox W6 w.heap.size A T.length c ∧
            W6.ownsRow w1.heap.size 9 1 vl (elts p).length (encs Value.string (elts p)) ∧ W6.ownsRow w2.heap.size 9 1 vg (findP T p).length (encs Value.string (findP T p)) ∧
            W6.ownsRow (w3.heap.size + 1) 9 1 (.slice Aa (allP T).length ca) (allP T).length (encs Value.string (allP T)) ∧ w3.heap.size < W6.heap.size) := ⟨_, rfl,
          Two.upper (below_then HB4.out HB4.out.size hb5) (by omega),
          ⟨blk_far (blk_far (HTB4.out.below hb5).blk (p := ⟨w3.heap.size, 0, none⟩) (by show w.heap.size ≠ w3.heap.size; omega) _) (p := ⟨w3.heap.size, 1, none⟩) (by show w.heap.size ≠ w3.heap.size; omega) _⟩,
          own_setCell (p := ⟨w3.heap.size, 1, none⟩) (own_setCell (p := ⟨w3.heap.size, 0, none⟩) (pw_own_below HOL4.out hb5) (fun e => by have h : w3.heap.size < w3.heap.size := hll _ e.symm; omega) _) (fun e => by have h : w3.heap.size < w3.heap.size := hll _ e.symm; omega) _,
          own_setCell (p := ⟨w3.heap.size, 1, none⟩) (own_setCell (p := ⟨w3.heap.size, 0, none⟩) (pw_own_below HOG4.out hb5) (fun e => by have h : w3.heap.size < w3.heap.size := hgl _ e.symm; omega) _) (fun e => by have h : w3.heap.size < w3.heap.size := hgl _ e.symm; omega) _,
          own_setCell (p := ⟨w3.heap.size, 1, none⟩) (own_setCell (p := ⟨w3.heap.size, 0, none⟩) hoa (fun e => by have h : w3.heap.size + 1 ≤ w3.heap.size := hal _ e.symm; omega) _) (fun e => by have h : w3.heap.size + 1 ≤ w3.heap.size := hal _ e.symm; omega) _,
          by simpa [World.setCell] using hlt5⟩
        have hpl : (allP T).length ≤ 1000 := by
          have := (HOK.out.1.sound HSM.out).few (HOK.out.1.good HSM.out) TreePlain.Reach.root (T.length + 1)
          rw [allP_len]
          simpa [pths, VS] using this
        clear T5 hoa hb4 hgl hll hal hb5 HB4 HTB4 HOL4 HOG4 HT4
        go_wp2_with fail
        obtain ⟨W6, hW6, hb6, htb6, hol6, hog6, hoa6, hlt6⟩ := HW.out
        rw [← hW6]
        clear hW6 HW ct0 ct1 gt0 gt1
        have HB6 := Aside0.mk hb6
        have HTB6 := Aside0.mk htb6
        have HOL6 := Aside0.mk hol6
        have HOG6 := Aside0.mk hog6
        have HOA6 := Aside0.mk hoa6
        clear hb6 htb6 hol6 hog6 hoa6 hlt5
        obtain ⟨Al, cl, rfl⟩ := own_slice HOL6.out
        go_loopw [9, 45] (fun vw i wr => ∃ k : Nat, k ≤ (allP T).length ∧ i = .int .i64 k ∧ Aside0 (wr.ownsRow W6.heap.size 9 1 vw (((allP T).take k).filter fun x => mm (elts p) (elts x)).length (encs Value.string (((allP T).take k).filter fun x => mm (elts p) (elts x)))) ∧ Aside0 (Below W6.heap.size W6 wr)) (fun _ i _ => (allP T).length - (intOf i).toNat)
        case atStart => exact ⟨0, Nat.zero_le _, rfl, ⟨own_nil _ _ _ _⟩, ⟨Below.refl _ _⟩⟩
        case round =>
          obtain ⟨k, hk, rfl, HOW, HBW⟩ := hrel
          have HBA := Aside0.mk (below_then HB6.out HB6.out.size HBW.out)
          by_cases hlt : k < (allP T).length
          · obtain ⟨_, _, e0, hra⟩ := own_reads_of (d := (⟨#[]⟩ : ByteArray)) (pw_own_below HOA6.out HBW.out)
            injection e0 with e1 e2 e3
            subst e1
            obtain ⟨ad, rfl, hcx⟩ := hra.at_ (k : Int) (Int.natCast_nonneg _) (by omega)
            rw [rdS_get _ _ hlt, Int.toNat_natCast] at hcx
            clear hra e3
            have hlz : (k : Int) < ((allP T).length : Int) := by omega
            have HFI := Aside0.mk (fun h => filter_in (f := fun x => mm (elts p) (elts x)) hlt h)
            have HFO := Aside0.mk (fun h => filter_out (f := fun x => mm (elts p) (elts x)) hlt h)
            have HXM := Aside0.mk (allP_mem HOK.out.1 HSM.out (List.getElem_mem hlt))
            have HWL := Aside0.mk (show (((allP T).take k).filter fun x => mm (elts p) (elts x)).length ≤ 1000 from Nat.le_trans (List.length_filter_le _ _) (by rw [List.length_take]; omega))
            generalize (allP T)[k] = x at *
            have HXS := Aside0.mk (show x.size ≤ 1048576 ∧ (elts x).length ≤ 40 ∧ ∀ s ∈ elts x, s.size ≤ 100 from by
              obtain ⟨l, rfl, h1, h2⟩ := HXM.out
              have h3 := pStr_size l h2 h1
              rw [elts_pStr h1]
              exact ⟨by omega, h2, fun s hs => by have := (vName_facts (h1 s hs)).2.1; omega⟩)
            obtain ⟨hxs, hxl, hxe⟩ := HXS.out
            have HXE := Aside0.mk hxe
            clear HXM HXS hxe
            go_wp2_with fail
            refine (HPC.out _ x HBA.out hxs).mono ?_
            rintro e w7 ⟨vc, rfl, hoc, hb7⟩
            have HBW7 := Aside0.mk (below_then HBW.out HBW.out.size hb7)
            have HB7 := Aside0.mk (below_then HBA.out HBA.out.size hb7)
            have HOW7 := Aside0.mk (pw_own_below HOW.out hb7)
            have HOC := Aside0.mk hoc
            obtain ⟨Ac, cc, rfl⟩ := own_slice hoc
            clear hb7 hoc HBW HBA HOW hcx
            by_cases hle : (elts x).length = (elts p).length
            · have hbe : (((elts x).length : Int) == ((elts p).length : Int)) = true := beq_iff_eq.2 (by omega)
              have hbn : ((elts x).length == (elts p).length) = true := beq_iff_eq.2 hle
              have HLE := Aside0.mk hle
              have HNO := Aside0.mk (fun h : mm (elts p) (elts x) = false => HFO.out h)
              have HYES := Aside0.mk (fun h : mm (elts p) (elts x) = true => HFI.out h)
              have hpl2 : (elts p).length ≤ 40 := by omega
              clear HFO HFI
              go_wp2_with fail
              clear hle hbe hbn
              go_loopw [13, 14] (fun ok i wr2 => ∃ (j : Nat) (b : Bool), j ≤ (elts p).length ∧ i = .int .i64 j ∧ ok = .bool b ∧ Aside0 (b = true → ∀ t : Nat, t < j → mB (rdOf (⟨#[]⟩ : ByteArray) (elts p) (t : Int)) (rdOf (⟨#[]⟩ : ByteArray) (elts x) (t : Int)) = true) ∧
                Aside0 (b = false → mm (elts p) (elts x) = false) ∧ Aside0 (Below w7.heap.size w7 wr2)) (fun _ i _ => (elts p).length - (intOf i).toNat)
              case atStart => exact ⟨0, true, Nat.zero_le _, rfl, rfl, ⟨fun _ t ht => absurd ht (Nat.not_lt_zero _)⟩, ⟨fun h => by cases h⟩, ⟨Below.refl _ _⟩⟩
              case round =>
                obtain ⟨j, b, hj, rfl, rfl, HTR, HFA, HBI⟩ := hrel
                have HBW8 := Aside0.mk (below_then HBW7.out HBW7.out.size HBI.out)
                have HOW8 := Aside0.mk (pw_own_below HOW7.out HBI.out)
                cases b with
                | false =>
                  have HN := Aside0.mk (HNO.out (HFA.out rfl))
                  rw [← HN.out] at HOW8
                  clear HTR HFA
                  go_wp2
                  go_roundw
                  case rel => exact ⟨k + 1, by omega, by go_num, HOW8, HBW8⟩
                  case measure => simp [intOf]; omega
                | true =>
                  by_cases hjn : j < (elts p).length
                  · have hjz : (j : Int) < ((elts p).length : Int) := by omega
                    obtain ⟨_, _, e0, hrl⟩ := own_reads_of (d := (⟨#[]⟩ : ByteArray)) (pw_own_below HOL6.out HBW8.out)
                    injection e0 with e1 e2 e3
                    subst e1
                    obtain ⟨adl, rfl, hcl⟩ := hrl.at_ (j : Int) (Int.natCast_nonneg _) (by omega)
                    obtain ⟨_, _, e0, hrc⟩ := own_reads_of (d := (⟨#[]⟩ : ByteArray)) (pw_own_below HOC.out HBI.out)
                    injection e0 with e1 e2 e4
                    subst e1
                    obtain ⟨adc, rfl, hcc⟩ := hrc.at_ (j : Int) (Int.natCast_nonneg _) (by have := HLE.out; omega)
                    rw [Int.toNat_natCast] at hcl hcc
                    clear hrl hrc e3 e4
                    have HMB := Aside0.mk (fun h => mm_some2 HLE.out.symm j hjn h)
                    have HTS := Aside0.mk (fun h : mB (rdOf (⟨#[]⟩ : ByteArray) (elts p) (j : Int)) (rdOf (⟨#[]⟩ : ByteArray) (elts x) (j : Int)) = true => fun (_ : true = true) (t : Nat) (ht : t < j + 1) => (show mB (rdOf (⟨#[]⟩ : ByteArray) (elts p) (t : Int)) (rdOf (⟨#[]⟩ : ByteArray) (elts x) (t : Int)) = true from by
                      by_cases e : t = j
                      · subst e; exact h
                      · exact HTR.out rfl t (by omega)))
                    have hps : (rdOf (⟨#[]⟩ : ByteArray) (elts p) (j : Int)).size ≤ 100 := by rw [rdS_get _ _ hjn]; have := elts_size (List.getElem_mem hjn); omega
                    have hxs2 : (rdOf (⟨#[]⟩ : ByteArray) (elts x) (j : Int)).size ≤ 100 := by
                      have h : j < (elts x).length := by have := HLE.out; omega
                      rw [rdS_get _ _ h]; exact HXE.out _ (List.getElem_mem h)
                    have HMT := Aside0.mk (fun W => match_ok (rdOf (⟨#[]⟩ : ByteArray) (elts p) (j : Int)) (rdOf (⟨#[]⟩ : ByteArray) (elts x) (j : Int)) W hps hxs2)
                    clear HTR HFA hps hxs2
                    generalize mB (rdOf (⟨#[]⟩ : ByteArray) (elts p) (j : Int)) (rdOf (⟨#[]⟩ : ByteArray) (elts x) (j : Int)) = bM at *
                    generalize rdOf (⟨#[]⟩ : ByteArray) (elts p) (j : Int) = pj at *
                    generalize rdOf (⟨#[]⟩ : ByteArray) (elts x) (j : Int) = xj at *
                    go_wp2_with fail
                    have HPRE := Aside0.mk (And.intro (pw_cell_below (below_drew (below_alloc (Below.refl _ _) (.cells #[.int .i64 0, .int .i64 0] 33))) hcl) (pw_cell_below (below_drew (below_alloc (Below.refl _ _) (.cells #[.int .i64 0, .int .i64 0] 33))) hcc))
                    have HPT := Aside0.mk ((Two.new wr (.int .i64 0) (.int .i64 0)).below (below_drew (Below.refl _ _)))
                    have HPN := Aside0.mk (show (adl.add j).block ≠ wr.heap.size ∧ (adc.add j).block ≠ wr.heap.size from by
                      have g1 := World.block_lt_of_cell? wr _ hcl
                      have g2 := World.block_lt_of_cell? wr _ hcc
                      exact ⟨by omega, by omega⟩)
                    have HPB := Aside0.mk (below_drew (below_alloc HBI.out (.cells #[.int .i64 0, .int .i64 0] 33)))
                    go_region_held3 (fun w' => w'.cell? (adl.add j) = some (.string pj) ∧ w'.cell? (adc.add j) = some (.string xj))
                      (first
                        | exact HCK2.out
                        | exact HCK.out
                        | go_keep)
                      (first
                        | (go_at_call 13; refine (HMT.out _).mono ?_; rintro e w9 ⟨rfl, hb9⟩; have HCK := Aside0.mk (And.intro (pw_cell_below hb9 hcl) (pw_cell_below hb9 hcc)); have HB9 := Aside0.mk (below_then (below_drew HBI.out) HBI.out.size hb9); clear hb9)
                        | (go_at_call 13; refine (HMT.out _).mono ?_; rintro e w9 ⟨rfl, hb9⟩; have HCK := Aside0.mk (And.intro (pw_cell_below hb9 HPRE.out.1) (pw_cell_below hb9 HPRE.out.2)); have HTW := Aside0.mk (HPT.out.below hb9); have HB9 := Aside0.mk (below_then HPB.out HPB.out.size hb9); obtain ⟨⟨hq0, hq1⟩, hq2, hq3⟩ := HTW.out.cells; have HCK2 := Aside0.mk (two_far (u := .int .i64 0) (v := .int .i64 0) HTW.out HCK.out.1 HCK.out.2 HPN.out.1 HPN.out.2); clear hb9)
                        | fail)
                    · have HBX := Aside0.mk (below_alloc HB9.out (.cells #[.int .i64 0, .int .i64 0] 33))
                      cases bM with
                      | true =>
                        have HT2 := Aside0.mk (HTS.out rfl)
                        go_wp2
                        go_roundw
                        case rel => exact ⟨j + 1, true, by omega, by go_num, rfl, ⟨fun _ => HT2.out trivial⟩, ⟨fun h => by cases h⟩, HBX⟩
                        case measure => simp [intOf]; omega
                      | false =>
                        have HF2 := Aside0.mk (HMB.out rfl)
                        go_wp2
                        go_roundw
                        case rel => exact ⟨j + 1, false, by omega, by go_num, rfl, ⟨fun h => by cases h⟩, ⟨fun _ => HF2.out⟩, HBX⟩
                        case measure => simp [intOf]; omega
                    · have HTZ := Aside0.mk (HTW.out.set (.int .i64 0) (.int .i64 0))
                      have HBX := Aside0.mk (Two.upper (x := .int .i64 0) (y := .int .i64 0) HB9.out HBI.out.size)
                      have hz0 := (blk_cell HTZ.out.blk 0).trans rfl
                      clear hq0 hq1 hq2 hq3
                      generalize (w9.setCell ⟨wr.heap.size, 0, none⟩ (.int .i64 0)).setCell ⟨wr.heap.size, 1, none⟩ (.int .i64 0) = wz at *
                      cases bM with
                      | true =>
                        have HT2 := Aside0.mk (HTS.out rfl)
                        go_wp2
                        go_roundw
                        case rel => exact ⟨j + 1, true, by omega, by go_num, rfl, ⟨fun _ => HT2.out trivial⟩, ⟨fun h => by cases h⟩, HBX⟩
                        case measure => simp [intOf]; omega
                      | false =>
                        have HF2 := Aside0.mk (HMB.out rfl)
                        go_wp2
                        go_roundw
                        case rel => exact ⟨j + 1, false, by omega, by go_num, rfl, ⟨fun h => by cases h⟩, ⟨fun _ => HF2.out⟩, HBX⟩
                        case measure => simp [intOf]; omega
                  · obtain rfl : j = (elts p).length := by omega
                    have HY := Aside0.mk (HYES.out (mm_all2 HLE.out.symm (HTR.out rfl)))
                    obtain ⟨Aw, cw, rfl⟩ := own_slice HOW8.out
                    clear HTR HFA HNO HYES
                    generalize (((allP T).take k).filter fun x => mm (elts p) (elts x)) = ws at *
                    go_wp2_with (at_builtin; refine print_append_of (w0 := W6) Value.string W6.heap.size rfl (.tmp 84) (.tmp 86) 29 9 (.string ⟨#[]⟩) 16 rfl Tryd.underlying29 infoS rfl (by decide) (.slice Aw ws.length cw) ws x rfl rfl rfl HOW8.out HBW8.out HBW8.out.size (by have := HWL.out; omega) ?_; intro v1 w10 ho10 hb10 _ _; have HO10 := Aside0.mk ho10; have HB10 := Aside0.mk hb10; clear ho10 hb10)
                    rw [← HY.out] at HO10
                    go_roundw
                    case rel => exact ⟨k + 1, by omega, by go_num, HO10, HB10⟩
                    case measure => simp [intOf]; omega
            · have hbe : (((elts x).length : Int) == ((elts p).length : Int)) = false := beq_eq_false_iff_ne.2 (by omega)
              have hbn : ((elts x).length == (elts p).length) = false := beq_eq_false_iff_ne.2 hle
              have HNO := Aside0.mk (HFO.out (mm_len (fun e => hle e.symm)))
              rw [← HNO.out] at HOW7
              go_wp2_with fail
              go_loop [13, 14] (fun ok i => ok = .bool false ∧ i = .int .i64 0) (fun _ _ => 0)
              case atStart => exact ⟨rfl, rfl⟩
              case round =>
                obtain ⟨rfl, rfl⟩ := hrel
                go_wp2
                go_roundw
                case rel => exact ⟨k + 1, by omega, by go_num, HOW7, HBW7⟩
                case measure => simp [intOf]; omega
          · obtain rfl : k = (allP T).length := by omega
            rw [List.take_length, ← HFM.out] at HOW
            have HFL := Aside0.mk (findP_len HOK.out HSM.out)
            have HSS := Aside0.mk (sort_self (findP_sorted HOK.out HSM.out))
            have HSO := Aside0.mk (sort_own _ _ _ _ HOW.out (by have := HFL.out; omega))
            have HVG := Aside0.mk (pw_own_below HOG6.out HBW.out)
            have hwb : ∀ k, u9.ownBlock = some k → W6.heap.size ≤ k := fun k hk => own_base HOW.out k hk
            have HWB := Aside0.mk hwb
            clear hwb
            go_wp2_with fail
            refine HSO.out.mono ?_
            rintro e w10 ⟨rfl, ho10, hg10⟩
            rw [HSS.out] at ho10
            have HV10 := Aside0.mk (own_move HVG.out fun k hk => hg10.block k (own_lt HVG.out k hk) (fun e => by have := HWB.out k e.symm; have := HGL.out k hk; omega))
            have HB10 := Aside0.mk (pw_below_grown HBA.out _ HBA.out.size hg10 (fun k hk => by have := HWB.out k hk; have := HB6.out.size; omega))
            have HEQ := Aside0.mk (equal_own _ _ _ _ (findP T p) w10 HV10.out ho10 (by have := HFL.out; omega))
            clear ho10 hg10 HSO HVG
            go_wp2_with fail
            refine HEQ.out.mono ?_
            rintro e w11 ⟨rfl, hb11⟩
            have HB11 := Aside0.mk (below_then HB10.out HB10.out.size hb11)
            clear hb11 HEQ
            go_wp2
            go_ret
            exact ⟨rfl, HB11.out⟩
      · exact absurd HOK.out.1 hnv
    · have hc1 : (cd == 0) = false := beq_eq_false_iff_ne.2 hcd
      have hc2 : (cd != 0) = true := by rw [bne, hc1]; rfl
      have HBf := Aside0.mk (below_then HB3.out HB3.out.size (below_alloc (Below.refl w3.heap.size w3) (.cells #[.int .i64 cd, .int .i64 ix] 33)))
      clear hcd
      go_wp2
      go_ret
      exact ⟨rfl, HBf.out⟩
end Go.Proofs.YtkmoeeaaolpdnaaDoor
