/-
 The walks of wParts; slices.Compact and slices.Equal on rows of the call's own.
 The walk of wFinds: it returns true where the paths that more patterns find are, together, those that the first one finds.
 A tree that comes in, opened: what its reading tells of memory, and how large it is.
-/
import Derived.Deep.Slices
import Derived.Deep.Fields
import Derived.OpenShut
import Derived.ChangeOld
import Derived.Test.YtkmoeeaaolpdnaaGreatDoorMG
import Derived.Test.YtkmoeeaaolpdnaaGreatDoorRows
import Derived.Test.YtkmoeeaaolpdnaaGreatDoorME
namespace Go.Proofs.YtkmoeeaaolpdnaaGreatDoor
open Go.RowKit Go.Sort Go.Proofs.YtkmoeeaaolpdnaaGreatDoorW.PrintWords Go.Proofs.YtkmoeeaaolpdnaaGreatDoor.PTopFindsTwice

set_option maxHeartbeats 1000000 in
set_option maxRecDepth 100000 in
theorem parts1_calls (x : ByteArray) (W : World) : PredB 15 #[] isE x W := by
  show Calls Tryz.prog 15 #[.string x] W fun e W' => e = .returned (.bool (x.toList.isEmpty)) ∧ Below W.heap.size W W'
  cases hx : x.toList.isEmpty with
  | true =>
    go_enter Tryz.func15, Tryz.ntmps15
    go_wp2
    go_ret
    exact ⟨rfl, Below.refl _ _⟩
  | false =>
    go_enter Tryz.func15, Tryz.ntmps15
    go_wp2
    go_ret
    exact ⟨rfl, Below.refl _ _⟩

set_option maxHeartbeats 2000000 in
set_option maxRecDepth 100000 in
theorem parts_calls (s : ByteArray) (m : Int) (w : World) (hs : s.size ≤ 1048576) (hm : w.cell? ⟨0, 0, none⟩ = some (.int .i64 m)) :
    Calls Tryz.prog 5 #[.string s] w fun e w' => ∃ v, e = .returned v ∧ w'.ownsRow w.heap.size 9 1 v (elts s).length (encs Value.string (elts s)) ∧ Below w.heap.size w w' := by
  have HS := Aside0.mk (split_calls s m w hs hm)
  have HPL := Aside0.mk (pcs_len s)
  have HEL := Aside0.mk (show (pcs s).filter (fun x => !isE x) = elts s from rfl)
  generalize pcs s = ps at *
  generalize elts s = es at *
  go_enter Tryz.func5, Tryz.ntmps5
  go_wp2_with fail
  refine HS.out.mono ?_
  rintro e w1 ⟨rfl, ho, hb⟩
  have HB := Aside0.mk hb
  have HD := Aside0.mk (delf_calls 15 #[] (enters_of Tryz.func15 (by kernel_rfl) rfl) isE _ _ ps w1 ho (by have := HPL.out; omega) (fun W _ x _ => parts1_calls x W))
  have HBA := Aside0.mk (fun k (hk : (Value.slice (some ⟨w.heap.size, 0, none⟩) ps.length ps.length).ownBlock = some k) => own_base ho k hk)
  clear ho hb HS
  go_wp2_with fail
  refine HD.out.mono ?_
  rintro e w2 ⟨v2, rfl, ho2, _, hg2⟩
  rw [HEL.out] at ho2
  have HO2 := Aside0.mk ho2
  have HB2 := Aside0.mk (pw_below_grown HB.out _ HB.out.size hg2 HBA.out)
  clear ho2 hg2 HD HB
  go_wp2
  go_ret
  exact ⟨_, rfl, HO2.out, HB2.out⟩

/-- slices.Compact on a row of the call's own -/
theorem compact_own (v : Value) (B : Nat) (xs : List ByteArray) (w : World) (hv : w.ownsRow B 9 1 v xs.length (encs Value.string xs)) (hsz : xs.length ≤ 1000000000) :
    Calls Tryz.prog 22 #[v] w fun e w' => ∃ v', e = .returned v' ∧ w'.ownsRow B 9 1 v' (cmpB xs).length (encs Value.string (cmpB xs)) ∧ w.grownBy w' v.ownBlock := by
  rcases hv.2 with ⟨rfl, h0⟩ | ⟨g, cap, cur, rfl, hbase, hb, h1, h2, h3, h4⟩
  · obtain rfl : xs = [] := List.eq_nil_of_length_eq_zero h0
    exact (Tryz.slices_Compact_string_empty none 0 w).mono fun e w' ⟨he, hw⟩ => ⟨_, he, by rw [show cmpB [] = [] from rfl]; exact own_nil _ _ _ _, hw ▸ World.grownBy.refl w _⟩
  · have hl : (xs.map (·.data.toList)).length = xs.length := by simp
    have hc := Tryz.slices_Compact_string g 0 cap (xs.map (·.data.toList)) w (holds_of_block hb (by rw [hl, enc_strs]; rw [Nat.mul_one] at h4; exact h4)) (by rw [hl]; omega) (by rw [hl]; exact h1)
    rw [hl] at hc
    refine hc.mono ?_
    rintro e w' ⟨he, n, rfl⟩
    have hcl : (Lib.compact (xs.map (·.data.toList))).length = (cmpB xs).length := by unfold cmpB; rw [List.length_map]
    have hle := cmpB_le xs
    rw [hcl] at he ⊢
    have hlt : (Lib.compact (xs.map (·.data.toList)) ++ List.replicate (xs.length - (cmpB xs).length) ([] : List UInt8)).length = (xs.map (·.data.toList)).length := by rw [List.length_append, List.length_replicate, hcl, hl]; omega
    have ho := ownsRow_sorted (n := n) (os := #[]) (ss := xs.map (·.data.toList)) (ts := Lib.compact (xs.map (·.data.toList)) ++ List.replicate (xs.length - (cmpB xs).length) ([] : List UInt8)) hlt hbase hb (by rw [hl]; exact h1) h2 h3
    rw [grow_empty, hl] at ho
    have henc : (Lib.compact (xs.map (·.data.toList)) ++ List.replicate (xs.length - (cmpB xs).length) ([] : List UInt8)).map encStr = encs Value.string (cmpB xs ++ List.replicate (xs.length - (cmpB xs).length) ⟨#[]⟩) := by
      rw [List.map_append, encs_append]
      congr 1
      · unfold encs cmpB
        rw [List.map_map]
        rfl
      · unfold encs
        rw [List.map_replicate, List.map_replicate]
    rw [henc] at ho
    have hcut := own_cut ho hle []
    rw [List.take_left] at hcut
    have hg := grownBy_sorted (n := n) (os := #[]) (w := w) (g := g) (Lib.compact (xs.map (·.data.toList)) ++ List.replicate (xs.length - (cmpB xs).length) ([] : List UInt8)).toArray
    rw [grow_empty] at hg
    exact ⟨_, he, hcut, hg⟩

theorem own_cellS {w : World} {B n : Nat} {v : Value} {xs : List ByteArray} {g cap : Nat} (h : w.ownsRow B 9 1 v n (encs Value.string xs)) (hv : v = .slice (some ⟨g, 0, none⟩) n cap) : ∀ j, j < xs.length → w.cell? ⟨g, 0 + j, none⟩ = some (.string (xs.getD j ByteArray.empty)) := by
  intro j hj
  subst hv
  have := h.cells (g := g) rfl j (.string (xs.getD j ByteArray.empty)) (by rw [encs, List.getElem?_map, List.getD_eq_getElem?_getD, List.getElem?_eq_getElem hj]; rfl)
  rw [add_plain] at this
  rw [Nat.zero_add]; exact this
/-- slices.Equal on two rows that hold the same -/
theorem equal_own (v1 v2 : Value) (B1 B2 : Nat) (xs : List ByteArray) (w : World) (h1 : w.ownsRow B1 9 1 v1 xs.length (encs Value.string xs)) (h2 : w.ownsRow B2 9 1 v2 xs.length (encs Value.string xs)) (hsz : xs.length ≤ 1000000000) :
    Calls Tryz.prog 21 #[v1, v2] w fun e w' => e = .returned (.bool true) ∧ Below w.heap.size w w' := by
  by_cases h0 : xs.length = 0
  · have hx := List.eq_nil_of_length_eq_zero h0
    subst hx
    obtain ⟨A1, c1, rfl⟩ := own_slice h1
    obtain ⟨A2, c2, rfl⟩ := own_slice h2
    exact (Tryz.slices_Equal_string_empty A1 A2 c1 0 c2 w (by omega)).mono fun e w' ⟨he, hw⟩ => ⟨he, hw ▸ Below.refl _ _⟩
  · rcases h1.2 with ⟨_, e⟩ | ⟨g1, c1, _, rfl, _, _, _, _, _, _⟩
    · exact absurd e h0
    rcases h2.2 with ⟨_, e⟩ | ⟨g2, c2, _, rfl, _, _, _, _, _, _⟩
    · exact absurd e h0
    refine (Tryz.slices_Equal_string g1 0 xs.length c1 g2 0 xs.length c2 xs xs w (Nat.le_refl _) (Nat.le_refl _) (by omega) (by omega) (own_cellS h1 rfl) (own_cellS h2 rfl)).mono ?_
    rintro e w' ⟨he, q, rfl⟩
    exact ⟨by rw [he]; simp, pw_below_drewN (Below.refl _ _) q⟩
end Go.Proofs.YtkmoeeaaolpdnaaGreatDoor

namespace Go.Proofs.YtkmoeeaaolpdnaaGreatDoor
open Go.RowKit Go.Sort Go.Proofs.YtkmoeeaaolpdnaaGreatDoorW.PrintWords Go.Proofs.YtkmoeeaaolpdnaaGreatDoor.PTopFindsTwice

theorem findP_len {T : List S104} {p : ByteArray} (h : FindOk T p) (hs : Small T) : (findP T p).length ≤ 1000 := by
  have h1 : (findP T p).length ≤ (allP T).length := List.length_filter_le _ _
  have h2 : (allP T).length ≤ 1000 := by
    have := (h.1.sound hs).few (h.1.good hs) TreePlain.Reach.root (T.length + 1)
    rw [allP_len]
    simpa [pths, VS] using this
  omega
theorem findP_sorted {T : List S104} {p : ByteArray} (h : FindOk T p) (hs : Small T) : SortedB (findP T p) := (allP_sorted h.1 hs).filter _
theorem flat_len (f : ByteArray → List ByteArray) (l : List ByteArray) (h : ∀ q ∈ l, (f q).length ≤ 1000) : (l.flatMap f).length ≤ 1000 * l.length := by
  induction l with
  | nil => simp
  | cons x l ih =>
    have h1 := h x (by simp)
    have h2 := ih fun q hq => h q (by simp [hq])
    rw [List.flatMap_cons, List.length_append, List.length_cons]
    omega
theorem flat_snoc {f : ByteArray → List ByteArray} {l : List ByteArray} {k : Nat} (hk : k < l.length) : (l.take (k + 1)).flatMap f = (l.take k).flatMap f ++ f l[k] := by
  rw [List.take_succ_eq_append_getElem hk, List.flatMap_append]
  simp

set_option maxHeartbeats 8000000 in
set_option maxRecDepth 100000 in
theorem finds_calls (A : Option Addr) (c : Nat) (T : List S104) (p : ByteArray) (m : Int) (M : Option Addr) (qc : Nat) (qs : List ByteArray) (w : World) (hT : Kd.C k104 w A T.length T) (hc : T.length ≤ c) (hTm : T.length ≤ 1000000000) (hsm : Small T)
    (hm : w.cell? ⟨0, 0, none⟩ = some (.int .i64 m)) (hq : ReadsOf Value.string (⟨#[]⟩ : ByteArray) w M qs.length qs) (hql : qs.length ≤ 10)
    (H : FindOk T p → (∀ q ∈ qs, FindOk T q) → ∀ x, x ∈ qs.flatMap (findP T) ↔ x ∈ findP T p) :
    Calls Tryz.prog 10 #[.agg #[.slice A T.length c], .string p, .slice M qs.length qc] w fun e w' => e = .returned (.bool true) ∧ Below w.heap.size w w' := by
  have HTr := Aside0.mk hT
  have HSM := Aside0.mk hsm
  have HMX := Aside0.mk hm
  have HQ := Aside0.mk hq
  have HH := Aside0.mk H
  have HB0 := Aside0.mk (below_alloc (Below.refl w.heap.size w) (.cells #[.slice A T.length c] 24))
  have HTB := Aside0.mk (TBox.new w A T.length c)
  have HFC : Aside0 (∀ (W : World) (q : ByteArray), Below w.heap.size w W → Calls Tryz.prog 19 #[.agg #[.slice A T.length c], .string q] W fun e w' => FindAns W.heap.size T q e w' ∧ Below W.heap.size W w') := ⟨fun W q hW => find_calls A c T q m W (Kd.C_below HTr.out hW) hc hTm HSM.out (pw_cell_below hW HMX.out)⟩
  clear hT hsm hm hq H
  go_enter Tryz.func10, Tryz.ntmps10
  go_wp2_with fail
  refine (globs_calls _).mono ?_
  rintro e w1 ⟨rfl, hb1⟩
  have HB1 := Aside0.mk (below_then HB0.out HB0.out.size hb1)
  have HTB1 := Aside0.mk (HTB.out.below hb1)
  have ht1 := HTB1.out.cell
  clear hb1 HB0 HTB
  go_wp2_with fail
  refine (HFC.out _ p HB1.out).mono ?_
  rintro e w2 ⟨⟨v, cd, ix, rfl, ha⟩, hb2⟩
  have HB2 := Aside0.mk (below_then HB1.out HB1.out.size hb2)
  have HTB2 := Aside0.mk (HTB1.out.below hb2)
  clear hb2 HTB1 ht1
  rcases ha with ⟨rfl, hok, ho⟩ | ⟨hcd, _, rfl⟩
  · have HOK := Aside0.mk hok
    have HO := Aside0.mk ho
    have HOL := Aside0.mk (fun k hk => own_lt ho k hk)
    obtain ⟨Av, cv, rfl⟩ := own_slice ho
    have s3 : (w2.alloc (.cells #[.int .i64 0, .int .i64 ix] 40)).heap.size = w2.heap.size + 1 := World.size_alloc _ _
    have HB3 := Aside0.mk (below_then HB2.out HB2.out.size (below_alloc (Below.refl w2.heap.size w2) (.cells #[.int .i64 0, .int .i64 ix] 40)))
    have HTB3 := Aside0.mk (HTB2.out.below (below_alloc (Below.refl w2.heap.size w2) (.cells #[.int .i64 0, .int .i64 ix] 40)))
    have HO3 := Aside0.mk (pw_own_below ho (below_alloc (Below.refl w2.heap.size w2) (.cells #[.int .i64 0, .int .i64 ix] 40)))
    have HS3 := Aside0.mk s3
    clear hok ho s3 HO HTB2 HB2
    go_wp2
    obtain ⟨W3, hW3⟩ : ∃ W3 : World, W3 = w2.alloc (.cells #[.int .i64 0, .int .i64 ix] 40) := ⟨_, rfl⟩
    rw [← hW3] at HB3 HTB3 HO3 HS3
    rw [← hW3]
    clear hW3
    go_loopw [9, 11, 12, 13, 30] (fun va _ _ _ i wr => ∃ k : Nat, k ≤ qs.length ∧ i = .int .i64 k ∧ Aside0 (wr.ownsRow W3.heap.size 9 1 va ((qs.take k).flatMap (findP T)).length (encs Value.string ((qs.take k).flatMap (findP T)))) ∧ Aside0 (∀ q ∈ qs.take k, FindOk T q) ∧ Aside0 (Below W3.heap.size W3 wr)) (fun _ _ _ _ i _ => qs.length - (intOf i).toNat)
    case atStart => exact ⟨0, Nat.zero_le _, rfl, ⟨own_nil _ _ _ _⟩, ⟨by simp⟩, ⟨Below.refl _ _⟩⟩
    case round =>
      obtain ⟨k, hk, rfl, HOA, HFO, HBW⟩ := hrel
      have HBA := Aside0.mk (below_then HB3.out HB3.out.size HBW.out)
      have ht3 := (HTB3.out.below HBW.out).cell
      by_cases hlt : k < qs.length
      · obtain ⟨ad, rfl, hcq⟩ := (HQ.out.below HBA.out).at_ (k : Int) (Int.natCast_nonneg _) (by omega)
        have hx : rdOf (⟨#[]⟩ : ByteArray) qs (k : Int) = qs[k] := by unfold rdOf; rw [Int.toNat_natCast, List.getD_eq_getElem?_getD, List.getElem?_eq_getElem hlt]; rfl
        rw [hx, Int.toNat_natCast] at hcq
        clear hx
        have HFL := Aside0.mk (flat_snoc (f := findP T) hlt)
        have HTA := Aside0.mk (fun h : FindOk T qs[k] => take_all (q := FindOk T) hlt HFO.out h)
        have HLE := Aside0.mk (show ((qs.take k).flatMap (findP T)).length ≤ 1000 * 10 from Nat.le_trans (flat_len _ _ fun q hq => findP_len (HFO.out q hq) HSM.out) (by rw [List.length_take]; omega))
        have hlz : (k : Int) < (qs.length : Int) := by omega
        generalize qs[k] = q at *
        generalize (qs.take k).flatMap (findP T) = xs at *
        obtain ⟨Aa, ca, rfl⟩ := own_slice HOA.out
        go_wp2_with fail
        refine (HFC.out _ q HBA.out).mono ?_
        rintro e w4 ⟨⟨vq, cd2, ix2, rfl, ha2⟩, hb4⟩
        have HB4 := Aside0.mk (below_then HBA.out HBA.out.size hb4)
        have HBW4 := Aside0.mk (below_then HBW.out HBW.out.size hb4)
        have HOA4 := Aside0.mk (pw_own_below HOA.out hb4)
        clear hb4 HOA HBW HBA
        rcases ha2 with ⟨rfl, hok2, ho2⟩ | ⟨hcd2, _, rfl⟩
        · have HTK := Aside0.mk (HTA.out hok2)
          have HQL := Aside0.mk (findP_len hok2 HSM.out)
          have HBW5 := Aside0.mk (below_then HBW4.out HBW4.out.size (below_alloc (Below.refl w4.heap.size w4) (.cells #[.int .i64 0, .int .i64 ix2] 40)))
          have HOA5 := Aside0.mk (pw_own_below HOA4.out (below_alloc (Below.refl w4.heap.size w4) (.cells #[.int .i64 0, .int .i64 ix2] 40)))
          obtain ⟨Aq, cq, rfl, hr5⟩ := own_reads_of (d := (⟨#[]⟩ : ByteArray)) (pw_own_below ho2 (below_alloc (Below.refl w4.heap.size w4) (.cells #[.int .i64 0, .int .i64 ix2] 40)))
          have HR5 := Aside0.mk hr5
          clear hok2 ho2 hr5 HTA HFO HOA4 HBW4 ht3 hcq
          go_wp2_with (at_builtin; refine print_append_row_of (w0 := W3) Value.string (⟨#[]⟩ : ByteArray) W3.heap.size rfl _ _ 25 9 (.string ⟨#[]⟩) 16 rfl Tryz.underlying25 infoS rfl (by decide) (fun _ => rfl) _ xs (findP T q) _ _ _ rfl rfl HOA5.out HR5.out HBW5.out HBW5.out.size (by have := HLE.out; have := HQL.out; omega) ?_; intro v1 w6 ho6 hb6 _ _; have HO6 := Aside0.mk ho6; have HB6 := Aside0.mk hb6; clear ho6 hb6)
          rw [← HFL.out] at HO6
          go_roundw
          case rel => exact ⟨k + 1, by omega, by go_num, HO6, HTK, HB6⟩
          case measure => simp [intOf]; omega
        · have hc1 : (cd2 == 0) = false := beq_eq_false_iff_ne.2 hcd2
          have hc2 : (cd2 != 0) = true := by rw [bne, hc1]; rfl
          have HBf := Aside0.mk (below_then HB4.out HB4.out.size (below_alloc (Below.refl w4.heap.size w4) (.cells #[.int .i64 cd2, .int .i64 ix2] 40)))
          clear hcd2 HTA HFO HOA4 HBW4 ht3 hcq HFL HLE
          go_wp2
          go_ret
          exact ⟨rfl, HBf.out⟩
      · obtain rfl : k = qs.length := by omega
        rw [List.take_length] at HOA HFO
        have HL := Aside0.mk (show (qs.flatMap (findP T)).length ≤ 1000 * 10 from Nat.le_trans (flat_len _ _ fun q hq => findP_len (HFO.out q hq) HSM.out) (by omega))
        have HCM := Aside0.mk (cmp_sort (findP_sorted HOK.out HSM.out) (HH.out HOK.out HFO.out))
        have HFL := Aside0.mk (findP_len HOK.out HSM.out)
        generalize qs.flatMap (findP T) = xs at *
        have HV := Aside0.mk (pw_own_below HO3.out HBW.out)
        have HSO := Aside0.mk (sort_own _ _ _ _ HOA.out (by have := HL.out; omega))
        obtain ⟨Aa, ca, rfl⟩ := own_slice HOA.out
        have HAB := Aside0.mk (fun k (hk : (Value.slice Aa xs.length ca).ownBlock = some k) => own_base HOA.out k hk)
        clear HOA HFO ht3
        go_wp2_with fail
        refine HSO.out.mono ?_
        rintro e w6 ⟨rfl, ho6, hg6⟩
        have HCO := Aside0.mk (compact_own _ _ (sortB xs) w6 (by rw [sortB_len]; exact ho6) (by rw [sortB_len]; have := HL.out; omega))
        have HV6 := Aside0.mk (own_move HV.out fun k hk => hg6.block k (own_lt HV.out k hk) (fun e => by have := HAB.out k e.symm; have := HOL.out k hk; have := HS3.out; omega))
        have HB6 := Aside0.mk (pw_below_grown HBA.out _ HBA.out.size hg6 (fun k hk => by have := HAB.out k hk; have := HB3.out.size; omega))
        clear ho6 hg6 HSO HV
        go_wp2_with fail
        refine HCO.out.mono ?_
        rintro e w7 ⟨v7, rfl, ho7, hg7⟩
        rw [HCM.out] at ho7
        have HV7 := Aside0.mk (own_move HV6.out fun k hk => hg7.block k (own_lt HV6.out k hk) (fun e => by have := HAB.out k e.symm; have := HOL.out k hk; have := HS3.out; omega))
        have HB7 := Aside0.mk (pw_below_grown HB6.out _ HB6.out.size hg7 (fun k hk => by have := HAB.out k hk; have := HB3.out.size; omega))
        have HEQ := Aside0.mk (equal_own _ _ _ _ (findP T p) w7 ho7 HV7.out (by have := HFL.out; omega))
        clear ho7 hg7 HCO HV6 HV7
        go_wp2_with fail
        refine HEQ.out.mono ?_
        rintro e w8 ⟨rfl, hb8⟩
        have HB8 := Aside0.mk (below_then HB7.out HB7.out.size hb8)
        clear hb8 HEQ
        go_wp2
        go_ret
        exact ⟨rfl, HB8.out⟩
  · have hc1 : (cd == 0) = false := beq_eq_false_iff_ne.2 hcd
    have hc2 : (cd != 0) = true := by rw [bne, hc1]; rfl
    have HBf := Aside0.mk (below_then HB2.out HB2.out.size (below_alloc (Below.refl w2.heap.size w2) (.cells #[.int .i64 cd, .int .i64 ix] 40)))
    clear hcd HTB2
    go_wp2
    go_ret
    exact ⟨rfl, HBf.out⟩
end Go.Proofs.YtkmoeeaaolpdnaaGreatDoor

namespace Go.Proofs.YtkmoeeaaolpdnaaGreatDoor
open Go.RowKit Go.ChangeShapes Go.WideShapes Go.Proofs.YtkmoeeaaolpdnaaGreatDoorW.PrintWords Go.Proofs.YtkmoeeaaolpdnaaGreatDoor.PTopFindsTwice

section
variable {H : Type} {enc : TypeId × Value → H} {W : World} {base : Nat} {spare : Nat → Bool} {held : Bool}

/-- what a reading at a type tells: it is of the kind d, and Q holds of it and of its bulk -/
def Opens {α : Type} (enc : TypeId × Value → H) (W : World) (base : Nat) (spare : Nat → Bool) (held : Bool) (t : TypeId) (d : Kd α) (Q : α → Nat → Prop) : Prop :=
  ∀ (fuel : Nat) (cs : List Value) (x : DataW H × List MemPlace), DataW.trod enc Tryz.prog W base spare held fuel t cs = some x → ∃ a, d.K W a cs ∧ Q a (Rows.uptoBulk x.1)

theorem bulk_pos (d : DataW H) : 1 ≤ Rows.uptoBulk d := by
  cases d with
  | lit l => cases l <;> simp [Rows.uptoBulk]
  | _ => simp [Rows.uptoBulk]
theorem bulk_mem {l : List (DataW H)} {d : DataW H} (h : d ∈ l) : Rows.uptoBulk d ≤ Rows.uptoBulkAll l := by
  induction l with
  | nil => cases h
  | cons y l ih =>
    rw [Rows.uptoBulkAll]
    rcases List.mem_cons.1 h with rfl | h
    · omega
    · have := ih h; omega
theorem bulk_len (l : List (DataW H)) : l.length ≤ Rows.uptoBulkAll l := by
  induction l with
  | nil => simp
  | cons y l ih => rw [Rows.uptoBulkAll, List.length_cons]; have := bulk_pos y; omega

theorem opens_int {t : TypeId} {k : IntKind} (ht : Tryz.prog.underlying t = some (.int k)) : Opens enc W base spare held t (Kd.int k) (fun _ _ => True) := by
  intro fuel cs x h
  obtain ⟨n, rfl, _, _⟩ := DataW.trod_int ht h
  exact ⟨n, rfl, trivial⟩
theorem opens_str {t : TypeId} (ht : Tryz.prog.underlying t = some .string) : Opens enc W base spare held t Kd.string (fun _ _ => True) := by
  intro fuel cs x h
  obtain ⟨s, rfl, _, _⟩ := DataW.trod_string ht h
  exact ⟨s, rfl, trivial⟩
theorem opens_slice {α : Type} [Inhabited α] {t e : TypeId} {d : Kd α} {Q : α → Nat → Prop} (hQ : ∀ a b b', b ≤ b' → Q a b → Q a b') (ht : Tryz.prog.underlying t = some (.slice e)) (hc : Tryz.prog.cellsOf e = d.sz) (he : Opens enc W base spare held e d Q) :
    Opens enc W base spare held t (Kd.slice e d) (fun xs b => xs.length ≤ b ∧ ∀ a ∈ xs, Q a b) := by
  intro fuel cs x h
  rcases Go.Deep.open_slice ht h with ⟨rfl, rfl⟩ | ⟨a, len, cap, m, n, D, Pl, rfl, hb, hl, hm, hmm, rfl, hx⟩
  · exact ⟨[], ⟨none, 0, rfl, Nat.le_refl _, Kd.C_nil d W⟩, by simp, by simp⟩
  · have hlm : len ≤ m := by rw [hmm]; split <;> omega
    obtain ⟨f, hf⟩ := Go.Deep.choose_lt (α := α) (n := len) (p := fun i y => ∃ cs', W.cells? base (a.add (i * Tryz.prog.cellsOf e)) (Tryz.prog.cellsOf e) = some cs' ∧ d.K W y cs' ∧ Q y (Rows.uptoBulk (D i))) (fun i hi => by
      obtain ⟨cs', h1, h2⟩ := hx i (by omega)
      obtain ⟨y, h3, h4⟩ := he n cs' _ h2
      exact ⟨y, cs', h1, h3, h4⟩)
    have hlen : ((List.range len).map f).length = len := by simp
    refine ⟨(List.range len).map f, ⟨some a, cap, by rw [hlen], by rw [hlen]; exact hl, hlen.trans hlen.symm, ?_, ?_⟩, ?_, ?_⟩
    · rw [hlen]; unfold maxLen at hm; omega
    · intro _
      refine ⟨a, rfl, fun j y hj => ?_⟩
      have hj' : j < len := by
        by_cases h : j < len
        · exact h
        · rw [List.getElem?_eq_none (by rw [hlen]; omega)] at hj; cases hj
      rw [List.getElem?_map, List.getElem?_range hj'] at hj
      have hy : f j = y := by simpa using hj
      subst hy
      obtain ⟨cs', h1, h2, _⟩ := hf j hj'
      obtain ⟨_, h4, h5⟩ := World.cells?_some h1
      refine ⟨cs', by rw [h4, hc], h2, fun i u hu => ?_⟩
      have hi : i < cs'.length := by
        by_cases h : i < cs'.length
        · exact h
        · rw [List.getElem?_eq_none (by omega)] at hu; cases hu
      have := h5 i (by omega)
      rw [Go.Deep.add_add, hc] at this
      rw [this, hu]
    · rw [hlen]
      show len ≤ Rows.uptoBulk (DataW.slice ((List.range len).map D) _)
      rw [Rows.uptoBulk]
      have := bulk_len ((List.range len).map D)
      rw [List.length_map, List.length_range] at this
      omega
    · intro y hy
      obtain ⟨i, hi, rfl⟩ := List.mem_map.1 hy
      have hi' := List.mem_range.1 hi
      obtain ⟨_, _, _, h4⟩ := hf i hi'
      refine hQ _ _ _ ?_ h4
      show _ ≤ Rows.uptoBulk (DataW.slice ((List.range len).map D) _)
      rw [Rows.uptoBulk]
      have := bulk_mem (l := (List.range len).map D) (d := D i) (List.mem_map.2 ⟨i, hi, rfl⟩)
      omega

/-- a struct of one-cell fields, opened -/
theorem open_fields {t : TypeId} {fs : Array Field} {fuel : Nat} {cs : List Value} {x : DataW H × List MemPlace} (hs : Tryz.prog.underlying t = some (.struct fs)) (hone : Go.Deep.oneCellFields Tryz.prog fs = true) (hC : Tryz.prog.cellsOf t = fs.size)
    (h : DataW.trod enc Tryz.prog W base spare held fuel t cs = some x) :
    ∃ (xs : List (DataW H × List MemPlace)) (n : Nat), x.1 = .agg (xs.map (·.1)) ∧ cs.length = fs.size ∧ xs.length = fs.size ∧
      ∀ (i : Nat) (f : Field), fs[i]? = some f → ∃ y, xs[i]? = some y ∧ DataW.trod enc Tryz.prog W base spare held n f.type [cs.getD i (.bool false)] = some y := by
  obtain ⟨xs, n, _, rfl, h1, h2, h3⟩ := DataW.trod_struct hs h
  refine ⟨xs, n, rfl, h1.trans hC, h2, fun i f hf => ?_⟩
  have hi : i < fs.size := (Array.getElem?_eq_some_iff.1 hf).1
  obtain ⟨o, k⟩ := Go.Deep.hone_of hone i f hf
  have h4 := h3 i f hf
  rw [o, k, Go.Deep.take1_drop cs i (.bool false) (by omega), List.getElem?_eq_getElem (by omega)] at h4
  exact ⟨_, List.getElem?_eq_getElem (by omega), h4⟩

instance : Inhabited S108 := ⟨z108⟩
instance : Inhabited S132 := ⟨z132⟩
instance : Inhabited S134 := ⟨z134⟩
instance : Inhabited S104 := ⟨z104⟩

theorem opens_entry : Opens enc W base spare held 108 k108 (fun _ _ => True) := by
  intro fuel cs x h
  obtain ⟨xs, n, _, hl, _, hx⟩ := open_fields Tryz.underlying108 (by kernel_rfl) (by kernel_rfl) h
  match cs, hl with
  | [u0, u1], _ =>
    obtain ⟨y0, _, g0⟩ := hx 0 _ rfl
    obtain ⟨y1, _, g1⟩ := hx 1 _ rfl
    obtain ⟨a0, k0, _⟩ := opens_str (enc := enc) (W := W) (base := base) (spare := spare) (held := held) Tryz.underlying9 n _ _ g0
    obtain ⟨a1, k1, _⟩ := opens_int (enc := enc) (W := W) (base := base) (spare := spare) (held := held) Tryz.underlying3 n _ _ g1
    exact ⟨⟨a0, a1⟩, ⟨_, _, rfl, k0, k1⟩, trivial⟩
theorem opens_acl : Opens enc W base spare held 132 k132 (fun _ _ => True) := by
  intro fuel cs x h
  obtain ⟨xs, n, _, hl, _, hx⟩ := open_fields Tryz.underlying132 (by kernel_rfl) (by kernel_rfl) h
  match cs, hl with
  | [u0, u1, u2], _ =>
    obtain ⟨y0, _, g0⟩ := hx 0 _ rfl
    obtain ⟨y1, _, g1⟩ := hx 1 _ rfl
    obtain ⟨y2, _, g2⟩ := hx 2 _ rfl
    obtain ⟨a0, k0, _⟩ := opens_int (enc := enc) (W := W) (base := base) (spare := spare) (held := held) Tryz.underlying3 n _ _ g0
    obtain ⟨a1, k1, _⟩ := opens_int (enc := enc) (W := W) (base := base) (spare := spare) (held := held) Tryz.underlying3 n _ _ g1
    obtain ⟨a2, k2, _⟩ := opens_int (enc := enc) (W := W) (base := base) (spare := spare) (held := held) Tryz.underlying3 n _ _ g2
    exact ⟨⟨a0, a1, a2⟩, ⟨_, _, rfl, k0, _, _, rfl, k1, k2⟩, trivial⟩
theorem opens_attr : Opens enc W base spare held 134 k134 (fun _ _ => True) := by
  intro fuel cs x h
  obtain ⟨xs, n, _, hl, _, hx⟩ := open_fields Tryz.underlying134 (by kernel_rfl) (by kernel_rfl) h
  match cs, hl with
  | [u0, u1], _ =>
    obtain ⟨y0, _, g0⟩ := hx 0 _ rfl
    obtain ⟨y1, _, g1⟩ := hx 1 _ rfl
    obtain ⟨a0, k0, _⟩ := opens_str (enc := enc) (W := W) (base := base) (spare := spare) (held := held) Tryz.underlying9 n _ _ g0
    obtain ⟨a1, k1, _⟩ := opens_str (enc := enc) (W := W) (base := base) (spare := spare) (held := held) Tryz.underlying9 n _ _ g1
    exact ⟨⟨a0, a1⟩, ⟨_, _, rfl, k0, k1⟩, trivial⟩
/-- how large an inode is -/
def InoQ (n : S104) (b : Nat) : Prop := n.f2.length + n.f3.length + n.f4.length + n.f5.length ≤ b
theorem opens_inode : Opens enc W base spare held 104 k104 InoQ := by
  intro fuel cs x h
  obtain ⟨xs, n, hx1, hl, hxl, hx⟩ := open_fields Tryz.underlying104 (by kernel_rfl) (by kernel_rfl) h
  match cs, hl, xs, hxl, hx1, hx with
  | [u0, u1, u2, u3, u4, u5, u6, u7], _, [z0, z1, z2, z3, z4, z5, z6, z7], _, hx1, hx =>
    obtain ⟨y0, e0, g0⟩ := hx 0 _ rfl
    obtain ⟨y1, e1, g1⟩ := hx 1 _ rfl
    obtain ⟨y2, e2, g2⟩ := hx 2 _ rfl
    obtain ⟨y3, e3, g3⟩ := hx 3 _ rfl
    obtain ⟨y4, e4, g4⟩ := hx 4 _ rfl
    obtain ⟨y5, e5, g5⟩ := hx 5 _ rfl
    obtain ⟨y6, e6, g6⟩ := hx 6 _ rfl
    obtain ⟨y7, e7, g7⟩ := hx 7 _ rfl
    have e2 : z2 = y2 := Option.some.inj e2
    have e3 : z3 = y3 := Option.some.inj e3
    have e4 : z4 = y4 := Option.some.inj e4
    have e5 : z5 = y5 := Option.some.inj e5
    subst e2 e3 e4 e5
    obtain ⟨a0, k0, _⟩ := opens_int (enc := enc) (W := W) (base := base) (spare := spare) (held := held) Tryz.underlying3 n _ _ g0
    obtain ⟨a1, k1, _⟩ := opens_int (enc := enc) (W := W) (base := base) (spare := spare) (held := held) Tryz.underlying3 n _ _ g1
    obtain ⟨a2, k2, q2, _⟩ := opens_slice (fun _ _ _ _ _ => trivial) Tryz.underlying100 (by kernel_rfl) (opens_entry (enc := enc) (W := W) (base := base) (spare := spare) (held := held)) n _ _ g2
    obtain ⟨a3, k3, q3, _⟩ := opens_slice (fun _ _ _ _ _ => trivial) Tryz.underlying50 (by kernel_rfl) (opens_int (enc := enc) (W := W) (base := base) (spare := spare) (held := held) Tryz.underlying5) n _ _ g3
    obtain ⟨a4, k4, q4, _⟩ := opens_slice (fun _ _ _ _ _ => trivial) Tryz.underlying101 (by kernel_rfl) (opens_acl (enc := enc) (W := W) (base := base) (spare := spare) (held := held)) n _ _ g4
    obtain ⟨a5, k5, q5, _⟩ := opens_slice (fun _ _ _ _ _ => trivial) Tryz.underlying102 (by kernel_rfl) (opens_attr (enc := enc) (W := W) (base := base) (spare := spare) (held := held)) n _ _ g5
    obtain ⟨a6, k6, _⟩ := opens_int (enc := enc) (W := W) (base := base) (spare := spare) (held := held) Tryz.underlying3 n _ _ g6
    obtain ⟨a7, k7, _⟩ := opens_int (enc := enc) (W := W) (base := base) (spare := spare) (held := held) Tryz.underlying3 n _ _ g7
    refine ⟨⟨a0, a1, a2, a3, a4, a5, a6, a7⟩, ⟨_, _, rfl, k0, _, _, rfl, k1, _, _, rfl, k2, _, _, rfl, k3, _, _, rfl, k4, _, _, rfl, k5, _, _, rfl, k6, k7⟩, ?_⟩
    rw [hx1]
    show a2.length + a3.length + a4.length + a5.length ≤ _
    simp only [List.map_cons, List.map_nil, Rows.uptoBulk, Rows.uptoBulkAll]
    omega
set_option maxRecDepth 100000 in
/-- a tree that comes in -/
theorem tree_of_trod {v : Value} {d : DataW H} {p : List MemPlace} (h : DataW.Trod enc Tryz.prog W base spare held 24 v d p) {r : Go.Reach} {b0 : Nat} (hv : Value.okWide Tryz.prog W r b0 24 v) :
    ∃ (A : Option Addr) (c : Nat) (T : List S104), v = .agg #[.slice A T.length c] ∧ T.length ≤ c ∧ Kd.C k104 W A T.length T ∧ T.length ≤ Rows.uptoBulk d ∧ ∀ n ∈ T, n.f2.length + n.f3.length + n.f4.length + n.f5.length ≤ Rows.uptoBulk d := by
  obtain ⟨cs, rfl, hsz⟩ := okWide_struct Tryz.underlying24 hv
  have hc1 : Tryz.prog.cellsOf 24 = 1 := by kernel_rfl
  rw [hc1] at hsz
  obtain ⟨fuel, hf⟩ := h
  obtain ⟨xs, n, hx1, hl, hxl, hx⟩ := open_fields Tryz.underlying24 (by kernel_rfl) (by kernel_rfl) hf
  obtain ⟨u, rfl⟩ : ∃ u, cs = #[u] := by
    match cs, hsz with
    | ⟨[u]⟩, _ => exact ⟨u, rfl⟩
  match xs, hxl, hx1, hx with
  | [z0], _, hx1, hx =>
    obtain ⟨y0, e0, g0⟩ := hx 0 _ rfl
    have e0 : z0 = y0 := Option.some.inj e0
    subst e0
    obtain ⟨T, ⟨A, c, hk, hle, hC⟩, q1, q2⟩ := opens_slice (Q := InoQ) (fun _ _ _ h1 h2 => Nat.le_trans h2 h1) Tryz.underlying22 (by kernel_rfl) (opens_inode (enc := enc) (W := W) (base := base) (spare := spare) (held := held)) n _ _ g0
    have hu : u = .slice A T.length c := by
      have := List.cons.inj hk
      exact this.1
    subst hu
    have hx1 : d = .agg [z0.1] := hx1
    have hb : Rows.uptoBulk z0.1 ≤ Rows.uptoBulk d := by
      rw [hx1]; simp only [Rows.uptoBulk, Rows.uptoBulkAll]; omega
    exact ⟨A, c, T, rfl, hle, hC, Nat.le_trans q1 hb, fun n hn => Nat.le_trans (q2 n hn) hb⟩
end
end Go.Proofs.YtkmoeeaaolpdnaaGreatDoor
