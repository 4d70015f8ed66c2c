/-
 The walk of fstree.Usage: the sizes of what lies at or below each node.
 The walk of fstree.Validate: it answers with no fault just if a tree is in order.
 The walk of fstree.AllPaths: the sorted paths of a tree in order.
-/
import Derived.Sort.OwnSorted
import Derived.Test.YtkmoeeaaolpdnaaGreatDoorMD
namespace Go.Proofs.YtkmoeeaaolpdnaaGreatDoor
open Go.RowKit Go.Proofs.YtkmoeeaaolpdnaaGreatDoorW.PrintWords Go.Proofs.YtkmoeeaaolpdnaaGreatDoor.PTopFindsTwice

def useV (T : List S104) (i : Nat) : List (Nat × List ByteArray) := if (rd_T104 T (i : Int)).f0 = 0 then [] else TreePlain.visits (Ent T) (T.length + 1) i []
def usum (T : List S104) (vs : List (Nat × List ByteArray)) : Nat → Int
  | 0 => 0
  | k + 1 => usum T vs k + if seenV vs k = true then ((rd_T104 T (k : Int)).f3.length : Int) else 0
def useOf (T : List S104) (i : Nat) : Int := usum T (useV T i) T.length
def usesL (T : List S104) (k : Nat) : List Int := (List.range k).map (useOf T)
theorem usesL_len (T : List S104) (k : Nat) : (usesL T k).length = k := by simp [usesL]
theorem usesL_succ (T : List S104) (k : Nat) : usesL T (k + 1) = usesL T k ++ [useOf T k] := by simp [usesL, List.range_succ]
theorem dat_le {T : List S104} (hS : Sound T) {k : Nat} (hk : k < T.length) : (rd_T104 T (k : Int)).f3.length ≤ 200 := by
  have hs := hS.small _ (List.getElem_mem hk)
  have ho := hS.at_ hk
  rw [rdT_get T k hk] at ho ⊢
  obtain ⟨_, ⟨_, hz⟩ | ⟨_, _, _, _, _, _, hd, _⟩⟩ := ho
  · rw [(zero_none hz hs).2]; simp
  · exact hd
theorem usum_le {T : List S104} (hS : Sound T) (vs : List (Nat × List ByteArray)) : ∀ k, k ≤ T.length → 0 ≤ usum T vs k ∧ usum T vs k ≤ 200 * (k : Int) := by
  intro k
  induction k with
  | zero => intro _; exact ⟨Int.le_refl _, Int.le_refl _⟩
  | succ k ih =>
    intro hk
    have h1 := ih (by omega)
    have h2 := dat_le hS (show k < T.length by omega)
    unfold usum
    split <;> (constructor <;> omega)
theorem seen_reach {T : List S104} {i : Nat} (h : seenV (VS T) i = true) : ∃ a, TreePlain.Reach (Ent T) a i := by
  obtain ⟨v, hv, e⟩ := List.any_eq_true.1 h
  have := (TreePlain.mem_visits hv (a0 := []) TreePlain.Reach.root).1
  rw [beq_iff_eq.1 e] at this
  exact ⟨_, this⟩

theorem walku_calls {A : Option Addr} {c : Nat} {T : List S104} {w : World} (hT : Kd.C k104 w A T.length T) (hS : Sound T) (hG : TreePlain.Good (Ent T) T.length) (i : Nat) (hi : i < T.length) (a0 : List ByteArray) (hr : TreePlain.Reach (Ent T) a0 i) (b r : Nat) (W : World) (S : Nat → Prop)
    (hj : UseJ w.heap.size b r T.length W S []) (hb : Below w.heap.size w W) :
    Calls Tryz.prog 46 #[.agg #[.slice A T.length c], .int .i64 (i : Int), .slice none 0 0, .func (.func 94) #[] #[.pointer (some ⟨b, 0, none⟩)]] W
      fun e W' => e = .returned (.bool true) ∧ Left (UseJ w.heap.size b r T.length) w W S (TreePlain.visits (Ent T) (T.length + 1) i []) W' := by
  have hle := hS.le
  have h := walk_calls (M := 1000) (a0 := a0) (c := c) hT (by omega) hG (fun p => ⟨by have := (hS.range p).1; omega, fun e he => ((hS.range p).2 e he).2⟩) (enters_of Tryz.func94 (by kernel_rfl) rfl) (use_vis w.heap.size b r T.length)
    (fun W' S' vs n at_ v hj' hM hr hn hv hvS hb' => use_calls w b r T.length W' S' vs n at_ v hj' hn hb')
    (T.length + 1) i [] (.slice none 0 0) W S [] (by simp) (by simpa using hr) hi (by have := hS.few hG hr (T.length + 1); simpa using this) hj (own_nil _ _ _ _) (fun k hk => by cases hk) hb
  exact h

set_option maxHeartbeats 4000000 in
set_option maxRecDepth 100000 in
theorem usage_calls (A : Option Addr) (c : Nat) (T : List S104) (w : World) (hT : Kd.C k104 w A T.length T) (hS : Sound T) (hL : LinksOk T) (hSe : SeenOk T) :
    Calls Tryz.prog 72 #[.agg #[.slice A T.length c]] w fun e w' => ∃ v : Value, e = .returned v ∧ w'.ownsRow w.heap.size 3 1 v (usesL T T.length).length (nums .i64 (usesL T T.length)) ∧ Below w.heap.size w w' := by
  have HTr := Aside0.mk hT
  have HS := Aside0.mk hS
  have hN0 := hS.pos
  have hN1 := hS.le
  have HGood := Aside0.mk (good_of T (by omega) hS.small hS.ok hL)
  have HRE := Aside0.mk (show ∀ i, i < T.length → (rd_T104 T (i : Int)).f0 ≠ 0 → ∃ a, TreePlain.Reach (Ent T) a i from fun i hi h0 => seen_reach (hSe i hi h0))
  have HB0 := Aside0.mk (below_alloc (Below.refl w.heap.size w) (.cells #[.slice A T.length c] 24))
  have HBX := Aside0.mk (TBox.new w A T.length c)
  have htc := HBX.out.cell
  have hmk := print_make_of (P := Tryz.prog) 97 4 (.bool false) 1 Tryz.underlying97 info4 rfl (by decide) T.length (by omega)
  have HO0 := Aside0.mk (show (w.alloc (.cells #[.slice A T.length c] 24)).ownsRow w.heap.size 3 1 (.slice none 0 0) (usesL T 0).length (nums .i64 (usesL T 0)) from own_nil _ _ _ _)
  clear hT hS hL hSe
  go_enter Tryz.func72, Tryz.ntmps72
  go_wp2_with fail
  go_loopw [3, 12] (fun o i wr => ∃ k : Nat, k ≤ T.length ∧ i = .int .i64 k ∧ Aside0 (wr.ownsRow w.heap.size 3 1 o (usesL T k).length (nums .i64 (usesL T k))) ∧ Aside0 (TBox wr w.heap.size A T.length c) ∧ Aside0 (Below w.heap.size w wr)) (fun _ i _ => T.length - (intOf i).toNat)
  case atStart => exact ⟨0, Nat.zero_le _, rfl, HO0, HBX, HB0⟩
  case round =>
    clear htc HO0 HBX HB0
    obtain ⟨k, hk, rfl, HO, HX, HB⟩ := hrel
    by_cases hlt : k < T.length
    · have htc := HX.out.cell
      have hwl := HX.out.lt
      have HW2 := Aside0.mk (below_alloc (below_alloc (Below.refl wr.heap.size wr) (.cells (madeCells #[.bool false] T.length) 4)) (.cells #[.slice (some ⟨wr.heap.size, 0, none⟩) T.length T.length] 97))
      have htc2 := (HX.out.below HW2.out).cell
      obtain ⟨ad, A2, c2, A3, c3, A4, c4, A5, c5, rfl, i0, i1, i2, i3, i4, i5, i6, i7, _⟩ := at_T104 (Kd.C_below HTr.out (below_then HB.out HB.out.size HW2.out)) (k : Int) (by omega) (by omega)
      rw [Int.toNat_natCast] at i0
      have hk1 : (k : Int) < (T.length : Int) := by omega
      have hk2 : (0 : Int) ≤ (k : Int) := by omega
      clear i1 i2 i3 i4 i5 i6 i7
      have HMK0 : Aside0 (Marks w.heap.size (wr.heap.size + 1) wr.heap.size T.length ((wr.alloc (.cells (madeCells #[.bool false] T.length) 4)).alloc (.cells #[.slice (some ⟨wr.heap.size, 0, none⟩) T.length T.length] 97)) []) := ⟨by
        have s1 : (wr.alloc (.cells (madeCells #[.bool false] T.length) 4)).heap.size = wr.heap.size + 1 := World.size_alloc _ _
        have hsw := HB.out.size
        refine ⟨by omega, hsw, ?_, ?_⟩
        · have h := blk_new (wr.alloc (.cells (madeCells #[.bool false] T.length) 4)) (.cells #[.slice (some ⟨wr.heap.size, 0, none⟩) T.length T.length] 97)
          rw [s1] at h; exact h
        · rw [marks_nil]
          exact blk_alloc (blk_new wr _) _⟩
      have HUV := Aside0.mk (show useV T k = if (rd_T104 T (k : Int)).f0 = 0 then [] else TreePlain.visits (Ent T) (T.length + 1) k [] from rfl)
      have HUO := Aside0.mk (show useOf T k = usum T (useV T k) T.length from rfl)
      have HREk := Aside0.mk (HRE.out k hlt)
      generalize (rd_T104 T (k : Int)).f0 = kd at *
      by_cases hk0 : kd = 0
      · subst hk0
        have HUV' := Aside0.mk (show useV T k = [] by rw [HUV.out, if_pos rfl])
        have HMK := Aside0.mk (show Marks w.heap.size (wr.heap.size + 1) wr.heap.size T.length ((wr.alloc (.cells (madeCells #[.bool false] T.length) 4)).alloc (.cells #[.slice (some ⟨wr.heap.size, 0, none⟩) T.length T.length] 97)) (useV T k) by rw [HUV'.out]; exact HMK0.out)
        have HX5 := Aside0.mk (HX.out.below HW2.out)
        have HO5 := Aside0.mk (pw_own_below HO.out HW2.out)
        have HB5 := Aside0.mk (below_then HB.out HB.out.size HW2.out)
        clear HUV HUV' HMK0 HREk HX HO HB HW2
        have hcb5 := (blk_cell HMK.out.cell 0).trans rfl
        go_wp2_with fail
        go_loopw [6, 32] (fun s i wq => ∃ j : Nat, j ≤ T.length ∧ i = .int .i64 j ∧ s = .int .i64 (usum T (useV T k) j) ∧ Aside0 (Below ((wr.alloc (.cells (madeCells #[.bool false] T.length) 4)).alloc (.cells #[.slice (some ⟨wr.heap.size, 0, none⟩) T.length T.length] 97)).heap.size ((wr.alloc (.cells (madeCells #[.bool false] T.length) 4)).alloc (.cells #[.slice (some ⟨wr.heap.size, 0, none⟩) T.length T.length] 97)) wq)) (fun _ i _ => T.length - (intOf i).toNat)
        case atStart => exact ⟨0, Nat.zero_le _, rfl, rfl, ⟨Below.refl _ _⟩⟩
        case round =>
          clear hcb5
          obtain ⟨j, hj, rfl, rfl, HBq⟩ := hrel
          by_cases hltj : j < T.length
          · have hmj := (HMK.out.move (fun q hq => HBq.out.block q (by rcases hq with rfl | rfl <;> first | exact blk_lt HMK.out.cell | exact blk_lt HMK.out.row))).at_ j hltj
            have htcq := (HX5.out.below HBq.out).cell
            have hus := usum_le HS.out (useV T k) j hj
            have hda := dat_le HS.out hltj
            have hst : usum T (useV T k) (j + 1) = usum T (useV T k) j + if seenV (useV T k) j = true then ((rd_T104 T (j : Int)).f3.length : Int) else 0 := rfl
            obtain ⟨ad9, B2, d2, B3, d3, B4, d4, B5, d5, e9, _, _, _, j3, _⟩ := at_T104 (Kd.C_below HTr.out (below_then HB5.out HB5.out.size HBq.out)) (j : Int) (by omega) (by omega)
            obtain rfl : ad = ad9 := by injection e9
            rw [Int.toNat_natCast] at j3
            clear e9
            have hJ1 : (j : Int) < (T.length : Int) := by omega
            have hJ2 : (0 : Int) ≤ (j : Int) := by omega
            generalize (rd_T104 T (j : Int)).f3.length = dl at *
            generalize usum T (useV T k) j = us at *
            cases hsv : seenV (useV T k) j with
            | true =>
              rw [hsv] at hmj
              rw [hsv, if_pos rfl] at hst
              have hi1 : IntKind.i64.wrap (us + (dl : Int)) = us + (dl : Int) := IntWalk.i64_in _ (by omega)
              have HST := Aside0.mk hst
              have HDA := Aside0.mk hda
              have HUS := Aside0.mk hus
              clear hst hsv hda hus
              go_wp2
              go_roundw
              case rel => exact ⟨j + 1, by omega, by go_num, by rw [HST.out], HBq⟩
              case measure => simp [intOf]; omega
            | false =>
              rw [hsv] at hmj
              rw [hsv, if_neg (by decide)] at hst
              have HST := Aside0.mk hst
              clear hst hsv hda hus
              go_wp2
              go_roundw
              case rel => exact ⟨j + 1, by omega, by go_num, by rw [HST.out, Int.add_zero], HBq⟩
              case measure => simp [intOf]; omega
          · obtain rfl : j = T.length := by omega
            have HOq := Aside0.mk (pw_own_below HO5.out HBq.out)
            have HXq := Aside0.mk (HX5.out.below HBq.out)
            have HBw := Aside0.mk (below_then HB5.out HB5.out.size HBq.out)
            rw [← HUO.out]
            go_wp2_with (at_builtin; refine print_append_num (w0 := w) w.heap.size rfl _ _ 27 3 .i64 8 rfl Tryz.underlying27 info3 (by decide) u3 (usesL T k) (useOf T k) rfl rfl HOq.out HBw.out HBw.out.size (by rw [usesL_len]; omega) ?_; intro v1 w7 ho7 hb7 hg7 _)
            have HO7 := Aside0.mk ho7
            have HB7 := Aside0.mk hb7
            have HX7 : Aside0 (TBox w7 w.heap.size (some ad) T.length c) := ⟨⟨blk_grown HXq.out.blk hg7 (own_ne HOq.out HXq.out.blk (by decide))⟩⟩
            clear ho7 hb7 hg7
            go_roundw
            case rel => exact ⟨k + 1, by omega, by go_num, ⟨by rw [usesL_succ]; exact HO7.out⟩, HX7, HB7⟩
            case measure => simp [intOf]; omega
      · have hkb : (kd == 0) = false := beq_eq_false_iff_ne.2 hk0
        have hkb2 : (kd != 0) = true := by rw [bne, hkb]; rfl
        have HCW : Aside0 (Calls Tryz.prog 46 #[.agg #[.slice (some ad) T.length c], .int .i64 (k : Int), .slice none 0 0, .func (.func 94) #[] #[.pointer (some ⟨wr.heap.size + 1, 0, none⟩)]]
            ((wr.alloc (.cells (madeCells #[.bool false] T.length) 4)).alloc (.cells #[.slice (some ⟨wr.heap.size, 0, none⟩) T.length T.length] 97))
            fun e w5 => e = .returned (.bool true) ∧ Marks w.heap.size (wr.heap.size + 1) wr.heap.size T.length w5 (useV T k) ∧ TBox w5 w.heap.size (some ad) T.length c ∧ w5.ownsRow w.heap.size 3 1 u3 (usesL T k).length (nums .i64 (usesL T k)) ∧ Below w.heap.size w w5) := ⟨by
          obtain ⟨a0, hr⟩ := HREk.out hk0
          refine (walku_calls HTr.out HS.out HGood.out k hlt a0 hr _ _ _ _ ⟨rfl, HMK0.out⟩ (below_then HB.out HB.out.size HW2.out)).mono ?_
          rintro e w5 ⟨he, S', ⟨_, hm5⟩, hkp, _, hb5⟩
          refine ⟨he, by rw [HUV.out, if_neg hk0]; exact hm5, ⟨blk_kept (HX.out.below HW2.out).blk hkp ?_⟩, own_move (pw_own_below HO.out HW2.out) (fun q hq => ?_), hb5⟩
          · rintro (h | h) <;> omega
          · have h1 := own_lt HO.out q hq
            refine hkp.2 q (Nat.lt_of_lt_of_le h1 HW2.out.size) ?_
            rintro (h | h) <;> omega⟩
        clear hk0
        go_wp2_with fail
        refine HCW.out.mono ?_
        rintro e w5 ⟨rfl, hm5, hx5, ho5, hb5⟩
        have HMK := Aside0.mk hm5
        have HX5 := Aside0.mk hx5
        have HO5 := Aside0.mk ho5
        have HB5 := Aside0.mk hb5
        clear hm5 hx5 ho5 hb5 HCW HUV HMK0 HREk HX HO HB HW2 htc htc2 i0
        have hcb5 := (blk_cell HMK.out.cell 0).trans rfl
        go_wp2_with fail
        go_loopw [6, 32] (fun s i wq => ∃ j : Nat, j ≤ T.length ∧ i = .int .i64 j ∧ s = .int .i64 (usum T (useV T k) j) ∧ Aside0 (Below w5.heap.size w5 wq)) (fun _ i _ => T.length - (intOf i).toNat)
        case atStart => exact ⟨0, Nat.zero_le _, rfl, rfl, ⟨Below.refl _ _⟩⟩
        case round =>
          clear hcb5
          obtain ⟨j, hj, rfl, rfl, HBq⟩ := hrel
          by_cases hltj : j < T.length
          · have hmj := (HMK.out.move (fun q hq => HBq.out.block q (by rcases hq with rfl | rfl <;> first | exact blk_lt HMK.out.cell | exact blk_lt HMK.out.row))).at_ j hltj
            have htcq := (HX5.out.below HBq.out).cell
            have hus := usum_le HS.out (useV T k) j hj
            have hda := dat_le HS.out hltj
            have hst : usum T (useV T k) (j + 1) = usum T (useV T k) j + if seenV (useV T k) j = true then ((rd_T104 T (j : Int)).f3.length : Int) else 0 := rfl
            obtain ⟨ad9, B2, d2, B3, d3, B4, d4, B5, d5, e9, _, _, _, j3, _⟩ := at_T104 (Kd.C_below HTr.out (below_then HB5.out HB5.out.size HBq.out)) (j : Int) (by omega) (by omega)
            obtain rfl : ad = ad9 := by injection e9
            rw [Int.toNat_natCast] at j3
            clear e9
            have hJ1 : (j : Int) < (T.length : Int) := by omega
            have hJ2 : (0 : Int) ≤ (j : Int) := by omega
            generalize (rd_T104 T (j : Int)).f3.length = dl at *
            generalize usum T (useV T k) j = us at *
            cases hsv : seenV (useV T k) j with
            | true =>
              rw [hsv] at hmj
              rw [hsv, if_pos rfl] at hst
              have hi1 : IntKind.i64.wrap (us + (dl : Int)) = us + (dl : Int) := IntWalk.i64_in _ (by omega)
              have HST := Aside0.mk hst
              have HDA := Aside0.mk hda
              have HUS := Aside0.mk hus
              clear hst hsv hda hus
              go_wp2
              go_roundw
              case rel => exact ⟨j + 1, by omega, by go_num, by rw [HST.out], HBq⟩
              case measure => simp [intOf]; omega
            | false =>
              rw [hsv] at hmj
              rw [hsv, if_neg (by decide)] at hst
              have HST := Aside0.mk hst
              clear hst hsv hda hus
              go_wp2
              go_roundw
              case rel => exact ⟨j + 1, by omega, by go_num, by rw [HST.out, Int.add_zero], HBq⟩
              case measure => simp [intOf]; omega
          · obtain rfl : j = T.length := by omega
            have HOq := Aside0.mk (pw_own_below HO5.out HBq.out)
            have HXq := Aside0.mk (HX5.out.below HBq.out)
            have HBw := Aside0.mk (below_then HB5.out HB5.out.size HBq.out)
            rw [← HUO.out]
            go_wp2_with (at_builtin; refine print_append_num (w0 := w) w.heap.size rfl _ _ 27 3 .i64 8 rfl Tryz.underlying27 info3 (by decide) u3 (usesL T k) (useOf T k) rfl rfl HOq.out HBw.out HBw.out.size (by rw [usesL_len]; omega) ?_; intro v1 w7 ho7 hb7 hg7 _)
            have HO7 := Aside0.mk ho7
            have HB7 := Aside0.mk hb7
            have HX7 : Aside0 (TBox w7 w.heap.size (some ad) T.length c) := ⟨⟨blk_grown HXq.out.blk hg7 (own_ne HOq.out HXq.out.blk (by decide))⟩⟩
            clear ho7 hb7 hg7
            go_roundw
            case rel => exact ⟨k + 1, by omega, by go_num, ⟨by rw [usesL_succ]; exact HO7.out⟩, HX7, HB7⟩
            case measure => simp [intOf]; omega
    · obtain rfl : k = T.length := by omega
      go_wp2
      go_ret
      exact ⟨_, rfl, HO.out, HB.out⟩
end Go.Proofs.YtkmoeeaaolpdnaaGreatDoor

namespace Go.Proofs.YtkmoeeaaolpdnaaGreatDoor
open Go.RowKit Go.Proofs.YtkmoeeaaolpdnaaGreatDoorW.PrintWords Go.Proofs.YtkmoeeaaolpdnaaGreatDoor.PTopFindsTwice

def QuotaOk (T : List S104) : Prop := ∀ i : Nat, i < T.length → ¬ (0 < (rd_T104 T (i : Int)).f6 ∧ (rd_T104 T (i : Int)).f6 < useOf T i)
structure Valid (T : List S104) : Prop where
  pos : 0 < T.length
  le : T.length ≤ 40
  root : (rd_T104 T 0).f0 = 1
  ok : ∀ n ∈ T, InodeOk T n
  links : LinksOk T
  seen : SeenOk T
  long : LongOk T
  quota : QuotaOk T
theorem Valid.sound {T : List S104} (h : Valid T) (hs : Small T) : Sound T := ⟨h.pos, h.le, hs, h.ok⟩
theorem Valid.good {T : List S104} (h : Valid T) (hs : Small T) : TreePlain.Good (Ent T) T.length := good_of T (by have := h.le; omega) hs h.ok h.links
theorem all_at {T : List S104} {P : S104 → Prop} (h : ∀ j : Nat, j < T.length → P (rd_T104 T (j : Int))) : ∀ n ∈ T, P n := by
  intro n hn
  obtain ⟨j, hj, rfl⟩ := List.mem_iff_getElem.1 hn
  rw [← rdT_get T j hj]
  exact h j hj

set_option maxHeartbeats 4000000 in
set_option maxRecDepth 100000 in
theorem validate_calls (A : Option Addr) (c : Nat) (T : List S104) (w : World) (hT : Kd.C k104 w A T.length T) (hc : T.length ≤ c) (hTm : T.length ≤ 1000000000) (hsm : Small T) :
    Calls Tryz.prog 45 #[.agg #[.slice A T.length c]] w fun e w' => FltAns (Valid T) e ∧ Below w.heap.size w w' := by
  have HTr := Aside0.mk hT
  have HSM := Aside0.mk hsm
  have HC := Aside0.mk hc
  have HB0 := Aside0.mk (below_alloc (below_alloc (Below.refl w.heap.size w) (.cells #[.slice A T.length c] 24)) (.cells #[.int .i64 0, .int .i64 0] 40))
  have HSZ := Aside0.mk (show (w.alloc (.cells #[.slice A T.length c] 24)).heap.size = w.heap.size + 1 from World.size_alloc _ _)
  have HBX := Aside0.mk ((TBox.new w A T.length c).below (below_alloc (Below.refl _ _) (.cells #[.int .i64 0, .int .i64 0] 40)))
  have HTW := Aside0.mk (Two.new (w.alloc (.cells #[.slice A T.length c] 24)) (.int .i64 0) (.int .i64 0))
  rw [HSZ.out] at HTW
  clear hT hc hsm
  by_cases hz : T.length = 0
  · obtain rfl : T = [] := List.eq_nil_of_length_eq_zero hz
    have HN := Aside0.mk (show ¬ Valid [] from fun h => absurd h.pos (Nat.lt_irrefl 0))
    have HTc := HTW
    have HBc := HB0
    go_enter Tryz.func45, Tryz.ntmps45
    go_wp2_with fail
    refine (ffault_calls 6 0 _).mono ?_
    rintro e wf ⟨rfl, hbf⟩
    have T3 := HTc.out.below hbf
    obtain ⟨⟨ht0, ht1⟩, hg0, hg1⟩ := T3.cells
    have HBf := Aside0.mk (below_then HBc.out HBc.out.size hbf)
    clear hbf T3 HTc HBc
    go_wp2
    exact bodyPost_ret (v := fltV 6 0) (by simp [results, Tryz.results45, go_sem, ht0, ht1]) rfl ⟨⟨_, _, rfl, Or.inr ⟨by decide, HN.out⟩⟩, Two.upper HBf.out (by omega)⟩
  · have hz2 : ((T.length : Int) == 0) = false := beq_eq_false_iff_ne.2 (by omega)
    have hN0 : 0 < T.length := by omega
    have HZ := Aside0.mk hz
    clear hz
    by_cases h40 : 40 < T.length
    · have HN := Aside0.mk (show ¬ Valid T from fun h => by have := h.le; omega)
      have HTc := HTW
      have HBc := HB0
      go_enter Tryz.func45, Tryz.ntmps45
      go_wp2_with fail
      refine (ffault_calls 2 0 _).mono ?_
      rintro e wf ⟨rfl, hbf⟩
      have T3 := HTc.out.below hbf
      obtain ⟨⟨ht0, ht1⟩, hg0, hg1⟩ := T3.cells
      have HBf := Aside0.mk (below_then HBc.out HBc.out.size hbf)
      clear hbf T3 HTc HBc
      go_wp2
      exact bodyPost_ret (v := fltV 2 0) (by simp [results, Tryz.results45, go_sem, ht0, ht1]) rfl ⟨⟨_, _, rfl, Or.inr ⟨by decide, HN.out⟩⟩, Two.upper HBf.out (by omega)⟩
    · obtain ⟨ad, A2, c2, A3, c3, A4, c4, A5, c5, rfl, i0, _⟩ := at_T104 (Kd.C_below HTr.out HB0.out) (0 : Int) (Int.le_refl _) (by omega)
      have hadd : ad.add 0 = ad := by unfold Addr.add; simp
      simp only [Int.toNat_zero, Nat.zero_mul] at i0
      rw [hadd] at i0
      clear hadd
      have hN1 : (0 : Int) < (T.length : Int) := by omega
      by_cases hk0 : (rd_T104 T 0).f0 = 1
      · have HK0 := Aside0.mk hk0
        rw [hk0] at i0
        clear hk0
        go_enter Tryz.func45, Tryz.ntmps45
        go_wp2_with fail
        go_loopw [33] (fun i wr => ∃ k : Nat, k ≤ T.length ∧ i = .int .i64 k ∧ Aside0 (∀ j : Nat, j < k → InodeOk T (rd_T104 T (j : Int))) ∧ Aside0 (TBox wr w.heap.size (some ad) T.length c) ∧ Aside0 (Two wr (w.heap.size + 1) (.int .i64 0) (.int .i64 0)) ∧ Aside0 (Below w.heap.size w wr)) (fun i _ => T.length - (intOf i).toNat)
        case atStart => exact ⟨0, Nat.zero_le _, rfl, ⟨fun j hj => by omega⟩, HBX, HTW, HB0⟩
        case round =>
          clear i0
          obtain ⟨k, hk, rfl, HG, HX, HTWr, HBr⟩ := hrel
          clear HBX HTW HB0
          by_cases hlt : k < T.length
          · obtain ⟨ad9, A2, c2, A3, c3, A4, c4, A5, c5, e9, i0, i1, i2, i3, i4, i5, i6, i7, l2, g2, l3, g3, l4, g4, l5, g5⟩ := at_T104 HTr.out (k : Int) (by omega) (by omega)
            obtain rfl : ad = ad9 := by injection e9
            rw [Int.toNat_natCast] at i0 i1 i2 i3 i4 i5 i6 i7
            clear e9
            replace i0 := pw_cell_below HBr.out i0
            replace i1 := pw_cell_below HBr.out i1
            replace i2 := pw_cell_below HBr.out i2
            replace i3 := pw_cell_below HBr.out i3
            replace i4 := pw_cell_below HBr.out i4
            replace i5 := pw_cell_below HBr.out i5
            replace i6 := pw_cell_below HBr.out i6
            replace i7 := pw_cell_below HBr.out i7
            have hk1 : (k : Int) < (T.length : Int) := by omega
            have HIC : Aside0 (∀ W, Below w.heap.size w W → Calls Tryz.prog 70 #[.agg #[.slice (some ad) T.length c], .agg #[.int .i64 (rd_T104 T (k : Int)).f0, .int .i64 (rd_T104 T (k : Int)).f1, .slice A2 (rd_T104 T (k : Int)).f2.length c2, .slice A3 (rd_T104 T (k : Int)).f3.length c3, .slice A4 (rd_T104 T (k : Int)).f4.length c4, .slice A5 (rd_T104 T (k : Int)).f5.length c5, .int .i64 (rd_T104 T (k : Int)).f6, .int .i64 (rd_T104 T (k : Int)).f7]] W fun e w' => CodeAns (InodeOk T (rd_T104 T (k : Int))) e ∧ Below W.heap.size W w') :=
              ⟨fun W hW => inode_calls (some ad) c T (rd_T104 T (k : Int)) A2 A3 A4 A5 c2 c3 c4 c5 W (Kd.C_below HTr.out hW) (by omega) l2 (Kd.C_below g2 hW) l3 (Kd.C_below g3 hW) l4 (Kd.C_below g4 hW) l5 (Kd.C_below g5 hW)⟩
            have HNOT := Aside0.mk (show ¬ InodeOk T (rd_T104 T (k : Int)) → ¬ Valid T from fun h g => h (by rw [rdT_get T k hlt]; exact g.ok _ (List.getElem_mem hlt)))
            have HGO := Aside0.mk (show InodeOk T (rd_T104 T (k : Int)) → ∀ j : Nat, j < k + 1 → InodeOk T (rd_T104 T (j : Int)) from fun h j hj => by
              by_cases e : j = k
              · rw [e]; exact h
              · exact HG.out j (by omega))
            clear l2 g2 l3 g3 l4 g4 l5 g5
            generalize InodeOk T (rd_T104 T (k : Int)) = ok at HIC HNOT HGO
            generalize rd_T104 T (k : Int) = a at *
            obtain ⟨kd, ow, ents, dat, acl, att, qu, ve⟩ := a
            simp only at i0 i1 i2 i3 i4 i5 i6 i7 HIC
            have HX3 := Aside0.mk (HX.out.below (below_alloc (Below.refl _ _) (.cells #[.int .i64 kd, .int .i64 ow, .slice A2 ents.length c2, .slice A3 dat.length c3, .slice A4 acl.length c4, .slice A5 att.length c5, .int .i64 qu, .int .i64 ve] 104)))
            have HT3 := Aside0.mk (HTWr.out.below (below_alloc (Below.refl _ _) (.cells #[.int .i64 kd, .int .i64 ow, .slice A2 ents.length c2, .slice A3 dat.length c3, .slice A4 acl.length c4, .slice A5 att.length c5, .int .i64 qu, .int .i64 ve] 104)))
            have HB3 := Aside0.mk (below_then HBr.out HBr.out.size (below_alloc (Below.refl _ _) (.cells #[.int .i64 kd, .int .i64 ow, .slice A2 ents.length c2, .slice A3 dat.length c3, .slice A4 acl.length c4, .slice A5 att.length c5, .int .i64 qu, .int .i64 ve] 104)))
            have htc := HX3.out.cell
            have hwl := HX.out.lt
            clear HX HTWr HBr HG
            go_wp2_with fail
            refine (HIC.out _ HB3.out).mono ?_
            rintro e w5 ⟨⟨cd, rfl, ha⟩, hb5⟩
            have HX5 := Aside0.mk (HX3.out.below hb5)
            have HTc := Aside0.mk (HT3.out.below hb5)
            have HBc := Aside0.mk (below_then HB3.out HB3.out.size hb5)
            clear hb5 HX3 HT3 HB3 HIC htc hwl
            rcases ha with ⟨rfl, ha⟩ | ⟨hcd, ha⟩
            · have HY := Aside0.mk (HGO.out ha)
              clear HGO HNOT ha
              go_wp2
              go_roundw
              case rel => exact ⟨k + 1, by omega, by go_num, HY, HX5, HTc, HBc⟩
              case measure => simp [intOf]; omega
            · have HN := Aside0.mk (HNOT.out ha)
              have HCD := Aside0.mk hcd
              have hc1 : (cd == 0) = false := beq_eq_false_iff_ne.2 hcd
              have hc2 : (cd != 0) = true := by rw [bne, hc1]; rfl
              clear hcd ha HGO HNOT
              go_wp2_with fail
              refine (ffault_calls cd (k : Int) _).mono ?_
              rintro e wf ⟨rfl, hbf⟩
              have T3 := HTc.out.below hbf
              obtain ⟨⟨ht0, ht1⟩, hg0, hg1⟩ := T3.cells
              have HBf := Aside0.mk (below_then HBc.out HBc.out.size hbf)
              clear hbf T3 HTc HBc
              go_wp2
              exact bodyPost_ret (v := fltV cd (k : Int)) (by simp [results, Tryz.results45, go_sem, ht0, ht1]) rfl ⟨⟨_, _, rfl, Or.inr ⟨HCD.out, HN.out⟩⟩, Two.upper HBf.out (by omega)⟩
          · obtain rfl : k = T.length := by omega
            have HSo := Aside0.mk (show Sound T from ⟨hN0, by omega, HSM.out, all_at HG.out⟩)
            have htc := HX.out.cell
            clear HG
            go_wp2_with fail
            refine (vlinks_calls (some ad) c T _ (Kd.C_below HTr.out HBr.out) HC.out HSo.out).mono ?_
            rintro e w5 ⟨⟨cd, ix, rfl, ha⟩, hb5⟩
            have HX5 := Aside0.mk (HX.out.below hb5)
            have HT5 := Aside0.mk (HTWr.out.below hb5)
            have HB5 := Aside0.mk (below_then HBr.out HBr.out.size hb5)
            clear hb5 HX HTWr HBr htc
            rcases ha with ⟨rfl, rfl, ha⟩ | ⟨hcd, ha⟩
            · have HV := Aside0.mk ha
              clear ha
              have HX6 := Aside0.mk (HX5.out.below (below_alloc (Below.refl _ _) (.cells #[.int .i64 0, .int .i64 0] 40)))
              have HT6 := Aside0.mk (HT5.out.below (below_alloc (Below.refl _ _) (.cells #[.int .i64 0, .int .i64 0] 40)))
              have HB6 := Aside0.mk (below_then HB5.out HB5.out.size (below_alloc (Below.refl _ _) (.cells #[.int .i64 0, .int .i64 0] 40)))
              have htc := HX6.out.cell
              have hwl := HX5.out.lt
              clear HX5 HT5 HB5
              go_wp2_with fail
              refine (usage_calls (some ad) c T _ (Kd.C_below HTr.out HB6.out) HSo.out HV.out.1 HV.out.2.1).mono ?_
              rintro e w7 ⟨vU, rfl, ho, hb7⟩
              have HX7 := Aside0.mk (HX6.out.below hb7)
              have HT7 := Aside0.mk (HT6.out.below hb7)
              have HB7 := Aside0.mk (below_then HB6.out HB6.out.size hb7)
              rw [usesL_len] at ho
              obtain ⟨gU, cU, rfl, _, _⟩ := ho.form hN0
              have HKU : Aside0 (∀ wr, Below w7.heap.size w7 wr → ∀ j : Nat, j < T.length → wr.cell? ⟨gU, j, none⟩ = some (.int .i64 (useOf T j))) := ⟨fun wr hwr j hj => by
                have h := ho.cells (g := gU) rfl j (.int .i64 (useOf T j)) (by simp [nums, usesL, List.getElem?_map, List.getElem?_range hj])
                rw [add_plain] at h
                exact pw_cell_below hwr h⟩
              clear ho hb7 HX6 HT6 HB6 htc hwl
              go_wp2_with fail
              go_loopw [56] (fun i wr => ∃ k : Nat, k ≤ T.length ∧ i = .int .i64 k ∧ Aside0 (∀ j : Nat, j < k → ¬ (0 < (rd_T104 T (j : Int)).f6 ∧ (rd_T104 T (j : Int)).f6 < useOf T j)) ∧ Aside0 (Below w7.heap.size w7 wr)) (fun i _ => T.length - (intOf i).toNat)
              case atStart => exact ⟨0, Nat.zero_le _, rfl, ⟨fun j hj => by omega⟩, ⟨Below.refl _ _⟩⟩
              case round =>
                obtain ⟨k, hk, rfl, HG, HBr⟩ := hrel
                by_cases hlt : k < T.length
                · obtain ⟨ad9, A2, c2, A3, c3, A4, c4, A5, c5, e9, i0, i1, i2, i3, i4, i5, i6, i7, _⟩ := at_T104 (Kd.C_below HTr.out (below_then HB7.out HB7.out.size HBr.out)) (k : Int) (by omega) (by omega)
                  obtain rfl : ad = ad9 := by injection e9
                  rw [Int.toNat_natCast] at i0 i1 i2 i3 i4 i5 i6 i7
                  clear e9
                  have hku := HKU.out wr HBr.out k hlt
                  have hk1 : (k : Int) < (T.length : Int) := by omega
                  have HNOT := Aside0.mk (show (0 < (rd_T104 T (k : Int)).f6 ∧ (rd_T104 T (k : Int)).f6 < useOf T k) → ¬ Valid T from fun h g => g.quota k hlt h)
                  have HGO := Aside0.mk (show ¬ (0 < (rd_T104 T (k : Int)).f6 ∧ (rd_T104 T (k : Int)).f6 < useOf T k) → ∀ j : Nat, j < k + 1 → ¬ (0 < (rd_T104 T (j : Int)).f6 ∧ (rd_T104 T (j : Int)).f6 < useOf T j) from fun h j hj => by
                    by_cases e : j = k
                    · rw [e]; exact h
                    · exact HG.out j (by omega))
                  have htc := (HX7.out.below HBr.out).cell
                  have HTc := Aside0.mk ((HT7.out.below HBr.out).below (below_alloc (Below.refl _ _) (.cells #[.int .i64 (rd_T104 T (k : Int)).f0, .int .i64 (rd_T104 T (k : Int)).f1, .slice A2 (rd_T104 T (k : Int)).f2.length c2, .slice A3 (rd_T104 T (k : Int)).f3.length c3, .slice A4 (rd_T104 T (k : Int)).f4.length c4, .slice A5 (rd_T104 T (k : Int)).f5.length c5, .int .i64 (rd_T104 T (k : Int)).f6, .int .i64 (rd_T104 T (k : Int)).f7] 104)))
                  have HB8 := Aside0.mk (below_alloc HBr.out (.cells #[.int .i64 (rd_T104 T (k : Int)).f0, .int .i64 (rd_T104 T (k : Int)).f1, .slice A2 (rd_T104 T (k : Int)).f2.length c2, .slice A3 (rd_T104 T (k : Int)).f3.length c3, .slice A4 (rd_T104 T (k : Int)).f4.length c4, .slice A5 (rd_T104 T (k : Int)).f5.length c5, .int .i64 (rd_T104 T (k : Int)).f6, .int .i64 (rd_T104 T (k : Int)).f7] 104))
                  have HBc := Aside0.mk (below_then HB7.out HB7.out.size HB8.out)
                  generalize useOf T k = us at hku HNOT HGO
                  generalize rd_T104 T (k : Int) = a at *
                  obtain ⟨kd, ow, ents, dat, acl, att, qu, ve⟩ := a
                  simp only at i0 i1 i2 i3 i4 i5 i6 i7 HNOT HGO
                  by_cases hq : 0 < qu
                  · by_cases hq2 : qu < us
                    · have HN := Aside0.mk (HNOT.out ⟨hq, hq2⟩)
                      clear HNOT HGO
                      go_wp2_with fail
                      refine (ffault_calls 14 (k : Int) _).mono ?_
                      rintro e wf ⟨rfl, hbf⟩
                      have T3 := HTc.out.below hbf
                      obtain ⟨⟨ht0, ht1⟩, hg0, hg1⟩ := T3.cells
                      have HBf := Aside0.mk (below_then HBc.out HBc.out.size hbf)
                      clear hbf T3 HTc HBc
                      go_wp2
                      exact bodyPost_ret (v := fltV 14 (k : Int)) (by simp [results, Tryz.results45, go_sem, ht0, ht1]) rfl ⟨⟨_, _, rfl, Or.inr ⟨by decide, HN.out⟩⟩, Two.upper HBf.out (by omega)⟩
                    · have HY := Aside0.mk (HGO.out fun h => hq2 h.2)
                      clear HNOT HGO HTc HBc
                      go_wp2
                      go_roundw
                      case rel => exact ⟨k + 1, by omega, by go_num, HY, HB8⟩
                      case measure => simp [intOf]; omega
                  · have HY := Aside0.mk (HGO.out fun h => hq h.1)
                    clear HNOT HGO HTc HBc
                    go_wp2
                    go_roundw
                    case rel => exact ⟨k + 1, by omega, by go_num, HY, HB8⟩
                    case measure => simp [intOf]; omega
                · obtain rfl : k = T.length := by omega
                  have HY := Aside0.mk (show Valid T from ⟨hN0, by omega, HK0.out, HSo.out.ok, HV.out.1, HV.out.2.1, HV.out.2.2, HG.out⟩)
                  have T3 := HT7.out.below HBr.out
                  obtain ⟨⟨ht0, ht1⟩, hg0, hg1⟩ := T3.cells
                  have HBf := Aside0.mk (below_then HB7.out HB7.out.size HBr.out)
                  clear T3 HG HBr
                  go_wp2
                  exact bodyPost_ret (v := fltV 0 0) (by simp [results, Tryz.results45, go_sem, ht0, ht1]) rfl ⟨⟨_, _, rfl, Or.inl ⟨rfl, rfl, HY.out⟩⟩, Two.upper HBf.out (by omega)⟩
            · have HN := Aside0.mk (show ¬ Valid T from fun h => ha ⟨h.links, h.seen, h.long⟩)
              have HCD := Aside0.mk hcd
              have hc1 : (cd == 0) = false := beq_eq_false_iff_ne.2 hcd
              have hc2 : (cd != 0) = true := by rw [bne, hc1]; rfl
              have T3 := HT5.out.below (below_alloc (Below.refl _ _) (.cells #[.int .i64 cd, .int .i64 ix] 40))
              obtain ⟨⟨ht0, ht1⟩, hg0, hg1⟩ := T3.cells
              have HBf := Aside0.mk (below_then HB5.out HB5.out.size (below_alloc (Below.refl _ _) (.cells #[.int .i64 cd, .int .i64 ix] 40)))
              clear hcd ha T3 HT5 HB5
              go_wp2
              exact bodyPost_ret (v := fltV cd ix) (by simp [results, Tryz.results45, go_sem, ht0, ht1]) rfl ⟨⟨_, _, rfl, Or.inr ⟨HCD.out, HN.out⟩⟩, Two.upper HBf.out (by omega)⟩
      · have HN := Aside0.mk (show ¬ Valid T from fun h => hk0 h.root)
        have hkb : ((rd_T104 T 0).f0 == 1) = false := beq_eq_false_iff_ne.2 hk0
        have hkb2 : ((rd_T104 T 0).f0 != 1) = true := by rw [bne, hkb]; rfl
        clear hk0
        generalize (rd_T104 T 0).f0 = kd at *
        have HTc := HTW
        have HBc := HB0
        go_enter Tryz.func45, Tryz.ntmps45
        go_wp2_with fail
        refine (ffault_calls 8 0 _).mono ?_
        rintro e wf ⟨rfl, hbf⟩
        have T3 := HTc.out.below hbf
        obtain ⟨⟨ht0, ht1⟩, hg0, hg1⟩ := T3.cells
        have HBf := Aside0.mk (below_then HBc.out HBc.out.size hbf)
        clear hbf T3 HTc HBc
        go_wp2
        exact bodyPost_ret (v := fltV 8 0) (by simp [results, Tryz.results45, go_sem, ht0, ht1]) rfl ⟨⟨_, _, rfl, Or.inr ⟨by decide, HN.out⟩⟩, Two.upper HBf.out (by omega)⟩

end Go.Proofs.YtkmoeeaaolpdnaaGreatDoor

namespace Go.Proofs.YtkmoeeaaolpdnaaGreatDoor
open Go.RowKit Go.Sort Go.Proofs.YtkmoeeaaolpdnaaGreatDoorW.PrintWords Go.Proofs.YtkmoeeaaolpdnaaGreatDoor.PTopFindsTwice

def sortB (xs : List ByteArray) : List ByteArray := ((xs.map (·.data.toList)).mergeSort fun x y => decide (x ≤ y)).map fun l => ⟨l.toArray⟩
theorem sortB_len (xs : List ByteArray) : (sortB xs).length = xs.length := by simp [sortB]
theorem enc_strs (xs : List ByteArray) : (xs.map (·.data.toList)).map encStr = encs Value.string xs := by
  unfold encs
  rw [List.map_map]
  apply List.map_congr_left
  intro x _
  rfl
theorem enc_sorted (xs : List ByteArray) : ((xs.map (·.data.toList)).mergeSort fun x y => decide (x ≤ y)).map encStr = encs Value.string (sortB xs) := by
  unfold encs sortB
  rw [List.map_map]
  rfl
theorem sort_own (v : Value) (B : Nat) (xs : List ByteArray) (w : World) (hv : w.ownsRow B 9 1 v xs.length (encs Value.string xs)) (hsz : xs.length ≤ 1000000000) :
    Calls Tryz.prog 20 #[v] w fun e w' => e = .returned (.tuple #[]) ∧ w'.ownsRow B 9 1 v xs.length (encs Value.string (sortB xs)) ∧ w.grownBy w' v.ownBlock := by
  rcases hv.2 with ⟨rfl, h0⟩ | ⟨g, cap, cur, rfl, hbase, hb, h1, h2, h3, h4⟩
  · obtain rfl : xs = [] := List.eq_nil_of_length_eq_zero h0
    exact (Tryz.slices_Sort_string_none none 0 w).mono fun e w' ⟨he, hw⟩ => ⟨he, by rw [show sortB [] = [] from by simp [sortB]]; exact own_nil _ _ _ _, hw ▸ World.grownBy.refl w _⟩
  · have hl : (xs.map (·.data.toList)).length = xs.length := by simp
    have hc := Tryz.slices_Sort_string g 0 cap (xs.map (·.data.toList)) w (holds_of_block hb (by rw [hl, enc_strs]; rw [Nat.mul_one] at h4; exact h4)) (blk_lt hb) (by rw [hl]; omega)
    rw [hl] at hc
    refine hc.mono ?_
    rintro e w' ⟨he, n, os, rfl⟩
    have ho := ownsRow_sorted (n := n) (os := os) (ss := xs.map (·.data.toList)) (ts := (xs.map (·.data.toList)).mergeSort fun x y => decide (x ≤ y)) (by simp) hbase hb (by rw [hl]; exact h1) h2 h3
    rw [hl, enc_sorted] at ho
    exact ⟨he, ho, grownBy_sorted _⟩

def allP (T : List S104) : List ByteArray := sortB (pths (VS T))
theorem allP_len (T : List S104) : (allP T).length = (pths (VS T)).length := sortB_len _
/-- what AllPaths answers -/
def AllAns (B : Nat) (T : List S104) (e : Ending) (w' : World) : Prop := ∃ v cd ix, e = .returned (.tuple #[v, fltV cd ix]) ∧
  ((cd = 0 ∧ ix = 0 ∧ Valid T ∧ w'.ownsRow B 9 1 v (allP T).length (encs Value.string (allP T))) ∨ (cd ≠ 0 ∧ ¬ Valid T ∧ v = .slice none 0 0))

theorem walkp_calls {A : Option Addr} {c : Nat} {T : List S104} {w : World} (hT : Kd.C k104 w A T.length T) (hS : Sound T) (hG : TreePlain.Good (Ent T) T.length) (b : Nat) (W : World) (S : Nat → Prop)
    (hj : PthJ w.heap.size b W S []) (hb : Below w.heap.size w W) :
    Calls Tryz.prog 46 #[.agg #[.slice A T.length c], .int .i64 0, .slice none 0 0, .func (.func 47) #[] #[.pointer (some ⟨b, 0, none⟩)]] W
      fun e W' => e = .returned (.bool true) ∧ Left (PthJ w.heap.size b) w W S (VS T) W' := by
  have hle := hS.le
  have h := walk_calls (M := 1000) (a0 := []) (c := c) hT (by omega) hG (fun p => ⟨by have := (hS.range p).1; omega, fun e he => ((hS.range p).2 e he).2⟩) (enters_of Tryz.func47 (by kernel_rfl) rfl) (pth_vis w.heap.size b)
    (fun W' S' vs n at_ v hj' hM hr hn hv hvS hb' => pthv_calls w b W' S' vs n at_ v hj' (by omega) (by have := hr.depth hG; simp only [List.nil_append] at this; omega) (fun s hs => (vName_facts (hS.names hr s hs)).2.1) hv hb')
    (T.length + 1) 0 [] (.slice none 0 0) W S [] (by simp) TreePlain.Reach.root hS.pos (by have := hS.few hG TreePlain.Reach.root (T.length + 1); simpa using this) hj (own_nil _ _ _ _) (fun k hk => by cases hk) hb
  exact h

set_option maxHeartbeats 4000000 in
set_option maxRecDepth 100000 in
theorem allpaths_calls (A : Option Addr) (c : Nat) (T : List S104) (w : World) (hT : Kd.C k104 w A T.length T) (hc : T.length ≤ c) (hTm : T.length ≤ 1000000000) (hsm : Small T) :
    Calls Tryz.prog 30 #[.agg #[.slice A T.length c]] w fun e w' => AllAns w.heap.size T e w' ∧ Below w.heap.size w w' := by
  have HTr := Aside0.mk hT
  have HSM := Aside0.mk hsm
  have HB0 := Aside0.mk (below_alloc (below_alloc (Below.refl w.heap.size w) (.cells #[.slice A T.length c] 24)) (.cells #[.int .i64 0, .int .i64 0] 40))
  have HSZ := Aside0.mk (show (w.alloc (.cells #[.slice A T.length c] 24)).heap.size = w.heap.size + 1 from World.size_alloc _ _)
  have HBX := Aside0.mk ((TBox.new w A T.length c).below (below_alloc (Below.refl _ _) (.cells #[.int .i64 0, .int .i64 0] 40)))
  have HTW := Aside0.mk (Two.new (w.alloc (.cells #[.slice A T.length c] 24)) (.int .i64 0) (.int .i64 0))
  rw [HSZ.out] at HTW
  have HVC := Aside0.mk (validate_calls A c T _ (Kd.C_below hT HB0.out) hc hTm hsm)
  clear hT hsm
  go_enter Tryz.func30, Tryz.ntmps30
  go_wp2_with fail
  refine HVC.out.mono ?_
  rintro e w1 ⟨⟨cd, ix, rfl, ha⟩, hb1⟩
  have HX1 := Aside0.mk (HBX.out.below hb1)
  have HT1 := Aside0.mk (HTW.out.below hb1)
  have HB1 := Aside0.mk (below_then HB0.out HB0.out.size hb1)
  clear hb1 HBX HTW HB0 HVC
  rcases ha with ⟨rfl, rfl, ha⟩ | ⟨hcd, ha⟩
  · have HV := Aside0.mk ha
    clear ha
    have HX2 := Aside0.mk (HX1.out.below (below_alloc (below_alloc (Below.refl _ _) (.cells #[.int .i64 0, .int .i64 0] 40)) (.cells #[.slice none 0 0] 25)))
    have HT2 := Aside0.mk (HT1.out.below (below_alloc (below_alloc (Below.refl _ _) (.cells #[.int .i64 0, .int .i64 0] 40)) (.cells #[.slice none 0 0] 25)))
    have HB2 := Aside0.mk (below_then HB1.out HB1.out.size (below_alloc (below_alloc (Below.refl _ _) (.cells #[.int .i64 0, .int .i64 0] 40)) (.cells #[.slice none 0 0] 25)))
    have htc := HX2.out.cell
    have hwl := HX1.out.lt
    have HCW : Aside0 (Calls Tryz.prog 46 #[.agg #[.slice A T.length c], .int .i64 0, .slice none 0 0, .func (.func 47) #[] #[.pointer (some ⟨w1.heap.size + 1, 0, none⟩)]] ((w1.alloc (.cells #[.int .i64 0, .int .i64 0] 40)).alloc (.cells #[.slice none 0 0] 25))
        fun e w4 => e = .returned (.bool true) ∧ ∃ A4 c4, PthM w.heap.size (w1.heap.size + 1) w4 (pths (VS T)) (.slice A4 (pths (VS T)).length c4) ∧ Two w4 (w.heap.size + 1) (.int .i64 0) (.int .i64 0) ∧ Below w.heap.size w w4) := ⟨by
      have s1 : (w1.alloc (.cells #[.int .i64 0, .int .i64 0] 40)).heap.size = w1.heap.size + 1 := World.size_alloc _ _
      have hsw := HB1.out.size
      have hm : PthM w.heap.size (w1.heap.size + 1) ((w1.alloc (.cells #[.int .i64 0, .int .i64 0] 40)).alloc (.cells #[.slice none 0 0] 25)) (pths []) (.slice none 0 0) := ⟨by omega, by
        have h := blk_new (w1.alloc (.cells #[.int .i64 0, .int .i64 0] 40)) (.cells #[.slice none 0 0] 25)
        rw [s1] at h; exact h, own_nil _ _ _ _⟩
      refine (walkp_calls HTr.out (HV.out.sound HSM.out) (HV.out.good HSM.out) _ _ _ ⟨_, rfl, hm⟩ HB2.out).mono ?_
      rintro e w4 ⟨he, S', ⟨vL, _, hm4⟩, hk, _, hb4⟩
      obtain ⟨A4, c4, rfl⟩ := own_slice hm4.own
      refine ⟨he, A4, c4, hm4, ⟨blk_kept HT2.out.blk hk ?_⟩, hb4⟩
      have := HT1.out.lt
      rintro (h | h)
      · omega
      · cases h⟩
    go_wp2_with fail
    refine HCW.out.mono ?_
    rintro e w4 ⟨rfl, A4, c4, hm4, ht4, hb4⟩
    have HM4 := Aside0.mk hm4
    have HT4 := Aside0.mk ht4
    have HB4 := Aside0.mk hb4
    have hc4 := (blk_cell hm4.cell 0).trans rfl
    have HLN := Aside0.mk (show (pths (VS T)).length ≤ 1000 by
      have := (HV.out.sound HSM.out).few (HV.out.good HSM.out) TreePlain.Reach.root (T.length + 1)
      simpa [pths, VS] using this)
    have HSO := Aside0.mk (sort_own _ _ _ _ hm4.own (by have := HLN.out; omega))
    clear hm4 ht4 hb4 HCW htc HX1 HT1 HX2 HT2 HB2
    go_wp2_with fail
    refine HSO.out.mono ?_
    rintro e w6 ⟨rfl, ho6, hg6⟩
    have e6 := blk_grown HM4.out.cell hg6 (own_ne HM4.out.own HM4.out.cell (by decide))
    have hc6 := (blk_cell e6 0).trans rfl
    have T3 : Two w6 (w.heap.size + 1) (.int .i64 0) (.int .i64 0) := ⟨blk_grown HT4.out.blk hg6 (own_ne HM4.out.own HT4.out.blk (by decide))⟩
    obtain ⟨⟨ht0, ht1⟩, hg0, hg1⟩ := T3.cells
    have HBf := Aside0.mk (pw_below_grown HB4.out _ HB4.out.size hg6 (fun k hk => own_base HM4.out.own k hk))
    have HO6 := Aside0.mk (show ((w6.setCell ⟨w.heap.size + 1, 0, none⟩ (.int .i64 0)).setCell ⟨w.heap.size + 1, 1, none⟩ (.int .i64 0)).ownsRow w.heap.size 9 1 (.slice A4 (pths (VS T)).length c4) (allP T).length (encs Value.string (allP T)) by
      rw [allP_len]
      exact own_setCell (p := ⟨w.heap.size + 1, 1, none⟩) (own_setCell (p := ⟨w.heap.size + 1, 0, none⟩) ho6 (own_ne ho6 T3.blk (by decide)) _) (own_ne (own_setCell (p := ⟨w.heap.size + 1, 0, none⟩) ho6 (own_ne ho6 T3.blk (by decide)) (.int .i64 0)) (blk_put T3.blk 0 (.int .i64 0) rfl) (by decide)) _)
    clear ho6 hg6 e6 T3 HSO HM4 HT4 HB4 hc4
    go_wp2
    exact bodyPost_ret (v := .tuple #[.slice A4 (pths (VS T)).length c4, fltV 0 0]) (by simp [results, Tryz.results30, go_sem, ht0, ht1]) rfl ⟨⟨_, _, _, rfl, Or.inl ⟨rfl, rfl, HV.out, HO6.out⟩⟩, Two.upper HBf.out (by omega)⟩
  · have HN := Aside0.mk ha
    have HCD := Aside0.mk hcd
    have hc1 : (cd == 0) = false := beq_eq_false_iff_ne.2 hcd
    have hc2 : (cd != 0) = true := by rw [bne, hc1]; rfl
    have T3 := HT1.out.below (below_alloc (Below.refl _ _) (.cells #[.int .i64 cd, .int .i64 ix] 40))
    obtain ⟨⟨ht0, ht1⟩, hg0, hg1⟩ := T3.cells
    have HBf := Aside0.mk (below_then HB1.out HB1.out.size (below_alloc (Below.refl _ _) (.cells #[.int .i64 cd, .int .i64 ix] 40)))
    clear hcd ha T3 HT1 HB1
    go_wp2_with fail
    go_region
    all_goals
      go_wp2
      exact bodyPost_ret (v := .tuple #[.slice none 0 0, fltV cd ix]) (by simp [results, Tryz.results30, go_sem, ht0, ht1]) rfl ⟨⟨_, _, _, rfl, Or.inr ⟨HCD.out, HN.out, rfl⟩⟩, pw_below_drewN (Two.upper HBf.out (by omega)) 1⟩
end Go.Proofs.YtkmoeeaaolpdnaaGreatDoor
