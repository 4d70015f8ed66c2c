/-
 The walk of TopFindsTwice: it returns true. Conditions: the pattern has at most 1048576 bytes; the tree is not beyond a bound; the library's variable MaxLen holds a number.
-/
import Derived.Test.YtkmoeeaaolpdnaaGreatDoorMI
namespace Go.Proofs.YtkmoeeaaolpdnaaGreatDoor
open Go.RowKit Go.Proofs.YtkmoeeaaolpdnaaGreatDoorW.PrintWords Go.Proofs.YtkmoeeaaolpdnaaGreatDoor.PTopFindsTwice
set_option linter.unusedVariables false

/-- the places of two stars among the first n elements -/
def twoL (l : List ByteArray) (n : Nat) : List Nat := (List.range n).filter fun k => ss (l.getD k ⟨#[]⟩) && decide (k < l.length)
theorem twoL_in (l : List ByteArray) (k : Nat) (hk : k < l.length) (h : ss l[k] = true) : twoL l (k + 1) = twoL l k ++ [k] := by
  have e : l.getD k ⟨#[]⟩ = l[k] := by rw [List.getD_eq_getElem?_getD, List.getElem?_eq_getElem hk]; rfl
  unfold twoL
  rw [List.range_succ, List.filter_append, List.filter_cons, e, h, decide_eq_true hk]
  rfl
theorem twoL_out (l : List ByteArray) (k : Nat) (hk : k < l.length) (h : ss l[k] = false) : twoL l (k + 1) = twoL l k := by
  have e : l.getD k ⟨#[]⟩ = l[k] := by rw [List.getD_eq_getElem?_getD, List.getElem?_eq_getElem hk]; rfl
  unfold twoL
  rw [List.range_succ, List.filter_append, List.filter_cons, e, h]
  simp
theorem twoL_le (l : List ByteArray) (k : Nat) : (twoL l k).length ≤ k := by
  have := List.length_filter_le (fun k => ss (l.getD k ⟨#[]⟩) && decide (k < l.length)) (List.range k); simpa [twoL] using this
theorem mem_twoL (l : List ByteArray) (n k : Nat) (h : k ∈ twoL l n) : ∃ h : k < l.length, ss l[k] = true := by
  simp only [twoL, List.mem_filter, List.mem_range, Bool.and_eq_true, decide_eq_true_eq] at h
  have h2 := h.2.1
  rw [List.getD_eq_getElem?_getD, List.getElem?_eq_getElem h.2.2] at h2
  exact ⟨h.2.2, h2⟩
/-- the plain laws, of one row of elements -/
def TwiceLaw (T : List S104) (l : List ByteArray) : Prop := ∀ (k : Nat) (hk : k < l.length), ss l[k] = true → findP T (pStr (l.take k ++ [dd] ++ l.drop k)) = findP T (pStr l)
def SwapLaw (T : List S104) (l : List ByteArray) : Prop := ∀ (k : Nat) (hk : k + 1 < l.length), ss l[k] = true → l[k + 1] = st → findP T (pStr ((l.set k st).set (k + 1) dd)) = findP T (pStr l)
theorem rdS_at (xs : List ByteArray) (k : Nat) (h : k < xs.length) : rdOf (⟨#[]⟩ : ByteArray) xs (k : Int) = xs[k] := by
  unfold rdOf; rw [Int.toNat_natCast, List.getD_eq_getElem?_getD, List.getElem?_eq_getElem h]; rfl
theorem ss_beq (x : ByteArray) : ss x = (x.toList == [42, 42]) := rfl
theorem st_iff (x : ByteArray) : (x.toList == [42]) = true ↔ x = st := by
  rw [ByteArray.toList_eq, beq_iff_eq]
  exact ⟨fun e => ba_ext e, fun e => by rw [e]; rfl⟩
theorem row_one2 (W : World) (q : ByteArray) : ReadsOf Value.string (⟨#[]⟩ : ByteArray) (W.alloc (.cells #[.string q] 9)) (some ⟨W.heap.size, 0, none⟩) [q].length [q] := by
  have h := own_lit_of (enc := Value.string) W W.heap.size 9 [q] (Nat.le_refl _) (by simp)
  obtain ⟨A, c, e, hr⟩ := own_reads_of (d := (⟨#[]⟩ : ByteArray)) h
  injection e with e1 e2 e3
  subst e1
  exact hr
theorem row_world2 {w w1 : World} {a : Addr} {x : Value} (q : ByteArray) (hB : Below w.heap.size w w1) (ht : w1.cell? a = some x) :
    Below w.heap.size w (w1.alloc (.cells #[.string q] 9)) ∧ (w1.alloc (.cells #[.string q] 9)).cell? a = some x ∧
      ReadsOf Value.string (⟨#[]⟩ : ByteArray) (w1.alloc (.cells #[.string q] 9)) (some ⟨w1.heap.size, 0, none⟩) [q].length [q] :=
  ⟨below_alloc hB _, pw_cell_below (below_alloc (Below.refl _ _) _) ht, row_one2 w1 q⟩
theorem fine_ins {l ys : List ByteArray} (k : Nat) (h : l.length ≤ 1048577) (g : ∀ s ∈ l, s.size ≤ 1048576) (hy : ys.length ≤ 2) (hs : ∀ s ∈ ys, s.size ≤ 1048576) : Fine (l.take k ++ ys ++ l.drop k) := by
  refine ⟨by simp; omega, fun s hm => ?_⟩
  rcases List.mem_append.1 hm with hm | hm
  · rcases List.mem_append.1 hm with hm | hm
    · exact g s (List.mem_of_mem_take hm)
    · exact hs s hm
  · exact g s (List.mem_of_mem_drop hm)

theorem fine_set {l : List ByteArray} (h : l.length ≤ 1048577) (g : ∀ s ∈ l, s.size ≤ 1048576) (k : Nat) : Fine ((l.set k st).set (k + 1) dd) := by
  have h1 : st.size ≤ 1048576 := by decide
  have h2 : dd.size ≤ 1048576 := by decide
  refine ⟨by simp; omega, fun s hm => ?_⟩
  rcases List.mem_or_eq_of_mem_set hm with hm | rfl
  · rcases List.mem_or_eq_of_mem_set hm with hm | rfl
    · exact g s hm
    · exact h1
  · exact h2

set_option maxHeartbeats 8000000 in
set_option maxRecDepth 100000 in
theorem twice_walk (A : Option Addr) (c : Nat) (T : List S104) (p : ByteArray) (which : Int) (w : World) (hT : Kd.C k104 w A T.length T) (hc : T.length ≤ c) (hTm : T.length ≤ 1000000000) (hsm : Small T) (hp : p.size ≤ 1048576) (_ : (Lit.int .i64 which).wf = true)
    (hm : ∃ m, w.cell? ⟨0, 0, none⟩ = some (.int .i64 m)) :
    Calls Tryz.prog 3 #[.agg #[.slice A T.length c], .string p, .int .i64 which] w fun e w' => e = .returned (.bool true) ∧ Below w.heap.size w w' := by
  obtain ⟨m, hm⟩ := hm
  obtain ⟨hfn, hln⟩ := fine_elts p hp
  have hel := els_elts p
  have HFI0 : Aside0 (∀ (q : List ByteArray), findP T (pStr q) = findP T (pStr (elts p)) → ∀ (W : World) (M : Option Addr) (qc : Nat), Below w.heap.size w W → ReadsOf Value.string (⟨#[]⟩ : ByteArray) W M [pStr q].length [pStr q] →
      Calls Tryz.prog 10 #[.agg #[.slice A T.length c], .string (pStr (elts p)), .slice M 1 qc] W fun e w' => e = .returned (.bool true) ∧ Below W.heap.size W w') := ⟨fun q he W M qc hW hr =>
    finds_calls A c T (pStr (elts p)) m M qc [pStr q] W (Kd.C_below hT hW) hc hTm hsm (pw_cell_below hW hm) hr (by simp) (fun _ _ x => by simp [he])⟩
  have HPC := Aside0.mk (parts_calls p m (w.alloc (.cells #[.slice A T.length c] 24)) hp (pw_cell_below (below_alloc (Below.refl w.heap.size w) (.cells #[.slice A T.length c] 24)) hm))
  have HB0 := Aside0.mk (below_alloc (Below.refl w.heap.size w) (.cells #[.slice A T.length c] 24))
  have HTB := Aside0.mk (TBox.new w A T.length c)
  have HTW : Aside0 (TwiceLaw T (elts p)) := ⟨fun k hk h => law_twice (T := T) hel k hk h⟩
  have HSW : Aside0 (SwapLaw T (elts p)) := ⟨fun k hk h g => law_swap (T := T) hel k hk h g⟩
  have HFN := Aside0.mk hfn
  clear hT hsm hm hel
  generalize elts p = l at *
  go_enter Tryz.func3, Tryz.ntmps3
  go_wp2_with fail
  refine HPC.out.mono ?_
  rintro e w1 ⟨vl, rfl, hol, hb1⟩
  have HB1 := Aside0.mk (below_then HB0.out HB0.out.size hb1)
  have HTB1 := Aside0.mk (HTB.out.below hb1)
  have HOL := Aside0.mk hol
  obtain ⟨Al, cl, rfl⟩ := own_slice hol
  clear hb1 HB0 HTB HPC hol
  go_wp2
  go_loopw [8, 17] (fun v i wr => ∃ k : Nat, k ≤ l.length ∧ i = .int .i64 k ∧ Aside0 (wr.ownsRow w1.heap.size 3 1 v (twoL l k).length (nums .i64 (ints (twoL l k)))) ∧ Aside0 (Below w1.heap.size w1 wr)) (fun _ i _ => l.length - (intOf i).toNat)
  case atStart => exact ⟨0, Nat.zero_le _, rfl, ⟨own_nil _ _ _ _⟩, ⟨Below.refl _ _⟩⟩
  case round =>
    obtain ⟨k, hk, rfl, HO, HB⟩ := hrel
    by_cases hlt : k < l.length
    · have hltz : (k : Int) < (l.length : Int) := by omega
      obtain ⟨_, _, e0, hra⟩ := own_reads_of (d := (⟨#[]⟩ : ByteArray)) (pw_own_below HOL.out HB.out)
      injection e0 with e1 e2 e3
      subst e1
      obtain ⟨ad, rfl, hcx⟩ := hra.at_ (k : Int) (Int.natCast_nonneg _) (by omega)
      rw [rdS_at _ _ hlt, Int.toNat_natCast] at hcx
      have HPI := Aside0.mk (twoL_in l k hlt)
      have HPO := Aside0.mk (twoL_out l k hlt)
      clear hra e3
      generalize l[k] = x at *
      cases hx : ss x with
      | true =>
        have HL' := Aside0.mk (show wr.ownsRow w1.heap.size 3 1 u8 (ints (twoL l k)).length (nums .i64 (ints (twoL l k))) by rw [ints_length]; exact HO.out)
        have HP2 := Aside0.mk (HPI.out hx)
        have hsl : (x.toList == [42, 42]) = true := hx
        clear hx HPI HPO
        go_wp2_with (at_builtin; refine print_append_num (w0 := w1) w1.heap.size rfl _ _ 27 3 .i64 8 rfl Tryz.underlying27 info3 (by decide) u8 _ (k : Int) rfl rfl (HL'.out) (HB.out) (HB.out.size) (by rw [ints_length]; have := twoL_le l k; omega) ?_; intro v1 w2 ho hB1 _ _; have HQ := Aside0.mk ho; have HB2 := Aside0.mk hB1; clear ho hB1)
        rw [ints_snoc, ← HP2.out, ints_length] at HQ
        go_roundw
        case rel => exact ⟨k + 1, by omega, by go_num, HQ, HB2⟩
        case measure => simp [intOf]; omega
      | false =>
        have HQ := Aside0.mk HO.out
        rw [← HPO.out hx] at HQ
        have hsl : (x.toList == [42, 42]) = false := hx
        clear hx HPI HPO
        go_wp2
        go_roundw
        case rel => exact ⟨k + 1, by omega, by go_num, HQ, HB⟩
        case measure => simp [intOf]; omega
    · obtain rfl : k = l.length := by omega
      obtain ⟨A2, c2, rfl, hr2⟩ := own_reads HO.out
      have hlen := twoL_le l l.length
      have HMem := Aside0.mk (fun x => mem_twoL l l.length x)
      have HB2 := Aside0.mk (below_then HB1.out HB1.out.size HB.out)
      have HTB2 := Aside0.mk (HTB1.out.below HB.out)
      have HOL2 := Aside0.mk (pw_own_below HOL.out HB.out)
      clear HO HB HB1 HTB1 HOL
      generalize twoL l l.length = L at *
      by_cases h0L : L.length = 0
      · have hL : ((L.length : Int) == 0) = true := by rw [h0L]; rfl
        clear h0L hr2 HMem
        go_wp2_with fail
        refine (globs_calls _).mono ?_
        rintro e w3 ⟨rfl, hb3⟩
        have HB3 := Aside0.mk (below_then HB2.out HB2.out.size hb3)
        clear hb3
        go_wp2
        go_ret
        exact ⟨rfl, HB3.out⟩
      · have hL : ((L.length : Int) == 0) = false := by rw [beq_eq_false_iff_ne]; omega
        have hrl := pickV_lt which L.length (by omega)
        have hpk := pick_val which L.length wr (by omega) (by omega)
        generalize pickV which L.length = r at *
        obtain ⟨ad, rfl, hcr⟩ := hr2.at_ (r : Int) (by omega) (by omega)
        rw [rd_ints L r hrl, Int.toNat_natCast] at hcr
        have hin := HMem.out _ (List.getElem_mem hrl)
        clear HMem hr2 h0L
        generalize L[r] = k at *
        obtain ⟨hkl, hks⟩ := hin
        have HP := Aside0.mk hpk
        have hd1 : (dd : ByteArray).size ≤ 1048576 := by decide
        have HTL := Aside0.mk (HTW.out k hkl hks)
        have HSL := Aside0.mk (fun hk g => HSW.out k hk hks g)
        have HQF := Aside0.mk (fine_ins k hln HFN.out.2 (ys := [dd]) (by simp) (fun s hs => by rw [List.mem_singleton.1 hs]; exact hd1))
        have HCL : Aside0 (∀ W, Below wr.heap.size wr W → Calls Tryz.prog 9 #[.slice Al l.length cl] W fun e w' => ∃ v', e = .returned v' ∧ w'.ownsRow W.heap.size 9 1 v' l.length (encs Value.string l) ∧ Below W.heap.size W w') :=
          ⟨fun W hW => clone_own _ _ l W (pw_own_below HOL2.out hW) (by omega)⟩
        have HIN : Aside0 (∀ (W : World) (A1 : Option Addr) (c1 : Nat), Below wr.heap.size wr W → W.ownsRow wr.heap.size 9 1 (.slice A1 l.length c1) l.length (encs Value.string l) → Calls Tryz.prog 8 #[.slice A1 l.length c1, .int .i64 (k : Int), .slice (some ⟨W.heap.size, 0, none⟩) 1 1] (W.alloc (.cells #[.string ⟨#[42, 42]⟩] 9)) fun e w' => ∃ v', e = .returned v' ∧
            w'.ownsRow wr.heap.size 9 1 v' (l.take k ++ [dd] ++ l.drop k).length (encs Value.string (l.take k ++ [dd] ++ l.drop k)) ∧ Below wr.heap.size wr w') := ⟨fun W A1 c1 hW ho => by
          have hA := below_alloc hW (.cells #[.string ⟨#[42, 42]⟩] 9)
          refine (insert_own _ _ wr.heap.size W.heap.size k l [dd] _ (ho.alloc _) (own_lit_of (enc := Value.string) W W.heap.size 9 [dd] (Nat.le_refl _) (by simp)) (fun q hq e => by have h1 := own_lt ho q hq; have h2 : W.heap.size = q := (by injection e); omega) (by omega) (by simp) (by simp; omega) hA.size).mono ?_
          rintro e w' ⟨v', he, ho', hg⟩
          exact ⟨v', he, ho', pw_below_grown hA _ hA.size hg (fun q hq => own_base ho q hq)⟩⟩
        have HJL : Aside0 (∀ W, Below wr.heap.size wr W → Calls Tryz.prog 11 #[.slice Al l.length cl, .string ⟨#[47]⟩] W fun e w' => e = .returned (.string (jn l)) ∧ Below W.heap.size W w') :=
          ⟨fun W hW => join_own _ _ l W (pw_own_below HOL2.out hW) HFN.out⟩
        clear hpk hd1
        go_wp2_with fail
        refine HP.out.mono ?_
        rintro e w2 ⟨rfl, rfl⟩
        clear HP
        go_wp2_with fail
        refine (HCL.out _ (Below.refl _ _)).mono ?_
        rintro e w4 ⟨v4, rfl, ho4, hb4⟩
        obtain ⟨A4, c4, rfl⟩ := own_slice ho4
        have HB4 := Aside0.mk hb4
        have HO4 := Aside0.mk ho4
        clear ho4 hb4
        go_wp2_with fail
        refine (HIN.out _ _ _ HB4.out HO4.out).mono ?_
        rintro e w5 ⟨v5, rfl, ho5, hb5⟩
        have HB5 := Aside0.mk hb5
        have HO5 := Aside0.mk ho5
        obtain ⟨A5, c5, rfl⟩ := own_slice ho5
        clear ho5 hb5 HIN HB4 HO4
        by_cases hk1 : k + 1 < l.length
        · have hk1z : (k : Int) + 1 < (l.length : Int) := by omega
          obtain ⟨gl, capl, e0, _, _⟩ := HOL2.out.form (by omega)
          injection e0 with e1 e2 e3
          subst e1
          obtain ⟨hcx, _⟩ := own_at_of (d := (⟨#[]⟩ : ByteArray)) (pw_own_below HOL2.out HB5.out) ((k + 1 : Nat) : Int) (Int.natCast_nonneg _) (by omega)
          rw [rdS_at _ _ hk1, Int.toNat_natCast] at hcx
          clear e3
          have HST := Aside0.mk (fun g => HSL.out hk1 ((st_iff _).1 g))
          have hkl1 := hk1
          clear HSL
          generalize l[k + 1] = x1 at *
          cases hxs : (x1.toList == [42]) with
          | true =>
            have HSQ := Aside0.mk (HST.out hxs)
            clear HST HTL HQF HO5
            go_wp2_with fail
            refine (HCL.out _ HB5.out).mono ?_
            rintro e w6 ⟨v6, rfl, ho6, hb6⟩
            have h5 := HB5.out.size
            have h6 := hb6.size
            obtain ⟨g, cap, rfl, hgb, hcap⟩ := ho6.form (by omega)
            obtain ⟨ck, fk⟩ := own_at_of (d := (⟨#[]⟩ : ByteArray)) ho6 (k : Int) (Int.natCast_nonneg _) (by omega)
            obtain ⟨hs1, hs2⟩ := own_store_of ho6 (k : Int) (⟨#[42]⟩ : ByteArray)
            obtain ⟨ck1, fk1⟩ := own_at_of (d := (⟨#[]⟩ : ByteArray)) hs1 ((k + 1 : Nat) : Int) (Int.natCast_nonneg _) (by omega)
            obtain ⟨hs3, hs4⟩ := own_store_of hs1 ((k + 1 : Nat) : Int) (⟨#[42, 42]⟩ : ByteArray)
            rw [Int.toNat_natCast] at ck fk hs1 hs2
            simp only [Int.toNat_natCast] at hs3 hs4 ck1 fk1
            have HOQ := Aside0.mk hs3
            have HB7 := Aside0.mk (pw_below_grown (pw_below_grown (below_then HB5.out HB5.out.size hb6) _ (by omega) hs2 (fun q hq => by injection hq with hq; omega)) _ (by rw [World.size_setCell]; omega) hs4 (fun q hq => by injection hq with hq; omega))
            have HQF : Aside0 (Fine ((l.set k st).set (k + 1) dd)) := ⟨fine_set hln HFN.out.2 k⟩
            have HFI := Aside0.mk (HFI0.out ((l.set k st).set (k + 1) dd) HSQ.out)
            have HJQ : Aside0 (∀ W v, W.ownsRow w5.heap.size 9 1 v l.length (encs Value.string ((l.set k st).set (k + 1) dd)) → Calls Tryz.prog 11 #[v, .string ⟨#[47]⟩] W fun e w' => e = .returned (.string (jn ((l.set k st).set (k + 1) dd))) ∧ Below W.heap.size W w') := ⟨fun W v ho => join_own _ _ _ W (by rw [List.length_set, List.length_set]; exact ho) HQF.out⟩
            have hj1 := (jn_size HFN.out).2
            have hj2 := (jn_size HQF.out).2
            rw [pStr_jn, pStr_jn] at HFI
            clear HSQ HQF HFI0 HCL hs1 hs2 hs3 hs4 ho6 hb6 hgb hcap
            go_wp2_with fail
            have HBQ := Aside0.mk (below_then HB2.out HB2.out.size HB7.out)
            have HTQ := Aside0.mk (HTB2.out.below HB7.out)
            have htq := HTQ.out.cell
            have HJL : Aside0 (∀ W, Below ((w6.setCell ⟨g, k, none⟩ (.string ⟨#[42]⟩)).setCell ⟨g, k + 1, none⟩ (.string ⟨#[42, 42]⟩)).heap.size ((w6.setCell ⟨g, k, none⟩ (.string ⟨#[42]⟩)).setCell ⟨g, k + 1, none⟩ (.string ⟨#[42, 42]⟩)) W → Calls Tryz.prog 11 #[.slice (some ⟨gl, 0, none⟩) l.length cl, .string ⟨#[47]⟩] W fun e w' => e = .returned (.string (jn l)) ∧ Below W.heap.size W w') := ⟨fun W hW => HJL.out W (below_then HB7.out HB7.out.size hW)⟩
            clear HB7 ck fk ck1 fk1
            generalize (w6.setCell ⟨g, k, none⟩ (.string ⟨#[42]⟩)).setCell ⟨g, k + 1, none⟩ (.string ⟨#[42, 42]⟩) = w7 at *
            have HOQ' : Aside0 (w7.ownsRow w5.heap.size 9 1 (.slice (some ⟨g, 0, none⟩) l.length cap) l.length (encs Value.string ((l.set k st).set (k + 1) dd))) := ⟨HOQ.out⟩
            clear HOQ
            have HOQ := HOQ'
            clear HOQ'
            generalize ((l.set k st).set (k + 1) dd) = qs at *
            generalize jn l = j1 at *
            generalize jn qs = j2 at *
            have hz1 : ¬ 9223372036854775807 < 1 + j1.size := by omega
            have hz2 : ¬ 9223372036854775807 < 1 + j2.size := by omega
            go_region_held3 (fun w' => w'.cell? ⟨w.heap.size, 0, none⟩ = some (.slice A T.length c))
              (first
                | exact HCK3.out
                | exact HCK2.out
                | exact HCK.out
                | go_keep)
              (first
                | (go_at_call 11; have hq7 := HQ7.out; refine (HJQ.out _ _ hq7).mono ?_; clear hq7; rintro e w8 ⟨rfl, hb8⟩; have HB8 := Aside0.mk (below_then HB7.out HB7.out.size hb8); have HCK2 := Aside0.mk (pw_cell_below hb8 HCK.out); have HRW := Aside0.mk (row_world2 (⟨#[47]⟩ ++ j2) HB8.out HCK2.out); clear hb8)
                | (go_at_call 11; refine (HJL.out _ (below_drew (Below.refl _ _))).mono ?_; rintro e w7 ⟨rfl, hb7⟩; have HB7 := Aside0.mk (below_then (below_drew HBQ.out) HBQ.out.size hb7); have HQ7 := Aside0.mk (pw_own_below (pw_own_below HOQ.out (below_drew (Below.refl _ _))) hb7); have HCK := Aside0.mk (HTQ.out.below (below_then (below_drew (Below.refl _ _)) (Nat.le_refl _) hb7)).cell; clear hb7)
                | (go_at_call 10; refine (HFI.out _ _ _ HRW.out.1 HRW.out.2.2).mono ?_; rintro e w9 ⟨rfl, hb9⟩; have HCK3 := Aside0.mk (pw_cell_below hb9 HRW.out.2.1); have HB9 := Aside0.mk (below_then HRW.out.1 HRW.out.1.size hb9); clear hb9)
                | fail)
            all_goals
              go_wp2
              go_ret
              exact ⟨rfl, HB9.out⟩
          | false =>
            have HOQ := HO5
            have HBQ := Aside0.mk (below_then HB2.out HB2.out.size HB5.out)
            have HTQ := Aside0.mk (HTB2.out.below HB5.out)
            have htq := HTQ.out.cell
            have HFI := Aside0.mk (HFI0.out (l.take k ++ [dd] ++ l.drop k) HTL.out)
            have HJQ : Aside0 (∀ W v, W.ownsRow wr.heap.size 9 1 v (l.take k ++ [dd] ++ l.drop k).length (encs Value.string (l.take k ++ [dd] ++ l.drop k)) → Calls Tryz.prog 11 #[v, .string ⟨#[47]⟩] W fun e w' => e = .returned (.string (jn (l.take k ++ [dd] ++ l.drop k))) ∧ Below W.heap.size W w') := ⟨fun W v ho => join_own _ _ _ W ho HQF.out⟩
            have HJL : Aside0 (∀ W, Below w5.heap.size w5 W → Calls Tryz.prog 11 #[.slice (some ⟨gl, 0, none⟩) l.length cl, .string ⟨#[47]⟩] W fun e w' => e = .returned (.string (jn l)) ∧ Below W.heap.size W w') := ⟨fun W hW => HJL.out W (below_then HB5.out HB5.out.size hW)⟩
            have hs1 := (jn_size HFN.out).2
            have hs2 := (jn_size HQF.out).2
            rw [pStr_jn, pStr_jn] at HFI
            clear HST HTL HQF HO5 HFI0 HCL
            generalize (l.take k ++ [dd] ++ l.drop k) = qs at *
            generalize jn l = j1 at *
            generalize jn qs = j2 at *
            have hz1 : ¬ 9223372036854775807 < 1 + j1.size := by omega
            have hz2 : ¬ 9223372036854775807 < 1 + j2.size := by omega
            go_wp2_with fail
            go_region_held3 (fun w' => w'.cell? ⟨w.heap.size, 0, none⟩ = some (.slice A T.length c))
              (first
                | exact HCK3.out
                | exact HCK2.out
                | exact HCK.out
                | go_keep)
              (first
                | (go_at_call 11; have hq7 := HQ7.out; refine (HJQ.out _ _ hq7).mono ?_; clear hq7; rintro e w8 ⟨rfl, hb8⟩; have HB8 := Aside0.mk (below_then HB7.out HB7.out.size hb8); have HCK2 := Aside0.mk (pw_cell_below hb8 HCK.out); have HRW := Aside0.mk (row_world2 (⟨#[47]⟩ ++ j2) HB8.out HCK2.out); clear hb8)
                | (go_at_call 11; refine (HJL.out _ (below_drew (Below.refl _ _))).mono ?_; rintro e w7 ⟨rfl, hb7⟩; have HB7 := Aside0.mk (below_then (below_drew HBQ.out) HBQ.out.size hb7); have HQ7 := Aside0.mk (pw_own_below (pw_own_below HOQ.out (below_drew (Below.refl _ _))) hb7); have HCK := Aside0.mk (HTQ.out.below (below_then (below_drew (Below.refl _ _)) (Nat.le_refl _) hb7)).cell; clear hb7)
                | (go_at_call 10; refine (HFI.out _ _ _ HRW.out.1 HRW.out.2.2).mono ?_; rintro e w9 ⟨rfl, hb9⟩; have HCK3 := Aside0.mk (pw_cell_below hb9 HRW.out.2.1); have HB9 := Aside0.mk (below_then HRW.out.1 HRW.out.1.size hb9); clear hb9)
                | fail)
            all_goals
              go_wp2
              go_ret
              exact ⟨rfl, HB9.out⟩
        · have hk1z : ¬ (k : Int) + 1 < (l.length : Int) := by omega
          have HOQ := HO5
          have HBQ := Aside0.mk (below_then HB2.out HB2.out.size HB5.out)
          have HTQ := Aside0.mk (HTB2.out.below HB5.out)
          have htq := HTQ.out.cell
          have HFI := Aside0.mk (HFI0.out (l.take k ++ [dd] ++ l.drop k) HTL.out)
          have HJQ : Aside0 (∀ W v, W.ownsRow wr.heap.size 9 1 v (l.take k ++ [dd] ++ l.drop k).length (encs Value.string (l.take k ++ [dd] ++ l.drop k)) → Calls Tryz.prog 11 #[v, .string ⟨#[47]⟩] W fun e w' => e = .returned (.string (jn (l.take k ++ [dd] ++ l.drop k))) ∧ Below W.heap.size W w') := ⟨fun W v ho => join_own _ _ _ W ho HQF.out⟩
          have HJL : Aside0 (∀ W, Below w5.heap.size w5 W → Calls Tryz.prog 11 #[.slice Al l.length cl, .string ⟨#[47]⟩] W fun e w' => e = .returned (.string (jn l)) ∧ Below W.heap.size W w') := ⟨fun W hW => HJL.out W (below_then HB5.out HB5.out.size hW)⟩
          have hs1 := (jn_size HFN.out).2
          have hs2 := (jn_size HQF.out).2
          rw [pStr_jn, pStr_jn] at HFI
          clear HSL HTL HQF HO5 HFI0 HCL
          generalize (l.take k ++ [dd] ++ l.drop k) = qs at *
          generalize jn l = j1 at *
          generalize jn qs = j2 at *
          have hz1 : ¬ 9223372036854775807 < 1 + j1.size := by omega
          have hz2 : ¬ 9223372036854775807 < 1 + j2.size := by omega
          go_wp2_with fail
          go_region_held3 (fun w' => w'.cell? ⟨w.heap.size, 0, none⟩ = some (.slice A T.length c))
            (first
              | exact HCK3.out
              | exact HCK2.out
              | exact HCK.out
              | go_keep)
            (first
              | (go_at_call 11; have hq7 := HQ7.out; refine (HJQ.out _ _ hq7).mono ?_; clear hq7; rintro e w8 ⟨rfl, hb8⟩; have HB8 := Aside0.mk (below_then HB7.out HB7.out.size hb8); have HCK2 := Aside0.mk (pw_cell_below hb8 HCK.out); have HRW := Aside0.mk (row_world2 (⟨#[47]⟩ ++ j2) HB8.out HCK2.out); clear hb8)
              | (go_at_call 11; refine (HJL.out _ (below_drew (Below.refl _ _))).mono ?_; rintro e w7 ⟨rfl, hb7⟩; have HB7 := Aside0.mk (below_then (below_drew HBQ.out) HBQ.out.size hb7); have HQ7 := Aside0.mk (pw_own_below (pw_own_below HOQ.out (below_drew (Below.refl _ _))) hb7); have HCK := Aside0.mk (HTQ.out.below (below_then (below_drew (Below.refl _ _)) (Nat.le_refl _) hb7)).cell; clear hb7)
              | (go_at_call 10; refine (HFI.out _ _ _ HRW.out.1 HRW.out.2.2).mono ?_; rintro e w9 ⟨rfl, hb9⟩; have HCK3 := Aside0.mk (pw_cell_below hb9 HRW.out.2.1); have HB9 := Aside0.mk (below_then HRW.out.1 HRW.out.1.size hb9); clear hb9)
              | fail)
          all_goals
            go_wp2
            go_ret
            exact ⟨rfl, HB9.out⟩
end Go.Proofs.YtkmoeeaaolpdnaaGreatDoor
