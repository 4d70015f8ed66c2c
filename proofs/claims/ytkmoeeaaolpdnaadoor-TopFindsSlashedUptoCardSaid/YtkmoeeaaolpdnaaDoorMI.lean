/-
 The walk of wPick: one of n, by any number. Condition: n is at least 1 and at most 2^62.
 The walk of wOne at one byte: the place of one of the bytes of a string that are that byte, or none. Condition: the string has at most 1048576 bytes.
 The walk of TopFindsSlashed: it returns true. Conditions: the pattern has at most 1048576 bytes; the tree is not beyond a bound; the library's variable MaxLen holds a number.
-/
import Derived.IntWalk
import Derived.Laws.Strings2
import Derived.Test.YtkmoeeaaolpdnaaDoorMA
import Derived.Test.YtkmoeeaaolpdnaaDoorShelfB
import Derived.Test.YtkmoeeaaolpdnaaDoorMH
namespace Go.Proofs.YtkmoeeaaolpdnaaDoor
open Go.RowKit Go.Proofs.YtkmoeeaaolpdnaaDoorW.PrintWords GlobPlain

theorem u64_nonneg (x : Int) : 0 ≤ IntKind.u64.wrap x := by rw [IntKind.wrap_u64]; omega
/-- which of n -/
def pickV (x : Int) (n : Nat) : Nat := (IntKind.u64.wrap x).toNat % n
theorem pickV_lt (x : Int) (n : Nat) (h : 0 < n) : pickV x n < n := Nat.mod_lt _ h

set_option maxHeartbeats 1000000 in
set_option maxRecDepth 100000 in
theorem pick_val (x : Int) (n : Nat) (w : World) (h0 : 0 < n) (h1 : n ≤ 4611686018427387904) :
    Calls Tryd.prog 35 #[.int .i64 x, .int .i64 (n : Int)] w fun e w' => e = .returned (.int .i64 (pickV x n : Int)) ∧ w = w' := by
  have hu := u64_nonneg x
  have HN := Aside0.mk (IntWalk.u64_in (n : Int) (by omega))
  have hz : ((IntKind.u64.wrap (n : Int)) == 0) = false := by rw [HN.out, beq_eq_false_iff_ne]; omega
  have hz2 : ¬ IntKind.u64.wrap (n : Int) = 0 := by rw [HN.out]; omega
  have HF : Aside0 (wrap64 (Int.tmod (IntKind.u64.wrap x) (IntKind.u64.wrap (n : Int))) = (pickV x n : Int)) := by
    refine ⟨?_⟩
    rw [HN.out]
    unfold pickV
    generalize IntKind.u64.wrap x = X at *
    obtain ⟨m, rfl⟩ := Int.eq_ofNat_of_zero_le hu
    have e : Int.tmod (m : Int) (n : Int) = ((m % n : Nat) : Int) := by rw [Int.tmod_eq_emod_of_nonneg (by omega)]; simp
    rw [e, Int.toNat_natCast]
    have := Nat.mod_lt m h0
    unfold wrap64; omega
  clear hu h0 h1
  go_enter Tryd.func35, Tryd.ntmps35
  go_wp2
  go_ret
  exact ⟨by rw [← HF.out]; rfl, rfl⟩

theorem pick_calls (x : Int) (n : Nat) (w : World) (h0 : 0 < n) (h1 : n ≤ 4611686018427387904) :
    Calls Tryd.prog 35 #[.int .i64 x, .int .i64 (n : Int)] w fun e w' => (∃ r : Nat, r < n ∧ e = .returned (.int .i64 r)) ∧ w = w' :=
  (pick_val x n w h0 h1).mono fun _ _ ⟨he, hw⟩ => ⟨⟨_, pickV_lt x n h0, he⟩, hw⟩
theorem pick_two (x : Int) : (∀ w, Calls Tryd.prog 35 #[.int .i64 x, .int .i64 2] w fun e w' => e = .returned (.int .i64 0) ∧ w = w') ∨ (∀ w, Calls Tryd.prog 35 #[.int .i64 x, .int .i64 2] w fun e w' => e = .returned (.int .i64 1) ∧ w = w') := by
  have h := pickV_lt x 2 (by omega)
  have hc : pickV x 2 = 0 ∨ pickV x 2 = 1 := by omega
  rcases hc with hc | hc
  · refine Or.inl fun w => (pick_val x 2 w (by omega) (by omega)).mono fun _ _ ⟨he, hw⟩ => ⟨?_, hw⟩
    rw [hc] at he; exact he
  · refine Or.inr fun w => (pick_val x 2 w (by omega) (by omega)).mono fun _ _ ⟨he, hw⟩ => ⟨?_, hw⟩
    rw [hc] at he; exact he

end Go.Proofs.YtkmoeeaaolpdnaaDoor

namespace Go.Proofs.YtkmoeeaaolpdnaaDoor
open Go.RowKit Go.Proofs.YtkmoeeaaolpdnaaDoorW.PrintWords GlobPlain

theorem ib_any (c x : UInt8) (w : World) : Calls Tryd.prog 34 #[.string ⟨#[c]⟩, .int .u8 (x.toNat : Int)] w fun e w' => e = .returned (.int .i64 (if x = c then 0 else -1)) ∧ w = w' :=
  (Tryd.strings_IndexByte ⟨#[c]⟩ (x.toNat : Int) w).mono fun e w' ⟨he, hw⟩ => by
    refine ⟨?_, hw.symm⟩
    rw [he]
    have e1 : ((x.toNat : Int)).toNat.toUInt8 = x := by simp
    rw [e1]
    by_cases h : x = c
    · subst h; rw [if_pos rfl]; simp [Lib.indexByte]
    · have h2 : ¬ c = x := fun e => h e.symm
      rw [if_neg h]; simp [Lib.indexByte, h2]

def onesL (s : ByteArray) (c : UInt8) (n : Nat) : List Nat := (List.range n).filter fun k => s.data.toList.getD k 0 == c && decide (k < s.size)
theorem onesL_in (s : ByteArray) (c : UInt8) (k : Nat) (hk : k < s.size) (h : s[k] = c) : onesL s c (k + 1) = onesL s c k ++ [k] := by
  have := bl_getD s k hk
  simp only [onesL, List.range_succ, List.filter_append]
  congr 1
  rw [List.filter_cons]
  rw [show s.data.toList.getD k 0 = s[k] from this, h]
  simp [hk]
theorem onesL_out (s : ByteArray) (c : UInt8) (k : Nat) (hk : k < s.size) (h : s[k] ≠ c) : onesL s c (k + 1) = onesL s c k := by
  have := bl_getD s k hk
  simp only [onesL, List.range_succ, List.filter_append]
  rw [List.filter_cons]
  rw [show s.data.toList.getD k 0 = s[k] from this]
  simp [h]
theorem onesL_le (s : ByteArray) (c : UInt8) (k : Nat) : (onesL s c k).length ≤ k := by
  have := List.length_filter_le (fun k => s.data.toList.getD k 0 == c && decide (k < s.size)) (List.range k); simpa [onesL] using this
theorem mem_onesL (s : ByteArray) (c : UInt8) (n k : Nat) : k ∈ onesL s c n ↔ k < n ∧ s.data.toList.getD k 0 = c ∧ k < s.size := by
  simp only [onesL, List.mem_filter, List.mem_range, Bool.and_eq_true, beq_iff_eq, decide_eq_true_eq]

/-- what wOne hands back -/
def OneAns (s : ByteArray) (c : UInt8) (e : Ending) : Prop :=
  (∃ (k : Nat) (h : k < s.size), s[k] = c ∧ e = .returned (.tuple #[.int .i64 (k : Int), .bool true])) ∨ (c ∉ bl s ∧ e = .returned (.tuple #[.int .i64 0, .bool false]))

set_option maxHeartbeats 2000000 in
set_option maxRecDepth 100000 in
theorem one_calls (s : ByteArray) (c : UInt8) (which : Int) (w : World) (hs : s.size ≤ 1048576) :
    Calls Tryd.prog 16 #[.string s, .string ⟨#[c]⟩, .int .i64 which] w fun e w' => OneAns s c e ∧ Below w.heap.size w w' := by
  go_enter Tryd.func16, Tryd.ntmps16
  go_wp2
  go_loopw [8, 12] (fun v i wr => ∃ k : Nat, k ≤ s.size ∧ i = .int .i64 k ∧ Aside0 (wr.ownsRow w.heap.size 3 1 v (onesL s c k).length (nums .i64 (ints (onesL s c k)))) ∧ Aside0 (Below w.heap.size w wr)) (fun _ i _ => s.size - (intOf i).toNat)
  case atStart => exact ⟨0, Nat.zero_le _, rfl, ⟨own_nil _ _ _ _⟩, ⟨Below.refl _ _⟩⟩
  case round =>
    obtain ⟨k, hk, rfl, HO, HB⟩ := hrel
    by_cases hlt : k < s.size
    · have HCI := Aside0.mk (ib_any c s[k])
      by_cases hx : s[k] = c
      · have HL := HO.out
        rw [← ints_length] at HL
        have HL' := Aside0.mk HL
        have HPI := Aside0.mk (onesL_in s c k hlt hx)
        have HX := Aside0.mk hx
        clear HL hx
        go_wp2_with fail
        refine (HCI.out _).mono ?_
        rintro e w1 ⟨rfl, rfl⟩
        rw [if_pos HX.out]
        clear HCI HX
        go_wp2_with (at_builtin; refine print_append_num (w0 := w) w.heap.size rfl _ _ 62 3 .i64 8 rfl Tryd.underlying62 info3 (by decide) u8 _ (k : Int) rfl rfl (HL'.out) (HB.out) (HB.out.size) (by rw [ints_length]; have := onesL_le s c k; omega) ?_; intro v1 w2 ho hB1 _ _; have HQ := Aside0.mk ho; have HB2 := Aside0.mk hB1; clear ho hB1)
        rw [ints_snoc, ← HPI.out, ints_length] at HQ
        go_roundw
        case rel => exact ⟨k + 1, by omega, by go_num, HQ, HB2⟩
        case measure => simp [intOf]; omega
      · have HQ := Aside0.mk HO.out
        rw [← onesL_out s c k hlt hx] at HQ
        have HX := Aside0.mk hx
        clear hx
        go_wp2_with fail
        refine (HCI.out _).mono ?_
        rintro e w1 ⟨rfl, rfl⟩
        rw [if_neg HX.out]
        clear HCI HX
        go_wp2
        go_roundw
        case rel => exact ⟨k + 1, by omega, by go_num, HQ, HB⟩
        case measure => simp [intOf]; omega
    · obtain rfl : k = s.size := by omega
      obtain ⟨A2, c2, rfl, hr2⟩ := own_reads HO.out
      have hlen := onesL_le s c s.size
      have HMem := Aside0.mk (fun x => mem_onesL s c s.size x)
      clear HO
      generalize onesL s c s.size = L at *
      by_cases h0L : L.length = 0
      · have hL : ((L.length : Int) == 0) = true := by rw [h0L]; rfl
        have HNone := Aside0.mk (show c ∉ bl s from fun hc => by
          obtain ⟨j, hj, he⟩ := List.getElem_of_mem hc
          have hj2 : j < s.size := by rw [bl_length] at hj; exact hj
          have hin := (HMem.out j).2 ⟨hj2, by rw [show s.data.toList.getD j 0 = (bl s)[j] from getD_lt hj]; exact he, hj2⟩
          rw [List.eq_nil_of_length_eq_zero h0L] at hin
          cases hin)
        clear h0L hr2 HMem
        go_wp2
        go_ret2
        exact ⟨Or.inr ⟨HNone.out, rfl⟩, HB.out⟩
      · have hL : ((L.length : Int) == 0) = false := by rw [beq_eq_false_iff_ne]; omega
        have hrl := pickV_lt which L.length (by omega)
        have hpk := pick_val which L.length wr (by omega) (by omega)
        generalize pickV which L.length = r at *
        obtain ⟨ad, rfl, hc⟩ := hr2.at_ (r : Int) (by omega) (by omega)
        rw [rd_ints L r hrl, Int.toNat_natCast] at hc
        have hin := (HMem.out _).1 (List.getElem_mem hrl)
        clear HMem hr2 h0L
        generalize L[r] = x at *
        have HIN := Aside0.mk hin
        have HP := Aside0.mk hpk
        clear hpk hin
        go_wp2_with fail
        refine HP.out.mono ?_
        rintro e w2 ⟨rfl, rfl⟩
        clear HP
        go_wp2
        go_ret2
        exact ⟨Or.inl ⟨x, HIN.out.2.2, by rw [← bl_getD s x HIN.out.2.2]; exact HIN.out.2.1, rfl⟩, HB.out⟩

end Go.Proofs.YtkmoeeaaolpdnaaDoor

namespace Go.Proofs.YtkmoeeaaolpdnaaDoor
open Go.RowKit Go.Proofs.YtkmoeeaaolpdnaaDoorW.PrintWords Go.Proofs.YtkmoeeaaolpdnaaDoor.PTopFindsMatched

theorem findP_congr {T : List S87} {p q : ByteArray} (h : elts q = elts p) : findP T q = findP T p := by unfold findP; rw [h]
theorem bl_app (p q : ByteArray) : bl (p ++ q) = bl p ++ bl q := by simp [bl]
theorem elts_back (p : ByteArray) : elts (p ++ ⟨#[47]⟩) = elts p := by
  rw [elts_el, elts_el, bl_app, show bl ⟨#[47]⟩ = 47 :: [] from rfl, el_app, el_nil, List.append_nil]
theorem elts_twice (p : ByteArray) (k : Nat) (hk : k < p.size) (h : p[k] = 47) : elts (p.extract 0 k ++ ⟨#[47]⟩ ++ p.extract k p.size) = elts p := by
  have hl : k < (bl p).length := by rw [bl_length]; exact hk
  have hd : (bl p).drop k = 47 :: (bl p).drop (k + 1) := by
    rw [List.drop_eq_getElem_cons hl, show (bl p)[k] = p[k] from rfl, h]
  have e1 : bl (p.extract 0 k) = (bl p).take k := Lib.extract_from_zero p k
  have e2 : bl (p.extract k p.size) = (bl p).drop k := Lib.extract_to_end p k
  have hp : bl p = (bl p).take k ++ 47 :: (bl p).drop (k + 1) := by rw [← hd, List.take_append_drop]
  rw [elts_el, elts_el, bl_app, bl_app, e1, e2, hd, show bl ⟨#[47]⟩ = [47] from rfl]
  congr 1
  conv => rhs; rw [hp, el_app]
  rw [List.append_assoc, show ([47] : List UInt8) ++ 47 :: (bl p).drop (k + 1) = 47 :: ([] ++ 47 :: (bl p).drop (k + 1)) from rfl, el_app, el_app, el_nil, List.nil_append]
theorem one_row (W : World) (q : ByteArray) : ReadsOf Value.string (⟨#[]⟩ : ByteArray) (W.alloc (.cells #[.string q] 9)) (some ⟨W.heap.size, 0, none⟩) [q].length [q] := by
  have h := own_lit_of (enc := Value.string) W W.heap.size 9 [q] (Nat.le_refl _) (by simp)
  obtain ⟨A, c, e, hr⟩ := own_reads_of (d := (⟨#[]⟩ : ByteArray)) h
  injection e with e1 e2 e3
  subst e1
  exact hr

theorem row_world {w w1 : World} {a : Addr} {x : Value} (q : ByteArray) (hB : Below w.heap.size w w1) (ht : w1.cell? a = some x) :
    Below w.heap.size w (w1.alloc (.cells #[.string q] 9)).drew ∧ (w1.alloc (.cells #[.string q] 9)).drew.cell? a = some x ∧
      ReadsOf Value.string (⟨#[]⟩ : ByteArray) (w1.alloc (.cells #[.string q] 9)).drew (some ⟨w1.heap.size, 0, none⟩) [q].length [q] :=
  ⟨below_drew (below_alloc hB _), pw_cell_below (below_drew (below_alloc (Below.refl _ _) _)) ht, (one_row w1 q).below (below_drew (Below.refl _ _))⟩

set_option maxHeartbeats 4000000 in
set_option maxRecDepth 100000 in
theorem slashed_walk (A : Option Addr) (c : Nat) (T : List S87) (p : ByteArray) (which : Int) (w : World) (hT : Kd.C k87 w A T.length T) (hc : T.length ≤ c) (hTm : T.length ≤ 1000000000) (hsm : Small T) (hp : p.size ≤ 1048576) (_ : (Lit.int .i64 which).wf = true)
    (hm : ∃ m, w.cell? ⟨0, 0, none⟩ = some (.int .i64 m)) :
    Calls Tryd.prog 5 #[.agg #[.slice A T.length c], .string p, .int .i64 which] w fun e w' => e = .returned (.bool true) ∧ Below w.heap.size w w' := by
  obtain ⟨m, hm⟩ := hm
  have HFI : Aside0 (∀ (W : World) (q : ByteArray) (M : Option Addr) (qc : Nat), Below w.heap.size w W → elts q = elts p → ReadsOf Value.string (⟨#[]⟩ : ByteArray) W M [q].length [q] →
      Calls Tryd.prog 17 #[.agg #[.slice A T.length c], .string p, .slice M 1 qc] W fun e w' => e = .returned (.bool true) ∧ Below W.heap.size W w') := ⟨fun W q M qc hW he hr =>
    finds_calls A c T p m M qc [q] W (Kd.C_below hT hW) hc hTm hsm (pw_cell_below hW hm) hr (by simp) (fun _ _ x => by simp [findP_congr (T := T) he])⟩
  have HB0 := Aside0.mk (below_alloc (Below.refl w.heap.size w) (.cells #[.slice A T.length c] 27))
  have HTB := Aside0.mk (TBox.new w A T.length c)
  clear hT hsm hm
  go_enter Tryd.func5, Tryd.ntmps5
  go_wp2_with fail
  refine (one_calls p 47 which _ hp).mono ?_
  rintro e w1 ⟨ha, hb1⟩
  have HB := Aside0.mk (below_then HB0.out HB0.out.size hb1)
  have ht1 := (HTB.out.below hb1).cell
  clear hb1 HB0 HTB
  rcases ha with ⟨k, hk, hx, rfl⟩ | ⟨hn, rfl⟩
  · have HX := Aside0.mk (elts_twice p k hk hx)
    have HY := Aside0.mk (elts_back p)
    have hkz : (k : Int) < (p.size : Int) := by omega
    have hkz2 : (k : Int) ≤ (p.size : Int) := by omega
    clear hx
    go_wp2_with fail
    · refine (HFI.out _ (p ++ ⟨#[47]⟩) _ _ (below_alloc HB.out _) HY.out (one_row w1 _)).mono ?_
      rintro e w3 ⟨rfl, hb3⟩
      have HB3 := Aside0.mk (below_then (below_alloc HB.out (.cells #[.string (p ++ ⟨#[47]⟩)] 9)) (below_alloc HB.out (.cells #[.string (p ++ ⟨#[47]⟩)] 9)).size hb3)
      clear hb3 HFI
      go_wp2
      go_ret
      exact ⟨rfl, HB3.out⟩
    · have hz1 : ¬ 9223372036854775807 < min k p.size + 1 := by omega
      have hz2 : ¬ 9223372036854775807 < min k p.size + 1 + (p.size - k) := by omega
      have HRW := Aside0.mk (row_world (p.extract 0 k ++ ⟨#[47]⟩ ++ p.extract k p.size) HB.out ht1)
      go_region_held3 (fun w' => w'.cell? ⟨w.heap.size, 0, none⟩ = some (.slice A T.length c))
        (first
          | exact HCK.out
          | go_keep)
        (first
          | (go_at_call 17; refine (HFI.out _ _ _ _ HRW.out.1 HX.out HRW.out.2.2).mono ?_; rintro e w3 ⟨rfl, hb3⟩; have HCK := Aside0.mk (pw_cell_below hb3 HRW.out.2.1); have HB3 := Aside0.mk (below_then HRW.out.1 HRW.out.1.size hb3); clear hb3)
          | fail)
      all_goals
        go_wp2
        go_ret
        exact ⟨rfl, HB3.out⟩
  · clear hn
    go_wp2_with fail
    refine (globs_calls _).mono ?_
    rintro e w3 ⟨rfl, hb3⟩
    have HB3 := Aside0.mk (below_then HB.out HB.out.size hb3)
    clear hb3
    go_wp2
    go_ret
    exact ⟨rfl, HB3.out⟩
end Go.Proofs.YtkmoeeaaolpdnaaDoor
