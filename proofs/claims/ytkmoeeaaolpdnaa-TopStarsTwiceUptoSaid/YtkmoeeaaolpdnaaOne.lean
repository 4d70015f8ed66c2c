/-
  The walk of wOne at one byte: the place of one of the bytes of a string that are that byte, or none.
  Condition: the string has at most 1048576 bytes.
-/
import Derived.Test.YtkmoeeaaolpdnaaPick
import Derived.Test.YtkmoeeaaolpdnaaShelf
import Derived.Laws.Strings2
namespace Go.Proofs.Ytkmoeeaaolpdnaa
open Go.RowKit Go.Proofs.YtkmoeeaaolpdnaaW.PrintWords GlobPlain

theorem ib_any (c x : UInt8) (w : World) : Calls Try.prog 19 #[.string ⟨#[c]⟩, .int .u8 (x.toNat : Int)] w fun e w' => e = .returned (.int .i64 (if x = c then 0 else -1)) ∧ w = w' :=
  (Try.strings_IndexByte ⟨#[c]⟩ (x.toNat : Int) w).mono fun e w' ⟨he, hw⟩ => by
    refine ⟨?_, hw.symm⟩
    rw [he]
    have e1 : ((x.toNat : Int)).toNat.toUInt8 = x := by simp
    rw [e1]
    by_cases h : x = c
    · subst h; rw [if_pos rfl]; simp [Lib.indexByte]
    · have h2 : ¬ c = x := fun e => h e.symm
      rw [if_neg h]; simp [Lib.indexByte, h2]

def onesL (s : ByteArray) (c : UInt8) (n : Nat) : List Nat := (List.range n).filter fun k => s.data.toList.getD k 0 == c && decide (k < s.size)
theorem onesL_in (s : ByteArray) (c : UInt8) (k : Nat) (hk : k < s.size) (h : s[k] = c) : onesL s c (k + 1) = onesL s c k ++ [k] := by
  have := bl_getD s k hk
  simp only [onesL, List.range_succ, List.filter_append]
  congr 1
  rw [List.filter_cons]
  rw [show s.data.toList.getD k 0 = s[k] from this, h]
  simp [hk]
theorem onesL_out (s : ByteArray) (c : UInt8) (k : Nat) (hk : k < s.size) (h : s[k] ≠ c) : onesL s c (k + 1) = onesL s c k := by
  have := bl_getD s k hk
  simp only [onesL, List.range_succ, List.filter_append]
  rw [List.filter_cons]
  rw [show s.data.toList.getD k 0 = s[k] from this]
  simp [h]
theorem onesL_le (s : ByteArray) (c : UInt8) (k : Nat) : (onesL s c k).length ≤ k := by
  have := List.length_filter_le (fun k => s.data.toList.getD k 0 == c && decide (k < s.size)) (List.range k); simpa [onesL] using this
theorem mem_onesL (s : ByteArray) (c : UInt8) (n k : Nat) : k ∈ onesL s c n ↔ k < n ∧ s.data.toList.getD k 0 = c ∧ k < s.size := by
  simp only [onesL, List.mem_filter, List.mem_range, Bool.and_eq_true, beq_iff_eq, decide_eq_true_eq]

/-- what wOne hands back -/
def OneAns (s : ByteArray) (c : UInt8) (e : Ending) : Prop :=
  (∃ (k : Nat) (h : k < s.size), s[k] = c ∧ e = .returned (.tuple #[.int .i64 (k : Int), .bool true])) ∨ (c ∉ bl s ∧ e = .returned (.tuple #[.int .i64 0, .bool false]))

set_option maxHeartbeats 2000000 in
set_option maxRecDepth 100000 in
theorem one_calls (s : ByteArray) (c : UInt8) (which : Int) (w : World) (hs : s.size ≤ 1048576) :
    Calls Try.prog 16 #[.string s, .string ⟨#[c]⟩, .int .i64 which] w fun e w' => OneAns s c e ∧ Below w.heap.size w w' := by
  go_enter Try.func16, Try.ntmps16
  go_wp2
  go_loopw [8, 12] (fun v i wr => ∃ k : Nat, k ≤ s.size ∧ i = .int .i64 k ∧ Aside0 (wr.ownsRow w.heap.size 3 1 v (onesL s c k).length (nums .i64 (ints (onesL s c k)))) ∧ Aside0 (Below w.heap.size w wr)) (fun _ i _ => s.size - (intOf i).toNat)
  case atStart => exact ⟨0, Nat.zero_le _, rfl, ⟨own_nil _ _ _ _⟩, ⟨Below.refl _ _⟩⟩
  case round =>
    obtain ⟨k, hk, rfl, HO, HB⟩ := hrel
    by_cases hlt : k < s.size
    · have HCI := Aside0.mk (ib_any c s[k])
      by_cases hx : s[k] = c
      · have HL := HO.out
        rw [← ints_length] at HL
        have HL' := Aside0.mk HL
        have HPI := Aside0.mk (onesL_in s c k hlt hx)
        have HX := Aside0.mk hx
        clear HL hx
        go_wp2_with fail
        refine (HCI.out _).mono ?_
        rintro e w1 ⟨rfl, rfl⟩
        rw [if_pos HX.out]
        clear HCI HX
        go_wp2_with (at_builtin; refine print_append_num (w0 := w) w.heap.size rfl _ _ 22 3 .i64 8 rfl Try.underlying22 info3 (by decide) u8 _ (k : Int) rfl rfl (HL'.out) (HB.out) (HB.out.size) (by rw [ints_length]; have := onesL_le s c k; omega) ?_; intro v1 w2 ho hB1 _ _; have HQ := Aside0.mk ho; have HB2 := Aside0.mk hB1; clear ho hB1)
        rw [ints_snoc, ← HPI.out, ints_length] at HQ
        go_roundw
        case rel => exact ⟨k + 1, by omega, by go_num, HQ, HB2⟩
        case measure => simp [intOf]; omega
      · have HQ := Aside0.mk HO.out
        rw [← onesL_out s c k hlt hx] at HQ
        have HX := Aside0.mk hx
        clear hx
        go_wp2_with fail
        refine (HCI.out _).mono ?_
        rintro e w1 ⟨rfl, rfl⟩
        rw [if_neg HX.out]
        clear HCI HX
        go_wp2
        go_roundw
        case rel => exact ⟨k + 1, by omega, by go_num, HQ, HB⟩
        case measure => simp [intOf]; omega
    · obtain rfl : k = s.size := by omega
      obtain ⟨A2, c2, rfl, hr2⟩ := own_reads HO.out
      have hlen := onesL_le s c s.size
      have HMem := Aside0.mk (fun x => mem_onesL s c s.size x)
      clear HO
      generalize onesL s c s.size = L at *
      by_cases h0L : L.length = 0
      · have hL : ((L.length : Int) == 0) = true := by rw [h0L]; rfl
        have HNone := Aside0.mk (show c ∉ bl s from fun hc => by
          obtain ⟨j, hj, he⟩ := List.getElem_of_mem hc
          have hj2 : j < s.size := by rw [bl_length] at hj; exact hj
          have hin := (HMem.out j).2 ⟨hj2, by rw [show s.data.toList.getD j 0 = (bl s)[j] from getD_lt hj]; exact he, hj2⟩
          rw [List.eq_nil_of_length_eq_zero h0L] at hin
          cases hin)
        clear h0L hr2 HMem
        go_wp2
        go_ret2
        exact ⟨Or.inr ⟨HNone.out, rfl⟩, HB.out⟩
      · have hL : ((L.length : Int) == 0) = false := by rw [beq_eq_false_iff_ne]; omega
        have hrl := pickV_lt which L.length (by omega)
        have hpk := pick_val which L.length wr (by omega) (by omega)
        generalize pickV which L.length = r at *
        obtain ⟨ad, rfl, hc⟩ := hr2.at_ (r : Int) (by omega) (by omega)
        rw [rd_ints L r hrl, Int.toNat_natCast] at hc
        have hin := (HMem.out _).1 (List.getElem_mem hrl)
        clear HMem hr2 h0L
        generalize L[r] = x at *
        have HIN := Aside0.mk hin
        have HP := Aside0.mk hpk
        clear hpk hin
        go_wp2_with fail
        refine HP.out.mono ?_
        rintro e w2 ⟨rfl, rfl⟩
        clear HP
        go_wp2
        go_ret2
        exact ⟨Or.inl ⟨x, HIN.out.2.2, by rw [← bl_getD s x HIN.out.2.2]; exact HIN.out.2.1, rfl⟩, HB.out⟩

end Go.Proofs.Ytkmoeeaaolpdnaa
