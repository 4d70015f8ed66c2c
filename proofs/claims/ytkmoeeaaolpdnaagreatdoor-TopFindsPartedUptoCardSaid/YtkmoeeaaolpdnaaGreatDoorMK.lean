/-
 The walk of TopFindsParted: it returns true. Conditions: the pattern has at most 1048576 bytes; the tree is not beyond a bound; the library's variable MaxLen holds a number.
-/
import Derived.Test.YtkmoeeaaolpdnaaGreatDoorMJ
namespace Go.Proofs.YtkmoeeaaolpdnaaGreatDoor
open Go.RowKit Go.Proofs.YtkmoeeaaolpdnaaGreatDoorW.PrintWords Go.Proofs.YtkmoeeaaolpdnaaGreatDoor.PTopFindsTwice
set_option linter.unusedVariables false

theorem box_new (w : World) (z v : Value) (t : TypeId) : ((w.alloc (.cells #[z] t)).setCell ⟨w.heap.size, 0, none⟩ v).heap[w.heap.size]? = some (.cells #[v] t (0, 0)) ∧ Below w.heap.size w ((w.alloc (.cells #[z] t)).setCell ⟨w.heap.size, 0, none⟩ v) ∧
    ((w.alloc (.cells #[z] t)).setCell ⟨w.heap.size, 0, none⟩ v).heap.size = w.heap.size + 1 :=
  ⟨blk_set (heap_alloc_new w _) 0 v, (below_alloc (Below.refl _ _) _).setCell (p := ⟨w.heap.size, 0, none⟩) (Nat.le_refl _) _, by rw [World.size_setCell, World.size_alloc]⟩
theorem blk_alloc_old {w : World} {g : Nat} {o o' : Obj} (h : w.heap[g]? = some o) : (w.alloc o').heap[g]? = some o := (heap_alloc_old w o' (blk_lt h)).trans h
theorem blk_alloc_at {w : World} {g : Nat} {o : Obj} (h : g = w.heap.size) : (w.alloc o).heap[g]? = some o := by subst h; exact heap_alloc_new w o
theorem lit_blk {w : World} {g : Nat} {xs : List ByteArray} (h : w.heap[g]? = some (.cells (encs Value.string xs).toArray 9 (0, 0))) (hx : xs.length ≤ 1000) :
    w.ownsRow 0 9 1 (.slice (some ⟨g, 0, none⟩) xs.length xs.length) xs.length (encs Value.string xs) :=
  ⟨by rw [encs_length, Nat.mul_one], Or.inr ⟨g, xs.length, _, rfl, Nat.zero_le _, h, Nat.le_refl _, by have : maxLen = 9223372036854775807 := rfl; omega, by rw [List.size_toArray, encs_length, Nat.mul_one], by
    show (encs Value.string xs).take _ = _
    rw [List.take_of_length_le (by rw [encs_length, Nat.mul_one]; exact Nat.le_refl _)]⟩⟩

theorem row_two (W : World) (a b : ByteArray) : ReadsOf Value.string (⟨#[]⟩ : ByteArray) (W.alloc (.cells #[.string a, .string b] 9)) (some ⟨W.heap.size, 0, none⟩) [a, b].length [a, b] := by
  have h := own_lit_of (enc := Value.string) W W.heap.size 9 [a, b] (Nat.le_refl _) (by simp)
  obtain ⟨A, c, e, hr⟩ := own_reads_of (d := (⟨#[]⟩ : ByteArray)) h
  injection e with e1 e2 e3
  subst e1
  exact hr

set_option maxHeartbeats 8000000 in
set_option maxRecDepth 100000 in
theorem parted_walk (A : Option Addr) (c : Nat) (T : List S104) (p : ByteArray) (which : Int) (w : World) (hT : Kd.C k104 w A T.length T) (hc : T.length ≤ c) (hTm : T.length ≤ 1000000000) (hsm : Small T) (hp : p.size ≤ 1048576) (_ : (Lit.int .i64 which).wf = true)
    (hm : ∃ m, w.cell? ⟨0, 0, none⟩ = some (.int .i64 m)) :
    Calls Tryz.prog 4 #[.agg #[.slice A T.length c], .string p, .int .i64 which] w fun e w' => e = .returned (.bool true) ∧ Below w.heap.size w w' := by
  obtain ⟨m, hm⟩ := hm
  obtain ⟨hfn, hln⟩ := fine_elts p hp
  have hel := els_elts p
  have HFI0 : Aside0 (∀ (k : Nat) (W : World) (M : Option Addr) (qc : Nat), Below w.heap.size w W → ReadsOf Value.string (⟨#[]⟩ : ByteArray) W M [pStr (elts p), pStr ((elts p).take k ++ [st, dd] ++ (elts p).drop k)].length [pStr (elts p), pStr ((elts p).take k ++ [st, dd] ++ (elts p).drop k)] →
      Calls Tryz.prog 10 #[.agg #[.slice A T.length c], .string (pStr ((elts p).take k ++ [dd] ++ (elts p).drop k)), .slice M 2 qc] W fun e w' => e = .returned (.bool true) ∧ Below W.heap.size W w') := ⟨fun k W M qc hW hr =>
    finds_calls A c T _ m M qc [pStr (elts p), pStr ((elts p).take k ++ [st, dd] ++ (elts p).drop k)] W (Kd.C_below hT hW) hc hTm hsm (pw_cell_below hW hm) hr (by simp) (fun _ _ x => law_part hel k x)⟩
  have HPC := Aside0.mk (parts_calls p m (w.alloc (.cells #[.slice A T.length c] 24)) hp (pw_cell_below (below_alloc (Below.refl w.heap.size w) (.cells #[.slice A T.length c] 24)) hm))
  have HB0 := Aside0.mk (below_alloc (Below.refl w.heap.size w) (.cells #[.slice A T.length c] 24))
  have HTB := Aside0.mk (TBox.new w A T.length c)
  have HFN := Aside0.mk hfn
  clear hT hsm hm hel
  generalize elts p = l at *
  go_enter Tryz.func4, Tryz.ntmps4
  go_wp2_with fail
  refine HPC.out.mono ?_
  rintro e w1 ⟨vl, rfl, hol, hb1⟩
  have HB1 := Aside0.mk (below_then HB0.out HB0.out.size hb1)
  have HTB1 := Aside0.mk (HTB.out.below hb1)
  have HOL := Aside0.mk hol
  obtain ⟨Al, cl, rfl⟩ := own_slice hol
  have hrl := pickV_lt which (l.length + 1) (by omega)
  have HP := Aside0.mk (fun W => show Calls Tryz.prog 7 #[.int .i64 which, .int .i64 ((l.length : Int) + 1)] W _ from by
    have h := pick_val which (l.length + 1) W (by omega) (by omega)
    rw [show ((l.length + 1 : Nat) : Int) = (l.length : Int) + 1 from by omega] at h
    exact h)
  clear hb1 HB0 HTB HPC hol
  generalize pickV which (l.length + 1) = k at *
  go_wp2_with fail
  refine (HP.out _).mono ?_
  rintro e w2 ⟨rfl, rfl⟩
  clear HP
  go_wp2_with fail
  have HX1 := Aside0.mk (blk_alloc_old (o' := .cells #[.int .i64 (k : Int)] 3) (heap_alloc_new w1 (.cells #[.slice Al l.length cl] 25)))
  have HX2 := Aside0.mk (blk_alloc_at (o := .cells #[.int .i64 (k : Int)] 3) (World.size_alloc w1 (.cells #[.slice Al l.length cl] 25)).symm)
  have HBA := Aside0.mk (below_alloc (below_alloc (Below.refl w1.heap.size w1) (.cells #[.slice Al l.length cl] 25)) (.cells #[.int .i64 (k : Int)] 3))
  have HB2 := Aside0.mk (below_then HB1.out HB1.out.size HBA.out)
  have HT2 := Aside0.mk (HTB1.out.below HBA.out)
  have HO2 := Aside0.mk (pw_own_below HOL.out HBA.out)
  clear HBA HB1 HTB1 HOL
  generalize (w1.alloc (.cells #[.slice Al l.length cl] 25)).alloc (.cells #[.int .i64 (k : Int)] 3) = W2 at *
  have hd1 : (dd : ByteArray).size ≤ 1048576 := by decide
  have hd2 : (st : ByteArray).size ≤ 1048576 := by decide
  have HW : Aside0 (∀ (X : World) (V : Value) (ys : List ByteArray), Below W2.heap.size W2 X → X.ownsRow 0 9 1 V ys.length (encs Value.string ys) → (V = .slice none 0 0 ∨ 0 < ys.length) → ys.length ≤ 2 → (∀ s ∈ ys, s.size ≤ 1048576) →
      Calls Tryz.prog 12 #[V, .pointer (some ⟨w1.heap.size, 0, none⟩), .pointer (some ⟨w1.heap.size + 1, 0, none⟩)] X fun e w' => e = .returned (.string (pStr (l.take k ++ ys ++ l.drop k))) ∧ Below X.heap.size X w') := ⟨fun X V ys hX ho hy hy2 hys =>
    with_calls w1.heap.size (w1.heap.size + 1) (.slice Al l.length cl) V _ 0 k l ys X (blk_below HX1.out hX) (blk_below HX2.out hX) (pw_own_below HO2.out hX) ho (by omega) hy HFN.out (fine_ins k hln HFN.out.2 hy2 hys)⟩
  have H1 : Aside0 (∀ (X : World) (g : Nat), Below W2.heap.size W2 X → X.heap[g]? = some (.cells #[.string ⟨#[42, 42]⟩] 9 (0, 0)) →
      Calls Tryz.prog 12 #[.slice (some ⟨g, 0, none⟩) 1 1, .pointer (some ⟨w1.heap.size, 0, none⟩), .pointer (some ⟨w1.heap.size + 1, 0, none⟩)] X fun e w' => e = .returned (.string (pStr (l.take k ++ [dd] ++ l.drop k))) ∧ Below X.heap.size X w') := ⟨fun X g hX hg =>
    HW.out X _ [dd] hX (lit_blk hg (by simp)) (Or.inr (by simp)) (by simp) (fun s hs => by rw [List.mem_singleton.1 hs]; exact hd1)⟩
  have H0 : Aside0 (∀ (X : World), Below W2.heap.size W2 X →
      Calls Tryz.prog 12 #[.slice none 0 0, .pointer (some ⟨w1.heap.size, 0, none⟩), .pointer (some ⟨w1.heap.size + 1, 0, none⟩)] X fun e w' => e = .returned (.string (pStr l)) ∧ Below X.heap.size X w') := ⟨fun X hX => by
    have h := HW.out X (.slice none 0 0) [] hX (own_nil _ _ _ _) (Or.inl rfl) (by simp) (fun s hs => by cases hs)
    rw [List.append_nil, List.take_append_drop] at h
    exact h⟩
  have H2 : Aside0 (∀ (X : World) (g : Nat), Below W2.heap.size W2 X → X.heap[g]? = some (.cells #[.string ⟨#[42]⟩, .string ⟨#[42, 42]⟩] 9 (0, 0)) →
      Calls Tryz.prog 12 #[.slice (some ⟨g, 0, none⟩) 2 2, .pointer (some ⟨w1.heap.size, 0, none⟩), .pointer (some ⟨w1.heap.size + 1, 0, none⟩)] X fun e w' => e = .returned (.string (pStr (l.take k ++ [st, dd] ++ l.drop k))) ∧ Below X.heap.size X w') := ⟨fun X g hX hg =>
    HW.out X _ [st, dd] hX (lit_blk hg (by simp)) (Or.inr (by simp)) (by simp) (fun s hs => by
      rcases List.mem_cons.1 hs with rfl | hs
      · exact hd2
      · rw [List.mem_singleton.1 hs]; exact hd1)⟩
  have HFI := Aside0.mk (HFI0.out k)
  have htq := HT2.out.cell
  clear HFI0 HW HX1 HX2 HO2 HFN hd1 hd2 hfn hln hrl hTm hp
  generalize pStr (l.take k ++ [dd] ++ l.drop k) = s1 at *
  generalize pStr (l.take k ++ [st, dd] ++ l.drop k) = s2 at *
  generalize pStr l = s0 at *
  have F1 := Aside0.mk (show Below W2.heap.size W2 (W2.alloc (.cells #[.string ⟨#[42, 42]⟩] 9)).drew ∧ (W2.alloc (.cells #[.string ⟨#[42, 42]⟩] 9)).drew.heap[W2.heap.size]? = some (.cells #[.string ⟨#[42, 42]⟩] 9 (0, 0)) from
    ⟨below_drew (below_alloc (Below.refl _ _) _), heap_alloc_new W2 _⟩)
  have F2 := Aside0.mk (show Below W2.heap.size W2 ((W2.alloc (.cells #[.string ⟨#[42, 42]⟩] 9)).alloc (.cells #[.string ⟨#[42]⟩, .string ⟨#[42, 42]⟩] 9)).drew ∧
      ((W2.alloc (.cells #[.string ⟨#[42, 42]⟩] 9)).alloc (.cells #[.string ⟨#[42]⟩, .string ⟨#[42, 42]⟩] 9)).drew.heap[W2.heap.size]? = some (.cells #[.string ⟨#[42, 42]⟩] 9 (0, 0)) ∧
      ((W2.alloc (.cells #[.string ⟨#[42, 42]⟩] 9)).alloc (.cells #[.string ⟨#[42]⟩, .string ⟨#[42, 42]⟩] 9)).drew.heap[W2.heap.size + 1]? = some (.cells #[.string ⟨#[42]⟩, .string ⟨#[42, 42]⟩] 9 (0, 0)) from
    ⟨below_drew (below_alloc (below_alloc (Below.refl _ _) _) _), blk_alloc_old (heap_alloc_new W2 _), blk_alloc_at (World.size_alloc _ _).symm⟩)
  have F3 := Aside0.mk (show Below W2.heap.size W2 ((W2.alloc (.cells #[.string ⟨#[42]⟩, .string ⟨#[42, 42]⟩] 9)).alloc (.cells #[.string ⟨#[42, 42]⟩] 9)).drew ∧
      ((W2.alloc (.cells #[.string ⟨#[42]⟩, .string ⟨#[42, 42]⟩] 9)).alloc (.cells #[.string ⟨#[42, 42]⟩] 9)).drew.heap[W2.heap.size + 1]? = some (.cells #[.string ⟨#[42, 42]⟩] 9 (0, 0)) ∧
      ((W2.alloc (.cells #[.string ⟨#[42]⟩, .string ⟨#[42, 42]⟩] 9)).alloc (.cells #[.string ⟨#[42, 42]⟩] 9)).drew.heap[W2.heap.size]? = some (.cells #[.string ⟨#[42]⟩, .string ⟨#[42, 42]⟩] 9 (0, 0)) from
    ⟨below_drew (below_alloc (below_alloc (Below.refl _ _) _) _), blk_alloc_at (World.size_alloc _ _).symm, blk_alloc_old (heap_alloc_new W2 _)⟩)
  have C1 := Aside0.mk (H1.out _ _ F1.out.1 F1.out.2)
  have C2 := Aside0.mk (H1.out _ _ F2.out.1 F2.out.2.1)
  have C3 := Aside0.mk (H1.out _ _ F3.out.1 F3.out.2.1)
  go_region_held3 (fun w' => w'.cell? ⟨w.heap.size, 0, none⟩ = some (.slice A T.length c))
    (first
      | exact HCK9.out
      | exact HCK8.out
      | exact HCK6.out
      | exact HCK5.out
      | go_keep)
    (first
      | (go_at_call 12; have hr := HR6.out; clear hr; (first | with_reducible refine (H2.out _ _ HB6.out HZ6.out).mono ?_ | with_reducible refine (H2.out _ _ (below_alloc HB6.out _) (heap_alloc_new w6 _)).mono ?_); rintro e w8 ⟨rfl, hb8⟩; (first | have HB8 := Aside0.mk (below_then HB6.out HB6.out.size hb8) | have HB8 := Aside0.mk (below_then (below_alloc HB6.out (.cells #[.string ⟨#[42]⟩, .string ⟨#[42, 42]⟩] 9)) (below_alloc HB6.out (.cells #[.string ⟨#[42]⟩, .string ⟨#[42, 42]⟩] 9)).size hb8)); have HCK8 := Aside0.mk (pw_cell_below HB8.out htq); have HRW := Aside0.mk (And.intro (below_then HB2.out HB2.out.size (below_alloc HB8.out (.cells #[.string s0, .string s2] 9))) (row_two w8 s0 s2)); have HCA := Aside0.mk (pw_cell_below (below_alloc HB8.out (.cells #[.string s0, .string s2] 9)) htq); clear hb8)
      | (go_at_call 12; have hr := HR5.out; clear hr; (first | with_reducible refine (H0.out _ HB5.out).mono ?_ | with_reducible refine (H0.out _ (below_alloc HB5.out _)).mono ?_); rintro e w6 ⟨rfl, hb6⟩; (first | have HB6 := Aside0.mk (below_then HB5.out HB5.out.size hb6) | have HB6 := Aside0.mk (below_then (below_alloc HB5.out (.cells #[.string ⟨#[42]⟩, .string ⟨#[42, 42]⟩] 9)) (below_alloc HB5.out (.cells #[.string ⟨#[42]⟩, .string ⟨#[42, 42]⟩] 9)).size hb6)); (first | have HZ6 := Aside0.mk (blk_below HZ5.out hb6) | have HZ6 := Aside0.mk (blk_below (heap_alloc_new w5 (.cells #[.string ⟨#[42]⟩, .string ⟨#[42, 42]⟩] 9)) hb6) | skip); have HCK6 := Aside0.mk (pw_cell_below HB6.out htq); have HR6 := Aside0.mk True.intro; clear hb6)
      | (go_at_call 12; (first | with_reducible refine C1.out.mono ?_ | with_reducible refine C2.out.mono ?_ | with_reducible refine C3.out.mono ?_); rintro e w5 ⟨rfl, hb5⟩; (first | have HB5 := Aside0.mk (below_then F1.out.1 F1.out.1.size hb5) | have HB5 := Aside0.mk (below_then F2.out.1 F2.out.1.size hb5) | have HB5 := Aside0.mk (below_then F3.out.1 F3.out.1.size hb5)); (first | have HZ5 := Aside0.mk (blk_below F2.out.2.2 hb5) | have HZ5 := Aside0.mk (blk_below F3.out.2.2 hb5) | skip); have HCK5 := Aside0.mk (pw_cell_below HB5.out htq); have HR5 := Aside0.mk True.intro; clear hb5)
      | (go_at_call 10; with_reducible refine (HFI.out _ _ _ HRW.out.1 HRW.out.2).mono ?_; rintro e w9 ⟨rfl, hb9⟩; have HCK9 := Aside0.mk (pw_cell_below hb9 HCA.out); have HB9 := Aside0.mk (below_then HRW.out.1 HRW.out.1.size hb9); clear hb9)
      | fail)
  all_goals
    go_wp2
    go_ret
    exact ⟨rfl, HB9.out⟩
end Go.Proofs.YtkmoeeaaolpdnaaGreatDoor
