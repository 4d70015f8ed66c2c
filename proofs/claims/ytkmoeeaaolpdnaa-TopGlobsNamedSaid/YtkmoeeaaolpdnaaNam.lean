/-
  The walks of TopGlobsNamed and of its inner function: two bytes change their roles.
  Condition: the strings have at most 140737488351232 bytes.
-/
import Derived.Test.YtkmoeeaaolpdnaaRev
namespace Go.Proofs.Ytkmoeeaaolpdnaa
open Go.RowKit Go.Proofs.YtkmoeeaaolpdnaaW.PrintWords GlobPlain

/-- two numbers change their roles -/
def swI (a b x : Int) : Int := if x = a then b else if x = b then a else x
def swK (a b : Int) (xs : List Int) (k : Nat) : List Int := (xs.take k).map (swI a b) ++ xs.drop k
theorem swK_zero (a b : Int) (xs : List Int) : swK a b xs 0 = xs := by simp [swK]
theorem swK_all (a b : Int) (xs : List Int) : swK a b xs xs.length = xs.map (swI a b) := by simp [swK]
theorem swK_length (a b : Int) (xs : List Int) (k : Nat) : (swK a b xs k).length = xs.length := by
  simp only [swK, List.length_append, List.length_map, List.length_take, List.length_drop]; omega
theorem swK_at (a b : Int) (xs : List Int) (k : Nat) (h : k < xs.length) (h' : k < (swK a b xs k).length) : (swK a b xs k)[k] = xs[k] := by
  have hl : ((xs.take k).map (swI a b)).length = k := by rw [List.length_map, List.length_take]; omega
  simp only [swK]
  rw [List.getElem_append_right (by omega)]
  simp [List.length_take, Nat.min_eq_left (Nat.le_of_lt h)]
theorem swK_succ (a b : Int) (xs : List Int) (k : Nat) (h : k < xs.length) : swK a b xs (k + 1) = (swK a b xs k).set k (swI a b xs[k]) := by
  have hl : ((xs.take k).map (swI a b)).length = k := by rw [List.length_map, List.length_take]; omega
  simp only [swK]
  rw [List.take_succ_eq_append_getElem h, List.map_append, List.set_append_right _ _ (by omega), hl, Nat.sub_self, List.append_assoc]
  congr 1
  rw [List.drop_eq_getElem_cons h]; rfl
theorem swK_keep (a b : Int) (xs : List Int) (k : Nat) (h : k < xs.length) (he : swI a b xs[k] = xs[k]) : swK a b xs (k + 1) = swK a b xs k := by
  rw [swK_succ a b xs k h, he]
  have h' : k < (swK a b xs k).length := by rw [swK_length]; exact h
  rw [← swK_at a b xs k h h', List.set_getElem_self]

set_option maxHeartbeats 1000000 in
set_option maxRecDepth 100000 in
theorem other_calls (s : ByteArray) (pa pb : Nat) (a b : Int) (w : World) (hs : s.size ≤ 140737488351232) (hpa : pa < w.heap.size) (hpb : pb < w.heap.size)
    (ha : w.cell? ⟨pa, 0, none⟩ = some (.int .u8 a)) (hb : w.cell? ⟨pb, 0, none⟩ = some (.int .u8 b)) :
    Calls Try.prog 14 #[.string s, .pointer (some ⟨pa, 0, none⟩), .pointer (some ⟨pb, 0, none⟩)] w fun e w' => e = .returned (.string (strOfNums ((bytesOf s).map (swI a b)))) ∧ Below w.heap.size w w' := by
  have kb := fun W => print_bytes (P := Try.prog) 9 33 5 Try.underlying9 Try.underlying33 Try.underlying5 s W
  have HS := Aside0.mk (Bs.new w s)
  have HB := Aside0.mk (bytes_below (Below.refl w.heap.size w) (Nat.le_refl _) 5 s)
  have HA := Aside0.mk ha
  have HBb := Aside0.mk hb
  clear ha hb
  go_enter Try.func14, Try.ntmps14
  go_wp2
  clear kb
  go_loopw [11] (fun c wr => ∃ k : Nat, k ≤ s.size ∧ c = .int .i64 k ∧ Aside0 (Bs wr w.heap.size (swK a b (bytesOf s) k)) ∧ Aside0 (Below w.heap.size w wr)) (fun c _ => s.size - (intOf c).toNat)
  case atStart => exact ⟨0, Nat.zero_le _, rfl, ⟨by rw [swK_zero]; exact HS.out⟩, HB⟩
  case round =>
    clear HS HB
    obtain ⟨k, hk, rfl, HS, HB⟩ := hrel
    by_cases hlt : k < s.size
    · have hkl : k < (bytesOf s).length := by rw [bytesOf_length]; exact hlt
      have hkl2 : k < (swK a b (bytesOf s) k).length := by rw [swK_length]; exact hkl
      obtain ⟨hc1, hf1⟩ := HS.out.cell k hkl2
      rw [swK_at a b _ k hkl hkl2] at hc1
      have ha1 : wr.cell? ⟨pa, 0, none⟩ = some (.int .u8 a) := (HB.out.cell (p := ⟨pa, 0, none⟩) hpa).trans HA.out
      have hb1 : wr.cell? ⟨pb, 0, none⟩ = some (.int .u8 b) := (HB.out.cell (p := ⟨pb, 0, none⟩) hpb).trans HBb.out
      have HSU := Aside0.mk (swK_succ a b (bytesOf s) k hkl)
      have HKE := Aside0.mk (swK_keep a b (bytesOf s) k hkl)
      generalize (bytesOf s)[k] = X at *
      clear hkl hkl2
      by_cases h1 : X = a
      · have e1 : (X == a) = true := beq_iff_eq.2 h1
        have HQ := Aside0.mk (HS.out.set k b)
        have hsu := HSU.out
        rw [show swI a b X = b from by simp [swI, h1]] at hsu
        rw [← hsu] at HQ
        clear hsu
        clear h1 HSU HKE
        go_wp2
        go_roundw
        case rel => exact ⟨k + 1, by omega, by go_num, HQ, ⟨HB.out.setCell (p := ⟨w.heap.size, k, none⟩) (Nat.le_refl _) _⟩⟩
        case measure => simp [intOf]; omega
      · have e1 : (X == a) = false := beq_eq_false_iff_ne.2 h1
        by_cases h2 : X = b
        · have e2 : (X == b) = true := beq_iff_eq.2 h2
          have HQ := Aside0.mk (HS.out.set k a)
          have hsu := HSU.out
          rw [show swI a b X = a from by rw [swI, if_neg h1, if_pos h2]] at hsu
          rw [← hsu] at HQ
          clear hsu
          clear h1 h2 HSU HKE
          go_wp2
          go_roundw
          case rel => exact ⟨k + 1, by omega, by go_num, HQ, ⟨HB.out.setCell (p := ⟨w.heap.size, k, none⟩) (Nat.le_refl _) _⟩⟩
          case measure => simp [intOf]; omega
        · have e2 : (X == b) = false := beq_eq_false_iff_ne.2 h2
          have HQ := Aside0.mk HS.out
          rw [← HKE.out (by rw [swI, if_neg h1, if_neg h2])] at HQ
          clear h1 h2 HSU HKE
          go_wp2
          go_roundw
          case rel => exact ⟨k + 1, by omega, by go_num, HQ, ⟨HB.out⟩⟩
          case measure => simp [intOf]; omega
    · obtain rfl : k = s.size := by omega
      have HQ := HS.out.string (grownCap w s.size 0 5)
      rw [swK_length, bytesOf_length, ← bytesOf_length s, swK_all] at HQ
      rw [bytesOf_length] at HQ
      clear HS
      go_wp2
      go_ret
      exact ⟨rfl, HB.out⟩

theorem u8_of_wf {x : Int} (h : (Lit.int .u8 x).wf = true) : ∃ u : UInt8, x = (u.toNat : Int) := by
  have hb : 0 ≤ x ∧ x ≤ 255 := by
    simp [Lit.wf, IntKind.min, IntKind.max, IntKind.bits, IntKind.signed] at h
    omega
  exact ⟨UInt8.ofNat x.toNat, by rw [UInt8.toNat_ofNat']; omega⟩
/-- two bytes change their roles -/
def swU (a b x : UInt8) : UInt8 := if x = a then b else if x = b then a else x
theorem swU_swU (a b x : UInt8) : swU a b (swU a b x) = x := by
  unfold swU
  by_cases h1 : x = a
  · subst h1
    rw [if_pos rfl]
    by_cases h2 : b = x
    · rw [if_pos h2]; exact h2
    · rw [if_neg h2, if_pos rfl]
  · rw [if_neg h1]
    by_cases h2 : x = b
    · rw [if_pos h2, if_pos rfl]; exact h2.symm
    · rw [if_neg h2, if_neg h1, if_neg h2]
theorem swU_fix (a b c : UInt8) (ha : a ≠ c) (hb : b ≠ c) (x : UInt8) : swU a b x = c ↔ x = c := by
  unfold swU
  by_cases h1 : x = a
  · rw [if_pos h1, h1]; exact ⟨fun h => absurd h hb, fun h => absurd h ha⟩
  · rw [if_neg h1]
    by_cases h2 : x = b
    · rw [if_pos h2, h2]; exact ⟨fun h => absurd h ha, fun h => absurd h hb⟩
    · rw [if_neg h2]
theorem swI_cast (a b x : UInt8) : swI (a.toNat : Int) (b.toNat : Int) (x.toNat : Int) = ((swU a b x).toNat : Int) := by
  unfold swI swU
  have h : ∀ u v : UInt8, ((u.toNat : Int) = (v.toNat : Int)) ↔ u = v := fun u v => by rw [← UInt8.toNat_inj]; omega
  by_cases h1 : x = a
  · rw [if_pos ((h _ _).2 h1), if_pos h1]
  · rw [if_neg (fun e => h1 ((h _ _).1 e)), if_neg h1]
    by_cases h2 : x = b
    · rw [if_pos ((h _ _).2 h2), if_pos h2]
    · rw [if_neg (fun e => h2 ((h _ _).1 e)), if_neg h2]
theorem bl_other (a b : UInt8) (s : ByteArray) : bl (strOfNums ((bytesOf s).map (swI (a.toNat : Int) (b.toNat : Int)))) = (bl s).map (swU a b) := by
  have e : (bytesOf s).map (swI (a.toNat : Int) (b.toNat : Int)) = ((bl s).map (swU a b)).map fun u => (u.toNat : Int) := by
    unfold bytesOf
    rw [List.map_map, List.map_map]
    apply List.map_congr_left
    intro x _
    exact swI_cast a b x
  rw [e]; exact bl_strOf _

set_option maxHeartbeats 2000000 in
set_option maxRecDepth 100000 in
theorem named_go (p s : ByteArray) (a b : UInt8) (w : World) (hp : p.size ≤ 140737488351232) (hs : s.size ≤ 140737488351232) (ha1 : (a == 42) = false) (ha2 : (a == 63) = false) (hb1 : (b == 42) = false) (hb2 : (b == 63) = false) :
    Calls Try.prog 5 #[.string p, .string s, .int .u8 (a.toNat : Int), .int .u8 (b.toNat : Int)] w fun e w' => e = .returned (.bool true) ∧ Below w.heap.size w w' := by
  have ea1 : ((a.toNat : Int) == 42) = false := by rw [← ha1]; exact byte_beq_lit a 42 (by decide)
  have ea2 : ((a.toNat : Int) == 63) = false := by rw [← ha2]; exact byte_beq_lit a 63 (by decide)
  have eb1 : ((b.toNat : Int) == 42) = false := by rw [← hb1]; exact byte_beq_lit b 42 (by decide)
  have eb2 : ((b.toNat : Int) == 63) = false := by rw [← hb2]; exact byte_beq_lit b 63 (by decide)
  have HA1 := Aside0.mk (beq_eq_false_iff_ne.1 ha1)
  have HA2 := Aside0.mk (beq_eq_false_iff_ne.1 ha2)
  have HB1 := Aside0.mk (beq_eq_false_iff_ne.1 hb1)
  have HB2 := Aside0.mk (beq_eq_false_iff_ne.1 hb2)
  clear ha1 ha2 hb1 hb2
  have hmf : ∀ (fn : Fn) (first cap : Array Value) (w : World), (Instr.makeFunc fn first cap).run Try.prog w = .ok (.func fn first cap) w := fun _ _ _ _ => rfl
  go_enter Try.func5, Try.ntmps5
  go_wp2_with fail
  refine (other_calls p w.heap.size (w.heap.size + 1) (a.toNat : Int) (b.toNat : Int) _ hp (by simp; omega) (by simp) (by rw [World.cell?_alloc_past _ _ _ (by simp), World.cell?_alloc_at _ _ _ _ rfl]; rfl) (by rw [World.cell?_alloc_at _ _ _ _ (by simp)]; rfl)).mono ?_
  rintro e w1 ⟨rfl, hb1⟩
  have hsz : w.heap.size + 2 ≤ w1.heap.size := by have := hb1.size; simp at this; omega
  have hca : w1.cell? ⟨w.heap.size, 0, none⟩ = some (.int .u8 (a.toNat : Int)) := by
    rw [hb1.cell (p := ⟨w.heap.size, 0, none⟩) (by simp; omega), World.cell?_alloc_past _ _ _ (by simp), World.cell?_alloc_at _ _ _ _ rfl]; rfl
  have hcb : w1.cell? ⟨w.heap.size + 1, 0, none⟩ = some (.int .u8 (b.toNat : Int)) := by
    rw [hb1.cell (p := ⟨w.heap.size + 1, 0, none⟩) (by simp), World.cell?_alloc_at _ _ _ _ (by simp)]; rfl
  have HBW := Aside0.mk (below_then (((Below.refl _ _).alloc (Nat.le_refl _) _).alloc (by simp) _) (by simp; omega) hb1)
  have HC := Aside0.mk (And.intro hca hcb)
  have HSZ := Aside0.mk hsz
  clear hb1 hca hcb hsz
  go_wp2_with fail
  refine (other_calls s w.heap.size (w.heap.size + 1) (a.toNat : Int) (b.toNat : Int) _ hs (by have := HSZ.out; omega) (by have := HSZ.out; omega) HC.out.1 HC.out.2).mono ?_
  rintro e w2 ⟨rfl, hb2⟩
  have HBW2 := Aside0.mk (below_then HBW.out HBW.out.size hb2)
  clear hb2 HC HSZ
  go_wp2_with fail
  refine (wmatch_calls p s _ _ _ (fun _ _ _ _ => mB_congr (by rw [bl_other, bl_other]; exact named (swU a b) (swU_swU a b) (swU_fix a b 42 HA1.out HB1.out) (swU_fix a b 63 HA2.out HB2.out) _ _))).mono ?_
  rintro e w3 ⟨rfl, hb3⟩
  have HBW3 := Aside0.mk (below_then HBW2.out HBW2.out.size hb3)
  clear hb3
  go_wp2
  go_ret
  exact ⟨rfl, HBW3.out⟩

set_option maxHeartbeats 2000000 in
set_option maxRecDepth 100000 in
theorem named_stop0 (p s : ByteArray) (a b : UInt8) (w : World) (h0 : (a == 42) = true) :
    Calls Try.prog 5 #[.string p, .string s, .int .u8 (a.toNat : Int), .int .u8 (b.toNat : Int)] w fun e w' => e = .returned (.bool true) ∧ Below w.heap.size w w' := by
  have e0 : ((a.toNat : Int) == 42) = true := by rw [← h0]; exact byte_beq_lit a 42 (by decide)
  clear h0
  go_enter Try.func5, Try.ntmps5
  go_wp2_with fail
  refine (globs_calls _).mono ?_
  rintro e w1 ⟨rfl, hb1⟩
  have HBW := Aside0.mk (below_then (((Below.refl _ _).alloc (Nat.le_refl _) _).alloc (by simp) _) (by simp; omega) hb1)
  clear hb1
  go_wp2
  go_ret
  exact ⟨rfl, HBW.out⟩

set_option maxHeartbeats 2000000 in
set_option maxRecDepth 100000 in
theorem named_stop1 (p s : ByteArray) (a b : UInt8) (w : World) (h0 : (a == 42) = false) (h1 : (a == 63) = true) :
    Calls Try.prog 5 #[.string p, .string s, .int .u8 (a.toNat : Int), .int .u8 (b.toNat : Int)] w fun e w' => e = .returned (.bool true) ∧ Below w.heap.size w w' := by
  have e0 : ((a.toNat : Int) == 42) = false := by rw [← h0]; exact byte_beq_lit a 42 (by decide)
  have e1 : ((a.toNat : Int) == 63) = true := by rw [← h1]; exact byte_beq_lit a 63 (by decide)
  clear h0 h1
  go_enter Try.func5, Try.ntmps5
  go_wp2_with fail
  refine (globs_calls _).mono ?_
  rintro e w1 ⟨rfl, hb1⟩
  have HBW := Aside0.mk (below_then (((Below.refl _ _).alloc (Nat.le_refl _) _).alloc (by simp) _) (by simp; omega) hb1)
  clear hb1
  go_wp2
  go_ret
  exact ⟨rfl, HBW.out⟩

set_option maxHeartbeats 2000000 in
set_option maxRecDepth 100000 in
theorem named_stop2 (p s : ByteArray) (a b : UInt8) (w : World) (h0 : (a == 42) = false) (h1 : (a == 63) = false) (h2 : (b == 42) = true) :
    Calls Try.prog 5 #[.string p, .string s, .int .u8 (a.toNat : Int), .int .u8 (b.toNat : Int)] w fun e w' => e = .returned (.bool true) ∧ Below w.heap.size w w' := by
  have e0 : ((a.toNat : Int) == 42) = false := by rw [← h0]; exact byte_beq_lit a 42 (by decide)
  have e1 : ((a.toNat : Int) == 63) = false := by rw [← h1]; exact byte_beq_lit a 63 (by decide)
  have e2 : ((b.toNat : Int) == 42) = true := by rw [← h2]; exact byte_beq_lit b 42 (by decide)
  clear h0 h1 h2
  go_enter Try.func5, Try.ntmps5
  go_wp2_with fail
  refine (globs_calls _).mono ?_
  rintro e w1 ⟨rfl, hb1⟩
  have HBW := Aside0.mk (below_then (((Below.refl _ _).alloc (Nat.le_refl _) _).alloc (by simp) _) (by simp; omega) hb1)
  clear hb1
  go_wp2
  go_ret
  exact ⟨rfl, HBW.out⟩

set_option maxHeartbeats 2000000 in
set_option maxRecDepth 100000 in
theorem named_stop3 (p s : ByteArray) (a b : UInt8) (w : World) (h0 : (a == 42) = false) (h1 : (a == 63) = false) (h2 : (b == 42) = false) (h3 : (b == 63) = true) :
    Calls Try.prog 5 #[.string p, .string s, .int .u8 (a.toNat : Int), .int .u8 (b.toNat : Int)] w fun e w' => e = .returned (.bool true) ∧ Below w.heap.size w w' := by
  have e0 : ((a.toNat : Int) == 42) = false := by rw [← h0]; exact byte_beq_lit a 42 (by decide)
  have e1 : ((a.toNat : Int) == 63) = false := by rw [← h1]; exact byte_beq_lit a 63 (by decide)
  have e2 : ((b.toNat : Int) == 42) = false := by rw [← h2]; exact byte_beq_lit b 42 (by decide)
  have e3 : ((b.toNat : Int) == 63) = true := by rw [← h3]; exact byte_beq_lit b 63 (by decide)
  clear h0 h1 h2 h3
  go_enter Try.func5, Try.ntmps5
  go_wp2_with fail
  refine (globs_calls _).mono ?_
  rintro e w1 ⟨rfl, hb1⟩
  have HBW := Aside0.mk (below_then (((Below.refl _ _).alloc (Nat.le_refl _) _).alloc (by simp) _) (by simp; omega) hb1)
  clear hb1
  go_wp2
  go_ret
  exact ⟨rfl, HBW.out⟩

theorem named_walk (p s : ByteArray) (a b : Int) (w : World) (hp : p.size ≤ 140737488351232) (hs : s.size ≤ 140737488351232) (wa : (Lit.int .u8 a).wf = true) (wb : (Lit.int .u8 b).wf = true) :
    Calls Try.prog 5 #[.string p, .string s, .int .u8 a, .int .u8 b] w fun e w' => e = .returned (.bool true) ∧ Below w.heap.size w w' := by
  obtain ⟨a, rfl⟩ := u8_of_wf wa
  obtain ⟨b, rfl⟩ := u8_of_wf wb
  cases h0 : (a == 42) with
  | true => exact named_stop0 p s a b w h0
  | false =>
    cases h1 : (a == 63) with
    | true => exact named_stop1 p s a b w h0 h1
    | false =>
      cases h2 : (b == 42) with
      | true => exact named_stop2 p s a b w h0 h1 h2
      | false =>
        cases h3 : (b == 63) with
        | true => exact named_stop3 p s a b w h0 h1 h2 h3
        | false => exact named_go p s a b w hp hs h0 h1 h2 h3

end Go.Proofs.Ytkmoeeaaolpdnaa
