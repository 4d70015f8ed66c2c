/-
 The plain theory of trees: what a walk visits. No program in sight.
 What fstree.LinkCounts counts, and what a tree whose counts are in order is: good.
 The walks of slices.Clip, path.String and fstree.tooDeep.
 The walk of fstree.walk: what a visitor is shown, in its order.
-/
import Derived.Deep.RegionHeld3
import Derived.Deep.RegionLawGrows
import Derived.Test.YtkmoeeaaolpdnaaGreatDoorMB
import Derived.Test.YtkmoeeaaolpdnaaGreatDoorWKept
namespace Go.Proofs.YtkmoeeaaolpdnaaGreatDoor.TreePlain

section
variable {α : Type} (E : Nat → List (α × Nat))

/-- what a walk meets, in its order: node and path -/
def visits : Nat → Nat → List α → List (Nat × List α)
  | 0, _, _ => []
  | f + 1, n, a => (n, a) :: (E n).flatMap fun e => visits f e.2 (a ++ [e.1])

inductive Reach : List α → Nat → Prop
  | root : Reach [] 0
  | step {a : List α} {p : Nat} {s : α} {n : Nat} : Reach a p → (s, n) ∈ E p → Reach (a ++ [s]) n

structure Good (N : Nat) : Prop where
  pos : ∀ p, ∀ e ∈ E p, 1 ≤ e.2
  out : ∀ p, E p ≠ [] → p < N
  one : ∀ n, E n ≠ [] → ∀ p q e e', e ∈ E p → e' ∈ E q → e.2 = n → e'.2 = n → p = q ∧ e = e'
  names : ∀ p, ((E p).map (·.1)).Nodup
end

section
variable {α : Type} {E : Nat → List (α × Nat)} {N : Nat}

theorem nodup_lt : ∀ (N : Nat) (l : List Nat), l.Nodup → (∀ x ∈ l, x < N) → l.length ≤ N := by
  intro N
  induction N with
  | zero =>
    intro l _ h
    cases l with
    | nil => simp
    | cons x l => exact absurd (h x (by simp)) (by omega)
  | succ N ih =>
    intro l hn h
    have h1 : (l.erase N).length ≤ N := ih (l.erase N) (hn.erase N) (fun x hx => by
      have hx' := (hn.mem_erase_iff).1 hx
      have := h x hx'.2
      have := hx'.1
      omega)
    have := List.length_erase_add_one_le_or (l := l) (a := N)
    omega
where
  List.length_erase_add_one_le_or {l : List Nat} {a : Nat} : l.length ≤ (l.erase a).length + 1 := by
    by_cases h : a ∈ l
    · rw [List.length_erase_of_mem h]; omega
    · rw [List.erase_of_not_mem h]; omega

theorem Reach.unique (G : Good E N) {a : List α} {n : Nat} (h : Reach E a n) : E n ≠ [] → ∀ {b : List α}, Reach E b n → a = b := by
  induction h with
  | root =>
    intro _ b hb
    cases hb with
    | root => rfl
    | step hb' hm => exact absurd (G.pos _ _ hm) (by simp)
  | step ha hm ih =>
    intro hn b hb
    cases hb with
    | root => exact absurd (G.pos _ _ hm) (by simp)
    | step hb' hm' =>
      obtain ⟨hpq, he⟩ := G.one _ hn _ _ _ _ hm hm' rfl rfl
      subst hpq
      have h1 := congrArg Prod.fst he
      simp only at h1
      subst h1
      rw [ih (fun e => by rw [e] at hm; cases hm) hb']

theorem Reach.chain (G : Good E N) {a : List α} {n : Nat} (h : Reach E a n) :
    ∃ anc : List Nat, anc.length = a.length ∧ anc.Nodup ∧ ∀ x ∈ anc, x < N ∧ E x ≠ [] ∧ ∃ b, Reach E b x ∧ b.length < a.length := by
  induction h with
  | root => exact ⟨[], rfl, List.nodup_nil, by simp⟩
  | @step a p s n ha hm ih =>
    obtain ⟨anc, h1, h2, h3⟩ := ih
    have hp : E p ≠ [] := fun e => by rw [e] at hm; cases hm
    refine ⟨p :: anc, by simp [h1], List.nodup_cons.2 ⟨fun hin => ?_, h2⟩, ?_⟩
    · obtain ⟨_, _, b, hb, hl⟩ := h3 p hin
      have := ha.unique G hp hb
      subst this
      omega
    · intro x hx
      rcases List.mem_cons.1 hx with rfl | hx
      · exact ⟨G.out _ hp, hp, a, ha, by simp⟩
      · obtain ⟨g1, g2, b, g3, g4⟩ := h3 x hx
        exact ⟨g1, g2, b, g3, by simp; omega⟩
theorem Reach.depth (G : Good E N) {a : List α} {n : Nat} (h : Reach E a n) : a.length ≤ N := by
  obtain ⟨anc, h1, h2, h3⟩ := h.chain G
  rw [← h1]
  exact nodup_lt N anc h2 (fun x hx => (h3 x hx).1)

theorem mem_visits {f n : Nat} {a : List α} {v : Nat × List α} (h : v ∈ visits E f n a) {a0 : List α} (hr : Reach E (a0 ++ a) n) : Reach E (a0 ++ v.2) v.1 ∧ ∃ r, v.2 = a ++ r := by
  induction f generalizing n a with
  | zero => cases h
  | succ f ih =>
    rcases List.mem_cons.1 h with rfl | h
    · exact ⟨hr, [], by simp⟩
    · obtain ⟨e, he, hv⟩ := List.mem_flatMap.1 h
      obtain ⟨s, m⟩ := e
      have hr' : Reach E (a0 ++ (a ++ [s])) m := by rw [← List.append_assoc]; exact hr.step he
      obtain ⟨g1, r, g2⟩ := ih hv hr'
      exact ⟨g1, s :: r, by rw [g2]; simp⟩
theorem visits_prefix {f n : Nat} {a : List α} {v : Nat × List α} (h : v ∈ visits E f n a) : ∃ r, v.2 = a ++ r := by
  induction f generalizing n a with
  | zero => cases h
  | succ f ih =>
    rcases List.mem_cons.1 h with rfl | h
    · exact ⟨[], by simp⟩
    · obtain ⟨e, he, hv⟩ := List.mem_flatMap.1 h
      obtain ⟨r, g2⟩ := ih hv
      exact ⟨e.1 :: r, by rw [g2]; simp⟩

theorem visits_nodup (G : Good E N) (f : Nat) : ∀ (n : Nat) (a : List α), ((visits E f n a).map (·.2)).Nodup := by
  induction f with
  | zero => intro n a; exact List.nodup_nil
  | succ f ih =>
    intro n a
    have hn := G.names n
    show (a :: (((E n).flatMap fun e => visits E f e.2 (a ++ [e.1])).map (·.2))).Nodup
    rw [List.nodup_cons]
    constructor
    · intro h
      obtain ⟨v, hv, e⟩ := List.mem_map.1 h
      obtain ⟨x, _, hv⟩ := List.mem_flatMap.1 hv
      obtain ⟨r, hr⟩ := visits_prefix hv
      have := congrArg List.length (e.symm.trans hr)
      simp at this
    · generalize E n = l at hn
      induction l with
      | nil => exact List.nodup_nil
      | cons x l ihl =>
        rw [List.map_cons, List.nodup_cons] at hn
        rw [List.flatMap_cons, List.map_append, List.nodup_append]
        refine ⟨ih x.2 (a ++ [x.1]), ihl hn.2, ?_⟩
        intro p hp q hq hpq
        subst hpq
        obtain ⟨v, hv, rfl⟩ := List.mem_map.1 hp
        obtain ⟨u, hu, hu2⟩ := List.mem_map.1 hq
        obtain ⟨y, hy, hu⟩ := List.mem_flatMap.1 hu
        obtain ⟨r, hr⟩ := visits_prefix hv
        obtain ⟨r', hr'⟩ := visits_prefix hu
        rw [hu2, hr, List.append_assoc, List.append_assoc] at hr'
        have h3 := List.append_cancel_left hr'
        simp only [List.cons_append, List.nil_append, List.cons.injEq] at h3
        exact hn.1 (List.mem_map.2 ⟨y, hy, h3.1.symm⟩)

def deg (E : Nat → List (α × Nat)) (l : List (Nat × List α)) : Nat := (l.map fun v => (E v.1).length).sum
theorem deg_append (l m : List (Nat × List α)) : deg E (l ++ m) = deg E l + deg E m := by simp [deg]
theorem visits_len (f : Nat) : ∀ (n : Nat) (a : List α), (visits E f n a).length ≤ 1 + deg E (visits E f n a) := by
  induction f with
  | zero => intro n a; simp [visits]
  | succ f ih =>
    intro n a
    have key : ∀ l : List (α × Nat), (l.flatMap fun e => visits E f e.2 (a ++ [e.1])).length ≤ l.length + deg E (l.flatMap fun e => visits E f e.2 (a ++ [e.1])) := by
      intro l
      induction l with
      | nil => simp
      | cons x l ihl =>
        rw [List.flatMap_cons, List.length_append, deg_append]
        have := ih x.2 (a ++ [x.1])
        simp only [List.length_cons]
        omega
    have := key (E n)
    show ((n, a) :: _).length ≤ 1 + ((E n).length + deg E _)
    simp only [List.length_cons]
    omega
theorem deg_le (K : Nat) (hK : ∀ p, (E p).length ≤ K) (l : List (Nat × List α)) : deg E l ≤ K * (l.filter fun v => !(E v.1).isEmpty).length := by
  induction l with
  | nil => simp [deg]
  | cons v l ih =>
    have h1 : deg E (v :: l) = (E v.1).length + deg E l := by simp [deg]
    rw [h1, List.filter_cons]
    cases h : E v.1 with
    | nil => simp; exact ih
    | cons x r =>
      have := hK v.1
      rw [h] at this
      simp only [List.isEmpty_cons, Bool.not_false, if_true, List.length_cons, Nat.mul_succ]
      simp only [List.length_cons] at this
      omega
theorem nodup_map_of {β γ : Type} (f : β → γ) : ∀ (l : List β), l.Nodup → (∀ x ∈ l, ∀ y ∈ l, f x = f y → x = y) → (l.map f).Nodup := by
  intro l
  induction l with
  | nil => intro _ _; exact List.nodup_nil
  | cons x l ih =>
    intro hn h
    rw [List.nodup_cons] at hn
    rw [List.map_cons, List.nodup_cons]
    refine ⟨fun hm => ?_, ih hn.2 fun y hy z hz => h y (by simp [hy]) z (by simp [hz])⟩
    obtain ⟨y, hy, e⟩ := List.mem_map.1 hm
    have := h y (by simp [hy]) x (by simp) e
    subst this
    exact hn.1 hy
theorem nodup_of_map {β γ : Type} (f : β → γ) : ∀ (l : List β), (l.map f).Nodup → l.Nodup := by
  intro l
  induction l with
  | nil => intro _; exact List.nodup_nil
  | cons x l ih =>
    intro hn
    rw [List.map_cons, List.nodup_cons] at hn
    exact List.nodup_cons.2 ⟨fun hm => hn.1 (List.mem_map.2 ⟨x, hm, rfl⟩), ih hn.2⟩
/-- how much a walk meets at the most -/
theorem visits_bound (G : Good E N) (K : Nat) (hK : ∀ p, (E p).length ≤ K) (f n : Nat) (a0 : List α) (hr : Reach E a0 n) : (visits E f n []).length ≤ 1 + K * N := by
  have h1 := visits_len (E := E) f n []
  have h2 := deg_le K hK (visits E f n [])
  have hnd := visits_nodup G f n []
  have h3 : (((visits E f n []).filter fun v => !(E v.1).isEmpty).map (·.1)).length ≤ N := by
    refine nodup_lt N _ (nodup_map_of _ _ ((nodup_of_map _ _ hnd).filter _) ?_) ?_
    · intro x hx y hy e
      have hx1 := (List.mem_filter.1 hx)
      have hy1 := (List.mem_filter.1 hy)
      have rx := (mem_visits hx1.1 (a0 := a0) (by simpa using hr)).1
      have ry := (mem_visits hy1.1 (a0 := a0) (by simpa using hr)).1
      have hne : E x.1 ≠ [] := by have := hx1.2; intro e; simp [e] at this
      rw [← e] at ry
      have h4 := rx.unique G hne ry
      have h5 := List.append_cancel_left h4
      exact Prod.ext e h5
    · intro x hx
      obtain ⟨v, hv, rfl⟩ := List.mem_map.1 hx
      have := (List.mem_filter.1 hv).2
      exact G.out _ (by intro e; simp [e] at this)
  rw [List.length_map] at h3
  have h6 := Nat.mul_le_mul_left K h3
  omega
end
end Go.Proofs.YtkmoeeaaolpdnaaGreatDoor.TreePlain

namespace Go.Proofs.YtkmoeeaaolpdnaaGreatDoor
open Go.RowKit Go.Proofs.YtkmoeeaaolpdnaaGreatDoorW.PrintWords Go.Proofs.YtkmoeeaaolpdnaaGreatDoor.PTopFindsTwice

def allE (T : List S104) : List S108 := T.flatMap (·.f2)
def bump (r : List Int) (e : S108) : List Int := r.set e.f1.toNat (wrap64 (rd r e.f1 + 1))
def links (T : List S104) : List Int := (allE T).foldl bump (List.replicate T.length 0)
theorem bump_len (l : List S108) : ∀ r, (l.foldl bump r).length = r.length := by
  induction l with
  | nil => intro r; rfl
  | cons e l ih => intro r; rw [List.foldl_cons, ih]; simp [bump]

theorem links_l1 (T : List S104) (i : Int) (l : List S108) (hl : l.length ≤ 1000) (hx : ∀ e ∈ l, 0 ≤ e.f1 ∧ e.f1 < (T.length : Int)) (d : Nat) : ∀ (j : Nat) (x3 : List Int), j ≤ l.length → l.length - j = d → x3.length = T.length →
    ∀ k r, fstree_LinkCounts.l0 k ((l.drop j).foldl bump x3) T (T.length : Int) (wrap64 (i + 1)) = some r → ∃ k', fstree_LinkCounts.l1 k' x3 T (T.length : Int) i l (l.length : Int) (j : Int) = some r := by
  induction d with
  | zero =>
    intro j x3 hj hd hx3 k r h
    refine ⟨k + 1, ?_⟩
    rw [List.drop_eq_nil_of_le (by omega)] at h
    rw [fstree_LinkCounts.l1, if_neg (by omega)]
    exact h
  | succ d ih =>
    intro j x3 hj hd hx3 k r h
    have hlt : j < l.length := by omega
    rw [List.drop_eq_getElem_cons hlt, List.foldl_cons] at h
    have hg : rd_T108 l (j : Int) = l[j] := by unfold rd_T108; rw [Int.toNat_natCast, List.getD_eq_getElem?_getD, List.getElem?_eq_getElem hlt]; rfl
    have hm := hx l[j] (List.getElem_mem hlt)
    obtain ⟨k', hk'⟩ := ih (j + 1) (bump x3 l[j]) (by omega) (by omega) (by simp [bump, hx3]) k r h
    have hw : wrap64 ((j : Int) + 1) = ((j + 1 : Nat) : Int) := by unfold wrap64; omega
    refine ⟨k' + 1, ?_⟩
    rw [fstree_LinkCounts.l1, if_pos (by omega), if_pos (by omega), if_pos (by omega), hg, if_pos hm.1, if_pos (by rw [hx3]; exact hm.2), hw]
    exact hk'
theorem links_l0 (T : List S104) (hT : T.length ≤ 1000) (hx : ∀ n ∈ T, n.f2.length ≤ 1000 ∧ ∀ e ∈ n.f2, 0 ≤ e.f1 ∧ e.f1 < (T.length : Int)) (d : Nat) : ∀ (i : Nat) (x3 : List Int), i ≤ T.length → T.length - i = d → x3.length = T.length →
    ∃ k, fstree_LinkCounts.l0 k x3 T (T.length : Int) (i : Int) = some (((T.drop i).flatMap (·.f2)).foldl bump x3) := by
  induction d with
  | zero =>
    intro i x3 hi hd hx3
    refine ⟨1, ?_⟩
    rw [List.drop_eq_nil_of_le (by omega), fstree_LinkCounts.l0, if_neg (by omega)]
    rfl
  | succ d ih =>
    intro i x3 hi hd hx3
    have hlt : i < T.length := by omega
    have hg : rd_T104 T (i : Int) = T[i] := by unfold rd_T104; rw [Int.toNat_natCast, List.getD_eq_getElem?_getD, List.getElem?_eq_getElem hlt]; rfl
    have hm := hx T[i] (List.getElem_mem hlt)
    have hw : wrap64 ((i : Int) + 1) = ((i + 1 : Nat) : Int) := by unfold wrap64; omega
    obtain ⟨k, hk⟩ := ih (i + 1) (T[i].f2.foldl bump x3) (by omega) (by omega) (by rw [bump_len]; exact hx3)
    obtain ⟨k', hk'⟩ := links_l1 T (i : Int) T[i].f2 hm.1 hm.2 _ 0 x3 (Nat.zero_le _) rfl hx3 k _ (by rw [hw]; exact hk)
    refine ⟨k' + 1, ?_⟩
    rw [fstree_LinkCounts.l0, if_pos (by omega), if_pos (by omega), if_pos (by omega), hg, List.drop_eq_getElem_cons hlt, List.flatMap_cons, List.foldl_append]
    exact hk'
theorem links_f (T : List S104) (hT : T.length ≤ 1000) (hx : ∀ n ∈ T, n.f2.length ≤ 1000 ∧ ∀ e ∈ n.f2, 0 ≤ e.f1 ∧ e.f1 < (T.length : Int)) : ∃ k, fstree_LinkCounts.f k T = some (links T) := by
  obtain ⟨k, hk⟩ := links_l0 T hT hx _ 0 (List.replicate T.length 0) (Nat.zero_le _) rfl (by simp)
  refine ⟨k, ?_⟩
  unfold fstree_LinkCounts.f
  rw [if_pos (by omega), if_pos (by omega)]
  exact hk

theorem rd_set (r : List Int) (i j : Int) (hi : 0 ≤ i) (hj : 0 ≤ j) (hlt : i < (r.length : Int)) (x : Int) : rd (r.set i.toNat x) j = if i = j then x else rd r j := by
  unfold rd
  rw [List.getD_eq_getElem?_getD, List.getD_eq_getElem?_getD, List.getElem?_set]
  by_cases h : i = j
  · subst h; rw [if_pos rfl, if_pos rfl, if_pos (by omega)]; rfl
  · rw [if_neg (by omega), if_neg h]
theorem bump_count (j : Int) (hj : 0 ≤ j) (l : List S108) : ∀ (r : List Int), (∀ e ∈ l, 0 ≤ e.f1 ∧ e.f1 < (r.length : Int)) → ((l.foldl bump r).length = r.length) → 0 ≤ rd r j → (∀ i : Int, 0 ≤ i → 0 ≤ rd r i ∧ rd r i + (l.length : Int) ≤ 1000000) →
    rd (l.foldl bump r) j = rd r j + ((l.filter fun e => decide (e.f1 = j)).length : Int) := by
  induction l with
  | nil => intro r _ _ _ _; simp
  | cons e l ih =>
    intro r hx _ h0 hb
    have he := hx e (by simp)
    have hbe := hb e.f1 he.1
    have hlc : ((e :: l).length : Int) = (l.length : Int) + 1 := by simp
    rw [hlc] at hb hbe
    have hw : wrap64 (rd r e.f1 + 1) = rd r e.f1 + 1 := by unfold wrap64; omega
    have hbr : bump r e = r.set e.f1.toNat (rd r e.f1 + 1) := by unfold bump; rw [hw]
    rw [List.foldl_cons, ih (bump r e) (fun x h => by have := hx x (by simp [h]); simpa [bump] using this) (bump_len _ _)
      (by rw [hbr, rd_set r _ _ he.1 hj he.2]; split <;> omega)
      (fun i hi => by
        have := hb i hi
        rw [hbr, rd_set r _ _ he.1 hi he.2]
        split <;> (constructor <;> omega)),
      hbr, rd_set r _ _ he.1 hj he.2, List.filter_cons]
    by_cases h : e.f1 = j
    · rw [if_pos h, if_pos (decide_eq_true h), h]; simp only [List.length_cons]; omega
    · rw [if_neg h, if_neg (by simpa using h)]
theorem links_rd (T : List S104) (hsum : (allE T).length ≤ 1000000) (hx : ∀ e ∈ allE T, 0 ≤ e.f1 ∧ e.f1 < (T.length : Int)) (j : Int) (hj : 0 ≤ j) : rd (links T) j = (((allE T).filter fun e => decide (e.f1 = j)).length : Int) := by
  have hz : ∀ i : Int, rd (List.replicate T.length (0 : Int)) i = 0 := by
    intro i
    unfold rd
    rw [List.getD_eq_getElem?_getD, List.getElem?_replicate]
    split <;> rfl
  unfold links
  rw [bump_count j hj _ _ (by simpa using hx) (bump_len _ _) (by rw [hz]; omega) (fun i _ => by rw [hz]; omega), hz]
  omega

theorem one_of (P : S108 → Bool) (T : List S104) : ((allE T).filter P).length ≤ 1 → ∀ (p q : Nat) (e e' : S108), e ∈ (rd_T104 T (p : Int)).f2 → e' ∈ (rd_T104 T (q : Int)).f2 → P e = true → P e' = true → p = q ∧ e = e' := by
  induction T with
  | nil => intro _ p q e e' h; exact absurd h (by simp [rd_T104, z104])
  | cons n T ih =>
    intro hle p q e e' hp hq he he'
    have h0 : ∀ m : Nat, (rd_T104 (n :: T) ((m + 1 : Nat) : Int)) = rd_T104 T (m : Int) := fun m => by
      unfold rd_T104; rw [Int.toNat_natCast, Int.toNat_natCast]; rfl
    have hz : (rd_T104 (n :: T) ((0 : Nat) : Int)) = n := rfl
    have hmem : ∀ (m : Nat) (x : S108), x ∈ (rd_T104 T (m : Int)).f2 → x ∈ allE T := by
      intro m x hx
      unfold rd_T104 at hx
      rw [Int.toNat_natCast, List.getD_eq_getElem?_getD] at hx
      by_cases hm : m < T.length
      · rw [List.getElem?_eq_getElem hm] at hx
        exact List.mem_flatMap.2 ⟨T[m], List.getElem_mem hm, hx⟩
      · rw [List.getElem?_eq_none (by omega)] at hx
        exact absurd hx (by simp [z104])
    have hsplit : ((allE (n :: T)).filter P).length = (n.f2.filter P).length + ((allE T).filter P).length := by
      show ((n.f2 ++ allE T).filter P).length = _
      rw [List.filter_append, List.length_append]
    have hpos : ∀ (l : List S108) (x : S108), x ∈ l → P x = true → 0 < (l.filter P).length := fun l x hx h => List.length_pos_of_mem (List.mem_filter.2 ⟨hx, h⟩)
    cases p with
    | zero =>
      rw [hz] at hp
      cases q with
      | zero =>
        rw [hz] at hq
        refine ⟨rfl, ?_⟩
        have m1 := List.mem_filter.2 ⟨hp, he⟩
        have m2 := List.mem_filter.2 ⟨hq, he'⟩
        have hl : (n.f2.filter P).length ≤ 1 := by omega
        generalize n.f2.filter P = l at m1 m2 hl
        match l, hl with
        | [], _ => cases m1
        | [x], _ => rw [List.mem_singleton.1 m1, List.mem_singleton.1 m2]
      | succ q =>
        rw [h0] at hq
        have := hpos _ _ hp he
        have := hpos _ _ (hmem q _ hq) he'
        omega
    | succ p =>
      rw [h0] at hp
      cases q with
      | zero =>
        rw [hz] at hq
        have := hpos _ _ hq he'
        have := hpos _ _ (hmem p _ hp) he
        omega
      | succ q =>
        rw [h0] at hq
        obtain ⟨g1, g2⟩ := ih (by omega) p q e e' hp hq he he'
        exact ⟨by rw [g1], g2⟩

/-- the entries of a node, by name and node -/
def Ent (T : List S104) (p : Nat) : List (ByteArray × Nat) := (rd_T104 T (p : Int)).f2.map fun e => (e.f0, e.f1.toNat)
def Small (T : List S104) : Prop := ∀ n ∈ T, n.f2.length + n.f3.length + n.f4.length + n.f5.length ≤ 1000000000
def LinksOk (T : List S104) : Prop := ∀ i : Nat, 0 < i → i < T.length → ((rd_T104 T (i : Int)).f0 = 2 ∧ 0 < rd (links T) (i : Int)) ∨ ((rd_T104 T (i : Int)).f0 = 1 ∧ rd (links T) (i : Int) = 1) ∨ (rd_T104 T (i : Int)).f0 = 0
theorem rdT_get (T : List S104) (i : Nat) (h : i < T.length) : rd_T104 T (i : Int) = T[i] := by
  unfold rd_T104; rw [Int.toNat_natCast, List.getD_eq_getElem?_getD, List.getElem?_eq_getElem h]; rfl
theorem rdT_out (T : List S104) (i : Nat) (h : ¬ i < T.length) : (rd_T104 T (i : Int)).f2 = [] := by
  unfold rd_T104; rw [Int.toNat_natCast, List.getD_eq_getElem?_getD, List.getElem?_eq_none (by omega)]; rfl
theorem zero_none {n : S104} (h : iZero n) (hs : n.f2.length + n.f3.length + n.f4.length + n.f5.length ≤ 1000000000) : n.f2 = [] ∧ n.f3 = [] := by
  unfold iZero fstree_isZero.f at h
  split at h
  · split at h
    · rename_i h2
      unfold wrap64 at h2
      constructor
      · exact List.eq_nil_of_length_eq_zero (by omega)
      · exact List.eq_nil_of_length_eq_zero (by omega)
    · cases h
  · cases h
/-- what an inode in order has for entries -/
theorem ok_ents {T : List S104} {n : S104} (h : InodeOk T n) (hs : n.f2.length + n.f3.length + n.f4.length + n.f5.length ≤ 1000000000) : EntsOk T n.f2 ∧ (n.f2 ≠ [] → n.f0 = 1) := by
  obtain ⟨hk, ⟨h0, hz⟩ | ⟨h0, _, _, _, _, h2, _, _, _, he⟩⟩ := h
  · have := (zero_none hz hs).1
    rw [this]
    exact ⟨⟨Nat.zero_le _, fun j hj => absurd hj (Nat.not_lt_zero _)⟩, fun h => absurd rfl h⟩
  · refine ⟨he, fun hne => ?_⟩
    by_cases h2' : n.f0 = 2
    · have : 0 < n.f2.length := List.length_pos_iff.2 hne
      exact absurd ⟨h2', Or.inl this⟩ h2
    · omega
theorem ent_get (l : List S108) (j : Nat) (h : j < l.length) : rd_T108 l (j : Int) = l[j] := by
  unfold rd_T108; rw [Int.toNat_natCast, List.getD_eq_getElem?_getD, List.getElem?_eq_getElem h]; rfl
theorem entB_range {T : List S104} {l : List S108} (h : EntsOk T l) : ∀ e ∈ l, vName e.f0 = true ∧ 1 ≤ e.f1 ∧ e.f1 < (T.length : Int) := by
  intro e he
  obtain ⟨j, hj, rfl⟩ := List.mem_iff_getElem.1 he
  have := h.2 j hj
  unfold entB at this
  rw [ent_get l j hj] at this
  simp only [Bool.and_eq_true, decide_eq_true_eq] at this
  have h2 := this.1.2
  exact ⟨this.1.1.1, by omega, by omega⟩
theorem bl_trans : ∀ (x y z : List UInt8), Op.bytesLess x y = true → Op.bytesLess y z = true → Op.bytesLess x z = true
  | _, [], z, h, _ => by cases ‹List UInt8› <;> simp [Op.bytesLess] at h
  | _, _ :: _, [], _, h => by simp [Op.bytesLess] at h
  | [], _ :: _, _ :: _, _, _ => rfl
  | a :: x, b :: y, c :: z, h1, h2 => by
    have ih := bl_trans x y z
    simp only [Op.bytesLess, Bool.or_eq_true, Bool.and_eq_true, decide_eq_true_eq, beq_iff_eq] at h1 h2 ⊢
    rcases h1 with h1 | ⟨rfl, h1⟩
    · rcases h2 with h2 | ⟨rfl, h2⟩
      · exact Or.inl (UInt8.lt_trans h1 h2)
      · exact Or.inl h1
    · rcases h2 with h2 | ⟨rfl, h2⟩
      · exact Or.inl h2
      · exact Or.inr ⟨rfl, ih h1 h2⟩
theorem bl_irrefl : ∀ x : List UInt8, Op.bytesLess x x = false
  | [] => rfl
  | a :: x => by
    have := bl_irrefl x
    simp [Op.bytesLess, this, UInt8.lt_irrefl]
theorem ents_sorted {T : List S104} {l : List S108} (h : EntsOk T l) (i : Nat) : ∀ d : Nat, i + d + 1 < l.length → Op.bytesLess (rd_T108 l (i : Int)).f0.toList (rd_T108 l ((i + d + 1 : Nat) : Int)).f0.toList = true := by
  intro d
  have step : ∀ j, j + 1 < l.length → Op.bytesLess (rd_T108 l (j : Int)).f0.toList (rd_T108 l ((j + 1 : Nat) : Int)).f0.toList = true := by
    intro j hj
    have := h.2 (j + 1) hj
    unfold entB at this
    simp only [Bool.and_eq_true, Bool.not_eq_true', Nat.add_sub_cancel] at this
    have h2 := this.1.1.2
    simpa using h2
  induction d with
  | zero => intro hd; exact step i hd
  | succ d ih => intro hd; exact bl_trans _ _ _ (ih (by omega)) (step (i + d + 1) (by omega))
theorem ents_nodup {T : List S104} {l : List S108} (h : EntsOk T l) : (l.map (·.f0)).Nodup := by
  unfold List.Nodup
  rw [List.pairwise_iff_getElem]
  intro i j hi hj hij e
  rw [List.length_map] at hi hj
  rw [List.getElem_map, List.getElem_map] at e
  have := ents_sorted h i (j - i - 1) (by omega)
  rw [show i + (j - i - 1) + 1 = j from by omega, ent_get l i hi, ent_get l j hj, e, bl_irrefl] at this
  cases this

theorem allE_le (T : List S104) (h : ∀ n ∈ T, n.f2.length ≤ 16) : (allE T).length ≤ 16 * T.length := by
  induction T with
  | nil => simp [allE]
  | cons n T ih =>
    have h1 : (allE (n :: T)).length = n.f2.length + (allE T).length := by simp [allE]
    have := h n (by simp)
    have := ih fun m hm => h m (by simp [hm])
    rw [h1, List.length_cons]
    omega
theorem good_of (T : List S104) (hT : T.length ≤ 1000) (hs : Small T) (ho : ∀ n ∈ T, InodeOk T n) (hl : LinksOk T) : TreePlain.Good (Ent T) T.length := by
  have hall : ∀ n ∈ T, EntsOk T n.f2 := fun n hn => (ok_ents (ho n hn) (hs n hn)).1
  have hrg : ∀ p : Nat, ∀ e ∈ (rd_T104 T (p : Int)).f2, (1 ≤ e.f1 ∧ e.f1 < (T.length : Int)) ∧ p < T.length := by
    intro p e he
    by_cases hp : p < T.length
    · rw [rdT_get T p hp] at he
      have := entB_range (hall _ (List.getElem_mem hp)) e he
      exact ⟨this.2, hp⟩
    · rw [rdT_out T p hp] at he; cases he
  have hrl : ∀ j : Int, 0 ≤ j → rd (links T) j = (((allE T).filter fun e => decide (e.f1 = j)).length : Int) := fun j hj => by
    refine links_rd T ?_ ?_ j hj
    · have := allE_le T fun n hn => (hall n hn).1
      omega
    · intro e he
      obtain ⟨n, hn, he⟩ := List.mem_flatMap.1 he
      have := entB_range (hall n hn) e he
      omega
  refine ⟨?_, ?_, ?_, ?_⟩
  · intro p e he
    obtain ⟨x, hx, rfl⟩ := List.mem_map.1 he
    have := (hrg p x hx).1
    show 1 ≤ x.f1.toNat
    omega
  · intro p hp
    by_cases h : p < T.length
    · exact h
    · unfold Ent at hp; rw [rdT_out T p h] at hp; exact absurd rfl hp
  · intro n hn p q e e' he he' h1 h2
    obtain ⟨x, hx, rfl⟩ := List.mem_map.1 he
    obtain ⟨y, hy, rfl⟩ := List.mem_map.1 he'
    have gx := (hrg p x hx).1
    have gy := (hrg q y hy).1
    simp only at h1 h2
    have hn0 : (rd_T104 T (n : Int)).f2 ≠ [] := fun e => hn (by unfold Ent; rw [e]; rfl)
    have hnT : n < T.length := by
      by_cases h : n < T.length
      · exact h
      · exact absurd (rdT_out T n h) hn0
    have hk : (rd_T104 T (n : Int)).f0 = 1 := by
      rw [rdT_get T n hnT] at hn0 ⊢
      exact (ok_ents (ho _ (List.getElem_mem hnT)) (hs _ (List.getElem_mem hnT))).2 hn0
    have hln := hl n (by omega) hnT
    have h1' : rd (links T) (n : Int) = 1 := by omega
    rw [hrl _ (by omega)] at h1'
    obtain ⟨g1, g2⟩ := one_of (fun e => decide (e.f1 = (n : Int))) T (by omega) p q x y hx hy (decide_eq_true (by omega)) (decide_eq_true (by omega))
    exact ⟨g1, by rw [g2]⟩
  · intro p
    unfold Ent
    rw [List.map_map]
    by_cases hp : p < T.length
    · rw [rdT_get T p hp]
      exact ents_nodup (hall _ (List.getElem_mem hp))
    · rw [rdT_out T p hp]; exact List.nodup_nil

theorem links_calls (A : Option Addr) (c : Nat) (T : List S104) (w : World) (hT : Kd.C k104 w A T.length T) (hc : T.length ≤ c) (hTm : T.length ≤ 1000) (hs : Small T) (ho : ∀ n ∈ T, InodeOk T n) :
    Calls Tryz.prog 91 #[.agg #[.slice A T.length c]] w fun e w' => ∃ v : Value, e = .returned v ∧ Kd.R (Kd.int .i64) 3 w' w.heap.size (fun _ => True) v (links T) ∧ Below w.heap.size w w' := by
  obtain ⟨k, hk⟩ := links_f T hTm fun n hn => by
    have := (ok_ents (ho n hn) (hs n hn)).1
    refine ⟨by have := this.1; omega, fun e he => ?_⟩
    have := entB_range this e he
    omega
  exact fstree_LinkCounts.calls k A c T (links T) w hT hc hk
end Go.Proofs.YtkmoeeaaolpdnaaGreatDoor

namespace Go.Proofs.YtkmoeeaaolpdnaaGreatDoor
open Go.RowKit Go.Proofs.YtkmoeeaaolpdnaaGreatDoorW.PrintWords Go.Proofs.YtkmoeeaaolpdnaaGreatDoor.PTopFindsTwice

set_option maxHeartbeats 1000000 in
set_option maxRecDepth 100000 in
theorem clip_calls (A : Option Addr) (n c : Nat) (w : World) (h : n ≤ c) : Calls Tryz.prog 73 #[.slice A n c] w fun e w' => e = .returned (.slice A n n) ∧ w = w' := by
  go_enter Tryz.func73, Tryz.ntmps73
  go_wp2
  go_ret
  exact ⟨rfl, rfl⟩

/-- the path of its components, as a string -/
def pStr (l : List ByteArray) : ByteArray := (⟨#[47]⟩ : ByteArray) ++ ⟨(Lib.join (l.map (·.data.toList)) [47]).toArray⟩
theorem join_le (l : List (List UInt8)) (h : ∀ s ∈ l, s.length ≤ 12) : (Lib.join l [47]).length ≤ 13 * l.length := by
  induction l with
  | nil => simp [Lib.join]
  | cons x l ih =>
    have hx := h x (by simp)
    have := ih fun s hs => h s (by simp [hs])
    cases l with
    | nil => simp [Lib.join]; omega
    | cons y l =>
      have e : Lib.join (x :: y :: l) [47] = x ++ ([47] ++ Lib.join (y :: l) [47]) := by simp [Lib.join, List.intercalate, List.intersperse]
      rw [e, List.length_append, List.length_append]
      simp only [List.length_cons, List.length_nil] at this ⊢
      omega

set_option maxHeartbeats 1000000 in
set_option maxRecDepth 100000 in
theorem string_calls (v : Value) (B : Nat) (l : List ByteArray) (w : World) (hv : w.ownsRow B 9 1 v l.length (encs Value.string l)) (hl : l.length ≤ 1000) (hs : ∀ s ∈ l, s.size ≤ 12) :
    Calls Tryz.prog 48 #[v] w fun e w' => e = .returned (.string (pStr l)) ∧ Below w.heap.size w w' := by
  have HJ : Aside0 (∀ W, W = w → Calls Tryz.prog 11 #[v, .string ⟨#[47]⟩] W fun e w' => e = .returned (.string ⟨(Lib.join (l.map (·.data.toList)) [47]).toArray⟩) ∧ Below w.heap.size w w') := ⟨fun W hW => by
    subst hW
    rcases hv.2 with ⟨rfl, h0⟩ | ⟨g, cap, cur, rfl, hb, hh, hnc, _, _, _⟩
    · obtain rfl : l = [] := List.eq_nil_of_length_eq_zero h0
      refine (Tryz.strings_Join_none none 0 ⟨#[47]⟩ _).mono fun e w' ⟨he, hw⟩ => ⟨he, hw ▸ Below.refl _ _⟩
    · have hc : ∀ (j : Nat) x, l[j]? = some x → W.cell? ⟨g, 0 + j, none⟩ = some (.string x) := by
        intro j x hx
        have hj : j < l.length := by
          by_cases h : j < l.length
          · exact h
          · rw [List.getElem?_eq_none (by omega)] at hx; cases hx
        have := hv.cells (g := g) rfl j (.string x) (by rw [encs, List.getElem?_map, hx]; rfl)
        rw [add_plain] at this
        rw [Nat.zero_add]; exact this
      have hjl := join_le (l.map (·.data.toList)) (by
        intro s hs'
        obtain ⟨x, hx, rfl⟩ := List.mem_map.1 hs'
        have := hs x hx
        have h2 : x.data.toList.length = x.size := Array.length_toList
        omega)
      rw [List.length_map] at hjl
      exact Tryz.strings_Join g 0 cap l ⟨#[47]⟩ W hc (blk_lt hh) (by omega) hnc (show (Lib.join (l.map (·.data.toList)) [47]).length ≤ _ by omega)⟩
  have HP := Aside0.mk (show pStr l = (⟨#[47]⟩ : ByteArray) ++ ⟨(Lib.join (l.map (·.data.toList)) [47]).toArray⟩ from rfl)
  have hsz : ((⟨(Lib.join (l.map (·.data.toList)) [47]).toArray⟩ : ByteArray)).size ≤ 13000 := by
    have hjl := join_le (l.map (·.data.toList)) (by
        intro s hs'
        obtain ⟨x, hx, rfl⟩ := List.mem_map.1 hs'
        have := hs x hx
        have h2 : x.data.toList.length = x.size := Array.length_toList
        omega)
    rw [List.length_map] at hjl
    have : ((⟨(Lib.join (l.map (·.data.toList)) [47]).toArray⟩ : ByteArray)).size = (Lib.join (l.map (·.data.toList)) [47]).length := by simp [ByteArray.size]
    omega
  generalize (⟨(Lib.join (l.map (·.data.toList)) [47]).toArray⟩ : ByteArray) = js at *
  clear hv hl hs
  go_enter Tryz.func48, Tryz.ntmps48
  go_wp2_with fail
  refine (HJ.out _ rfl).mono ?_
  rintro e w' ⟨rfl, hb⟩
  have HB := Aside0.mk hb
  clear hb
  go_wp2
  go_ret
  exact ⟨by rw [HP.out]; first | rfl | skip, HB.out⟩

/-- a path too deep or too long -/
def tooD (l : List ByteArray) : Bool := decide (8 < l.length) || decide (100 < (pStr l).size)

set_option maxHeartbeats 1000000 in
set_option maxRecDepth 100000 in
theorem deep_calls (v : Value) (B : Nat) (l : List ByteArray) (w : World) (hv : w.ownsRow B 9 1 v l.length (encs Value.string l)) (hl : l.length ≤ 1000) (hs : ∀ s ∈ l, s.size ≤ 12) :
    Calls Tryz.prog 93 #[v] w fun e w' => e = .returned (.bool (tooD l)) ∧ Below w.heap.size w w' := by
  have HS := Aside0.mk (string_calls v B l w hv hl hs)
  have HT := Aside0.mk (show tooD l = (decide (8 < l.length) || decide (100 < (pStr l).size)) from rfl)
  obtain ⟨A, c, rfl⟩ := own_slice hv
  generalize pStr l = ps at *
  clear hv hs
  by_cases h8 : 8 < l.length
  · have HY := Aside0.mk (show tooD l = true by rw [HT.out, decide_eq_true h8]; rfl)
    clear HT
    go_enter Tryz.func93, Tryz.ntmps93
    go_wp2
    go_ret
    exact ⟨by rw [HY.out]; first | rfl | skip, Below.refl _ _⟩
  · have HY := Aside0.mk (show tooD l = decide (100 < ps.size) by rw [HT.out, decide_eq_false h8]; rfl)
    clear HT
    go_enter Tryz.func93, Tryz.ntmps93
    go_wp2_with fail
    refine HS.out.mono ?_
    rintro e w' ⟨rfl, hb⟩
    have HB := Aside0.mk hb
    clear hb HS
    by_cases hp : 100 < ps.size
    · have HZ := Aside0.mk (show tooD l = true by rw [HY.out, decide_eq_true hp])
      clear HY
      go_wp2
      go_ret
      exact ⟨by rw [HZ.out]; exact congrArg (fun b => Ending.returned (Value.bool b)) (show (decide ((8 : Int) < (l.length : Int)) || decide ((100 : Int) < (ps.size : Int))) = true from by rw [decide_eq_false (by omega : ¬ (8 : Int) < (l.length : Int)), decide_eq_true (by omega : (100 : Int) < (ps.size : Int))]; rfl), HB.out⟩
    · have HZ := Aside0.mk (show tooD l = false by rw [HY.out, decide_eq_false hp])
      clear HY
      go_wp2
      go_ret
      exact ⟨by rw [HZ.out]; exact congrArg (fun b => Ending.returned (Value.bool b)) (show (decide ((8 : Int) < (l.length : Int)) || decide ((100 : Int) < (ps.size : Int))) = false from by rw [decide_eq_false (by omega : ¬ (8 : Int) < (l.length : Int)), decide_eq_false (by omega : ¬ (100 : Int) < (ps.size : Int))]; rfl), HB.out⟩
end Go.Proofs.YtkmoeeaaolpdnaaGreatDoor

namespace Go.Proofs.YtkmoeeaaolpdnaaGreatDoor
open Go.RowKit Go.Proofs.YtkmoeeaaolpdnaaGreatDoorW.PrintWords Go.Proofs.YtkmoeeaaolpdnaaGreatDoor.PTopFindsTwice

theorem infoS : (Tryz.prog.info? 9).map (fun i => (i.zero, i.size, i.bytes)) = some (some (.string ⟨#[]⟩), 1, 16) := by kernel_rfl

/-- what a visitor keeps: a state J of what it was shown, in blocks S of its own -/
structure Vis (B : Nat) (J : World → (Nat → Prop) → List (Nat × List ByteArray) → Prop) : Prop where
  own : ∀ {W S vs}, J W S vs → ∀ k, S k → B ≤ k ∧ k < W.heap.size
  move : ∀ {W W' S vs}, J W S vs → (∀ k, S k → W'.heap[k]? = W.heap[k]?) → W.heap.size ≤ W'.heap.size → J W' S vs
theorem Vis.below {B : Nat} {J : World → (Nat → Prop) → List (Nat × List ByteArray) → Prop} (h : Vis B J) {W W' : World} {S : Nat → Prop} {vs : List (Nat × List ByteArray)} (hJ : J W S vs) (hb : Below W.heap.size W W') : J W' S vs :=
  h.move hJ (fun k hk => hb.block k (h.own hJ k hk).2) hb.size

/-- what a call of the visitor, or a walk, leaves -/
def Left (J : World → (Nat → Prop) → List (Nat × List ByteArray) → Prop) (w0 W : World) (S : Nat → Prop) (vs : List (Nat × List ByteArray)) (W' : World) : Prop :=
  ∃ S' : Nat → Prop, J W' S' vs ∧ Kept W W' S ∧ (∀ k, S' k → S k ∨ W.heap.size ≤ k) ∧ Below w0.heap.size w0 W'

theorem Left.below {w0 W W1 W2 : World} {S : Nat → Prop} {vs : List (Nat × List ByteArray)} {J : World → (Nat → Prop) → List (Nat × List ByteArray) → Prop} (hV : Vis w0.heap.size J) (h : Left J w0 W S vs W1) (hb : Below W1.heap.size W1 W2) : Left J w0 W S vs W2 := by
  obtain ⟨S', h1, h2, h3, h4⟩ := h
  exact ⟨S', hV.below h1 hb, h2.below hb, h3, below_then h4 h4.size hb⟩
theorem Left.next {w0 W W1 W2 : World} {S : Nat → Prop} {vs2 : List (Nat × List ByteArray)} {J : World → (Nat → Prop) → List (Nat × List ByteArray) → Prop} (hk : Kept W W1 S) {S1 : Nat → Prop} (hs : ∀ k, S1 k → S k ∨ W.heap.size ≤ k) (h : Left J w0 W1 S1 vs2 W2) : Left J w0 W S vs2 W2 := by
  obtain ⟨S', h1, h2, h3, h4⟩ := h
  refine ⟨S', h1, hk.then_ h2 hs, fun k hk' => ?_, h4⟩
  rcases h3 k hk' with h | h
  · exact hs k h
  · exact Or.inr (Nat.le_trans hk.1 h)

theorem flat_take {β γ : Type} (F : β → List γ) (m : List β) (k : Nat) (h : k < m.length) : ((m.take k).flatMap F).length + (F m[k]).length ≤ (m.flatMap F).length := by
  have e : m = m.take k ++ m[k] :: m.drop (k + 1) := by rw [← List.drop_eq_getElem_cons h, List.take_append_drop]
  have h2 : (m.flatMap F).length = ((m.take k ++ m[k] :: m.drop (k + 1)).flatMap F).length := by rw [← e]
  rw [h2, List.flatMap_append, List.flatMap_cons, List.length_append, List.length_append]
  omega

section
variable {M : Nat} {A : Option Addr} {c : Nat} {T : List S104} {w0 : World} {g : Nat} {lb : Array Value} {J : World → (Nat → Prop) → List (Nat × List ByteArray) → Prop} {a0 : List ByteArray}
set_option maxHeartbeats 4000000 in
set_option maxRecDepth 100000 in
theorem walk_calls (hT : Kd.C k104 w0 A T.length T) (hTm : T.length ≤ 1000) (hG : TreePlain.Good (Ent T) T.length) (hrg : ∀ p : Nat, (rd_T104 T (p : Int)).f2.length ≤ 1000 ∧ ∀ e ∈ (rd_T104 T (p : Int)).f2, 0 ≤ e.f1 ∧ e.f1 < (T.length : Int))
    (eg : ∀ args w, (callFunc g args).run Tryz.prog w = .ok (.enter g args) w) (hJ : Vis w0.heap.size J)
    (hV : ∀ (W : World) (S : Nat → Prop) (vs : List (Nat × List ByteArray)) (n : Nat) (at_ : List ByteArray) (v : Value), J W S vs → vs.length + 1 ≤ M → TreePlain.Reach (Ent T) (a0 ++ at_) n → n < T.length →
      W.ownsRow w0.heap.size 9 1 v at_.length (encs Value.string at_) → (∀ k, v.ownBlock = some k → ¬ S k) → Below w0.heap.size w0 W →
      Calls Tryz.prog g (#[.int .i64 (n : Int), v] ++ lb) W fun e W' => e = .returned (.bool true) ∧ Left J w0 W S (vs ++ [(n, at_)]) W') :
    ∀ (f n : Nat) (at_ : List ByteArray) (v : Value) (W : World) (S : Nat → Prop) (vs : List (Nat × List ByteArray)), T.length + 1 ≤ f + (a0 ++ at_).length → TreePlain.Reach (Ent T) (a0 ++ at_) n → n < T.length → vs.length + (TreePlain.visits (Ent T) f n at_).length ≤ M → J W S vs →
      W.ownsRow w0.heap.size 9 1 v at_.length (encs Value.string at_) → (∀ k, v.ownBlock = some k → ¬ S k) → Below w0.heap.size w0 W →
      Calls Tryz.prog 46 #[.agg #[.slice A T.length c], .int .i64 (n : Int), v, .func (.func g) #[] lb] W fun e W' => e = .returned (.bool true) ∧ Left J w0 W S (vs ++ TreePlain.visits (Ent T) f n at_) W' := by
  intro f
  induction f with
  | zero =>
    intro n at_ v W S vs hf hr
    have := hr.depth hG
    omega
  | succ f ih =>
    intro n at_ v W S vs hf hr hn hM hj hv hvS hb
    have HIH := Aside0.mk ih
    have HV := Aside0.mk hV
    have HT := Aside0.mk (And.intro hT hTm)
    have HG := Aside0.mk hG
    have HRG := Aside0.mk (hrg n)
    have HR := Aside0.mk hr
    have HF := Aside0.mk hf
    have HM := Aside0.mk hM
    have HJ := Aside0.mk hJ
    have HJ0 := Aside0.mk hj
    have HVO := Aside0.mk hv
    have HVS := Aside0.mk hvS
    have HB0 := Aside0.mk hb
    have HBX := Aside0.mk (blk_new W (.cells #[.slice A T.length c] 24))
    clear ih hV hT hTm hG hrg hr hf hJ hj hb hM
    obtain ⟨Av, cv, rfl⟩ := own_slice hv
    clear hv hvS
    go_enter Tryz.func46, Tryz.ntmps46
    have HBW := Aside0.mk (below_then HB0.out HB0.out.size (below_alloc (Below.refl _ _) (.cells #[.slice A T.length c] 24)))
    have HS0 := Aside0.mk (fun k hk => (HJ.out.own HJ0.out k hk).2)
    have HJ1 := Aside0.mk (HJ.out.below HJ0.out (below_alloc (Below.refl _ _) (.cells #[.slice A T.length c] 24)))
    have HVO1 := Aside0.mk (pw_own_below HVO.out (below_alloc (Below.refl _ _) (.cells #[.slice A T.length c] 24)))
    have HSZ := Aside0.mk (show (W.alloc (.cells #[.slice A T.length c] 24)).heap.size = W.heap.size + 1 from World.size_alloc _ _)
    have HVL := Aside0.mk (fun k hk => own_lt HVO.out k hk)
    clear HJ0 HVO HB0
    go_wp2_with fail
    refine (HV.out _ S vs n at_ _ HJ1.out (by have := HM.out; simp only [TreePlain.visits, List.length_cons] at this; omega) HR.out hn HVO1.out HVS.out HBW.out).mono ?_
    rintro e w1 ⟨rfl, hL⟩
    have HL := Aside0.mk hL
    clear hL
    have HW : ∀ {wr : World} {vs2 : List (Nat × List ByteArray)}, Left J w0 (W.alloc (.cells #[.slice A T.length c] 24)) S vs2 wr → wr.heap[W.heap.size]? = some (.cells #[.slice A T.length c] 24 (0, 0)) := fun ⟨S', _, h2, _, _⟩ => blk_kept HBX.out h2 (fun h => by have := HS0.out _ h; omega)
    have HW2 := Aside0.mk @HW
    clear HW
    have hbx := HW2.out HL.out
    obtain ⟨_, _, _, _, hbl⟩ := HL.out
    obtain ⟨ad, A2, c2, A3, c3, A4, c4, A5, c5, rfl, _, _, hc2, _, _, _, _, _, hl2, hr2, _⟩ := at_T104 HT.out.1 (n : Int) (Int.natCast_nonneg _) (by omega)
    have hcb := blk_cell hbx 0
    have HL2 := Aside0.mk hl2
    have hnT : (n : Int) < (T.length : Int) := by omega
    rw [Int.toNat_natCast] at hc2
    obtain ⟨l, hl⟩ : ∃ l, l = (rd_T104 T (n : Int)).f2 := ⟨_, rfl⟩
    rw [← hl] at hc2 hr2 hl2
    replace hc2 := pw_cell_below hbl hc2
    have HLE := Aside0.mk (show Ent T n = l.map fun e => (e.f0, e.f1.toNat) by unfold Ent; rw [hl])
    have HRL := Aside0.mk (show ∀ e ∈ l, 0 ≤ e.f1 ∧ e.f1 < (T.length : Int) by rw [hl]; exact HRG.out.2)
    have hlm : l.length ≤ 1000 := by rw [hl]; exact HRG.out.1
    have HLC : Aside0 (∀ wr, Below w0.heap.size w0 wr → k108.C wr A2 l.length l) := ⟨fun wr hwr => Kd.C_below hr2 hwr⟩
    clear hbl hbx hr2 HRG HL2 hl
    have HOR : Aside0 (∀ wr vs2, Left J w0 (W.alloc (.cells #[.slice (some ad) T.length c] 24)) S vs2 wr → ∃ S', J wr S' vs2 ∧ (∀ k, S' k → S k ∨ (W.alloc (.cells #[.slice (some ad) T.length c] 24)).heap.size ≤ k) ∧ Kept (W.alloc (.cells #[.slice (some ad) T.length c] 24)) wr S ∧ Below w0.heap.size w0 wr ∧
        wr.ownsRow w0.heap.size 9 1 (.slice Av at_.length cv) at_.length (encs Value.string at_)) := ⟨fun wr vs2 ⟨S', h1, h2, h3, h4⟩ => ⟨S', h1, h3, h2, h4, own_move HVO1.out fun k hk => h2.2 k (by have := HVL.out k hk; rw [HSZ.out]; omega) (HVS.out k hk)⟩⟩
    clear HVO1 HV HJ1 HVL
    go_wp2_with fail
    go_loopw [23] (fun i wr => ∃ k : Nat, k ≤ l.length ∧ i = .int .i64 k ∧ Aside0 (Left J w0 (W.alloc (.cells #[.slice (some ad) T.length c] 24)) S (vs ++ (n, at_) :: ((l.take k).map fun e => (e.f0, e.f1.toNat)).flatMap fun e => TreePlain.visits (Ent T) f e.2 (at_ ++ [e.1])) wr)) (fun i _ => l.length - (intOf i).toNat)
    case atStart => exact ⟨0, Nat.zero_le _, rfl, HL⟩
    case round =>
      clear HL
      obtain ⟨k, hk, rfl, HL⟩ := hrel
      by_cases hlt : k < l.length
      · have hbx := HW2.out HL.out
        have hcb := blk_cell hbx 0
        have hWl := blk_lt hbx
        obtain ⟨S', HJ', HS', HK', HB', HO'⟩ := HOR.out _ _ HL.out
        have HJ' := Aside0.mk HJ'
        have HS' := Aside0.mk HS'
        have HK' := Aside0.mk HK'
        have HB' := Aside0.mk HB'
        have HO' := Aside0.mk HO'
        obtain ⟨ad2, rfl, hd0, hd1⟩ := at_T108 (HLC.out _ HB'.out) (k : Int) (by omega) (by omega)
        rw [Int.toNat_natCast] at hd0 hd1
        clear hbx
        have HG2 := Aside0.mk (show (rd_T108 l (k : Int)) = l[k] from ent_get l k hlt)
        generalize rd_T108 l (k : Int) = a at *
        obtain ⟨nm, ino⟩ := a
        simp only at hd0 hd1
        obtain ⟨i0, hi, hzz⟩ := Option.map_eq_some_iff.1 infoS
        simp only [Prod.mk.injEq] at hzz
        obtain ⟨hz0, hz1, hz2⟩ := hzz
        have HI := Aside0.mk (And.intro hi (And.intro hz0 (And.intro hz1 hz2)))
        clear hi hz0 hz1 hz2
        have HHOLD : Aside0 (∀ W', Below wr.heap.size wr W' → ∀ b, Av = some b → ∀ j u, (encs Value.string at_)[j]? = some u → W'.cell? (b.add j) = some u) := ⟨fun W' hW' b hb j u hu => by
          subst hb
          rcases HO'.out.2 with ⟨e, _⟩ | ⟨g', cap, cur, e, _⟩
          · cases e
          · injection e with e
            injection e with e
            subst e
            exact pw_cell_below hW' (HO'.out.cells (g := g') rfl j u hu)⟩
        have HNONE : Aside0 (Av = none → at_.length = 0 ∧ at_.length = 0) := ⟨fun hb => by
          subst hb
          rcases HO'.out.2 with ⟨_, e⟩ | ⟨g', cap, cur, e, _⟩
          · exact ⟨e, e⟩
          · cases e⟩
        have hcc : at_.length ≤ cv := own_cap HO'.out
        have HREC : Aside0 (∀ (v' : Value) (W' W2 : World), Below wr.heap.size wr W' → W'.heap.size = wr.heap.size + 2 → W2.ownsRow W'.heap.size 9 1 v' (at_.length + 1) (encs Value.string at_ ++ [Value.string nm]) → W'.grownBy W2 none →
            Calls Tryz.prog 46 #[.agg #[.slice (some ad) T.length c], .int .i64 ino, v', .func (.func g) #[] lb] W2 fun e W3 => e = .returned (.bool true) ∧
              Left J w0 (W.alloc (.cells #[.slice (some ad) T.length c] 24)) S (vs ++ (n, at_) :: ((l.take (k + 1)).map fun e => (e.f0, e.f1.toNat)).flatMap fun e => TreePlain.visits (Ent T) f e.2 (at_ ++ [e.1])) W3 ∧ (∀ b o, b = W.heap.size ∨ b = wr.heap.size → W3.cell? ⟨b, o, none⟩ = W2.cell? ⟨b, o, none⟩)) := ⟨by
          intro v' W' W2 hb hsz hown hgr
          have hrl := HRL.out l[k] (List.getElem_mem hlt)
          rw [← HG2.out] at hrl
          simp only at hrl
          obtain ⟨m, rfl⟩ : ∃ m : Nat, ino = (m : Int) := ⟨ino.toNat, by have := hrl.1; omega⟩
          have hm : m < T.length := by have := hrl.2; omega
          have hreach : TreePlain.Reach (Ent T) (a0 ++ (at_ ++ [nm])) m := by
            rw [← List.append_assoc]
            refine HR.out.step ?_
            rw [HLE.out]
            refine List.mem_map.2 ⟨l[k], List.getElem_mem hlt, ?_⟩
            rw [← HG2.out]
            simp
          have hbW2 : Below wr.heap.size wr W2 := pw_below_grown hb none hb.size hgr (fun k h => by cases h)
          have hfu : T.length + 1 ≤ f + (a0 ++ (at_ ++ [nm])).length := by
            have := HF.out
            rw [List.length_append] at this
            rw [List.length_append, List.length_append, List.length_singleton]
            omega
          have hown2 : W2.ownsRow w0.heap.size 9 1 v' (at_ ++ [nm]).length (encs Value.string (at_ ++ [nm])) := by
            have h := own_weaken hown (base' := w0.heap.size) (Nat.le_trans HB'.out.size hb.size)
            simpa [encs] using h
          have hM2 : (vs ++ (n, at_) :: ((l.take k).map fun e => (e.f0, e.f1.toNat)).flatMap fun e => TreePlain.visits (Ent T) f e.2 (at_ ++ [e.1])).length + (TreePlain.visits (Ent T) f m (at_ ++ [nm])).length ≤ M := by
            have h1 := HM.out
            have h2 := flat_take (fun e : ByteArray × Nat => TreePlain.visits (Ent T) f e.2 (at_ ++ [e.1])) (l.map fun e => (e.f0, e.f1.toNat)) k (by rw [List.length_map]; exact hlt)
            rw [← List.map_take, List.getElem_map, ← HG2.out, ← HLE.out] at h2
            simp only [TreePlain.visits, List.length_cons] at h1
            rw [List.length_append, List.length_cons]
            have h3 : (TreePlain.visits (Ent T) f ((m : Int)).toNat (at_ ++ [nm])).length = (TreePlain.visits (Ent T) f m (at_ ++ [nm])).length := by rw [Int.toNat_natCast]
            simp only at h2
            omega
          have hnS : ∀ q, v'.ownBlock = some q → ¬ S' q := fun q hq hS => by
            have h1 := own_base hown q hq
            have h2 := (HJ.out.own HJ'.out q hS).2
            have h3 := hb.size
            omega
          refine (HIH.out m (at_ ++ [nm]) v' W2 S' _ hfu hreach hm hM2 (HJ.out.below HJ'.out hbW2) hown2 hnS (below_then HB'.out HB'.out.size hbW2)).mono ?_
          rintro e W3 ⟨he, hL⟩
          refine ⟨he, ?_, ?_⟩
          · have h := Left.next (HK'.out.below hbW2) HS'.out hL
            rw [List.take_succ_eq_append_getElem hlt, List.map_append, List.flatMap_append, ← HG2.out]
            simpa using h
          · obtain ⟨S'', _, h2, _, _⟩ := hL
            intro b o hbb
            have hlt2 : b < W2.heap.size := by
              have := hbW2.size
              have h3 := hb.size
              have h4 := hgr.size
              rcases hbb with rfl | rfl <;> omega
            have hnb : ¬ S' b := by
              rcases hbb with rfl | rfl
              · intro h
                rcases HS'.out _ h with h | h
                · have := HS0.out _ h; omega
                · rw [HSZ.out] at h; omega
              · intro h
                have := (HJ.out.own HJ'.out _ h).2
                omega
            have := h2.2 b hlt2 hnb
            simp [World.cell?, this]⟩
        have hal : at_.length ≤ 1000 := by
          have := HR.out.depth HG.out
          have := HT.out.2
          rw [List.length_append] at *
          omega
        have hel : (encs Value.string at_).length = at_.length * 1 := by rw [encs_length, Nat.mul_one]
        have HAL := Aside0.mk hal
        have HNW := Aside0.mk (show ((wr.alloc (.cells #[.string nm, .int .i64 ino] 108)).alloc (.cells #[.string nm] 9)).heap[wr.heap.size + 1]? = some (.cells #[.string nm] 9 (0, 0)) from by
          have h := heap_alloc_new (wr.alloc (.cells #[.string nm, .int .i64 ino] 108)) (.cells #[.string nm] 9)
          rw [World.size_alloc] at h
          exact h)
        have HEL := Aside0.mk hel
        have HCC := Aside0.mk hcc
        clear HIH hal hel hcc
        go_wp2_with fail
        go_region_held3 (fun w' => w'.cell? ⟨W.heap.size, 0, none⟩ = some (.slice (some ad) T.length c) ∧ w'.cell? ⟨wr.heap.size, 0, none⟩ = some (.string nm) ∧ w'.cell? ⟨wr.heap.size, 1, none⟩ = some (.int .i64 ino))
          (first
            | go_keep
            | (go_split_ands
               refine ⟨?_, ?_, ?_⟩
               · (rw [hgr.cell_far _ (by simp; omega) (by simp)]; assumption)
               · (rw [hgr.cell_far _ (by simp; omega) (by simp)]; assumption)
               · (rw [hgr.cell_far _ (by simp; omega) (by simp)]; assumption))
            | (go_split_ands
               refine ⟨?_, ?_, ?_⟩
               · (rw [hk3 _ _ (Or.inl rfl)]; assumption)
               · (rw [hk3 _ _ (Or.inr rfl)]; assumption)
               · (rw [hk3 _ _ (Or.inr rfl)]; assumption)))
          (first
            | (go_at_call 73; refine (clip_calls _ _ _ _ HCC.out).mono ?_; rintro e w3 ⟨rfl, rfl⟩)
            | (go_at_call 46; refine (HREC.out _ _ _ ?rb ?rs hown hgr).mono ?_; (case rb => repeat (first | exact Below.refl _ _ | apply below_alloc | apply below_drew | apply pw_below_drewN)); (case rs => simp); rintro e w3 ⟨rfl, hL3, hk3⟩)
            | (go_at_call 46; refine (HREC.out _ _ _ ?rb_b ?rs_b hown hgr).mono ?_; (case rb_b => repeat (first | exact Below.refl _ _ | apply below_alloc | apply below_drew | apply pw_below_drewN)); (case rs_b => simp); rintro e w3 ⟨rfl, hL3, hk3⟩)
            | (refine step_append_grows ?hg (.tmp 31) (.tmp 34) 25 ?hop 9 i0 (.string ⟨#[]⟩) 1 16 Tryz.underlying25 HI.out.1 HI.out.2.1 HI.out.2.2.1 HI.out.2.2.2 ?h6 ?h7 Av at_.length at_.length (encs Value.string at_) ?hs HNONE.out HEL.out ?holds ⟨wr.heap.size + 1, 0, none⟩ 1 1 [.string nm] ?hx ?hn ?hc ?h1c ?hfull ?b1 ?b2 ?_
               (case' hop => rfl)
               (case hg => rfl)
               (case h6 => rfl)
               (case h7 => decide)
               (case hs => rfl)
               (case hx => rfl)
               (case hn => rfl)
               (case holds => exact HHOLD.out _ (by repeat (first | exact Below.refl _ _ | apply below_alloc | apply below_drew | apply pw_below_drewN)))
               (case hc => exact World.news_of_block (cs := #[.string nm]) (t := 9) (fr := (0, 0)) HNW.out)
               (case h1c => simp [Value.oneCell'])
               (case hfull => omega)
               (case b1 => exact Nat.le_trans (Nat.add_le_add_right HAL.out 1) (by decide))
               (case b2 => have := HAL.out; omega)
               intro v' w' hown hgr)
            | (refine step_append_grows ?hg_b (.tmp 31) (.tmp 34) 25 ?hop_b 9 i0 (.string ⟨#[]⟩) 1 16 Tryz.underlying25 HI.out.1 HI.out.2.1 HI.out.2.2.1 HI.out.2.2.2 ?h6_b ?h7_b Av at_.length at_.length (encs Value.string at_) ?hs_b HNONE.out HEL.out ?holds_b ⟨wr.heap.size + 1, 0, none⟩ 1 1 [.string nm] ?hx_b ?hn_b ?hc_b ?h1c_b ?hfull_b ?b1_b ?b2_b ?_
               (case' hop_b => rfl)
               (case hg_b => rfl)
               (case h6_b => rfl)
               (case h7_b => decide)
               (case hs_b => rfl)
               (case hx_b => rfl)
               (case hn_b => rfl)
               (case holds_b => exact HHOLD.out _ (by repeat (first | exact Below.refl _ _ | apply below_alloc | apply below_drew | apply pw_below_drewN)))
               (case hc_b => exact World.news_of_block (cs := #[.string nm]) (t := 9) (fr := (0, 0)) HNW.out)
               (case h1c_b => simp [Value.oneCell'])
               (case hfull_b => omega)
               (case b1_b => exact Nat.le_trans (Nat.add_le_add_right HAL.out 1) (by decide))
               (case b2_b => have := HAL.out; omega)
               intro v' w' hown hgr))
        all_goals
          have HL3 := Aside0.mk hL3
          clear hL3 hk3 hown hgr
          go_wp2
          go_roundw
          case rel => exact ⟨k + 1, by omega, by go_num, HL3⟩
          case measure => simp [intOf]; omega
      · obtain rfl : k = l.length := by omega
        have HF := Aside0.mk (show Left J w0 (W.alloc (.cells #[.slice (some ad) T.length c] 24)) S (vs ++ TreePlain.visits (Ent T) (f + 1) n at_) wr by
          have := HL.out
          rw [List.take_length, ← HLE.out] at this
          exact this)
        clear HL
        go_wp2
        go_ret
        exact ⟨rfl, Left.next ((Kept.refl W S).alloc _) (fun k hk => Or.inl hk) HF.out⟩
end
end Go.Proofs.YtkmoeeaaolpdnaaGreatDoor
