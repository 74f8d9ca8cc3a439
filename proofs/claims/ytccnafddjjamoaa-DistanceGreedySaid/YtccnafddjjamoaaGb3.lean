import Derived.Test.YtccnafddjjamoaaGb2
import Derived.Test.YtccnafddjjamoaaProg
/- What the functions of graphs compute: checks, steps, sets of states. -/
namespace Go.AW
open Go
set_option linter.unusedSimpArgs false
set_option linter.unusedVariables false

theorem loopW_eq {S X : Type} (body : S → Option (Stp S X)) (s : S) : loopW body s = match body s with
    | none => none
    | some (.exit x) => some x
    | some (.next s') => loopW body s' := by
  cases h : body s with
  | none => exact loopW_stuck h
  | some r => cases r with
    | exit x => exact loopW_exit h
    | next s' => exact loopW_next h

abbrev Gr := TLabelsStatesEdges
abbrev Ed := TFromLabelTo

def cmp3 (x y : Ed) : Int := if x.1 < y.1 then -1 else if y.1 < x.1 then 1 else if x.2.1 < y.2.1 then -1 else if y.2.1 < x.2.1 then 1 else if x.2.2 < y.2.2 then -1 else if y.2.2 < x.2.2 then 1 else 0

theorem cmpC (a b : Int) : m_cmp_Compare_int a b = some (if a < b then -1 else if b < a then 1 else 0) := by
  unfold m_cmp_Compare_int m_cmp_isNaN_int
  simp only [ne_eq, not_true_eq_false, decide_false, Option.bind_some, Bool.false_eq_true, if_false]
  split <;> (try rfl)
  split <;> rfl

theorem wr0 : IntKind.wrap .i64 (0 + 1) = 1 := by decide
theorem wr1 : IntKind.wrap .i64 (1 + 1) = 2 := by decide
theorem wr2 : IntKind.wrap .i64 (2 + 1) = 3 := by decide

theorem ix3_0 (a b c : Int) : idx [a, b, c] 0 = some a := rfl
theorem ix3_1 (a b c : Int) : idx [a, b, c] 1 = some b := rfl
theorem ix3_2 (a b c : Int) : idx [a, b, c] 2 = some c := rfl
theorem len3 (a b c : Int) : (([a, b, c] : List Int).length : Int) = 3 := rfl

theorem by1_eq (x y : Ed) : m_graph_by_api_Edge_1 x y = some (cmp3 x y) := by
  unfold m_graph_by_api_Edge_1 m_graph_list m_slices_Compare_Lint_int cmp3
  simp only [Option.bind_some, len3]
  rw [loopW_eq]
  simp only [ix3_0, cmpC, Option.bind_some, wr0]
  by_cases a1 : x.1 < y.1
  · simp [a1, lpO]
  by_cases a2 : y.1 < x.1
  · simp [a1, a2, lpO]
  simp only [a1, a2, if_false, ne_eq, not_true_eq_false, if_true, Int.reduceLT, Int.reduceLE]
  rw [loopW_eq]
  simp only [ix3_1, cmpC, Option.bind_some, wr1]
  by_cases b1 : x.2.1 < y.2.1
  · simp [b1, lpO]
  by_cases b2 : y.2.1 < x.2.1
  · simp [b1, b2, lpO]
  simp only [b1, b2, if_false, ne_eq, not_true_eq_false, if_true, Int.reduceLT, Int.reduceLE]
  rw [loopW_eq]
  simp only [ix3_2, cmpC, Option.bind_some, wr2]
  by_cases c1 : x.2.2 < y.2.2
  · simp [c1, lpO]
  by_cases c2 : y.2.2 < x.2.2
  · simp [c1, c2, lpO]
  simp only [c1, c2, if_false, ne_eq, not_true_eq_false, if_true, Int.reduceLT, Int.reduceLE]
  rw [loopW_eq]
  simp [lpO]

theorem cmp_eq (x y : Ed) : m_ref09_Compare x y = some (cmp3 x y) := by
  unfold m_ref09_Compare cmp3
  rw [loopW_eq]
  simp only [ix3_0, Option.bind_some, wr0]
  by_cases a1 : x.1 < y.1
  · simp [a1, lpO]
  by_cases a2 : y.1 < x.1
  · simp [a1, a2, lpO]
  simp only [a1, a2, if_false, if_true, Int.reduceLT]
  rw [loopW_eq]
  simp only [ix3_1, Option.bind_some, wr1]
  by_cases b1 : x.2.1 < y.2.1
  · simp [b1, lpO]
  by_cases b2 : y.2.1 < x.2.1
  · simp [b1, b2, lpO]
  simp only [b1, b2, if_false, if_true, Int.reduceLT]
  rw [loopW_eq]
  simp only [ix3_2, Option.bind_some, wr2]
  by_cases c1 : x.2.2 < y.2.2
  · simp [c1, lpO]
  by_cases c2 : y.2.2 < x.2.2
  · simp [c1, c2, lpO]
  simp only [c1, c2, if_false, if_true, Int.reduceLT]
  rw [loopW_eq]
  simp [lpO]

/-- the program's check is the reference's -/
theorem Check_ref (g : Gr) : m_graph_Check g = m_ref09_Check g := by
  unfold m_graph_Check m_ref09_Check
  have key : ∀ (x : Ed) (k : Bool → Option (Stp Int (Ou Unit Int))), (if (min (min x.1 x.2.1) x.2.2) < 0 then k true else if g.2.1 ≤ (max x.1 x.2.2) then k true else k (decide (g.1 ≤ x.2.1))) =
      (if x.1 < 0 then k true else if g.2.1 ≤ x.1 then k true else if x.2.2 < 0 then k true else if g.2.1 ≤ x.2.2 then k true else if x.2.1 < 0 then k true else k (decide (g.1 ≤ x.2.1))) := by
    intro x k
    by_cases h1 : x.1 < 0
    · rw [if_pos (by omega), if_pos h1]
    by_cases h2 : g.2.1 ≤ x.1
    · rw [if_neg h1, if_pos h2]
      split
      · rfl
      · rw [if_pos (by omega)]
    by_cases h3 : x.2.2 < 0
    · rw [if_neg h1, if_neg h2, if_pos h3, if_pos (by omega)]
    by_cases h4 : g.2.1 ≤ x.2.2
    · rw [if_neg h1, if_neg h2, if_neg h3, if_pos h4]
      split
      · rfl
      · rw [if_pos (by omega)]
    by_cases h5 : x.2.1 < 0
    · rw [if_neg h1, if_neg h2, if_neg h3, if_neg h4, if_pos h5, if_pos (by omega)]
    · rw [if_neg h1, if_neg h2, if_neg h3, if_neg h4, if_neg h5, if_neg (by omega), if_neg (by omega)]
  simp only [by1_eq, cmp_eq, key]

/-- what of a valid graph is used -/
structure VG (g : Gr) : Prop where
  l1 : 1 ≤ g.1
  l2 : g.1 ≤ 256
  s0 : 0 ≤ g.2.1
  s1 : g.2.1 ≤ 64
  el : g.2.2.length ≤ 1024
  ed : ∀ x ∈ g.2.2, 0 ≤ x.1 ∧ x.1 < g.2.1 ∧ 0 ≤ x.2.2 ∧ x.2.2 < g.2.1 ∧ 0 ≤ x.2.1 ∧ x.2.1 < g.1
  ord : ∀ (i : Nat) (h : i + 1 < g.2.2.length), cmp3 (g.2.2[i]'(by omega)) g.2.2[i + 1] < 0

theorem ix_pred {α : Type} {l : List α} {i : Nat} (h : i < l.length) (hm : l.length ≤ 9223372036854775807) (h0 : 0 < i) : idx l (IntKind.wrap .i64 ((i : Int) - 1)) = some (l[i - 1]'(by omega)) := by
  rw [w64 (by omega) (by omega), show ((i : Int) - 1) = ((i - 1 : Nat) : Int) by omega]
  exact ix (by omega)

theorem lpO_ex {V R Y : Type} {o : Option (Ou V R)} {M : V → Option Y} {Rt : R → Option Y} {C : Y → Prop} (Q : Ou V R → Prop) (h : ∃ x, o = some x ∧ Q x) (k : ∀ x, Q x → ∃ e, lpO (some x) M Rt = some e ∧ C e) : ∃ e, lpO o M Rt = some e ∧ C e := by
  obtain ⟨x, rfl, hq⟩ := h
  exact k x hq

theorem Check_tot (g : Gr) : ∃ e, m_ref09_Check g = some e ∧ (e = 0 ↔ VG g) := by
  unfold m_ref09_Check
  simp only [jp]
  by_cases h1 : g.1 < 1
  · exact ⟨12, by simp [h1], by simp; intro v; have := v.l1; omega⟩
  by_cases h2 : 256 < g.1
  · exact ⟨12, by simp [h1, h2], by simp; intro v; have := v.l2; omega⟩
  by_cases h3 : g.2.1 < 0
  · exact ⟨2, by simp [h1, h2, h3], by simp; intro v; have := v.s0; omega⟩
  by_cases h4 : 64 < g.2.1
  · exact ⟨4, by simp [h1, h2, h3, h4], by simp; intro v; have := v.s1; omega⟩
  by_cases h5 : 1024 < (g.2.2.length : Int)
  · exact ⟨4, by simp [h1, h2, h3, h4, h5], by simp; intro v; have := v.el; omega⟩
  simp only [h1, h2, h3, h4, h5, if_false, decide_false, Bool.false_eq_true, cmp_eq, Option.bind_some, if_true]
  refine lpO_ex (fun x => (x = .ret 2 ∧ ¬ VG g) ∨ (x = .ret 10 ∧ ¬ VG g) ∨ (x = .go () ∧ VG g)) ?_ ?_
  · refine loopN g.2.2.length (fun i s => s = (i : Int) ∧ (∀ (j : Nat) (h : j < i) (hj : j < g.2.2.length), 0 ≤ g.2.2[j].1 ∧ g.2.2[j].1 < g.2.1 ∧ 0 ≤ g.2.2[j].2.2 ∧ g.2.2[j].2.2 < g.2.1 ∧ 0 ≤ g.2.2[j].2.1 ∧ g.2.2[j].2.1 < g.1) ∧
        ∀ (j : Nat) (h : j + 1 < i) (hj : j + 1 < g.2.2.length), cmp3 (g.2.2[j]'(by omega)) g.2.2[j + 1] < 0) ?_ ?_ 0 _ (Nat.zero_le _) ⟨rfl, fun _ h => by omega, fun _ h => by omega⟩
    · rintro i s hi ⟨rfl, he, ho⟩
      rw [if_pos (lt_int hi), ix hi]
      simp only [Option.bind_some]
      by_cases hg : 0 ≤ g.2.2[i].1 ∧ g.2.2[i].1 < g.2.1 ∧ 0 ≤ g.2.2[i].2.2 ∧ g.2.2[i].2.2 < g.2.1 ∧ 0 ≤ g.2.2[i].2.1 ∧ g.2.2[i].2.1 < g.1
      · obtain ⟨e1, e2, e3, e4, e5, e6⟩ := hg
        rw [if_neg (by omega), if_neg (by omega), if_neg (by omega), if_neg (by omega), if_neg (by omega)]
        have hd : decide (g.1 ≤ g.2.2[i].2.1) = false := decide_eq_false (by omega)
        rw [hd]
        simp only [Bool.false_eq_true, if_false]
        have he' : ∀ (j : Nat) (h : j < i + 1) (hj : j < g.2.2.length), 0 ≤ g.2.2[j].1 ∧ g.2.2[j].1 < g.2.1 ∧ 0 ≤ g.2.2[j].2.2 ∧ g.2.2[j].2.2 < g.2.1 ∧ 0 ≤ g.2.2[j].2.1 ∧ g.2.2[j].2.1 < g.1 := by
          intro j hj hjl
          by_cases hji : j = i
          · subst hji; exact ⟨e1, e2, e3, e4, e5, e6⟩
          · exact he j (by omega) hjl
        by_cases h0 : 0 < i
        · rw [if_pos (by omega), ix_pred hi (by omega) h0]
          simp only [Option.bind_some]
          by_cases hc : 0 ≤ cmp3 (g.2.2[i - 1]'(by omega)) g.2.2[i]
          · refine .inr ⟨.ret 10, by rw [if_pos (decide_eq_true hc)], .inr (.inl ⟨rfl, fun v => ?_⟩)⟩
            have := v.ord (i - 1) (by omega)
            simp only [show i - 1 + 1 = i by omega] at this
            omega
          · refine .inl ⟨_, by rw [if_neg (by simpa using hc)], by rw [nx (by omega : g.2.2.length ≤ _) hi], he', fun j hj hjl => ?_⟩
            by_cases hji : j + 1 = i
            · have hj' : j = i - 1 := by omega
              subst hj'
              simp only [show i - 1 + 1 = i by omega]
              omega
            · exact ho j (by omega) hjl
        · refine .inl ⟨_, by rw [if_neg (by omega)], by rw [nx (by omega : g.2.2.length ≤ _) hi], he', fun j hj hjl => by omega⟩
      · have hv : ¬ VG g := fun v => hg (v.ed _ (List.getElem_mem hi))
        refine .inr ⟨.ret 2, ?_, .inl ⟨rfl, hv⟩⟩
        by_cases e1 : g.2.2[i].1 < 0
        · rw [if_pos e1]
        rw [if_neg e1]
        by_cases e2 : g.2.1 ≤ g.2.2[i].1
        · rw [if_pos e2]
        rw [if_neg e2]
        by_cases e3 : g.2.2[i].2.2 < 0
        · rw [if_pos e3]
        rw [if_neg e3]
        by_cases e4 : g.2.1 ≤ g.2.2[i].2.2
        · rw [if_pos e4]
        rw [if_neg e4]
        by_cases e5 : g.2.2[i].2.1 < 0
        · rw [if_pos e5]
        rw [if_neg e5, if_pos (decide_eq_true (by omega))]
    · rintro s ⟨rfl, he, ho⟩
      rw [if_neg (not_lt_int _)]
      refine ⟨_, rfl, .inr (.inr ⟨rfl, ⟨by omega, by omega, by omega, by omega, by omega, fun x hx => ?_, fun i h => ho i h h⟩⟩)⟩
      obtain ⟨j, hj, rfl⟩ := List.getElem_of_mem hx
      exact he j hj hj
  · rintro x (⟨rfl, hv⟩ | ⟨rfl, hv⟩ | ⟨rfl, hv⟩)
    · exact ⟨2, rfl, by simp [hv]⟩
    · exact ⟨10, rfl, by simp [hv]⟩
    · exact ⟨0, rfl, by simp [hv]⟩
end Go.AW

/- A step of a set of states, in the program and in the reference. -/
namespace Go.AW
open Go
set_option linter.unusedSimpArgs false
set_option linter.unusedVariables false

theorem asc_uniq {l m : List Int} (hl : l.Pairwise (· < ·)) (hm : m.Pairwise (· < ·)) (h : ∀ x, x ∈ l ↔ x ∈ m) : l = m := by
  have nl : l.Nodup := hl.imp fun h => Int.ne_of_lt h
  have nm : m.Nodup := hm.imp fun h => Int.ne_of_lt h
  have hp : l.Perm m := (List.perm_ext_iff_of_nodup nl nm).2 h
  exact hp.eq_of_pairwise (fun a b _ _ h1 h2 => by omega) hl hm

theorem sortI_mem {l : List Int} {x : Int} : x ∈ sortI l ↔ x ∈ l := (List.mergeSort_perm l _).mem_iff
theorem sortI_asc (l : List Int) : (sortI l).Pairwise (· ≤ ·) := by
  have := List.pairwise_mergeSort (le := fun x y : Int => decide (x ≤ y)) (fun a b c h1 h2 => by simp at *; omega) (fun a b => by simp; omega) l
  exact this.imp fun h => by simpa using h

theorem keeps_iff (d : Array Int) (j : Nat) : Lib.keeps d j = true ↔ j = 0 ∨ d[j]! ≠ d[j - 1]! := by
  simp [Lib.keeps]

theorem compact_asc {l : List Int} (h : l.Pairwise (· ≤ ·)) : (compact_ l).Pairwise (· < ·) := by
  show (Lib.compactUpTo l.toArray l.length).Pairwise (· < ·)
  unfold Lib.compactUpTo
  rw [List.pairwise_map]
  refine List.Pairwise.imp_of_mem ?_ ((List.pairwise_lt_range (n := l.length)).filter _)
  intro i j hi hj hij
  have hi' := List.mem_range.1 (List.mem_filter.1 hi).1
  have hj' := List.mem_range.1 (List.mem_filter.1 hj).1
  have hk := (keeps_iff _ _).1 (List.mem_filter.1 hj).2
  have e1 : l.toArray[i]! = l[i] := by simp [hi']
  have e2 : l.toArray[j]! = l[j] := by simp [hj']
  have e3 : l.toArray[j - 1]! = l[j - 1]'(by omega) := by simp [show j - 1 < l.length by omega]
  rw [e2, e3] at hk
  rw [e1, e2]
  have hp := List.pairwise_iff_getElem.1 h
  have h1 : l[i] ≤ l[j - 1]'(by omega) := by
    by_cases hie : i = j - 1
    · subst hie; exact Int.le_refl _
    · exact hp i (j - 1) hi' (by omega) (by omega)
  have h2 : l[j - 1]'(by omega) ≤ l[j] := hp (j - 1) j (by omega) hj' (by omega)
  omega

theorem compact_has {l : List Int} {x : Int} (h : x ∈ l) : x ∈ compact_ l := by
  show x ∈ Lib.compactUpTo l.toArray l.length
  unfold Lib.compactUpTo
  obtain ⟨i, hi, rfl⟩ := List.getElem_of_mem h
  obtain ⟨j, ⟨hjl, hj⟩, hmin⟩ := least (fun j => ∃ h : j < l.length, l[j] = l[i]) ⟨i, hi, rfl⟩
  refine List.mem_map.2 ⟨j, List.mem_filter.2 ⟨List.mem_range.2 hjl, (keeps_iff _ _).2 ?_⟩, by simp [hjl, hj]⟩
  by_cases h0 : j = 0
  · exact .inl h0
  · right
    intro he
    have e2 : l.toArray[j]! = l[j] := by simp [hjl]
    have e3 : l.toArray[j - 1]! = l[j - 1]'(by omega) := by simp [show j - 1 < l.length by omega]
    rw [e2, e3] at he
    have := hmin (j - 1) ⟨by omega, by rw [← he, hj]⟩
    omega

theorem compact_sort_mem {l : List Int} {x : Int} : x ∈ compact_ (sortI l) ↔ x ∈ l := ⟨fun h => sortI_mem.1 (compact_mem h), fun h => compact_has (sortI_mem.2 h)⟩

/-- the states of a set, ascending -/
def SetOk (g : Gr) (a : List Int) : Prop := a.Pairwise (· < ·) ∧ ∀ x ∈ a, 0 ≤ x ∧ x < g.2.1

/-- all states up to a number -/
def upto (n : Int) : List Int := (List.range n.toNat).map Int.ofNat
theorem mem_upto {n x : Int} : x ∈ upto n ↔ 0 ≤ x ∧ x < n := by
  simp only [upto, List.mem_map, List.mem_range]
  constructor
  · rintro ⟨i, hi, rfl⟩; simp only [Int.ofNat_eq_natCast]; omega
  · rintro ⟨h0, h1⟩; exact ⟨x.toNat, by omega, by simp only [Int.ofNat_eq_natCast]; omega⟩
theorem upto_asc (n : Int) : (upto n).Pairwise (· < ·) := by
  rw [upto, List.pairwise_map]
  exact (List.pairwise_lt_range (n := n.toNat)).imp fun h => by simp only [Int.ofNat_eq_natCast]; omega
theorem upto_len (n : Int) : (upto n).length = n.toNat := by simp [upto]

/-- where a label leads from a set -/
def stepL (g : Gr) (a : List Int) (c : Int) : List Int := (upto g.2.1).filter fun t => g.2.2.any fun e => decide (e.2.2 = t ∧ e.2.1 = c ∧ e.1 ∈ a)
theorem mem_stepL {g : Gr} (hv : VG g) {a : List Int} {c t : Int} : t ∈ stepL g a c ↔ ∃ e ∈ g.2.2, e.2.2 = t ∧ e.2.1 = c ∧ e.1 ∈ a := by
  simp only [stepL, List.mem_filter, List.any_eq_true, decide_eq_true_eq, mem_upto]
  constructor
  · rintro ⟨_, h⟩; exact h
  · rintro ⟨e, he, h1, h2, h3⟩
    have := hv.ed e he
    exact ⟨by omega, e, he, h1, h2, h3⟩
theorem stepL_ok (g : Gr) (a : List Int) (c : Int) : SetOk g (stepL g a c) :=
  ⟨(upto_asc _).filter _, fun x hx => mem_upto.1 (List.mem_filter.1 hx).1⟩
theorem upto_ok (g : Gr) : SetOk g (upto g.2.1) := ⟨upto_asc _, fun x hx => mem_upto.1 hx⟩

theorem setOk_len {g : Gr} {a : List Int} (hv : VG g) (h : SetOk g a) : a.length ≤ 64 := by
  have e : a = (upto g.2.1).filter fun x => decide (x ∈ a) := asc_uniq h.1 ((upto_asc _).filter _) fun x => by
    simp only [List.mem_filter, mem_upto, decide_eq_true_eq]
    exact ⟨fun hx => ⟨h.2 x hx, hx⟩, fun hx => hx.2⟩
  rw [e]
  refine Nat.le_trans (List.length_filter_le _ _) ?_
  rw [upto_len]
  have := hv.s1
  omega

/-- the check of a set -/
theorem checkSet_ok {g : Gr} {a : List Int} (h : SetOk g a) (hm : a.length ≤ 9223372036854775807) : m_graph_checkSet g a = some 0 := by
  unfold m_graph_checkSet
  simp only [jp]
  refine lpL (loop_is (fun i => (i : Int)) a.length (Ou.go ()) (fun i hi => ?_) (by rw [if_neg (not_lt_int _)]) rfl) rfl
  obtain ⟨h0, h1⟩ := h.2 a[i] (List.getElem_mem hi)
  rw [if_pos (lt_int hi), ix hi]
  simp only [Option.bind_some]
  rw [if_neg (by omega)]
  have hd : decide (g.2.1 ≤ a[i]) = false := decide_eq_false (by omega)
  simp only [hd, Bool.false_eq_true, if_false]
  by_cases hz : 0 < i
  · have hlt := List.pairwise_iff_getElem.1 h.1 (i - 1) i (by omega) hi (by omega)
    rw [if_pos (by omega), ix_pred hi hm hz]
    simp only [Option.bind_some]
    have hd2 : decide (a[i] ≤ a[i - 1]'(by omega)) = false := decide_eq_false (by omega)
    simp only [hd2, Bool.false_eq_true, if_false, nx hm hi]
  · rw [if_neg (by omega)]
    simp only [Bool.false_eq_true, if_false, nx hm hi]

/-- what the edges of a state with a label lead to -/
def outL (g : Gr) (s c : Int) : List Int := ((leaveL g.2.2 s).filter fun x => decide (x.2.2.1 = c)).map fun x => x.2.2.2
theorem mem_leaveL {es : List Ed} {s : Int} {x : Ed} : (∃ i, (i, x) ∈ leaveL es s) ↔ x ∈ es ∧ x.1 = s := by
  constructor
  · rintro ⟨i, h⟩
    obtain ⟨p, hp, he⟩ := List.mem_map.1 h
    obtain ⟨hp1, hp2⟩ := List.mem_filter.1 hp
    cases he
    exact ⟨List.fst_mem_of_mem_zipIdx hp1, of_decide_eq_true hp2⟩
  · rintro ⟨hm, hs⟩
    obtain ⟨k, hk, rfl⟩ := List.getElem_of_mem hm
    exact ⟨_, List.mem_map.2 ⟨(es[k], k), List.mem_filter.2 ⟨by rw [List.mem_zipIdx_iff_getElem?]; exact List.getElem?_eq_getElem hk, decide_eq_true hs⟩, rfl⟩⟩
theorem mem_outL {g : Gr} {s c t : Int} : t ∈ outL g s c ↔ ∃ e ∈ g.2.2, e.2.2 = t ∧ e.2.1 = c ∧ e.1 = s := by
  simp only [outL, List.mem_map, List.mem_filter, decide_eq_true_eq]
  constructor
  · rintro ⟨⟨i, x⟩, ⟨hm, hc⟩, rfl⟩
    obtain ⟨h1, h2⟩ := mem_leaveL.1 ⟨i, hm⟩
    exact ⟨x, h1, rfl, hc, h2⟩
  · rintro ⟨x, hx, rfl, hc, hs⟩
    obtain ⟨i, hi⟩ := mem_leaveL.2 ⟨hx, hs⟩
    exact ⟨(i, x), ⟨hi, hc⟩, rfl⟩
theorem outL_len (g : Gr) (s c : Int) : (outL g s c).length ≤ g.2.2.length := by
  simp only [outL, leaveL, List.length_map]
  refine Nat.le_trans (List.length_filter_le _ _) ?_
  rw [List.length_map]
  refine Nat.le_trans (List.length_filter_le _ _) ?_
  simp

theorem fold_out (c : Int) : ∀ (L : List (Int × Ed)) (acc : List Int), L.foldl (fun (a : List Int) (x : Int × Ed) => if x.2.2.1 = c then a ++ [x.2.2.2] else a) acc = acc ++ (L.filter fun x => decide (x.2.2.1 = c)).map fun x => x.2.2.2
  | [], acc => by simp
  | x :: L, acc => by
    rw [List.foldl_cons, fold_out c L]
    by_cases h : x.2.2.1 = c
    · rw [if_pos h, List.filter_cons_of_pos (by simpa using h)]; simp
    · rw [if_neg h, List.filter_cons_of_neg (by simpa using h)]

theorem forL_foldI {S α X : Type} {body : S → α → Option (Stp S X)} (f : S → α → S) (P : Nat → S → Prop) : ∀ (L : List α) (s : S) (k : Nat), (∀ i s x, i < L.length → x ∈ L → P (k + i) s → body s x = some (.next (f s x)) ∧ P (k + i + 1) (f s x)) → P k s → forL body L s = some (.go (L.foldl f s))
  | [], _, _, _, _ => rfl
  | x :: L, s, k, h, hs => by
    obtain ⟨h1, h2⟩ := h 0 s x (by simp) (List.mem_cons_self ..) hs
    simp only [forL, h1]
    exact forL_foldI f P L _ (k + 1) (fun i s y hi hy hP => by
      have e : k + 1 + i = k + (i + 1) := by omega
      rw [e] at hP ⊢
      exact h (i + 1) s y (by simp; omega) (List.mem_cons_of_mem _ hy) hP) h2

theorem fits_le {k n : Nat} (h : n * k ≤ 140737488355328) (h2 : n ≤ 1048576) : fits k n := ⟨h, by simp only [maxLen]; omega⟩

/-- a step of the program -/
theorem Step_eq {g : Gr} (hv : VG g) {a : List Int} (ha : SetOk g a) {c : Int} (h0 : 0 ≤ c) (h1 : c < g.1) : m_graph_Step g a c = some (stepL g a c, 0) := by
  obtain ⟨e, he, hz⟩ := Check_tot g
  have he0 := hz.2 hv
  subst he0
  have hl := setOk_len hv ha
  have hel := hv.el
  unfold m_graph_Step
  rw [Check_ref, he, Option.bind_some, checkSet_ok ha (by omega)]
  simp only [ne_eq, not_true_eq_false, if_false, Option.bind_some, jp]
  rw [if_neg (by omega)]
  have hd : decide (g.1 ≤ c) = false := decide_eq_false (by omega)
  simp only [hd, Bool.false_eq_true, if_false]
  have hy : ∀ x, y_graph_leaving g x = some (leaveL g.2.2 x) := fun x => by unfold y_graph_leaving; rw [if_pos (by omega)]
  have hlen : ∀ i, i ≤ a.length → ((a.take i).flatMap fun s => outL g s c).length ≤ i * 1024 := by
    intro i
    induction i with
    | zero => intro _; simp
    | succ i ih =>
      intro hi
      have := ih (by omega)
      rw [List.take_add_one, List.getElem?_eq_getElem (by omega)]
      simp only [Option.toList_some, List.flatMap_append, List.flatMap_cons, List.flatMap_nil, List.append_nil, List.length_append]
      have h2 := outL_len g a[i] c
      omega
  refine bindL (loop_is (fun i => ((i : Int), (a.take i).flatMap fun s => outL g s c)) a.length (a.flatMap fun s => outL g s c) (fun i hi => ?_) ?_ (by simp)) ?_
  · dsimp only
    rw [if_pos (lt_int hi), ix hi]
    simp only [Option.bind_some, hy]
    have hb := hlen i (by omega)
    have hll : (leaveL g.2.2 a[i]).length ≤ 1024 := by
      simp only [leaveL, List.length_map]
      refine Nat.le_trans (List.length_filter_le _ _) ?_
      simp; omega
    rw [forL_foldI (fun (acc : List Int) (x : Int × Ed) => if x.2.2.1 = c then acc ++ [x.2.2.2] else acc) (fun k s => s.length ≤ i * 1024 + k) _ _ 0 (fun k s x hk hx hP => ?_) (Nat.le_trans hb (Nat.le_add_right _ _))]
    · simp only [lpO, nx (by omega : a.length ≤ _) hi, fold_out, Option.some.injEq, Stp.next.injEq, Prod.mk.injEq, true_and]
      rw [List.take_add_one, List.getElem?_eq_getElem hi]
      simp only [Option.toList_some, List.flatMap_append, List.flatMap_cons, List.flatMap_nil, List.append_nil]
      rfl
    · by_cases hc : x.2.2.1 = c
      · rw [if_pos hc, if_pos hc, if_pos (fits_le (by simp; omega) (by simp; omega))]
        exact ⟨rfl, by simp; omega⟩
      · rw [if_neg hc, if_neg hc]
        exact ⟨rfl, by omega⟩
  · dsimp only
    rw [if_neg (not_lt_int _), List.take_length]
  · have hb := hlen a.length (Nat.le_refl _)
    rw [List.take_length] at hb
    rw [if_pos (by omega)]
    congr 2
    refine asc_uniq (compact_asc (sortI_asc _)) (stepL_ok g a c).1 fun x => ?_
    rw [compact_sort_mem, mem_stepL hv]
    simp only [List.mem_flatMap, mem_outL]
    constructor
    · rintro ⟨s, hs, e, he, h1, h2, rfl⟩; exact ⟨e, he, h1, h2, hs⟩
    · rintro ⟨e, he, h1, h2, hs⟩; exact ⟨_, hs, e, he, h1, h2, rfl⟩
end Go.AW

/- Regions that draw their order, piece by piece, in lockstep; guards of single operations. -/
namespace Go.AW
open Go
theorem ACall.conv' {P : Program} {f : FuncId} {args : List HV} {H : Heap} {K K' : HV → Heap → Prop} (h : ACall P f args H K) (hc : ∀ r H', K r H' → ∃ r2 H2, Conv H' r r2 H2 ∧ K' r2 H2) : ACall P f args H K' := by
  refine ⟨h.1, fun μ w vs hs hr => (h.2 μ w vs hs hr).mono ?_⟩
  rintro e w' ⟨v, r, H', μ', rfl, hk, hs', hr', E⟩
  obtain ⟨r2, H2, hcv, hk2⟩ := hc r H' hk
  obtain ⟨μ2, hs2, hr2, E2⟩ := hcv w' μ' v hs' hr'
  exact ⟨v, r2, H2, μ2, rfl, hk2, hs2, hr2, E.trans E2⟩
section
variable {P : Program} {ro : Option Nat} {N : Nat} {s : AS} {ops : Array Oper} {o : Oper} {sl : List (Nat × HV)} {H : Heap}

theorem AnyAt.eqc {Q : Exit → AS → Prop} {q : Nat} : Eqc (AnyAt P ro N ops Q q) := fun s s' he h w0 μ0 fuel listed μ1 a1 w1 h1 h2 h3 hs hE => h w0 μ0 fuel listed μ1 a1 w1 h1 h2 h3 (hs.eqv he) hE

theorem o_callA {all : Array Oper} {rest : List Oper} {K : AS → Prop} {d : Nat} {aa : Array Operand} {ts : Array TypeId} {f : Operand} {g : FuncId} {fs hs cs args : List HV} (h0 : (o.dst, o.op) = (some d, .call ⟨.value f, aa, ts⟩)) (hf : (⟨sl, H⟩ : AS).ev f = some (.fn (.func g) fs cs)) (ha : aa.toList.mapM (⟨sl, H⟩ : AS).ev = some hs) (hargs : fs ++ hs ++ cs = args)
    (h : ACall P g args H fun r H' => bops P ro N all rest K ⟨(d, r) :: sl, H'⟩) : aop P 0 [] o (fun s' => bops P ro N all rest K s') ⟨sl, H⟩ := by
  obtain ⟨h1, h2⟩ := Prod.mk.inj h0
  refine op_call h2 hf ha hargs (h.mono fun r H' hk => ?_)
  rw [h1]
  exact bops_le (put_le (s := ⟨sl, H'⟩) d r) hk

/-- what is asked from operation q on -/
def nyops (P : Program) (ro : Option Nat) (N : Nat) (ops : Array Oper) (K : AS → Prop) (q : Nat) (s : AS) : Prop := AnyAt P ro N ops (fun e s' => e = .normal ∧ K s') q s

theorem AW.dy {id : Nat} {Q : Exit → AS → Prop} (hm : P.follows .mixedOrders = true) (h : ∀ K : AS → Prop, (∀ s', Q .normal s' → K s') → nyops P ro N ops K 0 s) : AW P ro N (.region id ops true) Q s :=
  AW.conseq (Q' := fun e s' => e = .normal ∧ Q .normal s') (AW.any hm (h (Q .normal) fun _ h => h)) fun e s1 ⟨he, h⟩ => he ▸ ⟨s1, AS.le_refl s1, h⟩
theorem AW.dys {id : Nat} {y : Code} {Q : Exit → AS → Prop} (hm : P.follows .mixedOrders = true) (h : ∀ K : AS → Prop, (∀ s', AW P ro N y Q s' → K s') → nyops P ro N ops K 0 s) : AW P ro N (.seq (.region id ops true) y) Q s :=
  AW.seq (AW.dy hm h)
variable {K : AS → Prop}
theorem y_st {q : Nat} (p : Nat) (hok : ops.toList.all (fun o => okd N o.dst) = true) (hc : (daOk ops && Nat.ble q p && Nat.ble p ops.size && waitOk ops q p && segOk ops q p) = true)
    (h : stops P ops.toList ((ops.toList.drop q).take (p - q)) (nyops P ro N ops K p) s) : nyops P ro N ops K q s := by
  simp only [Bool.and_eq_true] at hc
  obtain ⟨⟨⟨⟨h1, h2⟩, h3⟩, h4⟩, h5⟩ := hc
  exact AnyAt.steady p _ hok h1 (Nat.le_of_ble_eq_true h2) (Nat.le_of_ble_eq_true h3) h4 h5 (fun _ h => h) (h.go AnyAt.eqc)
theorem y_nil {q : Nat} (hc : (daOk ops && (ops.size == q)) = true) (h : K s) : nyops P ro N ops K q s := by
  simp only [Bool.and_eq_true, beq_iff_eq] at hc
  obtain ⟨h1, rfl⟩ := hc
  exact AnyAt.done h1 ⟨rfl, h⟩
theorem one_op {q : Nat} {fid : Nat} {mt : List Nat} (hN : okd N o.dst = true) (h : aop P fid mt o (fun s' => bops P ro N #[] [] (nyops P ro N ops K q) s') s) : AOp P ro N o (nyops P ro N ops K q) s := by
  have hk : AOp P ro N o _ s := aop_sound hN h
  intro w0 μ0 μ a w next Q hs hE hK
  refine hk w0 μ0 μ a w next Q hs hE fun μ' s' a' w' h' hs' hE' => ?_
  have hb := h' (by simp) 0 (fun k => by simp)
  have := hb w0 μ0 μ' a' w' (fun _ a w => next a w) hs' hE' (fun μ2 s2 a2 w2 hk2 hs2 hE2 => hK μ2 s2 a2 w2 hk2 hs2 hE2)
  simpa only [List.length_nil, List.range'_zero, wpOpsIn] using this
theorem y_op {q : Nat} {fid : Nat} {mt : List Nat} (hc : (daOk ops && Nat.ble (q + 1) ops.size && waitOk ops q (q + 1)) = true) (ho : ops[q]? = some o) (hg : o.guard = none) (hN : okd N o.dst = true)
    (h : aop P fid mt o (fun s' => bops P ro N #[] [] (nyops P ro N ops K (q + 1)) s') s) : nyops P ro N ops K q s := by
  simp only [Bool.and_eq_true] at hc
  obtain ⟨⟨h1, h2⟩, h3⟩ := hc
  exact AnyAt.op h1 (Nat.le_of_ble_eq_true h2) h3 (AOpI.plain ho hg (one_op hN h))
end
end Go.AW

/- Lists of texts and of numbers; counting. -/
namespace Go.AW
open Go

/-- a list of texts, of numbers -/
def strs (l : List (List UInt8)) : HV := .sl 1 l.length (l.map .str)
def ints (l : List Int) : HV := .sl 1 l.length (l.map (.int .i64))
def num (n : Int) : HV := .int .i64 n

theorem strs_at {l : List (List UInt8)} {i : Nat} (h : i < l.length) : (l.map HV.str)[i]? = some (.str l[i]) := by
  rw [List.getElem?_map, List.getElem?_eq_getElem h]; rfl
theorem ints_at {l : List Int} {i : Nat} (h : i < l.length) : (l.map (HV.int .i64))[i]? = some (.int .i64 l[i]) := by
  rw [List.getElem?_map, List.getElem?_eq_getElem h]; rfl
theorem clean_strs (l : List (List UInt8)) : clean (strs l) := cleanL_map fun _ _ => trivial
/-- counting up to n -/
theorem cnt_next {i n : Nat} (h : n ≤ 9223372036854775807) (hi : i < n) : IntKind.wrap .i64 ((i : Int) + 1) = ((i + 1 : Nat) : Int) := by
  rw [w64 (by omega) (by omega)]; omega
theorem cnt_lt {i n : Nat} (h : decide ((i : Int) < (n : Int)) = true) : i < n := by simpa using h
theorem cnt_ge {i n : Nat} (h : decide ((i : Int) < (n : Int)) = false) (hi : i ≤ n) : i = n := by
  have : ¬ i < n := by simpa using h
  omega

/-- a caller uses a pure contract -/
theorem Pure.use {P : Program} {f : FuncId} {args : List HV} {H : Heap} {K : HV → Heap → Prop} {R : HV → Prop} (hp : Pure P f args R) (hK : ∀ r, R r → K r H) : ACall P f args H K := ACall.pure0 hp hK

theorem nat_eq_of {a b : Nat} (h : decide ((a : Int) ≠ (b : Int)) = false) : a = b := by
  have : (a : Int) = b := by simpa using h
  omega
end Go.AW

namespace Go.AW
open Go

/-- the letters of the words -/
def letters : List UInt8 := [48, 49, 50, 51, 52, 53, 54, 55, 56, 57, 97, 98, 99, 100, 101, 102]

abbrev WS := List UInt8 × List Int

/-- a word goes on with letters -/
def ext1 (stp : List Int → UInt8 → List Int) (cs : List UInt8) (x : WS) : List WS := cs.filterMap fun c => if stp x.2 c = [] then none else some (x.1 ++ [c], stp x.2 c)

/-- the words of a length, each with its ends -/
def lvl (stp : List Int → UInt8 → List Int) (cs : List UInt8) (set : List Int) : Nat → List WS
  | 0 => if set = [] then [] else [([], set)]
  | i + 1 => (lvl stp cs set i).flatMap (ext1 stp cs)

def ent (x : WS) : List UInt8 × HV := (x.1, ints x.2)

section
variable {stp : List Int → UInt8 → List Int} {cs : List UInt8} {set : List Int}

theorem mem_ext1 {x y : WS} : y ∈ ext1 stp cs x ↔ ∃ c ∈ cs, stp x.2 c ≠ [] ∧ y = (x.1 ++ [c], stp x.2 c) := by
  simp only [ext1, List.mem_filterMap]
  constructor
  · rintro ⟨c, hc, h⟩
    split at h
    · cases h
    · rename_i hn; cases h; exact ⟨c, hc, hn, rfl⟩
  · rintro ⟨c, hc, hn, rfl⟩
    exact ⟨c, hc, by rw [if_neg hn]⟩

theorem ext1_keys (x : WS) (h : cs.Nodup) : ((ext1 stp cs x).map (·.1)).Nodup := by
  induction cs with
  | nil => simp [ext1]
  | cons c cs ih =>
    have hc := List.nodup_cons.1 h
    have ih' := ih hc.2
    simp only [ext1, List.filterMap_cons] at ih' ⊢
    split
    · exact ih'
    · rename_i y hy
      split at hy
      · cases hy
      · cases hy
        simp only [List.map_cons, List.nodup_cons]
        refine ⟨fun hm => ?_, ih'⟩
        obtain ⟨z, hz, he⟩ := List.mem_map.1 hm
        obtain ⟨d, hd, _, rfl⟩ := mem_ext1.1 hz
        have := List.append_cancel_left he
        cases this
        exact hc.1 hd

theorem flat_keys (h : cs.Nodup) : ∀ {l : List WS}, (l.map (·.1)).Nodup → ((l.flatMap (ext1 stp cs)).map (·.1)).Nodup
  | [], _ => by simp
  | x :: l, hl => by
    simp only [List.map_cons, List.nodup_cons] at hl
    simp only [List.flatMap_cons, List.map_append]
    refine List.nodup_append.2 ⟨ext1_keys x h, flat_keys h hl.2, ?_⟩
    intro a ha b hb e
    subst e
    obtain ⟨y, hy, rfl⟩ := List.mem_map.1 ha
    obtain ⟨c, _, _, rfl⟩ := mem_ext1.1 hy
    obtain ⟨z, hz, he⟩ := List.mem_map.1 hb
    obtain ⟨x', hx', hz'⟩ := List.mem_flatMap.1 hz
    obtain ⟨d, _, _, rfl⟩ := mem_ext1.1 hz'
    have h1 : x'.1 = x.1 := by
      have := congrArg List.dropLast he
      simpa using this
    exact hl.1 (h1 ▸ List.mem_map.2 ⟨x', hx', rfl⟩)

theorem lvl_keys (h : cs.Nodup) : ∀ i, ((lvl stp cs set i).map (·.1)).Nodup
  | 0 => by simp only [lvl]; split <;> simp
  | i + 1 => flat_keys h (lvl_keys h i)

theorem lvl_len : ∀ (i : Nat) (x : WS), x ∈ lvl stp cs set i → x.1.length = i
  | 0, x, h => by
    simp only [lvl] at h
    split at h
    · cases h
    · simp at h; subst h; rfl
  | i + 1, x, h => by
    obtain ⟨y, hy, hx⟩ := List.mem_flatMap.1 h
    obtain ⟨c, _, _, rfl⟩ := mem_ext1.1 hx
    have := lvl_len i y hy
    simp [this]

theorem lvl_all {A : List Int → Prop} (h0 : A set) (hs : ∀ a c, A a → c ∈ cs → A (stp a c)) : ∀ (i : Nat) (x : WS), x ∈ lvl stp cs set i → A x.2
  | 0, x, h => by
    simp only [lvl] at h
    split at h
    · cases h
    · simp at h; subst h; exact h0
  | i + 1, x, h => by
    obtain ⟨y, hy, hx⟩ := List.mem_flatMap.1 h
    obtain ⟨c, hc, _, rfl⟩ := mem_ext1.1 hx
    exact hs _ _ (lvl_all h0 hs i y hy) hc

theorem lvl_nil {i : Nat} (h : lvl stp cs set i = []) : ∀ {j : Nat}, i ≤ j → lvl stp cs set j = []
  | 0, hj => by
    have : i = 0 := by omega
    subst this; exact h
  | j + 1, hj => by
    rcases Nat.lt_or_ge i (j + 1) with h' | h'
    · simp only [lvl, lvl_nil h (j := j) (by omega), List.flatMap_nil]
    · have : i = j + 1 := by omega
      subst this; exact h

theorem perm_flat {l l' : List WS} (h : l.Perm l') : (l.flatMap (ext1 stp cs)).Perm (l'.flatMap (ext1 stp cs)) := h.flatMap_right _

theorem perm_keys {l : List WS} {es : List (List UInt8 × HV)} (h : es.Perm (l.map ent)) (hl : (l.map (·.1)).Nodup) : (es.map (·.1)).Nodup := by
  have h1 := h.map (·.1)
  rw [List.map_map] at h1
  exact h1.nodup_iff.2 (by simpa [Function.comp_def, ent] using hl)

/-- the next entry -/
theorem next_pick {vis rest l : List WS} {es : List (List UInt8 × HV)} {k : List UInt8} {v : HV} (hp : (vis ++ rest).Perm l) (he : es.Perm (l.map ent)) (hm : (k, v) ∈ es) (hk : k ∉ vis.map (·.1)) :
    ∃ x l1 l2, rest = l1 ++ x :: l2 ∧ (k, v) = ent x ∧ ((x :: vis) ++ (l1 ++ l2)).Perm l := by
  have h1 : (k, v) ∈ (vis ++ rest).map ent := ((hp.map ent).symm.mem_iff).1 (he.mem_iff.1 hm)
  obtain ⟨x, hx, hxe⟩ := List.mem_map.1 h1
  have hxr : x ∈ rest := by
    rcases List.mem_append.1 hx with h | h
    · exfalso
      refine hk (List.mem_map.2 ⟨x, h, ?_⟩)
      have := congrArg Prod.fst hxe
      exact this
    · exact h
  obtain ⟨l1, l2, rfl⟩ := List.append_of_mem hxr
  refine ⟨x, l1, l2, rfl, hxe.symm, List.Perm.trans ?_ hp⟩
  have e1 : (x :: vis) ++ (l1 ++ l2) = x :: ((vis ++ l1) ++ l2) := by simp
  have e2 : vis ++ (l1 ++ x :: l2) = (vis ++ l1) ++ x :: l2 := by simp
  rw [e1, e2]
  exact List.perm_middle.symm

theorem rest_nil {vis rest l : List WS} {es : List (List UInt8 × HV)} (hl : (l.map (·.1)).Nodup) (hp : (vis ++ rest).Perm l) (he : es.Perm (l.map ent)) (hall : ∀ p ∈ es, p.1 ∈ vis.map (·.1)) : rest = [] := by
  cases rest with
  | nil => rfl
  | cons x rest =>
    exfalso
    have hx : ent x ∈ es := he.mem_iff.2 (List.mem_map.2 ⟨x, hp.mem_iff.1 (by simp), rfl⟩)
    have hk := hall _ hx
    have hn : ((vis ++ x :: rest).map (·.1)).Nodup := (hp.map (·.1)).nodup_iff.2 hl
    simp only [List.map_append, List.map_cons] at hn
    exact (List.nodup_append.1 hn).2.2 _ hk _ (List.mem_cons_self ..) rfl

theorem ext1_take (x : WS) {j : Nat} (hj : j < cs.length) : ext1 stp (cs.take (j + 1)) x = ext1 stp (cs.take j) x ++ (if stp x.2 cs[j] = [] then [] else [(x.1 ++ [cs[j]], stp x.2 cs[j])]) := by
  rw [List.take_add_one, List.getElem?_eq_getElem hj]
  simp only [ext1, Option.toList_some, List.filterMap_append]
  congr 1
  simp only [List.filterMap_cons, List.filterMap_nil]
  split <;> simp_all

theorem key_new {vis : List WS} {x : WS} (hcs : cs.Nodup) (hx : x.1 ∉ vis.map (·.1)) {j : Nat} (hj : j < cs.length) {es : List (List UInt8 × HV)} (he : es.Perm ((vis.flatMap (ext1 stp cs) ++ ext1 stp (cs.take j) x).map ent)) :
    alook (x.1 ++ [cs[j]]) es = none := by
  rw [alook_none]
  intro hm
  have h1 := (he.map (·.1)).mem_iff.1 hm
  rw [List.map_map, List.map_append, List.mem_append] at h1
  rcases h1 with h | h
  · obtain ⟨y, hy, hye⟩ := List.mem_map.1 h
    obtain ⟨z, hz, hzy⟩ := List.mem_flatMap.1 hy
    obtain ⟨d, _, _, rfl⟩ := mem_ext1.1 hzy
    have h2 : z.1 = x.1 := by
      have := congrArg List.dropLast hye
      simpa [ent] using this
    exact hx (h2 ▸ List.mem_map.2 ⟨z, hz, rfl⟩)
  · obtain ⟨y, hy, hye⟩ := List.mem_map.1 h
    obtain ⟨d, hd, _, rfl⟩ := mem_ext1.1 hy
    have h2 : d = cs[j] := by
      have h3 : x.1 ++ [d] = x.1 ++ [cs[j]] := hye
      have := List.append_cancel_left h3
      simpa using this
    rw [h2] at hd
    obtain ⟨k, hk, hke⟩ := List.mem_take_iff_getElem.1 hd
    have := (List.getElem_inj (h₀ := by omega) (h₁ := hj) hcs).1 hke
    omega
end

/-- there are not too many words on the way -/
def okLvl (stp : List Int → UInt8 → List Int) (cs : List UInt8) (set : List Int) (n : Nat) : Bool := (List.range n).all fun j => decide ((lvl stp cs set (j + 1)).length ≤ 4096)

theorem okLvl_iff {stp : List Int → UInt8 → List Int} {cs : List UInt8} {set : List Int} {n : Nat} : okLvl stp cs set n = true ↔ ∀ j, 1 ≤ j → j ≤ n → (lvl stp cs set j).length ≤ 4096 := by
  simp only [okLvl, List.all_eq_true, List.mem_range, decide_eq_true_eq]
  constructor
  · intro h j h1 h2
    have := h (j - 1) (by omega)
    rwa [show j - 1 + 1 = j by omega] at this
  · exact fun h j hj => h (j + 1) (by omega) (by omega)

theorem utf_letters : ∀ c ∈ letters, (Utf8.encode (c.toNat : Int)).data.toList = [c] := by decide
theorem letters_nodup : letters.Nodup := by decide

theorem fact_num {n : Int} (h : fact (.int .i64 n)) : -9223372036854775808 ≤ n ∧ n ≤ 9223372036854775807 := by
  simpa [fact, Lit.wf, IntKind.min, IntKind.max, IntKind.signed, IntKind.bits] using h
theorem dec_lt {a b : Nat} (h : decide ((a : Int) < (b : Int)) = true) : a < b := by simpa using h
/-- both branches come to states of one family, then the rest -/
theorem AW.cjoin2 {P : Program} {ro : Option Nat} {N : Nat} {s : AS} {Q : Exit → AS → Prop} {c : Operand} {x y z : Code} {t : Bool} {α : Type} (St : α → AS) (I : α → Prop) (hc : s.ev c = some (.bool t))
    (h1 : t = true → AW P ro N x (thenQ (fun s' => ∃ a, I a ∧ s'.le (St a)) Q) s) (h2 : t = false → AW P ro N y (thenQ (fun s' => ∃ a, I a ∧ s'.le (St a)) Q) s)
    (h3 : ∀ a, I a → AW P ro N z Q (St a)) : AW P ro N (.cond c x y) (thenQ (AW P ro N z Q) Q) s := by
  refine (AW.cond hc h1 h2).mono ?_
  rintro e s' h
  cases e with
  | normal => obtain ⟨a, ha, hl⟩ := h; exact AW.weaken (h3 a ha) hl
  | exit id => exact h
  | goto l => exact h
  | ret => exact h
  | panic ch => exact h
  | outgrown => exact h
end Go.AW

/- What language.list computes: the words level by level, each with its ends. -/
namespace Go.AW
open Go
noncomputable def stpM (g : TLabelsStatesEdges) (a : List Int) (c : UInt8) : List Int := (m_language_step g a (c.toNat : Int)).getD []
def StepsOk (g : TLabelsStatesEdges) (set : List Int) : Prop := ∃ A : List Int → Prop, A set ∧ ∀ a c, A a → c ∈ letters.take g.1.toNat → ∃ b, m_language_step g a (c.toNat : Int) = some b ∧ A b
open Classical in
noncomputable def m_language_list (g : TLabelsStatesEdges) (set : List Int) (n : Int) : Option (List WS × Bool) :=
  if 0 ≤ g.1 ∧ g.1 ≤ 16 ∧ 0 ≤ n ∧ StepsOk g set then
    some (if okLvl (stpM g) (letters.take g.1.toNat) set n.toNat = true then (lvl (stpM g) (letters.take g.1.toNat) set n.toNat, true) else ([], false))
  else none
/-- groove/language.Words -/
noncomputable def m_language_Words (p0 : TLabelsStatesEdges) (p1 : Int) : Option ((List (List UInt8)) × Int) :=
  (m_language_lengths p0 p1).bind fun x1 =>
  if x1 ≠ 0 then
    some ([], x1)
  else
    (m_language_states p0).bind fun x3 =>
    (m_language_list p0 x3 p1).bind fun x5 =>
    if x5.2 = true then
      some (sortS ((x5.1).map Prod.fst), 0)
    else
      some ([], 4)

end Go.AW

/- The words of a graph: the reference's lists, and the program's. -/
namespace Go.AW
open Go
set_option linter.unusedSimpArgs false
set_option linter.unusedVariables false

theorem has_eq {l : List Int} (hm : l.length ≤ 9223372036854775807) (n : Int) : m_ref11_has l n = some (decide (n ∈ l)) := by
  unfold m_ref11_has
  refine lpL (loop_any (fun i => (i : Int)) l.length (fun i => decide (l.getD i 0 = n)) (Ou.ret true) (Ou.go ()) (fun i hi => ?_) (by rw [if_neg (not_lt_int _)]) rfl) ?_
  · have e1 : l.getD i 0 = l[i] := by simp [List.getD, hi]
    rw [if_pos (lt_int hi), ix hi]
    simp only [Option.bind_some, nx hm hi, e1, decide_eq_true_eq]
  · by_cases h : n ∈ l
    · obtain ⟨i, hi, he⟩ := List.getElem_of_mem h
      rw [if_pos]
      · simp [lpO, h]
      · exact List.any_eq_true.2 ⟨i, List.mem_range.2 hi, by simp [List.getD, hi, he]⟩
    · rw [if_neg]
      · simp [lpO, h]
      · intro hx
        obtain ⟨i, hi, hp⟩ := List.any_eq_true.1 hx
        have hi := List.mem_range.1 hi
        have e1 : l.getD i 0 = l[i] := by simp [List.getD, hi]
        rw [e1] at hp
        exact h (of_decide_eq_true hp ▸ List.getElem_mem hi)

/-- a step of the reference -/
theorem refStep_eq {g : Gr} (hv : VG g) {a : List Int} (hl : a.length ≤ 9223372036854775807) {c : Int} : m_ref11_Step g a c = some (stepL g a c) := by
  have hel := hv.el
  have hs1 := hv.s1
  have hs0 := hv.s0
  obtain ⟨m, hm⟩ := Int.eq_ofNat_of_zero_le hs0
  have hfl : ∀ i, ((((List.range i).map Int.ofNat).filter fun t => g.2.2.any fun e => decide (e.2.2 = t ∧ e.2.1 = c ∧ e.1 ∈ a)) : List Int).length ≤ i := fun i => Nat.le_trans (List.length_filter_le _ _) (by simp)
  unfold m_ref11_Step
  refine bindL (loop_is (fun i => ((i : Int), ((List.range i).map Int.ofNat).filter fun t => g.2.2.any fun e => decide (e.2.2 = t ∧ e.2.1 = c ∧ e.1 ∈ a))) m (stepL g a c) (fun i hi => ?_) ?_ (by simp)) rfl
  · dsimp only
    rw [if_pos (by omega)]
    simp only [jp]
    have hin : loopW (S := Bool × Int) (X := Bool) (fun a9 =>
              if a9.2 < ((g.2.2).length : Int) then
                (idx g.2.2 a9.2).bind fun x19 =>
                  if x19.2.2 = (i : Int) then
                    (idx g.2.2 a9.2).bind fun x21 =>
                      if x21.2.1 = c then
                        (idx g.2.2 a9.2).bind fun x23 => (m_ref11_has a x23.1).bind fun x25 => if x25 = true then some (Stp.next (true, IntKind.wrap .i64 (a9.2 + 1))) else some (Stp.next (a9.1, IntKind.wrap .i64 (a9.2 + 1)))
                      else if false = true then some (Stp.next (true, IntKind.wrap .i64 (a9.2 + 1))) else some (Stp.next (a9.1, IntKind.wrap .i64 (a9.2 + 1)))
                  else if false = true then some (Stp.next (true, IntKind.wrap .i64 (a9.2 + 1))) else some (Stp.next (a9.1, IntKind.wrap .i64 (a9.2 + 1)))
              else
                some (Stp.exit a9.1)) (false, 0) = some (g.2.2.any fun e => decide (e.2.2 = (i : Int) ∧ e.2.1 = c ∧ e.1 ∈ a)) := by
      refine loop_is (fun k => ((g.2.2.take k).any fun e => decide (e.2.2 = (i : Int) ∧ e.2.1 = c ∧ e.1 ∈ a), (k : Int))) g.2.2.length _ (fun k hk => ?_) ?_ (by simp)
      · dsimp only
        rw [if_pos (lt_int hk), ix hk]
        simp only [Option.bind_some, has_eq hl, nx (by omega : g.2.2.length ≤ _) hk, Bool.false_eq_true, if_false, decide_eq_true_eq]
        have e : (g.2.2.take (k + 1)).any (fun e => decide (e.2.2 = (i : Int) ∧ e.2.1 = c ∧ e.1 ∈ a)) = ((g.2.2.take k).any (fun e => decide (e.2.2 = (i : Int) ∧ e.2.1 = c ∧ e.1 ∈ a)) || decide (g.2.2[k].2.2 = (i : Int) ∧ g.2.2[k].2.1 = c ∧ g.2.2[k].1 ∈ a)) := by
          rw [List.take_add_one, List.getElem?_eq_getElem hk, List.any_append]
          congr 1
          simp
        rw [e]
        by_cases h1 : g.2.2[k].2.2 = (i : Int)
        · by_cases h2 : g.2.2[k].2.1 = c
          · by_cases h3 : g.2.2[k].1 ∈ a
            · simp [h1, h2, h3]
            · simp [h1, h2, h3]
          · simp [h1, h2]
        · simp [h1]
      · dsimp only
        rw [if_neg (not_lt_int _), List.take_length]
    rw [hin]
    simp only [Option.bind_some]
    have er : (List.range (i + 1)).map Int.ofNat = (List.range i).map Int.ofNat ++ [(i : Int)] := by rw [List.range_succ, List.map_append]; rfl
    rw [er, List.filter_append]
    by_cases hb : (g.2.2.any fun e => decide (e.2.2 = (i : Int) ∧ e.2.1 = c ∧ e.1 ∈ a)) = true
    · have := hfl i
      rw [if_pos hb, if_pos (fits_le (by simp only [List.length_cons, List.length_nil]; omega) (by simp only [List.length_cons, List.length_nil]; omega)), nx (by omega : m ≤ _) hi, List.filter_cons_of_pos (by exact hb)]
      rfl
    · rw [if_neg hb, nx (by omega : m ≤ _) hi, List.filter_cons_of_neg (by exact hb)]
      simp
  · dsimp only
    rw [if_neg (by omega)]
    simp only [stepL, upto, hm, Int.toNat_natCast]

theorem All_eq {g : Gr} (hv : VG g) : m_ref11_All g = some (upto g.2.1) := by
  have hs1 := hv.s1
  obtain ⟨m, hm⟩ := Int.eq_ofNat_of_zero_le hv.s0
  unfold m_ref11_All
  refine bindL (loop_is (fun i => ((i : Int), (List.range i).map Int.ofNat)) m (upto g.2.1) (fun i hi => ?_) ?_ (by simp)) rfl
  · dsimp only
    rw [if_pos (by omega), if_pos (fits_le (by simp; omega) (by simp; omega)), nx (by omega : m ≤ _) hi, List.range_succ, List.map_append]
    rfl
  · dsimp only
    rw [if_neg (by omega)]
    simp only [upto, hm, Int.toNat_natCast]
theorem states_eq {g : Gr} (hv : VG g) : m_language_states g = some (upto g.2.1) := by
  have hs1 := hv.s1
  obtain ⟨m, hm⟩ := Int.eq_ofNat_of_zero_le hv.s0
  unfold m_language_states
  rw [if_pos (by omega)]
  simp only [hm, Int.toNat_natCast, List.length_replicate]
  refine bindL (loop_is (fun i => ((i : Int), (List.range i).map Int.ofNat ++ List.replicate (m - i) (0 : Int))) m (upto m) (fun i hi => ?_) ?_ (by simp)) rfl
  · dsimp only
    have hlen : ((List.range i).map Int.ofNat ++ List.replicate (m - i) (0 : Int)).length = m := by simp; omega
    rw [if_pos (lt_int hi), ix (by omega)]
    simp only [Option.bind_some, nx (by omega : m ≤ _) hi, Int.toNat_natCast]
    congr 3
    rw [List.set_append_right _ _ (by simp), List.range_succ, List.map_append]
    have e : m - i = (m - (i + 1)) + 1 := by omega
    simp only [List.length_map, List.length_range, Nat.sub_self, e, List.replicate_succ, List.set_cons_zero]
    simp
  · dsimp only
    rw [if_neg (not_lt_int _)]
    simp [upto]
end Go.AW

/- The words of a length: the program's list, the reference's list, and their order. -/
namespace Go.AW
open Go
set_option linter.unusedSimpArgs false
set_option linter.unusedVariables false

theorem letters_len : letters.length = 16 := rfl
theorem idx_letter {i : Nat} (h : i < letters.length) : Lib.indexByte letters letters[i] = (i : Int) := by
  have : ∀ j : Fin 16, Lib.indexByte letters (letters[j.1]'j.2) = (j.1 : Int) := by decide
  exact this ⟨i, h⟩
theorem byte_back (c : UInt8) : ((c.toNat : Int).toNat.toUInt8) = c := by simp

/-- the letters of a graph -/
def lets (g : Gr) : List UInt8 := letters.take g.1.toNat

section
variable {g : Gr}
theorem lstep_eq (hv : VG g) {a : List Int} (ha : SetOk g a) {i : Nat} (h : i < letters.length) (hi : (i : Int) < g.1) : m_language_step g a ((letters[i]).toNat : Int) = some (stepL g a i) := by
  unfold m_language_step m_strings_IndexByte
  simp only [byte_back, Option.bind_some]
  have e : Lib.indexByte [48, 49, 50, 51, 52, 53, 54, 55, 56, 57, 97, 98, 99, 100, 101, 102] letters[i] = (i : Int) := idx_letter h
  rw [e, Step_eq hv ha (by omega) hi]
  rfl
theorem stpM_eq (hv : VG g) {a : List Int} (ha : SetOk g a) {i : Nat} (h : i < letters.length) (hi : (i : Int) < g.1) : stpM g a letters[i] = stepL g a i := by
  unfold stpM; rw [lstep_eq hv ha h hi]; rfl
theorem mem_lets {c : UInt8} (h : c ∈ letters.take g.1.toNat) : ∃ (i : Nat) (hi : i < letters.length), (i : Int) < g.1 ∧ letters[i] = c := by
  obtain ⟨i, hi, rfl⟩ := List.mem_take_iff_getElem.1 h
  have h1 : i < g.1.toNat := by omega
  exact ⟨i, by omega, by omega, rfl⟩
theorem stpM_ok (hv : VG g) {a : List Int} {c : UInt8} (ha : SetOk g a) (hc : c ∈ letters.take g.1.toNat) : SetOk g (stpM g a c) := by
  obtain ⟨i, hi, hg, rfl⟩ := mem_lets hc
  rw [stpM_eq hv ha hi hg]
  exact stepL_ok g a i
theorem stepsOk (hv : VG g) {set : List Int} (hs : SetOk g set) : StepsOk g set := ⟨SetOk g, hs, fun a c ha hc => by
  obtain ⟨i, hi, hg, rfl⟩ := mem_lets hc
  exact ⟨_, lstep_eq hv ha hi hg, stepL_ok g a i⟩⟩

/-- the words of a length of paths from a set, each with its ends -/
noncomputable def LV (g : Gr) (set : List Int) (n : Nat) : List WS := lvl (stpM g) (letters.take g.1.toNat) set n
noncomputable def OKL (g : Gr) (set : List Int) (n : Nat) : Bool := okLvl (stpM g) (letters.take g.1.toNat) set n

theorem list_eq (hv : VG g) (h16 : g.1 ≤ 16) {set : List Int} (hs : SetOk g set) {n : Nat} : m_language_list g set (n : Int) = some (if OKL g set n = true then (LV g set n, true) else ([], false)) := by
  unfold m_language_list
  have := hv.l1
  rw [if_pos ⟨by omega, h16, by omega, stepsOk hv hs⟩]
  rfl
theorem LV_set (hv : VG g) {set : List Int} (hs : SetOk g set) {n : Nat} {x : WS} (h : x ∈ LV g set n) : SetOk g x.2 := lvl_all hs (fun a c ha hc => stpM_ok hv ha hc) n x h
theorem LV_len {set : List Int} {n : Nat} {x : WS} (h : x ∈ LV g set n) : x.1.length = n := lvl_len n x h
theorem OKL_iff {set : List Int} {n : Nat} : OKL g set n = true ↔ ∀ j, 1 ≤ j → j ≤ n → (LV g set j).length ≤ 4096 := okLvl_iff

theorem ext1_len (stp : List Int → UInt8 → List Int) (cs : List UInt8) (x : WS) : (ext1 stp cs x).length ≤ cs.length := List.length_filterMap_le _ _
theorem flat_len (stp : List Int → UInt8 → List Int) (cs : List UInt8) : ∀ l : List WS, (l.flatMap (ext1 stp cs)).length ≤ l.length * cs.length
  | [] => by simp
  | x :: l => by
    have h1 := flat_len stp cs l
    have h2 := ext1_len stp cs x
    rw [List.flatMap_cons, List.length_append, List.length_cons, Nat.succ_mul]
    omega

theorem one_letter {k : Nat} (h : k < letters.length) : (letters.take (k + 1)).drop k = [letters[k]] := by
  rw [List.take_add_one, List.getElem?_eq_getElem h, List.drop_left' (by rw [List.length_take]; omega)]
  rfl

theorem grow_eq (hv : VG g) (h16 : g.1 ≤ 16) {l : List WS} (hl : l.length ≤ 4096) (hs : ∀ x ∈ l, SetOk g x.2) (hw : ∀ x ∈ l, x.1.length ≤ 1000000) : m_ref11_grow g l = some (l.flatMap (ext1 (stpM g) (letters.take g.1.toNat))) := by
  have h1 := hv.l1
  obtain ⟨L, hL⟩ := Int.eq_ofNat_of_zero_le (show 0 ≤ g.1 by omega)
  have hL16 : L ≤ letters.length := by rw [letters_len]; omega
  have htn : g.1.toNat = L := by omega
  unfold m_ref11_grow
  rw [htn]
  have hb : ∀ i, ((l.take i).flatMap (ext1 (stpM g) (letters.take L))).length ≤ 65536 := fun i => by
    have h2 := flat_len (stpM g) (letters.take L) (l.take i)
    have h3 : (l.take i).length ≤ 4096 := by rw [List.length_take]; omega
    have h4 : (letters.take L).length ≤ 16 := by rw [List.length_take, letters_len]; omega
    exact Nat.le_trans h2 (Nat.le_trans (Nat.mul_le_mul h3 h4) (by decide))
  refine bindL (loop_is (fun i => ((i : Int), (l.take i).flatMap (ext1 (stpM g) (letters.take L)))) l.length (l.flatMap (ext1 (stpM g) (letters.take L))) (fun i hi => ?_) ?_ (by simp)) rfl
  · dsimp only
    rw [if_pos (lt_int hi)]
    have hsx := hs _ (List.getElem_mem hi)
    have hlx := setOk_len hv hsx
    refine bindL (loop_is (fun k => ((k : Int), (l.take i).flatMap (ext1 (stpM g) (letters.take L)) ++ ext1 (stpM g) (letters.take k) l[i])) L ((l.take i).flatMap (ext1 (stpM g) (letters.take L)) ++ ext1 (stpM g) (letters.take L) l[i]) (fun k hk => ?_) ?_ (by simp [ext1])) ?_
    · dsimp only
      have hk16 : k < letters.length := by omega
      have hk16' : k < 16 := hk16
      rw [if_pos (by omega), ix hi]
      simp only [jp, Option.bind_some, refStep_eq hv (show (l[i]).2.length ≤ 9223372036854775807 by omega), nx (by omega : L ≤ _) hk]
      have hst := stpM_eq hv hsx hk16 (by omega : (k : Int) < g.1)
      have htk := ext1_take (stp := stpM g) (cs := letters) l[i] hk16
      rw [hst] at htk
      by_cases he : stepL g (l[i]).2 (k : Int) = []
      · rw [if_neg (by rw [he]; simp)]
        rw [htk, if_pos he, List.append_nil]
      · have hpos : 0 < ((stepL g (l[i]).2 (k : Int)).length : Int) := by
          have := List.length_pos_iff.2 he
          omega
        rw [if_pos hpos]
        have e16 : ([48, 49, 50, 51, 52, 53, 54, 55, 56, 57, 97, 98, 99, 100, 101, 102] : List UInt8) = letters := rfl
        rw [e16, if_pos (by rw [letters_len]; omega)]
        simp only [Int.toNat_natCast, one_letter hk16]
        have hwl := hw _ (List.getElem_mem hi)
        have he1 := ext1_len (stpM g) (letters.take k) l[i]
        have he2 : (letters.take k).length ≤ 16 := by rw [List.length_take, letters_len]; omega
        have hbi := hb i
        rw [if_pos (by simp only [List.length_cons, List.length_nil, maxLen]; omega), if_pos (fits_le (by simp only [List.length_append, List.length_cons, List.length_nil]; omega) (by simp only [List.length_append, List.length_cons, List.length_nil]; omega))]
        rw [htk, if_neg he, List.append_assoc]
    · dsimp only
      rw [if_neg (by omega)]
    · simp only [nx (by omega : l.length ≤ _) hi]
      rw [List.take_add_one, List.getElem?_eq_getElem hi]
      simp only [Option.toList_some, List.flatMap_append, List.flatMap_cons, List.flatMap_nil, List.append_nil]
  · dsimp only
    rw [if_neg (not_lt_int _), List.take_length]

theorem LV_zero (g : Gr) (set : List Int) : (LV g set 0).length ≤ 1 := by
  unfold LV lvl; split <;> simp

theorem refwords_eq (hv : VG g) (h16 : g.1 ≤ 16) {set : List Int} (hs : SetOk g set) {n : Nat} (hn : n ≤ 4096) : m_ref11_words g set n = some (if OKL g set n = true then (LV g set n, 0) else ([], 4)) := by
  unfold m_ref11_words
  simp only [jp]
  have key : ∀ (l0 : List WS), l0 = LV g set 0 → lpO (loopW (S := List TWordEnds × Int) (X := Ou (List TWordEnds) (List TWordEnds × Int)) (fun a5 =>
      if a5.2 < (n : Int) then
        if decide (0 < ((a5.1).length : Int)) = true then
          (m_ref11_grow g a5.1).bind fun x12 => if 4096 < ((x12).length : Int) then some (Stp.exit (Ou.ret ([], 4))) else some (Stp.next (x12, IntKind.wrap .i64 (a5.2 + 1)))
        else some (Stp.exit (Ou.go a5.1))
      else if false = true then
          (m_ref11_grow g a5.1).bind fun x12 => if 4096 < ((x12).length : Int) then some (Stp.exit (Ou.ret ([], 4))) else some (Stp.next (x12, IntKind.wrap .i64 (a5.2 + 1)))
        else some (Stp.exit (Ou.go a5.1))) (l0, 0)) (fun a15 => some (a15, 0)) some = some (if OKL g set n = true then (LV g set n, 0) else ([], 4)) := by
    intro l0 hl0
    have hx : ∃ x, loopW (S := List TWordEnds × Int) (X := Ou (List TWordEnds) (List TWordEnds × Int)) (fun a5 =>
      if a5.2 < (n : Int) then
        if decide (0 < ((a5.1).length : Int)) = true then
          (m_ref11_grow g a5.1).bind fun x12 => if 4096 < ((x12).length : Int) then some (Stp.exit (Ou.ret ([], 4))) else some (Stp.next (x12, IntKind.wrap .i64 (a5.2 + 1)))
        else some (Stp.exit (Ou.go a5.1))
      else if false = true then
          (m_ref11_grow g a5.1).bind fun x12 => if 4096 < ((x12).length : Int) then some (Stp.exit (Ou.ret ([], 4))) else some (Stp.next (x12, IntKind.wrap .i64 (a5.2 + 1)))
        else some (Stp.exit (Ou.go a5.1))) (l0, 0) = some x ∧ ((x = .go (LV g set n) ∧ OKL g set n = true) ∨ (x = .ret ([], 4) ∧ ¬ OKL g set n = true)) := by
      refine loopN n (fun i s => s = (LV g set i, (i : Int)) ∧ ∀ j, 1 ≤ j → j ≤ i → (LV g set j).length ≤ 4096) ?_ ?_ 0 _ (Nat.zero_le _) ⟨by rw [hl0]; rfl, fun j h1 h2 => by omega⟩
      · rintro i s hi ⟨rfl, hj⟩
        dsimp only
        rw [if_pos (lt_int hi)]
        by_cases h0 : LV g set i = []
        · rw [if_neg (by rw [h0]; simp)]
          have hnil : ∀ j, i ≤ j → LV g set j = [] := fun j h => lvl_nil h0 h
          refine .inr ⟨_, rfl, .inl ⟨by rw [h0, hnil n (by omega)], OKL_iff.2 fun j h1 h2 => ?_⟩⟩
          by_cases h : j ≤ i
          · exact hj j h1 h
          · rw [hnil j (by omega)]; simp
        · have hpos : 0 < (LV g set i).length := List.length_pos_iff.2 h0
          rw [if_pos (decide_eq_true (by omega))]
          have hl : (LV g set i).length ≤ 4096 := by
            by_cases hi0 : i = 0
            · subst hi0; have := LV_zero g set; omega
            · exact hj i (by omega) (Nat.le_refl _)
          rw [grow_eq hv h16 hl (fun x hx => LV_set hv hs hx) (fun x hx => by rw [LV_len hx]; omega)]
          simp only [Option.bind_some]
          have e : (LV g set i).flatMap (ext1 (stpM g) (letters.take g.1.toNat)) = LV g set (i + 1) := rfl
          rw [e]
          by_cases h4 : 4096 < (LV g set (i + 1)).length
          · rw [if_pos (by omega)]
            refine .inr ⟨_, rfl, .inr ⟨rfl, fun hok => ?_⟩⟩
            have := OKL_iff.1 hok (i + 1) (by omega) (by omega)
            omega
          · rw [if_neg (by omega)]
            refine .inl ⟨_, rfl, by rw [nx (by omega : n ≤ _) hi], fun j h1 h2 => ?_⟩
            by_cases h : j ≤ i
            · exact hj j h1 h
            · have : j = i + 1 := by omega
              subst this; omega
      · rintro s ⟨rfl, hj⟩
        dsimp only
        rw [if_neg (not_lt_int _), if_neg (by simp)]
        exact ⟨_, rfl, .inl ⟨rfl, OKL_iff.2 hj⟩⟩
    obtain ⟨x, hx, ⟨rfl, hok⟩ | ⟨rfl, hok⟩⟩ := hx
    · rw [hx, if_pos hok]; rfl
    · rw [hx, if_neg hok]; rfl
  by_cases h0 : set = []
  · rw [if_neg (by rw [h0]; simp)]
    exact key [] (by unfold LV lvl; rw [if_pos h0])
  · have hpos : 0 < set.length := List.length_pos_iff.2 h0
    rw [if_pos (by omega), if_pos (fits_le (by simp) (by simp))]
    exact key _ (by unfold LV lvl; rw [if_neg h0]; rfl)

theorem texts_eq {l : List WS} (hl : l.length ≤ 1000000) : m_ref11_texts l = some (l.map Prod.fst) := by
  unfold m_ref11_texts
  refine bindL (loop_is (fun i => ((i : Int), (l.take i).map Prod.fst)) l.length (l.map Prod.fst) (fun i hi => ?_) ?_ (by simp)) rfl
  · dsimp only
    rw [if_pos (lt_int hi), ix hi]
    simp only [Option.bind_some]
    rw [if_pos (fits_le (by simp; omega) (by simp; omega)), nx (by omega : l.length ≤ _) hi, List.take_add_one, List.getElem?_eq_getElem hi, List.map_append]
    rfl
  · dsimp only
    rw [if_neg (not_lt_int _), List.take_length]

/-! ### order -/
theorem u8_irr (a : UInt8) : ¬ a < a := UInt8.lt_irrefl a
theorem app_lt {u v : List UInt8} : ∀ (w : List UInt8), u < v → w ++ u < w ++ v
  | [], h => h
  | a :: w, h => List.cons_lt_cons_iff.2 (.inr ⟨rfl, app_lt w h⟩)
theorem lt_app : ∀ {u v : List UInt8} (x y : List UInt8), u.length = v.length → u < v → u ++ x < v ++ y
  | [], [], _, _, _, h => by cases h
  | [], _ :: _, _, _, hl, _ => by cases hl
  | _ :: _, [], _, _, hl, _ => by cases hl
  | a :: u, b :: v, x, y, hl, h => by
    rcases List.cons_lt_cons_iff.1 h with h1 | ⟨h0, h1⟩
    · exact List.cons_lt_cons_iff.2 (.inl h1)
    · exact List.cons_lt_cons_iff.2 (.inr ⟨h0, lt_app x y (by simpa using hl) h1⟩)
theorem lt_irr : ∀ (u : List UInt8), ¬ u < u
  | [], h => by cases h
  | a :: u, h => by
    rcases List.cons_lt_cons_iff.1 h with h | ⟨_, h⟩
    · exact u8_irr a h
    · exact lt_irr u h
theorem bytesLess_iff : ∀ {u v : List UInt8}, Op.bytesLess u v = true ↔ u < v
  | [], [] => by simp [Op.bytesLess, lt_irr]
  | _ :: _, [] => by simp [Op.bytesLess]
  | [], _ :: _ => by simp [Op.bytesLess]
  | a :: u, b :: v => by
    rw [List.cons_lt_cons_iff, ← bytesLess_iff (u := u) (v := v)]
    simp [Op.bytesLess]

theorem lvl_asc {stp : List Int → UInt8 → List Int} {cs : List UInt8} {set : List Int} (hcs : cs.Pairwise (· < ·)) : ∀ i, (lvl stp cs set i).Pairwise (fun x y => x.1 < y.1)
  | 0 => by simp only [lvl]; split <;> simp
  | i + 1 => by
    simp only [lvl]
    rw [List.pairwise_flatMap]
    refine ⟨fun x hx => ?_, (lvl_asc hcs i).imp_of_mem fun {x y} hx hy hxy a ha b hb => ?_⟩
    · unfold ext1
      rw [List.pairwise_filterMap]
      refine hcs.imp fun {c d} hcd y hy z hz => ?_
      split at hy
      · cases hy
      · split at hz
        · cases hz
        · cases hy; cases hz
          exact app_lt _ (List.cons_lt_cons_iff.2 (.inl hcd))
    · obtain ⟨c, _, _, rfl⟩ := mem_ext1.1 ha
      obtain ⟨d, _, _, rfl⟩ := mem_ext1.1 hb
      exact lt_app _ _ (by rw [lvl_len i x hx, lvl_len i y hy]) hxy
theorem letters_asc : letters.Pairwise (· < ·) := by decide
theorem LV_asc (g : Gr) (set : List Int) (n : Nat) : ((LV g set n).map Prod.fst).Pairwise (· < ·) := by
  rw [List.pairwise_map]
  exact lvl_asc (letters_asc.sublist (List.take_sublist _ _)) n
theorem sortS_id {l : List (List UInt8)} (h : l.Pairwise (· < ·)) : sortS l = l := sortS_eq (List.Perm.refl l) (h.imp fun h => decide_eq_true (List.le_of_lt h))

/-! ### Words -/
theorem lengths_ref (g : Gr) (n : Int) : m_language_lengths g n = m_ref11_checkNumber g n := by
  unfold m_language_lengths m_ref11_checkNumber m_language_check m_ref11_check
  rw [Check_ref]

theorem checkNumber_tot (g : Gr) (n : Int) : ∃ e, m_ref11_checkNumber g n = some e ∧ (e = 0 ↔ VG g ∧ g.1 ≤ 16 ∧ 0 ≤ n ∧ n ≤ 4096) := by
  obtain ⟨e, he, hz⟩ := Check_tot g
  unfold m_ref11_checkNumber m_ref11_check
  rw [he]
  simp only [Option.bind_some, jp]
  by_cases h0 : e = 0
  · have hv := hz.1 h0
    rw [if_neg (by omega : ¬ e ≠ 0)]
    by_cases h1 : 16 < g.1
    · exact ⟨12, by simp [h1], by simp; omega⟩
    · simp only [if_neg h1, Option.bind_some, ne_eq, not_true_eq_false, if_false]
      by_cases h2 : n < 0
      · exact ⟨2, by simp [h2], by simp; omega⟩
      · by_cases h3 : 4096 < n
        · exact ⟨2, by simp [h2, h3], by simp; omega⟩
        · exact ⟨0, by simp [h2, h3], by simp [hv]; omega⟩
  · have hv : ¬ VG g := fun v => h0 (hz.2 v)
    rw [if_pos h0]
    exact ⟨1, by simp, by simp [hv]⟩

/-- the words of a length -/
noncomputable def wordsE (g : Gr) (n : Int) : List (List UInt8) := (LV g (upto g.2.1) n.toNat).map Prod.fst

theorem Words_both (g : Gr) (n : Int) : ∃ r, m_language_Words g n = some r ∧ m_ref11_Words g n = some r ∧ (r.2 = 0 → (VG g ∧ g.1 ≤ 16 ∧ 0 ≤ n ∧ n ≤ 4096 ∧ OKL g (upto g.2.1) n.toNat = true) ∧ r.1 = wordsE g n) ∧
    (VG g → g.1 ≤ 16 → 0 ≤ n → n ≤ 4096 → OKL g (upto g.2.1) n.toNat = true → r.2 = 0) := by
  obtain ⟨e, he, hz⟩ := checkNumber_tot g n
  unfold m_language_Words m_ref11_Words
  rw [lengths_ref, he]
  simp only [Option.bind_some]
  by_cases h0 : e = 0
  · obtain ⟨hv, h16, hn0, hn1⟩ := hz.1 h0
    have hs := upto_ok g
    obtain ⟨m, hm⟩ := Int.eq_ofNat_of_zero_le hn0
    have hn : ¬ e ≠ 0 := by omega
    rw [if_neg hn, if_neg hn, states_eq hv, All_eq hv]
    subst hm
    simp only [Option.bind_some, list_eq hv h16 hs, refwords_eq hv h16 hs (by omega : m ≤ 4096), Int.toNat_natCast]
    by_cases hok : OKL g (upto g.2.1) m = true
    · simp only [if_pos hok, if_true, ne_eq, not_true_eq_false, if_false]
      have hl : (LV g (upto g.2.1) m).length ≤ 4096 := by
        by_cases hm0 : m = 0
        · subst hm0; have := LV_zero g (upto g.2.1); omega
        · exact OKL_iff.1 hok m (by omega) (Nat.le_refl _)
      rw [texts_eq (by omega), sortS_id (LV_asc g _ m)]
      exact ⟨_, rfl, rfl, fun _ => ⟨⟨hv, h16, hn0, hn1, hok⟩, by simp [wordsE]⟩, fun _ _ _ _ _ => rfl⟩
    · simp only [if_neg hok, if_neg (show ¬ false = true by simp)]
      exact ⟨([], 4), rfl, (by simp), (fun h => by cases h), fun _ _ _ _ h => absurd h hok⟩
  · rw [if_pos h0, if_pos h0]
    exact ⟨_, rfl, rfl, fun h => absurd h h0, fun h1 h2 h3 h4 _ => absurd (hz.2 ⟨h1, h2, h3, h4⟩) h0⟩
end
end Go.AW

namespace Go.AW
open Go Go.Proofs
theorem ty0 : ty Try.prog 0 = some { desc := TypeDesc.tuple #[], size := 1, bytes := 0, zero := Value.tuple #[] } := by kernel_rfl
theorem ty1 : ty Try.prog 1 = some { desc := TypeDesc.func #[] #[] false, size := 1, bytes := 8, zero := Value.nilFunc } := by kernel_rfl
theorem ty2 : ty Try.prog 2 = some { desc := TypeDesc.int IntKind.i64, size := 1, bytes := 8, zero := Value.int IntKind.i64 (0) } := by kernel_rfl
theorem ty3 : ty Try.prog 3 = some { desc := TypeDesc.int IntKind.i64, size := 1, bytes := 8, zero := Value.int IntKind.i64 (0) } := by kernel_rfl
theorem ty4 : ty Try.prog 4 = some { desc := TypeDesc.bool, size := 1, bytes := 1, zero := Value.bool false } := by kernel_rfl
theorem ty5 : ty Try.prog 5 = some { desc := TypeDesc.int IntKind.u8, size := 1, bytes := 1, zero := Value.int IntKind.u8 (0) } := by kernel_rfl
theorem ty6 : ty Try.prog 6 = some { desc := TypeDesc.int IntKind.u8, size := 1, bytes := 1, zero := Value.int IntKind.u8 (0) } := by kernel_rfl
theorem ty7 : ty Try.prog 7 = some { desc := TypeDesc.struct { toList := [{ name := "x", type := 2, offset := 0, embedded := false, tag := "", pkgPath := "runtime", byteOffset := 0 }, { name := "y", type := 3, offset := 1, embedded := false, tag := "", pkgPath := "runtime", byteOffset := 8 }, { name := "signed", type := 4, offset := 2, embedded := false, tag := "", pkgPath := "runtime", byteOffset := 16 }, { name := "code", type := 6, offset := 3, embedded := false, tag := "", pkgPath := "runtime", byteOffset := 17 }] }, size := 4, bytes := 24, zero := Value.agg { toList := [Value.int IntKind.i64 (0), Value.int IntKind.i64 (0), Value.bool false, Value.int IntKind.u8 (0)] } } := by kernel_rfl
theorem ty8 : ty Try.prog 8 = some { desc := TypeDesc.struct { toList := [{ name := "x", type := 2, offset := 0, embedded := false, tag := "", pkgPath := "runtime", byteOffset := 0 }, { name := "y", type := 3, offset := 1, embedded := false, tag := "", pkgPath := "runtime", byteOffset := 8 }, { name := "signed", type := 4, offset := 2, embedded := false, tag := "", pkgPath := "runtime", byteOffset := 16 }, { name := "code", type := 6, offset := 3, embedded := false, tag := "", pkgPath := "runtime", byteOffset := 17 }] }, size := 4, bytes := 24, zero := Value.agg { toList := [Value.int IntKind.i64 (0), Value.int IntKind.i64 (0), Value.bool false, Value.int IntKind.u8 (0)] } } := by kernel_rfl
theorem ty9 : ty Try.prog 9 = some { desc := TypeDesc.string, size := 1, bytes := 16, zero := Value.string { data := #[] } } := by kernel_rfl
theorem ty10 : ty Try.prog 10 = some { desc := TypeDesc.string, size := 1, bytes := 16, zero := Value.string { data := #[] } } := by kernel_rfl
theorem ty11 : ty Try.prog 11 = some { desc := TypeDesc.string, size := 1, bytes := 16, zero := Value.string { data := #[] } } := by kernel_rfl
theorem ty12 : ty Try.prog 12 = some { desc := TypeDesc.int IntKind.u64, size := 1, bytes := 8, zero := Value.int IntKind.u64 (0) } := by kernel_rfl
theorem ty13 : ty Try.prog 13 = some { desc := TypeDesc.struct { toList := [{ name := "msg", type := 9, offset := 0, embedded := false, tag := "", pkgPath := "runtime", byteOffset := 0 }, { name := "addr", type := 12, offset := 1, embedded := false, tag := "", pkgPath := "runtime", byteOffset := 16 }] }, size := 2, bytes := 24, zero := Value.agg #[Value.string { data := #[] }, Value.int IntKind.u64 (0)] } := by kernel_rfl
theorem ty14 : ty Try.prog 14 = some { desc := TypeDesc.struct { toList := [{ name := "msg", type := 9, offset := 0, embedded := false, tag := "", pkgPath := "runtime", byteOffset := 0 }, { name := "addr", type := 12, offset := 1, embedded := false, tag := "", pkgPath := "runtime", byteOffset := 16 }] }, size := 2, bytes := 24, zero := Value.agg #[Value.string { data := #[] }, Value.int IntKind.u64 (0)] } := by kernel_rfl
theorem ty15 : ty Try.prog 15 = some { desc := TypeDesc.pointer 234, size := 1, bytes := 8, zero := Value.pointer none } := by kernel_rfl
theorem ty16 : ty Try.prog 16 = some { desc := TypeDesc.pointer 237, size := 1, bytes := 8, zero := Value.pointer none } := by kernel_rfl
theorem ty17 : ty Try.prog 17 = some { desc := TypeDesc.pointer 244, size := 1, bytes := 8, zero := Value.pointer none } := by kernel_rfl
theorem ty18 : ty Try.prog 18 = some { desc := TypeDesc.struct { toList := [{ name := "typ", type := 17, offset := 0, embedded := false, tag := "", pkgPath := "internal/runtime/maps", byteOffset := 0 }] }, size := 1, bytes := 8, zero := Value.agg #[Value.pointer none] } := by kernel_rfl
theorem ty19 : ty Try.prog 19 = some { desc := TypeDesc.struct { toList := [{ name := "typ", type := 17, offset := 0, embedded := false, tag := "", pkgPath := "internal/runtime/maps", byteOffset := 0 }] }, size := 1, bytes := 8, zero := Value.agg #[Value.pointer none] } := by kernel_rfl
theorem ty20 : ty Try.prog 20 = some { desc := TypeDesc.interface #[], size := 1, bytes := 16, zero := Value.nilIface } := by kernel_rfl
theorem ty21 : ty Try.prog 21 = some { desc := TypeDesc.int IntKind.i32, size := 1, bytes := 4, zero := Value.int IntKind.i32 (0) } := by kernel_rfl
theorem ty22 : ty Try.prog 22 = some { desc := TypeDesc.slice 66, size := 1, bytes := 24, zero := Value.slice none 0 0 } := by kernel_rfl
theorem ty23 : ty Try.prog 23 = some { desc := TypeDesc.struct { toList := [{ name := "Labels", type := 3, offset := 0, embedded := false, tag := "", pkgPath := "", byteOffset := 0 }, { name := "States", type := 3, offset := 1, embedded := false, tag := "", pkgPath := "", byteOffset := 8 }, { name := "Edges", type := 22, offset := 2, embedded := false, tag := "", pkgPath := "", byteOffset := 16 }] }, size := 3, bytes := 40, zero := Value.agg #[Value.int IntKind.i64 (0), Value.int IntKind.i64 (0), Value.slice none 0 0] } := by kernel_rfl
theorem ty24 : ty Try.prog 24 = some { desc := TypeDesc.struct { toList := [{ name := "Labels", type := 3, offset := 0, embedded := false, tag := "", pkgPath := "", byteOffset := 0 }, { name := "States", type := 3, offset := 1, embedded := false, tag := "", pkgPath := "", byteOffset := 8 }, { name := "Edges", type := 22, offset := 2, embedded := false, tag := "", pkgPath := "", byteOffset := 16 }] }, size := 3, bytes := 40, zero := Value.agg #[Value.int IntKind.i64 (0), Value.int IntKind.i64 (0), Value.slice none 0 0] } := by kernel_rfl
theorem ty25 : ty Try.prog 25 = some { desc := TypeDesc.func #[24, 3] #[4] false, size := 1, bytes := 8, zero := Value.nilFunc } := by kernel_rfl
theorem ty26 : ty Try.prog 26 = some { desc := TypeDesc.func #[] #[4] false, size := 1, bytes := 8, zero := Value.nilFunc } := by kernel_rfl
theorem ty27 : ty Try.prog 27 = some { desc := TypeDesc.int IntKind.i64, size := 1, bytes := 8, zero := Value.int IntKind.i64 (0) } := by kernel_rfl
theorem ty28 : ty Try.prog 28 = some { desc := TypeDesc.tuple #[3, 27], size := 1, bytes := 0, zero := Value.tuple #[Value.int IntKind.i64 (0), Value.int IntKind.i64 (0)] } := by kernel_rfl
theorem ty29 : ty Try.prog 29 = some { desc := TypeDesc.func #[24, 3] #[3, 27] false, size := 1, bytes := 8, zero := Value.nilFunc } := by kernel_rfl
theorem ty30 : ty Try.prog 30 = some { desc := TypeDesc.slice 9, size := 1, bytes := 24, zero := Value.slice none 0 0 } := by kernel_rfl
theorem ty31 : ty Try.prog 31 = some { desc := TypeDesc.tuple #[30, 27], size := 1, bytes := 0, zero := Value.tuple #[Value.slice none 0 0, Value.int IntKind.i64 (0)] } := by kernel_rfl
theorem ty32 : ty Try.prog 32 = some { desc := TypeDesc.func #[24, 3, 3] #[30, 27] false, size := 1, bytes := 8, zero := Value.nilFunc } := by kernel_rfl
theorem ty33 : ty Try.prog 33 = some { desc := TypeDesc.func #[30, 30] #[4] false, size := 1, bytes := 8, zero := Value.nilFunc } := by kernel_rfl
theorem ty34 : ty Try.prog 34 = some { desc := TypeDesc.func #[24, 3, 3] #[4] false, size := 1, bytes := 8, zero := Value.nilFunc } := by kernel_rfl
theorem ty35 : ty Try.prog 35 = some { desc := TypeDesc.func #[9, 9] #[3, 27] false, size := 1, bytes := 8, zero := Value.nilFunc } := by kernel_rfl
theorem ty36 : ty Try.prog 36 = some { desc := TypeDesc.func #[9, 9, 9] #[4] false, size := 1, bytes := 8, zero := Value.nilFunc } := by kernel_rfl
theorem ty37 : ty Try.prog 37 = some { desc := TypeDesc.func #[30] #[4] false, size := 1, bytes := 8, zero := Value.nilFunc } := by kernel_rfl
theorem ty38 : ty Try.prog 38 = some { desc := TypeDesc.func #[30] #[3, 27] false, size := 1, bytes := 8, zero := Value.nilFunc } := by kernel_rfl
theorem ty39 : ty Try.prog 39 = some { desc := TypeDesc.func #[30, 3, 3] #[30] false, size := 1, bytes := 8, zero := Value.nilFunc } := by kernel_rfl
theorem ty40 : ty Try.prog 40 = some { desc := TypeDesc.func #[30] #[30] false, size := 1, bytes := 8, zero := Value.nilFunc } := by kernel_rfl
theorem ty41 : ty Try.prog 41 = some { desc := TypeDesc.func #[30, 5] #[4] false, size := 1, bytes := 8, zero := Value.nilFunc } := by kernel_rfl
theorem ty42 : ty Try.prog 42 = some { desc := TypeDesc.slice 3, size := 1, bytes := 24, zero := Value.slice none 0 0 } := by kernel_rfl
theorem ty43 : ty Try.prog 43 = some { desc := TypeDesc.tuple #[42, 27], size := 1, bytes := 0, zero := Value.tuple #[Value.slice none 0 0, Value.int IntKind.i64 (0)] } := by kernel_rfl
theorem ty44 : ty Try.prog 44 = some { desc := TypeDesc.func #[30] #[42, 27] false, size := 1, bytes := 8, zero := Value.nilFunc } := by kernel_rfl
theorem ty45 : ty Try.prog 45 = some { desc := TypeDesc.tuple #[3, 3, 27], size := 1, bytes := 0, zero := Value.tuple { toList := [Value.int IntKind.i64 (0), Value.int IntKind.i64 (0), Value.int IntKind.i64 (0)] } } := by kernel_rfl
theorem ty46 : ty Try.prog 46 = some { desc := TypeDesc.func #[30, 9] #[3, 3, 27] false, size := 1, bytes := 8, zero := Value.nilFunc } := by kernel_rfl
theorem ty47 : ty Try.prog 47 = some { desc := TypeDesc.func #[42, 42] #[4] false, size := 1, bytes := 8, zero := Value.nilFunc } := by kernel_rfl
theorem ty48 : ty Try.prog 48 = some { desc := TypeDesc.func #[30, 3] #[27] false, size := 1, bytes := 8, zero := Value.nilFunc } := by kernel_rfl
theorem ty49 : ty Try.prog 49 = some { desc := TypeDesc.func #[30, 9, 3] #[4] false, size := 1, bytes := 8, zero := Value.nilFunc } := by kernel_rfl
theorem ty50 : ty Try.prog 50 = some { desc := TypeDesc.func #[24] #[27] false, size := 1, bytes := 8, zero := Value.nilFunc } := by kernel_rfl
theorem ty51 : ty Try.prog 51 = some { desc := TypeDesc.func #[24, 3] #[30, 27] false, size := 1, bytes := 8, zero := Value.nilFunc } := by kernel_rfl
theorem ty52 : ty Try.prog 52 = some { desc := TypeDesc.func #[30, 9] #[4] false, size := 1, bytes := 8, zero := Value.nilFunc } := by kernel_rfl
theorem ty53 : ty Try.prog 53 = some { desc := TypeDesc.func #[24, 5, 5] #[4] false, size := 1, bytes := 8, zero := Value.nilFunc } := by kernel_rfl
theorem ty54 : ty Try.prog 54 = some { desc := TypeDesc.func #[24] #[4] false, size := 1, bytes := 8, zero := Value.nilFunc } := by kernel_rfl
theorem ty55 : ty Try.prog 55 = some { desc := TypeDesc.func #[24] #[42] false, size := 1, bytes := 8, zero := Value.nilFunc } := by kernel_rfl
theorem ty56 : ty Try.prog 56 = some { desc := TypeDesc.func #[24, 3, 3, 3] #[30, 27] false, size := 1, bytes := 8, zero := Value.nilFunc } := by kernel_rfl
theorem ty57 : ty Try.prog 57 = some { desc := TypeDesc.func #[30] #[] false, size := 1, bytes := 8, zero := Value.nilFunc } := by kernel_rfl
theorem ty58 : ty Try.prog 58 = some { desc := TypeDesc.func #[24, 5] #[4] false, size := 1, bytes := 8, zero := Value.nilFunc } := by kernel_rfl
theorem ty59 : ty Try.prog 59 = some { desc := TypeDesc.func #[3, 9] #[27] false, size := 1, bytes := 8, zero := Value.nilFunc } := by kernel_rfl
theorem ty60 : ty Try.prog 60 = some { desc := TypeDesc.tuple #[4, 27], size := 1, bytes := 0, zero := Value.tuple #[Value.bool false, Value.int IntKind.i64 (0)] } := by kernel_rfl
theorem ty61 : ty Try.prog 61 = some { desc := TypeDesc.func #[24, 9] #[4, 27] false, size := 1, bytes := 8, zero := Value.nilFunc } := by kernel_rfl
theorem ty62 : ty Try.prog 62 = some { desc := TypeDesc.func #[24, 42, 9] #[42, 27] false, size := 1, bytes := 8, zero := Value.nilFunc } := by kernel_rfl
theorem ty63 : ty Try.prog 63 = some { desc := TypeDesc.func #[24, 9, 5, 5] #[4] false, size := 1, bytes := 8, zero := Value.nilFunc } := by kernel_rfl
theorem ty64 : ty Try.prog 64 = some { desc := TypeDesc.func #[24, 9] #[42, 27] false, size := 1, bytes := 8, zero := Value.nilFunc } := by kernel_rfl
theorem ty65 : ty Try.prog 65 = some { desc := TypeDesc.struct { toList := [{ name := "From", type := 3, offset := 0, embedded := false, tag := "", pkgPath := "", byteOffset := 0 }, { name := "Label", type := 3, offset := 1, embedded := false, tag := "", pkgPath := "", byteOffset := 8 }, { name := "To", type := 3, offset := 2, embedded := false, tag := "", pkgPath := "", byteOffset := 16 }] }, size := 3, bytes := 24, zero := Value.agg { toList := [Value.int IntKind.i64 (0), Value.int IntKind.i64 (0), Value.int IntKind.i64 (0)] } } := by kernel_rfl
theorem ty66 : ty Try.prog 66 = some { desc := TypeDesc.struct { toList := [{ name := "From", type := 3, offset := 0, embedded := false, tag := "", pkgPath := "", byteOffset := 0 }, { name := "Label", type := 3, offset := 1, embedded := false, tag := "", pkgPath := "", byteOffset := 8 }, { name := "To", type := 3, offset := 2, embedded := false, tag := "", pkgPath := "", byteOffset := 16 }] }, size := 3, bytes := 24, zero := Value.agg { toList := [Value.int IntKind.i64 (0), Value.int IntKind.i64 (0), Value.int IntKind.i64 (0)] } } := by kernel_rfl
theorem ty67 : ty Try.prog 67 = some { desc := TypeDesc.func #[9, 5] #[3] false, size := 1, bytes := 8, zero := Value.nilFunc } := by kernel_rfl
theorem ty68 : ty Try.prog 68 = some { desc := TypeDesc.func #[24, 9] #[4] false, size := 1, bytes := 8, zero := Value.nilFunc } := by kernel_rfl
theorem ty69 : ty Try.prog 69 = some { desc := TypeDesc.tuple #[9, 27], size := 1, bytes := 0, zero := Value.tuple #[Value.string { data := #[] }, Value.int IntKind.i64 (0)] } := by kernel_rfl
theorem ty70 : ty Try.prog 70 = some { desc := TypeDesc.func #[24, 9] #[9, 27] false, size := 1, bytes := 8, zero := Value.nilFunc } := by kernel_rfl
theorem ty71 : ty Try.prog 71 = some { desc := TypeDesc.func #[3, 3] #[30, 27] false, size := 1, bytes := 8, zero := Value.nilFunc } := by kernel_rfl
theorem ty72 : ty Try.prog 72 = some { desc := TypeDesc.func #[30, 3] #[4, 27] false, size := 1, bytes := 8, zero := Value.nilFunc } := by kernel_rfl
theorem ty73 : ty Try.prog 73 = some { desc := TypeDesc.struct { toList := [{ name := "Neg", type := 4, offset := 0, embedded := false, tag := "", pkgPath := "", byteOffset := 0 }, { name := "Mag", type := 9, offset := 1, embedded := false, tag := "", pkgPath := "", byteOffset := 8 }] }, size := 2, bytes := 24, zero := Value.agg #[Value.bool false, Value.string { data := #[] }] } := by kernel_rfl
theorem ty74 : ty Try.prog 74 = some { desc := TypeDesc.struct { toList := [{ name := "Neg", type := 4, offset := 0, embedded := false, tag := "", pkgPath := "", byteOffset := 0 }, { name := "Mag", type := 9, offset := 1, embedded := false, tag := "", pkgPath := "", byteOffset := 8 }] }, size := 2, bytes := 24, zero := Value.agg #[Value.bool false, Value.string { data := #[] }] } := by kernel_rfl
theorem ty75 : ty Try.prog 75 = some { desc := TypeDesc.tuple #[74, 27], size := 1, bytes := 0, zero := Value.tuple { toList := [Value.agg #[Value.bool false, Value.string { data := #[] }], Value.int IntKind.i64 (0)] } } := by kernel_rfl
theorem ty76 : ty Try.prog 76 = some { desc := TypeDesc.func #[3, 3] #[74, 27] false, size := 1, bytes := 8, zero := Value.nilFunc } := by kernel_rfl
theorem ty77 : ty Try.prog 77 = some { desc := TypeDesc.func #[3] #[74] false, size := 1, bytes := 8, zero := Value.nilFunc } := by kernel_rfl
theorem ty78 : ty Try.prog 78 = some { desc := TypeDesc.func #[9] #[30, 27] false, size := 1, bytes := 8, zero := Value.nilFunc } := by kernel_rfl
theorem ty79 : ty Try.prog 79 = some { desc := TypeDesc.func #[5, 5] #[4] false, size := 1, bytes := 8, zero := Value.nilFunc } := by kernel_rfl
theorem ty80 : ty Try.prog 80 = some { desc := TypeDesc.slice 84, size := 1, bytes := 24, zero := Value.slice none 0 0 } := by kernel_rfl
theorem ty81 : ty Try.prog 81 = some { desc := TypeDesc.struct { toList := [{ name := "Letters", type := 3, offset := 0, embedded := false, tag := "", pkgPath := "", byteOffset := 0 }, { name := "Block", type := 3, offset := 1, embedded := false, tag := "", pkgPath := "", byteOffset := 8 }, { name := "Inputs", type := 3, offset := 2, embedded := false, tag := "", pkgPath := "", byteOffset := 16 }, { name := "Rows", type := 80, offset := 3, embedded := false, tag := "", pkgPath := "", byteOffset := 24 }] }, size := 4, bytes := 48, zero := Value.agg { toList := [Value.int IntKind.i64 (0), Value.int IntKind.i64 (0), Value.int IntKind.i64 (0), Value.slice none 0 0] } } := by kernel_rfl
theorem ty82 : ty Try.prog 82 = some { desc := TypeDesc.struct { toList := [{ name := "Letters", type := 3, offset := 0, embedded := false, tag := "", pkgPath := "", byteOffset := 0 }, { name := "Block", type := 3, offset := 1, embedded := false, tag := "", pkgPath := "", byteOffset := 8 }, { name := "Inputs", type := 3, offset := 2, embedded := false, tag := "", pkgPath := "", byteOffset := 16 }, { name := "Rows", type := 80, offset := 3, embedded := false, tag := "", pkgPath := "", byteOffset := 24 }] }, size := 4, bytes := 48, zero := Value.agg { toList := [Value.int IntKind.i64 (0), Value.int IntKind.i64 (0), Value.int IntKind.i64 (0), Value.slice none 0 0] } } := by kernel_rfl
theorem ty83 : ty Try.prog 83 = some { desc := TypeDesc.func #[80, 89] #[4] false, size := 1, bytes := 8, zero := Value.nilFunc } := by kernel_rfl
theorem ty84 : ty Try.prog 84 = some { desc := TypeDesc.slice 87, size := 1, bytes := 24, zero := Value.slice none 0 0 } := by kernel_rfl
theorem ty85 : ty Try.prog 85 = some { desc := TypeDesc.func #[84, 88] #[4] false, size := 1, bytes := 8, zero := Value.nilFunc } := by kernel_rfl
theorem ty86 : ty Try.prog 86 = some { desc := TypeDesc.struct { toList := [{ name := "To", type := 3, offset := 0, embedded := false, tag := "", pkgPath := "", byteOffset := 0 }, { name := "Word", type := 9, offset := 1, embedded := false, tag := "", pkgPath := "", byteOffset := 8 }] }, size := 2, bytes := 24, zero := Value.agg #[Value.int IntKind.i64 (0), Value.string { data := #[] }] } := by kernel_rfl
theorem ty87 : ty Try.prog 87 = some { desc := TypeDesc.struct { toList := [{ name := "To", type := 3, offset := 0, embedded := false, tag := "", pkgPath := "", byteOffset := 0 }, { name := "Word", type := 9, offset := 1, embedded := false, tag := "", pkgPath := "", byteOffset := 8 }] }, size := 2, bytes := 24, zero := Value.agg #[Value.int IntKind.i64 (0), Value.string { data := #[] }] } := by kernel_rfl
theorem ty88 : ty Try.prog 88 = some { desc := TypeDesc.func #[87] #[4] false, size := 1, bytes := 8, zero := Value.nilFunc } := by kernel_rfl
theorem ty89 : ty Try.prog 89 = some { desc := TypeDesc.func #[84] #[4] false, size := 1, bytes := 8, zero := Value.nilFunc } := by kernel_rfl
theorem ty90 : ty Try.prog 90 = some { desc := TypeDesc.func #[82, 3, 3] #[3, 27] false, size := 1, bytes := 8, zero := Value.nilFunc } := by kernel_rfl
theorem ty91 : ty Try.prog 91 = some { desc := TypeDesc.func #[82] #[27] false, size := 1, bytes := 8, zero := Value.nilFunc } := by kernel_rfl
theorem ty92 : ty Try.prog 92 = some { desc := TypeDesc.func #[82, 3, 3] #[4] false, size := 1, bytes := 8, zero := Value.nilFunc } := by kernel_rfl
theorem ty93 : ty Try.prog 93 = some { desc := TypeDesc.func #[9, 9] #[3] false, size := 1, bytes := 8, zero := Value.nilFunc } := by kernel_rfl
theorem ty94 : ty Try.prog 94 = some { desc := TypeDesc.func #[30] #[27] false, size := 1, bytes := 8, zero := Value.nilFunc } := by kernel_rfl
theorem ty95 : ty Try.prog 95 = some { desc := TypeDesc.func #[30] #[3] false, size := 1, bytes := 8, zero := Value.nilFunc } := by kernel_rfl
theorem ty96 : ty Try.prog 96 = some { desc := TypeDesc.func #[122] #[] false, size := 1, bytes := 8, zero := Value.nilFunc } := by kernel_rfl
theorem ty97 : ty Try.prog 97 = some { desc := TypeDesc.func #[122] #[] false, size := 1, bytes := 8, zero := Value.nilFunc } := by kernel_rfl
theorem ty98 : ty Try.prog 98 = some { desc := TypeDesc.func #[30] #[97] false, size := 1, bytes := 8, zero := Value.nilFunc } := by kernel_rfl
theorem ty99 : ty Try.prog 99 = some { desc := TypeDesc.tuple #[3, 3], size := 1, bytes := 0, zero := Value.tuple #[Value.int IntKind.i64 (0), Value.int IntKind.i64 (0)] } := by kernel_rfl
theorem ty100 : ty Try.prog 100 = some { desc := TypeDesc.func #[30, 101] #[3, 3] false, size := 1, bytes := 8, zero := Value.nilFunc } := by kernel_rfl
theorem ty101 : ty Try.prog 101 = some { desc := TypeDesc.func #[9] #[3] false, size := 1, bytes := 8, zero := Value.nilFunc } := by kernel_rfl
theorem ty102 : ty Try.prog 102 = some { desc := TypeDesc.func #[66, 66] #[3] false, size := 1, bytes := 8, zero := Value.nilFunc } := by kernel_rfl
theorem ty103 : ty Try.prog 103 = some { desc := TypeDesc.func #[24, 3] #[27] false, size := 1, bytes := 8, zero := Value.nilFunc } := by kernel_rfl
theorem ty104 : ty Try.prog 104 = some { desc := TypeDesc.map 9 42, size := 1, bytes := 8, zero := Value.map none } := by kernel_rfl
theorem ty105 : ty Try.prog 105 = some { desc := TypeDesc.tuple #[104, 4], size := 1, bytes := 0, zero := Value.tuple #[Value.map none, Value.bool false] } := by kernel_rfl
theorem ty106 : ty Try.prog 106 = some { desc := TypeDesc.func #[24, 42, 3] #[104, 4] false, size := 1, bytes := 8, zero := Value.nilFunc } := by kernel_rfl
theorem ty107 : ty Try.prog 107 = some { desc := TypeDesc.func #[109] #[30] false, size := 1, bytes := 8, zero := Value.nilFunc } := by kernel_rfl
theorem ty108 : ty Try.prog 108 = some { desc := TypeDesc.func #[164] #[] false, size := 1, bytes := 8, zero := Value.nilFunc } := by kernel_rfl
theorem ty109 : ty Try.prog 109 = some { desc := TypeDesc.func #[164] #[] false, size := 1, bytes := 8, zero := Value.nilFunc } := by kernel_rfl
theorem ty110 : ty Try.prog 110 = some { desc := TypeDesc.func #[104] #[109] false, size := 1, bytes := 8, zero := Value.nilFunc } := by kernel_rfl
theorem ty111 : ty Try.prog 111 = some { desc := TypeDesc.func #[9, 9] #[4] false, size := 1, bytes := 8, zero := Value.nilFunc } := by kernel_rfl
theorem ty112 : ty Try.prog 112 = some { desc := TypeDesc.func #[30, 9] #[3] false, size := 1, bytes := 8, zero := Value.nilFunc } := by kernel_rfl
theorem ty113 : ty Try.prog 113 = some { desc := TypeDesc.func #[] #[24] false, size := 1, bytes := 8, zero := Value.nilFunc } := by kernel_rfl
theorem ty114 : ty Try.prog 114 = some { desc := TypeDesc.tuple #[9, 4, 27], size := 1, bytes := 0, zero := Value.tuple { toList := [Value.string { data := #[] }, Value.bool false, Value.int IntKind.i64 (0)] } } := by kernel_rfl
theorem ty115 : ty Try.prog 115 = some { desc := TypeDesc.func #[24, 3] #[9, 4, 27] false, size := 1, bytes := 8, zero := Value.nilFunc } := by kernel_rfl
theorem ty116 : ty Try.prog 116 = some { desc := TypeDesc.func #[104, 118] #[] false, size := 1, bytes := 8, zero := Value.nilFunc } := by kernel_rfl
theorem ty117 : ty Try.prog 117 = some { desc := TypeDesc.func #[42, 3] #[4] false, size := 1, bytes := 8, zero := Value.nilFunc } := by kernel_rfl
theorem ty118 : ty Try.prog 118 = some { desc := TypeDesc.func #[9, 42] #[4] false, size := 1, bytes := 8, zero := Value.nilFunc } := by kernel_rfl
theorem ty119 : ty Try.prog 119 = some { desc := TypeDesc.func #[30, 3, 3, 3] #[] false, size := 1, bytes := 8, zero := Value.nilFunc } := by kernel_rfl
theorem ty120 : ty Try.prog 120 = some { desc := TypeDesc.func #[121] #[3] false, size := 1, bytes := 8, zero := Value.nilFunc } := by kernel_rfl
theorem ty121 : ty Try.prog 121 = some { desc := TypeDesc.int IntKind.u64, size := 1, bytes := 8, zero := Value.int IntKind.u64 (0) } := by kernel_rfl
theorem ty122 : ty Try.prog 122 = some { desc := TypeDesc.func #[3] #[4] false, size := 1, bytes := 8, zero := Value.nilFunc } := by kernel_rfl
theorem ty123 : ty Try.prog 123 = some { desc := TypeDesc.func #[24, 9] #[27] false, size := 1, bytes := 8, zero := Value.nilFunc } := by kernel_rfl
theorem ty124 : ty Try.prog 124 = some { desc := TypeDesc.func #[24, 42, 9] #[42] false, size := 1, bytes := 8, zero := Value.nilFunc } := by kernel_rfl
theorem ty125 : ty Try.prog 125 = some { desc := TypeDesc.func #[42] #[42] false, size := 1, bytes := 8, zero := Value.nilFunc } := by kernel_rfl
theorem ty126 : ty Try.prog 126 = some { desc := TypeDesc.slice 127, size := 1, bytes := 24, zero := Value.slice none 0 0 } := by kernel_rfl
theorem ty127 : ty Try.prog 127 = some { desc := TypeDesc.slice 4, size := 1, bytes := 24, zero := Value.slice none 0 0 } := by kernel_rfl
theorem ty128 : ty Try.prog 128 = some { desc := TypeDesc.func #[127, 3] #[127] false, size := 1, bytes := 8, zero := Value.nilFunc } := by kernel_rfl
theorem ty129 : ty Try.prog 129 = some { desc := TypeDesc.func #[127, 4] #[4] false, size := 1, bytes := 8, zero := Value.nilFunc } := by kernel_rfl
theorem ty130 : ty Try.prog 130 = some { desc := TypeDesc.pointer 133, size := 1, bytes := 8, zero := Value.pointer none } := by kernel_rfl
theorem ty131 : ty Try.prog 131 = some { desc := TypeDesc.slice 5, size := 1, bytes := 24, zero := Value.slice none 0 0 } := by kernel_rfl
theorem ty132 : ty Try.prog 132 = some { desc := TypeDesc.struct { toList := [{ name := "addr", type := 130, offset := 0, embedded := false, tag := "", pkgPath := "strings", byteOffset := 0 }, { name := "buf", type := 131, offset := 1, embedded := false, tag := "", pkgPath := "strings", byteOffset := 8 }] }, size := 2, bytes := 32, zero := Value.agg #[Value.pointer none, Value.slice none 0 0] } := by kernel_rfl
theorem ty133 : ty Try.prog 133 = some { desc := TypeDesc.struct { toList := [{ name := "addr", type := 130, offset := 0, embedded := false, tag := "", pkgPath := "strings", byteOffset := 0 }, { name := "buf", type := 131, offset := 1, embedded := false, tag := "", pkgPath := "strings", byteOffset := 8 }] }, size := 2, bytes := 32, zero := Value.agg #[Value.pointer none, Value.slice none 0 0] } := by kernel_rfl
theorem ty134 : ty Try.prog 134 = some { desc := TypeDesc.func #[24, 42, 138] #[] false, size := 1, bytes := 8, zero := Value.nilFunc } := by kernel_rfl
theorem ty135 : ty Try.prog 135 = some { desc := TypeDesc.interface #[("Error", 139)], size := 1, bytes := 16, zero := Value.nilIface } := by kernel_rfl
theorem ty136 : ty Try.prog 136 = some { desc := TypeDesc.interface #[("Error", 139)], size := 1, bytes := 16, zero := Value.nilIface } := by kernel_rfl
theorem ty137 : ty Try.prog 137 = some { desc := TypeDesc.func #[5] #[136] false, size := 1, bytes := 8, zero := Value.nilFunc } := by kernel_rfl
theorem ty138 : ty Try.prog 138 = some { desc := TypeDesc.func #[5] #[] false, size := 1, bytes := 8, zero := Value.nilFunc } := by kernel_rfl
theorem ty139 : ty Try.prog 139 = some { desc := TypeDesc.func #[] #[9] false, size := 1, bytes := 8, zero := Value.nilFunc } := by kernel_rfl
theorem ty140 : ty Try.prog 140 = some { desc := TypeDesc.func #[3, 3] #[27] false, size := 1, bytes := 8, zero := Value.nilFunc } := by kernel_rfl
theorem ty141 : ty Try.prog 141 = some { desc := TypeDesc.func #[30] #[27] true, size := 1, bytes := 8, zero := Value.nilFunc } := by kernel_rfl
theorem ty142 : ty Try.prog 142 = some { desc := TypeDesc.func #[3, 3] #[3] false, size := 1, bytes := 8, zero := Value.nilFunc } := by kernel_rfl
theorem ty143 : ty Try.prog 143 = some { desc := TypeDesc.func #[9, 9] #[142] false, size := 1, bytes := 8, zero := Value.nilFunc } := by kernel_rfl
theorem ty144 : ty Try.prog 144 = some { desc := TypeDesc.slice 74, size := 1, bytes := 24, zero := Value.slice none 0 0 } := by kernel_rfl
theorem ty145 : ty Try.prog 145 = some { desc := TypeDesc.func #[74, 74] #[74] false, size := 1, bytes := 8, zero := Value.nilFunc } := by kernel_rfl
theorem ty146 : ty Try.prog 146 = some { desc := TypeDesc.func #[3] #[] false, size := 1, bytes := 8, zero := Value.nilFunc } := by kernel_rfl
theorem ty147 : ty Try.prog 147 = some { desc := TypeDesc.int IntKind.u64, size := 1, bytes := 8, zero := Value.int IntKind.u64 (0) } := by kernel_rfl
theorem ty148 : ty Try.prog 148 = some { desc := TypeDesc.func #[4, 151] #[74] false, size := 1, bytes := 8, zero := Value.nilFunc } := by kernel_rfl
theorem ty149 : ty Try.prog 149 = some { desc := TypeDesc.int IntKind.u32, size := 1, bytes := 4, zero := Value.int IntKind.u32 (0) } := by kernel_rfl
theorem ty150 : ty Try.prog 150 = some { desc := TypeDesc.slice 149, size := 1, bytes := 24, zero := Value.slice none 0 0 } := by kernel_rfl
theorem ty151 : ty Try.prog 151 = some { desc := TypeDesc.slice 149, size := 1, bytes := 24, zero := Value.slice none 0 0 } := by kernel_rfl
theorem ty152 : ty Try.prog 152 = some { desc := TypeDesc.map 9 4, size := 1, bytes := 8, zero := Value.map none } := by kernel_rfl
theorem ty153 : ty Try.prog 153 = some { desc := TypeDesc.func #[9, 152] #[] false, size := 1, bytes := 8, zero := Value.nilFunc } := by kernel_rfl
theorem ty154 : ty Try.prog 154 = some { desc := TypeDesc.func #[152] #[109] false, size := 1, bytes := 8, zero := Value.nilFunc } := by kernel_rfl
theorem ty155 : ty Try.prog 155 = some { desc := TypeDesc.func #[80, 89] #[3] false, size := 1, bytes := 8, zero := Value.nilFunc } := by kernel_rfl
theorem ty156 : ty Try.prog 156 = some { desc := TypeDesc.func #[84, 88] #[3] false, size := 1, bytes := 8, zero := Value.nilFunc } := by kernel_rfl
theorem ty157 : ty Try.prog 157 = some { desc := TypeDesc.slice 30, size := 1, bytes := 24, zero := Value.slice none 0 0 } := by kernel_rfl
theorem ty158 : ty Try.prog 158 = some { desc := TypeDesc.func #[3, 3, 3, 9] #[] false, size := 1, bytes := 8, zero := Value.nilFunc } := by kernel_rfl
theorem ty159 : ty Try.prog 159 = some { desc := TypeDesc.slice 42, size := 1, bytes := 24, zero := Value.slice none 0 0 } := by kernel_rfl
theorem ty160 : ty Try.prog 160 = some { desc := TypeDesc.func #[3, 3] #[159] false, size := 1, bytes := 8, zero := Value.nilFunc } := by kernel_rfl
theorem ty161 : ty Try.prog 161 = some { desc := TypeDesc.tuple #[9, 3, 27], size := 1, bytes := 0, zero := Value.tuple { toList := [Value.string { data := #[] }, Value.int IntKind.i64 (0), Value.int IntKind.i64 (0)] } } := by kernel_rfl
theorem ty162 : ty Try.prog 162 = some { desc := TypeDesc.func #[82, 3, 42] #[9, 3, 27] false, size := 1, bytes := 8, zero := Value.nilFunc } := by kernel_rfl
theorem ty163 : ty Try.prog 163 = some { desc := TypeDesc.func #[24, 42, 5] #[42] false, size := 1, bytes := 8, zero := Value.nilFunc } := by kernel_rfl
theorem ty164 : ty Try.prog 164 = some { desc := TypeDesc.func #[9] #[4] false, size := 1, bytes := 8, zero := Value.nilFunc } := by kernel_rfl
theorem ty165 : ty Try.prog 165 = some { desc := TypeDesc.func #[166] #[102] false, size := 1, bytes := 8, zero := Value.nilFunc } := by kernel_rfl
theorem ty166 : ty Try.prog 166 = some { desc := TypeDesc.func #[66] #[42] false, size := 1, bytes := 8, zero := Value.nilFunc } := by kernel_rfl
theorem ty167 : ty Try.prog 167 = some { desc := TypeDesc.func #[42, 3] #[3] false, size := 1, bytes := 8, zero := Value.nilFunc } := by kernel_rfl
theorem ty168 : ty Try.prog 168 = some { desc := TypeDesc.func #[30, 3, 3] #[] false, size := 1, bytes := 8, zero := Value.nilFunc } := by kernel_rfl
theorem ty169 : ty Try.prog 169 = some { desc := TypeDesc.int IntKind.i64, size := 1, bytes := 8, zero := Value.int IntKind.i64 (0) } := by kernel_rfl
theorem ty170 : ty Try.prog 170 = some { desc := TypeDesc.tuple #[3, 169], size := 1, bytes := 0, zero := Value.tuple #[Value.int IntKind.i64 (0), Value.int IntKind.i64 (0)] } := by kernel_rfl
theorem ty171 : ty Try.prog 171 = some { desc := TypeDesc.func #[30, 3, 3] #[3, 169] false, size := 1, bytes := 8, zero := Value.nilFunc } := by kernel_rfl
theorem ty172 : ty Try.prog 172 = some { desc := TypeDesc.func #[30, 3, 3] #[4] false, size := 1, bytes := 8, zero := Value.nilFunc } := by kernel_rfl
theorem ty173 : ty Try.prog 173 = some { desc := TypeDesc.func #[30, 3, 3, 3] #[3] false, size := 1, bytes := 8, zero := Value.nilFunc } := by kernel_rfl
theorem ty174 : ty Try.prog 174 = some { desc := TypeDesc.tuple #[3, 4], size := 1, bytes := 0, zero := Value.tuple #[Value.int IntKind.i64 (0), Value.bool false] } := by kernel_rfl
theorem ty175 : ty Try.prog 175 = some { desc := TypeDesc.func #[30, 3, 3, 3] #[3, 4] false, size := 1, bytes := 8, zero := Value.nilFunc } := by kernel_rfl
theorem ty176 : ty Try.prog 176 = some { desc := TypeDesc.func #[149] #[3] false, size := 1, bytes := 8, zero := Value.nilFunc } := by kernel_rfl
theorem ty177 : ty Try.prog 177 = some { desc := TypeDesc.func #[147] #[3] false, size := 1, bytes := 8, zero := Value.nilFunc } := by kernel_rfl
theorem ty178 : ty Try.prog 178 = some { desc := TypeDesc.tuple #[121, 121], size := 1, bytes := 0, zero := Value.tuple #[Value.int IntKind.u64 (0), Value.int IntKind.u64 (0)] } := by kernel_rfl
theorem ty179 : ty Try.prog 179 = some { desc := TypeDesc.func #[121, 121] #[121, 121] false, size := 1, bytes := 8, zero := Value.nilFunc } := by kernel_rfl
theorem ty180 : ty Try.prog 180 = some { desc := TypeDesc.func #[127, 4] #[3] false, size := 1, bytes := 8, zero := Value.nilFunc } := by kernel_rfl
theorem ty181 : ty Try.prog 181 = some { desc := TypeDesc.pointer 5, size := 1, bytes := 8, zero := Value.pointer none } := by kernel_rfl
theorem ty182 : ty Try.prog 182 = some { desc := TypeDesc.func #[9, 3] #[9] false, size := 1, bytes := 8, zero := Value.nilFunc } := by kernel_rfl
theorem ty183 : ty Try.prog 183 = some { desc := TypeDesc.pointer 3, size := 1, bytes := 8, zero := Value.pointer none } := by kernel_rfl
theorem ty184 : ty Try.prog 184 = some { desc := TypeDesc.func #[74] #[151] false, size := 1, bytes := 8, zero := Value.nilFunc } := by kernel_rfl
theorem ty185 : ty Try.prog 185 = some { desc := TypeDesc.func #[151, 151] #[151] false, size := 1, bytes := 8, zero := Value.nilFunc } := by kernel_rfl
theorem ty186 : ty Try.prog 186 = some { desc := TypeDesc.func #[151, 151] #[3] false, size := 1, bytes := 8, zero := Value.nilFunc } := by kernel_rfl
theorem ty187 : ty Try.prog 187 = some { desc := TypeDesc.func #[151] #[151] false, size := 1, bytes := 8, zero := Value.nilFunc } := by kernel_rfl
theorem ty188 : ty Try.prog 188 = some { desc := TypeDesc.func #[5] #[3] false, size := 1, bytes := 8, zero := Value.nilFunc } := by kernel_rfl
theorem ty189 : ty Try.prog 189 = some { desc := TypeDesc.slice 211, size := 1, bytes := 24, zero := Value.slice none 0 0 } := by kernel_rfl
theorem ty190 : ty Try.prog 190 = some { desc := TypeDesc.tuple #[189, 27], size := 1, bytes := 0, zero := Value.tuple #[Value.slice none 0 0, Value.int IntKind.i64 (0)] } := by kernel_rfl
theorem ty191 : ty Try.prog 191 = some { desc := TypeDesc.func #[24, 42, 3] #[189, 27] false, size := 1, bytes := 8, zero := Value.nilFunc } := by kernel_rfl
theorem ty192 : ty Try.prog 192 = some { desc := TypeDesc.func #[189] #[30] false, size := 1, bytes := 8, zero := Value.nilFunc } := by kernel_rfl
theorem ty193 : ty Try.prog 193 = some { desc := TypeDesc.func #[24, 42, 3] #[42, 27] false, size := 1, bytes := 8, zero := Value.nilFunc } := by kernel_rfl
theorem ty194 : ty Try.prog 194 = some { desc := TypeDesc.func #[30, 109] #[30] false, size := 1, bytes := 8, zero := Value.nilFunc } := by kernel_rfl
theorem ty195 : ty Try.prog 195 = some { desc := TypeDesc.func #[42, 42] #[3] false, size := 1, bytes := 8, zero := Value.nilFunc } := by kernel_rfl
theorem ty196 : ty Try.prog 196 = some { desc := TypeDesc.int IntKind.u64, size := 1, bytes := 8, zero := Value.int IntKind.u64 (0) } := by kernel_rfl
theorem ty197 : ty Try.prog 197 = some { desc := TypeDesc.func #[3] #[121] false, size := 1, bytes := 8, zero := Value.nilFunc } := by kernel_rfl
theorem ty198 : ty Try.prog 198 = some { desc := TypeDesc.func #[] #[147] false, size := 1, bytes := 8, zero := Value.nilFunc } := by kernel_rfl
theorem ty199 : ty Try.prog 199 = some { desc := TypeDesc.func #[30, 3, 183] #[3] false, size := 1, bytes := 8, zero := Value.nilFunc } := by kernel_rfl
theorem ty200 : ty Try.prog 200 = some { desc := TypeDesc.func #[30, 3, 3, 3, 183] #[3] false, size := 1, bytes := 8, zero := Value.nilFunc } := by kernel_rfl
theorem ty201 : ty Try.prog 201 = some { desc := TypeDesc.tuple #[149, 149], size := 1, bytes := 0, zero := Value.tuple #[Value.int IntKind.u32 (0), Value.int IntKind.u32 (0)] } := by kernel_rfl
theorem ty202 : ty Try.prog 202 = some { desc := TypeDesc.func #[149, 149] #[149, 149] false, size := 1, bytes := 8, zero := Value.nilFunc } := by kernel_rfl
theorem ty203 : ty Try.prog 203 = some { desc := TypeDesc.tuple #[147, 147], size := 1, bytes := 0, zero := Value.tuple #[Value.int IntKind.u64 (0), Value.int IntKind.u64 (0)] } := by kernel_rfl
theorem ty204 : ty Try.prog 204 = some { desc := TypeDesc.func #[147, 147] #[147, 147] false, size := 1, bytes := 8, zero := Value.nilFunc } := by kernel_rfl
theorem ty206 : ty Try.prog 206 = some { desc := TypeDesc.func #[205] #[205] false, size := 1, bytes := 8, zero := Value.nilFunc } := by kernel_rfl
theorem ty207 : ty Try.prog 207 = some { desc := TypeDesc.tuple #[3, 136], size := 1, bytes := 0, zero := Value.tuple #[Value.int IntKind.i64 (0), Value.nilIface] } := by kernel_rfl
theorem ty208 : ty Try.prog 208 = some { desc := TypeDesc.func #[9] #[3, 136] false, size := 1, bytes := 8, zero := Value.nilFunc } := by kernel_rfl
theorem ty209 : ty Try.prog 209 = some { desc := TypeDesc.func #[] #[3] false, size := 1, bytes := 8, zero := Value.nilFunc } := by kernel_rfl
theorem ty210 : ty Try.prog 210 = some { desc := TypeDesc.struct { toList := [{ name := "Word", type := 9, offset := 0, embedded := false, tag := "", pkgPath := "", byteOffset := 0 }, { name := "Ends", type := 42, offset := 1, embedded := false, tag := "", pkgPath := "", byteOffset := 16 }] }, size := 2, bytes := 40, zero := Value.agg #[Value.string { data := #[] }, Value.slice none 0 0] } := by kernel_rfl
theorem ty211 : ty Try.prog 211 = some { desc := TypeDesc.struct { toList := [{ name := "Word", type := 9, offset := 0, embedded := false, tag := "", pkgPath := "", byteOffset := 0 }, { name := "Ends", type := 42, offset := 1, embedded := false, tag := "", pkgPath := "", byteOffset := 16 }] }, size := 2, bytes := 40, zero := Value.agg #[Value.string { data := #[] }, Value.slice none 0 0] } := by kernel_rfl
theorem ty212 : ty Try.prog 212 = some { desc := TypeDesc.func #[24, 189] #[189] false, size := 1, bytes := 8, zero := Value.nilFunc } := by kernel_rfl
theorem ty213 : ty Try.prog 213 = some { desc := TypeDesc.func #[24, 42] #[27] false, size := 1, bytes := 8, zero := Value.nilFunc } := by kernel_rfl
theorem ty214 : ty Try.prog 214 = some { desc := TypeDesc.func #[221] #[] false, size := 1, bytes := 8, zero := Value.nilFunc } := by kernel_rfl
theorem ty215 : ty Try.prog 215 = some { desc := TypeDesc.func #[221] #[] false, size := 1, bytes := 8, zero := Value.nilFunc } := by kernel_rfl
theorem ty216 : ty Try.prog 216 = some { desc := TypeDesc.func #[24, 3] #[215] false, size := 1, bytes := 8, zero := Value.nilFunc } := by kernel_rfl
theorem ty217 : ty Try.prog 217 = some { desc := TypeDesc.func #[42] #[] false, size := 1, bytes := 8, zero := Value.nilFunc } := by kernel_rfl
theorem ty218 : ty Try.prog 218 = some { desc := TypeDesc.pointer 196, size := 1, bytes := 8, zero := Value.pointer none } := by kernel_rfl
theorem ty219 : ty Try.prog 219 = some { desc := TypeDesc.func #[30, 3, 3, 183] #[3, 3] false, size := 1, bytes := 8, zero := Value.nilFunc } := by kernel_rfl
theorem ty220 : ty Try.prog 220 = some { desc := TypeDesc.func #[24, 42, 3] #[42] false, size := 1, bytes := 8, zero := Value.nilFunc } := by kernel_rfl
theorem ty221 : ty Try.prog 221 = some { desc := TypeDesc.func #[3, 66] #[4] false, size := 1, bytes := 8, zero := Value.nilFunc } := by kernel_rfl
theorem ty222 : ty Try.prog 222 = some { desc := TypeDesc.func #[42, 3, 3, 3] #[] false, size := 1, bytes := 8, zero := Value.nilFunc } := by kernel_rfl
theorem ty223 : ty Try.prog 223 = some { desc := TypeDesc.func #[3] #[131] false, size := 1, bytes := 8, zero := Value.nilFunc } := by kernel_rfl
theorem ty224 : ty Try.prog 224 = some { desc := TypeDesc.func #[42, 3, 3] #[] false, size := 1, bytes := 8, zero := Value.nilFunc } := by kernel_rfl
theorem ty225 : ty Try.prog 225 = some { desc := TypeDesc.func #[42, 3, 3] #[3, 169] false, size := 1, bytes := 8, zero := Value.nilFunc } := by kernel_rfl
theorem ty226 : ty Try.prog 226 = some { desc := TypeDesc.func #[42, 3, 3] #[4] false, size := 1, bytes := 8, zero := Value.nilFunc } := by kernel_rfl
theorem ty227 : ty Try.prog 227 = some { desc := TypeDesc.func #[3, 3] #[4] false, size := 1, bytes := 8, zero := Value.nilFunc } := by kernel_rfl
theorem ty228 : ty Try.prog 228 = some { desc := TypeDesc.func #[42, 3, 3, 3] #[3] false, size := 1, bytes := 8, zero := Value.nilFunc } := by kernel_rfl
theorem ty229 : ty Try.prog 229 = some { desc := TypeDesc.func #[42, 3, 3, 3] #[3, 4] false, size := 1, bytes := 8, zero := Value.nilFunc } := by kernel_rfl
theorem ty230 : ty Try.prog 230 = some { desc := TypeDesc.func #[42, 3, 183] #[3] false, size := 1, bytes := 8, zero := Value.nilFunc } := by kernel_rfl
theorem ty231 : ty Try.prog 231 = some { desc := TypeDesc.func #[42, 3, 3, 3, 183] #[3] false, size := 1, bytes := 8, zero := Value.nilFunc } := by kernel_rfl
theorem ty232 : ty Try.prog 232 = some { desc := TypeDesc.func #[42, 3, 3, 183] #[3, 3] false, size := 1, bytes := 8, zero := Value.nilFunc } := by kernel_rfl
theorem ty233 : ty Try.prog 233 = some { desc := TypeDesc.struct { toList := [{ name := "_interface", type := 17, offset := 0, embedded := false, tag := "", pkgPath := "runtime", byteOffset := 0 }, { name := "concrete", type := 17, offset := 1, embedded := false, tag := "", pkgPath := "runtime", byteOffset := 8 }, { name := "asserted", type := 17, offset := 2, embedded := false, tag := "", pkgPath := "runtime", byteOffset := 16 }, { name := "missingMethod", type := 9, offset := 3, embedded := false, tag := "", pkgPath := "runtime", byteOffset := 24 }] }, size := 4, bytes := 40, zero := Value.agg { toList := [Value.pointer none, Value.pointer none, Value.pointer none, Value.string { data := #[] }] } } := by kernel_rfl
theorem ty234 : ty Try.prog 234 = some { desc := TypeDesc.struct { toList := [{ name := "_interface", type := 17, offset := 0, embedded := false, tag := "", pkgPath := "runtime", byteOffset := 0 }, { name := "concrete", type := 17, offset := 1, embedded := false, tag := "", pkgPath := "runtime", byteOffset := 8 }, { name := "asserted", type := 17, offset := 2, embedded := false, tag := "", pkgPath := "runtime", byteOffset := 16 }, { name := "missingMethod", type := 9, offset := 3, embedded := false, tag := "", pkgPath := "runtime", byteOffset := 24 }] }, size := 4, bytes := 40, zero := Value.agg { toList := [Value.pointer none, Value.pointer none, Value.pointer none, Value.string { data := #[] }] } } := by kernel_rfl
theorem ty235 : ty Try.prog 235 = some { desc := TypeDesc.array 0 16, size := 0, bytes := 0, zero := Value.agg #[] } := by kernel_rfl
theorem ty236 : ty Try.prog 236 = some { desc := TypeDesc.struct { toList := [{ name := "_", type := 235, offset := 0, embedded := false, tag := "", pkgPath := "runtime", byteOffset := 0 }] }, size := 0, bytes := 0, zero := Value.agg #[] } := by kernel_rfl
theorem ty237 : ty Try.prog 237 = some { desc := TypeDesc.struct { toList := [{ name := "_", type := 235, offset := 0, embedded := false, tag := "", pkgPath := "runtime", byteOffset := 0 }] }, size := 0, bytes := 0, zero := Value.agg #[] } := by kernel_rfl
theorem ty238 : ty Try.prog 238 = some { desc := TypeDesc.int IntKind.u8, size := 1, bytes := 1, zero := Value.int IntKind.u8 (0) } := by kernel_rfl
theorem ty239 : ty Try.prog 239 = some { desc := TypeDesc.int IntKind.u8, size := 1, bytes := 1, zero := Value.int IntKind.u8 (0) } := by kernel_rfl
theorem ty240 : ty Try.prog 240 = some { desc := TypeDesc.func #[205, 205] #[4] false, size := 1, bytes := 8, zero := Value.nilFunc } := by kernel_rfl
theorem ty241 : ty Try.prog 241 = some { desc := TypeDesc.int IntKind.i32, size := 1, bytes := 4, zero := Value.int IntKind.i32 (0) } := by kernel_rfl
theorem ty242 : ty Try.prog 242 = some { desc := TypeDesc.int IntKind.i32, size := 1, bytes := 4, zero := Value.int IntKind.i32 (0) } := by kernel_rfl
theorem ty243 : ty Try.prog 243 = some { desc := TypeDesc.struct { toList := [{ name := "Size_", type := 12, offset := 0, embedded := false, tag := "", pkgPath := "", byteOffset := 0 }, { name := "PtrBytes", type := 12, offset := 1, embedded := false, tag := "", pkgPath := "", byteOffset := 8 }, { name := "Hash", type := 149, offset := 2, embedded := false, tag := "", pkgPath := "", byteOffset := 16 }, { name := "TFlag", type := 238, offset := 3, embedded := false, tag := "", pkgPath := "", byteOffset := 20 }, { name := "Align_", type := 5, offset := 4, embedded := false, tag := "", pkgPath := "", byteOffset := 21 }, { name := "FieldAlign_", type := 5, offset := 5, embedded := false, tag := "", pkgPath := "", byteOffset := 22 }, { name := "Kind_", type := 239, offset := 6, embedded := false, tag := "", pkgPath := "", byteOffset := 23 }, { name := "Equal", type := 240, offset := 7, embedded := false, tag := "", pkgPath := "", byteOffset := 24 }, { name := "GCData", type := 181, offset := 8, embedded := false, tag := "", pkgPath := "", byteOffset := 32 }, { name := "Str", type := 241, offset := 9, embedded := false, tag := "", pkgPath := "", byteOffset := 40 }, { name := "PtrToThis", type := 242, offset := 10, embedded := false, tag := "", pkgPath := "", byteOffset := 44 }] }, size := 11, bytes := 48, zero := Value.agg { toList := [Value.int IntKind.u64 (0), Value.int IntKind.u64 (0), Value.int IntKind.u32 (0), Value.int IntKind.u8 (0), Value.int IntKind.u8 (0), Value.int IntKind.u8 (0), Value.int IntKind.u8 (0), Value.nilFunc, Value.pointer none, Value.int IntKind.i32 (0), Value.int IntKind.i32 (0)] } } := by kernel_rfl
theorem ty244 : ty Try.prog 244 = some { desc := TypeDesc.struct { toList := [{ name := "Size_", type := 12, offset := 0, embedded := false, tag := "", pkgPath := "", byteOffset := 0 }, { name := "PtrBytes", type := 12, offset := 1, embedded := false, tag := "", pkgPath := "", byteOffset := 8 }, { name := "Hash", type := 149, offset := 2, embedded := false, tag := "", pkgPath := "", byteOffset := 16 }, { name := "TFlag", type := 238, offset := 3, embedded := false, tag := "", pkgPath := "", byteOffset := 20 }, { name := "Align_", type := 5, offset := 4, embedded := false, tag := "", pkgPath := "", byteOffset := 21 }, { name := "FieldAlign_", type := 5, offset := 5, embedded := false, tag := "", pkgPath := "", byteOffset := 22 }, { name := "Kind_", type := 239, offset := 6, embedded := false, tag := "", pkgPath := "", byteOffset := 23 }, { name := "Equal", type := 240, offset := 7, embedded := false, tag := "", pkgPath := "", byteOffset := 24 }, { name := "GCData", type := 181, offset := 8, embedded := false, tag := "", pkgPath := "", byteOffset := 32 }, { name := "Str", type := 241, offset := 9, embedded := false, tag := "", pkgPath := "", byteOffset := 40 }, { name := "PtrToThis", type := 242, offset := 10, embedded := false, tag := "", pkgPath := "", byteOffset := 44 }] }, size := 11, bytes := 48, zero := Value.agg { toList := [Value.int IntKind.u64 (0), Value.int IntKind.u64 (0), Value.int IntKind.u32 (0), Value.int IntKind.u8 (0), Value.int IntKind.u8 (0), Value.int IntKind.u8 (0), Value.int IntKind.u8 (0), Value.nilFunc, Value.pointer none, Value.int IntKind.i32 (0), Value.int IntKind.i32 (0)] } } := by kernel_rfl
attribute [go_sem] ty0 ty1 ty2 ty3 ty4 ty5 ty6 ty7 ty8 ty9 ty10 ty11 ty12 ty13 ty14 ty15 ty16 ty17 ty18 ty19 ty20 ty21 ty22 ty23 ty24 ty25 ty26 ty27 ty28 ty29 ty30 ty31 ty32 ty33 ty34 ty35 ty36 ty37 ty38 ty39 ty40 ty41 ty42 ty43 ty44 ty45 ty46 ty47 ty48 ty49 ty50 ty51 ty52 ty53 ty54 ty55 ty56 ty57 ty58 ty59 ty60 ty61 ty62 ty63 ty64 ty65 ty66 ty67 ty68 ty69 ty70 ty71 ty72 ty73 ty74 ty75 ty76 ty77 ty78 ty79 ty80 ty81 ty82 ty83 ty84 ty85 ty86 ty87 ty88 ty89 ty90 ty91 ty92 ty93 ty94 ty95 ty96 ty97 ty98 ty99 ty100 ty101 ty102 ty103 ty104 ty105 ty106 ty107 ty108 ty109 ty110 ty111 ty112 ty113 ty114 ty115 ty116 ty117 ty118 ty119 ty120 ty121 ty122 ty123 ty124 ty125 ty126 ty127 ty128 ty129 ty130 ty131 ty132 ty133 ty134 ty135 ty136 ty137 ty138 ty139 ty140 ty141 ty142 ty143 ty144 ty145 ty146 ty147 ty148 ty149 ty150 ty151 ty152 ty153 ty154 ty155 ty156 ty157 ty158 ty159 ty160 ty161 ty162 ty163 ty164 ty165 ty166 ty167 ty168 ty169 ty170 ty171 ty172 ty173 ty174 ty175 ty176 ty177 ty178 ty179 ty180 ty181 ty182 ty183 ty184 ty185 ty186 ty187 ty188 ty189 ty190 ty191 ty192 ty193 ty194 ty195 ty196 ty197 ty198 ty199 ty200 ty201 ty202 ty203 ty204 ty206 ty207 ty208 ty209 ty210 ty211 ty212 ty213 ty214 ty215 ty216 ty217 ty218 ty219 ty220 ty221 ty222 ty223 ty224 ty225 ty226 ty227 ty228 ty229 ty230 ty231 ty232 ty233 ty234 ty235 ty236 ty237 ty238 ty239 ty240 ty241 ty242 ty243 ty244
theorem follows : Try.prog.follows .mixedOrders = true := by kernel_rfl
end Go.AW

namespace Go.AW
open Go Go.Proofs
theorem fo24_0 : fieldOf Try.prog 24 0 = some (0, { desc := TypeDesc.int IntKind.i64, size := 1, bytes := 8, zero := Value.int IntKind.i64 (0) }) := by kernel_rfl
theorem fo24_1 : fieldOf Try.prog 24 1 = some (1, { desc := TypeDesc.int IntKind.i64, size := 1, bytes := 8, zero := Value.int IntKind.i64 (0) }) := by kernel_rfl
theorem fo24_2 : fieldOf Try.prog 24 2 = some (2, { desc := TypeDesc.slice 66, size := 1, bytes := 24, zero := Value.slice none 0 0 }) := by kernel_rfl
theorem fo66_0 : fieldOf Try.prog 66 0 = some (0, { desc := TypeDesc.int IntKind.i64, size := 1, bytes := 8, zero := Value.int IntKind.i64 (0) }) := by kernel_rfl
theorem fo66_1 : fieldOf Try.prog 66 1 = some (1, { desc := TypeDesc.int IntKind.i64, size := 1, bytes := 8, zero := Value.int IntKind.i64 (0) }) := by kernel_rfl
theorem fo66_2 : fieldOf Try.prog 66 2 = some (2, { desc := TypeDesc.int IntKind.i64, size := 1, bytes := 8, zero := Value.int IntKind.i64 (0) }) := by kernel_rfl
theorem es22 : elemSize Try.prog 22 = some 3 := by kernel_rfl
theorem es30 : elemSize Try.prog 30 = some 1 := by kernel_rfl
theorem es42 : elemSize Try.prog 42 = some 1 := by kernel_rfl
end Go.AW



namespace Go.AW
open Go Go.Proofs

/-- the Hamming distance -/
def ham : List UInt8 → List UInt8 → Nat
  | a :: u, b :: v => (if a = b then 0 else 1) + ham u v
  | _, _ => 0

theorem ham_take : ∀ (u v : List UInt8) (i : Nat) (h : i < u.length) (h' : i < v.length), ham (u.take (i + 1)) (v.take (i + 1)) = ham (u.take i) (v.take i) + (if u[i] = v[i] then 0 else 1)
  | a :: u, b :: v, 0, _, _ => by simp [ham]
  | a :: u, b :: v, i + 1, h, h' => by
    have := ham_take u v i (by simpa using h) (by simpa using h')
    simp only [List.take_succ_cons, ham, List.getElem_cons_succ]
    omega

theorem ham_le : ∀ (u v : List UInt8), ham u v ≤ u.length
  | [], _ => Nat.zero_le _
  | a :: u, [] => Nat.zero_le _
  | a :: u, b :: v => by have := ham_le u v; simp only [ham, List.length_cons]; split <;> omega

theorem ham_take_left : ∀ (u v : List UInt8), ham u (v.take u.length) = ham u v
  | [], _ => rfl
  | a :: u, [] => rfl
  | a :: u, b :: v => by simp [ham, ham_take_left u v]

theorem w69 (u v : List UInt8) (hl : u.length ≤ v.length) : Pure Try.prog 69 [.str u, .str v] (· = .int .i64 (ham u v)) := by
  refine Pure.of_body Try.func69 rfl rfl (Nat.le_of_ble_eq_true rfl) fun hf => ?_
  have hm : u.length ≤ maxLen := hf.1
  unfold Try.f69
  dsimp only [enumS]
  refine AW.rseq (fid := 69) (mt := []) [0,1] rfl fun K hK => ?_
  simp only [go_sem, reduceIte, Nat.reduceEqDiff, Int.reduceLE]
  refine hK _ ?_
  clear hK K
  refine AW.rseq (fid := 69) (mt := []) [0,1,5] rfl fun K hK => ?_
  simp only [go_sem, reduceIte, Nat.reduceEqDiff, Int.reduceLE]
  refine hK _ ?_
  clear hK K
  refine AW.seq (AW.rseq (fid := 69) (mt := []) [0,1,5,8,9] rfl fun K hK => ?_)
  simp only [go_sem, reduceIte, Nat.reduceEqDiff, Int.reduceLE]
  refine hK _ ?_
  clear hK K
  refine AW.block (AW.loop (fun s => ∃ i : Nat, i ≤ u.length ∧ s = ⟨[(0, .str u), (1, .str v), (5, .int .i64 (ham (u.take i) (v.take i))), (8, .int .i64 u.length), (9, .int .i64 i)], []⟩)
    (fun s => match sget s.slots 9 with | some (.int _ i) => (u.length - i).toNat | _ => 0) ⟨_, AS.le_refl _, 0, Nat.zero_le _, rfl⟩ ?_)
  rintro s ⟨i, hi, rfl⟩
  refine AW.rseq (fid := 69) (mt := []) [0,1,5,8,9,10] rfl fun K hK => ?_
  simp only [go_sem, reduceIte, Nat.reduceEqDiff, Int.reduceLE]
  refine hK _ ?_
  clear hK K
  refine AW.cseq rfl (fun hc => ?_) (fun hc => ?_)
  · refine AW.skip ?_
    have hi' : i < u.length := by simpa using hc
    simp only [maxLen] at hm
    refine AW.seq (AW.block ?_)
    refine AW.rseq (fid := 69) (mt := []) [0,1,5,6,8,9] rfl fun K hK => ?_
    simp only [go_sem, reduceIte, Nat.reduceEqDiff, Int.reduceLE]
    refine hK _ ?_
    clear hK K
    have e1 : u[i]? = some u[i] := List.getElem?_eq_getElem hi'
    have e2 : v[i]? = some v[i] := List.getElem?_eq_getElem (by omega)
    refine AW.dseq (fid := 69) (mt := []) 7 [0,1,5,8,9,18] follows rfl rfl fun K hK => ?_
    dsimp only [List.take, List.drop]
    simp only [go_sem, reduceIte, Nat.reduceEqDiff, Int.reduceLE]
    simp only [Int.toNat_natCast, e1, e2]
    refine ⟨by omega, by omega, hK _ ?_⟩
    clear hK K
    refine AW.cond rfl (fun hd => ?_) (fun hd => ?_)
    · have hle := ham_le (u.take i) (v.take i)
      have hst := ham_take u v i hi' (by omega)
      simp only [List.length_take] at hle
      refine AW.region (fid := 69) (mt := []) [0,1,5,8,9] rfl fun K hK => ?_
      simp only [go_sem, reduceIte, Nat.reduceEqDiff, Int.reduceLE]
      refine hK _ ?_
      clear hK K
      refine AW.region (fid := 69) (mt := []) [0,1,5,8,9] rfl fun K hK => ?_
      simp only [go_sem, reduceIte, Nat.reduceEqDiff, Int.reduceLE]
      refine hK _ ?_
      clear hK K
      refine ⟨_, AS.le_refl _, ⟨i + 1, by omega, ?_⟩, ?_⟩
      · rw [w64 (by omega) (by omega), w64 (by omega) (by omega), hst, if_neg (by simpa using hd)]
        simp
      · simp only [sget, reduceIte, Nat.reduceEqDiff, w64 (n := (i : Int) + 1) (by omega) (by omega)]
        omega
    · have hst := ham_take u v i hi' (by omega)
      refine AW.skip ?_
      refine AW.region (fid := 69) (mt := []) [0,1,5,8,9] rfl fun K hK => ?_
      simp only [go_sem, reduceIte, Nat.reduceEqDiff, Int.reduceLE]
      refine hK _ ?_
      clear hK K
      refine ⟨_, AS.le_refl _, ⟨i + 1, by omega, ?_⟩, ?_⟩
      · rw [w64 (by omega) (by omega), hst, if_pos (by simpa using hd)]
        simp
      · simp only [sget, reduceIte, Nat.reduceEqDiff, w64 (n := (i : Int) + 1) (by omega) (by omega)]
        omega
  · refine AW.exit ?_
    have hi' : i = u.length := by have : ¬ (i < u.length) := by simpa using hc
                                  omega
    subst hi'
    rw [List.take_length, ham_take_left]
    refine AW.rseq (fid := 69) (mt := []) [4] rfl fun K hK => ?_
    simp only [go_sem, reduceIte, Nat.reduceEqDiff, Int.reduceLE]
    refine hK _ ?_
    clear hK K
    refine AW.ret ?_
    refine ⟨.inr rfl, ?_⟩
    simp only [go_sem, reduceIte, Nat.reduceEqDiff, Int.reduceLE]
    exact ⟨_, _, Conv.refl _ _, rfl, trivial, rfl⟩

end Go.AW

namespace Go.AW
open Go Go.Proofs

/-- slices.Equal of texts -/
theorem w20 (u v : List (List UInt8)) : Pure Try.prog 20 [strs u, strs v] (· = .bool (decide (u = v))) := by
  refine Pure.of_body Try.func20 rfl rfl (Nat.le_of_ble_eq_true rfl) fun hf => ?_
  have hm : u.length ≤ 9223372036854775807 := hf.1.1
  unfold Try.f20
  dsimp only [enumS, strs]
  refine AW.rseq (fid := 20) (mt := []) [0, 1] rfl fun K hK => ?_
  simp only [go_sem, reduceIte, Nat.reduceEqDiff, Int.reduceLE]
  refine hK _ ?_
  clear hK K
  refine AW.seq ?_
  refine AW.rseq (fid := 20) (mt := []) [0, 1, 10] rfl fun K hK => ?_
  simp only [go_sem, reduceIte, Nat.reduceEqDiff, Int.reduceLE]
  refine hK _ ?_
  clear hK K
  refine AW.cond rfl (fun hc => ?_) (fun hc => ?_)
  · have hne : u ≠ v := fun e => by subst e; simp at hc
    refine AW.rseq (fid := 20) (mt := []) [4] rfl fun K hK => ?_
    simp only [go_sem, reduceIte, Nat.reduceEqDiff, Int.reduceLE]
    refine hK _ ?_
    clear hK K
    refine AW.ret ⟨.inr rfl, ?_⟩
    simp only [go_sem, reduceIte, Nat.reduceEqDiff]
    exact ⟨_, _, Conv.refl _ _, by simp [hne], trivial, rfl⟩
  · have hl : u.length = v.length := nat_eq_of hc
    refine AW.skip ?_
    refine AW.seq ?_
    refine AW.rseq (fid := 20) (mt := []) [0, 1, 12, 13] rfl fun K hK => ?_
    simp only [go_sem, reduceIte, Nat.reduceEqDiff, Int.reduceLE]
    refine hK _ ?_
    clear hK K
    refine AW.block ?_
    refine AW.loopS (fun i : Nat => ⟨[(0, .sl 1 u.length (u.map .str)), (1, .sl 1 v.length (v.map .str)), (12, .int .i64 u.length), (13, .int .i64 i)], []⟩) (fun i => i ≤ u.length ∧ u.take i = v.take i) (fun i => u.length - i) 0 (AS.le_refl _) ⟨Nat.zero_le _, rfl⟩ ?_
    rintro i ⟨hi, hp⟩
    refine AW.rseq (fid := 20) (mt := []) [0, 1, 12, 13, 14] rfl fun K hK => ?_
    simp only [go_sem, reduceIte, Nat.reduceEqDiff, Int.reduceLE]
    refine hK _ ?_
    clear hK K
    refine AW.cseq rfl (fun hc => ?_) (fun hc => ?_)
    · have hi' := cnt_lt hc
      refine AW.skip ?_
      refine AW.seq (AW.block ?_)
      refine AW.rseq (fid := 20) (mt := []) [0, 1, 5, 12, 13] rfl fun K hK => ?_
      simp only [go_sem, reduceIte, Nat.reduceEqDiff, Int.reduceLE]
      refine hK _ ?_
      clear hK K
      refine AW.dseq (fid := 20) (mt := []) 9 [0, 1, 12, 13, 24] follows rfl rfl fun K hK => ?_
      dsimp only [List.take, List.drop]
      simp only [go_sem, reduceIte, Nat.reduceEqDiff, Int.reduceLE]
      simp only [strs_at hi', strs_at (hl ▸ hi')]
      refine ⟨by omega, by omega, by omega, by omega, hK _ ?_⟩
      clear hK K
      refine AW.cond rfl (fun hc => ?_) (fun hc => ?_)
      · have hne : u ≠ v := fun e => by subst e; simp at hc
        refine AW.rseq (fid := 20) (mt := []) [4] rfl fun K hK => ?_
        simp only [go_sem, reduceIte, Nat.reduceEqDiff, Int.reduceLE]
        refine hK _ ?_
        clear hK K
        refine AW.ret ⟨.inr rfl, ?_⟩
        simp only [go_sem, reduceIte, Nat.reduceEqDiff]
        exact ⟨_, _, Conv.refl _ _, by simp [hne], trivial, rfl⟩
      · have he : u[i] = v[i]'(hl ▸ hi') := by simpa using hc
        refine AW.skip ?_
        refine AW.region (fid := 20) (mt := []) [0, 1, 12, 13] rfl fun K hK => ?_
        simp only [go_sem, reduceIte, Nat.reduceEqDiff, Int.reduceLE]
        refine hK _ ?_
        clear hK K
        refine ⟨i + 1, ⟨by omega, ?_⟩, by omega, ?_⟩
        · rw [List.take_add_one, List.take_add_one, hp, List.getElem?_eq_getElem hi', List.getElem?_eq_getElem (hl ▸ hi'), he]
        · rw [cnt_next hm hi']
          exact AS.le_refl _
    · have hi' := cnt_ge hc hi
      subst hi'
      have hv : u = v := by
        have h1 := hp
        rw [List.take_length, hl, List.take_length] at h1
        exact h1
      refine AW.exit ?_
      refine AW.rseq (fid := 20) (mt := []) [4] rfl fun K hK => ?_
      simp only [go_sem, reduceIte, Nat.reduceEqDiff, Int.reduceLE]
      refine hK _ ?_
      clear hK K
      refine AW.ret ⟨.inr rfl, ?_⟩
      simp only [go_sem, reduceIte, Nat.reduceEqDiff]
      exact ⟨_, _, Conv.refl _ _, by simp [hv], trivial, rfl⟩

/-- slices.Equal of numbers -/
theorem w32 (u v : List Int) : Pure Try.prog 32 [ints u, ints v] (· = .bool (decide (u = v))) := by
  refine Pure.of_body Try.func32 rfl rfl (Nat.le_of_ble_eq_true rfl) fun hf => ?_
  have hm : u.length ≤ 9223372036854775807 := hf.1.1
  unfold Try.f32
  dsimp only [enumS, ints]
  refine AW.rseq (fid := 32) (mt := []) [0, 1] rfl fun K hK => ?_
  simp only [go_sem, reduceIte, Nat.reduceEqDiff, Int.reduceLE]
  refine hK _ ?_
  clear hK K
  refine AW.seq ?_
  refine AW.rseq (fid := 32) (mt := []) [0, 1, 10] rfl fun K hK => ?_
  simp only [go_sem, reduceIte, Nat.reduceEqDiff, Int.reduceLE]
  refine hK _ ?_
  clear hK K
  refine AW.cond rfl (fun hc => ?_) (fun hc => ?_)
  · have hne : u ≠ v := fun e => by subst e; simp at hc
    refine AW.rseq (fid := 32) (mt := []) [4] rfl fun K hK => ?_
    simp only [go_sem, reduceIte, Nat.reduceEqDiff, Int.reduceLE]
    refine hK _ ?_
    clear hK K
    refine AW.ret ⟨.inr rfl, ?_⟩
    simp only [go_sem, reduceIte, Nat.reduceEqDiff]
    exact ⟨_, _, Conv.refl _ _, by simp [hne], trivial, rfl⟩
  · have hl : u.length = v.length := nat_eq_of hc
    refine AW.skip ?_
    refine AW.seq ?_
    refine AW.rseq (fid := 32) (mt := []) [0, 1, 12, 13] rfl fun K hK => ?_
    simp only [go_sem, reduceIte, Nat.reduceEqDiff, Int.reduceLE]
    refine hK _ ?_
    clear hK K
    refine AW.block ?_
    refine AW.loopS (fun i : Nat => ⟨[(0, .sl 1 u.length (u.map (.int .i64))), (1, .sl 1 v.length (v.map (.int .i64))), (12, .int .i64 u.length), (13, .int .i64 i)], []⟩) (fun i => i ≤ u.length ∧ u.take i = v.take i) (fun i => u.length - i) 0 (AS.le_refl _) ⟨Nat.zero_le _, rfl⟩ ?_
    rintro i ⟨hi, hp⟩
    refine AW.rseq (fid := 32) (mt := []) [0, 1, 12, 13, 14] rfl fun K hK => ?_
    simp only [go_sem, reduceIte, Nat.reduceEqDiff, Int.reduceLE]
    refine hK _ ?_
    clear hK K
    refine AW.cseq rfl (fun hc => ?_) (fun hc => ?_)
    · have hi' := cnt_lt hc
      refine AW.skip ?_
      refine AW.seq (AW.block ?_)
      refine AW.rseq (fid := 32) (mt := []) [0, 1, 5, 12, 13] rfl fun K hK => ?_
      simp only [go_sem, reduceIte, Nat.reduceEqDiff, Int.reduceLE]
      refine hK _ ?_
      clear hK K
      refine AW.dseq (fid := 32) (mt := []) 9 [0, 1, 12, 13, 24] follows rfl rfl fun K hK => ?_
      dsimp only [List.take, List.drop]
      simp only [go_sem, reduceIte, Nat.reduceEqDiff, Int.reduceLE]
      simp only [ints_at hi', ints_at (hl ▸ hi'), true_and]
      refine ⟨by omega, by omega, by omega, by omega, hK _ ?_⟩
      clear hK K
      refine AW.cond rfl (fun hc => ?_) (fun hc => ?_)
      · have hne : u ≠ v := fun e => by subst e; simp at hc
        refine AW.rseq (fid := 32) (mt := []) [4] rfl fun K hK => ?_
        simp only [go_sem, reduceIte, Nat.reduceEqDiff, Int.reduceLE]
        refine hK _ ?_
        clear hK K
        refine AW.ret ⟨.inr rfl, ?_⟩
        simp only [go_sem, reduceIte, Nat.reduceEqDiff]
        exact ⟨_, _, Conv.refl _ _, by simp [hne], trivial, rfl⟩
      · have he : u[i] = v[i]'(hl ▸ hi') := by simpa using hc
        refine AW.skip ?_
        refine AW.region (fid := 32) (mt := []) [0, 1, 12, 13] rfl fun K hK => ?_
        simp only [go_sem, reduceIte, Nat.reduceEqDiff, Int.reduceLE]
        refine hK _ ?_
        clear hK K
        refine ⟨i + 1, ⟨by omega, ?_⟩, by omega, ?_⟩
        · rw [List.take_add_one, List.take_add_one, hp, List.getElem?_eq_getElem hi', List.getElem?_eq_getElem (hl ▸ hi'), he]
        · rw [cnt_next hm hi']
          exact AS.le_refl _
    · have hi' := cnt_ge hc hi
      subst hi'
      have hv : u = v := by
        have h1 := hp
        rw [List.take_length, hl, List.take_length] at h1
        exact h1
      refine AW.exit ?_
      refine AW.rseq (fid := 32) (mt := []) [4] rfl fun K hK => ?_
      simp only [go_sem, reduceIte, Nat.reduceEqDiff, Int.reduceLE]
      refine hK _ ?_
      clear hK K
      refine AW.ret ⟨.inr rfl, ?_⟩
      simp only [go_sem, reduceIte, Nat.reduceEqDiff]
      exact ⟨_, _, Conv.refl _ _, by simp [hv], trivial, rfl⟩
end Go.AW

namespace Go.AW
open Go Go.Proofs

/-- the check of a list: at most 4096 texts, of one length -/
def listedE (l : List (List UInt8)) : Int := if 4096 < l.length then 4 else if ∀ w ∈ l, w.length = (l.headD []).length then 0 else 11

def pairOf (r : Int × Int) : HV := .tup [.int .i64 r.1, .int .i64 r.2]
def hammingE (u v : List UInt8) : Int × Int := if u.length = v.length then ((ham u v : Int), 0) else (0, 11)

end Go.AW

namespace Go.AW
open Go Go.Proofs

/-- the distances of the pairs, row by row -/
def prow (l : List (List UInt8)) (i : Nat) : List Int := (List.range i).map fun k => (ham (l.getD i []) (l.getD k []) : Int)
def prows (l : List (List UInt8)) (i : Nat) : List Int := (List.range i).flatMap (prow l)
def pairsL (l : List (List UInt8)) : List Int := prows l l.length

theorem prows_succ (l : List (List UInt8)) (i : Nat) : prows l (i + 1) = prows l i ++ prow l i := by
  simp [prows, List.range_succ]
theorem getD_at {l : List (List UInt8)} {i : Nat} (h : i < l.length) : l.getD i [] = l[i] := by simp [List.getD, h]
theorem row_take (l : List (List UInt8)) {i k : Nat} (hk : k < i) : (prow l i).take (k + 1) = (prow l i).take k ++ [(ham (l.getD i []) (l.getD k []) : Int)] := by
  rw [List.take_add_one]
  simp [prow, hk]

theorem prows_split (l : List (List UInt8)) {i : Nat} : ∀ {n : Nat}, i < n → ∃ rest, prows l n = prows l i ++ (prow l i ++ rest)
  | n + 1, h => by
    rcases Nat.lt_or_ge i n with h' | h'
    · obtain ⟨rest, hr⟩ := prows_split l h'
      exact ⟨rest ++ prow l n, by rw [prows_succ, hr]; simp⟩
    · have : i = n := by omega
      subst this
      exact ⟨[], by rw [prows_succ]; simp⟩
theorem row_split (l : List (List UInt8)) {i k : Nat} (hk : k < i) : prow l i = (prow l i).take k ++ (ham (l.getD i []) (l.getD k []) : Int) :: (prow l i).drop (k + 1) := by
  have hl : k < (prow l i).length := by simpa [prow] using hk
  have : (prow l i)[k] = (ham (l.getD i []) (l.getD k []) : Int) := by simp [prow]
  rw [← this, ← List.drop_eq_getElem_cons hl, List.take_append_drop]
theorem pairs_at (l : List (List UInt8)) {i k : Nat} (hi : i < l.length) (hk : k < i) : ∃ rest, pairsL l = (prows l i ++ (prow l i).take k) ++ (ham l[i] (l[k]'(by omega)) : Int) :: rest := by
  obtain ⟨rest, hr⟩ := prows_split l hi
  refine ⟨(prow l i).drop (k + 1) ++ rest, ?_⟩
  have hx : (ham l[i] (l[k]'(by omega)) : Int) = ham (l.getD i []) (l.getD k []) := by rw [getD_at hi, getD_at (Nat.lt_trans hk hi)]
  rw [pairsL, hr, hx]
  conv => lhs; rw [row_split l hk]
  simp

theorem w123 {l : List (List UInt8)} (hm : l.length ≤ 9223372036854775807) (hlen : ∀ u ∈ l, ∀ v ∈ l, u.length = v.length) {id ver : Nat} {H : Heap} {K : HV → Heap → Prop} (J : List Int → Heap → Prop) (Stop : Heap → Prop)
    (h0 : J [] H) (hstep : ∀ pre x rest H, pairsL l = pre ++ x :: rest → J pre H → YCall Try.prog id ver [.int .i64 x] H fun r H' => ∃ b, r = .bool b ∧ (b = true → J (pre ++ [x]) H') ∧ (b = false → Stop H'))
    (hdone : ∀ H, J (pairsL l) H → K (.tup []) H) (hstop : ∀ H, Stop H → K (.tup []) H) : ACall Try.prog 123 [.yl id ver, .fptr [strs l] 0] H K := by
  refine ACall.of_body Try.func123 rfl rfl (Nat.le_of_ble_eq_true rfl) ?_
  unfold strs
  unfold Try.f123
  dsimp only [enumS]
  refine AW.rseq (fid := 123) (mt := []) [0, 1, 6, 7] rfl fun K hK => ?_
  simp only [go_sem, reduceIte, Nat.reduceEqDiff, Int.reduceLE, List.getElem?_cons_zero]
  refine hK _ ?_
  clear hK K
  refine AW.block ?_
  refine AW.loopS (fun p : Nat × Heap => ⟨[(0, .yl id ver), (1, .fptr [.sl 1 l.length (l.map .str)] 0), (6, .int .i64 l.length), (7, .int .i64 p.1)], p.2⟩)
    (fun p => p.1 ≤ l.length ∧ J (prows l p.1) p.2) (fun p => l.length - p.1) (0, H) (AS.le_refl _) ⟨Nat.zero_le _, h0⟩ ?_
  rintro ⟨i, H1⟩ ⟨hi, hj⟩
  dsimp only at hi hj ⊢
  refine AW.rseq (fid := 123) (mt := []) [0, 1, 6, 7, 8] rfl fun K hK => ?_
  simp only [go_sem, reduceIte, Nat.reduceEqDiff, Int.reduceLE]
  refine hK _ ?_
  clear hK K
  refine AW.cseq rfl (fun hc => ?_) (fun hc => ?_)
  · have hi' := cnt_lt hc
    refine AW.skip ?_
    refine AW.seq (AW.block ?_)
    refine AW.rseq (fid := 123) (mt := []) [0, 1, 3, 6, 7] rfl fun K hK => ?_
    simp only [go_sem, reduceIte, Nat.reduceEqDiff, Int.reduceLE]
    refine hK _ ?_
    clear hK K
    refine AW.rseq (fid := 123) (mt := []) [0, 1, 3, 6, 7, 10, 11] rfl fun K hK => ?_
    simp only [go_sem, reduceIte, Nat.reduceEqDiff, Int.reduceLE]
    refine hK _ ?_
    clear hK K
    refine AW.block ?_
    refine AW.loopS (fun p : Nat × Heap => ⟨[(0, .yl id ver), (1, .fptr [.sl 1 l.length (l.map .str)] 0), (6, .int .i64 l.length), (7, .int .i64 i), (3, .int .i64 i), (10, .int .i64 i), (11, .int .i64 p.1)], p.2⟩)
      (fun p => p.1 ≤ i ∧ J (prows l i ++ (prow l i).take p.1) p.2) (fun p => i - p.1) (0, H1) (AS.le_refl _) ⟨Nat.zero_le _, by simpa using hj⟩ ?_
    rintro ⟨k, H2⟩ ⟨hk, hj2⟩
    dsimp only at hk hj2 ⊢
    refine AW.rseq (fid := 123) (mt := []) [0, 1, 3, 6, 7, 10, 11, 12] rfl fun K hK => ?_
    simp only [go_sem, reduceIte, Nat.reduceEqDiff, Int.reduceLE]
    refine hK _ ?_
    clear hK K
    refine AW.cseq rfl (fun hc => ?_) (fun hc => ?_)
    · have hk' := cnt_lt hc
      refine AW.skip ?_
      refine AW.seq (AW.block ?_)
      refine AW.rseq (fid := 123) (mt := []) [0, 1, 3, 4, 6, 7, 10, 11] rfl fun K hK => ?_
      simp only [go_sem, reduceIte, Nat.reduceEqDiff, Int.reduceLE]
      refine hK _ ?_
      clear hK K
      refine AW.dseq (fid := 123) (mt := []) 10 [0, 1, 3, 6, 7, 10, 11, 25] follows rfl rfl fun K hK => ?_
      dsimp only [List.take, List.drop]
      simp only [go_sem, reduceIte, Nat.reduceEqDiff, Int.reduceLE, List.getElem?_cons_zero, strs_at hi', strs_at (Nat.lt_trans hk' hi')]
      refine ⟨by omega, by omega, by omega, by omega, _, ACallD.pure0 (w69 _ _ (by rw [hlen _ (List.getElem_mem hi') _ (List.getElem_mem (Nat.lt_trans hk' hi'))]; exact Nat.le_refl _)), ?_⟩
      obtain ⟨rest, hr⟩ := pairs_at l hi' hk'
      refine (hstep _ _ rest H2 hr hj2).mono ?_
      rintro r H3 ⟨b, rfl, h3, h4⟩
      simp only [go_sem, reduceIte, Nat.reduceEqDiff]
      refine hK _ ?_
      clear hK K
      refine AW.cond rfl (fun hc => ?_) (fun hc => ?_)
      · have hb : b = false := by simpa using hc
        refine AW.ret ⟨.inr rfl, ?_⟩
        simp only [go_sem, reduceIte, Nat.reduceEqDiff]
        exact ⟨_, _, Conv.refl _ _, hstop _ (h4 hb)⟩
      · have hb : b = true := by simpa using hc
        refine AW.skip ?_
        refine AW.region (fid := 123) (mt := []) [0, 1, 3, 6, 7, 10, 11] rfl fun K hK => ?_
        simp only [go_sem, reduceIte, Nat.reduceEqDiff, Int.reduceLE]
        refine hK _ ?_
        clear hK K
        refine ⟨(k + 1, H3), ⟨by dsimp only; omega, ?_⟩, by dsimp only; omega, ?_⟩
        · dsimp only
          rw [row_take l hk', ← List.append_assoc, getD_at hi', getD_at (Nat.lt_trans hk' hi')]
          exact h3 hb
        · dsimp only
          rw [cnt_next (by omega) hk']
          exact AS.le_refl _
    · have hk2 := cnt_ge hc hk
      subst hk2
      refine AW.exit ?_
      refine AW.region (fid := 123) (mt := []) [0, 1, 6, 7] rfl fun K hK => ?_
      simp only [go_sem, reduceIte, Nat.reduceEqDiff, Int.reduceLE]
      refine hK _ ?_
      clear hK K
      refine ⟨(k + 1, H2), ⟨by dsimp only; omega, ?_⟩, by dsimp only; omega, ?_⟩
      · dsimp only
        rw [prows_succ]
        have : (prow l k).take k = prow l k := by rw [List.take_of_length_le (by simp [prow])]
        rw [← this]
        exact hj2
      · dsimp only
        rw [cnt_next hm hi']
        exact AS.le_refl _
  · have hi2 := cnt_ge hc hi
    subst hi2
    refine AW.exit ?_
    refine ⟨.inl rfl, ?_⟩
    simp only [go_sem, reduceIte, Nat.reduceEqDiff]
    exact ⟨_, _, Conv.refl _ _, hdone _ hj⟩

end Go.AW

/- Renaming the versions of an abstract state: what an evaluation of closed code may count, and how the count is read in a run. -/
namespace Go.AW
open Go

mutual
def HV.ren (ρ : Nat → Nat) : HV → HV
  | .int k n => .int k n
  | .bool b => .bool b
  | .str l => .str l
  | .v x => .v x
  | .agg cs => .agg (renL ρ cs)
  | .tup cs => .tup (renL ρ cs)
  | .sl k n cs => .sl k n (renL ρ cs)
  | .ar id ver k off n => .ar id (ρ ver) k off n
  | .ptr id ver off => .ptr id (ρ ver) off
  | .fptr cs off => .fptr (renL ρ cs) off
  | .fn f fs cs => .fn f (renL ρ fs) (renL ρ cs)
  | .mp id ver => .mp id (ρ ver)
  | .yl id ver => .yl id (ρ ver)
  | .it id ver => .it id (ρ ver)
def renL (ρ : Nat → Nat) : List HV → List HV
  | [] => []
  | c :: cs => c.ren ρ :: renL ρ cs
end

theorem renL_map (ρ : Nat → Nat) : ∀ cs, renL ρ cs = cs.map (HV.ren ρ)
  | [] => by simp [renL]
  | c :: cs => by simp [renL, renL_map ρ cs]

def renS (ρ : Nat → Nat) : List (Nat × HV) → List (Nat × HV)
  | [] => []
  | (t, h) :: l => (t, h.ren ρ) :: renS ρ l

def renE (ρ : Nat → Nat) : List (List UInt8 × HV) → List (List UInt8 × HV)
  | [] => []
  | (t, h) :: l => (t, h.ren ρ) :: renE ρ l

def AObj.ren (ρ : Nat → Nat) : AObj → AObj
  | .arr k e cs => .arr k e (renL ρ cs)
  | .map es => .map (renE ρ es)
  | .iter mid mver seen cur => .iter mid (ρ mver) seen cur
  | .loop st pend f n snap ps assign body => .loop st pend (ρ f) n (renS ρ snap) ps assign body

def renH (ρ : Nat → Nat) : Heap → Heap
  | [] => []
  | (i, v, o) :: l => (i, ρ v, o.ren ρ) :: renH ρ l

def AS.ren (ρ : Nat → Nat) (s : AS) : AS := ⟨renS ρ s.slots, renH ρ s.heap⟩

theorem sget_ren (ρ : Nat → Nat) : ∀ (l : List (Nat × HV)) (t : Nat), sget (renS ρ l) t = (sget l t).map (HV.ren ρ)
  | [], t => rfl
  | (i, h) :: l, t => by
    simp only [renS, sget]
    split
    · rfl
    · exact sget_ren ρ l t

theorem hget_ren (ρ : Nat → Nat) : ∀ (l : Heap) (t : Nat), hget (renH ρ l) t = (hget l t).map fun x => (ρ x.1, x.2.ren ρ)
  | [], t => rfl
  | (i, v, o) :: l, t => by
    simp only [renH, hget]
    split
    · rfl
    · exact hget_ren ρ l t

theorem renS_set (ρ : Nat → Nat) : ∀ (l : List (Nat × HV)) (t : Nat) (h : HV), renS ρ (sset l t h) = sset (renS ρ l) t (h.ren ρ)
  | [], t, h => rfl
  | (i, g) :: l, t, h => by
    simp only [renS, sset]
    split
    · rfl
    · simp only [renS, renS_set ρ l t h]

theorem renH_set (ρ : Nat → Nat) : ∀ (l : Heap) (t v : Nat) (o : AObj), renH ρ (hset l t v o) = hset (renH ρ l) t (ρ v) (o.ren ρ)
  | [], t, v, o => rfl
  | (i, w, p) :: l, t, v, o => by
    simp only [renH, hset]
    split
    · rfl
    · simp only [renH, renH_set ρ l t v o]

theorem ren_put (ρ : Nat → Nat) (s : AS) (d : Option Tmp) (h : HV) : (s.put d h).ren ρ = (s.ren ρ).put d (h.ren ρ) := by
  cases d with
  | none => rfl
  | some t => simp [AS.put, AS.ren, renS_set]

theorem constHV_ren (ρ : Nat → Nat) (v : Value) : (constHV v).map (HV.ren ρ) = constHV v := by
  cases v with
  | int k n => simp only [constHV]; split <;> rfl
  | string s => simp only [constHV]; split <;> rfl
  | _ => rfl

theorem ev_ren (ρ : Nat → Nat) (s : AS) (x : Operand) : (s.ren ρ).ev x = (s.ev x).map (HV.ren ρ) := by
  cases x with
  | tmp t => exact sget_ren ρ s.slots t
  | const v => exact (constHV_ren ρ v).symm
  | global g => rfl
  | func f => rfl

theorem evL_ren (ρ : Nat → Nat) (s : AS) : ∀ xs : List Operand, xs.mapM (s.ren ρ).ev = (xs.mapM s.ev).map (renL ρ)
  | [] => rfl
  | x :: xs => by
    simp only [List.mapM_cons, Option.pure_def, Option.bind_eq_bind, ev_ren, evL_ren ρ s xs]
    cases s.ev x with
    | none => rfl
    | some h => cases xs.mapM s.ev <;> rfl

theorem cells_ren (ρ : Nat → Nat) (h : HV) : (h.ren ρ).cells? = h.cells?.map (renL ρ) := by
  cases h with
  | v x => simp only [HV.ren, HV.cells?]; split <;> rfl
  | _ => rfl

theorem renL_len (ρ : Nat → Nat) (cs : List HV) : (renL ρ cs).length = cs.length := by simp [renL_map]
theorem renL_get (ρ : Nat → Nat) (cs : List HV) (i : Nat) : (renL ρ cs)[i]? = cs[i]?.map (HV.ren ρ) := by simp [renL_map]
theorem renL_drop (ρ : Nat → Nat) (cs : List HV) (i : Nat) : renL ρ (cs.drop i) = (renL ρ cs).drop i := by simp [renL_map]
theorem renL_take (ρ : Nat → Nat) (cs : List HV) (i : Nat) : renL ρ (cs.take i) = (renL ρ cs).take i := by simp [renL_map]
theorem renL_append (ρ : Nat → Nat) (cs ds : List HV) : renL ρ (cs ++ ds) = renL ρ cs ++ renL ρ ds := by simp [renL_map]
theorem renL_set (ρ : Nat → Nat) (cs : List HV) (i : Nat) (c : HV) : renL ρ (cs.set i c) = (renL ρ cs).set i (c.ren ρ) := by simp [renL_map, List.map_set]
theorem renL_splice (ρ : Nat → Nat) (xs : List HV) (off : Nat) (cs : List HV) : renL ρ (splice xs off cs) = splice (renL ρ xs) off (renL ρ cs) := by
  match cs with
  | [] => simp [splice, renL, renL_append, renL_take, renL_drop]
  | [c] => simp [splice, renL, renL_set]
  | c :: d :: cs => simp [splice, renL, renL_append, renL_take, renL_drop, renL_len]

/-! versions below n -/
mutual
def HV.sc (n : Nat) : HV → Bool
  | .agg cs | .tup cs | .sl _ _ cs | .fptr cs _ => scL n cs
  | .ar _ ver _ _ _ | .ptr _ ver _ | .mp _ ver | .yl _ ver | .it _ ver => Nat.blt ver n
  | .fn _ fs cs => scL n fs && scL n cs
  | _ => true
def scL (n : Nat) : List HV → Bool
  | [] => true
  | c :: cs => c.sc n && scL n cs
end
def scS (n : Nat) : List (Nat × HV) → Bool
  | [] => true
  | (_, h) :: l => h.sc n && scS n l
def scE (n : Nat) : List (List UInt8 × HV) → Bool
  | [] => true
  | (_, h) :: l => h.sc n && scE n l
def AObj.sc (n : Nat) : AObj → Bool
  | .arr _ _ cs => scL n cs
  | .map es => scE n es
  | .iter _ mver _ _ => Nat.blt mver n
  | .loop _ _ f _ snap _ _ _ => Nat.blt f n && scS n snap
def scH (n : Nat) : Heap → Bool
  | [] => true
  | (i, v, o) :: l => (Nat.blt i n && Nat.blt v n) && o.sc n && scH n l
def AS.sc (n : Nat) (s : AS) : Bool := scS n s.slots && scH n s.heap

def Agree (n : Nat) (ρ ρ' : Nat → Nat) : Prop := ∀ v, v < n → ρ v = ρ' v
theorem Agree.refl (n : Nat) (ρ : Nat → Nat) : Agree n ρ ρ := fun _ _ => rfl
theorem Agree.trans {n m : Nat} {ρ ρ' ρ'' : Nat → Nat} (h : Agree n ρ ρ') (hn : n ≤ m) (h' : Agree m ρ' ρ'') : Agree n ρ ρ'' := fun v hv => (h v hv).trans (h' v (by omega))
def upd (ρ : Nat → Nat) (n v : Nat) : Nat → Nat := fun x => if x = n then v else ρ x
theorem Agree.upd (n v : Nat) (ρ : Nat → Nat) : Agree n ρ (upd ρ n v) := fun x hx => by simp only [AW.upd]; rw [if_neg (by omega)]
theorem upd_at (ρ : Nat → Nat) (n v : Nat) : upd ρ n v n = v := by simp [AW.upd]

section
variable {n m : Nat} {ρ ρ' : Nat → Nat}
theorem blt_lt {a b : Nat} (h : Nat.blt a b = true) : a < b := by simpa [Nat.blt_eq] using h

mutual
theorem HV.ren_agree (ha : Agree n ρ ρ') : ∀ h : HV, h.sc n = true → h.ren ρ = h.ren ρ'
  | .int _ _, _ => rfl
  | .bool _, _ => rfl
  | .str _, _ => rfl
  | .v _, _ => rfl
  | .agg cs, h => congrArg HV.agg (renL_agree ha cs h)
  | .tup cs, h => congrArg HV.tup (renL_agree ha cs h)
  | .sl k m cs, h => congrArg (HV.sl k m) (renL_agree ha cs h)
  | .ar id ver k off m, h => by simp only [HV.ren]; rw [ha ver (blt_lt h)]
  | .ptr id ver off, h => by simp only [HV.ren]; rw [ha ver (blt_lt h)]
  | .fptr cs off, h => congrArg (fun x => HV.fptr x off) (renL_agree ha cs h)
  | .fn f fs cs, h => by
    simp only [HV.sc, Bool.and_eq_true] at h
    simp only [HV.ren]
    rw [renL_agree ha fs h.1, renL_agree ha cs h.2]
  | .mp id ver, h => by simp only [HV.ren]; rw [ha ver (blt_lt h)]
  | .yl id ver, h => by simp only [HV.ren]; rw [ha ver (blt_lt h)]
  | .it id ver, h => by simp only [HV.ren]; rw [ha ver (blt_lt h)]
theorem renL_agree (ha : Agree n ρ ρ') : ∀ cs : List HV, scL n cs = true → renL ρ cs = renL ρ' cs
  | [], _ => rfl
  | c :: cs, h => by
    simp only [scL, Bool.and_eq_true] at h
    simp only [renL]
    rw [HV.ren_agree ha c h.1, renL_agree ha cs h.2]
end
theorem renS_agree (ha : Agree n ρ ρ') : ∀ l, scS n l = true → renS ρ l = renS ρ' l
  | [], _ => rfl
  | (_, c) :: cs, h => by
    simp only [scS, Bool.and_eq_true] at h
    simp only [renS]
    rw [HV.ren_agree ha c h.1, renS_agree ha cs h.2]
theorem renE_agree (ha : Agree n ρ ρ') : ∀ l, scE n l = true → renE ρ l = renE ρ' l
  | [], _ => rfl
  | (_, c) :: cs, h => by
    simp only [scE, Bool.and_eq_true] at h
    simp only [renE]
    rw [HV.ren_agree ha c h.1, renE_agree ha cs h.2]
theorem AObj.ren_agree (ha : Agree n ρ ρ') : ∀ o : AObj, o.sc n = true → o.ren ρ = o.ren ρ'
  | .arr k e cs, h => congrArg (AObj.arr k e) (renL_agree ha cs h)
  | .map es, h => congrArg AObj.map (renE_agree ha es h)
  | .iter mid mver seen cur, h => by simp only [AObj.ren]; rw [ha mver (blt_lt h)]
  | .loop st pend f n' snap ps a b, h => by
    simp only [AObj.sc, Bool.and_eq_true] at h
    simp only [AObj.ren]; rw [ha f (blt_lt h.1), renS_agree ha snap h.2]
theorem renH_agree (ha : Agree n ρ ρ') : ∀ l, scH n l = true → renH ρ l = renH ρ' l
  | [], _ => rfl
  | (i, v, o) :: cs, h => by
    simp only [scH, Bool.and_eq_true] at h
    simp only [renH]
    rw [ha v (blt_lt h.1.1.2), AObj.ren_agree ha o h.1.2, renH_agree ha cs h.2]
theorem AS.ren_agree (ha : Agree n ρ ρ') (s : AS) (h : s.sc n = true) : s.ren ρ = s.ren ρ' := by
  simp only [AS.sc, Bool.and_eq_true] at h
  simp only [AS.ren]
  rw [renS_agree ha _ h.1, renH_agree ha _ h.2]

theorem blt_mono {a : Nat} (hm : n ≤ m) (h : Nat.blt a n = true) : Nat.blt a m = true := by
  have := blt_lt h
  simp [Nat.blt_eq]; omega
mutual
theorem HV.sc_mono (hm : n ≤ m) : ∀ h : HV, h.sc n = true → h.sc m = true
  | .int _ _, _ => rfl
  | .bool _, _ => rfl
  | .str _, _ => rfl
  | .v _, _ => rfl
  | .agg cs, h => scL_mono hm cs h
  | .tup cs, h => scL_mono hm cs h
  | .sl k _ cs, h => scL_mono hm cs h
  | .ar id ver k off _, h => blt_mono hm h
  | .ptr id ver off, h => blt_mono hm h
  | .fptr cs off, h => scL_mono hm cs h
  | .fn f fs cs, h => by
    simp only [HV.sc, Bool.and_eq_true] at h ⊢
    exact ⟨scL_mono hm fs h.1, scL_mono hm cs h.2⟩
  | .mp id ver, h => blt_mono hm h
  | .yl id ver, h => blt_mono hm h
  | .it id ver, h => blt_mono hm h
theorem scL_mono (hm : n ≤ m) : ∀ cs : List HV, scL n cs = true → scL m cs = true
  | [], _ => rfl
  | c :: cs, h => by
    simp only [scL, Bool.and_eq_true] at h ⊢
    exact ⟨HV.sc_mono hm c h.1, scL_mono hm cs h.2⟩
end
theorem scS_mono (hm : n ≤ m) : ∀ l, scS n l = true → scS m l = true
  | [], _ => rfl
  | (_, c) :: cs, h => by
    simp only [scS, Bool.and_eq_true] at h ⊢
    exact ⟨HV.sc_mono hm c h.1, scS_mono hm cs h.2⟩
theorem scE_mono (hm : n ≤ m) : ∀ l, scE n l = true → scE m l = true
  | [], _ => rfl
  | (_, c) :: cs, h => by
    simp only [scE, Bool.and_eq_true] at h ⊢
    exact ⟨HV.sc_mono hm c h.1, scE_mono hm cs h.2⟩
theorem AObj.sc_mono (hm : n ≤ m) : ∀ o : AObj, o.sc n = true → o.sc m = true
  | .arr k e cs, h => scL_mono hm cs h
  | .map es, h => scE_mono hm es h
  | .iter mid mver seen cur, h => blt_mono hm h
  | .loop st pend f n' snap ps a b, h => by
    simp only [AObj.sc, Bool.and_eq_true] at h ⊢
    exact ⟨blt_mono hm h.1, scS_mono hm snap h.2⟩
theorem scH_mono (hm : n ≤ m) : ∀ l, scH n l = true → scH m l = true
  | [], _ => rfl
  | (i, v, o) :: cs, h => by
    simp only [scH, Bool.and_eq_true] at h ⊢
    exact ⟨⟨⟨blt_mono hm h.1.1.1, blt_mono hm h.1.1.2⟩, AObj.sc_mono hm o h.1.2⟩, scH_mono hm cs h.2⟩
theorem AS.sc_mono (hm : n ≤ m) (s : AS) (h : s.sc n = true) : s.sc m = true := by
  simp only [AS.sc, Bool.and_eq_true] at h ⊢
  exact ⟨scS_mono hm _ h.1, scH_mono hm _ h.2⟩

theorem scS_set : ∀ (l : List (Nat × HV)) (t : Nat) (h : HV), scS n l = true → h.sc n = true → scS n (sset l t h) = true
  | [], t, h, _, hh => by simp [sset, scS, hh]
  | (i, g) :: l, t, h, hl, hh => by
    simp only [scS, Bool.and_eq_true] at hl
    simp only [sset]
    split
    · simp [scS, hh, hl.2]
    · simp only [scS, Bool.and_eq_true]
      exact ⟨hl.1, scS_set l t h hl.2 hh⟩
theorem scH_set : ∀ (l : Heap) (t v : Nat) (o : AObj), scH n l = true → t < n → v < n → o.sc n = true → scH n (hset l t v o) = true
  | [], t, v, o, _, ht, hv, hh => by simp [hset, scH, hh, Nat.blt_eq, hv, ht]
  | (i, w, g) :: l, t, v, o, hl, ht, hv, hh => by
    simp only [scH, Bool.and_eq_true] at hl
    simp only [hset]
    split
    · rename_i e
      subst e
      simp [scH, hh, hl.2, Nat.blt_eq, hv, ht]
    · simp only [scH, Bool.and_eq_true]
      exact ⟨hl.1, scH_set l t v o hl.2 ht hv hh⟩
theorem sc_put {s : AS} {d : Option Tmp} {h : HV} (hs : s.sc n = true) (hh : h.sc n = true) : (s.put d h).sc n = true := by
  cases d with
  | none => exact hs
  | some t =>
    simp only [AS.sc, Bool.and_eq_true] at hs
    simp only [AS.put, AS.sc, Bool.and_eq_true]
    exact ⟨scS_set _ _ _ hs.1 hh, hs.2⟩
theorem sc_heap {s : AS} {id v : Nat} {o : AObj} (hs : s.sc n = true) (ht : id < n) (hv : v < n) (hh : o.sc n = true) : ({ s with heap := hset s.heap id v o } : AS).sc n = true := by
  simp only [AS.sc, Bool.and_eq_true] at hs ⊢
  exact ⟨hs.1, scH_set _ _ _ _ hs.2 ht hv hh⟩
theorem sc_get {l : List (Nat × HV)} {t : Nat} {h : HV} (hl : scS n l = true) (hg : sget l t = some h) : h.sc n = true := by
  induction l with
  | nil => cases hg
  | cons x l ih =>
    obtain ⟨i, g⟩ := x
    simp only [scS, Bool.and_eq_true] at hl
    simp only [sget] at hg
    split at hg
    · cases hg; exact hl.1
    · exact ih hl.2 hg
theorem sch_get {l : Heap} {id v : Nat} {o : AObj} (hl : scH n l = true) (hg : hget l id = some (v, o)) : (id < n ∧ v < n) ∧ o.sc n = true := by
  induction l with
  | nil => cases hg
  | cons x l ih =>
    obtain ⟨i, w, g⟩ := x
    simp only [scH, Bool.and_eq_true] at hl
    simp only [hget] at hg
    split at hg
    · rename_i e; subst e; cases hg; exact ⟨⟨blt_lt hl.1.1.1, blt_lt hl.1.1.2⟩, hl.1.2⟩
    · exact ih hl.2 hg
end
end Go.AW

/- The look-ups of the evaluator, by recursors: the kernel evaluates them an order of magnitude faster. -/
namespace Go.AW
open Go

noncomputable def sgetR (l : List (Nat × HV)) : Nat → Option HV :=
  List.rec (motive := fun _ => Nat → Option HV) (fun _ => none) (fun p _ ih t => Bool.rec (motive := fun _ => Option HV) (ih t) (some p.2) (Nat.beq t p.1)) l
noncomputable def ssetR (l : List (Nat × HV)) : Nat → HV → List (Nat × HV) :=
  List.rec (motive := fun _ => Nat → HV → List (Nat × HV)) (fun t v => [(t, v)]) (fun p l ih t v => Bool.rec (motive := fun _ => List (Nat × HV)) (p :: ih t v) ((p.1, v) :: l) (Nat.beq t p.1)) l
noncomputable def hgetR (l : Heap) : Nat → Option (Nat × AObj) :=
  List.rec (motive := fun _ => Nat → Option (Nat × AObj)) (fun _ => none) (fun p _ ih t => Bool.rec (motive := fun _ => Option (Nat × AObj)) (ih t) (some (p.2.1, p.2.2)) (Nat.beq t p.1)) l
noncomputable def hsetR (l : Heap) : Nat → Nat → AObj → Heap :=
  List.rec (motive := fun _ => Nat → Nat → AObj → Heap) (fun t v o => [(t, v, o)]) (fun p l ih t v o => Bool.rec (motive := fun _ => Heap) (p :: ih t v o) ((p.1, v, o) :: l) (Nat.beq t p.1)) l

theorem beq_if {α : Type} (a b : Nat) (x y : α) : Bool.rec (motive := fun _ => α) y x (Nat.beq a b) = if a = b then x else y := by
  by_cases h : a = b
  · subst h
    rw [if_pos rfl, Nat.beq_refl]
  · rw [if_neg h]
    have : Nat.beq a b = false := by
      cases hb : Nat.beq a b with
      | false => rfl
      | true => exact absurd (Nat.eq_of_beq_eq_true hb) h
    rw [this]

theorem sgetR_eq : sgetR = sget := by
  funext l
  induction l with
  | nil => rfl
  | cons p l ih =>
    funext t
    obtain ⟨i, v⟩ := p
    show Bool.rec (motive := fun _ => Option HV) (sgetR l t) (some v) (Nat.beq t i) = _
    rw [beq_if, ih]
    rfl
theorem ssetR_eq : ssetR = sset := by
  funext l
  induction l with
  | nil => rfl
  | cons p l ih =>
    funext t v
    obtain ⟨i, u⟩ := p
    show Bool.rec (motive := fun _ => List (Nat × HV)) ((i, u) :: ssetR l t v) ((i, v) :: l) (Nat.beq t i) = _
    rw [beq_if, ih]
    rfl
theorem hgetR_eq : hgetR = hget := by
  funext l
  induction l with
  | nil => rfl
  | cons p l ih =>
    funext t
    obtain ⟨i, v, o⟩ := p
    show Bool.rec (motive := fun _ => Option (Nat × AObj)) (hgetR l t) (some (v, o)) (Nat.beq t i) = _
    rw [beq_if, ih]
    rfl
theorem hsetR_eq : hsetR = hset := by
  funext l
  induction l with
  | nil => rfl
  | cons p l ih =>
    funext t v o
    obtain ⟨i, u, q⟩ := p
    show Bool.rec (motive := fun _ => Heap) ((i, u, q) :: hsetR l t v o) ((i, v, o) :: l) (Nat.beq t i) = _
    rw [beq_if, ih]
    rfl

noncomputable def AS.evR (s : AS) (x : Operand) : Option HV := match x with
  | .tmp t => sgetR s.slots t
  | .const v => constHV v
  | .global g => some (.v (.pointer (some ⟨g, 0, none⟩)))
  | .func f => some (.fn (.func f) [] [])
theorem evR_eq : AS.evR = AS.ev := by
  funext s x
  cases x with
  | tmp t => show sgetR s.slots t = sget s.slots t; rw [sgetR_eq]
  | const v => rfl
  | global g => rfl
  | func f => rfl

noncomputable def AS.putR (s : AS) (d : Option Tmp) (h : HV) : AS := match d with
  | some t => { s with slots := ssetR s.slots t h }
  | none => s
theorem putR_eq : AS.putR = AS.put := by
  funext s d h
  cases d with
  | none => rfl
  | some t => show ({ s with slots := ssetR s.slots t h } : AS) = { s with slots := sset s.slots t h }; rw [ssetR_eq]

noncomputable def aslR (s : AS) (lo : Option Operand) (d : Int) : Option Int := match lo with
  | none => some d
  | some x => match s.evR x with
    | some (.int _ n) => some n
    | _ => none
theorem aslR_eq : aslR = asl := by
  funext s lo d
  unfold aslR asl
  rw [evR_eq]
  rfl

noncomputable def apartsR (s : AS) (ps : List (Nat × Operand)) : Option (List (Nat × HV)) := ps.mapM fun p => (s.evR p.2).map fun h => (p.1, h)
theorem apartsR_eq : apartsR = aparts := by
  funext s ps
  unfold apartsR aparts
  rw [evR_eq]

/-- the slots that are kept, laid out anew -/
def keepL (l : List (Nat × HV)) : List Nat → List (Nat × HV)
  | [] => []
  | t :: ts => match sget l t with
    | some v => (t, v) :: keepL l ts
    | none => keepL l ts
noncomputable def keepK {α : Type} (l : List (Nat × HV)) (ks : List Nat) : (List (Nat × HV) → α) → α :=
  List.rec (motive := fun _ => (List (Nat × HV) → α) → α) (fun k => k []) (fun t _ ih k => match sgetR l t with
    | some v => ih (fun l' => k ((t, v) :: l'))
    | none => ih k) ks
theorem keepK_eq {α : Type} (l : List (Nat × HV)) : ∀ (ks : List Nat) (k : List (Nat × HV) → α), keepK l ks k = k (keepL l ks)
  | [], _ => rfl
  | t :: ts, k => by
    show (match sgetR l t with
      | some v => keepK l ts (fun l' => k ((t, v) :: l'))
      | none => keepK l ts k) = _
    rw [sgetR_eq]
    simp only [keepL]
    cases sget l t with
    | none => exact keepK_eq l ts k
    | some v => exact keepK_eq l ts _

theorem keepL_get {l : List (Nat × HV)} : ∀ {ks : List Nat} {t : Nat} {h : HV}, sget (keepL l ks) t = some h → sget l t = some h
  | [], _, _, h => by cases h
  | k :: ks, t, g, h => by
    simp only [keepL] at h
    cases hk : sget l k with
    | none => rw [hk] at h; exact keepL_get h
    | some v =>
      rw [hk] at h
      simp only [sget] at h
      split at h
      · rename_i e
        subst e
        rw [hk]
        exact h
      · exact keepL_get h
theorem keepL_sc {n : Nat} {l : List (Nat × HV)} (hl : scS n l = true) : ∀ ks : List Nat, scS n (keepL l ks) = true
  | [] => rfl
  | k :: ks => by
    simp only [keepL]
    cases hk : sget l k with
    | none => exact keepL_sc hl ks
    | some v =>
      simp only [scS, Bool.and_eq_true]
      exact ⟨sc_get hl hk, keepL_sc hl ks⟩
theorem keepL_le (ρ : Nat → Nat) (s : AS) (ks : List Nat) : (s.ren ρ).le ((⟨keepL s.slots ks, s.heap⟩ : AS).ren ρ) := by
  refine ⟨fun t hv h => ?_, fun _ _ h => h⟩
  simp only [AS.ren] at h ⊢
  rw [sget_ren] at h ⊢
  cases hk : sget (keepL s.slots ks) t with
  | none => rw [hk] at h; cases h
  | some v => rw [hk] at h; rw [keepL_get hk]; exact h
end Go.AW

/- The evaluation of closed code: what an operation that only computes gives (sval), and that it is what is asked (aval). -/
namespace Go.AW
open Go
set_option linter.unusedSimpArgs false

def TabOk (P : Program) (T : TypeId → Option TyI) : Prop := ∀ t x, T t = some x → ty P t = some x

def sload (T : TyI) (cs : List HV) (off : Nat) : Option HV :=
  bif aggD T.desc then (bif Nat.ble (off + T.size) cs.length then some (.agg ((cs.drop off).take T.size)) else none) else cs[off]?

theorem sload_sound {T : TyI} {cs : List HV} {off : Nat} {h : HV} (hs : sload T cs off = some h) {ρ : Nat → Nat} {R : HV → Prop} (hr : R (h.ren ρ)) : loadK T (renL ρ cs) off R := by
  unfold sload at hs
  unfold loadK
  cases ha : aggD T.desc with
  | true =>
    rw [ha] at hs
    simp only [cond_true, if_true] at hs ⊢
    by_cases hb : Nat.ble (off + T.size) cs.length = true
    · rw [hb] at hs
      cases hs
      refine ⟨by rw [renL_len]; exact Nat.le_of_ble_eq_true hb, ?_⟩
      simpa only [HV.ren, renL_take, renL_drop] using hr
    · simp [Bool.not_eq_true _ ▸ hb] at hs
  | false =>
    rw [ha] at hs
    simp only [cond_false, Bool.false_eq_true, if_false] at hs ⊢
    rw [renL_get, hs]
    exact hr

def sbin (op : BinOp) (x y : HV) : Option HV :=
  match op, x, y with
  | .add, .int k a, .int k' b => if k = k' then some (.int k (k.wrap (a + b))) else none
  | .sub, .int k a, .int k' b => if k = k' then some (.int k (k.wrap (a - b))) else none
  | .mul, .int k a, .int k' b => if k = k' then some (.int k (k.wrap (a * b))) else none
  | .quo, .int k a, .int k' b => if k = k' ∧ b ≠ 0 then some (.int k (k.wrap (a.tdiv b))) else none
  | .rem, .int k a, .int k' b => if k = k' ∧ b ≠ 0 then some (.int k (a.tmod b)) else none
  | .eql, .int k a, .int k' b => if k = k' then some (.bool (decide (a = b))) else none
  | .neq, .int k a, .int k' b => if k = k' then some (.bool (decide (a ≠ b))) else none
  | .lss, .int k a, .int k' b => if k = k' then some (.bool (decide (a < b))) else none
  | .leq, .int k a, .int k' b => if k = k' then some (.bool (decide (a ≤ b))) else none
  | .gtr, .int k a, .int k' b => if k = k' then some (.bool (decide (b < a))) else none
  | .geq, .int k a, .int k' b => if k = k' then some (.bool (decide (b ≤ a))) else none
  | .add, .str a, .str b => if a.length + b.length ≤ maxLen then some (.str (a ++ b)) else none
  | .eql, .str a, .str b => some (.bool (decide (a = b)))
  | .neq, .str a, .str b => some (.bool (decide (a ≠ b)))
  | .lss, .str a, .str b => some (.bool (Op.bytesLess a b))
  | .gtr, .str a, .str b => some (.bool (!(Op.bytesLess a b || decide (a = b))))
  | .leq, .str a, .str b => some (.bool (Op.bytesLess a b || decide (a = b)))
  | .geq, .str a, .str b => some (.bool (!(Op.bytesLess a b)))
  | _, _, _ => none

theorem sbin_sound {op : BinOp} {x y h : HV} (hs : sbin op x y = some h) {ρ : Nat → Nat} {R : HV → Prop} (hr : R (h.ren ρ)) : abin op (x.ren ρ) (y.ren ρ) R := by
  unfold sbin at hs
  split at hs <;> first
    | (cases hs; exact hr)
    | (split at hs
       · rename_i hc
         cases hs
         first
           | exact ⟨hc, hr⟩
           | exact ⟨hc.1, hc.2, hr⟩
       · cases hs)
    | cases hs

def sasl (s : AS) (lo : Option Operand) (d : Int) : Option Int := asl s lo d
theorem asl_ren (ρ : Nat → Nat) (s : AS) (lo : Option Operand) (d : Int) : asl (s.ren ρ) lo d = asl s lo d := by
  unfold asl
  cases lo with
  | none => rfl
  | some x =>
    simp only [ev_ren]
    cases s.ev x with
    | none => rfl
    | some h => cases h <;> rfl

def sElem (T : TypeId → Option TyI) (t : TypeId) : Option Nat :=
  match T t with
  | some ⟨.slice e, _, _, _⟩ => (T e).map (·.size)
  | some ⟨.array _ e, _, _, _⟩ => (T e).map (·.size)
  | _ => none

def sField (T : TypeId → Option TyI) (S : TypeId) (f : Nat) : Option (Nat × TyI) :=
  match T S with
  | some ⟨.struct fs, _, _, _⟩ => match fs[f]? with
    | some fd => match T fd.type with
      | some U => if U.size = 0 then none else some (fd.offset, U)
      | none => none
    | none => none
  | _ => none

section
variable {P : Program} {T : TypeId → Option TyI}

theorem sElem_sound (hT : TabOk P T) {t : TypeId} {k : Nat} (h : sElem T t = some k) : elemSize P t = some k := by
  unfold sElem at h
  split at h
  · rename_i e _ _ _ ht
    obtain ⟨U, hU, rfl⟩ := Option.map_eq_some_iff.1 h
    simp [elemSize, hT _ _ ht, hT _ _ hU]
  · rename_i n e _ _ _ ht
    obtain ⟨U, hU, rfl⟩ := Option.map_eq_some_iff.1 h
    simp [elemSize, hT _ _ ht, hT _ _ hU]
  · cases h

theorem sField_sound (hT : TabOk P T) {S : TypeId} {f : Nat} {r : Nat × TyI} (h : sField T S f = some r) : fieldOf P S f = some r := by
  unfold sField at h
  split at h
  · rename_i fs _ _ _ ht
    split at h
    · rename_i fd hfd
      split at h
      · rename_i U hU
        split at h
        · cases h
        · rename_i h0
          cases h
          simp [fieldOf, hT _ _ ht, hfd, hT _ _ hU, h0]
      · cases h
    · cases h
  · cases h
end

noncomputable def aliveB (H : Heap) (id ver : Nat) : Bool := match hgetR H id with
  | some (v, _) => Nat.beq v ver
  | none => false

theorem aliveB_sound {H : Heap} {id ver : Nat} {ρ : Nat → Nat} (h : aliveB H id ver = true) : alive (renH ρ H) id (ρ ver) := by
  unfold aliveB at h
  rw [hgetR_eq] at h
  unfold alive
  rw [hget_ren]
  cases hg : hget H id with
  | none => rw [hg] at h; cases h
  | some x =>
    obtain ⟨v, o⟩ := x
    rw [hg] at h
    have : v = ver := Nat.eq_of_beq_eq_true h
    simp [this]

def guardO {α : Type} (c : Bool) (x : Option α) : Option α := match c with
  | true => x
  | false => none
theorem guardO_some {α : Type} {c : Bool} {x : Option α} {y : α} (h : guardO c x = some y) : c = true ∧ x = some y := by
  cases c with
  | true => exact ⟨rfl, h⟩
  | false => cases h

def sbinT (T : TypeId → Option TyI) (op : BinOp) (tx : TypeId) (x y : HV) : Option HV :=
  match x, y with
  | .bool a, .bool b => match op, T tx with
    | .eql, some ⟨.bool, _, _, _⟩ => some (.bool (a == b))
    | .neq, some ⟨.bool, _, _, _⟩ => some (.bool (!(a == b)))
    | _, _ => none
  | _, _ => sbin op x y

theorem sbinT_sound {P : Program} {T : TypeId → Option TyI} (hT : TabOk P T) {op : BinOp} {tx : TypeId} {x y h : HV} (hs : sbinT T op tx x y = some h) {ρ : Nat → Nat} {R : HV → Prop} (hr : R (h.ren ρ)) : abinT P op tx (x.ren ρ) (y.ren ρ) R := by
  unfold sbinT at hs
  split at hs
  · split at hs
    · rename_i hU
      cases hs
      simp only [HV.ren, abinT, hT _ _ hU]
      exact hr
    · rename_i hU
      cases hs
      simp only [HV.ren, abinT, hT _ _ hU]
      exact hr
    · cases hs
  · rename_i hno
    have := sbin_sound hs hr
    unfold abinT
    split
    · rename_i e1 e2
      exfalso
      cases x with
      | bool a => cases y with
        | bool b => exact hno _ _ rfl rfl
        | _ => cases e2
      | _ => cases e1
    · exact this

noncomputable def svPick (s : AS) (c a b : Operand) : Option HV := match s.evR c, s.evR a, s.evR b with
    | some (.bool true), some h, some _ => some h
    | some (.bool false), some _, some h => some h
    | _, _, _ => none
noncomputable def svLoad (T : TypeId → Option TyI) (s : AS) (t : TypeId) (a : Operand) : Option HV := match T t, s.evR a with
    | some U, some (.fptr cs off) => sload U cs off
    | some U, some (.ptr id ver off) => match hgetR s.heap id with
      | some (ver', .arr _ _ cs) => guardO (Nat.beq ver ver') (sload U cs off)
      | _ => none
    | _, _ => none
noncomputable def svNil (s : AS) (x : Operand) : Option HV := match s.evR x with
    | some (.ptr id ver off) => guardO (aliveB s.heap id ver) (some (.ptr id ver off))
    | some (.fptr cs off) => some (.fptr cs off)
    | _ => none
noncomputable def svBin (T : TypeId → Option TyI) (s : AS) (op : BinOp) (tx : TypeId) (x y : Operand) : Option HV := match s.evR x, s.evR y with
    | some h, some g => sbinT T op tx h g
    | _, _ => none
noncomputable def svUn (s : AS) (op : UnOp) (x : Operand) : Option HV := match op, s.evR x with
    | .not, some (.bool b) => some (.bool (!b))
    | .neg, some (.int k n) => some (.int k (k.wrap (0 - n)))
    | _, _ => none
noncomputable def svConv (T : TypeId → Option TyI) (s : AS) (src dst : TypeId) (x : Operand) : Option HV := match T src, T dst, s.evR x with
    | some _, some ⟨.int k, _, _, _⟩, some (.int _ n) => some (.int k (k.wrap n))
    | some _, some ⟨.string, _, _, _⟩, some (.int _ n) => some (.str (Utf8.encode n).data.toList)
    | some _, some ⟨.string, _, _, _⟩, some (.str l) => some (.str l)
    | _, _, _ => none
noncomputable def svFunc (s : AS) (fn : Fn) (first caps : Array Operand) : Option HV := match first.toList.mapM s.evR, caps.toList.mapM s.evR with
    | some fs, some cs => some (.fn fn fs cs)
    | _, _ => none
noncomputable def svFieldAddr (T : TypeId → Option TyI) (s : AS) (S : TypeId) (x : Operand) (f : Nat) : Option HV := match sField T S f, s.evR x with
    | some (o, _), some (.ptr id ver off) => guardO (aliveB s.heap id ver) (some (.ptr id ver (off + o)))
    | some (o, _), some (.fptr cs off) => some (.fptr cs (off + o))
    | _, _ => none
noncomputable def svField (T : TypeId → Option TyI) (s : AS) (S : TypeId) (x : Operand) (f : Nat) : Option HV := match sField T S f, s.evR x with
    | some (o, U), some (.agg cs) => sload U cs o
    | _, _ => none
noncomputable def svIndexAddr (T : TypeId → Option TyI) (s : AS) (t : TypeId) (x i : Operand) : Option HV := match T t, sElem T t, s.evR x, s.evR i with
    | some ⟨.slice _, _, _, _⟩, some k', some (.sl k n cs), some (.int _ j) => guardO (decide (k = k' ∧ 0 ≤ j ∧ j < n)) (some (.fptr cs (j.toNat * k)))
    | some ⟨.slice _, _, _, _⟩, some k', some (.ar id ver k off n), some (.int _ j) => guardO (decide (k = k' ∧ 0 ≤ j ∧ j < n)) (guardO (aliveB s.heap id ver) (some (.ptr id ver (off + j.toNat * k))))
    | some ⟨.array len _, _, _, _⟩, some k', some (.ptr id ver off), some (.int _ j) => guardO (decide (0 ≤ j ∧ j < len)) (guardO (aliveB s.heap id ver) (some (.ptr id ver (off + j.toNat * k'))))
    | some ⟨.array len _, _, _, _⟩, some k', some (.fptr cs off), some (.int _ j) => guardO (decide (0 ≤ j ∧ j < len)) (some (.fptr cs (off + j.toNat * k')))
    | _, _, _, _ => none
noncomputable def svIndex (T : TypeId → Option TyI) (s : AS) (t : TypeId) (x i : Operand) : Option HV := match T t, s.evR x, s.evR i with
    | some ⟨.string, _, _, _⟩, some (.str l), some (.int _ j) => guardO (decide (0 ≤ j)) (match l[j.toNat]? with
      | some b => some (.int .u8 b.toNat)
      | none => none)
    | some ⟨.array len e, _, _, _⟩, some (.agg cs), some (.int _ j) => guardO (decide (0 ≤ j ∧ j < len)) (match T e with
      | some U => sload U cs (j.toNat * U.size)
      | none => none)
    | _, _, _ => none
noncomputable def svExtract (s : AS) (x : Operand) (i : Nat) : Option HV := match s.evR x with
    | some (.tup vs) => vs[i]?
    | _ => none
noncomputable def svSlice (T : TypeId → Option TyI) (s : AS) (t : TypeId) (x : Operand) (lo hi : Option Operand) : Option HV := match T t, sElem T t, s.evR x with
    | some ⟨.string, _, _, _⟩, _, some (.str l) => match aslR s lo 0, aslR s hi l.length with
      | some a, some b => guardO (decide (0 ≤ a ∧ a ≤ b ∧ b ≤ l.length)) (some (.str ((l.take b.toNat).drop a.toNat)))
      | _, _ => none
    | some ⟨.slice _, _, _, _⟩, some k', some (.sl k n cs) => match aslR s lo 0, aslR s hi n with
      | some a, some b => guardO (decide (k = k' ∧ 0 ≤ a ∧ a ≤ b ∧ b ≤ n)) (some (.sl k (b.toNat - a.toNat) ((cs.take (b.toNat * k)).drop (a.toNat * k))))
      | _, _ => none
    | some ⟨.slice _, _, _, _⟩, some k', some (.ar id ver k off n) => match aslR s lo 0, aslR s hi n with
      | some a, some b => guardO (decide (k = k' ∧ 0 ≤ a ∧ a ≤ b ∧ b ≤ n ∧ (a = 0 ∨ a < n))) (guardO (aliveB s.heap id ver) (some (.ar id ver k (off + a.toNat * k) (b.toNat - a.toNat))))
      | _, _ => none
    | _, _, _ => none
noncomputable def svCall (T : TypeId → Option TyI) (s : AS) (c : Call) : Option HV := match c.callee, c.argTypes.toList, c.args.toList with
    | .builtin .len, [t], [x] => match T t, s.evR x with
      | some ⟨.string, _, _, _⟩, some (.str l) => some (.int .i64 l.length)
      | some ⟨.slice _, _, _, _⟩, some (.sl _ n _) => some (.int .i64 n)
      | some ⟨.slice _, _, _, _⟩, some (.ar id ver _ _ n) => guardO (aliveB s.heap id ver) (some (.int .i64 n))
      | some ⟨.slice _, _, _, _⟩, some (.v (.slice none 0 0)) => some (.int .i64 0)
      | some ⟨.map _ _, _, _, _⟩, some (.v (.map none)) => some (.int .i64 0)
      | some ⟨.map _ _, _, _, _⟩, some (.mp id ver) => match hgetR s.heap id with
        | some (ver', .map es) => guardO (Nat.beq ver ver' && Nat.ble es.length maxLen) (some (.int .i64 es.length))
        | _ => none
      | _, _ => none
    | .builtin .min, _, [x, y] => match s.evR x, s.evR y with
      | some (.int k a), some (.int k' c) => guardO (decide (k = k')) (some (.int k (min a c)))
      | _, _ => none
    | .builtin .max, _, [x, y] => match s.evR x, s.evR y with
      | some (.int k a), some (.int k' c) => guardO (decide (k = k')) (some (.int k (max a c)))
      | _, _ => none
    | .builtin .min, _, [x, y, z] => match s.evR x, s.evR y, s.evR z with
      | some (.int k a), some (.int k' c), some (.int k'' d) => guardO (decide (k = k' ∧ k = k'')) (some (.int k (min (min a c) d)))
      | _, _, _ => none
    | .builtin .max, _, [x, y, z] => match s.evR x, s.evR y, s.evR z with
      | some (.int k a), some (.int k' c), some (.int k'' d) => guardO (decide (k = k' ∧ k = k'')) (some (.int k (max (max a c) d)))
      | _, _, _ => none
    | _, _, _ => none

noncomputable def sval (T : TypeId → Option TyI) (op : Op) (s : AS) : Option HV :=
  match op with
  | .move x => s.evR x
  | .assign x => s.evR x
  | .pick c a b => svPick s c a b
  | .load t a => svLoad T s t a
  | .nilCheck x => svNil s x
  | .binOp op tx x y _ => svBin T s op tx x y
  | .unOp op _ x => svUn s op x
  | .convert src dst x => svConv T s src dst x
  | .makeFunc fn first caps => svFunc s fn first caps
  | .fieldAddr S x f => svFieldAddr T s S x f
  | .field S x f => svField T s S x f
  | .indexAddr t x i => svIndexAddr T s t x i
  | .index t x i => svIndex T s t x i
  | .extract x i => svExtract s x i
  | .slice t x lo hi none => svSlice T s t x lo hi
  | .call c => svCall T s c
  | _ => none

theorem renE_len (ρ : Nat → Nat) : ∀ l, (renE ρ l).length = l.length
  | [] => rfl
  | _ :: l => by simp [renE, renE_len ρ l]

theorem hget_s (ρ : Nat → Nat) {s : AS} {id v : Nat} {o : AObj} (h : hget s.heap id = some (v, o)) : hget (s.ren ρ).heap id = some (ρ v, o.ren ρ) := by
  show hget (renH ρ s.heap) id = _
  rw [hget_ren, h]
  rfl

section
variable {P : Program} {T : TypeId → Option TyI} {s : AS} {ρ : Nat → Nat} {R : HV → Prop}

theorem sval_sound (hT : TabOk P T) {op : Op} {r : HV} (h : sval T op s = some r) (hr : R (r.ren ρ)) : aval P op (s.ren ρ) R := by
  unfold sval at h
  simp only [evR_eq, hgetR_eq, hsetR_eq, sgetR_eq, putR_eq, aslR_eq, apartsR_eq] at h
  split at h
  · simp only [aval, ev_ren, h, Option.map_some]; exact hr
  · simp only [aval, ev_ren, h, Option.map_some]; exact hr
  · -- pick
    unfold svPick at h
    try simp only [evR_eq, hgetR_eq, hsetR_eq, sgetR_eq, putR_eq, aslR_eq, apartsR_eq] at h
    rename_i c a b
    split at h
    · rename_i h1 g hc ha hb
      cases h
      simp only [aval, ev_ren, hc, ha, hb, Option.map_some, HV.ren]
      split
      all_goals simp_all
    · rename_i g h1 hc ha hb
      cases h
      simp only [aval, ev_ren, hc, ha, hb, Option.map_some, HV.ren]
      split
      all_goals simp_all
    · cases h
  · -- load
    unfold svLoad at h
    try simp only [evR_eq, hgetR_eq, hsetR_eq, sgetR_eq, putR_eq, aslR_eq, apartsR_eq] at h
    split at h
    · rename_i U cs off hU hx
      simp only [aval, ev_ren, hT _ _ hU, hx, Option.map_some, HV.ren]
      exact sload_sound h hr
    · rename_i U id ver off hU hx
      split at h
      · rename_i ver' k e cs hg
        obtain ⟨hv, h'⟩ := guardO_some h
        have hv := Nat.eq_of_beq_eq_true hv
        subst hv
        simp only [aval, ev_ren, hT _ _ hU, hx, Option.map_some, HV.ren, hget_s ρ hg, AObj.ren]
        exact ⟨trivial, sload_sound h' hr⟩
      · cases h
    · cases h
  · -- nilCheck
    unfold svNil at h
    try simp only [evR_eq, hgetR_eq, hsetR_eq, sgetR_eq, putR_eq, aslR_eq, apartsR_eq] at h
    split at h
    · rename_i id ver off hx
      obtain ⟨hv, h⟩ := guardO_some h
      cases h
      have := aliveB_sound (ρ := ρ) hv
      simp only [aval, ev_ren, hx, Option.map_some, HV.ren]
      unfold alive at this
      have e : (s.ren ρ).heap = renH ρ s.heap := rfl
      rw [e]
      cases hh : hget (renH ρ s.heap) id with
      | none => rw [hh] at this; exact this
      | some x => rw [hh] at this; exact ⟨this.symm, hr⟩
    · rename_i cs off hx
      cases h
      simp only [aval, ev_ren, hx, Option.map_some, HV.ren]
      exact hr
    · cases h
  · -- binOp
    unfold svBin at h
    try simp only [evR_eq, hgetR_eq, hsetR_eq, sgetR_eq, putR_eq, aslR_eq, apartsR_eq] at h
    split at h
    · rename_i x y hx hy
      simp only [aval, ev_ren, hx, hy, Option.map_some]
      exact sbinT_sound hT h hr
    · cases h
  · -- unOp
    unfold svUn at h
    try simp only [evR_eq, hgetR_eq, hsetR_eq, sgetR_eq, putR_eq, aslR_eq, apartsR_eq] at h
    split at h
    · rename_i b hx
      cases h
      simp only [aval, ev_ren, hx, Option.map_some, HV.ren]
      exact hr
    · rename_i k n hx
      cases h
      simp only [aval, ev_ren, hx, Option.map_some, HV.ren]
      exact hr
    · cases h
  · -- convert
    unfold svConv at h
    try simp only [evR_eq, hgetR_eq, hsetR_eq, sgetR_eq, putR_eq, aslR_eq, apartsR_eq] at h
    split at h
    · rename_i U k _ _ _ k0 n hU hD hx
      cases h
      simp only [aval, ev_ren, hT _ _ hU, hT _ _ hD, hx, Option.map_some, HV.ren]
      exact hr
    · rename_i U _ _ _ k0 n hU hD hx
      cases h
      simp only [aval, ev_ren, hT _ _ hU, hT _ _ hD, hx, Option.map_some, HV.ren]
      exact hr
    · rename_i U _ _ _ l hU hD hx
      cases h
      simp only [aval, ev_ren, hT _ _ hU, hT _ _ hD, hx, Option.map_some, HV.ren]
      exact hr
    · cases h
  · -- makeFunc
    unfold svFunc at h
    try simp only [evR_eq, hgetR_eq, hsetR_eq, sgetR_eq, putR_eq, aslR_eq, apartsR_eq] at h
    split at h
    · rename_i fs cs hf hc
      cases h
      simp only [aval, evL_ren, hf, hc, Option.map_some]
      exact hr
    · cases h
  · -- fieldAddr
    unfold svFieldAddr at h
    try simp only [evR_eq, hgetR_eq, hsetR_eq, sgetR_eq, putR_eq, aslR_eq, apartsR_eq] at h
    split at h
    · rename_i o U id ver off hF hx
      obtain ⟨hv, h⟩ := guardO_some h
      cases h
      simp only [aval, sField_sound hT hF, ev_ren, hx, Option.map_some, HV.ren]
      exact ⟨aliveB_sound hv, hr⟩
    · rename_i o U cs off hF hx
      cases h
      simp only [aval, sField_sound hT hF, ev_ren, hx, Option.map_some, HV.ren]
      exact hr
    · cases h
  · -- field
    unfold svField at h
    try simp only [evR_eq, hgetR_eq, hsetR_eq, sgetR_eq, putR_eq, aslR_eq, apartsR_eq] at h
    split at h
    · rename_i o U cs hF hx
      simp only [aval, sField_sound hT hF, ev_ren, hx, Option.map_some, HV.ren]
      exact sload_sound h hr
    · cases h
  · -- indexAddr
    unfold svIndexAddr at h
    try simp only [evR_eq, hgetR_eq, hsetR_eq, sgetR_eq, putR_eq, aslR_eq, apartsR_eq] at h
    split at h
    · rename_i e _ _ _ k' k n cs kk j hU hE hx hi
      obtain ⟨hv, h⟩ := guardO_some h
      cases h
      simp only [aval, hT _ _ hU, sElem_sound hT hE, ev_ren, hx, hi, Option.map_some, HV.ren]
      obtain ⟨h1, h2, h3⟩ := of_decide_eq_true hv
      exact ⟨h1, h2, h3, hr⟩
    · rename_i e _ _ _ k' id ver k off n kk j hU hE hx hi
      obtain ⟨hv, h⟩ := guardO_some h
      obtain ⟨ha, h⟩ := guardO_some h
      cases h
      simp only [aval, hT _ _ hU, sElem_sound hT hE, ev_ren, hx, hi, Option.map_some, HV.ren]
      obtain ⟨h1, h2, h3⟩ := of_decide_eq_true hv
      exact ⟨h1, h2, h3, aliveB_sound ha, hr⟩
    · rename_i len e _ _ _ k' id ver off kk j hU hE hx hi
      obtain ⟨hv, h⟩ := guardO_some h
      obtain ⟨ha, h⟩ := guardO_some h
      cases h
      simp only [aval, hT _ _ hU, sElem_sound hT hE, ev_ren, hx, hi, Option.map_some, HV.ren]
      obtain ⟨h1, h2⟩ := of_decide_eq_true hv
      exact ⟨h1, h2, aliveB_sound ha, hr⟩
    · rename_i len e _ _ _ k' cs off kk j hU hE hx hi
      obtain ⟨hv, h⟩ := guardO_some h
      cases h
      simp only [aval, hT _ _ hU, sElem_sound hT hE, ev_ren, hx, hi, Option.map_some, HV.ren]
      obtain ⟨h1, h2⟩ := of_decide_eq_true hv
      exact ⟨h1, h2, hr⟩
    · cases h
  · -- index
    unfold svIndex at h
    try simp only [evR_eq, hgetR_eq, hsetR_eq, sgetR_eq, putR_eq, aslR_eq, apartsR_eq] at h
    split at h
    · rename_i _ _ _ l k j hU hx hi
      obtain ⟨hv, h⟩ := guardO_some h
      split at h
      · rename_i b hb
        cases h
        simp only [aval, hT _ _ hU, ev_ren, hx, hi, Option.map_some, HV.ren, hb]
        exact ⟨of_decide_eq_true hv, hr⟩
      · cases h
    · rename_i len e _ _ _ cs k j hU hx hi
      obtain ⟨hv, h⟩ := guardO_some h
      split at h
      · rename_i U hE
        simp only [aval, hT _ _ hU, ev_ren, hx, hi, Option.map_some, HV.ren, hT _ _ hE]
        obtain ⟨h1, h2⟩ := of_decide_eq_true hv
        exact ⟨h1, h2, sload_sound h hr⟩
      · cases h
    · cases h
  · -- extract
    unfold svExtract at h
    try simp only [evR_eq, hgetR_eq, hsetR_eq, sgetR_eq, putR_eq, aslR_eq, apartsR_eq] at h
    split at h
    · rename_i vs hx
      simp only [aval, ev_ren, hx, Option.map_some, HV.ren, renL_get, h]
      exact hr
    · cases h
  · -- slice
    unfold svSlice at h
    try simp only [evR_eq, hgetR_eq, hsetR_eq, sgetR_eq, putR_eq, aslR_eq, apartsR_eq] at h
    split at h
    · rename_i _ _ _ l hU hx
      split at h
      · rename_i a b ha hb
        obtain ⟨hv, h⟩ := guardO_some h
        cases h
        simp only [aval, hT _ _ hU, ev_ren, hx, Option.map_some, HV.ren, asl_ren, ha, hb]
        obtain ⟨h1, h2, h3⟩ := of_decide_eq_true hv
        exact ⟨h1, h2, h3, hr⟩
      · cases h
    · rename_i e _ _ _ k' k n cs hU hE hx
      split at h
      · rename_i a b ha hb
        obtain ⟨hv, h⟩ := guardO_some h
        cases h
        simp only [aval, hT _ _ hU, sElem_sound hT hE, ev_ren, hx, Option.map_some, HV.ren, asl_ren, ha, hb]
        obtain ⟨h1, h2, h3, h4⟩ := of_decide_eq_true hv
        refine ⟨h1, h2, h3, h4, ?_⟩
        rw [← renL_take, ← renL_drop]
        exact hr
      · cases h
    · rename_i e _ _ _ k' id ver k off n hU hE hx
      split at h
      · rename_i a b ha hb
        obtain ⟨hv, h⟩ := guardO_some h
        obtain ⟨hl, h⟩ := guardO_some h
        cases h
        simp only [aval, hT _ _ hU, sElem_sound hT hE, ev_ren, hx, Option.map_some, HV.ren, asl_ren, ha, hb]
        obtain ⟨h1, h2, h3, h4, h5⟩ := of_decide_eq_true hv
        exact ⟨h1, h2, h3, h4, h5, aliveB_sound hl, hr⟩
      · cases h
    · cases h
  · -- call
    unfold svCall at h
    try simp only [evR_eq, hgetR_eq, hsetR_eq, sgetR_eq, putR_eq, aslR_eq, apartsR_eq] at h
    split at h
    · rename_i c t x hc ht hx
      split at h
      · rename_i _ _ _ l hU hl
        cases h
        simp only [aval, hc, ht, hx, hT _ _ hU, ev_ren, hl, Option.map_some, HV.ren]; exact hr
      · rename_i e _ _ _ k n cs hU hl
        cases h
        simp only [aval, hc, ht, hx, hT _ _ hU, ev_ren, hl, Option.map_some, HV.ren]; exact hr
      · rename_i e _ _ _ id ver k off n hU hl
        obtain ⟨hv, h⟩ := guardO_some h
        cases h
        simp only [aval, hc, ht, hx, hT _ _ hU, ev_ren, hl, Option.map_some, HV.ren]; exact ⟨aliveB_sound hv, hr⟩
      · rename_i e _ _ _ hU hl
        cases h
        simp only [aval, hc, ht, hx, hT _ _ hU, ev_ren, hl, Option.map_some, HV.ren]; exact hr
      · rename_i e _ _ _ hU hl
        cases h
        simp only [aval, hc, ht, hx, hT _ _ hU, ev_ren, hl, Option.map_some, HV.ren]; exact hr
      · rename_i e _ _ _ _ id ver hU hl
        split at h
        · rename_i ver' es hg
          obtain ⟨hv, h⟩ := guardO_some h
          cases h
          simp only [Bool.and_eq_true] at hv
          have hve := Nat.eq_of_beq_eq_true hv.1
          subst hve
          simp only [aval, hc, ht, hx, hT _ _ hU, ev_ren, hl, Option.map_some, HV.ren, hget_s ρ hg, AObj.ren, renE_len]
          exact ⟨trivial, Nat.le_of_ble_eq_true hv.2, hr⟩
        · cases h
      · cases h
    · rename_i c x y hc hx
      split at h
      · rename_i k a k' b ha hb
        obtain ⟨hv, h⟩ := guardO_some h
        cases h
        simp only [aval, hc, hx, ev_ren, ha, hb, Option.map_some, HV.ren]
        exact ⟨.inl trivial, of_decide_eq_true hv, hr⟩
      · cases h
    · rename_i c x y hc hx
      split at h
      · rename_i k a k' b ha hb
        obtain ⟨hv, h⟩ := guardO_some h
        cases h
        simp only [aval, hc, hx, ev_ren, ha, hb, Option.map_some, HV.ren]
        exact ⟨.inr trivial, of_decide_eq_true hv, hr⟩
      · cases h
    · rename_i c x y z hc hx
      split at h
      · rename_i k a k' b k'' d ha hb hd
        obtain ⟨hv, h⟩ := guardO_some h
        cases h
        simp only [aval, hc, hx, ev_ren, ha, hb, hd, Option.map_some, HV.ren]
        obtain ⟨h1, h2⟩ := of_decide_eq_true hv
        exact ⟨.inl trivial, h1, h2, hr⟩
      · cases h
    · rename_i c x y z hc hx
      split at h
      · rename_i k a k' b k'' d ha hb hd
        obtain ⟨hv, h⟩ := guardO_some h
        cases h
        simp only [aval, hc, hx, ev_ren, ha, hb, hd, Option.map_some, HV.ren]
        obtain ⟨h1, h2⟩ := of_decide_eq_true hv
        exact ⟨.inr trivial, h1, h2, hr⟩
      · cases h
    · cases h
  · cases h
end
end Go.AW

/- The evaluation of closed code: operations that change something, what a task's evaluation says. -/
namespace Go.AW
open Go
set_option linter.unusedSimpArgs false

/-- a loop's record stays the record of its loop -/
def LoopKeep (H H' : Heap) : Prop := ∀ id v st pend f n snap ps a b, hget H id = some (v, .loop st pend f n snap ps a b) → ∀ x, hget H' id = some x → ∃ st' pend', x = (v, .loop st' pend' f n snap ps a b)

theorem LoopKeep.refl (H : Heap) : LoopKeep H H := fun _ _ _ _ _ _ _ _ _ _ h x hx => by rw [h] at hx; cases hx; exact ⟨_, _, rfl⟩
theorem LoopKeep.set {H : Heap} {id v : Nat} {o : AObj} (h : ∀ v st pend f n snap ps a b, hget H id ≠ some (v, .loop st pend f n snap ps a b)) : LoopKeep H (hset H id v o) := by
  intro j u st pend f n snap ps a b hj x hx
  rw [hget_hset] at hx
  split at hx
  · rename_i e; subst e; exact absurd hj (h _ _ _ _ _ _ _ _ _)
  · rw [hj] at hx; cases hx; exact ⟨_, _, rfl⟩
theorem LoopKeep.setL {H : Heap} {id v : Nat} {st st' : LoopState} {pend pend' : Option Code} {f n : Nat} {snap : List (Nat × HV)} {ps : Array Tmp} {a b : Code}
    (h : hget H id = some (v, .loop st pend f n snap ps a b)) : LoopKeep H (hset H id v (.loop st' pend' f n snap ps a b)) := by
  intro j u st2 pend2 f2 n2 snap2 ps2 a2 b2 hj x hx
  rw [hget_hset] at hx
  split at hx
  · rename_i e; subst e; rw [h] at hj; cases hj; cases hx; exact ⟨_, _, rfl⟩
  · rw [hj] at hx; cases hx; exact ⟨_, _, rfl⟩
/-- dropping between -/
theorem LoopKeep.trans {H H1 H2 : Heap} (h : LoopKeep H H1) (h' : LoopKeep H1 H2) (hd : ∀ id x, hget H id = some x → ∀ y, hget H2 id = some y → ∃ z, hget H1 id = some z) : LoopKeep H H2 := by
  intro j u st pend f n snap ps a b hj x hx
  obtain ⟨z, hz⟩ := hd j _ hj x hx
  obtain ⟨st1, p1, rfl⟩ := h _ _ _ _ _ _ _ _ _ _ hj z hz
  exact h' _ _ _ _ _ _ _ _ _ _ hz x hx

/-- what stays is what was there (objects with number below n) -/
def Back (n : Nat) (H H' : Heap) : Prop := ∀ id, id < n → ∀ y, hget H' id = some y → ∃ z, hget H id = some z
theorem Back.refl (n : Nat) (H : Heap) : Back n H H := fun _ _ y h => ⟨y, h⟩
theorem Back.trans {n m : Nat} {H H1 H2 : Heap} (h : Back n H H1) (hn : n ≤ m) (h' : Back m H1 H2) : Back n H H2 := fun id hid y hy => by
  obtain ⟨z, hz⟩ := h' id (by omega) y hy
  exact h id hid z hz
theorem Back.set {n id v : Nat} {H : Heap} {o : AObj} (h : n ≤ id ∨ ∃ x, hget H id = some x) : Back n H (hset H id v o) := fun j hj y hy => by
  rw [hget_hset] at hy
  split at hy
  · rename_i e; subst e; exact h.elim (fun h => by omega) id
  · exact ⟨y, hy⟩

theorem sch_lt {n id : Nat} {H : Heap} {x : Nat × AObj} (h : scH n H = true) (hg : hget H id = some x) : id < n := (sch_get (o := x.2) (v := x.1) h hg).1.1
theorem sch_fresh {n : Nat} {H : Heap} (h : scH n H = true) : hget H n = none := by
  cases hg : hget H n with
  | none => rfl
  | some x => exact absurd (sch_lt h hg) (by omega)

/-- the state's loops stay, nothing of a lower number comes -/
structure Step (n n' : Nat) (H H' : Heap) : Prop where
  le : n ≤ n'
  loop : LoopKeep H H'
  back : Back n H H'

theorem Step.refl (n : Nat) (H : Heap) : Step n n H H := ⟨Nat.le_refl _, LoopKeep.refl H, Back.refl n H⟩
theorem Step.trans {n n1 n2 : Nat} {H H1 H2 : Heap} (hs : scH n H = true) (h : Step n n1 H H1) (h' : Step n1 n2 H1 H2) : Step n n2 H H2 :=
  ⟨Nat.le_trans h.le h'.le, h.loop.trans h'.loop fun id x hx y hy => h'.back id (Nat.lt_of_lt_of_le (sch_lt hs hx) h.le) y hy, h.back.trans h.le h'.back⟩

inductive Task where
  | code (top : Bool) (N : Nat) (c : Code) (s : AS) (n : Nat)
  | call (f : FuncId) (args : List HV) (H : Heap) (n : Nat)

inductive Out where
  | code (e : Exit) (s : AS) (n : Nat)
  | call (rv : HV) (H : Heap) (n : Nat)

def Sem (P : Program) : Task → Out → Prop
  | .code top N c s n, .code e s' n' => s.sc n = true → s'.sc n' = true ∧ Step n n' s.heap s'.heap ∧
      ∀ (ρ : Nat → Nat) (ro : Option Nat) (Q : Exit → AS → Prop), (top = true → ro = none) → (∀ ρ', Agree n ρ ρ' → Q e (s'.ren ρ')) → AW P ro N c Q (s.ren ρ)
  | .call f args H n, .call rv H' n' => scL n args = true → scH n H = true → rv.sc n' = true ∧ scH n' H' = true ∧ Step n n' H H' ∧
      ∀ (ρ : Nat → Nat) (K : HV → Heap → Prop), (∀ ρ', Agree n ρ ρ' → K (rv.ren ρ') (renH ρ' H')) → ACall P f (renL ρ args) (renH ρ H) K
  | _, _ => False

def Good (P : Program) (r : Task → Option Out) : Prop := ∀ t o, r t = some o → Sem P t o

/-- what an operation's evaluation says -/
def OpOk (P : Program) (N : Nat) (o : Oper) (s : AS) (n : Nat) (s' : AS) (n' : Nat) : Prop := s'.sc n' = true ∧ Step n n' s.heap s'.heap ∧
  ∀ (ρ : Nat → Nat) (ro : Option Nat) (K : AS → Prop), (∀ ρ', Agree n ρ ρ' → K (s'.ren ρ')) → AOp P ro N o K (s.ren ρ)

noncomputable def fin (s : AS) (n : Nat) (d : Option Tmp) (h : HV) : Option (AS × Nat) := guardO (h.sc n) (some (s.putR d h, n))
noncomputable def new (s : AS) (n : Nat) (d : Option Tmp) (id : Nat) (o : AObj) (h : HV) : Option (AS × Nat) := guardO (o.sc n) (some (({ s with heap := hsetR s.heap id n o } : AS).putR d h, n + 1))

section
variable {P : Program} {N n n' : Nat} {o : Oper} {s s' : AS}

theorem sc_heap_of (hs : s.sc n = true) : scH n s.heap = true := by
  simp only [AS.sc, Bool.and_eq_true] at hs; exact hs.2
theorem sc_slots_of (hs : s.sc n = true) : scS n s.slots = true := by
  simp only [AS.sc, Bool.and_eq_true] at hs; exact hs.1

theorem put_heap' (s : AS) (d : Option Tmp) (h : HV) : (s.put d h).heap = s.heap := by cases d <;> rfl

theorem fin_ok {h : HV} (hs : s.sc n = true) (he : fin s n o.dst h = some (s', n')) (hk : ∀ (ρ : Nat → Nat) (ro : Option Nat) (K : AS → Prop), K ((s.ren ρ).put o.dst (h.ren ρ)) → AOp P ro N o K (s.ren ρ)) : OpOk P N o s n s' n' := by
  unfold fin at he
  rw [putR_eq] at he
  obtain ⟨h1, h2⟩ := guardO_some he
  cases h2
  refine ⟨sc_put hs h1, by rw [put_heap']; exact Step.refl _ _, fun ρ ro K hK => hk ρ ro K ?_⟩
  rw [← ren_put]
  exact hK ρ (Agree.refl _ _)

theorem new_ok {id : Nat} {ob : AObj} {h : HV} (hs : s.sc n = true) (hid : id = n ∨ ∃ v k e cs, hget s.heap id = some (v, .arr k e cs)) (hh : h.sc (n + 1) = true) (he : new s n o.dst id ob h = some (s', n'))
    (hk : ∀ (ρ : Nat → Nat) (ro : Option Nat) (K : AS → Prop), (∀ ver, K ((⟨(s.ren ρ).slots, hset (s.ren ρ).heap id ver (ob.ren ρ)⟩ : AS).put o.dst (h.ren (upd ρ n ver)))) → AOp P ro N o K (s.ren ρ)) : OpOk P N o s n s' n' := by
  unfold new at he
  rw [putR_eq, hsetR_eq] at he
  obtain ⟨h1, h2⟩ := guardO_some he
  cases h2
  have hsh := sc_heap_of hs
  have hidn : id < n + 1 := by
    rcases hid with rfl | ⟨v, k, e, cs, hg⟩
    · omega
    · have := sch_lt hsh hg; omega
  refine ⟨sc_put (sc_heap (AS.sc_mono (Nat.le_succ n) s hs) hidn (by omega) (AObj.sc_mono (Nat.le_succ n) ob h1)) hh, ?_, fun ρ ro K hK => hk ρ ro K fun ver => ?_⟩
  · rw [put_heap']
    refine ⟨by omega, LoopKeep.set ?_, Back.set ?_⟩
    · rcases hid with rfl | ⟨v, k, e, cs, hg⟩
      · rw [sch_fresh hsh]; intros; simp
      · rw [hg]; intros; simp
    · rcases hid with rfl | ⟨v, k, e, cs, hg⟩
      · exact .inl (Nat.le_refl _)
      · exact .inr ⟨_, hg⟩
  · have := hK (upd ρ n ver) (Agree.upd n ver ρ)
    rw [ren_put] at this
    have e : (⟨s.slots, hset s.heap id n ob⟩ : AS).ren (upd ρ n ver) = ⟨(s.ren ρ).slots, hset (s.ren ρ).heap id ver (ob.ren ρ)⟩ := by
      simp only [AS.ren, renH_set, upd_at]
      rw [← renS_agree (Agree.upd n ver ρ) _ (sc_slots_of hs), ← renH_agree (Agree.upd n ver ρ) _ hsh, ← AObj.ren_agree (Agree.upd n ver ρ) _ h1]
    rw [e] at this
    exact this
end

/-! the parts of literals -/
theorem aparts_ren (ρ : Nat → Nat) (s : AS) : ∀ ps : List (Nat × Operand), aparts (s.ren ρ) ps = (aparts s ps).map (renS ρ)
  | [] => rfl
  | p :: ps => by
    have ih := aparts_ren ρ s ps
    unfold aparts at ih ⊢
    simp only [List.mapM_cons, Option.pure_def, Option.bind_eq_bind]
    rw [ih, ev_ren]
    cases s.ev p.2 with
    | none => rfl
    | some h =>
      simp only [Option.map_some, Option.bind_some]
      cases List.mapM (fun p => Option.map (fun h => (p.fst, h)) (s.ev p.snd)) ps with
      | none => rfl
      | some qs => rfl

theorem afill_ren (ρ : Nat → Nat) (place : Nat → Option (Nat × Nat)) : ∀ (qs : List (Nat × HV)) (cells : List HV), afill place (renS ρ qs) (renL ρ cells) = (afill place qs cells).map (renL ρ)
  | [], cells => rfl
  | (i, h) :: qs, cells => by
    simp only [renS, afill, cells_ren]
    cases place i with
    | none => rfl
    | some p =>
      obtain ⟨off, size⟩ := p
      cases h.cells? with
      | none => rfl
      | some cs =>
        simp only [Option.map_some, renL_len]
        split
        · rw [← renL_splice, afill_ren ρ place qs]
        · rfl

theorem consts_ren (ρ : Nat → Nat) : ∀ (vs : List Value) (hs : List HV), vs.mapM constHV = some hs → renL ρ hs = hs
  | [], hs, h => by simp at h; subst h; rfl
  | v :: vs, hs, h => by
    simp only [List.mapM_cons, Option.pure_def, Option.bind_eq_bind, Option.bind_eq_some_iff] at h
    obtain ⟨c, hc, ds, hd, he⟩ := h
    cases he
    have h1 := constHV_ren ρ v
    rw [hc] at h1
    simp only [Option.map_some, Option.some.injEq] at h1
    simp only [renL, h1, consts_ren ρ vs ds hd]

theorem zcells_ren (ρ : Nat → Nat) {z : Value} {zs : List HV} (h : zcells z = some zs) : renL ρ zs = zs := by
  have one : ∀ {v : Value}, (match constHV v with
      | some h => if h.one then some [h] else none
      | none => none) = some zs → renL ρ zs = zs := fun {v} h => by
    have h1 := constHV_ren ρ v
    split at h
    · rename_i c hc
      rw [hc] at h1
      simp only [Option.map_some, Option.some.injEq] at h1
      split at h
      · cases h; simp only [renL, h1]
      · cases h
    · cases h
  unfold zcells at h
  split at h
  · split at h
    · rename_i hs hm
      split at h
      · cases h; exact consts_ren ρ _ _ hm
      · cases h
    · cases h
  · cases h
  · exact one h

theorem zrep_ren (ρ : Nat → Nat) {zs : List HV} (h : renL ρ zs = zs) (n : Nat) : renL ρ (zrep zs n) = zrep zs n := by
  induction n with
  | zero => rfl
  | succ n ih =>
    simp only [zrep, List.replicate_succ, List.flatten_cons, renL_append, h] at ih ⊢
    rw [ih]

noncomputable def sslice (T : TypeId → Option TyI) (s : AS) (t : TypeId) (n : Nat) (ps : List (Nat × Operand)) : Option (Nat × TypeId × List HV) :=
  match T t with
  | some ⟨.slice e, _, _, _⟩ => match T e with
    | some U => match zcells U.zero, apartsR s ps with
      | some zs, some qs => guardO (Nat.beq zs.length U.size && Nat.ble (n * U.size) 16777216) (match afill (fun i => some (i * U.size, U.size)) qs (zrep zs n) with
        | some cs => some (U.size, e, cs)
        | none => none)
      | _, _ => none
    | none => none
  | _ => none

def sPlaces (T : TypeId → Option TyI) : List Field → Option (List (Nat × Nat))
  | [] => some []
  | f :: fs => match T f.type, sPlaces T fs with
    | some U, some l => some ((f.offset, U.size) :: l)
    | _, _ => none

noncomputable def sbuild (T : TypeId → Option TyI) (s : AS) (t : TypeId) (ps : List (Nat × Operand)) : Option HV :=
  match T t with
  | some ⟨.struct fs, _, _, z⟩ => match sPlaces T fs.toList, zcells z, apartsR s ps with
    | some pl, some zs, some qs => match afill (fun i => pl[i]?) qs zs with
      | some cs => some (.agg cs)
      | none => none
    | _, _, _ => none
  | _ => none

noncomputable def ssrc (T : TypeId → Option TyI) (s : AS) (xt : TypeId) (k : Nat) (x : HV) : Option (Nat × List HV) :=
  match T xt, x with
  | some ⟨.slice _, _, _, _⟩, .sl k' m cs => guardO (Nat.beq k' k) (some (m, cs))
  | some ⟨.slice _, _, _, _⟩, .ar id ver k' off m => match hgetR s.heap id with
    | some (ver', .arr _ _ cs) => guardO (Nat.beq ver ver' && (Nat.beq k' k && Nat.ble (off + m * k) cs.length)) (some (m, (cs.drop off).take (m * k)))
    | _ => none
  | some ⟨.slice _, _, _, _⟩, .v (.slice none 0 0) => some (0, [])
  | some ⟨.string, _, _, _⟩, .str l => guardO (Nat.beq k 1) (some (l.length, l.map fun b => .int .u8 b.toNat))
  | _, _ => none

noncomputable def sbase (s : AS) (k : Nat) (e : TypeId) (x : HV) : Option (Nat × List HV) :=
  match x with
  | .v (.slice none 0 0) => some (0, [])
  | .ar id ver k' off n => match hgetR s.heap id with
    | some (ver', .arr _ e' cs) => guardO (Nat.beq ver ver' && (Nat.beq k' k && (Nat.beq e' e && (Nat.beq off 0 && Nat.ble (n * k) cs.length)))) (some (n, cs.take (n * k)))
    | _ => none
  | _ => none

section
variable {P : Program} {T : TypeId → Option TyI} {s : AS} {ρ : Nat → Nat}

theorem sslice_sound (hT : TabOk P T) {t : TypeId} {n k : Nat} {e : TypeId} {ps : List (Nat × Operand)} {cs : List HV} {R : Nat → TypeId → List HV → Prop} (h : sslice T s t n ps = some (k, e, cs)) (hr : R k e (renL ρ cs)) : aslice P (s.ren ρ) t n ps R := by
  unfold sslice at h
  simp only [evR_eq, hgetR_eq, hsetR_eq, sgetR_eq, putR_eq, aslR_eq, apartsR_eq] at h
  split at h
  · rename_i e' _ _ _ ht
    split at h
    · rename_i U hU
      split at h
      · rename_i zs qs hz hq
        obtain ⟨hv, h⟩ := guardO_some h
        simp only [Bool.and_eq_true] at hv
        split at h
        · rename_i cs' hc
          cases h
          have hf := afill_ren ρ (fun i => some (i * U.size, U.size)) qs (zrep zs n)
          rw [hc, zrep_ren ρ (zcells_ren ρ hz)] at hf
          simp only [aslice, hT _ _ ht, hT _ _ hU, hz, aparts_ren, hq, Option.map_some, hf]
          exact ⟨Nat.eq_of_beq_eq_true hv.1, Nat.le_of_ble_eq_true hv.2, hr⟩
        · cases h
      · cases h
    · cases h
  · cases h

theorem sPlaces_sound (hT : TabOk P T) : ∀ {fs : List Field} {l : List (Nat × Nat)}, sPlaces T fs = some l → placesOf P fs = some l
  | [], l, h => h
  | f :: fs, l, h => by
    simp only [sPlaces] at h
    split at h
    · rename_i U l' hU hl
      cases h
      simp [placesOf, hT _ _ hU, sPlaces_sound hT hl]
    · cases h

theorem sbuild_sound (hT : TabOk P T) {t : TypeId} {ps : List (Nat × Operand)} {r : HV} {R : HV → Prop} (h : sbuild T s t ps = some r) (hr : R (r.ren ρ)) : abuild P (s.ren ρ) t ps R := by
  unfold sbuild at h
  simp only [evR_eq, hgetR_eq, hsetR_eq, sgetR_eq, putR_eq, aslR_eq, apartsR_eq] at h
  split at h
  · rename_i fs _ _ z ht
    split at h
    · rename_i pl zs qs hpl hz hq
      split at h
      · rename_i cs hc
        cases h
        have hf := afill_ren ρ (fun i => pl[i]?) qs zs
        rw [hc, zcells_ren ρ hz] at hf
        simp only [abuild, hT _ _ ht, sPlaces_sound hT hpl, hz, aparts_ren, hq, Option.map_some, hf]
        exact hr
      · cases h
    · cases h
  · cases h

theorem bytes_ren (ρ : Nat → Nat) (l : List UInt8) : renL ρ (l.map fun b => HV.int .u8 b.toNat) = l.map fun b => HV.int .u8 b.toNat := by
  induction l with
  | nil => rfl
  | cons b l ih => simp only [List.map_cons, renL, HV.ren, ih]

theorem ssrc_sound (hT : TabOk P T) {xt : TypeId} {k m : Nat} {x : HV} {cs : List HV} (h : ssrc T s xt k x = some (m, cs)) : asrc P (s.ren ρ) xt k (x.ren ρ) fun m' cs' => m' = m ∧ cs' = renL ρ cs := by
  unfold ssrc at h
  simp only [evR_eq, hgetR_eq, hsetR_eq, sgetR_eq, putR_eq, aslR_eq, apartsR_eq] at h
  split at h
  · rename_i e _ _ _ k' m' cs' ht
    obtain ⟨hv, h⟩ := guardO_some h
    cases h
    simp only [asrc, hT _ _ ht, HV.ren]
    exact ⟨Nat.eq_of_beq_eq_true hv, trivial, trivial⟩
  · rename_i e _ _ _ id ver k' off m' ht
    split at h
    · rename_i ver' k2 e2 cs' hg
      obtain ⟨hv, h⟩ := guardO_some h
      cases h
      simp only [Bool.and_eq_true] at hv
      have h1 := Nat.eq_of_beq_eq_true hv.1
      subst h1
      simp only [asrc, hT _ _ ht, HV.ren, hget_s ρ hg, AObj.ren]
      refine ⟨trivial, Nat.eq_of_beq_eq_true hv.2.1, by rw [renL_len]; exact Nat.le_of_ble_eq_true hv.2.2, trivial, ?_⟩
      rw [renL_take, renL_drop]
    · cases h
  · rename_i e _ _ _ ht
    cases h
    simp only [asrc, hT _ _ ht, HV.ren]
    exact ⟨trivial, rfl⟩
  · rename_i _ _ _ l ht
    obtain ⟨hv, h⟩ := guardO_some h
    cases h
    simp only [asrc, hT _ _ ht, HV.ren]
    exact ⟨Nat.eq_of_beq_eq_true hv, trivial, (bytes_ren ρ l).symm⟩
  · cases h

theorem sbase_sound {e : TypeId} {k m : Nat} {x : HV} {cs : List HV} (h : sbase s k e x = some (m, cs)) : abase (s.ren ρ) k e (x.ren ρ) fun m' cs' => m' = m ∧ cs' = renL ρ cs := by
  unfold sbase at h
  simp only [evR_eq, hgetR_eq, hsetR_eq, sgetR_eq, putR_eq, aslR_eq, apartsR_eq] at h
  split at h
  · cases h
    simp only [abase, HV.ren]
    exact ⟨trivial, rfl⟩
  · rename_i id ver k' off m'
    split at h
    · rename_i ver' k2 e2 cs' hg
      obtain ⟨hv, h⟩ := guardO_some h
      cases h
      simp only [Bool.and_eq_true] at hv
      have h1 := Nat.eq_of_beq_eq_true hv.1
      subst h1
      simp only [abase, HV.ren, hget_s ρ hg, AObj.ren]
      refine ⟨trivial, Nat.eq_of_beq_eq_true hv.2.1, Nat.eq_of_beq_eq_true hv.2.2.1, Nat.eq_of_beq_eq_true hv.2.2.2.1, by rw [renL_len]; exact Nat.le_of_ble_eq_true hv.2.2.2.2, trivial, ?_⟩
      rw [renL_take]
    · cases h
  · cases h
end
end Go.AW

/- The evaluation of closed code: one operation, a region, control, calls; and that what it gives is so. -/
namespace Go.AW
open Go
set_option linter.unusedSimpArgs false

/-- what is known of the program: its types, functions, and functions that are known to change nothing, with their results -/
structure Tabs where
  ty : TypeId → Option TyI
  fn : FuncId → Option Func
  ext : FuncId → List HV → Option HV
  /-- functions that sort in place: texts (true), numbers (false) -/
  sort : FuncId → Option Bool
  /-- the slots that are read behind a region: by the function's number of slots, and the region's number -/
  keep : Nat → Nat → Option (List Nat)

structure Tabs.Ok (P : Program) (T : Tabs) : Prop where
  ty : TabOk P T.ty
  fn : ∀ f x, T.fn f = some x → P.funcs[f]? = some x ∧ (x.name == "runtime.NumGoroutine") = false
  ext : ∀ f args r, T.ext f args = some r → Fresh P f args r
  sortS : ∀ f, T.sort f = some true → SortsS P f
  sortI : ∀ f, T.sort f = some false → SortsI P f
  draw : P.follows .mixedOrders = true

def noIterB (id : Nat) : Heap → Bool
  | [] => true
  | (_, _, .iter m _ _ _) :: H => (!Nat.beq m id) && noIterB id H
  | _ :: H => noIterB id H

def unseen (seen : List (List UInt8)) : List (List UInt8 × HV) → List (List UInt8 × HV)
  | [] => []
  | (k, v) :: es => if k ∈ seen then unseen seen es else (k, v) :: unseen seen es

noncomputable def opBox (o : Oper) (s : AS) (n : Nat) (e : TypeId) (x : Operand) : Option (AS × Nat) := match s.evR x with
    | some hv => match hv.cells? with
      | some cs => new s n o.dst n (.arr cs.length e cs) (.ptr n n 0)
      | none => none
    | none => none
noncomputable def opAlloc (T : Tabs) (o : Oper) (s : AS) (n : Nat) (e : TypeId) : Option (AS × Nat) := match T.ty e with
    | some U => match zcells U.zero with
      | some zs => new s n o.dst n (.arr zs.length e zs) (.ptr n n 0)
      | none => none
    | none => none
noncomputable def opStore (T : Tabs) (o : Oper) (s : AS) (n : Nat) (t : TypeId) (x y : Operand) : Option (AS × Nat) := match s.evR x, s.evR y, T.ty t with
    | some (.ptr id ver off), some hv, some U => match hv.cells?, hgetR s.heap id with
      | some cs, some (ver', .arr k e xs) => guardO (Nat.beq ver ver' && (Nat.beq U.size cs.length && Nat.ble (off + cs.length) xs.length))
          (guardO (scL n (splice xs off cs)) (some (({ s with heap := hsetR s.heap id ver (.arr k e (splice xs off cs)) } : AS).putR o.dst (.v undef), n)))
      | _, _ => none
    | _, _, _ => none
noncomputable def opBuildSlice (T : Tabs) (o : Oper) (s : AS) (n : Nat) (t : TypeId) (m : Nat) (ps : Array (Nat × Operand)) : Option (AS × Nat) := guardO (Nat.ble m 16777216) (match sslice T.ty s t m ps.toList with
    | some (k, e, cs) => new s n o.dst n (.arr k e cs) (.ar n n k 0 m)
    | none => none)
noncomputable def opMakeSlice (T : Tabs) (o : Oper) (s : AS) (n : Nat) (t : TypeId) (x y : Operand) : Option (AS × Nat) := match T.ty t, s.evR x, s.evR y with
    | some ⟨.slice e, _, _, _⟩, some (.int .i64 l), some (.int .i64 c) => match T.ty e with
      | some Te => match zcells Te.zero with
        | some zs => guardO (Nat.beq zs.length Te.size && decide (0 ≤ l ∧ l ≤ c ∧ c * Te.bytes ≤ 281474976710656)) (new s n o.dst n (.arr Te.size e (zrep zs l.toNat)) (.ar n n Te.size 0 l.toNat))
        | none => none
      | none => none
    | _, _, _ => none
noncomputable def opAppend (T : Tabs) (o : Oper) (s : AS) (n : Nat) (aa : Array Operand) (ts : Array TypeId) : Option (AS × Nat) := match aa.toList, ts.toList with
    | [x, y], [t, xt] => match T.ty t, s.evR x, s.evR y with
      | some ⟨.slice e, _, _, _⟩, some hx, some hy => match T.ty e with
        | some Te => match sbase s Te.size e hx, ssrc T.ty s xt Te.size hy with
          | some (m, cs), some (m', ds) => guardO ((zcells Te.zero).any (fun zs => zs.length == Te.size) && (Nat.ble ((m + m') * Te.bytes) 140737488355328 && Nat.ble (m + m') maxLen))
              (new s n o.dst (baseId hx n) (.arr Te.size e (cs ++ ds)) (.ar (baseId hx n) n Te.size 0 (m + m')))
          | _, _ => none
        | none => none
      | _, _, _ => none
    | _, _ => none
noncomputable def opClear (T : Tabs) (o : Oper) (s : AS) (n : Nat) (aa : Array Operand) (ts : Array TypeId) : Option (AS × Nat) := match aa.toList, ts.toList with
    | [x], [t] => match T.ty t, s.evR x with
      | some ⟨.slice e, _, _, _⟩, some (.ar id ver _ off n') => match T.ty e, hgetR s.heap id with
        | some Te, some (ver', .arr k' e' xs) => match zcells Te.zero with
          | some [z] => guardO (Nat.beq ver ver' && Nat.ble (off + n') xs.length) (guardO (scL n (xs.take off ++ List.replicate n' z ++ xs.drop (off + n')))
              (some (({ s with heap := hsetR s.heap id ver (.arr k' e' (xs.take off ++ List.replicate n' z ++ xs.drop (off + n'))) } : AS).putR o.dst (.tup []), n)))
          | _ => none
        | _, _ => none
      | _, _ => none
    | _, _ => none
noncomputable def opCall (r : Task → Option Out) (o : Oper) (s : AS) (n : Nat) (f : Operand) (aa : Array Operand) : Option (AS × Nat) := match s.evR f, aa.toList.mapM s.evR with
    | some (.fn (.func g) fs cs), some hs => guardO (scL n (fs ++ hs ++ cs)) (match r (.call g (fs ++ hs ++ cs) s.heap n) with
      | some (.call rv H n') => some (({ s with heap := H } : AS).putR o.dst rv, n')
      | _ => none)
    | some (.yl id ver), some hs => match hgetR s.heap id with
      | some (ver', .loop .ready none f m snap ps assign body) => guardO (Nat.beq ver ver' && (Nat.beq ps.size hs.length && (ps.toList.all fun p => Nat.blt p m))) (guardO (scS n (setPs snap ps.toList hs))
          (match r (.code false m assign ⟨setPs snap ps.toList hs, s.heap⟩ n) with
          | some (.code .normal s1 n1) => match hgetR s1.heap id with
            | some (_, .loop .ready none _ _ _ _ _ _) => match r (.code false m body { s1 with heap := hsetR s1.heap id ver (.loop .busy none f m snap ps assign body) } n1) with
              | some (.code e s2 n2) => match hgetR s2.heap id with
                | some (_, .loop .busy none _ _ _ _ _ _) => match e with
                  | .normal => some (({ s with heap := hsetR s2.heap id ver (.loop .ready none f m snap ps assign body) } : AS).putR o.dst (.bool true), n2)
                  | .ret => some (({ s with heap := hsetR s2.heap id ver (.loop .done (some .ret) f m snap ps assign body) } : AS).putR o.dst (.bool false), n2)
                  | .exit i => some (({ s with heap := hsetR s2.heap id ver (.loop .done (some (.exit i)) f m snap ps assign body) } : AS).putR o.dst (.bool false), n2)
                  | _ => none
                | _ => none
              | _ => none
            | _ => none
          | _ => none))
      | _ => none
    | _, _ => none
noncomputable def opBuild (T : Tabs) (o : Oper) (s : AS) (n : Nat) (t : TypeId) (ps : Array (Nat × Operand)) : Option (AS × Nat) := match sbuild T.ty s t ps.toList with
    | some r => fin s n o.dst r
    | none => none
noncomputable def opMapUpdate (T : Tabs) (o : Oper) (s : AS) (n : Nat) (t : TypeId) (m x y : Operand) : Option (AS × Nat) := match T.ty t, s.evR m, s.evR x, s.evR y with
    | some ⟨.map kt _, _, _, _⟩, some (.mp id ver), some (.str k), some hv => match T.ty kt, hgetR s.heap id with
      | some ⟨.string, _, _, _⟩, some (ver', .map es) => guardO (Nat.beq ver ver' && noIterB id s.heap) (guardO (scE n (mput k hv es))
          (some (({ s with heap := hsetR s.heap id ver (.map (mput k hv es)) } : AS).putR o.dst (.v undef), n)))
      | _, _ => none
    | _, _, _, _ => none
noncomputable def opLookup (T : Tabs) (o : Oper) (s : AS) (n : Nat) (t : TypeId) (m x : Operand) : Option (AS × Nat) := match T.ty t, s.evR m, s.evR x with
    | some ⟨.map kt et, _, _, _⟩, some (.mp id ver), some (.str k) => match T.ty kt, T.ty et, hgetR s.heap id with
      | some ⟨.string, _, _, _⟩, some Te, some (ver', .map es) => match constHV Te.zero with
        | some z => guardO (Nat.beq ver ver') (fin s n o.dst ((alook k es).getD z))
        | none => none
      | _, _, _ => none
    | _, _, _ => none
noncomputable def opRange (T : Tabs) (o : Oper) (s : AS) (n : Nat) (t : TypeId) (m : Operand) : Option (AS × Nat) := match T.ty t, s.evR m with
    | some ⟨.map _ _, _, _, _⟩, some (.mp mid mver) => match hgetR s.heap mid with
      | some (mver', .map _) => guardO (Nat.beq mver mver') (new s n o.dst n (.iter mid mver [] false) (.it n n))
      | _ => none
    | _, _ => none
noncomputable def opNext (o : Oper) (s : AS) (n : Nat) (x : Operand) : Option (AS × Nat) := match s.evR x with
    | some (.it id ver) => match hgetR s.heap id with
      | some (ver', .iter mid mver seen _) => match hgetR s.heap mid with
        | some (mver', .map es) => guardO (Nat.beq ver ver' && Nat.beq mver mver') (match unseen seen es with
          | [] => fin s n o.dst (.tup [.bool false])
          | [(k, v)] => guardO (v.sc n) (some (({ s with heap := hsetR s.heap id ver (.iter mid mver (k :: seen) true) } : AS).putR o.dst (.tup [.bool true, .str k, v]), n))
          | _ => none)
        | _ => none
      | _ => none
    | _ => none
noncomputable def opEntry (o : Oper) (s : AS) (n : Nat) (x : Operand) : Option (AS × Nat) := match s.evR x with
    | some (.it id ver) => match hgetR s.heap id with
      | some (ver', .iter mid mver (k :: _) true) => match hgetR s.heap mid with
        | some (mver', .map es) => guardO (Nat.beq ver ver' && Nat.beq mver mver') (match alook k es with
          | some v => fin s n o.dst (.tup [.str k, v])
          | none => none)
        | _ => none
      | _ => none
    | _ => none

noncomputable def sop (r : Task → Option Out) (T : Tabs) (o : Oper) (s : AS) (n : Nat) : Option (AS × Nat) :=
  match o.op with
  | .box e x => opBox o s n e x
  | .alloc e => opAlloc T o s n e
  | .store t x y => opStore T o s n t x y
  | .buildSlice t m ps => opBuildSlice T o s n t m ps
  | .makeSlice t x y => opMakeSlice T o s n t x y
  | .call ⟨.builtin .append, aa, ts⟩ => opAppend T o s n aa ts
  | .call ⟨.builtin .clear, aa, ts⟩ => opClear T o s n aa ts
  | .call ⟨.value f, aa, _⟩ => opCall r o s n f aa
  | .build t ps => opBuild T o s n t ps
  | .makeMap _ none => new s n o.dst n (.map []) (.mp n n)
  | .mapUpdate t m x y => opMapUpdate T o s n t m x y
  | .lookup t m x false => opLookup T o s n t m x
  | .range t m => opRange T o s n t m
  | .next x false => opNext o s n x
  | .entry x => opEntry o s n x
  | op => match sval T.ty op s with
    | some h => fin s n o.dst h
    | none => none

theorem alook_ren (ρ : Nat → Nat) (k : List UInt8) : ∀ es, alook k (renE ρ es) = (alook k es).map (HV.ren ρ)
  | [] => rfl
  | (q, h) :: es => by
    simp only [renE, alook]
    split
    · rfl
    · exact alook_ren ρ k es

theorem mput_ren (ρ : Nat → Nat) (k : List UInt8) (h : HV) : ∀ es, renE ρ (mput k h es) = mput k (h.ren ρ) (renE ρ es)
  | [] => rfl
  | (q, g) :: es => by
    simp only [renE, mput]
    split
    · rfl
    · simp only [renE, mput_ren ρ k h es]

theorem noIterB_sound {id : Nat} {ρ : Nat → Nat} : ∀ {H : Heap}, noIterB id H = true → noIter id (renH ρ H)
  | [], _ => trivial
  | (i, v, .iter m mv seen cur) :: H, h => by
    simp only [noIterB, Bool.and_eq_true] at h
    refine ⟨fun e => ?_, noIterB_sound h.2⟩
    subst e
    simp at h
  | (i, v, .arr _ _ _) :: H, h => noIterB_sound (H := H) h
  | (i, v, .map _) :: H, h => noIterB_sound (H := H) h
  | (i, v, .loop _ _ _ _ _ _ _ _) :: H, h => noIterB_sound (H := H) h

theorem mem_renE {ρ : Nat → Nat} {k : List UInt8} {v : HV} : ∀ {es : List (List UInt8 × HV)}, (k, v) ∈ renE ρ es → ∃ u, (k, u) ∈ es ∧ v = u.ren ρ
  | [], h => by cases h
  | (q, g) :: es, h => by
    simp only [renE, List.mem_cons] at h
    rcases h with h | h
    · cases h; exact ⟨g, List.mem_cons_self .., rfl⟩
    · obtain ⟨u, h1, h2⟩ := mem_renE h
      exact ⟨u, List.mem_cons_of_mem _ h1, h2⟩

theorem mem_renE' {ρ : Nat → Nat} {k : List UInt8} {u : HV} : ∀ {es : List (List UInt8 × HV)}, (k, u) ∈ es → (k, u.ren ρ) ∈ renE ρ es
  | [], h => by cases h
  | (q, g) :: es, h => by
    simp only [renE, List.mem_cons] at h ⊢
    rcases h with h | h
    · cases h; exact .inl rfl
    · exact .inr (mem_renE' h)

theorem mem_unseen {seen : List (List UInt8)} {k : List UInt8} {v : HV} : ∀ {es : List (List UInt8 × HV)}, (k, v) ∈ unseen seen es ↔ (k, v) ∈ es ∧ k ∉ seen
  | [] => by simp [unseen]
  | (q, g) :: es => by
    simp only [unseen]
    split
    · rename_i hq
      rw [mem_unseen (es := es)]
      simp only [List.mem_cons]
      constructor
      · exact fun h => ⟨.inr h.1, h.2⟩
      · rintro ⟨h | h, h2⟩
        · cases h; exact absurd hq h2
        · exact ⟨h, h2⟩
    · rename_i hq
      simp only [List.mem_cons, mem_unseen (es := es)]
      constructor
      · rintro (h | h)
        · cases h; exact ⟨.inl rfl, hq⟩
        · exact ⟨.inr h.1, h.2⟩
      · rintro ⟨h | h, h2⟩
        · exact .inl h
        · exact .inr ⟨h, h2⟩

section
variable {P : Program} {T : Tabs} {N n n' : Nat} {o : Oper} {s s' : AS} {r : Task → Option Out}

/-- an object in place changes -/
theorem set_ok {id ver : Nat} {x ob : AObj} {h : HV} (hs : s.sc n = true) (hg : hget s.heap id = some (ver, x)) (hx : ∀ st pend f n snap ps a b, x ≠ .loop st pend f n snap ps a b) (ho : ob.sc n = true) (hh : h.sc n = true)
    (hk : ∀ (ρ : Nat → Nat) (ro : Option Nat) (K : AS → Prop), K ((⟨(s.ren ρ).slots, hset (s.ren ρ).heap id (ρ ver) (ob.ren ρ)⟩ : AS).put o.dst (h.ren ρ)) → AOp P ro N o K (s.ren ρ)) :
    OpOk P N o s n (({ s with heap := hset s.heap id ver ob } : AS).put o.dst h) n := by
  have hl := sch_get (sc_heap_of hs) hg
  refine ⟨sc_put (sc_heap hs hl.1.1 hl.1.2 ho) hh, ?_, fun ρ ro K hK => hk ρ ro K ?_⟩
  · rw [put_heap']
    exact ⟨Nat.le_refl _, LoopKeep.set fun v st pend f n snap ps a b e => by rw [hg] at e; cases e; exact hx _ _ _ _ _ _ _ _ rfl, Back.set (.inr ⟨_, hg⟩)⟩
  · have := hK ρ (Agree.refl _ _)
    rw [ren_put] at this
    simpa only [AS.ren, renH_set] using this

theorem evL_sc {xs : List Operand} {hs : List HV} (h : xs.mapM s.ev = some hs) (ρ : Nat → Nat) : xs.mapM (s.ren ρ).ev = some (renL ρ hs) := by rw [evL_ren, h]; rfl

theorem setPs_ren (ρ : Nat → Nat) : ∀ (ps : List Tmp) (snap : List (Nat × HV)) (hs : List HV), renS ρ (setPs snap ps hs) = setPs (renS ρ snap) ps (renL ρ hs)
  | [], snap, hs => by simp [setPs]
  | p :: ps, snap, [] => by simp [setPs, renL]
  | p :: ps, snap, h :: hs => by simp only [setPs, renL, setPs_ren ρ ps, renS_set]

theorem sval_ok (hT : T.Ok P) (hN : okd N o.dst = true) (hs : s.sc n = true) (h : (match sval T.ty o.op s with
    | some h => fin s n o.dst h
    | none => none) = some (s', n')) : OpOk P N o s n s' n' := by
  split at h
  · rename_i hv hev
    exact fin_ok hs h fun ρ ro K hK => AOp.pure hN (sval_sound hT.ty hev hK)
  · cases h

theorem yield_ok (hr : Good P r) (hN : okd N o.dst = true) (hs : s.sc n = true) {c : Call} {g : Operand} {id ver : Nat} {hs' : List HV} (hop : o.op = .call c) (hc : c.callee = .value g) (hg : s.ev g = some (.yl id ver)) (ha : c.args.toList.mapM s.ev = some hs')
    (h : (match hget s.heap id with
      | some (ver', .loop .ready none f m snap ps assign body) => guardO (Nat.beq ver ver' && (Nat.beq ps.size hs'.length && (ps.toList.all fun p => Nat.blt p m))) (guardO (scS n (setPs snap ps.toList hs'))
          (match r (.code false m assign ⟨setPs snap ps.toList hs', s.heap⟩ n) with
          | some (.code .normal s1 n1) => match hget s1.heap id with
            | some (_, .loop .ready none _ _ _ _ _ _) => match r (.code false m body { s1 with heap := hset s1.heap id ver (.loop .busy none f m snap ps assign body) } n1) with
              | some (.code e s2 n2) => match hget s2.heap id with
                | some (_, .loop .busy none _ _ _ _ _ _) => match e with
                  | .normal => some (({ s with heap := hset s2.heap id ver (.loop .ready none f m snap ps assign body) } : AS).put o.dst (.bool true), n2)
                  | .ret => some (({ s with heap := hset s2.heap id ver (.loop .done (some .ret) f m snap ps assign body) } : AS).put o.dst (.bool false), n2)
                  | .exit i => some (({ s with heap := hset s2.heap id ver (.loop .done (some (.exit i)) f m snap ps assign body) } : AS).put o.dst (.bool false), n2)
                  | _ => none
                | _ => none
              | _ => none
            | _ => none
          | _ => none))
      | _ => none) = some (s', n')) : OpOk P N o s n s' n' := by
  have hsh := sc_heap_of hs
  split at h
  · rename_i ver' f m snap ps assign body hgl
    replace h := guardO_some h
    obtain ⟨h1, h⟩ := h
    replace h := guardO_some h
    obtain ⟨h2, h⟩ := h
    simp only [Bool.and_eq_true, List.all_eq_true] at h1
    have hv := Nat.eq_of_beq_eq_true h1.1
    subst hv
    have hps := Nat.eq_of_beq_eq_true h1.2.1
    have hpm : ∀ p ∈ ps.toList, p < m := fun p hp => blt_lt (h1.2.2 p hp)
    have hlsc := sch_get hsh hgl
    split at h
    · rename_i s1 n1 hr1
      obtain ⟨hs1, st1, hw1⟩ := hr _ _ hr1 (by simp only [AS.sc, h2, hsh, Bool.and_self])
      split at h
      · rename_i v1 f1 m1 snap1 ps1 as1 bd1 hg1
        obtain ⟨_, _, he1⟩ := st1.loop _ _ _ _ _ _ _ _ _ _ hgl _ hg1
        cases he1
        have hlsc1 := sch_get (sc_heap_of hs1) hg1
        have hsb : ({ s1 with heap := hset s1.heap id ver (.loop .busy none f m snap ps assign body) } : AS).sc n1 = true := sc_heap hs1 hlsc1.1.1 hlsc1.1.2 hlsc1.2
        split at h
        · rename_i e s2 n2 hr2
          obtain ⟨hs2, st2, hw2⟩ := hr _ _ hr2 hsb
          have stb : Step n1 n1 s1.heap (hset s1.heap id ver (.loop .busy none f m snap ps assign body)) := ⟨Nat.le_refl _, LoopKeep.setL hg1, Back.set (.inr ⟨_, hg1⟩)⟩
          have st12 := (st1.trans hsh stb).trans hsh st2
          split at h
          · rename_i v2 f2 m2 snap2 ps2 as2 bd2 hg2
            obtain ⟨_, _, he2⟩ := st12.loop _ _ _ _ _ _ _ _ _ _ hgl _ hg2
            cases he2
            have hlsc2 := sch_get (sc_heap_of hs2) hg2
            -- what a round comes to
            have done : ∀ (st : LoopState) (pend : Option Code) (b : Bool), (∀ (ρ' : Nat → Nat) (K : HV → Heap → Prop) (e' : Exit), e' = e →
                  K (.bool b) (hset (s2.ren ρ').heap id (ρ' ver) (.loop st pend (ρ' f) m (renS ρ' snap) ps assign body)) → rndQ id (ρ' ver) (ρ' f) m (renS ρ' snap) ps assign body K e' (s2.ren ρ')) →
                OpOk P N o s n (({ s with heap := hset s2.heap id ver (.loop st pend f m snap ps assign body) } : AS).put o.dst (.bool b)) n2 := by
              intro st pend b hq
              have hsn : ({ s with heap := hset s2.heap id ver (.loop st pend f m snap ps assign body) } : AS).sc n2 = true := by
                have := scS_mono st12.le _ (sc_slots_of hs)
                have h3 := scH_set _ id ver (.loop st pend f m snap ps assign body) (sc_heap_of hs2) hlsc2.1.1 hlsc2.1.2 hlsc2.2
                simp only [AS.sc, this, h3, Bool.and_self]
              refine ⟨sc_put hsn rfl, ?_, fun ρ ro K hK => ?_⟩
              · rw [put_heap']
                exact st12.trans hsh ⟨Nat.le_refl _, LoopKeep.setL hg2, Back.set (.inr ⟨_, hg2⟩)⟩
              · have hg' : (s.ren ρ).ev g = some (.yl id (ρ ver)) := by rw [ev_ren, hg]; rfl
                refine AOp.yield hop hc hN hg' (evL_sc ha ρ) ?_
                refine ⟨ρ f, m, renS ρ snap, ps, assign, body, hget_s ρ hgl, by rw [renL_len]; exact hps, hpm, fun l => ?_⟩
                have e0 : (⟨setPs (renS ρ snap) ps.toList (renL ρ hs'), (s.ren ρ).heap⟩ : AS) = (⟨setPs snap ps.toList hs', s.heap⟩ : AS).ren ρ := by simp only [AS.ren, setPs_ren]
                rw [e0]
                refine hw1 ρ (some l) _ (fun h => by cases h) fun ρ1 ha1 => ⟨rfl, ?_, ?_⟩
                · have := hget_s ρ1 hg1
                  simp only [AObj.ren] at this
                  rw [this, ha1 ver hlsc.1.2]
                  have h4 := hlsc.2
                  simp only [AObj.sc, Bool.and_eq_true] at h4
                  rw [ha1 f (blt_lt h4.1), renS_agree ha1 _ h4.2]
                · have h4 := hlsc.2
                  simp only [AObj.sc, Bool.and_eq_true] at h4
                  have e1 : ({ s1.ren ρ1 with heap := hset (s1.ren ρ1).heap id (ρ ver) (.loop .busy none (ρ f) m (renS ρ snap) ps assign body) } : AS) = ({ s1 with heap := hset s1.heap id ver (.loop .busy none f m snap ps assign body) } : AS).ren ρ1 := by
                    simp only [AS.ren, renH_set, AObj.ren]
                    rw [ha1 ver hlsc.1.2, ha1 f (blt_lt h4.1), renS_agree ha1 _ h4.2]
                  rw [e1]
                  refine hw2 ρ1 (some l) _ (fun h => by cases h) fun ρ2 ha2 => ?_
                  have ha02 : Agree n ρ ρ2 := ha1.trans st1.le ha2
                  rw [ha02 ver hlsc.1.2, ha02 f (blt_lt h4.1), renS_agree ha02 _ h4.2]
                  refine hq ρ2 _ e rfl ?_
                  have := hK ρ2 ha02
                  rw [ren_put] at this
                  have e2 : ({ s with heap := hset s2.heap id ver (.loop st pend f m snap ps assign body) } : AS).ren ρ2 = { s.ren ρ with heap := hset (s2.ren ρ2).heap id (ρ2 ver) (.loop st pend (ρ2 f) m (renS ρ2 snap) ps assign body) } := by
                    simp only [AS.ren, renH_set, AObj.ren]
                    rw [renS_agree ha02 _ (sc_slots_of hs)]
                  rw [e2] at this
                  exact this
            have hgb : ∀ ρ' : Nat → Nat, hget (s2.ren ρ').heap id = some (ρ' ver, .loop .busy none (ρ' f) m (renS ρ' snap) ps assign body) := fun ρ' => hget_s ρ' hg2
            split at h
            · cases h
              exact done _ _ _ fun ρ' K e' he hK => by subst he; exact ⟨hgb ρ', hK⟩
            · cases h
              exact done _ _ _ fun ρ' K e' he hK => by subst he; exact ⟨hgb ρ', hK⟩
            · cases h
              exact done _ _ _ fun ρ' K e' he hK => by subst he; exact ⟨hgb ρ', hK⟩
            · cases h
          · cases h
        · cases h
      · cases h
    · cases h
  · cases h

theorem sop_ok (hT : T.Ok P) (hr : Good P r) (hN : okd N o.dst = true) (hs : s.sc n = true) (h : sop r T o s n = some (s', n')) : OpOk P N o s n s' n' := by
  have hsh := sc_heap_of hs
  have self : ∀ m, Nat.blt m (m + 1) = true := fun m => by simp [Nat.blt_eq]
  unfold sop at h
  split at h
  · -- box
    rename_i e x hop
    unfold opBox at h
    try simp only [evR_eq, hgetR_eq, hsetR_eq, sgetR_eq, putR_eq, aslR_eq, apartsR_eq] at h
    split at h
    · rename_i hv hx
      split at h
      · rename_i cs hcs
        refine new_ok (ob := .arr cs.length e cs) (h := .ptr n n 0) hs (.inl rfl) (self n) h fun ρ ro K hK => ?_
        have h1 : (s.ren ρ).ev x = some (hv.ren ρ) := by rw [ev_ren, hx]; rfl
        have h2 : (hv.ren ρ).cells? = some (renL ρ cs) := by rw [cells_ren, hcs]; rfl
        refine AOp.boxM n hop hN h1 h2 fun ver => ?_
        have := hK ver
        simp only [HV.ren, upd_at, AObj.ren] at this
        rw [renL_len]
        exact this
      · cases h
    · cases h
  · -- alloc
    rename_i e hop
    unfold opAlloc at h
    try simp only [evR_eq, hgetR_eq, hsetR_eq, sgetR_eq, putR_eq, aslR_eq, apartsR_eq] at h
    split at h
    · rename_i U hU
      split at h
      · rename_i zs hz
        refine new_ok (ob := .arr zs.length e zs) (h := .ptr n n 0) hs (.inl rfl) (self n) h fun ρ ro K hK => ?_
        refine AOp.alloc n hop hN (hT.ty _ _ hU) hz fun ver => ?_
        have := hK ver
        simp only [HV.ren, upd_at, AObj.ren, zcells_ren ρ hz] at this
        exact this
      · cases h
    · cases h
  · -- store
    rename_i t x y hop
    unfold opStore at h
    try simp only [evR_eq, hgetR_eq, hsetR_eq, sgetR_eq, putR_eq, aslR_eq, apartsR_eq] at h
    split at h
    · rename_i id ver off hv U hx hy hU
      split at h
      · rename_i cs ver' k e xs hcs hg
        replace h := guardO_some h
        obtain ⟨h1, h⟩ := h
        replace h := guardO_some h
        obtain ⟨h2, h⟩ := h
        cases h
        simp only [Bool.and_eq_true] at h1
        have hv' := Nat.eq_of_beq_eq_true h1.1
        subst hv'
        refine set_ok (x := .arr k e xs) hs hg (by intros; simp) h2 rfl fun ρ ro K hK => ?_
        have e1 : (s.ren ρ).ev x = some (.ptr id (ρ ver) off) := by rw [ev_ren, hx]; rfl
        have e2 : (s.ren ρ).ev y = some (hv.ren ρ) := by rw [ev_ren, hy]; rfl
        have e3 : (hv.ren ρ).cells? = some (renL ρ cs) := by rw [cells_ren, hcs]; rfl
        refine AOp.store hop hN e1 e2 e3 (hget_s ρ hg) (hT.ty _ _ hU) (by rw [renL_len]; exact Nat.eq_of_beq_eq_true h1.2.1) (by rw [renL_len, renL_len]; exact Nat.le_of_ble_eq_true h1.2.2) ?_
        simp only [AObj.ren, renL_splice] at hK
        exact hK
      · cases h
    · cases h
  · -- buildSlice
    rename_i t m ps hop
    unfold opBuildSlice at h
    try simp only [evR_eq, hgetR_eq, hsetR_eq, sgetR_eq, putR_eq, aslR_eq, apartsR_eq] at h
    replace h := guardO_some h
    obtain ⟨h1, h⟩ := h
    split at h
    · rename_i k e cs hsl
      refine new_ok (ob := .arr k e cs) (h := .ar n n k 0 m) hs (.inl rfl) (self n) h fun ρ ro K hK => ?_
      refine AOp.buildSliceM n hop hN (Nat.le_of_ble_eq_true h1) (sslice_sound hT.ty hsl fun ver => ?_)
      have := hK ver
      simp only [HV.ren, upd_at, AObj.ren] at this
      exact this
    · cases h
  · -- makeSlice
    rename_i t x y hop
    unfold opMakeSlice at h
    try simp only [evR_eq, hgetR_eq, hsetR_eq, sgetR_eq, putR_eq, aslR_eq, apartsR_eq] at h
    split at h
    · rename_i e sz by' z l c hU hx hy
      split at h
      · rename_i Te hTe
        split at h
        · rename_i zs hz
          replace h := guardO_some h
          obtain ⟨h1, h⟩ := h
          simp only [Bool.and_eq_true] at h1
          obtain ⟨h2, h3, h4⟩ := of_decide_eq_true h1.2
          refine new_ok (ob := .arr Te.size e (zrep zs l.toNat)) (h := .ar n n Te.size 0 l.toNat) hs (.inl rfl) (self n) h fun ρ ro K hK => ?_
          have e1 : (s.ren ρ).ev x = some (.int .i64 l) := by rw [ev_ren, hx]; rfl
          have e2 : (s.ren ρ).ev y = some (.int .i64 c) := by rw [ev_ren, hy]; rfl
          refine AOp.makeSlice (k1 := .i64) (k2 := .i64) n hop hN (hT.ty _ _ hU) rfl (hT.ty _ _ hTe) hz (Nat.eq_of_beq_eq_true h1.1) e1 e2 h2 h3 h4 fun ver => ?_
          have := hK ver
          simp only [HV.ren, upd_at, AObj.ren, zrep_ren ρ (zcells_ren ρ hz)] at this
          exact this
        · cases h
      · cases h
    · cases h
  · -- append
    rename_i aa ts hop
    unfold opAppend at h
    try simp only [evR_eq, hgetR_eq, hsetR_eq, sgetR_eq, putR_eq, aslR_eq, apartsR_eq] at h
    split at h
    · rename_i x y t xt ha ht
      split at h
      · rename_i e sz by' z hx hy hU hex hey
        split at h
        · rename_i Te hTe
          split at h
          · rename_i m cs m' ds hb hsr
            replace h := guardO_some h
            obtain ⟨h1, h⟩ := h
            simp only [Bool.and_eq_true] at h1
            have has : aa = #[x, y] := Array.toList_inj.1 (by simpa using ha)
            have hts : ts = #[t, xt] := Array.toList_inj.1 (by simpa using ht)
            subst has hts
            have hid : baseId hx n = n ∨ ∃ v k e' cs', hget s.heap (baseId hx n) = some (v, .arr k e' cs') := by
              unfold sbase at hb
              rw [hgetR_eq] at hb
              split at hb
              · exact .inl rfl
              · rename_i id ver k' off n2
                split at hb
                · rename_i ver' k2 e2 cs2 hg
                  exact .inr ⟨_, _, _, _, hg⟩
                · cases hb
              · cases hb
            refine new_ok (ob := .arr Te.size e (cs ++ ds)) (h := .ar (baseId hx n) n Te.size 0 (m + m')) hs hid (self n) h fun ρ ro K hK => ?_
            have e1 : (s.ren ρ).ev x = some (hx.ren ρ) := by rw [ev_ren, hex]; rfl
            have e2 : (s.ren ρ).ev y = some (hy.ren ρ) := by rw [ev_ren, hey]; rfl
            have e3 : baseId (hx.ren ρ) n = baseId hx n := by cases hx <;> rfl
            refine AOp.append n hop hN (hT.ty _ _ hU) rfl (hT.ty _ _ hTe) h1.1 e1 e2 (sbase_sound hb) (ssrc_sound hT.ty hsr) (Nat.le_of_ble_eq_true h1.2.1) (Nat.le_of_ble_eq_true h1.2.2) fun ver => ?_
            rw [e3]
            have := hK ver
            simp only [HV.ren, upd_at, AObj.ren, renL_append] at this
            exact this
          · cases h
        · cases h
      · cases h
    · cases h
  · -- clear
    rename_i aa ts hop
    unfold opClear at h
    try simp only [evR_eq, hgetR_eq, hsetR_eq, sgetR_eq, putR_eq, aslR_eq, apartsR_eq] at h
    split at h
    · rename_i x t ha ht
      split at h
      · rename_i e sz by' z id ver k off m hU hx
        split at h
        · rename_i Te ver' k' e' xs hTe hg
          split at h
          · rename_i z' hz
            replace h := guardO_some h
            obtain ⟨h1, h⟩ := h
            replace h := guardO_some h
            obtain ⟨h2, h⟩ := h
            cases h
            simp only [Bool.and_eq_true] at h1
            have hv' := Nat.eq_of_beq_eq_true h1.1
            subst hv'
            have has : aa = #[x] := Array.toList_inj.1 (by simpa using ha)
            have hts : ts = #[t] := Array.toList_inj.1 (by simpa using ht)
            subst has hts
            refine set_ok (x := .arr k' e' xs) hs hg (by intros; simp) h2 rfl fun ρ ro K hK => ?_
            have e1 : (s.ren ρ).ev x = some (.ar id (ρ ver) k off m) := by rw [ev_ren, hx]; rfl
            refine AOp.clear hop hN (hT.ty _ _ hU) rfl (hT.ty _ _ hTe) hz e1 (hget_s ρ hg) (by rw [renL_len]; exact Nat.le_of_ble_eq_true h1.2) ?_
            have hzr : z'.ren ρ = z' := by
              have := zcells_ren ρ hz
              simp only [renL, List.cons.injEq, and_true] at this
              exact this
            have hrr : renL ρ (List.replicate m z') = List.replicate m z' := by rw [renL_map, List.map_replicate, hzr]
            simp only [AObj.ren, renL_append, renL_take, renL_drop, hrr] at hK
            exact hK
          · cases h
        · cases h
      · cases h
    · cases h
  · -- call
    rename_i f aa ts hop
    unfold opCall at h
    try simp only [evR_eq, hgetR_eq, hsetR_eq, sgetR_eq, putR_eq, aslR_eq, apartsR_eq] at h
    split at h
    · rename_i g fs cs hs' hf ha
      replace h := guardO_some h
      obtain ⟨h1, h⟩ := h
      split at h
      · rename_i rv H n1 hr1
        cases h
        obtain ⟨h2, h3, st, hc⟩ := hr _ _ hr1 h1 hsh
        have hsl := sc_slots_of hs
        refine ⟨sc_put (by simp only [AS.sc, scS_mono st.le _ hsl, h3, Bool.and_self]) h2, by rw [put_heap']; exact st, fun ρ ro K hK => ?_⟩
        have e1 : (s.ren ρ).ev f = some (.fn (.func g) (renL ρ fs) (renL ρ cs)) := by rw [ev_ren, hf]; rfl
        refine AOp.call hop rfl hN e1 (evL_sc ha ρ) ?_
        rw [← renL_append, ← renL_append]
        refine hc ρ _ fun ρ' hag => ?_
        have := hK ρ' hag
        rw [ren_put] at this
        have e2 : ({ s with heap := H } : AS).ren ρ' = { s.ren ρ with heap := renH ρ' H } := by
          simp only [AS.ren]
          rw [renS_agree hag _ hsl]
        rw [e2] at this
        exact this
      · cases h
    · rename_i id ver hs' hf ha
      exact yield_ok hr hN hs hop rfl hf ha h
    · cases h
  · -- build
    rename_i t ps hop
    unfold opBuild at h
    try simp only [evR_eq, hgetR_eq, hsetR_eq, sgetR_eq, putR_eq, aslR_eq, apartsR_eq] at h
    split at h
    · rename_i rv hb
      exact fin_ok hs h fun ρ ro K hK => AOp.build hop hN (sbuild_sound hT.ty hb hK)
    · cases h
  · -- makeMap
    rename_i t hop
    refine new_ok (ob := .map []) (h := .mp n n) hs (.inl rfl) (self n) h fun ρ ro K hK => ?_
    refine AOp.makeMap n hop hN fun ver => ?_
    have := hK ver
    simp only [HV.ren, upd_at, AObj.ren, renE] at this
    exact this
  · -- mapUpdate
    rename_i t m x y hop
    unfold opMapUpdate at h
    try simp only [evR_eq, hgetR_eq, hsetR_eq, sgetR_eq, putR_eq, aslR_eq, apartsR_eq] at h
    split at h
    · rename_i kt et sz by' z id ver k hv hU hm hx hy
      split at h
      · rename_i sz2 by2 z2 ver' es hTk hg
        replace h := guardO_some h
        obtain ⟨h1, h⟩ := h
        replace h := guardO_some h
        obtain ⟨h2, h⟩ := h
        cases h
        simp only [Bool.and_eq_true] at h1
        have hv' := Nat.eq_of_beq_eq_true h1.1
        subst hv'
        refine set_ok (x := .map es) hs hg (by intros; simp) h2 rfl fun ρ ro K hK => ?_
        have e1 : (s.ren ρ).ev m = some (.mp id (ρ ver)) := by rw [ev_ren, hm]; rfl
        have e2 : (s.ren ρ).ev x = some (.str k) := by rw [ev_ren, hx]; rfl
        have e3 : (s.ren ρ).ev y = some (hv.ren ρ) := by rw [ev_ren, hy]; rfl
        refine AOp.mapUpdate hop hN (hT.ty _ _ hU) rfl (hT.ty _ _ hTk) rfl e1 e2 e3 (hget_s ρ hg) (noIterB_sound h1.2) ?_
        simp only [AObj.ren, mput_ren] at hK
        exact hK
      · cases h
    · cases h
  · -- lookup
    rename_i t m x hop
    unfold opLookup at h
    try simp only [evR_eq, hgetR_eq, hsetR_eq, sgetR_eq, putR_eq, aslR_eq, apartsR_eq] at h
    split at h
    · rename_i kt et sz by' z id ver k hU hm hx
      split at h
      · rename_i sz2 by2 z2 Te ver' es hTk hTe hg
        split at h
        · rename_i z3 hz
          replace h := guardO_some h
          obtain ⟨h1, h⟩ := h
          have hv' := Nat.eq_of_beq_eq_true h1
          subst hv'
          refine fin_ok hs h fun ρ ro K hK => ?_
          have e1 : (s.ren ρ).ev m = some (.mp id (ρ ver)) := by rw [ev_ren, hm]; rfl
          have e2 : (s.ren ρ).ev x = some (.str k) := by rw [ev_ren, hx]; rfl
          refine AOp.lookup hop hN (hT.ty _ _ hU) rfl (hT.ty _ _ hTk) rfl (hT.ty _ _ hTe) hz e1 e2 (hget_s ρ hg) ?_
          rw [alook_ren]
          have h5 := constHV_ren ρ Te.zero
          rw [hz] at h5
          simp only [Option.map_some, Option.some.injEq] at h5
          cases hl : alook k es with
          | none => rw [hl] at hK; simp only [Option.getD_none, h5, Option.map_none] at hK ⊢; exact hK
          | some q => rw [hl] at hK; exact hK
        · cases h
      · cases h
    · cases h
  · -- range
    rename_i t m hop
    unfold opRange at h
    try simp only [evR_eq, hgetR_eq, hsetR_eq, sgetR_eq, putR_eq, aslR_eq, apartsR_eq] at h
    split at h
    · rename_i kt et sz by' z mid mver hU hm
      split at h
      · rename_i mver' es hg
        replace h := guardO_some h
        obtain ⟨h1, h⟩ := h
        have hv' := Nat.eq_of_beq_eq_true h1
        subst hv'
        have hlt := sch_get hsh hg
        refine new_ok (ob := .iter mid mver [] false) (h := .it n n) hs (.inl rfl) (self n) h fun ρ ro K hK => ?_
        have e1 : (s.ren ρ).ev m = some (.mp mid (ρ mver)) := by rw [ev_ren, hm]; rfl
        refine AOp.range n hop hN (hT.ty _ _ hU) rfl e1 (hget_s ρ hg) (by have := hlt.1.1; omega) fun ver => ?_
        have := hK ver
        simp only [HV.ren, upd_at, AObj.ren] at this
        exact this
      · cases h
    · cases h
  · -- next
    rename_i x hop
    unfold opNext at h
    try simp only [evR_eq, hgetR_eq, hsetR_eq, sgetR_eq, putR_eq, aslR_eq, apartsR_eq] at h
    split at h
    · rename_i id ver hx
      split at h
      · rename_i ver' mid mver seen cur hg
        split at h
        · rename_i mver' es hgm
          replace h := guardO_some h
          obtain ⟨h1, h⟩ := h
          simp only [Bool.and_eq_true] at h1
          have hv' := Nat.eq_of_beq_eq_true h1.1
          subst hv'
          have hv' := Nat.eq_of_beq_eq_true h1.2
          subst hv'
          split at h
          · rename_i hu
            refine fin_ok hs h fun ρ ro K hK => ?_
            have e1 : (s.ren ρ).ev x = some (.it id (ρ ver)) := by rw [ev_ren, hx]; rfl
            refine AOp.next hop hN e1 (hget_s ρ hg) (hget_s ρ hgm) (fun _ => hK) fun k v hkv hks => ?_
            obtain ⟨u, hu1, _⟩ := mem_renE hkv
            have := mem_unseen.2 ⟨hu1, hks⟩
            rw [hu] at this
            cases this
          · rename_i k v hu
            replace h := guardO_some h
            obtain ⟨h2, h⟩ := h
            cases h
            have hlm := sch_get hsh hgm
            refine set_ok (x := .iter mid mver seen cur) hs hg (by intros; simp) (by simp only [AObj.sc]; simpa [Nat.blt_eq] using hlm.1.2) (by simp only [HV.sc, scL, h2, Bool.and_self]) fun ρ ro K hK => ?_
            have e1 : (s.ren ρ).ev x = some (.it id (ρ ver)) := by rw [ev_ren, hx]; rfl
            refine AOp.next hop hN e1 (hget_s ρ hg) (hget_s ρ hgm) (fun hall => ?_) fun k' v' hkv hks => ?_
            · have hm : (k, v) ∈ unseen seen es := by rw [hu]; exact List.mem_cons_self ..
              obtain ⟨h3, h4⟩ := mem_unseen.1 hm
              exact absurd (hall _ (mem_renE' h3)) h4
            · obtain ⟨u, hu1, rfl⟩ := mem_renE hkv
              have := mem_unseen.2 ⟨hu1, hks⟩
              rw [hu] at this
              simp only [List.mem_singleton] at this
              cases this
              exact hK
          · cases h
        · cases h
      · cases h
    · cases h
  · -- entry
    rename_i x hop
    unfold opEntry at h
    try simp only [evR_eq, hgetR_eq, hsetR_eq, sgetR_eq, putR_eq, aslR_eq, apartsR_eq] at h
    split at h
    · rename_i id ver hx
      split at h
      · rename_i ver' mid mver k seen hg
        split at h
        · rename_i mver' es hgm
          replace h := guardO_some h
          obtain ⟨h1, h⟩ := h
          simp only [Bool.and_eq_true] at h1
          have hv' := Nat.eq_of_beq_eq_true h1.1
          subst hv'
          have hv' := Nat.eq_of_beq_eq_true h1.2
          subst hv'
          split at h
          · rename_i v hl
            refine fin_ok hs h fun ρ ro K hK => ?_
            have e1 : (s.ren ρ).ev x = some (.it id (ρ ver)) := by rw [ev_ren, hx]; rfl
            have e2 : alook k (renE ρ es) = some (v.ren ρ) := by rw [alook_ren, hl]; rfl
            exact AOp.entry hop hN e1 (hget_s ρ hg) (hget_s ρ hgm) e2 hK
          · cases h
        · cases h
      · cases h
    · cases h
  · exact sval_ok hT hN hs h

end
end Go.AW
