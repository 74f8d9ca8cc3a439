/- SyncmarkDamaged: for every input the law's function returns true, and the input reads as it did. -/
import Derived.Test.YtnjepajbbkejeaaGreatDm5
import Derived.ChangeMaps5
import Derived.HandedShaped
import Derived.OpenShut
import Derived.ProofKit
import Derived.SliceStrings
import Derived.Test.YtnjepajbbkejeaaGreatRows
import Derived.WalkKit
import Derived.WideKeyArgs
/- Marks: what has been read of a mark behind a word; bad words; the first of them. -/
namespace Go.AW
open Go
set_option linter.unusedVariables false
set_option linter.unusedSimpArgs false
def lpM (mark w : List UInt8) : Nat := fgo mark w (min w.length mark.length)
theorem fgo_suf (mark w : List UInt8) : ∀ n, mark.take (fgo mark w n) <:+ w
  | 0 => by unfold fgo; rw [List.take_zero]; exact List.nil_suffix
  | n + 1 => by
    unfold fgo
    split
    · rename_i h; exact List.isSuffixOf_iff_suffix.1 h
    · exact fgo_suf mark w n
theorem fgo_max (mark w : List UInt8) : ∀ (n k : Nat), k ≤ n → mark.take k <:+ w → k ≤ fgo mark w n
  | 0, k, hk, _ => by omega
  | n + 1, k, hk, h => by
    unfold fgo
    split
    · exact hk
    · rename_i hn
      by_cases e : k = n + 1
      · subst e; exact absurd (List.isSuffixOf_iff_suffix.2 h) hn
      · exact fgo_max mark w n k (by omega) h
theorem lpM_le (mark w : List UInt8) : lpM mark w ≤ w.length ∧ lpM mark w ≤ mark.length := by
  have := fgo_le mark w (min w.length mark.length)
  unfold lpM
  omega
theorem foll_lpM (mark : List UInt8) (k : Nat) (c : UInt8) : foll mark k c = lpM mark (mark.take k ++ [c]) := rfl
theorem lpM_step (mark w : List UInt8) (c : UInt8) : lpM mark (w ++ [c]) = foll mark (lpM mark w) c := by
  rw [foll_lpM]
  obtain ⟨hk1, hk2⟩ := lpM_le mark w
  have hks : mark.take (lpM mark w) <:+ w := fgo_suf _ _ _
  refine Nat.le_antisymm ?_ ?_
  · obtain ⟨hj1, hj2⟩ := lpM_le mark (w ++ [c])
    have hjs : mark.take (lpM mark (w ++ [c])) <:+ w ++ [c] := fgo_suf _ _ _
    generalize lpM mark (w ++ [c]) = j at hj1 hj2 hjs ⊢
    cases j with
    | zero => exact Nat.zero_le _
    | succ i =>
      rw [List.length_append, List.length_singleton] at hj1
      have e : mark.take (i + 1) = mark.take i ++ [mark[i]] := by rw [List.take_append_getElem]
      obtain ⟨h1, h2⟩ : mark.take i <:+ w ∧ mark[i] = c := by
        obtain ⟨p, hp⟩ := hjs
        rw [e, ← List.append_assoc] at hp
        obtain ⟨h1, h2⟩ := List.append_inj' hp rfl
        exact ⟨⟨p, h1⟩, by simpa using h2⟩
      have hik : i ≤ lpM mark w := fgo_max _ _ _ _ (by omega) h1
      have hs : mark.take i <:+ mark.take (lpM mark w) := List.suffix_of_suffix_length_le h1 hks (by rw [List.length_take, List.length_take]; omega)
      refine fgo_max _ _ _ _ ?_ ?_
      · rw [List.length_append, List.length_take, List.length_singleton]; omega
      · rw [e, h2]
        obtain ⟨p, hp⟩ := hs
        exact ⟨p, by rw [← List.append_assoc, hp]⟩
  · obtain ⟨hj1, hj2⟩ := lpM_le mark (mark.take (lpM mark w) ++ [c])
    have hjs : mark.take (lpM mark (mark.take (lpM mark w) ++ [c])) <:+ mark.take (lpM mark w) ++ [c] := fgo_suf _ _ _
    refine fgo_max _ _ _ _ ?_ ?_
    · rw [List.length_append, List.length_take, List.length_singleton] at hj1
      rw [List.length_append, List.length_singleton]
      omega
    · refine hjs.trans ?_
      obtain ⟨p, hp⟩ := hks
      exact ⟨p, by rw [← List.append_assoc, hp]⟩
theorem lpM_full (mark w : List UInt8) : lpM mark w = mark.length ↔ mark <:+ w := by
  constructor
  · intro h
    have := fgo_suf mark w (min w.length mark.length)
    rw [show fgo mark w (min w.length mark.length) = mark.length from h, List.take_length] at this
    exact this
  · intro h
    have h1 := h.length_le
    have := fgo_max mark w (min w.length mark.length) mark.length (by omega) (by rw [List.take_length]; exact h)
    have h2 := (lpM_le mark w).2
    unfold lpM at h2 ⊢
    omega
theorem lpM_self (mark : List UInt8) : lpM mark mark = mark.length := (lpM_full _ _).2 (List.suffix_refl _)

def badG (mark : List UInt8) : List UInt8 → Nat → Bool → Bool
  | [], n, b => endsG mark mark n || b
  | c :: u, n, b => badG mark u (foll mark n c) (b || decide (foll mark n c = mark.length))
theorem endsG_iff (mark : List UInt8) : ∀ (cs w : List UInt8), endsG mark cs (lpM mark w) = true ↔ ∃ i, 1 ≤ i ∧ i < cs.length ∧ mark <:+ w ++ cs.take i
  | [], w => by
    constructor
    · intro h; cases h
    · rintro ⟨i, _, h, _⟩; simp at h
  | c :: cs, w => by
    unfold endsG
    rw [← lpM_step]
    have ih := endsG_iff mark cs (w ++ [c])
    constructor
    · intro h
      split at h
      · rename_i hc
        refine ⟨1, Nat.le_refl _, ?_, ?_⟩
        · have := List.length_pos_iff.2 hc.2
          rw [List.length_cons]; omega
        · rw [List.take_succ_cons, List.take_zero]
          exact (lpM_full _ _).1 hc.1
      · obtain ⟨i, h1, h2, h3⟩ := ih.1 h
        refine ⟨i + 1, by omega, by rw [List.length_cons]; omega, ?_⟩
        rw [List.take_succ_cons]
        rw [List.append_assoc] at h3
        exact h3
    · rintro ⟨i, h1, h2, h3⟩
      split
      · rfl
      · rename_i hc
        rw [List.length_cons] at h2
        obtain ⟨k, rfl⟩ : ∃ k, i = k + 1 := ⟨i - 1, by omega⟩
        rw [List.take_succ_cons] at h3
        cases k with
        | zero =>
          rw [List.take_zero] at h3
          exact absurd ⟨(lpM_full _ _).2 h3, List.length_pos_iff.1 (by omega)⟩ hc
        | succ k => exact ih.2 ⟨k + 1, by omega, by omega, by rw [List.append_assoc]; exact h3⟩
theorem badG_iff {mark : List UInt8} (hm : mark ≠ []) : ∀ (u w : List UInt8) (b : Bool), badG mark u (lpM mark w) b = true ↔ b = true ∨ ∃ i, 1 ≤ i ∧ i < (u ++ mark).length ∧ mark <:+ w ++ (u ++ mark).take i
  | [], w, b => by
    unfold badG
    rw [Bool.or_eq_true, endsG_iff, List.nil_append, or_comm]
  | c :: u, w, b => by
    unfold badG
    rw [← lpM_step, badG_iff hm u (w ++ [c])]
    have hl := List.length_pos_iff.2 hm
    simp only [Bool.or_eq_true, decide_eq_true_eq, lpM_full, or_assoc]
    refine or_congr Iff.rfl ?_
    constructor
    · rintro (h | ⟨i, h1, h2, h3⟩)
      · refine ⟨1, Nat.le_refl _, ?_, by simpa using h⟩
        rw [List.length_append, List.length_cons]; omega
      · refine ⟨i + 1, by omega, by simp at h2 ⊢; omega, ?_⟩
        rw [List.cons_append, List.take_succ_cons]
        rw [List.append_assoc] at h3
        exact h3
    · rintro ⟨i, h1, h2, h3⟩
      obtain ⟨k, rfl⟩ : ∃ k, i = k + 1 := ⟨i - 1, by omega⟩
      rw [List.cons_append, List.take_succ_cons] at h3
      cases k with
      | zero => exact .inl (by simpa using h3)
      | succ k => exact .inr ⟨k + 1, by omega, by simp at h2 ⊢; omega, by rw [List.append_assoc]; exact h3⟩
def badU (mark u : List UInt8) : Bool := badG mark u mark.length false
theorem suf_at {mark w : List UInt8} {i : Nat} (h : i ≤ w.length) : mark <:+ mark ++ w.take i ↔ ((mark ++ w).take (i + mark.length)).drop i = mark := by
  have e : (mark ++ w).take (i + mark.length) = mark ++ w.take i := by
    rw [List.take_append, List.take_of_length_le (by omega), show i + mark.length - mark.length = i by omega]
  rw [e, List.suffix_iff_eq_drop, List.length_append, List.length_take, show mark.length + min i w.length - mark.length = i by omega]
  exact eq_comm
theorem badU_iff {mark u : List UInt8} (hm : mark ≠ []) : badU mark u = true ↔ ∃ i, 1 ≤ i ∧ i + mark.length < (mark ++ u ++ mark).length ∧ ((mark ++ u ++ mark).take (i + mark.length)).drop i = mark := by
  unfold badU
  conv => lhs; rw [← lpM_self mark]
  rw [badG_iff hm]
  have hl : (mark ++ u ++ mark).length = mark.length + (u ++ mark).length := by rw [List.append_assoc, List.length_append]
  constructor
  · rintro (h | ⟨i, h1, h2, h3⟩)
    · cases h
    · exact ⟨i, h1, by omega, by rw [List.append_assoc]; exact (suf_at (by omega)).1 h3⟩
  · rintro ⟨i, h1, h2, h3⟩
    rw [List.append_assoc] at h3
    exact .inr ⟨i, h1, by omega, (suf_at (by omega)).2 h3⟩

section
variable {g : Gr} {mark : List UInt8}
theorem letB_mem (hv : VG g) (h16 : g.1 ≤ 16) {a : Int} (h0 : 0 ≤ a) (h1 : a < g.1) : letB a ∈ lets g ∧ lab (letB a) = a := by
  have hl : a.toNat < letters.length := by rw [letters_len]; omega
  have e : letB a = letters[a.toNat] := by unfold letB; rw [List.getD_eq_getElem?_getD, List.getElem?_eq_getElem hl]; rfl
  rw [e]
  refine ⟨?_, ?_⟩
  · unfold lets
    exact List.mem_take_iff_getElem.2 ⟨a.toNat, by rw [letters_len] at hl ⊢; omega, rfl⟩
  · have := idx_letter hl
    unfold lab
    rw [this]
    omega
theorem lets_lab (hv : VG g) (h16 : g.1 ≤ 16) {c : UInt8} (hc : c ∈ lets g) : 0 ≤ lab c ∧ lab c < g.1 ∧ letB (lab c) = c := by
  obtain ⟨i, hi, hg, rfl, e⟩ := lab_mem hc
  rw [e]
  refine ⟨Int.natCast_nonneg _, hg, ?_⟩
  unfold letB
  rw [Int.toNat_natCast, List.getD_eq_getElem?_getD, List.getElem?_eq_getElem hi]
  rfl
theorem canF_iff (hv : VG g) (h16 : g.1 ≤ 16) : ∀ (n : Nat) (p : TStateReadBadLeft), 0 ≤ p.1 → p.1 < g.2.1 → (canF g.2.2 mark n p = true ↔ ∃ u : List UInt8, u.length = n ∧ (∀ c ∈ u, c ∈ lets g) ∧ canR g u p.1 ∧ badG mark u p.2.1.toNat p.2.2.1 = true)
  | 0, p, h0, h1 => by
    unfold canF endsF
    constructor
    · intro h; exact ⟨[], rfl, fun _ h => by simp at h, canR_nil h0 h1, h⟩
    · rintro ⟨u, hu, _, _, h⟩
      cases List.eq_nil_of_length_eq_zero hu
      exact h
  | n + 1, p, h0, h1 => by
    unfold canF
    rw [List.any_eq_true]
    constructor
    · rintro ⟨x, hx, h⟩
      obtain ⟨hxE, hxp⟩ := List.mem_filter.1 hx
      have hxp := of_decide_eq_true hxp
      obtain ⟨e1, e2, e3, e4, e5, e6⟩ := hv.ed x hxE
      obtain ⟨u, hu, hul, hc, hb⟩ := (canF_iff hv h16 n (stepF mark p x) e3 e4).1 h
      obtain ⟨l1, l2⟩ := letB_mem hv h16 e5 e6
      refine ⟨letB x.2.1 :: u, by rw [List.length_cons, hu], fun c hc => ?_, (canR_cons h0 h1).2 ⟨x, hxE, hxp, l2.symm, hc⟩, ?_⟩
      · rcases List.mem_cons.1 hc with rfl | hc
        · exact l1
        · exact hul c hc
      · unfold badG
        exact hb
    · rintro ⟨u, hu, hul, hc, hb⟩
      cases u with
      | nil => simp at hu
      | cons c u =>
        obtain ⟨x, hxE, hx1, hx2, hx3⟩ := (canR_cons h0 h1).1 hc
        obtain ⟨e1, e2, e3, e4, e5, e6⟩ := hv.ed x hxE
        obtain ⟨l1, l2, l3⟩ := lets_lab hv h16 (hul c (List.mem_cons_self ..))
        refine ⟨x, List.mem_filter.2 ⟨hxE, decide_eq_true hx1⟩, (canF_iff hv h16 n (stepF mark p x) e3 e4).2 ⟨u, by simpa using hu, fun d hd => hul d (List.mem_cons_of_mem _ hd), hx3, ?_⟩⟩
        unfold badG at hb
        have e : letB x.2.1 = c := by rw [hx2, l3]
        show badG mark u ((foll mark p.2.1.toNat (letB x.2.1) : Nat) : Int).toNat (p.2.2.1 || decide (foll mark p.2.1.toNat (letB x.2.1) = mark.length)) = true
        rw [Int.toNat_natCast, e]
        exact hb

theorem mem_aft1 {f : TStateReadBadLeft → Bool} {stp : TStateReadBadLeft → TFromLabelTo → TStateReadBadLeft} {a : Int} {p q : TStateReadBadLeft} : ∀ (l : List TFromLabelTo) (acc : List TStateReadBadLeft), q ∈ l.foldl (aft1 f stp a p) acc ↔ q ∈ acc ∨ (f q = true ∧ ∃ x ∈ l, x.2.1 = a ∧ q = stp p x)
  | [], acc => by simp
  | x :: l, acc => by
    rw [List.foldl_cons, mem_aft1 l]
    have h : q ∈ aft1 f stp a p acc x ↔ q ∈ acc ∨ (f q = true ∧ x.2.1 = a ∧ q = stp p x) := by
      unfold aft1
      split
      · rename_i h1
        split
        · rename_i h2
          exact ⟨.inl, fun h => h.elim id fun ⟨_, _, e⟩ => by rw [e]; exact h2⟩
        · split
          · rename_i h3
            rw [List.mem_append, List.mem_singleton]
            exact or_congr Iff.rfl ⟨fun e => ⟨by rw [e]; exact h3, h1, e⟩, fun h => h.2.2⟩
          · rename_i h3
            exact ⟨.inl, fun h => h.elim id fun ⟨h4, _, e⟩ => absurd (by rw [← e]; exact h4) h3⟩
      · rename_i h1
        exact ⟨.inl, fun h => h.elim id fun ⟨_, h4, _⟩ => absurd h4 h1⟩
    rw [h, or_assoc]
    refine or_congr Iff.rfl ?_
    constructor
    · rintro (⟨h1, h2, h3⟩ | ⟨h1, y, hy, h2, h3⟩)
      · exact ⟨h1, x, List.mem_cons_self .., h2, h3⟩
      · exact ⟨h1, y, List.mem_cons_of_mem _ hy, h2, h3⟩
    · rintro ⟨h1, y, hy, h2, h3⟩
      rcases List.mem_cons.1 hy with rfl | hy
      · exact .inl ⟨h1, h2, h3⟩
      · exact .inr ⟨h1, y, hy, h2, h3⟩
theorem mem_aft {f : TStateReadBadLeft → Bool} {stp : TStateReadBadLeft → TFromLabelTo → TStateReadBadLeft} {lv : Int → List TFromLabelTo} {a : Int} {q : TStateReadBadLeft} (now : List TStateReadBadLeft) : q ∈ aft f stp lv now a ↔ f q = true ∧ ∃ p ∈ now, ∃ x ∈ lv p.1, x.2.1 = a ∧ q = stp p x := by
  have h : ∀ (l acc : List TStateReadBadLeft), q ∈ l.foldl (aftP f stp lv a) acc ↔ q ∈ acc ∨ (f q = true ∧ ∃ p ∈ l, ∃ x ∈ lv p.1, x.2.1 = a ∧ q = stp p x) := by
    intro l
    induction l with
    | nil => simp
    | cons p l ih =>
      intro acc
      rw [List.foldl_cons, ih]
      unfold aftP
      rw [mem_aft1, or_assoc]
      refine or_congr Iff.rfl ?_
      constructor
      · rintro (⟨h1, x, hx, h2⟩ | ⟨h1, p', hp, h2⟩)
        · exact ⟨h1, p, List.mem_cons_self .., x, hx, h2⟩
        · exact ⟨h1, p', List.mem_cons_of_mem _ hp, h2⟩
      · rintro ⟨h1, p', hp, x, hx, h2⟩
        rcases List.mem_cons.1 hp with rfl | hp
        · exact .inl ⟨h1, x, hx, h2⟩
        · exact .inr ⟨h1, p', hp, x, hx, h2⟩
  unfold aft
  rw [h]
  simp
theorem firstA_some {f : TStateReadBadLeft → Bool} {stp : TStateReadBadLeft → TFromLabelTo → TStateReadBadLeft} {lv : Int → List TFromLabelTo} {now : List TStateReadBadLeft} : ∀ (k s : Nat), (∃ a : Nat, s ≤ a ∧ a < s + k ∧ aft f stp lv now (a : Int) ≠ []) → ∃ a : Nat, s ≤ a ∧ a < s + k ∧ aft f stp lv now (a : Int) ≠ [] ∧ firstA f stp lv now ((List.range' s k).map Int.ofNat) = some ((a : Int), aft f stp lv now (a : Int)) ∧ ∀ b : Nat, s ≤ b → b < a → aft f stp lv now (b : Int) = []
  | 0, s, ⟨a, h1, h2, _⟩ => by omega
  | k + 1, s, ⟨a, h1, h2, h3⟩ => by
    by_cases e : aft f stp lv now (s : Int) = []
    · obtain ⟨c, c1, c2, c3, c4, c5⟩ := firstA_some (f := f) (stp := stp) (lv := lv) (now := now) k (s + 1) ⟨a, by
        rcases Nat.lt_or_ge s a with h | h
        · omega
        · have : a = s := by omega
          subst this; exact absurd e h3, by omega, h3⟩
      refine ⟨c, by omega, by omega, c3, ?_, fun b hb1 hb2 => ?_⟩
      · rw [List.range'_succ, List.map_cons]
        unfold firstA
        rw [if_neg (fun hn => hn e)]
        exact c4
      · by_cases eb : b = s
        · subst eb; exact e
        · exact c5 b (by omega) hb2
    · refine ⟨s, Nat.le_refl _, by omega, e, ?_, fun b hb1 hb2 => by omega⟩
      rw [List.range'_succ, List.map_cons]
      unfold firstA
      exact if_pos e
def goes (g : Gr) (mark : List UInt8) (now : List TStateReadBadLeft) (u : List UInt8) : Prop := (∀ c ∈ u, c ∈ lets g) ∧ ∃ p ∈ now, canR g u p.1 ∧ badG mark u p.2.1.toNat p.2.2.1 = true
theorem letters_lt {i j : Nat} (hi : i < letters.length) (hj : j < letters.length) (h : i < j) : letters[i] < letters[j] := by
  have : ∀ a b : Fin 16, a.1 < b.1 → letters[a.1]'(show a.1 < letters.length from a.2) < letters[b.1]'(show b.1 < letters.length from b.2) := by decide
  exact this ⟨i, hi⟩ ⟨j, hj⟩ h
theorem lets_lt_lab (hv : VG g) (h16 : g.1 ≤ 16) {c d : UInt8} (hc : c ∈ lets g) (hd : d ∈ lets g) (h : c < d) : lab c < lab d := by
  obtain ⟨i, hi, _, rfl, e⟩ := lab_mem hc
  obtain ⟨j, hj, _, rfl, f⟩ := lab_mem hd
  rw [e, f]
  rcases Nat.lt_trichotomy i j with h1 | h1 | h1
  · omega
  · subst h1; exact absurd h (UInt8.lt_irrefl _)
  · exact absurd (UInt8.lt_trans h (letters_lt hj hi h1)) (UInt8.lt_irrefl _)
theorem goes_cons (hv : VG g) (h16 : g.1 ≤ 16) {n : Nat} {now : List TStateReadBadLeft} (hn : ∀ p ∈ now, (0 ≤ p.1 ∧ p.1 < g.2.1) ∧ 0 ≤ p.2.1 ∧ p.2.2.2 = (n : Int) + 1) {c : UInt8} (hc : c ∈ lets g) {u : List UInt8} (hu : u.length = n) :
    goes g mark now (c :: u) ↔ goes g mark (aft (canP g.2.2 mark) (stepF mark) (leav g.2.2) now (lab c)) u := by
  obtain ⟨l1, l2, l3⟩ := lets_lab hv h16 hc
  unfold goes
  constructor
  · rintro ⟨h1, p, hp, h2, h3⟩
    refine ⟨fun d hd => h1 d (List.mem_cons_of_mem _ hd), ?_⟩
    obtain ⟨⟨p0, p1⟩, p2, p3⟩ := hn p hp
    obtain ⟨x, hxE, hx1, hx2, hx3⟩ := (canR_cons p0 p1).1 h2
    obtain ⟨e1, e2, e3, e4, e5, e6⟩ := hv.ed x hxE
    have e : letB x.2.1 = c := by rw [hx2, l3]
    have hb : badG mark u (stepF mark p x).2.1.toNat (stepF mark p x).2.2.1 = true := by
      show badG mark u ((foll mark p.2.1.toNat (letB x.2.1) : Nat) : Int).toNat (p.2.2.1 || decide (foll mark p.2.1.toNat (letB x.2.1) = mark.length)) = true
      rw [Int.toNat_natCast, e]
      unfold badG at h3
      exact h3
    refine ⟨stepF mark p x, (mem_aft now).2 ⟨?_, p, hp, x, List.mem_filter.2 ⟨hxE, decide_eq_true hx1⟩, hx2, rfl⟩, hx3, hb⟩
    unfold canP
    have hl : (stepF mark p x).2.2.2.toNat = n := by show (p.2.2.2 - 1).toNat = n; omega
    rw [hl]
    exact (canF_iff hv h16 n _ e3 e4).2 ⟨u, hu, fun d hd => h1 d (List.mem_cons_of_mem _ hd), hx3, hb⟩
  · rintro ⟨h1, q, hq, h2, h3⟩
    obtain ⟨h4, p, hp, x, hx, hx2, rfl⟩ := (mem_aft now).1 hq
    obtain ⟨hxE, hx1⟩ := List.mem_filter.1 hx
    have hx1 := of_decide_eq_true hx1
    obtain ⟨⟨p0, p1⟩, p2, p3⟩ := hn p hp
    refine ⟨fun d hd => ?_, p, hp, (canR_cons p0 p1).2 ⟨x, hxE, hx1, hx2, h2⟩, ?_⟩
    · rcases List.mem_cons.1 hd with rfl | hd
      · exact hc
      · exact h1 d hd
    · have e : letB x.2.1 = c := by rw [hx2, l3]
      have h3 : badG mark u ((foll mark p.2.1.toNat (letB x.2.1) : Nat) : Int).toNat (p.2.2.1 || decide (foll mark p.2.1.toNat (letB x.2.1) = mark.length)) = true := h3
      rw [Int.toNat_natCast, e] at h3
      unfold badG
      exact h3
theorem grow_spec (hv : VG g) (h16 : g.1 ≤ 16) : ∀ (n : Nat) (now : List TStateReadBadLeft), now ≠ [] → (∀ p ∈ now, canP g.2.2 mark p = true ∧ (0 ≤ p.1 ∧ p.1 < g.2.1) ∧ 0 ≤ p.2.1 ∧ p.2.2.2 = (n : Int)) →
    (growF (canP g.2.2 mark) (stepF mark) (leav g.2.2) g.1 n now).length = n ∧ goes g mark now (growF (canP g.2.2 mark) (stepF mark) (leav g.2.2) g.1 n now) ∧ ∀ v : List UInt8, v.length = n → goes g mark now v → ¬ v < growF (canP g.2.2 mark) (stepF mark) (leav g.2.2) g.1 n now
  | 0, now, hne, hn => by
    refine ⟨rfl, ⟨fun _ h => (by cases h), ?_⟩, fun v _ _ h => (by cases h)⟩
    obtain ⟨p, hp⟩ := List.exists_mem_of_ne_nil _ hne
    obtain ⟨h1, ⟨p0, p1⟩, p2, p3⟩ := hn p hp
    unfold canP at h1
    rw [p3] at h1
    obtain ⟨u, hu, _, hc, hb⟩ := (canF_iff hv h16 _ _ p0 p1).1 h1
    cases List.eq_nil_of_length_eq_zero hu
    exact ⟨p, hp, hc, hb⟩
  | n + 1, now, hne, hn => by
    have hn1 : ∀ p ∈ now, (0 ≤ p.1 ∧ p.1 < g.2.1) ∧ 0 ≤ p.2.1 ∧ p.2.2.2 = (n : Int) + 1 := fun p hp => by
      obtain ⟨_, h2, h3, h4⟩ := hn p hp
      exact ⟨h2, h3, by omega⟩
    have hgo : ∀ a : Nat, (a : Int) < g.1 → aft (canP g.2.2 mark) (stepF mark) (leav g.2.2) now (a : Int) ≠ [] → ∀ p ∈ aft (canP g.2.2 mark) (stepF mark) (leav g.2.2) now (a : Int), canP g.2.2 mark p = true ∧ (0 ≤ p.1 ∧ p.1 < g.2.1) ∧ 0 ≤ p.2.1 ∧ p.2.2.2 = (n : Int) := by
      intro a _ _ q hq
      obtain ⟨h4, p, hp, x, hx, hx2, rfl⟩ := (mem_aft now).1 hq
      obtain ⟨hxE, hx1⟩ := List.mem_filter.1 hx
      obtain ⟨e1, e2, e3, e4, e5, e6⟩ := hv.ed x hxE
      obtain ⟨_, _, _, p3⟩ := hn p hp
      exact ⟨h4, ⟨e3, e4⟩, Int.natCast_nonneg _, by show p.2.2.2 - 1 = (n : Int); omega⟩
    obtain ⟨a, _, ha2, ha3, ha4, ha5⟩ := firstA_some (f := canP g.2.2 mark) (stp := stepF mark) (lv := leav g.2.2) (now := now) g.1.toNat 0 (by
      obtain ⟨p, hp⟩ := List.exists_mem_of_ne_nil _ hne
      obtain ⟨h1, ⟨p0, p1⟩, p2, p3⟩ := hn p hp
      have h1' := h1
      unfold canP at h1
      rw [p3, show ((n + 1 : Nat) : Int).toNat = n + 1 by omega] at h1
      obtain ⟨u, hu, hul, hc, hb⟩ := (canF_iff hv h16 _ _ p0 p1).1 h1
      cases u with
      | nil => simp at hu
      | cons c u =>
        have hcl := hul c (List.mem_cons_self ..)
        have hgc : goes g mark now (c :: u) := ⟨hul, p, hp, hc, hb⟩
        obtain ⟨_, q, hq, _⟩ := (goes_cons hv h16 hn1 hcl (by simpa using hu)).1 hgc
        obtain ⟨l1, l2, l3⟩ := lets_lab hv h16 hcl
        refine ⟨(lab c).toNat, Nat.zero_le _, by omega, fun e => ?_⟩
        rw [show (((lab c).toNat : Nat) : Int) = lab c by omega] at e
        rw [e] at hq
        cases hq)
    have haL : (a : Int) < g.1 := by omega
    obtain ⟨q1, q2, q3⟩ := grow_spec hv h16 n _ ha3 (hgo a haL ha3)
    have hG : growF (canP g.2.2 mark) (stepF mark) (leav g.2.2) g.1 (n + 1) now = letB (a : Int) :: growF (canP g.2.2 mark) (stepF mark) (leav g.2.2) g.1 n (aft (canP g.2.2 mark) (stepF mark) (leav g.2.2) now (a : Int)) := by
      conv => lhs; unfold growF
      rw [List.range_eq_range', ha4]
    rw [hG]
    obtain ⟨m1, m2⟩ := letB_mem hv h16 (Int.natCast_nonneg a) haL
    refine ⟨by rw [List.length_cons, q1], (goes_cons hv h16 hn1 m1 q1).2 (by rw [m2]; exact q2), fun v hv1 hv2 hlt => ?_⟩
    cases v with
    | nil => simp at hv1
    | cons d v =>
      have hd := hv2.1 d (List.mem_cons_self ..)
      have hv3 := (goes_cons hv h16 hn1 hd (by simpa using hv1)).1 hv2
      obtain ⟨l1, l2, l3⟩ := lets_lab hv h16 hd
      have hda : a ≤ (lab d).toNat := by
        apply Classical.byContradiction
        intro hno
        have := ha5 (lab d).toNat (Nat.zero_le _) (by omega)
        rw [show (((lab d).toNat : Nat) : Int) = lab d by omega] at this
        obtain ⟨_, q, hq, _⟩ := hv3
        rw [this] at hq
        cases hq
      rcases List.cons_lt_cons_iff.1 hlt with h | ⟨h1, h2⟩
      · have := lets_lt_lab hv h16 hd m1 h
        rw [m2] at this
        omega
      · have : lab d = (a : Int) := by rw [h1, m2]
        rw [this] at hv3
        exact q3 v (by simpa using hv1) hv3 h2
theorem mem_startF {n : Int} {p : TStateReadBadLeft} : p ∈ startF g mark n ↔ (0 ≤ p.1 ∧ p.1 < g.2.1) ∧ p.2 = ((mark.length : Int), false, n) ∧ canP g.2.2 mark p = true := by
  unfold startF
  rw [List.mem_filter, List.mem_map]
  constructor
  · rintro ⟨⟨t, ht, rfl⟩, h⟩
    rw [List.mem_range] at ht
    exact ⟨⟨Int.natCast_nonneg _, by dsimp only; omega⟩, rfl, h⟩
  · rintro ⟨⟨h0, h1⟩, h2, h3⟩
    refine ⟨⟨p.1.toNat, List.mem_range.2 (by omega), ?_⟩, h3⟩
    obtain ⟨p1, p2⟩ := p
    dsimp only at h0 h1 h2 ⊢
    rw [h2, show ((p1.toNat : Nat) : Int) = p1 by omega]
theorem goes_start (hv : VG g) (h16 : g.1 ≤ 16) {n : Nat} {u : List UInt8} (hu : u.length = n) : goes g mark (startF g mark n) u ↔ (u ∈ allW (lets g) n ∧ accB g u = true) ∧ badU mark u = true := by
  unfold goes accB badU
  rw [mem_allW, decide_eq_true_eq, can_iff hv u (upto_ok g)]
  constructor
  · rintro ⟨h1, p, hp, h2, h3⟩
    obtain ⟨⟨p0, p1⟩, p2, p3⟩ := mem_startF.1 hp
    refine ⟨⟨⟨hu, h1⟩, p.1, mem_upto.2 ⟨p0, p1⟩, h2⟩, ?_⟩
    rw [p2] at h3
    exact h3
  · rintro ⟨⟨⟨_, h1⟩, s, hs, h2⟩, h3⟩
    obtain ⟨s0, s1⟩ := mem_upto.1 hs
    refine ⟨h1, (s, (mark.length : Int), false, (n : Int)), mem_startF.2 ⟨⟨s0, s1⟩, rfl, ?_⟩, h2, h3⟩
    unfold canP
    dsimp only
    rw [Int.toNat_natCast]
    exact (canF_iff hv h16 n _ s0 s1).2 ⟨u, hu, h1, h2, h3⟩
def badsW (g : Gr) (mark : List UInt8) (n : Nat) : List (List UInt8) := ((allW (lets g) n).filter (accB g)).filter (badU mark)
theorem badF_eq (hv : VG g) (h16 : g.1 ≤ 16) (n : Nat) : badF g mark n = ((badsW g mark n).headD [], decide (badsW g mark n ≠ [])) := by
  have hmem : ∀ u, u ∈ badsW g mark n ↔ u.length = n ∧ goes g mark (startF g mark n) u := fun u => by
    unfold badsW
    rw [List.mem_filter, List.mem_filter]
    constructor
    · intro h
      have hl := (mem_allW.1 h.1.1).1
      exact ⟨hl, (goes_start hv h16 hl).2 h⟩
    · rintro ⟨hl, h⟩
      exact (goes_start hv h16 hl).1 h
  have hasc : (badsW g mark n).Pairwise (· < ·) := ((allW_asc (lets_asc g) n).filter _).filter _
  unfold badF
  by_cases hs : startF g mark n = []
  · rw [if_pos hs]
    have : badsW g mark n = [] := List.eq_nil_iff_forall_not_mem.2 fun u hu => by
      obtain ⟨_, _, p, hp, _⟩ := (hmem u).1 hu
      rw [hs] at hp
      cases hp
    rw [this]
    rfl
  · rw [if_neg hs, Int.toNat_natCast]
    obtain ⟨q1, q2, q3⟩ := grow_spec hv h16 n (startF g mark n) hs (fun p hp => by
      obtain ⟨h1, h2, h3⟩ := mem_startF.1 hp
      refine ⟨h3, h1, ?_, ?_⟩
      · rw [h2]; exact Int.natCast_nonneg _
      · rw [h2])
    generalize growF (canP g.2.2 mark) (stepF mark) (leav g.2.2) g.1 n (startF g mark n) = u at q1 q2 q3
    have hu := (hmem u).2 ⟨q1, q2⟩
    cases hb : badsW g mark n with
    | nil => rw [hb] at hu; cases hu
    | cons v l =>
      have hv1 := (hmem v).1 (by rw [hb]; exact List.mem_cons_self ..)
      have e : u = v := by
        rw [hb] at hu hasc
        rcases List.mem_cons.1 hu with e | hu
        · exact e
        · exact absurd ((List.pairwise_cons.1 hasc).1 u hu) (q3 v hv1.1 hv1.2)
      subst e
      simp
end
end Go.AW

/- What Valid, Bad and Free of the program return. -/
namespace Go.AW
open Go
set_option linter.unusedVariables false
set_option linter.unusedSimpArgs false
def MOk54 (g : Gr) (mark : List UInt8) : Prop := VG g ∧ g.1 ≤ 16 ∧ mark ≠ [] ∧ mark.length ≤ 32 ∧ ∀ c ∈ mark, c ∈ lets g
theorem check54_tot (g : Gr) (mark : List UInt8) : ∃ e, m_syncmark_check g mark = some e ∧ (e = 0 ↔ MOk54 g mark) := by
  unfold m_syncmark_check MOk54
  obtain ⟨e, he, hz⟩ := Check_tot g
  obtain ⟨f, hf, hy⟩ := wcheck g.1 mark
  rw [Check_ref, he, Option.bind_some]
  by_cases h0 : e = 0
  case neg =>
    rw [if_pos h0]
    exact ⟨1, rfl, ⟨fun h => absurd h (by decide), fun h => absurd (hz.2 h.1) h0⟩⟩
  have hv := hz.1 h0
  rw [if_neg (by omega)]
  by_cases h1 : 16 < g.1
  · rw [if_pos h1]
    exact ⟨12, rfl, ⟨fun h => absurd h (by decide), fun h => by have := h.2.1; omega⟩⟩
  rw [if_neg h1]
  by_cases h2 : mark = []
  · rw [if_pos h2]
    exact ⟨5, rfl, ⟨fun h => absurd h (by decide), fun h => absurd h2 h.2.2.1⟩⟩
  rw [if_neg h2]
  by_cases h3 : 32 < (mark.length : Int)
  · rw [if_pos h3]
    exact ⟨4, rfl, ⟨fun h => absurd h (by decide), fun h => by have := h.2.2.2.1; omega⟩⟩
  rw [if_neg h3, hf]
  refine ⟨f, rfl, hy.trans ⟨fun h => ⟨hv, by omega, h2, by omega, h.2.2⟩, fun h => ⟨⟨hv.l1, by omega⟩, by omega, h.2.2.2.2⟩⟩⟩
theorem checkNumber54_tot (g : Gr) (mark : List UInt8) (n : Int) : ∃ e, m_syncmark_checkNumber g mark n = some e ∧ (e = 0 ↔ MOk54 g mark ∧ 0 ≤ n ∧ n ≤ 4096) ∧ (∀ f, m_syncmark_check g mark = some f → f ≠ 0 → e = f) ∧ (MOk54 g mark → e = if n < 0 ∨ 4096 < n then 2 else 0) := by
  obtain ⟨e, he, hz⟩ := check54_tot g mark
  unfold m_syncmark_checkNumber
  rw [he, Option.bind_some]
  by_cases h0 : e = 0
  case neg =>
    rw [if_pos h0]
    refine ⟨e, rfl, ⟨fun h => absurd h h0, fun h => absurd (hz.2 h.1) h0⟩, fun f hf _ => (Option.some.inj hf), fun h => absurd (hz.2 h) h0⟩
  rw [if_neg (by omega)]
  have hm := hz.1 h0
  simp only [jp]
  by_cases h1 : n < 0
  · rw [if_pos h1, if_pos trivial]
    exact ⟨2, rfl, ⟨fun h => absurd h (by decide), fun h => by omega⟩, fun f hf h => absurd (Option.some.inj hf ▸ h0) h, fun _ => (if_pos (.inl h1)).symm⟩
  rw [if_neg h1]
  by_cases h2 : 4096 < n
  · rw [if_pos (decide_eq_true h2)]
    exact ⟨2, rfl, ⟨fun h => absurd h (by decide), fun h => by omega⟩, fun f hf h => absurd (Option.some.inj hf ▸ h0) h, fun _ => (if_pos (.inr h2)).symm⟩
  · rw [if_neg (by rw [decide_eq_true_eq]; exact h2)]
    exact ⟨0, rfl, ⟨fun _ => ⟨hm, by omega, by omega⟩, fun _ => rfl⟩, fun f hf h => absurd (Option.some.inj hf ▸ h0) h, fun _ => (if_neg (by omega)).symm⟩
theorem lets_sub (g : Gr) {c : UInt8} (h : c ∈ lets g) : c ∈ letters := List.mem_of_mem_take h
theorem bad_eq {g : Gr} {mark : List UInt8} (h : MOk54 g mark) {n : Nat} (hn : n ≤ 4096) : m_syncmark_bad g mark (n : Int) = some ((badsW g mark n).headD [], decide (badsW g mark n ≠ [])) := by
  obtain ⟨hv, h16, h1, h2, h3⟩ := h
  unfold m_syncmark_bad
  have hok : badOk g mark (n : Int) := by
    have := hv.l1
    have := hv.s0
    have := hv.s1
    refine ⟨⟨by omega, h16⟩, ⟨by omega, by omega⟩, hv.el, fun x hx => ?_, h1, by omega, fun c hc => lets_sub g (h3 c hc), by omega, by omega⟩
    obtain ⟨e1, e2, e3, e4, e5, e6⟩ := hv.ed x hx
    exact ⟨⟨e1, e2⟩, ⟨e5, e6⟩, e3, e4⟩
  rw [if_pos hok, badF_eq hv h16]
theorem Valid_eq {g : Gr} {mark : List UInt8} (h : MOk54 g mark) {n : Nat} (hn : n ≤ 4096) : m_syncmark_Valid g mark (n : Int) = some (decide (badsW g mark n = []), 0) := by
  obtain ⟨e, he, hz, _⟩ := checkNumber54_tot g mark n
  unfold m_syncmark_Valid
  rw [he, Option.bind_some, if_neg (by rw [hz.2 ⟨h, by omega, by omega⟩]; decide), bad_eq h hn, Option.bind_some]
  simp
theorem Bad_eq {g : Gr} {mark : List UInt8} (h : MOk54 g mark) {n : Nat} (hn : n ≤ 4096) : m_syncmark_Bad g mark (n : Int) = some ((badsW g mark n).headD [], decide (badsW g mark n ≠ []), 0) := by
  obtain ⟨e, he, hz, _⟩ := checkNumber54_tot g mark n
  unfold m_syncmark_Bad
  rw [he, Option.bind_some, if_neg (by rw [hz.2 ⟨h, by omega, by omega⟩]; decide), bad_eq h hn, Option.bind_some]
theorem Free_eq {g : Gr} {mark : List UInt8} (h : MOk54 g mark) : m_syncmark_Free g mark = some (!accB g mark, 0) := by
  obtain ⟨e, he, hz⟩ := check54_tot g mark
  unfold m_syncmark_Free
  rw [he, Option.bind_some, if_neg (by rw [hz.2 h]; decide), Accepts_eq h.1 h.2.1 (w := mark) ⟨by have := h.2.2.2.1; omega, h.2.2.2.2⟩, Option.bind_some]
  rfl
end Go.AW

/- Models, printed by lk.py. -/
namespace Go.AW
open Go
set_option linter.unusedVariables false
noncomputable def m_ref10_Great (p0 : TLabelsStatesEdges) : Option (Bool) :=
 jp (fun (a1 : Bool) =>
   some a1)
   fun k3 =>
  if 8 < p0.2.1 then
   if p0.2.1 ≤ 64 then
    k3 true
   else
    if 30 < ((p0.2.2).length : Int) then
     if ((p0.2.2).length : Int) ≤ 1024 then
      k3 true
     else
      k3 (decide (1027 < ((p0.2.2).length : Int)))
    else
     k3 (decide (1027 < ((p0.2.2).length : Int)))
  else
   if 30 < ((p0.2.2).length : Int) then
    if ((p0.2.2).length : Int) ≤ 1024 then
     k3 true
    else
     k3 (decide (1027 < ((p0.2.2).length : Int)))
   else
    k3 (decide (1027 < ((p0.2.2).length : Int)))

noncomputable def m_law54_great (p0 : TLabelsStatesEdges) : Option (Bool) :=
 jp (fun (a1 : Bool) =>
   some a1)
   fun k3 =>
  (m_ref10_Great p0).bind fun x4 =>
  if x4 = true then
   k3 true
  else
   if 3 < p0.1 then
    k3 (decide (p0.1 ≤ 16))
   else
    k3 false

noncomputable def m_law54_fine (p0 : TLabelsStatesEdges) (p1 : List UInt8) : Option (Bool) :=
 jp (fun (a1 : Bool) =>
   some a1)
   fun k3 =>
  (m_law54_great p0).bind fun x4 =>
  if (!x4) = true then
   (m_ref09_Check p0).bind fun x6 =>
   if x6 = 0 then
    if p0.1 ≤ 3 then
     if p1 ≠ ([] : List UInt8) then
      if ((p1).length : Int) ≤ 6 then
       (m_word_Check p0.1 p1).bind fun x8 =>
       k3 (decide (x8 = 0))
      else
       k3 false
     else
      k3 false
    else
     k3 false
   else
    k3 false
  else
   k3 false

end Go.AW

/- Models, printed by lk.py. -/
namespace Go.AW
open Go
set_option linter.unusedVariables false
end Go.AW

/- Which graphs and marks the statements examine; the law of marks that are no words. -/
namespace Go.AW
open Go
set_option linter.unusedVariables false
set_option linter.unusedSimpArgs false
theorem great54_tot (g : Gr) : ∃ b, m_law54_great g = some b ∧ (b = false → VG g → g.2.1 ≤ 8 ∧ g.2.2.length ≤ 30 ∧ (g.1 ≤ 16 → g.1 ≤ 3)) := by
  have h10 : ∃ b, m_ref10_Great g = some b ∧ (b = false → VG g → g.2.1 ≤ 8 ∧ g.2.2.length ≤ 30) := by
    unfold m_ref10_Great
    simp only [jp]
    by_cases h1 : 8 < g.2.1
    · rw [if_pos h1]
      by_cases h2 : g.2.1 ≤ 64
      · rw [if_pos h2]; exact ⟨true, rfl, by simp⟩
      · rw [if_neg h2]
        have hno : ¬ VG g := fun hv => h2 hv.s1
        by_cases h3 : 30 < (g.2.2.length : Int)
        · rw [if_pos h3]
          by_cases h4 : (g.2.2.length : Int) ≤ 1024
          · rw [if_pos h4]; exact ⟨_, rfl, fun _ hv => absurd hv hno⟩
          · rw [if_neg h4]; exact ⟨_, rfl, fun _ hv => absurd hv hno⟩
        · rw [if_neg h3]; exact ⟨_, rfl, fun _ hv => absurd hv hno⟩
    · rw [if_neg h1]
      by_cases h3 : 30 < (g.2.2.length : Int)
      · rw [if_pos h3]
        by_cases h4 : (g.2.2.length : Int) ≤ 1024
        · rw [if_pos h4]; exact ⟨true, rfl, by simp⟩
        · rw [if_neg h4]; exact ⟨_, rfl, fun _ hv => absurd hv.el (by omega)⟩
      · rw [if_neg h3]; exact ⟨_, rfl, fun _ _ => by omega⟩
  obtain ⟨b, hb, hb2⟩ := h10
  unfold m_law54_great
  simp only [jp, hb, Option.bind_some]
  cases b with
  | true => rw [if_pos rfl]; exact ⟨true, rfl, by simp⟩
  | false =>
    rw [if_neg Bool.false_ne_true]
    by_cases h3 : 3 < g.1
    · rw [if_pos h3]
      exact ⟨_, rfl, fun h hv => ⟨(hb2 rfl hv).1, (hb2 rfl hv).2, fun h16 => absurd h16 (of_decide_eq_false h)⟩⟩
    · rw [if_neg h3]
      exact ⟨_, rfl, fun h hv => ⟨(hb2 rfl hv).1, (hb2 rfl hv).2, fun _ => by omega⟩⟩
theorem fine54_tot (g : Gr) (mark : List UInt8) : ∃ b, m_law54_fine g mark = some b ∧ (b = true → MOk54 g mark ∧ g.1 ≤ 3 ∧ mark.length ≤ 6 ∧ g.2.1 ≤ 8 ∧ g.2.2.length ≤ 30) := by
  obtain ⟨b, hb, hb2⟩ := great54_tot g
  obtain ⟨e, he, hz⟩ := Check_tot g
  obtain ⟨f, hf, hy⟩ := wcheck g.1 mark
  unfold m_law54_fine
  simp only [jp, hb, he, hf, Option.bind_some]
  cases b with
  | true => exact ⟨false, rfl, by simp⟩
  | false =>
    rw [if_pos (by decide)]
    by_cases h0 : e = 0
    case neg => rw [if_neg h0]; exact ⟨false, rfl, by simp⟩
    rw [if_pos h0]
    have hv := hz.1 h0
    obtain ⟨g1, g2, _⟩ := hb2 rfl hv
    by_cases h1 : g.1 ≤ 3
    case neg => rw [if_neg h1]; exact ⟨false, rfl, by simp⟩
    rw [if_pos h1]
    by_cases h2 : mark = []
    · rw [if_neg (fun h => h h2)]; exact ⟨false, rfl, by simp⟩
    rw [if_pos h2]
    by_cases h3 : (mark.length : Int) ≤ 6
    case neg => rw [if_neg h3]; exact ⟨false, rfl, by simp⟩
    rw [if_pos h3]
    refine ⟨_, rfl, fun h => ?_⟩
    have := hy.1 (of_decide_eq_true h)
    exact ⟨⟨hv, by omega, h2, by omega, this.2.2⟩, h1, by omega, g1, g2⟩
end Go.AW

/- Models, printed by lk.py. -/
namespace Go.AW
open Go
set_option linter.unusedVariables false
end Go.AW

/- Overlaps, and where marks stand in a mark behind a mark. -/
namespace Go.AW
open Go
set_option linter.unusedVariables false
set_option linter.unusedSimpArgs false
def ovB (mark : List UInt8) (n : Nat) : List Int := ((List.range n).filter fun k => decide (1 ≤ k) && (mark.take k).isSuffixOf mark).map Int.ofNat
def ovL (mark : List UInt8) : List Int := ovB mark (mark.length - 1 + 1)
theorem ovB_succ (mark : List UInt8) {k : Nat} (hk : 1 ≤ k) : ovB mark (k + 1) = ovB mark k ++ if (mark.take k).isSuffixOf mark = true then [(k : Int)] else [] := by
  unfold ovB
  rw [List.range_succ, List.filter_append, List.map_append]
  congr 1
  rw [List.filter_cons, decide_eq_true hk, Bool.true_and]
  split <;> rfl
theorem ovB_len (mark : List UInt8) (n : Nat) : (ovB mark n).length ≤ n := by
  unfold ovB
  rw [List.length_map]
  have := List.length_filter_le (fun k => decide (1 ≤ k) && (mark.take k).isSuffixOf mark) (List.range n)
  rw [List.length_range] at this
  exact this
theorem Overlaps_eq {mark : List UInt8} (hm : mark.length ≤ 1000000) : m_syncmark_Overlaps mark = some (ovL mark) := by
  unfold m_syncmark_Overlaps
  refine bindL (loop_is (fun i => (((i + 1 : Nat) : Int), ovB mark (i + 1))) (mark.length - 1) (ovL mark) (fun i hi => ?_) ?_ rfl) rfl
  · dsimp only
    rw [if_pos (by omega)]
    simp only [jp]
    rw [if_pos ⟨Int.le_refl _, by omega, by omega⟩, HasSuffix_eq (by omega), Option.bind_some, Int.toNat_natCast, nx (n := 1000001) (by omega) (by omega), ovB_succ mark (k := i + 1) (by omega)]
    have hb := ovB_len mark (i + 1)
    rw [show ((mark.take (i + 1)).drop (0 : Int).toNat) = mark.take (i + 1) from rfl]
    by_cases h : (mark.take (i + 1)).isSuffixOf mark = true
    · rw [if_pos h, if_pos h, if_pos ⟨by simp; omega, by simp; have : 2000000 ≤ maxLen := by decide
                                                         omega⟩]
    · rw [if_neg h, if_neg h, List.append_nil]
  · dsimp only
    rw [if_neg (by omega)]
    rfl
theorem occL_len (w u : List UInt8) : (occL w u).length ≤ w.length + 1 := by
  unfold occL occB
  rw [List.length_map]
  have := List.length_filter_le (fun i => u.isPrefixOf (w.drop i)) (List.range (w.length + 1))
  rw [List.length_range] at this
  exact this
theorem Find_eq {w u : List UInt8} (hw : w.length ≤ 1000000) (hu : u.length ≤ 1000000) : m_word_Find w u = some (occL w u) := by
  unfold m_word_Find y_word_occurrences
  rw [if_pos ⟨by omega, by omega⟩, Option.bind_some]
  have hl := occL_len w u
  have hgen : ∀ (L acc : List Int), acc.length + L.length ≤ 1000001 → forL (S := (List Int)) (X := Unit) (fun a5 (x7 : Int) =>
     if fits 8 ((a5 : List Int).length + ([x7]).length) then
      some (Stp.next (a5 ++ [x7]))
     else none) L acc = some (.go (acc ++ L)) := by
    intro L
    induction L with
    | nil => intro acc _; rw [List.append_nil]; rfl
    | cons x L ih =>
      intro acc h
      rw [List.length_cons] at h
      unfold forL
      rw [if_pos ⟨by simp; omega, by simp; have : 2000000 ≤ maxLen := by decide
                                     omega⟩]
      dsimp only
      rw [ih (acc ++ [x]) (by rw [List.length_append, List.length_singleton]; omega), List.append_assoc]
      rfl
  rw [hgen (occL w u) [] (by rw [List.length_nil]; omega), List.nil_append]
  rfl
theorem Occurs_eq {w u : List UInt8} (hw : w.length ≤ 1000000) (hu : u.length ≤ 1000000) : m_syncmark_Occurs u w = some (occL w u) := by
  unfold m_syncmark_Occurs
  rw [Find_eq hw hu]
  rfl
end Go.AW

/- The anchor of chapter 54. -/
namespace Go.AW
open Go
set_option linter.unusedVariables false
def gEx54 : Gr := (2, 2, [(0, 0, 0), (0, 1, 1), (1, 0, 0)])
theorem gEx54_ok : VG gEx54 where
  l1 := by decide
  l2 := by decide
  s0 := by decide
  s1 := by decide
  el := by decide
  ed := by decide
  ord := fun i h => match i, h with
    | 0, _ => by show cmp3 ((0, 0, 0) : Int × Int × Int) (0, 1, 1) < 0; decide
    | 1, _ => by show cmp3 ((0, 1, 1) : Int × Int × Int) (1, 0, 0) < 0; decide
    | n + 2, h => absurd h (by show ¬ n + 2 + 1 < 3; omega)
theorem mEx54_ok {mark : List UInt8} (h1 : mark ≠ []) (h2 : mark.length ≤ 32) (h3 : ∀ c ∈ mark, c ∈ lets gEx54) : MOk54 gEx54 mark := ⟨gEx54_ok, by decide, h1, h2, h3⟩
theorem awake54_eq : m_law54_awakeG = some true := by
  unfold m_law54_awakeG
  have v1 := Valid_eq (mEx54_ok (mark := [49, 49]) (by decide) (by decide) (by decide)) (n := 1) (by decide)
  have v2 := Bad_eq (mEx54_ok (mark := [49, 49]) (by decide) (by decide) (by decide)) (n := 1) (by decide)
  have v3 := Valid_eq (mEx54_ok (mark := [49, 49, 48]) (by decide) (by decide) (by decide)) (n := 1) (by decide)
  have v4 := Free_eq (mEx54_ok (mark := [49, 49, 48]) (by decide) (by decide) (by decide))
  have b1 : badsW gEx54 [49, 49] 1 = [[49]] := by decide +kernel
  have b2 : badsW gEx54 [49, 49, 48] 1 = [] := by decide +kernel
  have b3 : accB gEx54 [49, 49, 48] = false := by decide +kernel
  rw [b1] at v1 v2
  rw [b2] at v3
  rw [b3] at v4
  rw [show m_syncmark_Valid (2, 2, [(0, 0, 0), (0, 1, 1), (1, 0, 0)]) [49, 49] 1 = some (false, 0) from v1, show m_syncmark_Bad (2, 2, [(0, 0, 0), (0, 1, 1), (1, 0, 0)]) [49, 49] 1 = some ([49], true, 0) from v2, show m_syncmark_Valid (2, 2, [(0, 0, 0), (0, 1, 1), (1, 0, 0)]) [49, 49, 48] 1 = some (true, 0) from v3, show m_syncmark_Free (2, 2, [(0, 0, 0), (0, 1, 1), (1, 0, 0)]) [49, 49, 48] = some (true, 0) from v4]
  rw [Overlaps_eq (by decide), Occurs_eq (by decide) (by decide), show ovL [48, 49, 49, 48] = [1] by decide +kernel, show occL [49, 49, 49, 49, 49] [49, 49] = [0, 1, 2, 3] by decide +kernel]
  simp only [jp, Option.bind_some]
  rw [EqI_eq (by decide), EqI_eq (by decide)]
  rfl
end Go.AW

/- The anchor of chapter 54. -/
namespace Go.AW
open Go Go.Proofs
theorem w_law54_awake {r : Bool} (h : m_law54_awake = some r) : Pure Tryz.prog 9 [] (· = HV.bool r) := by
  cases h
  exact w_law54_awakeG awake54_eq
end Go.AW

/- Models, printed by lk.py. -/
namespace Go.AW
open Go
set_option linter.unusedVariables false
end Go.AW

/- Models, printed by lk.py. -/
namespace Go.AW
open Go
set_option linter.unusedVariables false
noncomputable def m_syncmark_Damaged (p0 : TLabelsStatesEdges) (p1 : List UInt8) (p2 : Int) : Option (Int × Int) :=
 (m_syncmark_check p0 p1).bind fun x1 =>
 if x1 ≠ 0 then
  some (0, x1)
 else
  jp (fun (a3 : Bool) =>
    if a3 = true then
     some (0, 2)
    else
     (m_language_Words p0 p2).bind fun x6 =>
     if x6.2 ≠ 0 then
      some (0, x6.2)
     else
      (loopW (S := Int × Int) (X := Int) (fun a8 =>
          if a8.2 < ((x6.1).length : Int) then
           (idx x6.1 a8.2).bind fun x12 =>
           if p1.length + x12.length ≤ maxLen then
            if (p1 ++ x12).length + p1.length ≤ maxLen then
             (loopW (S := Int × Int) (X := Int) (fun a16 =>
                 if a16.2 < (IntKind.wrap .i64 (p2 + ((p1).length : Int))) then
                  jp (fun (a20 : Int) =>
                    some (Stp.next (a20, IntKind.wrap .i64 (a16.2 + 1))))
                    fun k22 =>
                   (loopW (S := Int × Int) (X := Int) (fun a23 =>
                       if a23.2 < ((p1).length : Int) then
                        jp (fun (a27 : Int) =>
                          some (Stp.next (a27, IntKind.wrap .i64 (a23.2 + 1))))
                          fun k29 =>
                         (idx ((p1 ++ x12) ++ p1) (IntKind.wrap .i64 (a16.2 + a23.2))).bind fun x30 =>
                         (idx p1 a23.2).bind fun x32 =>
                         if (x30.toNat : Int) ≠ (x32.toNat : Int) then
                          k29 (IntKind.wrap .i64 (a23.1 + 1))
                         else
                          k29 a23.1
                       else
                        some (Stp.exit a23.1)) (0, 0)).bind fun a34 =>
                   jp (fun (a36 : Bool) =>
                     if a36 = true then
                      k22 a34
                     else
                      k22 a16.1)
                     fun k38 =>
                    if a16.1 < 0 then
                     k38 true
                    else
                     k38 (decide (a34 < a16.1))
                 else
                  some (Stp.exit a16.1)) (a8.1, 1)).bind fun a40 =>
             some (Stp.next (a40, IntKind.wrap .i64 (a8.2 + 1)))
            else none
           else none
          else
           some (Stp.exit a8.1)) ((-1), 0)).bind fun a42 =>
      if a42 < 0 then
       some (0, 5)
      else
       some (a42, 0))
    fun k5 =>
   if p2 < 0 then
    k5 true
   else
    k5 (decide (12 < p2))

noncomputable def m_law54_SyncmarkDamaged (p0 : TLabelsStatesEdges) (p1 : List UInt8) (p2 : Int) : Option (Bool) :=
 (m_law54_fine p0 p1).bind fun x1 =>
 if (!x1) = true then
  (m_law54_awake).bind fun x3 =>
  some x3
 else
  (m_language_Words p0 (Int.tmod (IntKind.wrap .i64 p2) 7)).bind fun x5 =>
  (m_syncmark_Valid p0 p1 (Int.tmod (IntKind.wrap .i64 p2) 7)).bind fun x7 =>
  (m_syncmark_Damaged p0 p1 (Int.tmod (IntKind.wrap .i64 p2) 7)).bind fun x9 =>
  jp (fun (a11 : Bool) =>
    if a11 = true then
     some false
    else
     jp (fun (a14 : Bool) =>
       if a14 = true then
        jp (fun (a17 : Bool) =>
          some a17)
          fun k19 =>
         if x9.2 = 5 then
          if x7.1 = true then
           (m_law54_awake).bind fun x20 =>
           k19 x20
          else
           k19 false
         else
          k19 false
       else
        jp (fun (a24 : Bool) =>
          some a24)
          fun k26 =>
         if x9.2 = 0 then
          if 0 ≤ x9.1 then
           if x9.1 ≤ ((p1).length : Int) then
            if ((decide (x9.1 = 0)) == (!x7.1)) = true then
             (m_law54_awake).bind fun x27 =>
             k26 x27
            else
             k26 false
           else
            k26 false
          else
           k26 false
         else
          k26 false)
       fun k16 =>
      if ((x5.1).length : Int) = 0 then
       k16 true
      else
       k16 (decide ((IntKind.wrap .i64 (((p1).length : Int) + (Int.tmod (IntKind.wrap .i64 p2) 7))) < 2)))
    fun k13 =>
   if x5.2 ≠ 0 then
    k13 true
   else
    k13 (decide (x7.2 ≠ 0))

end Go.AW

namespace Go.AW
open Go Go.Proofs
set_option linter.unusedVariables false
set_option maxHeartbeats 1600000 in
set_option maxRecDepth 100000 in
theorem w_ref10_Great {p0 : TLabelsStatesEdges} {r : Bool} (h : m_ref10_Great p0 = some r) : Pure Tryz.prog 40 [HV.agg [HV.int .i64 p0.1, HV.int .i64 p0.2.1, slE eFromLabelTo p0.2.2]] (· = HV.bool r) := by
 unfold m_ref10_Great at h
 refine Pure.of_body Tryz.func40 rfl rfl (Nat.le_of_ble_eq_true rfl) fun hf => ?_
 unfold Tryz.f40
 dsimp only [enumS, Nat.reduceAdd]
 refine AW.rgs rfl fun K hK => ?_
 refine b_op rfl (o_box rfl rfl rfl ?_)
 refine mv rfl rfl ?_
 refine b_fin hK (s' := ⟨[(1, HV.fptr [HV.int .i64 p0.1, HV.int .i64 p0.2.1, slE eFromLabelTo p0.2.2] 0)], []⟩) (le_q rfl rfl) ?_
 clear hK K
 refine AW.seqJ h (S := Bool) (V := Unit) (fun a v => ⟨[(2, HV.bool a)], []⟩) (fun a1 w2 h => ?_) (fun k3 h => ?_)
 ·refine AW.ret ?_
  have h := Option.some.inj h
  subst h
  exact ret_pure (hs := [HV.bool a1]) (q := HV.bool a1) (.inr rfl) (resT rfl rfl) rfl trivial
 refine AW.rg rfl fun K hK => ?_
 refine bv rfl (v_fieldAddrF fo24_1 rfl) ?_
 refine bv rfl (v_loadF ty3 rfl (l_lit rfl rfl)) ?_
 refine bv rfl (v_bin rfl rfl b_gtr) ?_
 refine mv rfl rfl ?_
 by_cases hg9 : 8 < p0.2.1
 ·have h := ifT hg9 h
  refine b_T rfl rfl rfl rfl (decide_eq_true hg9) (o_val rfl (v_fieldAddrF fo24_1 rfl) ?_)
  refine b_T rfl rfl rfl rfl rfl (o_val rfl (v_loadF ty3 rfl (l_lit rfl rfl)) ?_)
  refine b_T rfl rfl rfl rfl rfl (o_val rfl (v_bin rfl rfl b_leq) ?_)
  refine bv rfl (v_pickT rfl rfl rfl) ?_
  refine mv rfl rfl ?_
  by_cases hg6 : p0.2.1 ≤ 64
  ·have h := ifT hg6 h
   refine b_F rfl rfl rfl rfl rfl (decide_eq_true hg6) ?_
   refine b_F rfl rfl rfl rfl rfl rfl ?_
   refine b_F rfl rfl rfl rfl rfl rfl ?_
   refine b_F rfl rfl rfl rfl rfl rfl ?_
   refine b_F rfl rfl rfl rfl rfl rfl ?_
   refine b_U rfl rfl rfl rfl rfl ?_
   refine b_U rfl rfl rfl rfl rfl ?_
   refine b_U rfl rfl rfl rfl rfl ?_
   refine b_U rfl rfl rfl rfl rfl ?_
   refine b_F rfl rfl rfl rfl rfl rfl ?_
   refine bv rfl (v_pickT rfl rfl rfl) ?_
   refine mv rfl rfl ?_
   refine b_F rfl rfl rfl rfl rfl rfl ?_
   refine b_F rfl rfl rfl rfl rfl rfl ?_
   refine b_F rfl rfl rfl rfl rfl rfl ?_
   refine b_F rfl rfl rfl rfl rfl rfl ?_
   refine bv rfl (v_pickT rfl rfl rfl) ?_
   refine mv rfl rfl ?_
   refine b_nil (hK _ ?_)
   clear hK K
   exact to_le (s' := ⟨[(2, HV.bool true)], []⟩) (AS.le_of ⟨rfl, trivial⟩ trivial) ⟨true, (), h, rfl⟩
  have h := ifF hg6 h
  refine b_T rfl rfl rfl rfl (decide_eq_false hg6) (o_val rfl (v_fieldAddrF fo24_2 rfl) ?_)
  refine b_T rfl rfl rfl rfl rfl (o_val rfl (v_loadF ty22 rfl (l_lit rfl rfl)) ?_)
  refine b_T rfl rfl rfl rfl rfl (o_val rfl (v_lenF rfl rfl ty22 rfl) ?_)
  refine b_T rfl rfl rfl rfl rfl (o_val rfl (v_bin rfl rfl b_gtr) ?_)
  refine b_T rfl rfl rfl rfl rfl (o_val rfl (mv_val rfl rfl).2 ?_)
  by_cases hg5 : 30 < ((p0.2.2).length : Int)
  ·have h := ifT hg5 h
   refine b_T rfl rfl rfl rfl (decide_eq_true hg5) (o_val rfl (v_fieldAddrF fo24_2 rfl) ?_)
   refine b_T rfl rfl rfl rfl rfl (o_val rfl (v_loadF ty22 rfl (l_lit rfl rfl)) ?_)
   refine b_T rfl rfl rfl rfl rfl (o_val rfl (v_lenF rfl rfl ty22 rfl) ?_)
   refine b_T rfl rfl rfl rfl rfl (o_val rfl (v_bin rfl rfl b_leq) ?_)
   refine b_T rfl rfl rfl rfl rfl (o_val rfl (v_pickT rfl rfl rfl) ?_)
   refine bv rfl (v_pickF rfl rfl rfl) ?_
   refine mv rfl rfl ?_
   by_cases hg4 : ((p0.2.2).length : Int) ≤ 1024
   ·have h := ifT hg4 h
    refine b_F rfl rfl rfl rfl rfl (decide_eq_true hg4) ?_
    refine b_F rfl rfl rfl rfl rfl rfl ?_
    refine b_F rfl rfl rfl rfl rfl rfl ?_
    refine b_F rfl rfl rfl rfl rfl rfl ?_
    refine bv rfl (v_pickT rfl rfl rfl) ?_
    refine mv rfl rfl ?_
    refine b_nil (hK _ ?_)
    clear hK K
    exact to_le (s' := ⟨[(2, HV.bool true)], []⟩) (AS.le_of ⟨rfl, trivial⟩ trivial) ⟨true, (), h, rfl⟩
   have h := ifF hg4 h
   refine b_T rfl rfl rfl rfl (decide_eq_false hg4) (o_val rfl (v_fieldAddrF fo24_2 rfl) ?_)
   refine b_T rfl rfl rfl rfl rfl (o_val rfl (v_loadF ty22 rfl (l_lit rfl rfl)) ?_)
   refine b_T rfl rfl rfl rfl rfl (o_val rfl (v_lenF rfl rfl ty22 rfl) ?_)
   refine b_T rfl rfl rfl rfl rfl (o_val rfl (v_bin rfl rfl b_gtr) ?_)
   refine bv rfl (v_pickF rfl rfl rfl) ?_
   refine mv rfl rfl ?_
   refine b_nil (hK _ ?_)
   clear hK K
   exact to_le (s' := ⟨[(2, HV.bool (decide (1027 < ((p0.2.2).length : Int))))], []⟩) (AS.le_of ⟨rfl, trivial⟩ trivial) ⟨decide (1027 < ((p0.2.2).length : Int)), (), h, rfl⟩
  have h := ifF hg5 h
  refine b_F rfl rfl rfl rfl rfl (decide_eq_false hg5) ?_
  refine b_F rfl rfl rfl rfl rfl rfl ?_
  refine b_F rfl rfl rfl rfl rfl rfl ?_
  refine b_F rfl rfl rfl rfl rfl rfl ?_
  refine b_T rfl rfl rfl rfl rfl (o_val rfl (v_pickF rfl rfl rfl) ?_)
  refine bv rfl (v_pickF rfl rfl rfl) ?_
  refine mv rfl rfl ?_
  refine b_T rfl rfl rfl rfl rfl (o_val rfl (v_fieldAddrF fo24_2 rfl) ?_)
  refine b_T rfl rfl rfl rfl rfl (o_val rfl (v_loadF ty22 rfl (l_lit rfl rfl)) ?_)
  refine b_T rfl rfl rfl rfl rfl (o_val rfl (v_lenF rfl rfl ty22 rfl) ?_)
  refine b_T rfl rfl rfl rfl rfl (o_val rfl (v_bin rfl rfl b_gtr) ?_)
  refine bv rfl (v_pickF rfl rfl rfl) ?_
  refine mv rfl rfl ?_
  refine b_nil (hK _ ?_)
  clear hK K
  exact to_le (s' := ⟨[(2, HV.bool (decide (1027 < ((p0.2.2).length : Int))))], []⟩) (AS.le_of ⟨rfl, trivial⟩ trivial) ⟨decide (1027 < ((p0.2.2).length : Int)), (), h, rfl⟩
 have h := ifF hg9 h
 refine b_F rfl rfl rfl rfl rfl (decide_eq_false hg9) ?_
 refine b_F rfl rfl rfl rfl rfl rfl ?_
 refine b_F rfl rfl rfl rfl rfl rfl ?_
 refine bv rfl (v_pickF rfl rfl rfl) ?_
 refine mv rfl rfl ?_
 refine b_T rfl rfl rfl rfl rfl (o_val rfl (v_fieldAddrF fo24_2 rfl) ?_)
 refine b_T rfl rfl rfl rfl rfl (o_val rfl (v_loadF ty22 rfl (l_lit rfl rfl)) ?_)
 refine b_T rfl rfl rfl rfl rfl (o_val rfl (v_lenF rfl rfl ty22 rfl) ?_)
 refine b_T rfl rfl rfl rfl rfl (o_val rfl (v_bin rfl rfl b_gtr) ?_)
 refine b_T rfl rfl rfl rfl rfl (o_val rfl (mv_val rfl rfl).2 ?_)
 by_cases hg8 : 30 < ((p0.2.2).length : Int)
 ·have h := ifT hg8 h
  refine b_T rfl rfl rfl rfl (decide_eq_true hg8) (o_val rfl (v_fieldAddrF fo24_2 rfl) ?_)
  refine b_T rfl rfl rfl rfl rfl (o_val rfl (v_loadF ty22 rfl (l_lit rfl rfl)) ?_)
  refine b_T rfl rfl rfl rfl rfl (o_val rfl (v_lenF rfl rfl ty22 rfl) ?_)
  refine b_T rfl rfl rfl rfl rfl (o_val rfl (v_bin rfl rfl b_leq) ?_)
  refine b_T rfl rfl rfl rfl rfl (o_val rfl (v_pickT rfl rfl rfl) ?_)
  refine bv rfl (v_pickF rfl rfl rfl) ?_
  refine mv rfl rfl ?_
  by_cases hg7 : ((p0.2.2).length : Int) ≤ 1024
  ·have h := ifT hg7 h
   refine b_F rfl rfl rfl rfl rfl (decide_eq_true hg7) ?_
   refine b_F rfl rfl rfl rfl rfl rfl ?_
   refine b_F rfl rfl rfl rfl rfl rfl ?_
   refine b_F rfl rfl rfl rfl rfl rfl ?_
   refine bv rfl (v_pickT rfl rfl rfl) ?_
   refine mv rfl rfl ?_
   refine b_nil (hK _ ?_)
   clear hK K
   exact to_le (s' := ⟨[(2, HV.bool true)], []⟩) (AS.le_of ⟨rfl, trivial⟩ trivial) ⟨true, (), h, rfl⟩
  have h := ifF hg7 h
  refine b_T rfl rfl rfl rfl (decide_eq_false hg7) (o_val rfl (v_fieldAddrF fo24_2 rfl) ?_)
  refine b_T rfl rfl rfl rfl rfl (o_val rfl (v_loadF ty22 rfl (l_lit rfl rfl)) ?_)
  refine b_T rfl rfl rfl rfl rfl (o_val rfl (v_lenF rfl rfl ty22 rfl) ?_)
  refine b_T rfl rfl rfl rfl rfl (o_val rfl (v_bin rfl rfl b_gtr) ?_)
  refine bv rfl (v_pickF rfl rfl rfl) ?_
  refine mv rfl rfl ?_
  refine b_nil (hK _ ?_)
  clear hK K
  exact to_le (s' := ⟨[(2, HV.bool (decide (1027 < ((p0.2.2).length : Int))))], []⟩) (AS.le_of ⟨rfl, trivial⟩ trivial) ⟨decide (1027 < ((p0.2.2).length : Int)), (), h, rfl⟩
 have h := ifF hg8 h
 refine b_F rfl rfl rfl rfl rfl (decide_eq_false hg8) ?_
 refine b_F rfl rfl rfl rfl rfl rfl ?_
 refine b_F rfl rfl rfl rfl rfl rfl ?_
 refine b_F rfl rfl rfl rfl rfl rfl ?_
 refine b_T rfl rfl rfl rfl rfl (o_val rfl (v_pickF rfl rfl rfl) ?_)
 refine bv rfl (v_pickF rfl rfl rfl) ?_
 refine mv rfl rfl ?_
 refine b_T rfl rfl rfl rfl rfl (o_val rfl (v_fieldAddrF fo24_2 rfl) ?_)
 refine b_T rfl rfl rfl rfl rfl (o_val rfl (v_loadF ty22 rfl (l_lit rfl rfl)) ?_)
 refine b_T rfl rfl rfl rfl rfl (o_val rfl (v_lenF rfl rfl ty22 rfl) ?_)
 refine b_T rfl rfl rfl rfl rfl (o_val rfl (v_bin rfl rfl b_gtr) ?_)
 refine bv rfl (v_pickF rfl rfl rfl) ?_
 refine mv rfl rfl ?_
 refine b_nil (hK _ ?_)
 clear hK K
 exact to_le (s' := ⟨[(2, HV.bool (decide (1027 < ((p0.2.2).length : Int))))], []⟩) (AS.le_of ⟨rfl, trivial⟩ trivial) ⟨decide (1027 < ((p0.2.2).length : Int)), (), h, rfl⟩

set_option maxHeartbeats 1600000 in
set_option maxRecDepth 100000 in
theorem w_law54_great {p0 : TLabelsStatesEdges} {r : Bool} (h : m_law54_great p0 = some r) : Pure Tryz.prog 21 [HV.agg [HV.int .i64 p0.1, HV.int .i64 p0.2.1, slE eFromLabelTo p0.2.2]] (· = HV.bool r) := by
 unfold m_law54_great at h
 refine Pure.of_body Tryz.func21 rfl rfl (Nat.le_of_ble_eq_true rfl) fun hf => ?_
 unfold Tryz.f21
 dsimp only [enumS, Nat.reduceAdd]
 refine AW.rgs rfl fun K hK => ?_
 refine b_op rfl (o_box rfl rfl rfl ?_)
 refine mv rfl rfl ?_
 refine b_fin hK (s' := ⟨[(1, HV.fptr [HV.int .i64 p0.1, HV.int .i64 p0.2.1, slE eFromLabelTo p0.2.2] 0)], []⟩) (le_q rfl rfl) ?_
 clear hK K
 refine AW.seqJ h (S := Bool) (V := Unit) (fun a v => ⟨[(2, HV.bool a)], []⟩) (fun a1 w2 h => ?_) (fun k3 h => ?_)
 ·refine AW.ret ?_
  have h := Option.some.inj h
  subst h
  exact ret_pure (hs := [HV.bool a1]) (q := HV.bool a1) (.inr rfl) (resT rfl rfl) rfl trivial
 refine AW.rg rfl fun K hK => ?_
 refine bv rfl (v_loadF ty24 rfl (l_litA rfl (Nat.le_of_ble_eq_true rfl) rfl)) ?_
 obtain ⟨x4, h5, h⟩ := bS h
 refine b_op rfl (o_call rfl rfl rfl rfl (ACallD.pure0 (w_ref10_Great h5)) ?_)
 refine mv rfl rfl ?_
 by_cases hg7 : x4 = true
 ·have h := ifT hg7 h
  refine b_F rfl rfl rfl rfl rfl hg7 ?_
  refine b_F rfl rfl rfl rfl rfl rfl ?_
  refine b_F rfl rfl rfl rfl rfl rfl ?_
  refine b_F rfl rfl rfl rfl rfl rfl ?_
  refine b_U rfl rfl rfl rfl rfl ?_
  refine b_U rfl rfl rfl rfl rfl ?_
  refine b_U rfl rfl rfl rfl rfl ?_
  refine b_F rfl rfl rfl rfl rfl rfl ?_
  refine bv rfl (v_pickT rfl rfl rfl) ?_
  refine mv rfl rfl ?_
  refine b_nil (hK _ ?_)
  clear hK K
  exact to_le (s' := ⟨[(2, HV.bool true)], []⟩) (AS.le_of ⟨rfl, trivial⟩ trivial) ⟨true, (), h, rfl⟩
 have h := ifF hg7 h
 refine b_T rfl rfl rfl rfl (bF hg7) (o_val rfl (v_fieldAddrF fo24_0 rfl) ?_)
 refine b_T rfl rfl rfl rfl rfl (o_val rfl (v_loadF ty3 rfl (l_lit rfl rfl)) ?_)
 refine b_T rfl rfl rfl rfl rfl (o_val rfl (v_bin rfl rfl b_gtr) ?_)
 refine b_T rfl rfl rfl rfl rfl (o_val rfl (mv_val rfl rfl).2 ?_)
 by_cases hg6 : 3 < p0.1
 ·have h := ifT hg6 h
  refine b_T rfl rfl rfl rfl (decide_eq_true hg6) (o_val rfl (v_fieldAddrF fo24_0 rfl) ?_)
  refine b_T rfl rfl rfl rfl rfl (o_val rfl (v_loadF ty3 rfl (l_lit rfl rfl)) ?_)
  refine b_T rfl rfl rfl rfl rfl (o_val rfl (v_bin rfl rfl b_leq) ?_)
  refine b_T rfl rfl rfl rfl rfl (o_val rfl (v_pickT rfl rfl rfl) ?_)
  refine bv rfl (v_pickF rfl rfl rfl) ?_
  refine mv rfl rfl ?_
  refine b_nil (hK _ ?_)
  clear hK K
  exact to_le (s' := ⟨[(2, HV.bool (decide (p0.1 ≤ 16)))], []⟩) (AS.le_of ⟨rfl, trivial⟩ trivial) ⟨decide (p0.1 ≤ 16), (), h, rfl⟩
 have h := ifF hg6 h
 refine b_F rfl rfl rfl rfl rfl (decide_eq_false hg6) ?_
 refine b_F rfl rfl rfl rfl rfl rfl ?_
 refine b_F rfl rfl rfl rfl rfl rfl ?_
 refine b_T rfl rfl rfl rfl rfl (o_val rfl (v_pickF rfl rfl rfl) ?_)
 refine bv rfl (v_pickF rfl rfl rfl) ?_
 refine mv rfl rfl ?_
 refine b_nil (hK _ ?_)
 clear hK K
 exact to_le (s' := ⟨[(2, HV.bool false)], []⟩) (AS.le_of ⟨rfl, trivial⟩ trivial) ⟨false, (), h, rfl⟩

set_option maxHeartbeats 1600000 in
set_option maxRecDepth 100000 in
theorem w_ref09_Compare {p0 : TFromLabelTo} {p1 : TFromLabelTo} {r : Int} (h : m_ref09_Compare p0 p1 = some r) : Pure Tryz.prog 46 [HV.agg [HV.int .i64 p0.1, HV.int .i64 p0.2.1, HV.int .i64 p0.2.2], HV.agg [HV.int .i64 p1.1, HV.int .i64 p1.2.1, HV.int .i64 p1.2.2]] (· = HV.int .i64 r) := by
 unfold m_ref09_Compare at h
 refine Pure.of_body Tryz.func46 rfl rfl (Nat.le_of_ble_eq_true rfl) fun hf => ?_
 unfold Tryz.f46
 dsimp only [enumS, Nat.reduceAdd]
 refine AW.rgs rfl fun K hK => ?_
 refine b_op rfl (o_box rfl rfl rfl ?_)
 refine b_op rfl (o_box rfl rfl rfl ?_)
 refine mv rfl rfl ?_
 refine b_fin hK (s' := ⟨[(2, HV.fptr [HV.int .i64 p0.1, HV.int .i64 p0.2.1, HV.int .i64 p0.2.2] 0), (3, HV.fptr [HV.int .i64 p1.1, HV.int .i64 p1.2.1, HV.int .i64 p1.2.2] 0)], []⟩) (le_q rfl rfl) ?_
 clear hK K
 refine AW.dgs 16 follows rfl rfl fun K hK => ?_
 refine sv rfl (v_fieldAddrF fo44_0 rfl) ?_
 refine sv rfl (v_loadF ty3 rfl (l_lit rfl rfl)) ?_
 refine sv rfl (v_fieldAddrF fo44_1 rfl) ?_
 refine sv rfl (v_loadF ty3 rfl (l_lit rfl rfl)) ?_
 refine sv rfl (v_fieldAddrF fo44_2 rfl) ?_
 refine sv rfl (v_loadF ty3 rfl (l_lit rfl rfl)) ?_
 refine s_op rfl rfl (ops_bsl rfl rfl (as_of (cs := [HV.int .i64 p0.1, HV.int .i64 p0.2.1, HV.int .i64 p0.2.2]) ty55 ty3 rfl rfl rfl rfl rfl) ?_)
 refine sv rfl (v_fieldAddrF fo44_0 rfl) ?_
 refine sv rfl (v_loadF ty3 rfl (l_lit rfl rfl)) ?_
 refine sv rfl (v_fieldAddrF fo44_1 rfl) ?_
 refine sv rfl (v_loadF ty3 rfl (l_lit rfl rfl)) ?_
 refine sv rfl (v_fieldAddrF fo44_2 rfl) ?_
 refine sv rfl (v_loadF ty3 rfl (l_lit rfl rfl)) ?_
 refine s_op rfl rfl (ops_bsl rfl rfl (as_of (cs := [HV.int .i64 p1.1, HV.int .i64 p1.2.1, HV.int .i64 p1.2.2]) ty55 ty3 rfl rfl rfl rfl rfl) ?_)
 refine sm rfl rfl ?_
 refine sm rfl rfl ?_
 refine s_nil ?_
 refine b_fin hK (s' := ⟨[(5, slE eInt [p0.1, p0.2.1, p0.2.2]), (6, slE eInt [p1.1, p1.2.1, p1.2.2])], []⟩) (le_q rfl rfl) ?_
 clear hK K
 refine AW.seq ?_
 refine AW.rgs rfl fun K hK => ?_
 refine mv rfl rfl ?_
 refine b_fin hK (s' := ⟨[(5, slE eInt [p0.1, p0.2.1, p0.2.2]), (6, slE eInt [p1.1, p1.2.1, p1.2.2]), (7, HV.int .i64 0)], []⟩) (le_q rfl rfl) ?_
 clear hK K
 refine AW.lpR h (by first | exact up_then | exact up_to) (S := Int) (V := Unit) (fun a v => ⟨[(5, slE eInt [p0.1, p0.2.1, p0.2.2]), (6, slE eInt [p1.1, p1.2.1, p1.2.2]), (7, HV.int .i64 a)], []⟩) ?_ (X := Unit) (W := Unit) (fun a v => ⟨[], []⟩) (fun a13 w14 h => ?_) (fun a1 w2 st3 h hr4=> ?_)
 ·exact to_le (s' := ⟨[(5, slE eInt [p0.1, p0.2.1, p0.2.2]), (6, slE eInt [p1.1, p1.2.1, p1.2.2]), (7, HV.int .i64 0)], []⟩) (AS.le_of ⟨rfl, rfl, rfl, trivial⟩ trivial) ⟨(), rfl⟩
 ·refine AW.rgs rfl fun K hK => ?_
  refine mv rfl rfl ?_
  refine b_fin hK (s' := ⟨[(4, HV.int .i64 0)], []⟩) (le_q rfl rfl) ?_
  clear hK K
  refine AW.ret ?_
  have h := Option.some.inj h
  subst h
  exact ret_pure (hs := [HV.int .i64 0]) (q := HV.int .i64 0) (.inr rfl) (resT rfl rfl) rfl trivial
 refine AW.seq ?_
 refine AW.rgs rfl fun K hK => ?_
 refine mv rfl rfl ?_
 refine bv rfl (v_bin rfl rfl b_lss) ?_
 refine b_fin hK (s' := ⟨[(5, slE eInt [p0.1, p0.2.1, p0.2.2]), (6, slE eInt [p1.1, p1.2.1, p1.2.2]), (7, HV.int .i64 a1), (23, HV.bool (decide (a1 < 3)))], []⟩) (le_q rfl rfl) ?_
 clear hK K
 refine AW.cond rfl (fun hc => ?_) (fun hc => ?_)
 ·have hc := of_decide_eq_true hc
  have h := ifT hc h
  refine AW.skip ?_
  refine AW.seq (AW.block ?_)
  refine AW.seq ?_
  refine AW.dgs 9 follows rfl rfl fun K hK => ?_
  refine sm rfl rfl ?_
  refine sm rfl rfl ?_
  obtain ⟨x5, h6, h⟩ := bS h
  refine sv rfl (v_idxF ty55 es55 rfl rfl (idx_lt h6)) ?_
  refine sv rfl (v_loadF ty3 rfl (l_cell eInt h6 (o := 0) rfl rfl)) ?_
  refine sm rfl rfl ?_
  refine sm rfl rfl ?_
  obtain ⟨x7, h8, h⟩ := bS h
  refine sv rfl (v_idxF ty55 es55 rfl rfl (idx_lt h8)) ?_
  refine sv rfl (v_loadF ty3 rfl (l_cell eInt h8 (o := 0) rfl rfl)) ?_
  refine sv rfl (v_bin rfl rfl b_lss) ?_
  refine s_nil ?_
  refine b_fin hK (s' := ⟨[(5, slE eInt [p0.1, p0.2.1, p0.2.2]), (6, slE eInt [p1.1, p1.2.1, p1.2.2]), (7, HV.int .i64 a1), (34, HV.bool (decide (x5 < x7)))], []⟩) (le_q rfl rfl) ?_
  clear hK K
  refine AW.cond rfl (fun hc => ?_) (fun hc => ?_)
  ·have hc := of_decide_eq_true hc
   have h := ifT hc h
   refine AW.rgs rfl fun K hK => ?_
   refine mv rfl rfl ?_
   refine b_fin hK (s' := ⟨[(4, HV.int .i64 (-1))], []⟩) (le_q rfl rfl) ?_
   clear hK K
   have h := hr4 _ h
   refine AW.ret ?_
   have h := Option.some.inj h
   subst h
   exact ret_pure (hs := [HV.int .i64 (-1)]) (q := HV.int .i64 (-1)) (.inr rfl) (resT rfl rfl) rfl trivial
  have hc := of_decide_eq_false hc
  have h := ifF hc h
  refine AW.skip ?_
  refine AW.dgs 9 follows rfl rfl fun K hK => ?_
  refine sm rfl rfl ?_
  refine sm rfl rfl ?_
  obtain ⟨x9, h10, h⟩ := bS h
  refine sv rfl (v_idxF ty55 es55 rfl rfl (idx_lt h10)) ?_
  refine sv rfl (v_loadF ty3 rfl (l_cell eInt h10 (o := 0) rfl rfl)) ?_
  refine sm rfl rfl ?_
  refine sm rfl rfl ?_
  obtain ⟨x11, h12, h⟩ := bS h
  refine sv rfl (v_idxF ty55 es55 rfl rfl (idx_lt h12)) ?_
  refine sv rfl (v_loadF ty3 rfl (l_cell eInt h12 (o := 0) rfl rfl)) ?_
  refine sv rfl (v_bin rfl rfl b_gtr) ?_
  refine s_nil ?_
  refine b_fin hK (s' := ⟨[(5, slE eInt [p0.1, p0.2.1, p0.2.2]), (6, slE eInt [p1.1, p1.2.1, p1.2.2]), (7, HV.int .i64 a1), (43, HV.bool (decide (x11 < x9)))], []⟩) (le_q rfl rfl) ?_
  clear hK K
  refine AW.cond rfl (fun hc => ?_) (fun hc => ?_)
  ·have hc := of_decide_eq_true hc
   have h := ifT hc h
   refine AW.rgs rfl fun K hK => ?_
   refine mv rfl rfl ?_
   refine b_fin hK (s' := ⟨[(4, HV.int .i64 1)], []⟩) (le_q rfl rfl) ?_
   clear hK K
   have h := hr4 _ h
   refine AW.ret ?_
   have h := Option.some.inj h
   subst h
   exact ret_pure (hs := [HV.int .i64 1]) (q := HV.int .i64 1) (.inr rfl) (resT rfl rfl) rfl trivial
  have hc := of_decide_eq_false hc
  have h := ifF hc h
  refine AW.skip ?_
  refine AW.rg rfl fun K hK => ?_
  refine mv rfl rfl ?_
  refine bv rfl (v_bin rfl rfl b_add) ?_
  refine mv rfl rfl ?_
  refine b_nil (hK _ ?_)
  clear hK K
  exact to_le (s' := ⟨[(5, slE eInt [p0.1, p0.2.1, p0.2.2]), (6, slE eInt [p1.1, p1.2.1, p1.2.2]), (7, HV.int .i64 (IntKind.wrap .i64 (a1 + 1)))], []⟩) (AS.le_of ⟨rfl, rfl, rfl, trivial⟩ trivial) ⟨IntKind.wrap .i64 (a1 + 1), (), h, rfl⟩
 have hc := of_decide_eq_false hc
 have h := ifF hc h
 refine AW.exit ?_
 exact to_le (s' := ⟨[], []⟩) (AS.le_of trivial trivial) ⟨(), (), h, rfl⟩

set_option maxHeartbeats 1600000 in
set_option maxRecDepth 100000 in
theorem w_ref09_Check {p0 : TLabelsStatesEdges} {r : Int} (h : m_ref09_Check p0 = some r) : Pure Tryz.prog 26 [HV.agg [HV.int .i64 p0.1, HV.int .i64 p0.2.1, slE eFromLabelTo p0.2.2]] (· = HV.int .i64 r) := by
 unfold m_ref09_Check at h
 refine Pure.of_body Tryz.func26 rfl rfl (Nat.le_of_ble_eq_true rfl) fun hf => ?_
 unfold Tryz.f26
 dsimp only [enumS, Nat.reduceAdd]
 refine AW.rgs rfl fun K hK => ?_
 refine b_op rfl (o_box rfl rfl rfl ?_)
 refine mv rfl rfl ?_
 refine b_fin hK (s' := ⟨[(1, HV.fptr [HV.int .i64 p0.1, HV.int .i64 p0.2.1, slE eFromLabelTo p0.2.2] 0)], []⟩) (le_q rfl rfl) ?_
 clear hK K
 refine AW.seq ?_
 refine AW.seqJ h (S := Bool) (V := Unit) (fun a v => ⟨[(1, HV.fptr [HV.int .i64 p0.1, HV.int .i64 p0.2.1, slE eFromLabelTo p0.2.2] 0), (12, HV.bool a)], []⟩) (fun a1 w2 h => ?_) (fun k3 h => ?_)
 ·refine AW.cond rfl (fun hc => ?_) (fun hc => ?_)
  ·have h := ifT hc h
   refine AW.rgs rfl fun K hK => ?_
   refine mv rfl rfl ?_
   refine b_fin hK (s' := ⟨[(2, HV.int .i64 12)], []⟩) (le_q rfl rfl) ?_
   clear hK K
   refine AW.ret ?_
   have h := Option.some.inj h
   subst h
   exact ret_pure (hs := [HV.int .i64 12]) (q := HV.int .i64 12) (.inr rfl) (resT rfl rfl) rfl trivial
  have h := ifF (bF' hc) h
  refine AW.skip ?_
  refine AW.seq ?_
  refine AW.rgs rfl fun K hK => ?_
  refine bv rfl (v_fieldAddrF fo24_1 rfl) ?_
  refine bv rfl (v_loadF ty3 rfl (l_lit rfl rfl)) ?_
  refine bv rfl (v_bin rfl rfl b_lss) ?_
  refine b_fin hK (s' := ⟨[(1, HV.fptr [HV.int .i64 p0.1, HV.int .i64 p0.2.1, slE eFromLabelTo p0.2.2] 0), (15, HV.bool (decide (p0.2.1 < 0)))], []⟩) (le_q rfl rfl) ?_
  clear hK K
  refine AW.cond rfl (fun hc => ?_) (fun hc => ?_)
  ·have hc := of_decide_eq_true hc
   have h := ifT hc h
   refine AW.rgs rfl fun K hK => ?_
   refine mv rfl rfl ?_
   refine b_fin hK (s' := ⟨[(2, HV.int .i64 2)], []⟩) (le_q rfl rfl) ?_
   clear hK K
   refine AW.ret ?_
   have h := Option.some.inj h
   subst h
   exact ret_pure (hs := [HV.int .i64 2]) (q := HV.int .i64 2) (.inr rfl) (resT rfl rfl) rfl trivial
  have hc := of_decide_eq_false hc
  have h := ifF hc h
  refine AW.skip ?_
  refine AW.seq ?_
  refine AW.seqJ h (S := Bool) (V := Unit) (fun a v => ⟨[(1, HV.fptr [HV.int .i64 p0.1, HV.int .i64 p0.2.1, slE eFromLabelTo p0.2.2] 0), (24, HV.bool a)], []⟩) (fun a4 w5 h => ?_) (fun k6 h => ?_)
  ·refine AW.cond rfl (fun hc => ?_) (fun hc => ?_)
   ·have h := ifT hc h
    refine AW.rgs rfl fun K hK => ?_
    refine mv rfl rfl ?_
    refine b_fin hK (s' := ⟨[(2, HV.int .i64 4)], []⟩) (le_q rfl rfl) ?_
    clear hK K
    refine AW.ret ?_
    have h := Option.some.inj h
    subst h
    exact ret_pure (hs := [HV.int .i64 4]) (q := HV.int .i64 4) (.inr rfl) (resT rfl rfl) rfl trivial
   have h := ifF (bF' hc) h
   refine AW.skip ?_
   refine AW.seq ?_
   refine AW.rgs rfl fun K hK => ?_
   refine mv rfl rfl ?_
   refine b_fin hK (s' := ⟨[(1, HV.fptr [HV.int .i64 p0.1, HV.int .i64 p0.2.1, slE eFromLabelTo p0.2.2] 0), (3, HV.int .i64 0)], []⟩) (le_q rfl rfl) ?_
   clear hK K
   refine AW.lpR h (by first | exact up_then | exact up_to) (S := Int) (V := Unit) (fun a v => ⟨[(1, HV.fptr [HV.int .i64 p0.1, HV.int .i64 p0.2.1, slE eFromLabelTo p0.2.2] 0), (3, HV.int .i64 a)], []⟩) ?_ (X := Unit) (W := Unit) (fun a v => ⟨[], []⟩) (fun a30 w31 h => ?_) (fun a7 w8 st9 h hr10=> ?_)
   ·exact to_le (s' := ⟨[(1, HV.fptr [HV.int .i64 p0.1, HV.int .i64 p0.2.1, slE eFromLabelTo p0.2.2] 0), (3, HV.int .i64 0)], []⟩) (AS.le_of ⟨rfl, rfl, trivial⟩ trivial) ⟨(), rfl⟩
   ·refine AW.rgs rfl fun K hK => ?_
    refine mv rfl rfl ?_
    refine b_fin hK (s' := ⟨[(2, HV.int .i64 0)], []⟩) (le_q rfl rfl) ?_
    clear hK K
    refine AW.ret ?_
    have h := Option.some.inj h
    subst h
    exact ret_pure (hs := [HV.int .i64 0]) (q := HV.int .i64 0) (.inr rfl) (resT rfl rfl) rfl trivial
   refine AW.seq ?_
   refine AW.rgs rfl fun K hK => ?_
   refine mv rfl rfl ?_
   refine bv rfl (v_fieldAddrF fo24_2 rfl) ?_
   refine bv rfl (v_loadF ty22 rfl (l_lit rfl rfl)) ?_
   refine bv rfl (v_lenF rfl rfl ty22 rfl) ?_
   refine bv rfl (v_bin rfl rfl b_lss) ?_
   refine b_fin hK (s' := ⟨[(1, HV.fptr [HV.int .i64 p0.1, HV.int .i64 p0.2.1, slE eFromLabelTo p0.2.2] 0), (3, HV.int .i64 a7), (29, HV.bool (decide (a7 < ((p0.2.2).length : Int))))], []⟩) (le_q rfl rfl) ?_
   clear hK K
   refine AW.cond rfl (fun hc => ?_) (fun hc => ?_)
   ·have hc := of_decide_eq_true hc
    have h := ifT hc h
    refine AW.skip ?_
    refine AW.seq (AW.block ?_)
    refine AW.rgs rfl fun K hK => ?_
    refine bv rfl (v_fieldAddrF fo24_2 rfl) ?_
    refine bv rfl (v_loadF ty22 rfl (l_lit rfl rfl)) ?_
    refine mv rfl rfl ?_
    obtain ⟨x11, h12, h⟩ := bS h
    refine bv rfl (v_idxF ty22 es22 rfl rfl (idx_lt h12)) ?_
    refine bv rfl (v_loadF ty44 rfl (l_agg eFromLabelTo h12 rfl rfl)) ?_
    refine b_op rfl (o_alloc (fid := 26) (zs := [HV.int .i64 0, HV.int .i64 0, HV.int .i64 0]) 26004 rfl rfl ty44 rfl (fun v13 => ?_))
    refine b_op rfl (o_store (cs := [HV.int .i64 x11.1, HV.int .i64 x11.2.1, HV.int .i64 x11.2.2]) (zs := [HV.int .i64 x11.1, HV.int .i64 x11.2.1, HV.int .i64 x11.2.2]) rfl rfl rfl ty44 rfl rfl rfl rfl rfl ?_)
    refine b_fin hK (s' := ⟨[(1, HV.fptr [HV.int .i64 p0.1, HV.int .i64 p0.2.1, slE eFromLabelTo p0.2.2] 0), (3, HV.int .i64 a7), (4, HV.ptr 26004 v13 0)], [(26004, v13, .arr 3 44 [HV.int .i64 x11.1, HV.int .i64 x11.2.1, HV.int .i64 x11.2.2])]⟩) (le_q rfl rfl) ?_
    clear hK K
    refine AW.seq ?_
    refine AW.seqJ h (S := Bool) (V := Unit) (fun a v => ⟨[(1, HV.fptr [HV.int .i64 p0.1, HV.int .i64 p0.2.1, slE eFromLabelTo p0.2.2] 0), (3, HV.int .i64 a7), (4, HV.ptr 26004 v13 0), (70, HV.bool a)], [(26004, v13, .arr 3 44 [HV.int .i64 x11.1, HV.int .i64 x11.2.1, HV.int .i64 x11.2.2])]⟩) (fun a14 w15 h => ?_) (fun k16 h => ?_)
    ·refine AW.cond rfl (fun hc => ?_) (fun hc => ?_)
     ·have h := ifT hc h
      refine AW.rgs rfl fun K hK => ?_
      refine mv rfl rfl ?_
      refine b_fin hK (s' := ⟨[(2, HV.int .i64 2)], []⟩) (le_q rfl rfl) ?_
      clear hK K
      have h := hr10 _ h
      refine AW.ret ?_
      have h := Option.some.inj h
      subst h
      exact ret_pure (hs := [HV.int .i64 2]) (q := HV.int .i64 2) (.inr rfl) (resT rfl rfl) rfl trivial
     have h := ifF (bF' hc) h
     refine AW.skip ?_
     refine AW.seqJ h (S := Bool) (V := Unit) (fun a v => ⟨[(1, HV.fptr [HV.int .i64 p0.1, HV.int .i64 p0.2.1, slE eFromLabelTo p0.2.2] 0), (3, HV.int .i64 a7), (83, HV.bool a)], []⟩) (fun a17 w18 h => ?_) (fun k19 h => ?_)
     ·refine AW.cond rfl (fun hc => ?_) (fun hc => ?_)
      ·have h := ifT hc h
       refine AW.rgs rfl fun K hK => ?_
       refine mv rfl rfl ?_
       refine b_fin hK (s' := ⟨[(2, HV.int .i64 10)], []⟩) (le_q rfl rfl) ?_
       clear hK K
       have h := hr10 _ h
       refine AW.ret ?_
       have h := Option.some.inj h
       subst h
       exact ret_pure (hs := [HV.int .i64 10]) (q := HV.int .i64 10) (.inr rfl) (resT rfl rfl) rfl trivial
      have h := ifF (bF' hc) h
      refine AW.skip ?_
      refine AW.rg rfl fun K hK => ?_
      refine mv rfl rfl ?_
      refine bv rfl (v_bin rfl rfl b_add) ?_
      refine mv rfl rfl ?_
      refine b_nil (hK _ ?_)
      clear hK K
      exact to_le (s' := ⟨[(1, HV.fptr [HV.int .i64 p0.1, HV.int .i64 p0.2.1, slE eFromLabelTo p0.2.2] 0), (3, HV.int .i64 (IntKind.wrap .i64 (a7 + 1)))], []⟩) (AS.le_of ⟨rfl, rfl, trivial⟩ trivial) ⟨IntKind.wrap .i64 (a7 + 1), (), h, rfl⟩
     refine AW.dg 13 follows rfl rfl fun K hK => ?_
     refine sm rfl rfl ?_
     refine sv rfl (v_bin rfl rfl b_gtr) ?_
     refine sm rfl rfl ?_
     by_cases hg24 : 0 < a7
     ·have h := ifT hg24 h
      refine s_T rfl rfl rfl rfl rfl (decide_eq_true hg24) (ops_val rfl (v_fieldAddrF fo24_2 rfl) ?_)
      refine s_T rfl rfl rfl rfl rfl rfl (ops_val rfl (v_loadF ty22 rfl (l_lit rfl rfl)) ?_)
      refine s_T rfl rfl rfl rfl rfl rfl (ops_val rfl (mv_val rfl rfl).2 ?_)
      refine s_T rfl rfl rfl rfl rfl rfl (ops_val rfl (v_bin rfl rfl b_sub) ?_)
      obtain ⟨x20, h21, h⟩ := bS h
      refine s_T rfl rfl rfl rfl rfl rfl (ops_val rfl (v_idxF ty22 es22 rfl rfl (idx_lt h21)) ?_)
      refine s_T rfl rfl rfl rfl rfl rfl (ops_val rfl (v_loadF ty44 rfl (l_agg eFromLabelTo h21 rfl rfl)) ?_)
      refine s_T rfl rfl rfl rfl rfl rfl (ops_val rfl (v_loadP ty44 rfl rfl (l_litA rfl (Nat.le_of_ble_eq_true rfl) rfl)) ?_)
      obtain ⟨x22, h23, h⟩ := bS h
      refine s_T rfl rfl rfl rfl rfl rfl (ops_call rfl rfl rfl rfl (ACallD.pure0 (w_ref09_Compare h23)) ?_)
      refine s_T rfl rfl rfl rfl rfl rfl (ops_val rfl (v_bin rfl rfl b_geq) ?_)
      refine sv rfl (v_pickT rfl rfl rfl) ?_
      refine s_nil ?_
      refine b_nil (hK _ ?_)
      clear hK K
      exact to_le (s' := ⟨[(1, HV.fptr [HV.int .i64 p0.1, HV.int .i64 p0.2.1, slE eFromLabelTo p0.2.2] 0), (3, HV.int .i64 a7), (83, HV.bool (decide (0 ≤ x22)))], []⟩) (AS.le_of ⟨rfl, rfl, rfl, trivial⟩ trivial) ⟨decide (0 ≤ x22), (), h, rfl⟩
     have h := ifF hg24 h
     refine s_F rfl rfl rfl rfl rfl (decide_eq_false hg24) ?_
     refine s_F rfl rfl rfl rfl rfl rfl ?_
     refine s_F rfl rfl rfl rfl rfl rfl ?_
     refine s_F rfl rfl rfl rfl rfl rfl ?_
     refine s_F rfl rfl rfl rfl rfl rfl ?_
     refine s_F rfl rfl rfl rfl rfl rfl ?_
     refine s_F rfl rfl rfl rfl rfl rfl ?_
     refine s_F rfl rfl rfl rfl rfl rfl ?_
     refine s_F rfl rfl rfl rfl rfl rfl ?_
     refine sv rfl (v_pickF rfl rfl rfl) ?_
     refine s_nil ?_
     refine b_nil (hK _ ?_)
     clear hK K
     exact to_le (s' := ⟨[(1, HV.fptr [HV.int .i64 p0.1, HV.int .i64 p0.2.1, slE eFromLabelTo p0.2.2] 0), (3, HV.int .i64 a7), (83, HV.bool false)], []⟩) (AS.le_of ⟨rfl, rfl, rfl, trivial⟩ trivial) ⟨false, (), h, rfl⟩
    refine AW.rg rfl fun K hK => ?_
    refine bv rfl (v_fieldAddrP fo44_0 rfl rfl) ?_
    refine bv rfl (v_loadP ty3 rfl rfl (l_lit rfl rfl)) ?_
    refine bv rfl (v_bin rfl rfl b_lss) ?_
    refine mv rfl rfl ?_
    by_cases hg29 : x11.1 < 0
    ·have h := ifT hg29 h
     refine b_F rfl rfl rfl rfl rfl (decide_eq_true hg29) ?_
     refine b_F rfl rfl rfl rfl rfl rfl ?_
     refine b_F rfl rfl rfl rfl rfl rfl ?_
     refine b_F rfl rfl rfl rfl rfl rfl ?_
     refine b_F rfl rfl rfl rfl rfl rfl ?_
     refine bv rfl (v_pickT rfl rfl rfl) ?_
     refine mv rfl rfl ?_
     refine b_F rfl rfl rfl rfl rfl rfl ?_
     refine b_F rfl rfl rfl rfl rfl rfl ?_
     refine b_F rfl rfl rfl rfl rfl rfl ?_
     refine bv rfl (v_pickT rfl rfl rfl) ?_
     refine mv rfl rfl ?_
     refine b_F rfl rfl rfl rfl rfl rfl ?_
     refine b_F rfl rfl rfl rfl rfl rfl ?_
     refine b_F rfl rfl rfl rfl rfl rfl ?_
     refine b_F rfl rfl rfl rfl rfl rfl ?_
     refine b_F rfl rfl rfl rfl rfl rfl ?_
     refine bv rfl (v_pickT rfl rfl rfl) ?_
     refine mv rfl rfl ?_
     refine b_F rfl rfl rfl rfl rfl rfl ?_
     refine b_F rfl rfl rfl rfl rfl rfl ?_
     refine b_F rfl rfl rfl rfl rfl rfl ?_
     refine bv rfl (v_pickT rfl rfl rfl) ?_
     refine mv rfl rfl ?_
     refine b_F rfl rfl rfl rfl rfl rfl ?_
     refine b_F rfl rfl rfl rfl rfl rfl ?_
     refine b_F rfl rfl rfl rfl rfl rfl ?_
     refine b_F rfl rfl rfl rfl rfl rfl ?_
     refine b_F rfl rfl rfl rfl rfl rfl ?_
     refine bv rfl (v_pickT rfl rfl rfl) ?_
     refine b_nil (hK _ ?_)
     clear hK K
     exact to_le (s' := ⟨[(1, HV.fptr [HV.int .i64 p0.1, HV.int .i64 p0.2.1, slE eFromLabelTo p0.2.2] 0), (3, HV.int .i64 a7), (4, HV.ptr 26004 v13 0), (70, HV.bool true)], [(26004, v13, .arr 3 44 [HV.int .i64 x11.1, HV.int .i64 x11.2.1, HV.int .i64 x11.2.2])]⟩) (AS.le_of ⟨rfl, rfl, rfl, rfl, trivial⟩ ⟨rfl, trivial⟩) ⟨true, (), h, rfl⟩
    have h := ifF hg29 h
    refine b_T rfl rfl rfl rfl (decide_eq_false hg29) (o_val rfl (v_fieldAddrP fo44_0 rfl rfl) ?_)
    refine b_T rfl rfl rfl rfl rfl (o_val rfl (v_loadP ty3 rfl rfl (l_lit rfl rfl)) ?_)
    refine b_T rfl rfl rfl rfl rfl (o_val rfl (v_fieldAddrF fo24_1 rfl) ?_)
    refine b_T rfl rfl rfl rfl rfl (o_val rfl (v_loadF ty3 rfl (l_lit rfl rfl)) ?_)
    refine b_T rfl rfl rfl rfl rfl (o_val rfl (v_bin rfl rfl b_geq) ?_)
    refine bv rfl (v_pickF rfl rfl rfl) ?_
    refine mv rfl rfl ?_
    by_cases hg28 : p0.2.1 ≤ x11.1
    ·have h := ifT hg28 h
     refine b_F rfl rfl rfl rfl rfl (decide_eq_true hg28) ?_
     refine b_F rfl rfl rfl rfl rfl rfl ?_
     refine b_F rfl rfl rfl rfl rfl rfl ?_
     refine bv rfl (v_pickT rfl rfl rfl) ?_
     refine mv rfl rfl ?_
     refine b_F rfl rfl rfl rfl rfl rfl ?_
     refine b_F rfl rfl rfl rfl rfl rfl ?_
     refine b_F rfl rfl rfl rfl rfl rfl ?_
     refine b_F rfl rfl rfl rfl rfl rfl ?_
     refine b_F rfl rfl rfl rfl rfl rfl ?_
     refine bv rfl (v_pickT rfl rfl rfl) ?_
     refine mv rfl rfl ?_
     refine b_F rfl rfl rfl rfl rfl rfl ?_
     refine b_F rfl rfl rfl rfl rfl rfl ?_
     refine b_F rfl rfl rfl rfl rfl rfl ?_
     refine bv rfl (v_pickT rfl rfl rfl) ?_
     refine mv rfl rfl ?_
     refine b_F rfl rfl rfl rfl rfl rfl ?_
     refine b_F rfl rfl rfl rfl rfl rfl ?_
     refine b_F rfl rfl rfl rfl rfl rfl ?_
     refine b_F rfl rfl rfl rfl rfl rfl ?_
     refine b_F rfl rfl rfl rfl rfl rfl ?_
     refine bv rfl (v_pickT rfl rfl rfl) ?_
     refine b_nil (hK _ ?_)
     clear hK K
     exact to_le (s' := ⟨[(1, HV.fptr [HV.int .i64 p0.1, HV.int .i64 p0.2.1, slE eFromLabelTo p0.2.2] 0), (3, HV.int .i64 a7), (4, HV.ptr 26004 v13 0), (70, HV.bool true)], [(26004, v13, .arr 3 44 [HV.int .i64 x11.1, HV.int .i64 x11.2.1, HV.int .i64 x11.2.2])]⟩) (AS.le_of ⟨rfl, rfl, rfl, rfl, trivial⟩ ⟨rfl, trivial⟩) ⟨true, (), h, rfl⟩
    have h := ifF hg28 h
    refine b_T rfl rfl rfl rfl (decide_eq_false hg28) (o_val rfl (v_fieldAddrP fo44_2 rfl rfl) ?_)
    refine b_T rfl rfl rfl rfl rfl (o_val rfl (v_loadP ty3 rfl rfl (l_lit rfl rfl)) ?_)
    refine b_T rfl rfl rfl rfl rfl (o_val rfl (v_bin rfl rfl b_lss) ?_)
    refine bv rfl (v_pickF rfl rfl rfl) ?_
    refine mv rfl rfl ?_
    by_cases hg27 : x11.2.2 < 0
    ·have h := ifT hg27 h
     refine b_F rfl rfl rfl rfl rfl (decide_eq_true hg27) ?_
     refine b_F rfl rfl rfl rfl rfl rfl ?_
     refine b_F rfl rfl rfl rfl rfl rfl ?_
     refine b_F rfl rfl rfl rfl rfl rfl ?_
     refine b_F rfl rfl rfl rfl rfl rfl ?_
     refine bv rfl (v_pickT rfl rfl rfl) ?_
     refine mv rfl rfl ?_
     refine b_F rfl rfl rfl rfl rfl rfl ?_
     refine b_F rfl rfl rfl rfl rfl rfl ?_
     refine b_F rfl rfl rfl rfl rfl rfl ?_
     refine bv rfl (v_pickT rfl rfl rfl) ?_
     refine mv rfl rfl ?_
     refine b_F rfl rfl rfl rfl rfl rfl ?_
     refine b_F rfl rfl rfl rfl rfl rfl ?_
     refine b_F rfl rfl rfl rfl rfl rfl ?_
     refine b_F rfl rfl rfl rfl rfl rfl ?_
     refine b_F rfl rfl rfl rfl rfl rfl ?_
     refine bv rfl (v_pickT rfl rfl rfl) ?_
     refine b_nil (hK _ ?_)
     clear hK K
     exact to_le (s' := ⟨[(1, HV.fptr [HV.int .i64 p0.1, HV.int .i64 p0.2.1, slE eFromLabelTo p0.2.2] 0), (3, HV.int .i64 a7), (4, HV.ptr 26004 v13 0), (70, HV.bool true)], [(26004, v13, .arr 3 44 [HV.int .i64 x11.1, HV.int .i64 x11.2.1, HV.int .i64 x11.2.2])]⟩) (AS.le_of ⟨rfl, rfl, rfl, rfl, trivial⟩ ⟨rfl, trivial⟩) ⟨true, (), h, rfl⟩
    have h := ifF hg27 h
    refine b_T rfl rfl rfl rfl (decide_eq_false hg27) (o_val rfl (v_fieldAddrP fo44_2 rfl rfl) ?_)
    refine b_T rfl rfl rfl rfl rfl (o_val rfl (v_loadP ty3 rfl rfl (l_lit rfl rfl)) ?_)
    refine b_T rfl rfl rfl rfl rfl (o_val rfl (v_fieldAddrF fo24_1 rfl) ?_)
    refine b_T rfl rfl rfl rfl rfl (o_val rfl (v_loadF ty3 rfl (l_lit rfl rfl)) ?_)
    refine b_T rfl rfl rfl rfl rfl (o_val rfl (v_bin rfl rfl b_geq) ?_)
    refine bv rfl (v_pickF rfl rfl rfl) ?_
    refine mv rfl rfl ?_
    by_cases hg26 : p0.2.1 ≤ x11.2.2
    ·have h := ifT hg26 h
     refine b_F rfl rfl rfl rfl rfl (decide_eq_true hg26) ?_
     refine b_F rfl rfl rfl rfl rfl rfl ?_
     refine b_F rfl rfl rfl rfl rfl rfl ?_
     refine bv rfl (v_pickT rfl rfl rfl) ?_
     refine mv rfl rfl ?_
     refine b_F rfl rfl rfl rfl rfl rfl ?_
     refine b_F rfl rfl rfl rfl rfl rfl ?_
     refine b_F rfl rfl rfl rfl rfl rfl ?_
     refine b_F rfl rfl rfl rfl rfl rfl ?_
     refine b_F rfl rfl rfl rfl rfl rfl ?_
     refine bv rfl (v_pickT rfl rfl rfl) ?_
     refine b_nil (hK _ ?_)
     clear hK K
     exact to_le (s' := ⟨[(1, HV.fptr [HV.int .i64 p0.1, HV.int .i64 p0.2.1, slE eFromLabelTo p0.2.2] 0), (3, HV.int .i64 a7), (4, HV.ptr 26004 v13 0), (70, HV.bool true)], [(26004, v13, .arr 3 44 [HV.int .i64 x11.1, HV.int .i64 x11.2.1, HV.int .i64 x11.2.2])]⟩) (AS.le_of ⟨rfl, rfl, rfl, rfl, trivial⟩ ⟨rfl, trivial⟩) ⟨true, (), h, rfl⟩
    have h := ifF hg26 h
    refine b_T rfl rfl rfl rfl (decide_eq_false hg26) (o_val rfl (v_fieldAddrP fo44_1 rfl rfl) ?_)
    refine b_T rfl rfl rfl rfl rfl (o_val rfl (v_loadP ty3 rfl rfl (l_lit rfl rfl)) ?_)
    refine b_T rfl rfl rfl rfl rfl (o_val rfl (v_bin rfl rfl b_lss) ?_)
    refine bv rfl (v_pickF rfl rfl rfl) ?_
    refine mv rfl rfl ?_
    by_cases hg25 : x11.2.1 < 0
    ·have h := ifT hg25 h
     refine b_F rfl rfl rfl rfl rfl (decide_eq_true hg25) ?_
     refine b_F rfl rfl rfl rfl rfl rfl ?_
     refine b_F rfl rfl rfl rfl rfl rfl ?_
     refine b_F rfl rfl rfl rfl rfl rfl ?_
     refine b_F rfl rfl rfl rfl rfl rfl ?_
     refine bv rfl (v_pickT rfl rfl rfl) ?_
     refine b_nil (hK _ ?_)
     clear hK K
     exact to_le (s' := ⟨[(1, HV.fptr [HV.int .i64 p0.1, HV.int .i64 p0.2.1, slE eFromLabelTo p0.2.2] 0), (3, HV.int .i64 a7), (4, HV.ptr 26004 v13 0), (70, HV.bool true)], [(26004, v13, .arr 3 44 [HV.int .i64 x11.1, HV.int .i64 x11.2.1, HV.int .i64 x11.2.2])]⟩) (AS.le_of ⟨rfl, rfl, rfl, rfl, trivial⟩ ⟨rfl, trivial⟩) ⟨true, (), h, rfl⟩
    have h := ifF hg25 h
    refine b_T rfl rfl rfl rfl (decide_eq_false hg25) (o_val rfl (v_fieldAddrP fo44_1 rfl rfl) ?_)
    refine b_T rfl rfl rfl rfl rfl (o_val rfl (v_loadP ty3 rfl rfl (l_lit rfl rfl)) ?_)
    refine b_T rfl rfl rfl rfl rfl (o_val rfl (v_fieldAddrF fo24_0 rfl) ?_)
    refine b_T rfl rfl rfl rfl rfl (o_val rfl (v_loadF ty3 rfl (l_lit rfl rfl)) ?_)
    refine b_T rfl rfl rfl rfl rfl (o_val rfl (v_bin rfl rfl b_geq) ?_)
    refine bv rfl (v_pickF rfl rfl rfl) ?_
    refine b_nil (hK _ ?_)
    clear hK K
    exact to_le (s' := ⟨[(1, HV.fptr [HV.int .i64 p0.1, HV.int .i64 p0.2.1, slE eFromLabelTo p0.2.2] 0), (3, HV.int .i64 a7), (4, HV.ptr 26004 v13 0), (70, HV.bool (decide (p0.1 ≤ x11.2.1)))], [(26004, v13, .arr 3 44 [HV.int .i64 x11.1, HV.int .i64 x11.2.1, HV.int .i64 x11.2.2])]⟩) (AS.le_of ⟨rfl, rfl, rfl, rfl, trivial⟩ ⟨rfl, trivial⟩) ⟨decide (p0.1 ≤ x11.2.1), (), h, rfl⟩
   have hc := of_decide_eq_false hc
   have h := ifF hc h
   refine AW.exit ?_
   exact to_le (s' := ⟨[], []⟩) (AS.le_of trivial trivial) ⟨(), (), h, rfl⟩
  refine AW.rg rfl fun K hK => ?_
  refine bv rfl (v_fieldAddrF fo24_1 rfl) ?_
  refine bv rfl (v_loadF ty3 rfl (l_lit rfl rfl)) ?_
  refine bv rfl (v_bin rfl rfl b_gtr) ?_
  refine mv rfl rfl ?_
  by_cases hg32 : 64 < p0.2.1
  ·have h := ifT hg32 h
   refine b_F rfl rfl rfl rfl rfl (decide_eq_true hg32) ?_
   refine b_F rfl rfl rfl rfl rfl rfl ?_
   refine b_F rfl rfl rfl rfl rfl rfl ?_
   refine b_F rfl rfl rfl rfl rfl rfl ?_
   refine bv rfl (v_pickT rfl rfl rfl) ?_
   refine b_nil (hK _ ?_)
   clear hK K
   exact to_le (s' := ⟨[(1, HV.fptr [HV.int .i64 p0.1, HV.int .i64 p0.2.1, slE eFromLabelTo p0.2.2] 0), (24, HV.bool true)], []⟩) (AS.le_of ⟨rfl, rfl, trivial⟩ trivial) ⟨true, (), h, rfl⟩
  have h := ifF hg32 h
  refine b_T rfl rfl rfl rfl (decide_eq_false hg32) (o_val rfl (v_fieldAddrF fo24_2 rfl) ?_)
  refine b_T rfl rfl rfl rfl rfl (o_val rfl (v_loadF ty22 rfl (l_lit rfl rfl)) ?_)
  refine b_T rfl rfl rfl rfl rfl (o_val rfl (v_lenF rfl rfl ty22 rfl) ?_)
  refine b_T rfl rfl rfl rfl rfl (o_val rfl (v_bin rfl rfl b_gtr) ?_)
  refine bv rfl (v_pickF rfl rfl rfl) ?_
  refine b_nil (hK _ ?_)
  clear hK K
  exact to_le (s' := ⟨[(1, HV.fptr [HV.int .i64 p0.1, HV.int .i64 p0.2.1, slE eFromLabelTo p0.2.2] 0), (24, HV.bool (decide (1024 < ((p0.2.2).length : Int))))], []⟩) (AS.le_of ⟨rfl, rfl, trivial⟩ trivial) ⟨decide (1024 < ((p0.2.2).length : Int)), (), h, rfl⟩
 refine AW.rg rfl fun K hK => ?_
 refine bv rfl (v_fieldAddrF fo24_0 rfl) ?_
 refine bv rfl (v_loadF ty3 rfl (l_lit rfl rfl)) ?_
 refine bv rfl (v_bin rfl rfl b_lss) ?_
 refine mv rfl rfl ?_
 by_cases hg33 : p0.1 < 1
 ·have h := ifT hg33 h
  refine b_F rfl rfl rfl rfl rfl (decide_eq_true hg33) ?_
  refine b_F rfl rfl rfl rfl rfl rfl ?_
  refine b_F rfl rfl rfl rfl rfl rfl ?_
  refine bv rfl (v_pickT rfl rfl rfl) ?_
  refine b_nil (hK _ ?_)
  clear hK K
  exact to_le (s' := ⟨[(1, HV.fptr [HV.int .i64 p0.1, HV.int .i64 p0.2.1, slE eFromLabelTo p0.2.2] 0), (12, HV.bool true)], []⟩) (AS.le_of ⟨rfl, rfl, trivial⟩ trivial) ⟨true, (), h, rfl⟩
 have h := ifF hg33 h
 refine b_T rfl rfl rfl rfl (decide_eq_false hg33) (o_val rfl (v_fieldAddrF fo24_0 rfl) ?_)
 refine b_T rfl rfl rfl rfl rfl (o_val rfl (v_loadF ty3 rfl (l_lit rfl rfl)) ?_)
 refine b_T rfl rfl rfl rfl rfl (o_val rfl (v_bin rfl rfl b_gtr) ?_)
 refine bv rfl (v_pickF rfl rfl rfl) ?_
 refine b_nil (hK _ ?_)
 clear hK K
 exact to_le (s' := ⟨[(1, HV.fptr [HV.int .i64 p0.1, HV.int .i64 p0.2.1, slE eFromLabelTo p0.2.2] 0), (12, HV.bool (decide (256 < p0.1)))], []⟩) (AS.le_of ⟨rfl, rfl, trivial⟩ trivial) ⟨decide (256 < p0.1), (), h, rfl⟩

set_option maxHeartbeats 1600000 in
set_option maxRecDepth 100000 in
theorem w_law54_fine {p0 : TLabelsStatesEdges} {p1 : List UInt8} {r : Bool} (h : m_law54_fine p0 p1 = some r) : Pure Tryz.prog 8 [HV.agg [HV.int .i64 p0.1, HV.int .i64 p0.2.1, slE eFromLabelTo p0.2.2], HV.str p1] (· = HV.bool r) := by
 unfold m_law54_fine at h
 refine Pure.of_body Tryz.func8 rfl rfl (Nat.le_of_ble_eq_true rfl) fun hf => ?_
 unfold Tryz.f8
 dsimp only [enumS, Nat.reduceAdd]
 refine AW.rgs rfl fun K hK => ?_
 refine b_op rfl (o_box rfl rfl rfl ?_)
 refine mv rfl rfl ?_
 refine b_fin hK (s' := ⟨[(1, HV.str p1), (2, HV.fptr [HV.int .i64 p0.1, HV.int .i64 p0.2.1, slE eFromLabelTo p0.2.2] 0)], []⟩) (le_q rfl rfl) ?_
 clear hK K
 refine AW.seqJ h (S := Bool) (V := Unit) (fun a v => ⟨[(4, HV.bool a)], []⟩) (fun a1 w2 h => ?_) (fun k3 h => ?_)
 ·refine AW.ret ?_
  have h := Option.some.inj h
  subst h
  exact ret_pure (hs := [HV.bool a1]) (q := HV.bool a1) (.inr rfl) (resT rfl rfl) rfl trivial
 refine AW.rg rfl fun K hK => ?_
 refine bv rfl (v_loadF ty24 rfl (l_litA rfl (Nat.le_of_ble_eq_true rfl) rfl)) ?_
 obtain ⟨x4, h5, h⟩ := bS h
 refine b_op rfl (o_call rfl rfl rfl rfl (ACallD.pure0 (w_law54_great h5)) ?_)
 refine bv rfl (v_not rfl) ?_
 refine mv rfl rfl ?_
 by_cases hg14 : (!x4) = true
 ·have h := ifT hg14 h
  refine b_T rfl rfl rfl rfl hg14 (o_val rfl (v_loadF ty24 rfl (l_litA rfl (Nat.le_of_ble_eq_true rfl) rfl)) ?_)
  obtain ⟨x6, h7, h⟩ := bS h
  refine b_T rfl rfl rfl rfl rfl (o_call rfl rfl rfl rfl (ACallD.pure0 (w_ref09_Check h7)) ?_)
  refine b_T rfl rfl rfl rfl rfl (o_val rfl (v_bin rfl rfl b_eql) ?_)
  refine bv rfl (v_pickT rfl rfl rfl) ?_
  refine mv rfl rfl ?_
  by_cases hg13 : x6 = 0
  ·have h := ifT hg13 h
   refine b_T rfl rfl rfl rfl (decide_eq_true hg13) (o_val rfl (v_fieldAddrF fo24_0 rfl) ?_)
   refine b_T rfl rfl rfl rfl rfl (o_val rfl (v_loadF ty3 rfl (l_lit rfl rfl)) ?_)
   refine b_T rfl rfl rfl rfl rfl (o_val rfl (v_bin rfl rfl b_leq) ?_)
   refine bv rfl (v_pickT rfl rfl rfl) ?_
   refine mv rfl rfl ?_
   by_cases hg12 : p0.1 ≤ 3
   ·have h := ifT hg12 h
    refine b_T rfl rfl rfl rfl (decide_eq_true hg12) (o_val rfl (mv_val rfl rfl).2 ?_)
    refine b_T rfl rfl rfl rfl rfl (o_val rfl (v_bin rfl rfl b_sneq) ?_)
    refine bv rfl (v_pickT rfl rfl rfl) ?_
    refine mv rfl rfl ?_
    by_cases hg11 : p1 ≠ ([] : List UInt8)
    ·have h := ifT hg11 h
     refine b_T rfl rfl rfl rfl (decide_eq_true hg11) (o_val rfl (mv_val rfl rfl).2 ?_)
     refine b_T rfl rfl rfl rfl rfl (o_val rfl (v_lenS rfl rfl ty9 rfl) ?_)
     refine b_T rfl rfl rfl rfl rfl (o_val rfl (v_bin rfl rfl b_leq) ?_)
     refine bv rfl (v_pickT rfl rfl rfl) ?_
     refine mv rfl rfl ?_
     by_cases hg10 : ((p1).length : Int) ≤ 6
     ·have h := ifT hg10 h
      refine b_T rfl rfl rfl rfl (decide_eq_true hg10) (o_val rfl (v_fieldAddrF fo24_0 rfl) ?_)
      refine b_T rfl rfl rfl rfl rfl (o_val rfl (v_loadF ty3 rfl (l_lit rfl rfl)) ?_)
      refine b_T rfl rfl rfl rfl rfl (o_val rfl (mv_val rfl rfl).2 ?_)
      obtain ⟨x8, h9, h⟩ := bS h
      refine b_T rfl rfl rfl rfl rfl (o_call rfl rfl rfl rfl (ACallD.pure0 (w_word_Check h9)) ?_)
      refine b_T rfl rfl rfl rfl rfl (o_val rfl (v_bin rfl rfl b_eql) ?_)
      refine bv rfl (v_pickT rfl rfl rfl) ?_
      refine mv rfl rfl ?_
      refine b_nil (hK _ ?_)
      clear hK K
      exact to_le (s' := ⟨[(4, HV.bool (decide (x8 = 0)))], []⟩) (AS.le_of ⟨rfl, trivial⟩ trivial) ⟨decide (x8 = 0), (), h, rfl⟩
     have h := ifF hg10 h
     refine b_F rfl rfl rfl rfl rfl (decide_eq_false hg10) ?_
     refine b_F rfl rfl rfl rfl rfl rfl ?_
     refine b_F rfl rfl rfl rfl rfl rfl ?_
     refine b_F rfl rfl rfl rfl rfl rfl ?_
     refine b_F rfl rfl rfl rfl rfl rfl ?_
     refine bv rfl (v_pickF rfl rfl rfl) ?_
     refine mv rfl rfl ?_
     refine b_nil (hK _ ?_)
     clear hK K
     exact to_le (s' := ⟨[(4, HV.bool false)], []⟩) (AS.le_of ⟨rfl, trivial⟩ trivial) ⟨false, (), h, rfl⟩
    have h := ifF hg11 h
    refine b_F rfl rfl rfl rfl rfl (decide_eq_false hg11) ?_
    refine b_F rfl rfl rfl rfl rfl rfl ?_
    refine b_F rfl rfl rfl rfl rfl rfl ?_
    refine bv rfl (v_pickF rfl rfl rfl) ?_
    refine mv rfl rfl ?_
    refine b_F rfl rfl rfl rfl rfl rfl ?_
    refine b_F rfl rfl rfl rfl rfl rfl ?_
    refine b_F rfl rfl rfl rfl rfl rfl ?_
    refine b_F rfl rfl rfl rfl rfl rfl ?_
    refine b_F rfl rfl rfl rfl rfl rfl ?_
    refine bv rfl (v_pickF rfl rfl rfl) ?_
    refine mv rfl rfl ?_
    refine b_nil (hK _ ?_)
    clear hK K
    exact to_le (s' := ⟨[(4, HV.bool false)], []⟩) (AS.le_of ⟨rfl, trivial⟩ trivial) ⟨false, (), h, rfl⟩
   have h := ifF hg12 h
   refine b_F rfl rfl rfl rfl rfl (decide_eq_false hg12) ?_
   refine b_F rfl rfl rfl rfl rfl rfl ?_
   refine bv rfl (v_pickF rfl rfl rfl) ?_
   refine mv rfl rfl ?_
   refine b_F rfl rfl rfl rfl rfl rfl ?_
   refine b_F rfl rfl rfl rfl rfl rfl ?_
   refine b_F rfl rfl rfl rfl rfl rfl ?_
   refine bv rfl (v_pickF rfl rfl rfl) ?_
   refine mv rfl rfl ?_
   refine b_F rfl rfl rfl rfl rfl rfl ?_
   refine b_F rfl rfl rfl rfl rfl rfl ?_
   refine b_F rfl rfl rfl rfl rfl rfl ?_
   refine b_F rfl rfl rfl rfl rfl rfl ?_
   refine b_F rfl rfl rfl rfl rfl rfl ?_
   refine bv rfl (v_pickF rfl rfl rfl) ?_
   refine mv rfl rfl ?_
   refine b_nil (hK _ ?_)
   clear hK K
   exact to_le (s' := ⟨[(4, HV.bool false)], []⟩) (AS.le_of ⟨rfl, trivial⟩ trivial) ⟨false, (), h, rfl⟩
  have h := ifF hg13 h
  refine b_F rfl rfl rfl rfl rfl (decide_eq_false hg13) ?_
  refine b_F rfl rfl rfl rfl rfl rfl ?_
  refine b_F rfl rfl rfl rfl rfl rfl ?_
  refine bv rfl (v_pickF rfl rfl rfl) ?_
  refine mv rfl rfl ?_
  refine b_F rfl rfl rfl rfl rfl rfl ?_
  refine b_F rfl rfl rfl rfl rfl rfl ?_
  refine bv rfl (v_pickF rfl rfl rfl) ?_
  refine mv rfl rfl ?_
  refine b_F rfl rfl rfl rfl rfl rfl ?_
  refine b_F rfl rfl rfl rfl rfl rfl ?_
  refine b_F rfl rfl rfl rfl rfl rfl ?_
  refine bv rfl (v_pickF rfl rfl rfl) ?_
  refine mv rfl rfl ?_
  refine b_F rfl rfl rfl rfl rfl rfl ?_
  refine b_F rfl rfl rfl rfl rfl rfl ?_
  refine b_F rfl rfl rfl rfl rfl rfl ?_
  refine b_F rfl rfl rfl rfl rfl rfl ?_
  refine b_F rfl rfl rfl rfl rfl rfl ?_
  refine bv rfl (v_pickF rfl rfl rfl) ?_
  refine mv rfl rfl ?_
  refine b_nil (hK _ ?_)
  clear hK K
  exact to_le (s' := ⟨[(4, HV.bool false)], []⟩) (AS.le_of ⟨rfl, trivial⟩ trivial) ⟨false, (), h, rfl⟩
 have h := ifF hg14 h
 refine b_F rfl rfl rfl rfl rfl (bF hg14) ?_
 refine b_F rfl rfl rfl rfl rfl rfl ?_
 refine b_F rfl rfl rfl rfl rfl rfl ?_
 refine bv rfl (v_pickF rfl rfl rfl) ?_
 refine mv rfl rfl ?_
 refine b_F rfl rfl rfl rfl rfl rfl ?_
 refine b_F rfl rfl rfl rfl rfl rfl ?_
 refine b_F rfl rfl rfl rfl rfl rfl ?_
 refine bv rfl (v_pickF rfl rfl rfl) ?_
 refine mv rfl rfl ?_
 refine b_F rfl rfl rfl rfl rfl rfl ?_
 refine b_F rfl rfl rfl rfl rfl rfl ?_
 refine bv rfl (v_pickF rfl rfl rfl) ?_
 refine mv rfl rfl ?_
 refine b_F rfl rfl rfl rfl rfl rfl ?_
 refine b_F rfl rfl rfl rfl rfl rfl ?_
 refine b_F rfl rfl rfl rfl rfl rfl ?_
 refine bv rfl (v_pickF rfl rfl rfl) ?_
 refine mv rfl rfl ?_
 refine b_F rfl rfl rfl rfl rfl rfl ?_
 refine b_F rfl rfl rfl rfl rfl rfl ?_
 refine b_F rfl rfl rfl rfl rfl rfl ?_
 refine b_F rfl rfl rfl rfl rfl rfl ?_
 refine b_F rfl rfl rfl rfl rfl rfl ?_
 refine bv rfl (v_pickF rfl rfl rfl) ?_
 refine mv rfl rfl ?_
 refine b_nil (hK _ ?_)
 clear hK K
 exact to_le (s' := ⟨[(4, HV.bool false)], []⟩) (AS.le_of ⟨rfl, trivial⟩ trivial) ⟨false, (), h, rfl⟩

set_option maxHeartbeats 1600000 in
set_option maxRecDepth 100000 in
theorem w_language_Words {p0 : TLabelsStatesEdges} {p1 : Int} {r : (List (List UInt8)) × Int} (h : m_language_Words p0 p1 = some r) : Pure Tryz.prog 10 [HV.agg [HV.int .i64 p0.1, HV.int .i64 p0.2.1, slE eFromLabelTo p0.2.2], HV.int .i64 p1] (· = HV.tup [slE eStr r.1, HV.int .i64 r.2]) := by
 unfold m_language_Words at h
 refine Pure.of_body Tryz.func10 rfl rfl (Nat.le_of_ble_eq_true rfl) fun hf => ?_
 unfold Tryz.f10
 dsimp only [enumS, Nat.reduceAdd]
 refine AW.rgs rfl fun K hK => ?_
 refine b_op rfl (o_box rfl rfl rfl ?_)
 refine mv rfl rfl ?_
 refine mv rfl rfl ?_
 refine b_fin hK (s' := ⟨[(1, HV.int .i64 p1), (2, HV.fptr [HV.int .i64 p0.1, HV.int .i64 p0.2.1, slE eFromLabelTo p0.2.2] 0)], []⟩) (le_q rfl rfl) ?_
 clear hK K
 refine AW.seq ?_
 refine AW.rgs rfl fun K hK => ?_
 refine bv rfl (v_loadF ty24 rfl (l_litA rfl (Nat.le_of_ble_eq_true rfl) rfl)) ?_
 refine mv rfl rfl ?_
 obtain ⟨x1, h2, h⟩ := bS h
 refine b_op rfl (o_call rfl rfl rfl rfl (ACallD.pure0 (w_language_lengths h2)) ?_)
 refine mv rfl rfl ?_
 refine b_fin hK (s' := ⟨[(1, HV.int .i64 p1), (2, HV.fptr [HV.int .i64 p0.1, HV.int .i64 p0.2.1, slE eFromLabelTo p0.2.2] 0), (6, HV.int .i64 x1)], []⟩) (le_q rfl rfl) ?_
 clear hK K
 refine AW.rgs rfl fun K hK => ?_
 refine mv rfl rfl ?_
 refine bv rfl (v_bin rfl rfl b_neq) ?_
 refine b_fin hK (s' := ⟨[(1, HV.int .i64 p1), (2, HV.fptr [HV.int .i64 p0.1, HV.int .i64 p0.2.1, slE eFromLabelTo p0.2.2] 0), (6, HV.int .i64 x1), (13, HV.bool (decide (x1 ≠ 0)))], []⟩) (le_q rfl rfl) ?_
 clear hK K
 refine AW.cond rfl (fun hc => ?_) (fun hc => ?_)
 ·have hc := of_decide_eq_true hc
  have h := ifT hc h
  refine AW.rgs rfl fun K hK => ?_
  refine mv rfl rfl ?_
  refine mv rfl rfl ?_
  refine mv rfl rfl ?_
  refine b_fin hK (s' := ⟨[(4, HV.v (.slice none 0 0)), (5, HV.int .i64 x1)], []⟩) (le_q rfl rfl) ?_
  clear hK K
  refine AW.to (to_weak ⟨[(4, slE eStr ([] : List (List UInt8))), (5, HV.int .i64 x1)], []⟩ ⟨⟨_, rfl, .nil _⟩, ⟨_, rfl, .refl _⟩, trivial⟩ trivial ?_)
  refine AW.ret ?_
  have h := Option.some.inj h
  subst h
  exact ret_pure (hs := [slE eStr ([] : List (List UInt8)), HV.int .i64 x1]) (q := HV.tup [slE eStr ([] : List (List UInt8)), HV.int .i64 x1]) (.inr rfl) (resT rfl (resT rfl rfl)) rfl ⟨(clean_slE fun _ _ => ⟨trivial, trivial⟩), trivial, trivial⟩
 have hc := of_decide_eq_false hc
 have h := ifF hc h
 refine AW.skip ?_
 refine AW.dys follows fun K hK => ?_
 refine y_st 4 rfl rfl ?_
 refine sv rfl (v_loadF ty24 rfl (l_litA rfl (Nat.le_of_ble_eq_true rfl) rfl)) ?_
 refine sv rfl (v_loadF ty24 rfl (l_litA rfl (Nat.le_of_ble_eq_true rfl) rfl)) ?_
 obtain ⟨x3, h4, h⟩ := bS h
 refine s_op rfl rfl (ops_call rfl rfl rfl rfl (ACallD.pure0 (w_language_states h4)) ?_)
 refine sm rfl rfl ?_
 refine s_nil ?_
 obtain ⟨x5, h6, h⟩ := bS h
 by_cases hg7 : x5.2 = true
 ·have h := ifT hg7 h
  refine y_op rfl rfl rfl rfl (o_callA rfl rfl rfl rfl (c_listT h6 hg7 fun i8 v9 es10 hes11 => ?_) )
  refine b_nil ?_
  refine y_st 10 rfl rfl ?_
  refine sm rfl rfl ?_
  refine sv rfl (v_extract rfl rfl) ?_
  refine sv rfl (v_extract rfl rfl) ?_
  refine sm rfl rfl ?_
  refine sm rfl rfl ?_
  refine s_nil ?_
  refine y_nil rfl (hK _ (AW.to (to_le (s' := ⟨[(7, HV.mp i8 v9), (8, HV.bool true)], [(i8, v9, .map es10)]⟩) (AS.le_of ⟨rfl, rfl, trivial⟩ ⟨hget_0, trivial⟩) ?_)))
  clear hK K
  refine AW.seq ?_
  refine AW.rgs rfl fun K hK => ?_
  refine mv rfl rfl ?_
  refine bv rfl (v_not rfl) ?_
  refine b_fin hK (s' := ⟨[(7, HV.mp i8 v9), (24, HV.bool false)], [(i8, v9, .map es10)]⟩) (AS.le_of ⟨rfl, rfl, trivial⟩ ⟨hget_0, trivial⟩) ?_
  clear hK K
  refine AW.cond rfl (fun hc => by cases hc) (fun _ => ?_)
  refine AW.skip ?_
  refine AW.rgs rfl fun K hK => ?_
  refine mv rfl rfl ?_
  refine b_op rfl (o_callK [(i8, v9, .map es10)] rfl rfl rfl rfl (fun K hK => w82 hK) ?_)
  refine b_op rfl (o_callK (q := slE eStr (sortS ((x5.1).map Prod.fst))) [] rfl rfl rfl rfl (fun K hK => c_sortedKeys hes11 hK) ?_)
  refine mv rfl rfl ?_
  refine mv rfl rfl ?_
  refine b_fin hK (s' := ⟨[(4, slE eStr (sortS ((x5.1).map Prod.fst))), (5, HV.int .i64 0)], []⟩) (le_q rfl rfl) ?_
  clear hK K
  refine AW.ret ?_
  have h := Option.some.inj h
  subst h
  exact ret_pure (hs := [slE eStr (sortS ((x5.1).map Prod.fst)), HV.int .i64 0]) (q := HV.tup [slE eStr (sortS ((x5.1).map Prod.fst)), HV.int .i64 0]) (.inr rfl) (resT rfl (resT rfl rfl)) rfl ⟨(clean_slE fun _ _ => ⟨trivial, trivial⟩), trivial, trivial⟩
 have h := ifF hg7 h
 refine y_op rfl rfl rfl rfl (o_callA rfl rfl rfl rfl (c_listF h6 hg7 ?_) )
 refine b_nil ?_
 refine y_st 10 rfl rfl ?_
 refine sm rfl rfl ?_
 refine sv rfl (v_extract rfl rfl) ?_
 refine sv rfl (v_extract rfl rfl) ?_
 refine sm rfl rfl ?_
 refine sm rfl rfl ?_
 refine s_nil ?_
 refine y_nil rfl (hK _ (AW.to (to_le (s' := ⟨[(7, HV.v (.map none)), (8, HV.bool false)], []⟩) (le_q rfl rfl) ?_)))
 clear hK K
 refine AW.seq ?_
 refine AW.rgs rfl fun K hK => ?_
 refine mv rfl rfl ?_
 refine bv rfl (v_not rfl) ?_
 refine b_fin hK (s' := ⟨[(7, HV.v (.map none)), (24, HV.bool true)], []⟩) (le_q rfl rfl) ?_
 clear hK K
 refine AW.cond rfl (fun _ => ?_) (fun hc => by cases hc)
 refine AW.rgs rfl fun K hK => ?_
 refine mv rfl rfl ?_
 refine mv rfl rfl ?_
 refine b_fin hK (s' := ⟨[(4, HV.v (.slice none 0 0)), (5, HV.int .i64 4)], []⟩) (le_q rfl rfl) ?_
 clear hK K
 refine AW.to (to_weak ⟨[(4, slE eStr ([] : List (List UInt8))), (5, HV.int .i64 4)], []⟩ ⟨⟨_, rfl, .nil _⟩, ⟨_, rfl, .refl _⟩, trivial⟩ trivial ?_)
 refine AW.ret ?_
 have h := Option.some.inj h
 subst h
 exact ret_pure (hs := [slE eStr ([] : List (List UInt8)), HV.int .i64 4]) (q := HV.tup [slE eStr ([] : List (List UInt8)), HV.int .i64 4]) (.inr rfl) (resT rfl (resT rfl rfl)) rfl ⟨(clean_slE fun _ _ => ⟨trivial, trivial⟩), trivial, trivial⟩

end Go.AW

namespace Go.AW
open Go Go.Proofs
set_option linter.unusedVariables false
set_option maxHeartbeats 1600000 in
set_option maxRecDepth 100000 in
theorem w_syncmark_Damaged {p0 : TLabelsStatesEdges} {p1 : List UInt8} {p2 : Int} {r : Int × Int} (h : m_syncmark_Damaged p0 p1 p2 = some r) : Pure Tryz.prog 18 [HV.agg [HV.int .i64 p0.1, HV.int .i64 p0.2.1, slE eFromLabelTo p0.2.2], HV.str p1, HV.int .i64 p2] (· = HV.tup [HV.int .i64 r.1, HV.int .i64 r.2]) := by
 unfold m_syncmark_Damaged at h
 refine Pure.of_body Tryz.func18 rfl rfl (Nat.le_of_ble_eq_true rfl) fun hf => ?_
 unfold Tryz.f18
 dsimp only [enumS, Nat.reduceAdd]
 refine AW.rgs rfl fun K hK => ?_
 refine b_op rfl (o_box rfl rfl rfl ?_)
 refine mv rfl rfl ?_
 refine mv rfl rfl ?_
 refine b_fin hK (s' := ⟨[(1, HV.str p1), (2, HV.int .i64 p2), (3, HV.fptr [HV.int .i64 p0.1, HV.int .i64 p0.2.1, slE eFromLabelTo p0.2.2] 0)], []⟩) (le_q rfl rfl) ?_
 clear hK K
 refine AW.seq ?_
 refine AW.rgs rfl fun K hK => ?_
 refine bv rfl (v_loadF ty24 rfl (l_litA rfl (Nat.le_of_ble_eq_true rfl) rfl)) ?_
 refine mv rfl rfl ?_
 obtain ⟨x1, h2, h⟩ := bS h
 refine b_op rfl (o_call rfl rfl rfl rfl (ACallD.pure0 (w_syncmark_check h2)) ?_)
 refine mv rfl rfl ?_
 refine b_fin hK (s' := ⟨[(1, HV.str p1), (2, HV.int .i64 p2), (3, HV.fptr [HV.int .i64 p0.1, HV.int .i64 p0.2.1, slE eFromLabelTo p0.2.2] 0), (8, HV.int .i64 x1)], []⟩) (le_q rfl rfl) ?_
 clear hK K
 refine AW.rgs rfl fun K hK => ?_
 refine mv rfl rfl ?_
 refine bv rfl (v_bin rfl rfl b_neq) ?_
 refine b_fin hK (s' := ⟨[(1, HV.str p1), (2, HV.int .i64 p2), (3, HV.fptr [HV.int .i64 p0.1, HV.int .i64 p0.2.1, slE eFromLabelTo p0.2.2] 0), (8, HV.int .i64 x1), (22, HV.bool (decide (x1 ≠ 0)))], []⟩) (le_q rfl rfl) ?_
 clear hK K
 refine AW.cond rfl (fun hc => ?_) (fun hc => ?_)
 ·have hc := of_decide_eq_true hc
  have h := ifT hc h
  refine AW.rgs rfl fun K hK => ?_
  refine mv rfl rfl ?_
  refine mv rfl rfl ?_
  refine mv rfl rfl ?_
  refine b_fin hK (s' := ⟨[(6, HV.int .i64 0), (7, HV.int .i64 x1)], []⟩) (le_q rfl rfl) ?_
  clear hK K
  refine AW.ret ?_
  have h := Option.some.inj h
  subst h
  exact ret_pure (hs := [HV.int .i64 0, HV.int .i64 x1]) (q := HV.tup [HV.int .i64 0, HV.int .i64 x1]) (.inr rfl) (resT rfl (resT rfl rfl)) rfl ⟨trivial, trivial, trivial⟩
 have hc := of_decide_eq_false hc
 have h := ifF hc h
 refine AW.skip ?_
 refine AW.seq ?_
 refine AW.seqJ h (S := Bool) (V := Unit) (fun a v => ⟨[(1, HV.str p1), (2, HV.int .i64 p2), (3, HV.fptr [HV.int .i64 p0.1, HV.int .i64 p0.2.1, slE eFromLabelTo p0.2.2] 0), (29, HV.bool a)], []⟩) (fun a3 w4 h => ?_) (fun k5 h => ?_)
 ·refine AW.cond rfl (fun hc => ?_) (fun hc => ?_)
  ·have h := ifT hc h
   refine AW.rgs rfl fun K hK => ?_
   refine mv rfl rfl ?_
   refine mv rfl rfl ?_
   refine b_fin hK (s' := ⟨[(6, HV.int .i64 0), (7, HV.int .i64 2)], []⟩) (le_q rfl rfl) ?_
   clear hK K
   refine AW.ret ?_
   have h := Option.some.inj h
   subst h
   exact ret_pure (hs := [HV.int .i64 0, HV.int .i64 2]) (q := HV.tup [HV.int .i64 0, HV.int .i64 2]) (.inr rfl) (resT rfl (resT rfl rfl)) rfl ⟨trivial, trivial, trivial⟩
  have h := ifF (bF' hc) h
  refine AW.skip ?_
  refine AW.rgs rfl fun K hK => ?_
  refine bv rfl (v_loadF ty24 rfl (l_litA rfl (Nat.le_of_ble_eq_true rfl) rfl)) ?_
  refine mv rfl rfl ?_
  obtain ⟨x6, h7, h⟩ := bS h
  refine b_op rfl (o_call rfl rfl rfl rfl (ACallD.pure0 (w_language_Words h7)) ?_)
  refine mv rfl rfl ?_
  refine bv rfl (v_extract rfl rfl) ?_
  refine bv rfl (v_extract rfl rfl) ?_
  refine mv rfl rfl ?_
  refine mv rfl rfl ?_
  refine b_fin hK (s' := ⟨[(1, HV.str p1), (2, HV.int .i64 p2), (9, slE eStr x6.1), (10, HV.int .i64 x6.2)], []⟩) (le_q rfl rfl) ?_
  clear hK K
  refine AW.seq ?_
  refine AW.rgs rfl fun K hK => ?_
  refine mv rfl rfl ?_
  refine bv rfl (v_bin rfl rfl b_neq) ?_
  refine b_fin hK (s' := ⟨[(1, HV.str p1), (2, HV.int .i64 p2), (9, slE eStr x6.1), (10, HV.int .i64 x6.2), (37, HV.bool (decide (x6.2 ≠ 0)))], []⟩) (le_q rfl rfl) ?_
  clear hK K
  refine AW.cond rfl (fun hc => ?_) (fun hc => ?_)
  ·have hc := of_decide_eq_true hc
   have h := ifT hc h
   refine AW.rgs rfl fun K hK => ?_
   refine mv rfl rfl ?_
   refine mv rfl rfl ?_
   refine mv rfl rfl ?_
   refine b_fin hK (s' := ⟨[(6, HV.int .i64 0), (7, HV.int .i64 x6.2)], []⟩) (le_q rfl rfl) ?_
   clear hK K
   refine AW.ret ?_
   have h := Option.some.inj h
   subst h
   exact ret_pure (hs := [HV.int .i64 0, HV.int .i64 x6.2]) (q := HV.tup [HV.int .i64 0, HV.int .i64 x6.2]) (.inr rfl) (resT rfl (resT rfl rfl)) rfl ⟨trivial, trivial, trivial⟩
  have hc := of_decide_eq_false hc
  have h := ifF hc h
  refine AW.skip ?_
  refine AW.rgs rfl fun K hK => ?_
  refine mv rfl rfl ?_
  refine b_fin hK (s' := ⟨[(1, HV.str p1), (2, HV.int .i64 p2), (9, slE eStr x6.1), (11, HV.int .i64 (-1))], []⟩) (le_q rfl rfl) ?_
  clear hK K
  refine AW.seq ?_
  refine AW.rgs rfl fun K hK => ?_
  refine mv rfl rfl ?_
  refine bv rfl (v_lenF rfl rfl ty27 rfl) ?_
  refine mv rfl rfl ?_
  refine b_fin hK (s' := ⟨[(1, HV.str p1), (2, HV.int .i64 p2), (11, HV.int .i64 (-1)), (39, slE eStr x6.1), (40, HV.int .i64 ((x6.1).length : Int)), (41, HV.int .i64 0)], []⟩) (le_q rfl rfl) ?_
  clear hK K
  refine AW.lpX h (by first | exact up_then | exact up_to) (S := Int × Int) (V := Unit) (fun a v => ⟨[(1, HV.str p1), (2, HV.int .i64 p2), (11, HV.int .i64 a.1), (39, slE eStr x6.1), (40, HV.int .i64 ((x6.1).length : Int)), (41, HV.int .i64 a.2)], []⟩) ?_ (X := Int) (W := Unit) (fun a v => ⟨[(11, HV.int .i64 a)], []⟩) (fun a42 w43 h => ?_) (fun a8 w9 st10 h => ?_)
  ·exact to_le (s' := ⟨[(1, HV.str p1), (2, HV.int .i64 p2), (11, HV.int .i64 (-1)), (39, slE eStr x6.1), (40, HV.int .i64 ((x6.1).length : Int)), (41, HV.int .i64 0)], []⟩) (AS.le_of ⟨rfl, rfl, rfl, rfl, rfl, rfl, trivial⟩ trivial) ⟨(), rfl⟩
  ·refine AW.seq ?_
   refine AW.rgs rfl fun K hK => ?_
   refine mv rfl rfl ?_
   refine bv rfl (v_bin rfl rfl b_lss) ?_
   refine b_fin hK (s' := ⟨[(11, HV.int .i64 a42), (85, HV.bool (decide (a42 < 0)))], []⟩) (le_q rfl rfl) ?_
   clear hK K
   refine AW.cond rfl (fun hc => ?_) (fun hc => ?_)
   ·have hc := of_decide_eq_true hc
    have h := ifT hc h
    refine AW.rgs rfl fun K hK => ?_
    refine mv rfl rfl ?_
    refine mv rfl rfl ?_
    refine b_fin hK (s' := ⟨[(6, HV.int .i64 0), (7, HV.int .i64 5)], []⟩) (le_q rfl rfl) ?_
    clear hK K
    refine AW.ret ?_
    have h := Option.some.inj h
    subst h
    exact ret_pure (hs := [HV.int .i64 0, HV.int .i64 5]) (q := HV.tup [HV.int .i64 0, HV.int .i64 5]) (.inr rfl) (resT rfl (resT rfl rfl)) rfl ⟨trivial, trivial, trivial⟩
   have hc := of_decide_eq_false hc
   have h := ifF hc h
   refine AW.skip ?_
   refine AW.rgs rfl fun K hK => ?_
   refine mv rfl rfl ?_
   refine mv rfl rfl ?_
   refine mv rfl rfl ?_
   refine b_fin hK (s' := ⟨[(6, HV.int .i64 a42), (7, HV.int .i64 0)], []⟩) (le_q rfl rfl) ?_
   clear hK K
   refine AW.ret ?_
   have h := Option.some.inj h
   subst h
   exact ret_pure (hs := [HV.int .i64 a42, HV.int .i64 0]) (q := HV.tup [HV.int .i64 a42, HV.int .i64 0]) (.inr rfl) (resT rfl (resT rfl rfl)) rfl ⟨trivial, trivial, trivial⟩
  refine AW.rgs rfl fun K hK => ?_
  refine bv rfl (v_bin rfl rfl b_lss) ?_
  refine b_fin hK (s' := ⟨[(1, HV.str p1), (2, HV.int .i64 p2), (11, HV.int .i64 a8.1), (39, slE eStr x6.1), (40, HV.int .i64 ((x6.1).length : Int)), (41, HV.int .i64 a8.2), (42, HV.bool (decide (a8.2 < ((x6.1).length : Int))))], []⟩) (le_q rfl rfl) ?_
  clear hK K
  refine AW.cseq rfl (fun hc => ?_) (fun hc => ?_)
  ·have hc := of_decide_eq_true hc
   have h := ifT hc h
   refine AW.skip ?_
   refine AW.seq (AW.block ?_)
   refine AW.rgs rfl fun K hK => ?_
   obtain ⟨x12, h13, h⟩ := bS h
   refine bv rfl (v_idxF ty27 es27 rfl rfl (idx_lt h13)) ?_
   refine bv rfl (v_loadF ty9 rfl (l_cell eStr h13 (o := 0) rfl rfl)) ?_
   refine mv rfl rfl ?_
   refine b_fin hK (s' := ⟨[(1, HV.str p1), (2, HV.int .i64 p2), (11, HV.int .i64 a8.1), (13, HV.str x12), (39, slE eStr x6.1), (40, HV.int .i64 ((x6.1).length : Int)), (41, HV.int .i64 a8.2)], []⟩) (le_q rfl rfl) ?_
   clear hK K
   refine AW.rgs rfl fun K hK => ?_
   refine mv rfl rfl ?_
   refine mv rfl rfl ?_
   obtain ⟨h14, h⟩ := ifN h
   refine bv rfl (v_bin rfl rfl (b_sadd h14)) ?_
   refine mv rfl rfl ?_
   obtain ⟨h15, h⟩ := ifN h
   refine bv rfl (v_bin rfl rfl (b_sadd h15)) ?_
   refine mv rfl rfl ?_
   refine b_fin hK (s' := ⟨[(1, HV.str p1), (2, HV.int .i64 p2), (11, HV.int .i64 a8.1), (14, HV.str ((p1 ++ x12) ++ p1)), (39, slE eStr x6.1), (40, HV.int .i64 ((x6.1).length : Int)), (41, HV.int .i64 a8.2)], []⟩) (le_q rfl rfl) ?_
   clear hK K
   refine AW.rgs rfl fun K hK => ?_
   refine mv rfl rfl ?_
   refine b_fin hK (s' := ⟨[(1, HV.str p1), (2, HV.int .i64 p2), (11, HV.int .i64 a8.1), (14, HV.str ((p1 ++ x12) ++ p1)), (15, HV.int .i64 1), (39, slE eStr x6.1), (40, HV.int .i64 ((x6.1).length : Int)), (41, HV.int .i64 a8.2)], []⟩) (le_q rfl rfl) ?_
   clear hK K
   refine AW.lpX h (by first | exact up_then | exact up_to) (S := Int × Int) (V := Unit) (fun a v => ⟨[(1, HV.str p1), (2, HV.int .i64 p2), (11, HV.int .i64 a.1), (14, HV.str ((p1 ++ x12) ++ p1)), (15, HV.int .i64 a.2), (39, slE eStr x6.1), (40, HV.int .i64 ((x6.1).length : Int)), (41, HV.int .i64 a8.2)], []⟩) ?_ (X := Int) (W := Unit) (fun a v => ⟨[(1, HV.str p1), (2, HV.int .i64 p2), (11, HV.int .i64 a), (39, slE eStr x6.1), (40, HV.int .i64 ((x6.1).length : Int)), (41, HV.int .i64 a8.2)], []⟩) (fun a40 w41 h => ?_) (fun a16 w17 st18 h => ?_)
   ·exact to_le (s' := ⟨[(1, HV.str p1), (2, HV.int .i64 p2), (11, HV.int .i64 a8.1), (14, HV.str ((p1 ++ x12) ++ p1)), (15, HV.int .i64 1), (39, slE eStr x6.1), (40, HV.int .i64 ((x6.1).length : Int)), (41, HV.int .i64 a8.2)], []⟩) (AS.le_of ⟨rfl, rfl, rfl, rfl, rfl, rfl, rfl, rfl, trivial⟩ trivial) ⟨(), rfl⟩
   ·refine AW.rg rfl fun K hK => ?_
    refine bv rfl (v_bin rfl rfl b_add) ?_
    refine mv rfl rfl ?_
    refine b_nil (hK _ ?_)
    clear hK K
    exact to_le (s' := ⟨[(1, HV.str p1), (2, HV.int .i64 p2), (11, HV.int .i64 a40), (39, slE eStr x6.1), (40, HV.int .i64 ((x6.1).length : Int)), (41, HV.int .i64 (IntKind.wrap .i64 (a8.2 + 1)))], []⟩) (AS.le_of ⟨rfl, rfl, rfl, rfl, rfl, rfl, trivial⟩ trivial) ⟨(a40, IntKind.wrap .i64 (a8.2 + 1)), (), h, rfl⟩
   refine AW.seq ?_
   refine AW.rgs rfl fun K hK => ?_
   refine mv rfl rfl ?_
   refine mv rfl rfl ?_
   refine mv rfl rfl ?_
   refine bv rfl (v_lenS rfl rfl ty9 rfl) ?_
   refine bv rfl (v_bin rfl rfl b_add) ?_
   refine bv rfl (v_bin rfl rfl b_lss) ?_
   refine b_fin hK (s' := ⟨[(1, HV.str p1), (2, HV.int .i64 p2), (11, HV.int .i64 a16.1), (14, HV.str ((p1 ++ x12) ++ p1)), (15, HV.int .i64 a16.2), (39, slE eStr x6.1), (40, HV.int .i64 ((x6.1).length : Int)), (41, HV.int .i64 a8.2), (55, HV.bool (decide (a16.2 < (IntKind.wrap .i64 (p2 + ((p1).length : Int))))))], []⟩) (le_q rfl rfl) ?_
   clear hK K
   refine AW.cond rfl (fun hc => ?_) (fun hc => ?_)
   ·have hc := of_decide_eq_true hc
    have h := ifT hc h
    refine AW.skip ?_
    refine AW.seqJ h (S := Int) (V := Unit) (fun a v => ⟨[(1, HV.str p1), (2, HV.int .i64 p2), (11, HV.int .i64 a), (14, HV.str ((p1 ++ x12) ++ p1)), (15, HV.int .i64 a16.2), (39, slE eStr x6.1), (40, HV.int .i64 ((x6.1).length : Int)), (41, HV.int .i64 a8.2)], []⟩) (fun a20 w21 h => ?_) (fun k22 h => ?_)
    ·refine AW.rg rfl fun K hK => ?_
     refine mv rfl rfl ?_
     refine bv rfl (v_bin rfl rfl b_add) ?_
     refine mv rfl rfl ?_
     refine b_nil (hK _ ?_)
     clear hK K
     exact to_le (s' := ⟨[(1, HV.str p1), (2, HV.int .i64 p2), (11, HV.int .i64 a20), (14, HV.str ((p1 ++ x12) ++ p1)), (15, HV.int .i64 (IntKind.wrap .i64 (a16.2 + 1))), (39, slE eStr x6.1), (40, HV.int .i64 ((x6.1).length : Int)), (41, HV.int .i64 a8.2)], []⟩) (AS.le_of ⟨rfl, rfl, rfl, rfl, rfl, rfl, rfl, rfl, trivial⟩ trivial) ⟨(a20, IntKind.wrap .i64 (a16.2 + 1)), (), h, rfl⟩
    refine AW.block ?_
    refine AW.rgs rfl fun K hK => ?_
    refine mv rfl rfl ?_
    refine b_fin hK (s' := ⟨[(1, HV.str p1), (2, HV.int .i64 p2), (11, HV.int .i64 a16.1), (14, HV.str ((p1 ++ x12) ++ p1)), (15, HV.int .i64 a16.2), (16, HV.int .i64 0), (39, slE eStr x6.1), (40, HV.int .i64 ((x6.1).length : Int)), (41, HV.int .i64 a8.2)], []⟩) (le_q rfl rfl) ?_
    clear hK K
    refine AW.seq ?_
    refine AW.rgs rfl fun K hK => ?_
    refine mv rfl rfl ?_
    refine bv rfl (v_lenS rfl rfl ty9 rfl) ?_
    refine mv rfl rfl ?_
    refine b_fin hK (s' := ⟨[(1, HV.str p1), (2, HV.int .i64 p2), (11, HV.int .i64 a16.1), (14, HV.str ((p1 ++ x12) ++ p1)), (15, HV.int .i64 a16.2), (16, HV.int .i64 0), (39, slE eStr x6.1), (40, HV.int .i64 ((x6.1).length : Int)), (41, HV.int .i64 a8.2), (59, HV.int .i64 ((p1).length : Int)), (60, HV.int .i64 0)], []⟩) (le_q rfl rfl) ?_
    clear hK K
    refine AW.lpX h (by first | exact up_then | exact up_to) (S := Int × Int) (V := Unit) (fun a v => ⟨[(1, HV.str p1), (2, HV.int .i64 p2), (11, HV.int .i64 a16.1), (14, HV.str ((p1 ++ x12) ++ p1)), (15, HV.int .i64 a16.2), (16, HV.int .i64 a.1), (39, slE eStr x6.1), (40, HV.int .i64 ((x6.1).length : Int)), (41, HV.int .i64 a8.2), (59, HV.int .i64 ((p1).length : Int)), (60, HV.int .i64 a.2)], []⟩) ?_ (X := Int) (W := Unit) (fun a v => ⟨[(1, HV.str p1), (2, HV.int .i64 p2), (11, HV.int .i64 a16.1), (14, HV.str ((p1 ++ x12) ++ p1)), (15, HV.int .i64 a16.2), (16, HV.int .i64 a), (39, slE eStr x6.1), (40, HV.int .i64 ((x6.1).length : Int)), (41, HV.int .i64 a8.2)], []⟩) (fun a34 w35 h => ?_) (fun a23 w24 st25 h => ?_)
    ·exact to_le (s' := ⟨[(1, HV.str p1), (2, HV.int .i64 p2), (11, HV.int .i64 a16.1), (14, HV.str ((p1 ++ x12) ++ p1)), (15, HV.int .i64 a16.2), (16, HV.int .i64 0), (39, slE eStr x6.1), (40, HV.int .i64 ((x6.1).length : Int)), (41, HV.int .i64 a8.2), (59, HV.int .i64 ((p1).length : Int)), (60, HV.int .i64 0)], []⟩) (AS.le_of ⟨rfl, rfl, rfl, rfl, rfl, rfl, rfl, rfl, rfl, rfl, rfl, trivial⟩ trivial) ⟨(), rfl⟩
    ·refine AW.seqJ h (S := Bool) (V := Unit) (fun a v => ⟨[(1, HV.str p1), (2, HV.int .i64 p2), (11, HV.int .i64 a16.1), (14, HV.str ((p1 ++ x12) ++ p1)), (15, HV.int .i64 a16.2), (16, HV.int .i64 a34), (39, slE eStr x6.1), (40, HV.int .i64 ((x6.1).length : Int)), (41, HV.int .i64 a8.2), (81, HV.bool a)], []⟩) (fun a36 w37 h => ?_) (fun k38 h => ?_)
     ·refine AW.cond rfl (fun hc => ?_) (fun hc => ?_)
      ·have h := ifT hc h
       refine AW.rg rfl fun K hK => ?_
       refine mv rfl rfl ?_
       refine mv rfl rfl ?_
       refine b_nil (hK _ ?_)
       clear hK K
       exact to_le (s' := ⟨[(1, HV.str p1), (2, HV.int .i64 p2), (11, HV.int .i64 a34), (14, HV.str ((p1 ++ x12) ++ p1)), (15, HV.int .i64 a16.2), (39, slE eStr x6.1), (40, HV.int .i64 ((x6.1).length : Int)), (41, HV.int .i64 a8.2)], []⟩) (AS.le_of ⟨rfl, rfl, rfl, rfl, rfl, rfl, rfl, rfl, trivial⟩ trivial) ⟨a34, (), h, rfl⟩
      have h := ifF (bF' hc) h
      refine AW.skip ?_
      exact to_le (s' := ⟨[(1, HV.str p1), (2, HV.int .i64 p2), (11, HV.int .i64 a16.1), (14, HV.str ((p1 ++ x12) ++ p1)), (15, HV.int .i64 a16.2), (39, slE eStr x6.1), (40, HV.int .i64 ((x6.1).length : Int)), (41, HV.int .i64 a8.2)], []⟩) (AS.le_of ⟨rfl, rfl, rfl, rfl, rfl, rfl, rfl, rfl, trivial⟩ trivial) ⟨a16.1, (), h, rfl⟩
     refine AW.rg rfl fun K hK => ?_
     refine mv rfl rfl ?_
     refine bv rfl (v_bin rfl rfl b_lss) ?_
     refine mv rfl rfl ?_
     by_cases hg39 : a16.1 < 0
     ·have h := ifT hg39 h
      refine b_F rfl rfl rfl rfl rfl (decide_eq_true hg39) ?_
      refine b_F rfl rfl rfl rfl rfl rfl ?_
      refine b_F rfl rfl rfl rfl rfl rfl ?_
      refine bv rfl (v_pickT rfl rfl rfl) ?_
      refine b_nil (hK _ ?_)
      clear hK K
      exact to_le (s' := ⟨[(1, HV.str p1), (2, HV.int .i64 p2), (11, HV.int .i64 a16.1), (14, HV.str ((p1 ++ x12) ++ p1)), (15, HV.int .i64 a16.2), (16, HV.int .i64 a34), (39, slE eStr x6.1), (40, HV.int .i64 ((x6.1).length : Int)), (41, HV.int .i64 a8.2), (81, HV.bool true)], []⟩) (AS.le_of ⟨rfl, rfl, rfl, rfl, rfl, rfl, rfl, rfl, rfl, rfl, trivial⟩ trivial) ⟨true, (), h, rfl⟩
     have h := ifF hg39 h
     refine b_T rfl rfl rfl rfl (decide_eq_false hg39) (o_val rfl (mv_val rfl rfl).2 ?_)
     refine b_T rfl rfl rfl rfl rfl (o_val rfl (mv_val rfl rfl).2 ?_)
     refine b_T rfl rfl rfl rfl rfl (o_val rfl (v_bin rfl rfl b_lss) ?_)
     refine bv rfl (v_pickF rfl rfl rfl) ?_
     refine b_nil (hK _ ?_)
     clear hK K
     exact to_le (s' := ⟨[(1, HV.str p1), (2, HV.int .i64 p2), (11, HV.int .i64 a16.1), (14, HV.str ((p1 ++ x12) ++ p1)), (15, HV.int .i64 a16.2), (16, HV.int .i64 a34), (39, slE eStr x6.1), (40, HV.int .i64 ((x6.1).length : Int)), (41, HV.int .i64 a8.2), (81, HV.bool (decide (a34 < a16.1)))], []⟩) (AS.le_of ⟨rfl, rfl, rfl, rfl, rfl, rfl, rfl, rfl, rfl, rfl, trivial⟩ trivial) ⟨decide (a34 < a16.1), (), h, rfl⟩
    refine AW.rgs rfl fun K hK => ?_
    refine bv rfl (v_bin rfl rfl b_lss) ?_
    refine b_fin hK (s' := ⟨[(1, HV.str p1), (2, HV.int .i64 p2), (11, HV.int .i64 a16.1), (14, HV.str ((p1 ++ x12) ++ p1)), (15, HV.int .i64 a16.2), (16, HV.int .i64 a23.1), (39, slE eStr x6.1), (40, HV.int .i64 ((x6.1).length : Int)), (41, HV.int .i64 a8.2), (59, HV.int .i64 ((p1).length : Int)), (60, HV.int .i64 a23.2), (61, HV.bool (decide (a23.2 < ((p1).length : Int))))], []⟩) (le_q rfl rfl) ?_
    clear hK K
    refine AW.cseq rfl (fun hc => ?_) (fun hc => ?_)
    ·have hc := of_decide_eq_true hc
     have h := ifT hc h
     refine AW.skip ?_
     refine AW.seqJ h (S := Int) (V := Unit) (fun a v => ⟨[(1, HV.str p1), (2, HV.int .i64 p2), (11, HV.int .i64 a16.1), (14, HV.str ((p1 ++ x12) ++ p1)), (15, HV.int .i64 a16.2), (16, HV.int .i64 a), (39, slE eStr x6.1), (40, HV.int .i64 ((x6.1).length : Int)), (41, HV.int .i64 a8.2), (59, HV.int .i64 ((p1).length : Int)), (60, HV.int .i64 a23.2)], []⟩) (fun a27 w28 h => ?_) (fun k29 h => ?_)
     ·refine AW.rg rfl fun K hK => ?_
      refine bv rfl (v_bin rfl rfl b_add) ?_
      refine mv rfl rfl ?_
      refine b_nil (hK _ ?_)
      clear hK K
      exact to_le (s' := ⟨[(1, HV.str p1), (2, HV.int .i64 p2), (11, HV.int .i64 a16.1), (14, HV.str ((p1 ++ x12) ++ p1)), (15, HV.int .i64 a16.2), (16, HV.int .i64 a27), (39, slE eStr x6.1), (40, HV.int .i64 ((x6.1).length : Int)), (41, HV.int .i64 a8.2), (59, HV.int .i64 ((p1).length : Int)), (60, HV.int .i64 (IntKind.wrap .i64 (a23.2 + 1)))], []⟩) (AS.le_of ⟨rfl, rfl, rfl, rfl, rfl, rfl, rfl, rfl, rfl, rfl, rfl, trivial⟩ trivial) ⟨(a27, IntKind.wrap .i64 (a23.2 + 1)), (), h, rfl⟩
     refine AW.block ?_
     refine AW.rgs rfl fun K hK => ?_
     refine mv rfl rfl ?_
     refine mv rfl rfl ?_
     refine b_fin hK (s' := ⟨[(1, HV.str p1), (2, HV.int .i64 p2), (11, HV.int .i64 a16.1), (14, HV.str ((p1 ++ x12) ++ p1)), (15, HV.int .i64 a16.2), (16, HV.int .i64 a23.1), (17, HV.int .i64 a23.2), (39, slE eStr x6.1), (40, HV.int .i64 ((x6.1).length : Int)), (41, HV.int .i64 a8.2), (59, HV.int .i64 ((p1).length : Int)), (60, HV.int .i64 a23.2)], []⟩) (le_q rfl rfl) ?_
     clear hK K
     refine AW.dgs 9 follows rfl rfl fun K hK => ?_
     refine sm rfl rfl ?_
     refine sm rfl rfl ?_
     refine sm rfl rfl ?_
     refine sv rfl (v_bin rfl rfl b_add) ?_
     obtain ⟨x30, h31, h⟩ := bS h
     refine sv rfl (v_idxS ty9 rfl rfl h31) ?_
     refine sm rfl rfl ?_
     refine sm rfl rfl ?_
     obtain ⟨x32, h33, h⟩ := bS h
     refine sv rfl (v_idxS ty9 rfl rfl h33) ?_
     refine sv rfl (v_bin rfl rfl b_neq) ?_
     refine s_nil ?_
     refine b_fin hK (s' := ⟨[(1, HV.str p1), (2, HV.int .i64 p2), (11, HV.int .i64 a16.1), (14, HV.str ((p1 ++ x12) ++ p1)), (15, HV.int .i64 a16.2), (16, HV.int .i64 a23.1), (39, slE eStr x6.1), (40, HV.int .i64 ((x6.1).length : Int)), (41, HV.int .i64 a8.2), (59, HV.int .i64 ((p1).length : Int)), (60, HV.int .i64 a23.2), (71, HV.bool (decide ((x30.toNat : Int) ≠ (x32.toNat : Int))))], []⟩) (le_q rfl rfl) ?_
     clear hK K
     refine AW.cond rfl (fun hc => ?_) (fun hc => ?_)
     ·have hc := of_decide_eq_true hc
      have h := ifT hc h
      refine AW.rg rfl fun K hK => ?_
      refine mv rfl rfl ?_
      refine bv rfl (v_bin rfl rfl b_add) ?_
      refine mv rfl rfl ?_
      refine b_nil (hK _ ?_)
      clear hK K
      exact to_le (s' := ⟨[(1, HV.str p1), (2, HV.int .i64 p2), (11, HV.int .i64 a16.1), (14, HV.str ((p1 ++ x12) ++ p1)), (15, HV.int .i64 a16.2), (16, HV.int .i64 (IntKind.wrap .i64 (a23.1 + 1))), (39, slE eStr x6.1), (40, HV.int .i64 ((x6.1).length : Int)), (41, HV.int .i64 a8.2), (59, HV.int .i64 ((p1).length : Int)), (60, HV.int .i64 a23.2)], []⟩) (AS.le_of ⟨rfl, rfl, rfl, rfl, rfl, rfl, rfl, rfl, rfl, rfl, rfl, trivial⟩ trivial) ⟨IntKind.wrap .i64 (a23.1 + 1), (), h, rfl⟩
     have hc := of_decide_eq_false hc
     have h := ifF hc h
     refine AW.skip ?_
     exact to_le (s' := ⟨[(1, HV.str p1), (2, HV.int .i64 p2), (11, HV.int .i64 a16.1), (14, HV.str ((p1 ++ x12) ++ p1)), (15, HV.int .i64 a16.2), (16, HV.int .i64 a23.1), (39, slE eStr x6.1), (40, HV.int .i64 ((x6.1).length : Int)), (41, HV.int .i64 a8.2), (59, HV.int .i64 ((p1).length : Int)), (60, HV.int .i64 a23.2)], []⟩) (AS.le_of ⟨rfl, rfl, rfl, rfl, rfl, rfl, rfl, rfl, rfl, rfl, rfl, trivial⟩ trivial) ⟨a23.1, (), h, rfl⟩
    have hc := of_decide_eq_false hc
    have h := ifF hc h
    refine AW.exit ?_
    exact to_le (s' := ⟨[(1, HV.str p1), (2, HV.int .i64 p2), (11, HV.int .i64 a16.1), (14, HV.str ((p1 ++ x12) ++ p1)), (15, HV.int .i64 a16.2), (16, HV.int .i64 a23.1), (39, slE eStr x6.1), (40, HV.int .i64 ((x6.1).length : Int)), (41, HV.int .i64 a8.2)], []⟩) (AS.le_of ⟨rfl, rfl, rfl, rfl, rfl, rfl, rfl, rfl, rfl, trivial⟩ trivial) ⟨a23.1, (), h, rfl⟩
   have hc := of_decide_eq_false hc
   have h := ifF hc h
   refine AW.exit ?_
   exact to_le (s' := ⟨[(1, HV.str p1), (2, HV.int .i64 p2), (11, HV.int .i64 a16.1), (39, slE eStr x6.1), (40, HV.int .i64 ((x6.1).length : Int)), (41, HV.int .i64 a8.2)], []⟩) (AS.le_of ⟨rfl, rfl, rfl, rfl, rfl, rfl, trivial⟩ trivial) ⟨a16.1, (), h, rfl⟩
  have hc := of_decide_eq_false hc
  have h := ifF hc h
  refine AW.exit ?_
  exact to_le (s' := ⟨[(11, HV.int .i64 a8.1)], []⟩) (AS.le_of ⟨rfl, trivial⟩ trivial) ⟨a8.1, (), h, rfl⟩
 refine AW.rg rfl fun K hK => ?_
 refine mv rfl rfl ?_
 refine bv rfl (v_bin rfl rfl b_lss) ?_
 refine mv rfl rfl ?_
 by_cases hg44 : p2 < 0
 ·have h := ifT hg44 h
  refine b_F rfl rfl rfl rfl rfl (decide_eq_true hg44) ?_
  refine b_F rfl rfl rfl rfl rfl rfl ?_
  refine bv rfl (v_pickT rfl rfl rfl) ?_
  refine b_nil (hK _ ?_)
  clear hK K
  exact to_le (s' := ⟨[(1, HV.str p1), (2, HV.int .i64 p2), (3, HV.fptr [HV.int .i64 p0.1, HV.int .i64 p0.2.1, slE eFromLabelTo p0.2.2] 0), (29, HV.bool true)], []⟩) (AS.le_of ⟨rfl, rfl, rfl, rfl, trivial⟩ trivial) ⟨true, (), h, rfl⟩
 have h := ifF hg44 h
 refine b_T rfl rfl rfl rfl (decide_eq_false hg44) (o_val rfl (mv_val rfl rfl).2 ?_)
 refine b_T rfl rfl rfl rfl rfl (o_val rfl (v_bin rfl rfl b_gtr) ?_)
 refine bv rfl (v_pickF rfl rfl rfl) ?_
 refine b_nil (hK _ ?_)
 clear hK K
 exact to_le (s' := ⟨[(1, HV.str p1), (2, HV.int .i64 p2), (3, HV.fptr [HV.int .i64 p0.1, HV.int .i64 p0.2.1, slE eFromLabelTo p0.2.2] 0), (29, HV.bool (decide (12 < p2)))], []⟩) (AS.le_of ⟨rfl, rfl, rfl, rfl, trivial⟩ trivial) ⟨decide (12 < p2), (), h, rfl⟩

set_option maxHeartbeats 1600000 in
set_option maxRecDepth 100000 in
theorem w_law54_SyncmarkDamaged {p0 : TLabelsStatesEdges} {p1 : List UInt8} {p2 : Int} {r : Bool} (h : m_law54_SyncmarkDamaged p0 p1 p2 = some r) : Pure Tryz.prog 5 [HV.agg [HV.int .i64 p0.1, HV.int .i64 p0.2.1, slE eFromLabelTo p0.2.2], HV.str p1, HV.int .u8 p2] (· = HV.bool r) := by
 unfold m_law54_SyncmarkDamaged at h
 refine Pure.of_body Tryz.func5 rfl rfl (Nat.le_of_ble_eq_true rfl) fun hf => ?_
 unfold Tryz.f5
 dsimp only [enumS, Nat.reduceAdd]
 refine AW.rgs rfl fun K hK => ?_
 refine b_op rfl (o_box rfl rfl rfl ?_)
 refine mv rfl rfl ?_
 refine b_fin hK (s' := ⟨[(1, HV.str p1), (2, HV.int .u8 p2), (3, HV.fptr [HV.int .i64 p0.1, HV.int .i64 p0.2.1, slE eFromLabelTo p0.2.2] 0)], []⟩) (le_q rfl rfl) ?_
 clear hK K
 refine AW.rgs rfl fun K hK => ?_
 refine mv rfl rfl ?_
 refine bv rfl (v_convI ty5 ty3 rfl) ?_
 refine bv rfl (v_bin rfl rfl (b_rem (by decide))) ?_
 refine mv rfl rfl ?_
 refine b_fin hK (s' := ⟨[(1, HV.str p1), (3, HV.fptr [HV.int .i64 p0.1, HV.int .i64 p0.2.1, slE eFromLabelTo p0.2.2] 0), (7, HV.int .i64 (Int.tmod (IntKind.wrap .i64 p2) 7))], []⟩) (le_q rfl rfl) ?_
 clear hK K
 refine AW.seq ?_
 refine AW.rgs rfl fun K hK => ?_
 refine bv rfl (v_loadF ty24 rfl (l_litA rfl (Nat.le_of_ble_eq_true rfl) rfl)) ?_
 refine mv rfl rfl ?_
 obtain ⟨x1, h2, h⟩ := bS h
 refine b_op rfl (o_call rfl rfl rfl rfl (ACallD.pure0 (w_law54_fine h2)) ?_)
 refine bv rfl (v_not rfl) ?_
 refine b_fin hK (s' := ⟨[(1, HV.str p1), (3, HV.fptr [HV.int .i64 p0.1, HV.int .i64 p0.2.1, slE eFromLabelTo p0.2.2] 0), (7, HV.int .i64 (Int.tmod (IntKind.wrap .i64 p2) 7)), (20, HV.bool (!x1))], []⟩) (le_q rfl rfl) ?_
 clear hK K
 refine AW.cond rfl (fun hc => ?_) (fun hc => ?_)
 ·have h := ifT hc h
  refine AW.rgs rfl fun K hK => ?_
  obtain ⟨x3, h4, h⟩ := bS h
  refine b_op rfl (o_call rfl rfl rfl rfl (ACallD.pure0 (w_law54_awake h4)) ?_)
  refine mv rfl rfl ?_
  refine b_fin hK (s' := ⟨[(6, HV.bool x3)], []⟩) (le_q rfl rfl) ?_
  clear hK K
  refine AW.ret ?_
  have h := Option.some.inj h
  subst h
  exact ret_pure (hs := [HV.bool x3]) (q := HV.bool x3) (.inr rfl) (resT rfl rfl) rfl trivial
 have h := ifF (bF' hc) h
 refine AW.skip ?_
 refine AW.rgs rfl fun K hK => ?_
 refine bv rfl (v_loadF ty24 rfl (l_litA rfl (Nat.le_of_ble_eq_true rfl) rfl)) ?_
 refine mv rfl rfl ?_
 obtain ⟨x5, h6, h⟩ := bS h
 refine b_op rfl (o_call rfl rfl rfl rfl (ACallD.pure0 (w_language_Words h6)) ?_)
 refine mv rfl rfl ?_
 refine bv rfl (v_extract rfl rfl) ?_
 refine bv rfl (v_extract rfl rfl) ?_
 refine mv rfl rfl ?_
 refine mv rfl rfl ?_
 refine b_fin hK (s' := ⟨[(1, HV.str p1), (3, HV.fptr [HV.int .i64 p0.1, HV.int .i64 p0.2.1, slE eFromLabelTo p0.2.2] 0), (7, HV.int .i64 (Int.tmod (IntKind.wrap .i64 p2) 7)), (8, slE eStr x5.1), (9, HV.int .i64 x5.2)], []⟩) (le_q rfl rfl) ?_
 clear hK K
 refine AW.rgs rfl fun K hK => ?_
 refine bv rfl (v_loadF ty24 rfl (l_litA rfl (Nat.le_of_ble_eq_true rfl) rfl)) ?_
 refine mv rfl rfl ?_
 refine mv rfl rfl ?_
 obtain ⟨x7, h8, h⟩ := bS h
 refine b_op rfl (o_call rfl rfl rfl rfl (ACallD.pure0 (w_syncmark_Valid h8)) ?_)
 refine mv rfl rfl ?_
 refine bv rfl (v_extract rfl rfl) ?_
 refine bv rfl (v_extract rfl rfl) ?_
 refine mv rfl rfl ?_
 refine mv rfl rfl ?_
 refine b_fin hK (s' := ⟨[(1, HV.str p1), (3, HV.fptr [HV.int .i64 p0.1, HV.int .i64 p0.2.1, slE eFromLabelTo p0.2.2] 0), (7, HV.int .i64 (Int.tmod (IntKind.wrap .i64 p2) 7)), (8, slE eStr x5.1), (9, HV.int .i64 x5.2), (10, HV.bool x7.1), (11, HV.int .i64 x7.2)], []⟩) (le_q rfl rfl) ?_
 clear hK K
 refine AW.rgs rfl fun K hK => ?_
 refine bv rfl (v_loadF ty24 rfl (l_litA rfl (Nat.le_of_ble_eq_true rfl) rfl)) ?_
 refine mv rfl rfl ?_
 refine mv rfl rfl ?_
 obtain ⟨x9, h10, h⟩ := bS h
 refine b_op rfl (o_call rfl rfl rfl rfl (ACallD.pure0 (w_syncmark_Damaged h10)) ?_)
 refine mv rfl rfl ?_
 refine bv rfl (v_extract rfl rfl) ?_
 refine bv rfl (v_extract rfl rfl) ?_
 refine mv rfl rfl ?_
 refine mv rfl rfl ?_
 refine b_fin hK (s' := ⟨[(1, HV.str p1), (7, HV.int .i64 (Int.tmod (IntKind.wrap .i64 p2) 7)), (8, slE eStr x5.1), (9, HV.int .i64 x5.2), (10, HV.bool x7.1), (11, HV.int .i64 x7.2), (12, HV.int .i64 x9.1), (13, HV.int .i64 x9.2)], []⟩) (le_q rfl rfl) ?_
 clear hK K
 refine AW.seq ?_
 refine AW.seqJ h (S := Bool) (V := Unit) (fun a v => ⟨[(1, HV.str p1), (7, HV.int .i64 (Int.tmod (IntKind.wrap .i64 p2) 7)), (8, slE eStr x5.1), (10, HV.bool x7.1), (12, HV.int .i64 x9.1), (13, HV.int .i64 x9.2), (47, HV.bool a)], []⟩) (fun a11 w12 h => ?_) (fun k13 h => ?_)
 ·refine AW.cond rfl (fun hc => ?_) (fun hc => ?_)
  ·have h := ifT hc h
   refine AW.rgs rfl fun K hK => ?_
   refine mv rfl rfl ?_
   refine b_fin hK (s' := ⟨[(6, HV.bool false)], []⟩) (le_q rfl rfl) ?_
   clear hK K
   refine AW.ret ?_
   have h := Option.some.inj h
   subst h
   exact ret_pure (hs := [HV.bool false]) (q := HV.bool false) (.inr rfl) (resT rfl rfl) rfl trivial
  have h := ifF (bF' hc) h
  refine AW.skip ?_
  refine AW.seq ?_
  refine AW.seqJ h (S := Bool) (V := Unit) (fun a v => ⟨[(1, HV.str p1), (10, HV.bool x7.1), (12, HV.int .i64 x9.1), (13, HV.int .i64 x9.2), (57, HV.bool a)], []⟩) (fun a14 w15 h => ?_) (fun k16 h => ?_)
  ·refine AW.cond rfl (fun hc => ?_) (fun hc => ?_)
   ·have h := ifT hc h
    refine AW.seqJ h (S := Bool) (V := Unit) (fun a v => ⟨[(6, HV.bool a)], []⟩) (fun a17 w18 h => ?_) (fun k19 h => ?_)
    ·refine AW.ret ?_
     have h := Option.some.inj h
     subst h
     exact ret_pure (hs := [HV.bool a17]) (q := HV.bool a17) (.inr rfl) (resT rfl rfl) rfl trivial
    refine AW.rg rfl fun K hK => ?_
    refine mv rfl rfl ?_
    refine bv rfl (v_bin rfl rfl b_eql) ?_
    refine mv rfl rfl ?_
    by_cases hg23 : x9.2 = 5
    ·have h := ifT hg23 h
     refine b_T rfl rfl rfl rfl (decide_eq_true hg23) (o_val rfl (mv_val rfl rfl).2 ?_)
     refine bv rfl (v_pickT rfl rfl rfl) ?_
     refine mv rfl rfl ?_
     by_cases hg22 : x7.1 = true
     ·have h := ifT hg22 h
      obtain ⟨x20, h21, h⟩ := bS h
      refine b_T rfl rfl rfl rfl hg22 (o_call rfl rfl rfl rfl (ACallD.pure0 (w_law54_awake h21)) ?_)
      refine bv rfl (v_pickT rfl rfl rfl) ?_
      refine mv rfl rfl ?_
      refine b_nil (hK _ ?_)
      clear hK K
      exact to_le (s' := ⟨[(6, HV.bool x20)], []⟩) (AS.le_of ⟨rfl, trivial⟩ trivial) ⟨x20, (), h, rfl⟩
     have h := ifF hg22 h
     refine b_F rfl rfl rfl rfl rfl (bF hg22) ?_
     refine bv rfl (v_pickF rfl rfl rfl) ?_
     refine mv rfl rfl ?_
     refine b_nil (hK _ ?_)
     clear hK K
     exact to_le (s' := ⟨[(6, HV.bool false)], []⟩) (AS.le_of ⟨rfl, trivial⟩ trivial) ⟨false, (), h, rfl⟩
    have h := ifF hg23 h
    refine b_F rfl rfl rfl rfl rfl (decide_eq_false hg23) ?_
    refine bv rfl (v_pickF rfl rfl rfl) ?_
    refine mv rfl rfl ?_
    refine b_F rfl rfl rfl rfl rfl rfl ?_
    refine bv rfl (v_pickF rfl rfl rfl) ?_
    refine mv rfl rfl ?_
    refine b_nil (hK _ ?_)
    clear hK K
    exact to_le (s' := ⟨[(6, HV.bool false)], []⟩) (AS.le_of ⟨rfl, trivial⟩ trivial) ⟨false, (), h, rfl⟩
   have h := ifF (bF' hc) h
   refine AW.skip ?_
   refine AW.seqJ h (S := Bool) (V := Unit) (fun a v => ⟨[(6, HV.bool a)], []⟩) (fun a24 w25 h => ?_) (fun k26 h => ?_)
   ·refine AW.ret ?_
    have h := Option.some.inj h
    subst h
    exact ret_pure (hs := [HV.bool a24]) (q := HV.bool a24) (.inr rfl) (resT rfl rfl) rfl trivial
   refine AW.rg rfl fun K hK => ?_
   refine mv rfl rfl ?_
   refine bv rfl (v_bin rfl rfl b_eql) ?_
   refine mv rfl rfl ?_
   by_cases hg32 : x9.2 = 0
   ·have h := ifT hg32 h
    refine b_T rfl rfl rfl rfl (decide_eq_true hg32) (o_val rfl (mv_val rfl rfl).2 ?_)
    refine b_T rfl rfl rfl rfl rfl (o_val rfl (v_bin rfl rfl b_geq) ?_)
    refine bv rfl (v_pickT rfl rfl rfl) ?_
    refine mv rfl rfl ?_
    by_cases hg31 : 0 ≤ x9.1
    ·have h := ifT hg31 h
     refine b_T rfl rfl rfl rfl (decide_eq_true hg31) (o_val rfl (mv_val rfl rfl).2 ?_)
     refine b_T rfl rfl rfl rfl rfl (o_val rfl (mv_val rfl rfl).2 ?_)
     refine b_T rfl rfl rfl rfl rfl (o_val rfl (v_lenS rfl rfl ty9 rfl) ?_)
     refine b_T rfl rfl rfl rfl rfl (o_val rfl (v_bin rfl rfl b_leq) ?_)
     refine bv rfl (v_pickT rfl rfl rfl) ?_
     refine mv rfl rfl ?_
     by_cases hg30 : x9.1 ≤ ((p1).length : Int)
     ·have h := ifT hg30 h
      refine b_T rfl rfl rfl rfl (decide_eq_true hg30) (o_val rfl (mv_val rfl rfl).2 ?_)
      refine b_T rfl rfl rfl rfl rfl (o_val rfl (v_bin rfl rfl b_eql) ?_)
      refine b_T rfl rfl rfl rfl rfl (o_val rfl (mv_val rfl rfl).2 ?_)
      refine b_T rfl rfl rfl rfl rfl (o_val rfl (v_not rfl) ?_)
      refine b_T rfl rfl rfl rfl rfl (o_val rfl (v_bin rfl rfl (b_eqB ty4)) ?_)
      refine bv rfl (v_pickT rfl rfl rfl) ?_
      refine mv rfl rfl ?_
      by_cases hg29 : ((decide (x9.1 = 0)) == (!x7.1)) = true
      ·have h := ifT hg29 h
       obtain ⟨x27, h28, h⟩ := bS h
       refine b_T rfl rfl rfl rfl hg29 (o_call rfl rfl rfl rfl (ACallD.pure0 (w_law54_awake h28)) ?_)
       refine bv rfl (v_pickT rfl rfl rfl) ?_
       refine mv rfl rfl ?_
       refine b_nil (hK _ ?_)
       clear hK K
       exact to_le (s' := ⟨[(6, HV.bool x27)], []⟩) (AS.le_of ⟨rfl, trivial⟩ trivial) ⟨x27, (), h, rfl⟩
      have h := ifF hg29 h
      refine b_F rfl rfl rfl rfl rfl (bF hg29) ?_
      refine bv rfl (v_pickF rfl rfl rfl) ?_
      refine mv rfl rfl ?_
      refine b_nil (hK _ ?_)
      clear hK K
      exact to_le (s' := ⟨[(6, HV.bool false)], []⟩) (AS.le_of ⟨rfl, trivial⟩ trivial) ⟨false, (), h, rfl⟩
     have h := ifF hg30 h
     refine b_F rfl rfl rfl rfl rfl (decide_eq_false hg30) ?_
     refine b_F rfl rfl rfl rfl rfl rfl ?_
     refine b_F rfl rfl rfl rfl rfl rfl ?_
     refine b_F rfl rfl rfl rfl rfl rfl ?_
     refine b_F rfl rfl rfl rfl rfl rfl ?_
     refine bv rfl (v_pickF rfl rfl rfl) ?_
     refine mv rfl rfl ?_
     refine b_F rfl rfl rfl rfl rfl rfl ?_
     refine bv rfl (v_pickF rfl rfl rfl) ?_
     refine mv rfl rfl ?_
     refine b_nil (hK _ ?_)
     clear hK K
     exact to_le (s' := ⟨[(6, HV.bool false)], []⟩) (AS.le_of ⟨rfl, trivial⟩ trivial) ⟨false, (), h, rfl⟩
    have h := ifF hg31 h
    refine b_F rfl rfl rfl rfl rfl (decide_eq_false hg31) ?_
    refine b_F rfl rfl rfl rfl rfl rfl ?_
    refine b_F rfl rfl rfl rfl rfl rfl ?_
    refine b_F rfl rfl rfl rfl rfl rfl ?_
    refine bv rfl (v_pickF rfl rfl rfl) ?_
    refine mv rfl rfl ?_
    refine b_F rfl rfl rfl rfl rfl rfl ?_
    refine b_F rfl rfl rfl rfl rfl rfl ?_
    refine b_F rfl rfl rfl rfl rfl rfl ?_
    refine b_F rfl rfl rfl rfl rfl rfl ?_
    refine b_F rfl rfl rfl rfl rfl rfl ?_
    refine bv rfl (v_pickF rfl rfl rfl) ?_
    refine mv rfl rfl ?_
    refine b_F rfl rfl rfl rfl rfl rfl ?_
    refine bv rfl (v_pickF rfl rfl rfl) ?_
    refine mv rfl rfl ?_
    refine b_nil (hK _ ?_)
    clear hK K
    exact to_le (s' := ⟨[(6, HV.bool false)], []⟩) (AS.le_of ⟨rfl, trivial⟩ trivial) ⟨false, (), h, rfl⟩
   have h := ifF hg32 h
   refine b_F rfl rfl rfl rfl rfl (decide_eq_false hg32) ?_
   refine b_F rfl rfl rfl rfl rfl rfl ?_
   refine bv rfl (v_pickF rfl rfl rfl) ?_
   refine mv rfl rfl ?_
   refine b_F rfl rfl rfl rfl rfl rfl ?_
   refine b_F rfl rfl rfl rfl rfl rfl ?_
   refine b_F rfl rfl rfl rfl rfl rfl ?_
   refine b_F rfl rfl rfl rfl rfl rfl ?_
   refine bv rfl (v_pickF rfl rfl rfl) ?_
   refine mv rfl rfl ?_
   refine b_F rfl rfl rfl rfl rfl rfl ?_
   refine b_F rfl rfl rfl rfl rfl rfl ?_
   refine b_F rfl rfl rfl rfl rfl rfl ?_
   refine b_F rfl rfl rfl rfl rfl rfl ?_
   refine b_F rfl rfl rfl rfl rfl rfl ?_
   refine bv rfl (v_pickF rfl rfl rfl) ?_
   refine mv rfl rfl ?_
   refine b_F rfl rfl rfl rfl rfl rfl ?_
   refine bv rfl (v_pickF rfl rfl rfl) ?_
   refine mv rfl rfl ?_
   refine b_nil (hK _ ?_)
   clear hK K
   exact to_le (s' := ⟨[(6, HV.bool false)], []⟩) (AS.le_of ⟨rfl, trivial⟩ trivial) ⟨false, (), h, rfl⟩
  refine AW.rg rfl fun K hK => ?_
  refine mv rfl rfl ?_
  refine bv rfl (v_lenF rfl rfl ty27 rfl) ?_
  refine bv rfl (v_bin rfl rfl b_eql) ?_
  refine mv rfl rfl ?_
  by_cases hg33 : ((x5.1).length : Int) = 0
  ·have h := ifT hg33 h
   refine b_F rfl rfl rfl rfl rfl (decide_eq_true hg33) ?_
   refine b_F rfl rfl rfl rfl rfl rfl ?_
   refine b_F rfl rfl rfl rfl rfl rfl ?_
   refine b_F rfl rfl rfl rfl rfl rfl ?_
   refine b_F rfl rfl rfl rfl rfl rfl ?_
   refine bv rfl (v_pickT rfl rfl rfl) ?_
   refine b_nil (hK _ ?_)
   clear hK K
   exact to_le (s' := ⟨[(1, HV.str p1), (10, HV.bool x7.1), (12, HV.int .i64 x9.1), (13, HV.int .i64 x9.2), (57, HV.bool true)], []⟩) (AS.le_of ⟨rfl, rfl, rfl, rfl, rfl, trivial⟩ trivial) ⟨true, (), h, rfl⟩
  have h := ifF hg33 h
  refine b_T rfl rfl rfl rfl (decide_eq_false hg33) (o_val rfl (mv_val rfl rfl).2 ?_)
  refine b_T rfl rfl rfl rfl rfl (o_val rfl (v_lenS rfl rfl ty9 rfl) ?_)
  refine b_T rfl rfl rfl rfl rfl (o_val rfl (mv_val rfl rfl).2 ?_)
  refine b_T rfl rfl rfl rfl rfl (o_val rfl (v_bin rfl rfl b_add) ?_)
  refine b_T rfl rfl rfl rfl rfl (o_val rfl (v_bin rfl rfl b_lss) ?_)
  refine bv rfl (v_pickF rfl rfl rfl) ?_
  refine b_nil (hK _ ?_)
  clear hK K
  exact to_le (s' := ⟨[(1, HV.str p1), (10, HV.bool x7.1), (12, HV.int .i64 x9.1), (13, HV.int .i64 x9.2), (57, HV.bool (decide ((IntKind.wrap .i64 (((p1).length : Int) + (Int.tmod (IntKind.wrap .i64 p2) 7))) < 2)))], []⟩) (AS.le_of ⟨rfl, rfl, rfl, rfl, rfl, trivial⟩ trivial) ⟨decide ((IntKind.wrap .i64 (((p1).length : Int) + (Int.tmod (IntKind.wrap .i64 p2) 7))) < 2), (), h, rfl⟩
 refine AW.rg rfl fun K hK => ?_
 refine mv rfl rfl ?_
 refine bv rfl (v_bin rfl rfl b_neq) ?_
 refine mv rfl rfl ?_
 by_cases hg34 : x5.2 ≠ 0
 ·have h := ifT hg34 h
  refine b_F rfl rfl rfl rfl rfl (decide_eq_true hg34) ?_
  refine b_F rfl rfl rfl rfl rfl rfl ?_
  refine bv rfl (v_pickT rfl rfl rfl) ?_
  refine b_nil (hK _ ?_)
  clear hK K
  exact to_le (s' := ⟨[(1, HV.str p1), (7, HV.int .i64 (Int.tmod (IntKind.wrap .i64 p2) 7)), (8, slE eStr x5.1), (10, HV.bool x7.1), (12, HV.int .i64 x9.1), (13, HV.int .i64 x9.2), (47, HV.bool true)], []⟩) (AS.le_of ⟨rfl, rfl, rfl, rfl, rfl, rfl, rfl, trivial⟩ trivial) ⟨true, (), h, rfl⟩
 have h := ifF hg34 h
 refine b_T rfl rfl rfl rfl (decide_eq_false hg34) (o_val rfl (mv_val rfl rfl).2 ?_)
 refine b_T rfl rfl rfl rfl rfl (o_val rfl (v_bin rfl rfl b_neq) ?_)
 refine bv rfl (v_pickF rfl rfl rfl) ?_
 refine b_nil (hK _ ?_)
 clear hK K
 exact to_le (s' := ⟨[(1, HV.str p1), (7, HV.int .i64 (Int.tmod (IntKind.wrap .i64 p2) 7)), (8, slE eStr x5.1), (10, HV.bool x7.1), (12, HV.int .i64 x9.1), (13, HV.int .i64 x9.2), (47, HV.bool (decide (x7.2 ≠ 0)))], []⟩) (AS.le_of ⟨rfl, rfl, rfl, rfl, rfl, rfl, rfl, trivial⟩ trivial) ⟨decide (x7.2 ≠ 0), (), h, rfl⟩

end Go.AW



/- The laws of valid marks and of first bad words. -/
namespace Go.AW
open Go
set_option linter.unusedVariables false
set_option linter.unusedSimpArgs false
theorem maxB : 1000000 ≤ maxLen := by decide
theorem kmod {p : Int} (a0 : 0 ≤ p) (a1 : p ≤ 255) : ∃ k : Nat, k ≤ 6 ∧ Int.tmod (IntKind.wrap .i64 p) 7 = (k : Int) := by
  have h : 0 ≤ Int.tmod (IntKind.wrap .i64 p) 7 ∧ Int.tmod (IntKind.wrap .i64 p) 7 ≤ 6 := by
    rw [w64 (by omega) (by omega), Int.tmod_eq_emod_of_nonneg a0]; omega
  exact ⟨(Int.tmod (IntKind.wrap .i64 p) 7).toNat, by omega, by omega⟩
theorem pow_small {L : Nat} (h : L ≤ 3) {j : Nat} (hj : j ≤ 6) : L ^ j ≤ 4096 := by
  have h1 : L ^ j ≤ 3 ^ j := Nat.pow_le_pow_left h j
  have h2 : 3 ^ j ≤ 3 ^ 6 := Nat.pow_le_pow_right (by decide) hj
  omega
theorem Words54 {g : Gr} (hv : VG g) (h3 : g.1 ≤ 3) {k : Nat} (hk : k ≤ 6) : m_language_Words g (k : Int) = some ((allW (lets g) k).filter (accB g), 0) :=
  Words_ok hv (by omega) (by omega) fun j _ h2 => pow_small (by omega) (by omega)
theorem words_len {g : Gr} (hv : VG g) (h3 : g.1 ≤ 3) {k : Nat} (hk : k ≤ 6) : ((allW (lets g) k).filter (accB g)).length ≤ 4096 := by
  refine Nat.le_trans (List.length_filter_le _ _) ?_
  rw [allW_len, lets_len hv (by omega)]
  exact pow_small (by omega) hk
section
variable {g : Gr} {mark : List UInt8}
end
end Go.AW

/- The damage of a mark. -/
namespace Go.AW
open Go
set_option linter.unusedVariables false
set_option linter.unusedSimpArgs false
def hamC (mark W : List UInt8) (a i : Nat) : Nat := ((List.range i).filter fun j => decide (W.getD (a + j) 0 ≠ mark.getD j 0)).length
def hamW (mark W : List UInt8) (a : Nat) : Nat := hamC mark W a mark.length
theorem hamC_succ (mark W : List UInt8) (a i : Nat) : hamC mark W a (i + 1) = hamC mark W a i + if W.getD (a + i) 0 ≠ mark.getD i 0 then 1 else 0 := by
  unfold hamC
  rw [List.range_succ, List.filter_append, List.length_append, List.filter_cons]
  by_cases h : W.getD (a + i) 0 ≠ mark.getD i 0
  · rw [if_pos (decide_eq_true h), if_pos h]; rfl
  · rw [if_neg (by rw [decide_eq_true_eq]; exact h), if_neg h]; rfl
theorem hamC_le (mark W : List UInt8) (a i : Nat) : hamC mark W a i ≤ i := by
  unfold hamC
  have := List.length_filter_le (fun j => decide (W.getD (a + j) 0 ≠ mark.getD j 0)) (List.range i)
  rw [List.length_range] at this
  exact this
theorem hamW_zero {mark W : List UInt8} {a : Nat} (h : a + mark.length ≤ W.length) : hamW mark W a = 0 ↔ (W.take (a + mark.length)).drop a = mark := by
  unfold hamW hamC
  rw [List.length_eq_zero_iff, List.filter_eq_nil_iff]
  constructor
  · intro hn
    refine List.ext_getElem (by rw [List.length_drop, List.length_take]; omega) fun i h1 h2 => ?_
    have := hn i (List.mem_range.2 h2)
    rw [decide_eq_true_eq, ne_eq, Classical.not_not] at this
    rw [List.getElem_drop, List.getElem_take]
    rw [List.getD_eq_getElem?_getD, List.getD_eq_getElem?_getD, List.getElem?_eq_getElem (by omega), List.getElem?_eq_getElem h2] at this
    exact this
  · intro he i hi
    rw [List.mem_range] at hi
    rw [decide_eq_true_eq, ne_eq, Classical.not_not]
    have : ((W.take (a + mark.length)).drop a)[i]? = mark[i]? := by rw [he]
    rw [List.getElem?_drop, List.getElem?_take, if_pos (by omega)] at this
    rw [List.getD_eq_getElem?_getD, List.getD_eq_getElem?_getD, this]
def updD (a d : Int) : Int := if a < 0 ∨ d < a then d else a
def minD (l : List Int) : Int := l.foldl updD (-1)
theorem minD_spec : ∀ (l : List Int) (a : Int), (∀ x ∈ l, 0 ≤ x) → (a < 0 ∧ l = [] ∧ l.foldl updD a = a) ∨ (0 ≤ l.foldl updD a ∧ (l.foldl updD a = a ∨ l.foldl updD a ∈ l) ∧ (0 ≤ a → l.foldl updD a ≤ a) ∧ ∀ x ∈ l, l.foldl updD a ≤ x)
  | [], a, _ => by
    by_cases h : a < 0
    · exact .inl ⟨h, rfl, rfl⟩
    · exact .inr ⟨by simpa using h, .inl rfl, fun _ => Int.le_refl _, fun _ h => by cases h⟩
  | x :: l, a, h => by
    have hx := h x (List.mem_cons_self ..)
    rw [List.foldl_cons]
    right
    have hu : 0 ≤ updD a x ∧ (updD a x = a ∨ updD a x = x) ∧ (0 ≤ a → updD a x ≤ a) ∧ updD a x ≤ x := by
      unfold updD
      split
      · exact ⟨hx, .inr rfl, fun _ => by omega, Int.le_refl _⟩
      · exact ⟨by omega, .inl rfl, fun _ => Int.le_refl _, by omega⟩
    rcases minD_spec l (updD a x) fun y hy => h y (List.mem_cons_of_mem _ hy) with ⟨h1, _⟩ | ⟨h1, h2, h3, h4⟩
    · omega
    · refine ⟨h1, ?_, fun h0 => by have := h3 hu.1; have := hu.2.2.1 h0; omega, fun y hy => ?_⟩
      · rcases h2 with h2 | h2
        · rcases hu.2.1 with e | e
          · exact .inl (h2.trans e)
          · exact .inr (by rw [h2, e]; exact List.mem_cons_self ..)
        · exact .inr (List.mem_cons_of_mem _ h2)
      · rcases List.mem_cons.1 hy with rfl | hy
        · have := h3 hu.1; have := hu.2.2.2; omega
        · exact h4 y hy
theorem minD_nil {l : List Int} (h : ∀ x ∈ l, 0 ≤ x) : minD l < 0 ↔ l = [] := by
  rcases minD_spec l (-1) h with ⟨_, h2, h3⟩ | ⟨h1, h2, _, _⟩
  · exact ⟨fun _ => h2, fun _ => by unfold minD; rw [h3]; decide⟩
  · constructor
    · intro h'; unfold minD at h'; omega
    · rintro rfl
      simp at h1
theorem minD_mem {l : List Int} (h : ∀ x ∈ l, 0 ≤ x) (hne : l ≠ []) : minD l ∈ l ∧ ∀ x ∈ l, minD l ≤ x := by
  rcases minD_spec l (-1) h with ⟨_, h2, _⟩ | ⟨h1, h2, _, h4⟩
  · exact absurd h2 hne
  · refine ⟨?_, h4⟩
    rcases h2 with h2 | h2
    · omega
    · exact h2
def dists (mark : List UInt8) (n : Nat) (l : List (List UInt8)) : List Int := l.flatMap fun u => (List.range (n + mark.length - 1)).map fun a => ((hamW mark (mark ++ u ++ mark) (a + 1) : Nat) : Int)
theorem dists_nn {mark : List UInt8} {n : Nat} {l : List (List UInt8)} : ∀ x ∈ dists mark n l, 0 ≤ x := by
  intro x hx
  obtain ⟨u, _, hx⟩ := List.mem_flatMap.1 hx
  obtain ⟨a, _, rfl⟩ := List.mem_map.1 hx
  exact Int.natCast_nonneg _
theorem flatMap_take {α β : Type} (f : α → List β) {l : List α} {i : Nat} (h : i < l.length) : (l.take (i + 1)).flatMap f = (l.take i).flatMap f ++ f l[i] := by
  rw [← List.take_append_getElem h, List.flatMap_append]
  simp
section
variable {g : Gr} {mark : List UInt8}
theorem Damaged_loop {mark : List UInt8} (h1 : mark.length ≤ 32) {n : Nat} (hn : n ≤ 12) {l : List (List UInt8)} (hl : ∀ u ∈ l, u.length = n) (hm : l.length ≤ 1000000) :
    (loopW (S := Int × Int) (X := Int) (fun a8 =>
          if a8.2 < ((l).length : Int) then
           (idx l a8.2).bind fun x12 =>
           if mark.length + x12.length ≤ maxLen then
            if (mark ++ x12).length + mark.length ≤ maxLen then
             (loopW (S := Int × Int) (X := Int) (fun a16 =>
                 if a16.2 < (IntKind.wrap .i64 ((n : Int) + ((mark).length : Int))) then
                  jp (fun (a20 : Int) =>
                    some (Stp.next (a20, IntKind.wrap .i64 (a16.2 + 1))))
                    fun k22 =>
                   (loopW (S := Int × Int) (X := Int) (fun a23 =>
                       if a23.2 < ((mark).length : Int) then
                        jp (fun (a27 : Int) =>
                          some (Stp.next (a27, IntKind.wrap .i64 (a23.2 + 1))))
                          fun k29 =>
                         (idx ((mark ++ x12) ++ mark) (IntKind.wrap .i64 (a16.2 + a23.2))).bind fun x30 =>
                         (idx mark a23.2).bind fun x32 =>
                         if (x30.toNat : Int) ≠ (x32.toNat : Int) then
                          k29 (IntKind.wrap .i64 (a23.1 + 1))
                         else
                          k29 a23.1
                       else
                        some (Stp.exit a23.1)) (0, 0)).bind fun a34 =>
                   jp (fun (a36 : Bool) =>
                     if a36 = true then
                      k22 a34
                     else
                      k22 a16.1)
                     fun k38 =>
                    if a16.1 < 0 then
                     k38 true
                    else
                     k38 (decide (a34 < a16.1))
                 else
                  some (Stp.exit a16.1)) (a8.1, 1)).bind fun a40 =>
             some (Stp.next (a40, IntKind.wrap .i64 (a8.2 + 1)))
            else none
           else none
          else
           some (Stp.exit a8.1)) ((-1), 0)) = some (minD (dists mark n l)) := by
  have hmx := maxB
  refine loop_is (fun i => (minD (dists mark n (l.take i)), (i : Int))) l.length _ (fun i hi => ?_) ?_ rfl
  · dsimp only
    have hu := hl _ (List.getElem_mem hi)
    rw [if_pos (lt_int hi), ix hi, Option.bind_some, if_pos (by omega), if_pos (by rw [List.length_append]; omega)]
    generalize hU : l[i] = u at hu
    have hW : (mark ++ u ++ mark).length = mark.length + n + mark.length := by rw [List.length_append, List.length_append, hu]
    have hst : ∀ a, dists mark n (l.take i) ++ (List.range a).map (fun a => ((hamW mark (mark ++ u ++ mark) (a + 1) : Nat) : Int)) = dists mark n (l.take i) ++ (List.range a).map (fun a => ((hamW mark (mark ++ u ++ mark) (a + 1) : Nat) : Int)) := fun _ => rfl
    refine bindL (loop_is (fun a => (minD (dists mark n (l.take i) ++ (List.range a).map (fun a => ((hamW mark (mark ++ u ++ mark) (a + 1) : Nat) : Int))), ((a + 1 : Nat) : Int))) (n + mark.length - 1) (minD (dists mark n (l.take (i + 1)))) (fun a ha => ?_) ?_ (by simp)) ?_
    · have hwn : IntKind.wrap .i64 ((n : Int) + (mark.length : Int)) = ((n + mark.length : Nat) : Int) := by rw [w64 (by omega) (by omega)]; omega
      unfold jp
      dsimp only
      rw [hwn, if_pos (by omega)]
      refine bindL (loop_is (fun j => (((hamC mark (mark ++ u ++ mark) (a + 1) j : Nat) : Int), (j : Int))) mark.length ((hamW mark (mark ++ u ++ mark) (a + 1) : Nat) : Int) (fun j hj => ?_) ?_ rfl) ?_
      · dsimp only
        have hle := hamC_le mark (mark ++ u ++ mark) (a + 1) j
        have hlt : a + 1 + j < (mark ++ u ++ mark).length := by omega
        have hw1 : IntKind.wrap .i64 (((a + 1 : Nat) : Int) + (j : Int)) = ((a + 1 + j : Nat) : Int) := by rw [w64 (by omega) (by omega)]; omega
        rw [if_pos (lt_int hj), hw1, ix hlt, Option.bind_some, ix hj, Option.bind_some, nx (n := mark.length) (i := j) (by omega) hj, hamC_succ]
        have e1 : (mark ++ u ++ mark).getD (a + 1 + j) 0 = (mark ++ u ++ mark)[a + 1 + j] := by rw [List.getD_eq_getElem?_getD, List.getElem?_eq_getElem hlt]; rfl
        have e2 : mark.getD j 0 = mark[j] := by rw [List.getD_eq_getElem?_getD, List.getElem?_eq_getElem hj]; rfl
        rw [e1, e2]
        by_cases hne : (mark ++ u ++ mark)[a + 1 + j] = mark[j]
        · rw [if_neg (fun h => h (by rw [hne])), if_neg (fun h => h hne)]
          rfl
        · rw [if_pos (fun h => hne (UInt8.toNat_inj.1 (by omega))), if_pos hne, nx (n := 1000) (by omega) (by omega)]
      · dsimp only
        rw [if_neg (not_lt_int _)]
        rfl
      · rw [nx (n := 1000) (by omega) (by omega), List.range_succ, List.map_append, ← List.append_assoc]
        have hstep : minD ((dists mark n (l.take i) ++ (List.range a).map (fun a => ((hamW mark (mark ++ u ++ mark) (a + 1) : Nat) : Int))) ++ [((hamW mark (mark ++ u ++ mark) (a + 1) : Nat) : Int)]) = updD (minD (dists mark n (l.take i) ++ (List.range a).map (fun a => ((hamW mark (mark ++ u ++ mark) (a + 1) : Nat) : Int)))) ((hamW mark (mark ++ u ++ mark) (a + 1) : Nat) : Int) := by
          unfold minD
          rw [List.foldl_append]
          rfl
        rw [show List.map (fun a => ((hamW mark (mark ++ u ++ mark) (a + 1) : Nat) : Int)) [a] = [((hamW mark (mark ++ u ++ mark) (a + 1) : Nat) : Int)] from rfl, hstep]
        generalize minD (dists mark n (l.take i) ++ (List.range a).map (fun a => ((hamW mark (mark ++ u ++ mark) (a + 1) : Nat) : Int))) = z
        unfold updD
        by_cases h0 : z < 0
        · rw [if_pos h0, if_pos rfl, if_pos (.inl h0)]
        · rw [if_neg h0]
          by_cases h2 : ((hamW mark (mark ++ u ++ mark) (a + 1) : Nat) : Int) < z
          · rw [if_pos (decide_eq_true h2), if_pos (.inr h2)]
          · rw [if_neg (by rw [decide_eq_true_eq]; exact h2), if_neg (by omega)]
    · dsimp only
      have hwn : IntKind.wrap .i64 ((n : Int) + (mark.length : Int)) = ((n + mark.length : Nat) : Int) := by rw [w64 (by omega) (by omega)]; omega
      rw [hwn, if_neg (by omega)]
      have : dists mark n (l.take (i + 1)) = dists mark n (l.take i) ++ (List.range (n + mark.length - 1)).map (fun a => ((hamW mark (mark ++ u ++ mark) (a + 1) : Nat) : Int)) := by
        unfold dists
        rw [flatMap_take _ hi, hU]
      rw [this]
    · rw [nx (n := l.length) (by omega) hi]
  · dsimp only
    rw [if_neg (not_lt_int _), List.take_length]
theorem Damaged_eq (h : MOk54 g mark) {n : Nat} (hn : n ≤ 12) {l : List (List UInt8)} (hw : m_language_Words g (n : Int) = some (l, 0)) (hl : ∀ u ∈ l, u.length = n) (hm : l.length ≤ 1000000) : m_syncmark_Damaged g mark (n : Int) = some (if dists mark n l = [] then (0, 5) else (minD (dists mark n l), 0)) := by
  obtain ⟨e, he, hz⟩ := check54_tot g mark
  unfold m_syncmark_Damaged
  rw [he, Option.bind_some, if_neg (by rw [hz.2 h]; decide)]
  have hL := Damaged_loop (mark := mark) h.2.2.2.1 hn hl hm
  unfold jp at hL ⊢
  dsimp only at hL ⊢
  rw [if_neg (by omega), if_neg (by rw [decide_eq_true_eq]; omega), hw, Option.bind_some, if_neg (by simp), hL, Option.bind_some]
  have := minD_nil (l := dists mark n l) dists_nn
  by_cases h0 : dists mark n l = []
  · rw [if_pos (this.2 h0), if_pos h0]
  · rw [if_neg (fun h' => h0 (this.1 h')), if_neg h0]
theorem dists_nil {n : Nat} {l : List (List UInt8)} : dists mark n l = [] ↔ l = [] ∨ n + mark.length < 2 := by
  unfold dists
  rw [List.flatMap_eq_nil_iff]
  constructor
  · intro h
    cases l with
    | nil => exact .inl rfl
    | cons u l =>
      have := h u (List.mem_cons_self ..)
      rw [List.map_eq_nil_iff, List.range_eq_nil] at this
      exact .inr (by omega)
  · rintro (rfl | h) u hu
    · cases hu
    · rw [List.map_eq_nil_iff, List.range_eq_nil]; omega
theorem bad_dist (hm1 : mark ≠ []) {n : Nat} {l : List (List UInt8)} (hl : ∀ u ∈ l, u.length = n) : (0 : Int) ∈ dists mark n l ↔ l.filter (badU mark) ≠ [] := by
  have hml := List.length_pos_iff.2 hm1
  unfold dists
  rw [List.mem_flatMap, Ne, List.filter_eq_nil_iff]
  constructor
  · rintro ⟨u, hu, h⟩ hno
    obtain ⟨a, ha, e⟩ := List.mem_map.1 h
    rw [List.mem_range] at ha
    have hul := hl u hu
    have hW : (mark ++ u ++ mark).length = mark.length + n + mark.length := by rw [List.length_append, List.length_append, hul]
    have e : hamW mark (mark ++ u ++ mark) (a + 1) = 0 := by omega
    rw [hamW_zero (by omega)] at e
    exact hno u hu ((badU_iff hm1).2 ⟨a + 1, by omega, by omega, e⟩)
  · intro hno
    apply Classical.byContradiction
    intro hne
    refine hno fun u hu hb => hne ?_
    obtain ⟨i, i1, i2, i3⟩ := (badU_iff hm1).1 hb
    have hul := hl u hu
    have hW : (mark ++ u ++ mark).length = mark.length + n + mark.length := by rw [List.length_append, List.length_append, hul]
    refine ⟨u, hu, List.mem_map.2 ⟨i - 1, List.mem_range.2 (by omega), ?_⟩⟩
    rw [show i - 1 + 1 = i by omega, (hamW_zero (by omega)).2 i3]
    rfl
theorem words_length {g : Gr} {k : Nat} : ∀ u ∈ (allW (lets g) k).filter (accB g), u.length = k := fun u hu => (mem_allW.1 (List.mem_filter.1 hu).1).1
theorem dists_le {n : Nat} {l : List (List UInt8)} : ∀ x ∈ dists mark n l, x ≤ mark.length := by
  intro x hx
  obtain ⟨u, _, hx⟩ := List.mem_flatMap.1 hx
  obtain ⟨a, _, rfl⟩ := List.mem_map.1 hx
  have := hamC_le mark (mark ++ u ++ mark) (a + 1) mark.length
  unfold hamW
  omega
theorem law54_damaged (g : Gr) (mark : List UInt8) (p : Int) (a0 : 0 ≤ p) (a1 : p ≤ 255) : m_law54_SyncmarkDamaged g mark p = some true := by
  obtain ⟨b, hb, hb2⟩ := fine54_tot g mark
  obtain ⟨k, hk, hkp⟩ := kmod a0 a1
  unfold m_law54_SyncmarkDamaged
  rw [hb, Option.bind_some]
  cases b with
  | false => rw [if_pos (by decide)]; rfl
  | true =>
    obtain ⟨hM, h3, h6, _⟩ := hb2 rfl
    have hv := hM.1
    have hwl := words_len hv h3 hk
    have hml := List.length_pos_iff.2 hM.2.2.1
    have hD := Damaged_eq hM (n := k) (by omega) (Words54 hv h3 hk) words_length (by omega)
    have hbd := bad_dist (mark := mark) hM.2.2.1 (words_length (g := g) (k := k))
    rw [if_neg (by decide), hkp, Words54 hv h3 hk, Option.bind_some, Valid_eq hM (by omega), Option.bind_some, hD, Option.bind_some]
    unfold jp
    dsimp only
    rw [if_neg (by decide), if_neg (by simp)]
    have hw2 : IntKind.wrap .i64 ((mark.length : Int) + (k : Int)) = ((mark.length + k : Nat) : Int) := by rw [w64 (by omega) (by omega)]; omega
    rw [hw2]
    by_cases hn : dists mark k ((allW (lets g) k).filter (accB g)) = []
    · have hno : badsW g mark k = [] := by
        apply Classical.byContradiction
        intro h
        have := hbd.2 h
        rw [hn] at this
        cases this
      rw [if_pos hn, hno]
      rcases dists_nil.1 hn with h | h
      · rw [if_pos (by rw [h]; rfl)]
        rfl
      · have h2 : decide (((mark.length + k : Nat) : Int) < 2) = true := decide_eq_true (by omega)
        rw [h2]
        split <;> rfl
    · have hl0 : ¬ ((allW (lets g) k).filter (accB g)) = [] := fun h => hn (dists_nil.2 (.inl h))
      have hk2 : ¬ k + mark.length < 2 := fun h => hn (dists_nil.2 (.inr h))
      obtain ⟨m1, m2⟩ := minD_mem dists_nn hn
      have m3 := dists_nn _ m1
      have m4 := dists_le _ m1
      rw [if_neg hn, if_neg (by have := List.length_pos_iff.2 hl0; omega), if_neg (by rw [decide_eq_true_eq]; omega)]
      have hz : decide (minD (dists mark k ((allW (lets g) k).filter (accB g))) = 0) = !decide (badsW g mark k = []) := by
        by_cases hb : badsW g mark k = []
        · rw [hb, decide_eq_false]
          · rfl
          · intro h0
            rw [h0] at m1
            exact (hbd.1 m1) hb
        · rw [decide_eq_false hb, decide_eq_true]
          · rfl
          · have := m2 0 (hbd.2 hb)
            omega
      dsimp only
      rw [hz, if_pos rfl, if_pos m3, if_pos m4, beq_self_eq_true, if_pos rfl]
      rfl
end
end Go.AW

namespace Go.AW
open Go Go.ChangeShapes Go.WideShapes Go.ChangeAt Go.RowKit

def Kept (W W' : World) : Prop := W'.os = W.os ∧ W'.output = W.output ∧ W.heap.size ≤ W'.heap.size ∧ ∀ b : Nat, b < W.heap.size → W'.heap[b]? = W.heap[b]?

theorem Kept.frame {W W' : World} (h : Kept W W') (may : MemPlace → Prop) : W.keptBut W' may := by
  refine ⟨h.1, h.2.1, fun i hi => ?_⟩
  rw [h.2.2.2 i hi]
  cases W.heap[i]? with
  | none => rfl
  | some o => cases o with
    | cells c t fr => exact ⟨rfl, rfl, rfl, fun _ _ => rfl⟩
    | map es clock => exact .inr ⟨rfl, rfl⟩
    | _ => rfl

theorem Kept.frozen {W W' : World} (h : Kept W W') (a : Addr) (ha : a.block < W.heap.size) : W'.frozen? a = W.frozen? a := by
  simp only [World.frozen?, h.2.2.2 _ ha]

def Mu.zero : Mu := { nx := 0, loc := fun _ => none, held := fun _ => False }

theorem SR.zero (W : World) : SR W Mu.zero [] :=
  ⟨(fun _ _ _ h => by cases h), (fun _ _ _ h => by cases h), (fun _ _ h => by cases h), (fun _ _ _ _ _ h => by cases h), (fun _ h => h.elim)⟩

theorem calls_of_pure {P : Program} {f : FuncId} {args : List HV} {vs : List Value} {W : World} (hp : Pure P f args (· = .bool true)) (hr : RepL W Mu.zero args vs) (hgl : GlOk W Mu.zero := by exact fun _ h => by cases h) :
    Calls P f vs.toArray W fun e W' => e = .returned (.bool true) ∧ Kept W W' := by
  refine (hp.2 Mu.zero W vs (SR.zero W) hr hgl).mono ?_
  rintro e W' ⟨v, r, H', μ', rfl, ⟨rfl, _, _⟩, hs, hv, E⟩
  have hv' : v = .bool true := hv
  subst hv'
  exact ⟨rfl, E.os, E.output, E.size, fun b hb => E.keep b hb fun ⟨_, _, hl⟩ => by cases hl⟩

theorem rep_string {W : World} {μ : Mu} (s : ByteArray) (h : s.size ≤ maxLen) : Rep W μ (.str s.data.toList) (.string s) := by
  refine ⟨by cases s; simp, ?_⟩
  have : s.data.toList.length = s.size := by simp
  omega

theorem post_of_kept {H : Type} {enc : TypeId × Value → H} {P : Program} {f : Func} {s : ChangeSpec} {apart fresh handsOn again : Bool} {W W' : World} {args : Array Value} {v : Value} {ds gs : List (DataW H)} {before pa pv : List MemPlace}
    (hW : DataW.Whole enc P f.params.toList s.vars apart W args.toList ds gs before)
    (hres : ∀ (b : Nat) (sp : Nat → Bool) (hd : Bool), DataW.TrodAll enc P W' b sp hd f.resultTypes.toList (v.resultList f.resultTypes.size) (s.fn H (ds ++ gs)).results [])
    (hargs : ∀ sp : Nat → Bool, (∀ p ∈ before, sp p.block = true) → DataW.TrodAll enc P W' 0 sp true f.params.toList args.toList (s.fn H (ds ++ gs)).args pa)
    (hvars : ∀ sp : Nat → Bool, (∀ p ∈ before, sp p.block = true) → DataW.TrodVars enc P W' sp s.vars (s.fn H (ds ++ gs)).vars pv)
    (hps : before = pa ++ pv) (hk : Kept W W')
    (hok : ∀ (j : Nat) (t : TypeId) (r : Value), f.resultTypes[j]? = some t → (v.resultList f.resultTypes.size)[j]? = some r → Value.okWide P W' .any 0 t r) :
    s.post enc P f apart fresh handsOn again W args v W' := by
  have hold : ∀ p ∈ before, (fun b => decide (b < W.heap.size)) p.block = true := fun p hp => by simpa using hW.lt p hp
  refine ⟨ds, gs, before, [], pa, pv, hW, hres _ _ _, hargs _ hold, hvars _ hold, World.keptBut_mono (fun p hp => ⟨hp, ?_⟩) (hk.frame (· ∈ before)), fun _ => ?_⟩
  · rw [hps, List.mem_append] at hp
    exact Or.inr hp
  · have hlt := hW.lt
    obtain ⟨_, _, _, _, _, hz, hn⟩ := hW
    refine ⟨hok, _, _, ([] ++ pa) ++ pv, ⟨[] ++ pa, pv, trodAll_append (hargs _ (fun _ _ => rfl)) (hres _ _ _), hvars _ (fun _ _ => rfl), rfl, ?_, ?_⟩, ?_⟩
    · intro b off hp
      have hp' : MemPlace.cell b off ∈ before := by rw [hps]; simpa using hp
      rw [hk.frozen _ (hlt _ hp')]
      exact hz b off hp'
    · intro ha
      have := hn ha
      rw [hps] at this
      simpa using this
    · intro p hp _
      rw [hps]
      simpa using hp
end Go.AW

/- Arguments: from what is read of them to what the layer says of them; and the law's end for any arguments. -/
namespace Go.AW
open Go Go.ChangeShapes Go.WideShapes Go.ChangeAt Go.RowKit

theorem rowAt_le {p : Program} {fits : TypeId → Bool} {d : Nat} {e : TypeId} {count off n : Nat} (h : rowAt p fits d e count off n = true) : off ≤ count * p.cellsOf e := by
  cases d with
  | zero => simp [rowAt] at h
  | succ d =>
    unfold rowAt at h
    simp only at h
    split at h
    · cases h
    · rename_i hs
      have hs' : 0 < p.cellsOf e := Nat.pos_of_ne_zero hs
      have hd := Nat.div_add_mod off (p.cellsOf e)
      rw [Nat.mul_comm] at hd
      simp only [Bool.or_eq_true, Bool.and_eq_true, beq_iff_eq, decide_eq_true_eq] at h
      rcases h with ⟨⟨h0, h1⟩, _⟩ | ⟨h1, _⟩
      · rw [← hd, h0, Nat.add_zero]
        exact Nat.mul_le_mul_right _ (by omega)
      · have hm := Nat.mod_lt off hs'
        have : (off / p.cellsOf e + 1) * p.cellsOf e ≤ count * p.cellsOf e := Nat.mul_le_mul_right _ h1
        rw [Nat.add_mul] at this
        omega

theorem liesAt_le {p : Program} {d : Nat} {e u : TypeId} {count off n : Nat} (h : liesAt p d e count off u n = true) : off ≤ count * p.cellsOf e := by
  induction d generalizing u n with
  | zero => simp [liesAt] at h
  | succ d ih =>
    unfold liesAt at h
    rw [Bool.or_eq_true] at h
    rcases h with h | h
    · exact rowAt_le h
    · split at h
      · exact ih h
      · cases h

theorem has_seg {P : Program} {W : World} {r : Reach} {base : Nat} {a : Addr} {e : TypeId} {cap : Nat} (h : W.has P r base a e cap) {vs : List Value} (hc : ∀ i (hi : i < vs.length), W.cell? (a.add i) = some vs[i]) :
    ∃ b off, a = ⟨b, off, none⟩ ∧ Seg W b off vs := by
  obtain ⟨_, hsp, row, cells, hsh, hl⟩ := h
  obtain ⟨b, off, spot⟩ := a
  dsimp only at hsp hsh hl
  subst hsp
  refine ⟨b, off, rfl, ?_⟩
  unfold World.shape? at hsh
  split at hsh
  · rename_i cur e' fr hb
    simp only [Option.some.injEq, Prod.mk.injEq] at hsh
    obtain ⟨rfl, rfl⟩ := hsh
    have hoff : off ≤ cur.size := Nat.le_trans (liesAt_le hl) (Nat.div_mul_le_self _ _)
    have hget : ∀ i (hi : i < vs.length), cur.toList[off + i]? = some vs[i] := fun i hi => by
      have := hc i hi
      rw [add_plain] at this
      unfold World.cell? at this
      rw [hb] at this
      simpa using this
    refine ⟨cur, e', fr, cur.toList.take off, cur.toList.drop (off + vs.length), hb, ?_, by simp [hoff]⟩
    have hvs : vs = (cur.toList.drop off).take vs.length := by
      apply List.ext_getElem?
      intro i
      rcases Nat.lt_or_ge i vs.length with hi | hi
      · rw [List.getElem?_take_of_lt hi, List.getElem?_drop, hget i hi, List.getElem?_eq_getElem hi]
      · rw [List.getElem?_eq_none hi, List.getElem?_eq_none (by simp; omega)]
    have : vs ++ cur.toList.drop (off + vs.length) = cur.toList.drop off := by
      conv => lhs; arg 1; rw [hvs]
      rw [← List.drop_drop]
      exact List.take_append_drop _ _
    rw [List.append_assoc, this, List.take_append_drop]
  · cases hsh

theorem nown (b : Nat) : ¬ Mu.zero.owns b := fun h => h.elim (fun ⟨_, _, h⟩ => by cases h) id

theorem open_num {H : Type} {enc : TypeId × Value → H} {P : Program} {W : World} {base : Nat} {t : TypeId} {k : IntKind} {v : Value} {d : DataW H} {ps : List MemPlace} (ht : P.underlying t = some (.int k))
    (hval : Value.okWide P W .any base t v) (h : DataW.Trod enc P W 0 (fun _ => true) true t v d ps) : ∃ n : Int, (Lit.int k n).wf = true ∧ Rep W Mu.zero (.int k n) v := by
  obtain ⟨n, rfl, _, _, hw⟩ := open_int ht hval h
  exact ⟨n, hw, rfl, hw⟩

theorem open_u8 {H : Type} {enc : TypeId × Value → H} {P : Program} {W : World} {base : Nat} {t : TypeId} {v : Value} {d : DataW H} {ps : List MemPlace} (ht : P.underlying t = some (.int .u8))
    (hval : Value.okWide P W .any base t v) (h : DataW.Trod enc P W 0 (fun _ => true) true t v d ps) : ∃ b : UInt8, Rep W Mu.zero (.int .u8 (b.toNat : Int)) v := by
  obtain ⟨n, hw, hr⟩ := open_num ht hval h
  have hw' : (0 : Int) ≤ n ∧ n ≤ 255 := by
    simp only [Lit.wf, Bool.and_eq_true, decide_eq_true_eq] at hw
    exact hw
  refine ⟨UInt8.ofNat n.toNat, ?_⟩
  have : ((UInt8.ofNat n.toNat).toNat : Int) = n := by
    rw [UInt8.toNat_ofNat']
    omega
  rw [this]
  exact hr

theorem trodAll_stays {H : Type} {enc : TypeId × Value → H} {P : Program} (hl : laidOutB P = true) {W W' : World} {sp : Nat → Bool} : ∀ {ts : List TypeId} {vs : List Value} {ds : List (DataW H)} {ps : List MemPlace},
    (ts.all fun t => P.readableRec t && decide (t < P.types.size)) = true → DataW.TrodAll enc P W 0 (fun _ => true) true ts vs ds ps → (∀ p ∈ ps, W.sameAt W' p) → (∀ p ∈ ps, sp p.block = true) → DataW.TrodAll enc P W' 0 sp true ts vs ds ps
  | [], vs, ds, ps, _, h, _, _ => by
    obtain ⟨rfl, rfl, rfl⟩ := trodAll_nil h
    exact trodAll_mk0
  | t :: ts, vs, ds, ps, ht, h, h1, h2 => by
    obtain ⟨v, vs', d, ds', p, q, rfl, rfl, rfl, h3, h4⟩ := trodAll_cons h
    simp only [List.all_cons, Bool.and_eq_true, decide_eq_true_eq] at ht
    exact trodAll_cons_mk (WideElems.Trod_stays hl ht.1.1 ht.1.2 h3 (fun x hx => h1 x (List.mem_append_left _ hx)) (fun x hx => h2 x (List.mem_append_left _ hx)))
      (trodAll_stays hl ht.2 h4 (fun x hx => h1 x (List.mem_append_right _ hx)) (fun x hx => h2 x (List.mem_append_right _ hx)))

theorem Kept.same {W W' : World} (h : Kept W W') (p : MemPlace) (hp : p.block < W.heap.size) : W.sameAt W' p := by
  cases p with
  | cell b off =>
    show W'.cell? ⟨b, off, none⟩ = W.cell? ⟨b, off, none⟩
    unfold World.cell?
    rw [h.2.2.2 b hp]
  | map b => exact h.2.2.2 b hp

theorem post_of_true {H : Type} {enc : TypeId × Value → H} {P : Program} {f : Func} {s : ChangeSpec} {apart fresh handsOn again : Bool} {W W' : World} {args : Array Value} {ds gs : List (DataW H)} {before : List MemPlace} {t : TypeId}
    (hl : laidOutB P = true) (hps : (f.params.toList.all fun t => P.readableRec t && decide (t < P.types.size)) = true) (hres : f.resultTypes = #[t]) (ht : P.underlying t = some .bool) (hv : s.vars = [])
    (hW : DataW.Whole enc P f.params.toList s.vars apart W args.toList ds gs before) (hk : Kept W W')
    (h1 : (s.fn H (ds ++ gs)).results = [.lit (.bool true)]) (h2 : (s.fn H (ds ++ gs)).args = ds) (h3 : (s.fn H (ds ++ gs)).vars = []) :
    s.post enc P f apart fresh handsOn again W args (.bool true) W' := by
  have hlt := hW.lt
  have hW' := hW
  obtain ⟨p, q, hA, hV, rfl, _, _⟩ := hW
  rw [hv] at hV
  obtain ⟨rfl, rfl⟩ := trodVars_none hV
  refine post_of_kept (pa := p) (pv := []) hW' (fun _ _ _ => ?_) (fun sp hsp => ?_) (fun _ _ => ?_) (by simp) hk (ok_one hres rfl (okWide_bool_mk ht _))
  · rw [hres, h1]
    exact trodAll_cons_mk (shut_bool ht _) trodAll_mk0
  · rw [h2]
    exact trodAll_stays hl hps hA (fun x hx => hk.same x (hlt x (by simpa using hx))) (fun x hx => hsp x (by simpa using hx))
  · rw [h3, hv]
    rfl
end Go.AW

/- Arguments that are graphs: what is read of them, and what the layer says of them. -/
namespace Go.AW
open Go Go.ChangeShapes Go.WideShapes Go.ChangeAt Go.RowKit

section
variable {H : Type} {enc : TypeId × Value → H} {P : Program} {W : World} {base : Nat}

theorem repL_app {μ : Mu} : ∀ {hs ks : List HV} {vs us : List Value}, RepL W μ hs vs → RepL W μ ks us → RepL W μ (hs ++ ks) (vs ++ us)
  | [], _, _, _, h, h' => by cases h; exact h'
  | _ :: _, _, _, _, ⟨x, xs, rfl, h1, h2⟩, h' => ⟨x, _, rfl, h1, repL_app h2 h'⟩

theorem add_adds (a : Addr) (i j : Nat) : (a.add i).add j = a.add (i + j) := by
  unfold Addr.add
  repeat' split
  all_goals simp_all [Nat.add_assoc]

theorem open_rows {α : Type} (c : EncL α) {fuel : Nat} {t e : TypeId} {cs : List Value} {x : DataW H × List MemPlace} (ht : P.underlying t = some (.slice e)) (hk : P.cellsOf e = c.k) (hone : ∀ x, ones (c.C x))
    (hel : ∀ n cs y, DataW.trod enc P W 0 (fun _ => true) true n e cs = some y → ∃ x : α, RepL W Mu.zero (c.C x) cs)
    (hhas : ∀ a len cap, cs = [.slice (some a) len cap] → W.has P .any base a e cap) (h : DataW.trod enc P W 0 (fun _ => true) true fuel t cs = some x) : ∃ l : List α, RepL W Mu.zero [slE c l] cs := by
  rcases DataW.trod_slice ht h with ⟨rfl, _⟩ | ⟨a, len, cap, elems, rest, n, _, rfl, _, _, hl, hm, hlen, hel', _, _⟩
  · refine ⟨[], _, _, rfl, ?_, rfl⟩
    show _ ∧ _
    exact ⟨(by rw [c.nil]; exact fun _ h => nomatch h), (by rw [c.nil]; simp), Nat.zero_le _, .inl ⟨rfl, rfl⟩⟩
  · have each : ∀ i, i < len → ∃ cs' x, W.cells? 0 (a.add (i * c.k)) c.k = some cs' ∧ RepL W Mu.zero (c.C x) cs' := fun i hi => by
      have h1 := hel' i hi
      rw [List.getElem?_eq_getElem (by omega), Option.bind_eq_some_iff, hk] at h1
      obtain ⟨cs', h2, h3⟩ := h1
      obtain ⟨x, hx⟩ := hel _ _ _ h3
      exact ⟨cs', x, h2, hx⟩
    have build : ∀ m, m ≤ len → ∃ (l : List α) (vs : List Value), l.length = m ∧ vs.length = m * c.k ∧ RepL W Mu.zero (c.E l) vs ∧ ∀ i (hi : i < vs.length), W.cell? (a.add i) = some vs[i] := by
      intro m
      induction m with
      | zero => exact fun _ => ⟨[], [], rfl, by simp, by rw [c.nil]; rfl, fun i hi => by simp at hi⟩
      | succ m ih =>
        intro hm
        obtain ⟨l, vs, h1, h2, h3, h4⟩ := ih (by omega)
        obtain ⟨cs', x, h5, h6⟩ := each m (by omega)
        obtain ⟨_, h7, h8⟩ := World.cells?_some h5
        refine ⟨l ++ [x], vs ++ cs', by simp [h1], by rw [List.length_append, h2, h7, Nat.succ_mul], by rw [c.append, c.one]; exact repL_app h3 h6, fun i hi => ?_⟩
        rcases Nat.lt_or_ge i vs.length with hi' | hi'
        · rw [List.getElem_append_left hi']; exact h4 i hi'
        · rw [List.getElem_append_right hi']
          rw [List.length_append] at hi
          have := h8 (i - vs.length) (by omega)
          rw [add_adds, h2, show m * c.k + (i - m * c.k) = i by omega] at this
          rw [this, List.getElem?_eq_getElem (by omega)]
          simp only [h2]
    obtain ⟨l, vs, h1, h2, h3, h4⟩ := build len (Nat.le_refl _)
    obtain ⟨b, off, rfl, hseg⟩ := has_seg (hhas _ _ _ rfl) h4
    refine ⟨l, _, _, rfl, ?_, rfl⟩
    show _ ∧ _
    refine ⟨fun d hd => ?_, c.len l, by omega, .inr ⟨b, off, cap, vs, by rw [h1], by omega, nown b, hseg, h3⟩⟩
    rw [c.hE] at hd
    obtain ⟨x, _, hdx⟩ := List.mem_flatMap.1 hd
    exact hone x d hdx

theorem open3 {t : TypeId} {f0 f1 f2 : Field} {fuel : Nat} {cs : List Value} {x : DataW H × List MemPlace} (ht : P.underlying t = some (.struct #[f0, f1, f2])) (o0 : f0.offset = 0) (o1 : f1.offset = 1) (o2 : f2.offset = 2) (c : P.cellsOf t = 3)
    (c0 : P.cellsOf f0.type = 1) (c1 : P.cellsOf f1.type = 1) (c2 : P.cellsOf f2.type = 1) (h : DataW.trod enc P W 0 (fun _ => true) true fuel t cs = some x) :
    ∃ v0 v1 v2 y0 y1 y2 n, cs = [v0, v1, v2] ∧ DataW.trod enc P W 0 (fun _ => true) true n f0.type [v0] = some y0 ∧ DataW.trod enc P W 0 (fun _ => true) true n f1.type [v1] = some y1 ∧ DataW.trod enc P W 0 (fun _ => true) true n f2.type [v2] = some y2 := by
  obtain ⟨xs, n, _, rfl, hl, hlen, hf⟩ := DataW.trod_struct ht h
  rw [c] at hl
  match cs, hl with
  | [v0, v1, v2], _ =>
    match xs, hlen with
    | [y0, y1, y2], _ =>
      refine ⟨v0, v1, v2, y0, y1, y2, n, rfl, ?_, ?_, ?_⟩
      · have := hf 0 f0 rfl; rw [o0, c0] at this; exact this
      · have := hf 1 f1 rfl; rw [o1, c1] at this; exact this
      · have := hf 2 f2 rfl; rw [o2, c2] at this; exact this

theorem rep_i64 {n : Int} {ti : TypeId} {m : Nat} {v : Value} {y : DataW H × List MemPlace} (hti : P.underlying ti = some (.int .i64)) (h : DataW.trod enc P W 0 (fun _ => true) true m ti [v] = some y) : ∃ n : Int, Rep W Mu.zero (.int .i64 n) v := by
  obtain ⟨n, hv, _, hw⟩ := DataW.trod_int hti h
  cases hv
  exact ⟨n, rfl, hw⟩

theorem open_graph {t ti ts te : TypeId} {f0 f1 f2 e0 e1 e2 : Field} {v : Value} {d : DataW H} {ps : List MemPlace} (ht : P.underlying t = some (.struct #[f0, f1, f2])) (o : f0.offset = 0 ∧ f1.offset = 1 ∧ f2.offset = 2) (y : f0.type = ti ∧ f1.type = ti ∧ f2.type = ts)
    (c : P.cellsOf t = 3) (ci : P.cellsOf ti = 1) (cs : P.cellsOf ts = 1) (ct : P.cellTypes P.depth t = some [ti, ti, ts]) (hti : P.underlying ti = some (.int .i64)) (hts : P.underlying ts = some (.slice te))
    (hte : P.underlying te = some (.struct #[e0, e1, e2])) (oe : e0.offset = 0 ∧ e1.offset = 1 ∧ e2.offset = 2) (ye : e0.type = ti ∧ e1.type = ti ∧ e2.type = ti) (ce : P.cellsOf te = 3)
    (hval : Value.okWide P W .any base t v) (h : DataW.Trod enc P W 0 (fun _ => true) true t v d ps) : ∃ g : TLabelsStatesEdges, Rep W Mu.zero (.agg [.int .i64 g.1, .int .i64 g.2.1, slE eFromLabelTo g.2.2]) v := by
  obtain ⟨y0, y1, y2⟩ := y
  obtain ⟨z0, z1, z2⟩ := ye
  simp only [Value.okWide, ht] at hval
  obtain ⟨arr, rfl, _, hrow⟩ := hval
  obtain ⟨fuel, hf⟩ := h
  obtain ⟨v0, v1, v2, a0, a1, a2, n, hcs, h0, h1, h2⟩ := open3 ht o.1 o.2.1 o.2.2 c (by rw [y0]; exact ci) (by rw [y1]; exact ci) (by rw [y2]; exact cs) hf
  have harr : arr = #[v0, v1, v2] := by
    have : arr.toList = [v0, v1, v2] := hcs
    cases arr
    simp_all
  subst harr
  rw [y0] at h0
  rw [y1] at h1
  rw [y2] at h2
  obtain ⟨l, r0⟩ := rep_i64 (n := 0) hti h0
  obtain ⟨s, r1⟩ := rep_i64 (n := 0) hti h1
  obtain ⟨es, _, _, r2, r2', r2''⟩ := open_rows (base := base) eFromLabelTo hts ce (fun x d hd => by
      have hd : d ∈ [HV.int .i64 x.1, HV.int .i64 x.2.1, HV.int .i64 x.2.2] := hd
      simp only [List.mem_cons, List.not_mem_nil, or_false] at hd
      rcases hd with rfl | rfl | rfl <;> rfl) (fun m cs' y hy => by
      obtain ⟨w0, w1, w2, b0, b1, b2, n', rfl, k0, k1, k2⟩ := open3 hte oe.1 oe.2.1 oe.2.2 ce (by rw [z0]; exact ci) (by rw [z1]; exact ci) (by rw [z2]; exact ci) hy
      rw [z0] at k0
      rw [z1] at k1
      rw [z2] at k2
      obtain ⟨p0, q0⟩ := rep_i64 (n := 0) hti k0
      obtain ⟨p1, q1⟩ := rep_i64 (n := 0) hti k1
      obtain ⟨p2, q2⟩ := rep_i64 (n := 0) hti k2
      exact ⟨(p0, p1, p2), _, _, rfl, q0, _, _, rfl, q1, _, _, rfl, q2, rfl⟩) (fun a len cap e => by
      cases e
      obtain ⟨tys, ht1, _, hcell⟩ := hrow
      rw [ct] at ht1
      cases ht1
      obtain ⟨u, hu, hok⟩ := hcell 2 (.slice (some a) len cap) rfl
      cases hu
      simp only [Cell.okWide, hts, Cell.ok] at hok
      exact hok.2.2) h2
  cases r2
  refine ⟨(l, s, es), ?_⟩
  show _ ∧ _
  refine ⟨fun d hd => ?_, _, rfl, _, _, rfl, r0, _, _, rfl, r1, _, _, rfl, r2', rfl⟩
  simp only [List.mem_cons, List.not_mem_nil, or_false] at hd
  rcases hd with rfl | rfl | rfl <;> rfl
end
end Go.AW

/- Arguments that are lists of numbers. -/
namespace Go.AW
open Go Go.ChangeShapes Go.WideShapes Go.ChangeAt Go.RowKit
section
variable {H : Type} {enc : TypeId × Value → H} {P : Program} {W : World} {base : Nat}
end
end Go.AW

/- Arguments that are lists of bytes. -/
namespace Go.AW
open Go Go.ChangeShapes Go.WideShapes Go.ChangeAt Go.RowKit
section
variable {H : Type} {enc : TypeId × Value → H} {P : Program} {W : World} {base : Nat}
end
end Go.AW

/- A parameter that is a struct of two lists of strings. -/
namespace Go.AW
open Go Go.ChangeShapes Go.WideShapes Go.ChangeAt Go.RowKit
section
variable {H : Type} {enc : TypeId × Value → H} {P : Program} {W : World} {base : Nat}
end
end Go.AW

namespace Go.Proofs.YtnjepajbbkejeaaGreat
open Go Go.AW Go.ChangeShapes Go.WideShapes Go.ChangeAt Go.RowKit Go.ChangeMaps
set_option linter.unusedVariables false

theorem ownM : ownKnob Tryz.prog.godebug = none := by kernel_rfl
theorem laidB : laidOutB Tryz.prog = true := by kernel_rfl

theorem wLaw (a0 : TLabelsStatesEdges) (a1 : List UInt8) (a2 : UInt8) : Pure Tryz.prog 5 [HV.agg [HV.int .i64 a0.1, HV.int .i64 a0.2.1, slE eFromLabelTo a0.2.2], .str a1, .int .u8 a2.toNat] (· = .bool true) := w_law54_SyncmarkDamaged (law54_damaged a0 a1 a2.toNat (Int.natCast_nonneg _) (by have := a2.toNat_lt; omega))

set_option maxRecDepth 100000 in
theorem liftedL (os : Os) (started : os.Started) (H : Type) (enc : TypeId × Value → H) :
    ReturnsInHanded {} Tryz.checked os 5 .any (Rows.syncmarkDamagedSpec.pre6 enc Tryz.prog Tryz.f5 Rows.syncmarkDamagedRow.domain false) (Rows.syncmarkDamagedSpec.post enc Tryz.prog Tryz.f5 false true false false) := by
  refine returnsInHanded_of_change_shaped (C := Tryz.checked) ownM started (by kernel_rfl) Tryz.func5
    (ChangeSpec.witness6 (enc := enc) (C := Tryz.checked) false ⟨#[], #[.agg #[.int .i64 0, .int .i64 0, .slice none 0 0], .string ⟨#[]⟩, .int .u8 0], []⟩ 8 (by kernel_rfl) (by kernel_rfl) (by kernel_rfl) (by kernel_rfl)) ?_
  intro W base args ds gs before hval0 hW hcnd _ hsh _
  have hval : ∀ (j : Nat) t v, Tryz.f5.params[j]? = some t → args[j]? = some v → Value.okWide Tryz.prog W .any base t v := hval0
  have hW' := hW
  obtain ⟨p, q, hA0, hV, rfl, hfz, hnd⟩ := hW
  have hA : DataW.TrodAll enc Tryz.prog W 0 (fun _ => true) true Tryz.f5.params.toList args.toList ds p := hA0
  rw [Tryz.params5] at hA hval
  obtain ⟨v0, vs0, d0, ds0, p0, q0, hargs, rfl, rfl, h0, r0⟩ := trodAll_cons hA
  obtain ⟨v1, vs1, d1, ds1, p1, q1, rfl, rfl, rfl, h1, r1⟩ := trodAll_cons r0
  obtain ⟨v2, vs2, d2, ds2, p2, q2, rfl, rfl, rfl, h2, r2⟩ := trodAll_cons r1
  obtain ⟨rfl, rfl, rfl⟩ := trodAll_nil r2
  obtain rfl : args = #[v0, v1, v2] := by cases args; simp_all
  obtain ⟨rfl, rfl⟩ := trodVars_none hV
  obtain ⟨a0, hr0⟩ := open_graph Tryz.underlying24 ⟨rfl, rfl, rfl⟩ ⟨rfl, rfl, rfl⟩ (by kernel_rfl) (by kernel_rfl) (by kernel_rfl) (by kernel_rfl) Tryz.underlying3 Tryz.underlying22 Tryz.underlying44 ⟨rfl, rfl, rfl⟩ ⟨rfl, rfl, rfl⟩ (by kernel_rfl) (hval 0 24 v0 rfl rfl) h0
  obtain ⟨s1, rfl, _, _, l1⟩ := open_string Tryz.underlying9 (hval 1 9 v1 rfl rfl) h1
  obtain ⟨a2, hr2⟩ := open_u8 Tryz.underlying5 (hval 2 5 v2 rfl rfl) h2
  have hgl : GlOk W Mu.zero := fun g hg => by
    obtain rfl : g = 0 := by simpa [gNos] using hg
    exact ⟨Tryz.index.s1_3 W hsh, fun ⟨_, _, h⟩ => by cases h⟩
  refine (calls_of_pure (hgl := hgl) (vs := [v0, .string s1, v2]) (wLaw a0 s1.data.toList a2) ⟨_, _, rfl, hr0, _, _, rfl, rep_string s1 l1, _, _, rfl, hr2, rfl⟩).mono fun e W' ⟨he, hk⟩ => ?_
  subst he
  exact ⟨_, rfl, post_of_true laidB (by kernel_rfl) rfl Tryz.underlying4 rfl hW' hk rfl rfl rfl⟩

theorem syncmarkDamagedProved : Rows.SyncmarkDamagedSaid :=
  OpenClaim.holds_of_wide 5 Tryz.f5 rfl rfl rfl rfl rfl rfl rfl ⟨rfl, rfl, rfl, rfl, rfl⟩ rfl rfl rfl rfl rfl (by kernel_rfl) Tryz.func5 (by kernel_rfl)
    (of_decide_eq_true (by kernel_rfl)) (by unfold Func.isWrapper; first | (rw [if_pos (by decide +kernel)]; kernel_rfl) | (rw [if_neg (by decide +kernel)]; exact ⟨rfl, rfl⟩))
    (fun os started H enc _ => liftedL os started H enc)
#print axioms syncmarkDamagedProved
end Go.Proofs.YtnjepajbbkejeaaGreat
