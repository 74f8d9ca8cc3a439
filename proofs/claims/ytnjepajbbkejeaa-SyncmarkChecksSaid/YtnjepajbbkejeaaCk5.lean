import Derived.Test.YtnjepajbbkejeaaCk4
namespace Go.AW
open Go
set_option linter.unusedVariables false
set_option linter.unusedSimpArgs false
def lpM (mark w : List UInt8) : Nat := fgo mark w (min w.length mark.length)
theorem fgo_suf (mark w : List UInt8) : ∀ n, mark.take (fgo mark w n) <:+ w
 | 0 => by unfold fgo; rw [List.take_zero]; exact List.nil_suffix
 | n + 1 => by
  unfold fgo
  split
  ·rename_i h; exact List.isSuffixOf_iff_suffix.1 h
  ·exact fgo_suf mark w n
theorem fgo_max (mark w : List UInt8) : ∀ (n k : Nat), k ≤ n → mark.take k <:+ w → k ≤ fgo mark w n
 | 0, k, hk, _ => by omega
 | n + 1, k, hk, h => by
  unfold fgo
  split
  ·exact hk
  ·rename_i hn
   by_cases e : k = n + 1
   ·subst e; exact absurd (List.isSuffixOf_iff_suffix.2 h) hn
   ·exact fgo_max mark w n k (by omega) h
theorem lpM_le (mark w : List UInt8) : lpM mark w ≤ w.length ∧ lpM mark w ≤ mark.length := by
 have := fgo_le mark w (min w.length mark.length)
 unfold lpM
 omega
theorem foll_lpM (mark : List UInt8) (k : Nat) (c : UInt8) : foll mark k c = lpM mark (mark.take k ++ [c]) := rfl
def badG (mark : List UInt8) : List UInt8 → Nat → Bool → Bool
 | [], n, b => endsG mark mark n || b
 | c :: u, n, b => badG mark u (foll mark n c) (b || decide (foll mark n c = mark.length))
def badU (mark u : List UInt8) : Bool := badG mark u mark.length false
section
variable {g : Gr} {mark : List UInt8}
theorem letB_mem (hv : VG g) (h16 : g.1 ≤ 16) {a : Int} (h0 : 0 ≤ a) (h1 : a < g.1) : letB a ∈ lets g ∧ lab (letB a) = a := by
 have hl : a.toNat < letters.length := by rw [letters_len]; omega
 have e : letB a = letters[a.toNat] := by unfold letB; rw [List.getD_eq_getElem?_getD, List.getElem?_eq_getElem hl]; rfl
 rw [e]
 refine ⟨?_, ?_⟩
 ·unfold lets
  exact List.mem_take_iff_getElem.2 ⟨a.toNat, by rw [letters_len] at hl ⊢; omega, rfl⟩
 ·have := idx_letter hl
  unfold lab
  rw [this]
  omega
theorem lets_lab (hv : VG g) (h16 : g.1 ≤ 16) {c : UInt8} (hc : c ∈ lets g) : 0 ≤ lab c ∧ lab c < g.1 ∧ letB (lab c) = c := by
 obtain ⟨i, hi, hg, rfl, e⟩ := lab_mem hc
 rw [e]
 refine ⟨Int.natCast_nonneg _, hg, ?_⟩
 unfold letB
 rw [Int.toNat_natCast, List.getD_eq_getElem?_getD, List.getElem?_eq_getElem hi]
 rfl
theorem canF_iff (hv : VG g) (h16 : g.1 ≤ 16) : ∀ (n : Nat) (p : TStateReadBadLeft), 0 ≤ p.1 → p.1 < g.2.1 → (canF g.2.2 mark n p = true ↔ ∃ u : List UInt8, u.length = n ∧ (∀ c ∈ u, c ∈ lets g) ∧ canR g u p.1 ∧ badG mark u p.2.1.toNat p.2.2.1 = true)
 | 0, p, h0, h1 => by
  unfold canF endsF
  constructor
  ·intro h; exact ⟨[], rfl, fun _ h => by simp at h, canR_nil h0 h1, h⟩
  ·rintro ⟨u, hu, _, _, h⟩
   cases List.eq_nil_of_length_eq_zero hu
   exact h
 | n + 1, p, h0, h1 => by
  unfold canF
  rw [List.any_eq_true]
  constructor
  ·rintro ⟨x, hx, h⟩
   obtain ⟨hxE, hxp⟩ := List.mem_filter.1 hx
   have hxp := of_decide_eq_true hxp
   obtain ⟨e1, e2, e3, e4, e5, e6⟩ := hv.ed x hxE
   obtain ⟨u, hu, hul, hc, hb⟩ := (canF_iff hv h16 n (stepF mark p x) e3 e4).1 h
   obtain ⟨l1, l2⟩ := letB_mem hv h16 e5 e6
   refine ⟨letB x.2.1 :: u, by rw [List.length_cons, hu], fun c hc => ?_, (canR_cons h0 h1).2 ⟨x, hxE, hxp, l2.symm, hc⟩, ?_⟩
   ·rcases List.mem_cons.1 hc with rfl | hc
    ·exact l1
    ·exact hul c hc
   ·unfold badG
    exact hb
  ·rintro ⟨u, hu, hul, hc, hb⟩
   cases u with
   | nil => simp at hu
   | cons c u =>
    obtain ⟨x, hxE, hx1, hx2, hx3⟩ := (canR_cons h0 h1).1 hc
    obtain ⟨e1, e2, e3, e4, e5, e6⟩ := hv.ed x hxE
    obtain ⟨l1, l2, l3⟩ := lets_lab hv h16 (hul c (List.mem_cons_self ..))
    refine ⟨x, List.mem_filter.2 ⟨hxE, decide_eq_true hx1⟩, (canF_iff hv h16 n (stepF mark p x) e3 e4).2 ⟨u, by simpa using hu, fun d hd => hul d (List.mem_cons_of_mem _ hd), hx3, ?_⟩⟩
    unfold badG at hb
    have e : letB x.2.1 = c := by rw [hx2, l3]
    show badG mark u ((foll mark p.2.1.toNat (letB x.2.1) : Nat) : Int).toNat (p.2.2.1 || decide (foll mark p.2.1.toNat (letB x.2.1) = mark.length)) = true
    rw [Int.toNat_natCast, e]
    exact hb
theorem mem_aft1 {f : TStateReadBadLeft → Bool} {stp : TStateReadBadLeft → TFromLabelTo → TStateReadBadLeft} {a : Int} {p q : TStateReadBadLeft} : ∀ (l : List TFromLabelTo) (acc : List TStateReadBadLeft), q ∈ l.foldl (aft1 f stp a p) acc ↔ q ∈ acc ∨ (f q = true ∧ ∃ x ∈ l, x.2.1 = a ∧ q = stp p x)
 | [], acc => by simp
 | x :: l, acc => by
  rw [List.foldl_cons, mem_aft1 l]
  have h : q ∈ aft1 f stp a p acc x ↔ q ∈ acc ∨ (f q = true ∧ x.2.1 = a ∧ q = stp p x) := by
   unfold aft1
   split
   ·rename_i h1
    split
    ·rename_i h2
     exact ⟨.inl, fun h => h.elim id fun ⟨_, _, e⟩ => by rw [e]; exact h2⟩
    ·split
     ·rename_i h3
      rw [List.mem_append, List.mem_singleton]
      exact or_congr Iff.rfl ⟨fun e => ⟨by rw [e]; exact h3, h1, e⟩, fun h => h.2.2⟩
     ·rename_i h3
      exact ⟨.inl, fun h => h.elim id fun ⟨h4, _, e⟩ => absurd (by rw [← e]; exact h4) h3⟩
   ·rename_i h1
    exact ⟨.inl, fun h => h.elim id fun ⟨_, h4, _⟩ => absurd h4 h1⟩
  rw [h, or_assoc]
  refine or_congr Iff.rfl ?_
  constructor
  ·rintro (⟨h1, h2, h3⟩ | ⟨h1, y, hy, h2, h3⟩)
   ·exact ⟨h1, x, List.mem_cons_self .., h2, h3⟩
   ·exact ⟨h1, y, List.mem_cons_of_mem _ hy, h2, h3⟩
  ·rintro ⟨h1, y, hy, h2, h3⟩
   rcases List.mem_cons.1 hy with rfl | hy
   ·exact .inl ⟨h1, h2, h3⟩
   ·exact .inr ⟨h1, y, hy, h2, h3⟩
theorem mem_aft {f : TStateReadBadLeft → Bool} {stp : TStateReadBadLeft → TFromLabelTo → TStateReadBadLeft} {lv : Int → List TFromLabelTo} {a : Int} {q : TStateReadBadLeft} (now : List TStateReadBadLeft) : q ∈ aft f stp lv now a ↔ f q = true ∧ ∃ p ∈ now, ∃ x ∈ lv p.1, x.2.1 = a ∧ q = stp p x := by
 have h : ∀ (l acc : List TStateReadBadLeft), q ∈ l.foldl (aftP f stp lv a) acc ↔ q ∈ acc ∨ (f q = true ∧ ∃ p ∈ l, ∃ x ∈ lv p.1, x.2.1 = a ∧ q = stp p x) := by
  intro l
  induction l with
  | nil => simp
  | cons p l ih =>
   intro acc
   rw [List.foldl_cons, ih]
   unfold aftP
   rw [mem_aft1, or_assoc]
   refine or_congr Iff.rfl ?_
   constructor
   ·rintro (⟨h1, x, hx, h2⟩ | ⟨h1, p', hp, h2⟩)
    ·exact ⟨h1, p, List.mem_cons_self .., x, hx, h2⟩
    ·exact ⟨h1, p', List.mem_cons_of_mem _ hp, h2⟩
   ·rintro ⟨h1, p', hp, x, hx, h2⟩
    rcases List.mem_cons.1 hp with rfl | hp
    ·exact .inl ⟨h1, x, hx, h2⟩
    ·exact .inr ⟨h1, p', hp, x, hx, h2⟩
 unfold aft
 rw [h]
 simp
theorem firstA_some {f : TStateReadBadLeft → Bool} {stp : TStateReadBadLeft → TFromLabelTo → TStateReadBadLeft} {lv : Int → List TFromLabelTo} {now : List TStateReadBadLeft} : ∀ (k s : Nat), (∃ a : Nat, s ≤ a ∧ a < s + k ∧ aft f stp lv now (a : Int) ≠ []) → ∃ a : Nat, s ≤ a ∧ a < s + k ∧ aft f stp lv now (a : Int) ≠ [] ∧ firstA f stp lv now ((List.range' s k).map Int.ofNat) = some ((a : Int), aft f stp lv now (a : Int)) ∧ ∀ b : Nat, s ≤ b → b < a → aft f stp lv now (b : Int) = []
 | 0, s, ⟨a, h1, h2, _⟩ => by omega
 | k + 1, s, ⟨a, h1, h2, h3⟩ => by
  by_cases e : aft f stp lv now (s : Int) = []
  ·obtain ⟨c, c1, c2, c3, c4, c5⟩ := firstA_some (f := f) (stp := stp) (lv := lv) (now := now) k (s + 1) ⟨a, by
    rcases Nat.lt_or_ge s a with h | h
    ·omega
    ·have : a = s := by omega
     subst this; exact absurd e h3, by omega, h3⟩
   refine ⟨c, by omega, by omega, c3, ?_, fun b hb1 hb2 => ?_⟩
   ·rw [List.range'_succ, List.map_cons]
    unfold firstA
    rw [if_neg (fun hn => hn e)]
    exact c4
   ·by_cases eb : b = s
    ·subst eb; exact e
    ·exact c5 b (by omega) hb2
  ·refine ⟨s, Nat.le_refl _, by omega, e, ?_, fun b hb1 hb2 => by omega⟩
   rw [List.range'_succ, List.map_cons]
   unfold firstA
   exact if_pos e
def goes (g : Gr) (mark : List UInt8) (now : List TStateReadBadLeft) (u : List UInt8) : Prop := (∀ c ∈ u, c ∈ lets g) ∧ ∃ p ∈ now, canR g u p.1 ∧ badG mark u p.2.1.toNat p.2.2.1 = true
theorem letters_lt {i j : Nat} (hi : i < letters.length) (hj : j < letters.length) (h : i < j) : letters[i] < letters[j] := by
 have : ∀ a b : Fin 16, a.1 < b.1 → letters[a.1]'(show a.1 < letters.length from a.2) < letters[b.1]'(show b.1 < letters.length from b.2) := by decide
 exact this ⟨i, hi⟩ ⟨j, hj⟩ h
theorem lets_lt_lab (hv : VG g) (h16 : g.1 ≤ 16) {c d : UInt8} (hc : c ∈ lets g) (hd : d ∈ lets g) (h : c < d) : lab c < lab d := by
 obtain ⟨i, hi, _, rfl, e⟩ := lab_mem hc
 obtain ⟨j, hj, _, rfl, f⟩ := lab_mem hd
 rw [e, f]
 rcases Nat.lt_trichotomy i j with h1 | h1 | h1
 ·omega
 ·subst h1; exact absurd h (UInt8.lt_irrefl _)
 ·exact absurd (UInt8.lt_trans h (letters_lt hj hi h1)) (UInt8.lt_irrefl _)
theorem goes_cons (hv : VG g) (h16 : g.1 ≤ 16) {n : Nat} {now : List TStateReadBadLeft} (hn : ∀ p ∈ now, (0 ≤ p.1 ∧ p.1 < g.2.1) ∧ 0 ≤ p.2.1 ∧ p.2.2.2 = (n : Int) + 1) {c : UInt8} (hc : c ∈ lets g) {u : List UInt8} (hu : u.length = n) :
  goes g mark now (c :: u) ↔ goes g mark (aft (canP g.2.2 mark) (stepF mark) (leav g.2.2) now (lab c)) u := by
 obtain ⟨l1, l2, l3⟩ := lets_lab hv h16 hc
 unfold goes
 constructor
 ·rintro ⟨h1, p, hp, h2, h3⟩
  refine ⟨fun d hd => h1 d (List.mem_cons_of_mem _ hd), ?_⟩
  obtain ⟨⟨p0, p1⟩, p2, p3⟩ := hn p hp
  obtain ⟨x, hxE, hx1, hx2, hx3⟩ := (canR_cons p0 p1).1 h2
  obtain ⟨e1, e2, e3, e4, e5, e6⟩ := hv.ed x hxE
  have e : letB x.2.1 = c := by rw [hx2, l3]
  have hb : badG mark u (stepF mark p x).2.1.toNat (stepF mark p x).2.2.1 = true := by
   show badG mark u ((foll mark p.2.1.toNat (letB x.2.1) : Nat) : Int).toNat (p.2.2.1 || decide (foll mark p.2.1.toNat (letB x.2.1) = mark.length)) = true
   rw [Int.toNat_natCast, e]
   unfold badG at h3
   exact h3
  refine ⟨stepF mark p x, (mem_aft now).2 ⟨?_, p, hp, x, List.mem_filter.2 ⟨hxE, decide_eq_true hx1⟩, hx2, rfl⟩, hx3, hb⟩
  unfold canP
  have hl : (stepF mark p x).2.2.2.toNat = n := by show (p.2.2.2 - 1).toNat = n; omega
  rw [hl]
  exact (canF_iff hv h16 n _ e3 e4).2 ⟨u, hu, fun d hd => h1 d (List.mem_cons_of_mem _ hd), hx3, hb⟩
 ·rintro ⟨h1, q, hq, h2, h3⟩
  obtain ⟨h4, p, hp, x, hx, hx2, rfl⟩ := (mem_aft now).1 hq
  obtain ⟨hxE, hx1⟩ := List.mem_filter.1 hx
  have hx1 := of_decide_eq_true hx1
  obtain ⟨⟨p0, p1⟩, p2, p3⟩ := hn p hp
  refine ⟨fun d hd => ?_, p, hp, (canR_cons p0 p1).2 ⟨x, hxE, hx1, hx2, h2⟩, ?_⟩
  ·rcases List.mem_cons.1 hd with rfl | hd
   ·exact hc
   ·exact h1 d hd
  ·have e : letB x.2.1 = c := by rw [hx2, l3]
   have h3 : badG mark u ((foll mark p.2.1.toNat (letB x.2.1) : Nat) : Int).toNat (p.2.2.1 || decide (foll mark p.2.1.toNat (letB x.2.1) = mark.length)) = true := h3
   rw [Int.toNat_natCast, e] at h3
   unfold badG
   exact h3
theorem grow_spec (hv : VG g) (h16 : g.1 ≤ 16) : ∀ (n : Nat) (now : List TStateReadBadLeft), now ≠ [] → (∀ p ∈ now, canP g.2.2 mark p = true ∧ (0 ≤ p.1 ∧ p.1 < g.2.1) ∧ 0 ≤ p.2.1 ∧ p.2.2.2 = (n : Int)) →
  (growF (canP g.2.2 mark) (stepF mark) (leav g.2.2) g.1 n now).length = n ∧ goes g mark now (growF (canP g.2.2 mark) (stepF mark) (leav g.2.2) g.1 n now) ∧ ∀ v : List UInt8, v.length = n → goes g mark now v → ¬ v < growF (canP g.2.2 mark) (stepF mark) (leav g.2.2) g.1 n now
 | 0, now, hne, hn => by
  refine ⟨rfl, ⟨fun _ h => (by cases h), ?_⟩, fun v _ _ h => (by cases h)⟩
  obtain ⟨p, hp⟩ := List.exists_mem_of_ne_nil _ hne
  obtain ⟨h1, ⟨p0, p1⟩, p2, p3⟩ := hn p hp
  unfold canP at h1
  rw [p3] at h1
  obtain ⟨u, hu, _, hc, hb⟩ := (canF_iff hv h16 _ _ p0 p1).1 h1
  cases List.eq_nil_of_length_eq_zero hu
  exact ⟨p, hp, hc, hb⟩
 | n + 1, now, hne, hn => by
  have hn1 : ∀ p ∈ now, (0 ≤ p.1 ∧ p.1 < g.2.1) ∧ 0 ≤ p.2.1 ∧ p.2.2.2 = (n : Int) + 1 := fun p hp => by
   obtain ⟨_, h2, h3, h4⟩ := hn p hp
   exact ⟨h2, h3, by omega⟩
  have hgo : ∀ a : Nat, (a : Int) < g.1 → aft (canP g.2.2 mark) (stepF mark) (leav g.2.2) now (a : Int) ≠ [] → ∀ p ∈ aft (canP g.2.2 mark) (stepF mark) (leav g.2.2) now (a : Int), canP g.2.2 mark p = true ∧ (0 ≤ p.1 ∧ p.1 < g.2.1) ∧ 0 ≤ p.2.1 ∧ p.2.2.2 = (n : Int) := by
   intro a _ _ q hq
   obtain ⟨h4, p, hp, x, hx, hx2, rfl⟩ := (mem_aft now).1 hq
   obtain ⟨hxE, hx1⟩ := List.mem_filter.1 hx
   obtain ⟨e1, e2, e3, e4, e5, e6⟩ := hv.ed x hxE
   obtain ⟨_, _, _, p3⟩ := hn p hp
   exact ⟨h4, ⟨e3, e4⟩, Int.natCast_nonneg _, by show p.2.2.2 - 1 = (n : Int); omega⟩
  obtain ⟨a, _, ha2, ha3, ha4, ha5⟩ := firstA_some (f := canP g.2.2 mark) (stp := stepF mark) (lv := leav g.2.2) (now := now) g.1.toNat 0 (by
   obtain ⟨p, hp⟩ := List.exists_mem_of_ne_nil _ hne
   obtain ⟨h1, ⟨p0, p1⟩, p2, p3⟩ := hn p hp
   have h1' := h1
   unfold canP at h1
   rw [p3, show ((n + 1 : Nat) : Int).toNat = n + 1 by omega] at h1
   obtain ⟨u, hu, hul, hc, hb⟩ := (canF_iff hv h16 _ _ p0 p1).1 h1
   cases u with
   | nil => simp at hu
   | cons c u =>
    have hcl := hul c (List.mem_cons_self ..)
    have hgc : goes g mark now (c :: u) := ⟨hul, p, hp, hc, hb⟩
    obtain ⟨_, q, hq, _⟩ := (goes_cons hv h16 hn1 hcl (by simpa using hu)).1 hgc
    obtain ⟨l1, l2, l3⟩ := lets_lab hv h16 hcl
    refine ⟨(lab c).toNat, Nat.zero_le _, by omega, fun e => ?_⟩
    rw [show (((lab c).toNat : Nat) : Int) = lab c by omega] at e
    rw [e] at hq
    cases hq)
  have haL : (a : Int) < g.1 := by omega
  obtain ⟨q1, q2, q3⟩ := grow_spec hv h16 n _ ha3 (hgo a haL ha3)
  have hG : growF (canP g.2.2 mark) (stepF mark) (leav g.2.2) g.1 (n + 1) now = letB (a : Int) :: growF (canP g.2.2 mark) (stepF mark) (leav g.2.2) g.1 n (aft (canP g.2.2 mark) (stepF mark) (leav g.2.2) now (a : Int)) := by
   conv => lhs; unfold growF
   rw [List.range_eq_range', ha4]
  rw [hG]
  obtain ⟨m1, m2⟩ := letB_mem hv h16 (Int.natCast_nonneg a) haL
  refine ⟨by rw [List.length_cons, q1], (goes_cons hv h16 hn1 m1 q1).2 (by rw [m2]; exact q2), fun v hv1 hv2 hlt => ?_⟩
  cases v with
  | nil => simp at hv1
  | cons d v =>
   have hd := hv2.1 d (List.mem_cons_self ..)
   have hv3 := (goes_cons hv h16 hn1 hd (by simpa using hv1)).1 hv2
   obtain ⟨l1, l2, l3⟩ := lets_lab hv h16 hd
   have hda : a ≤ (lab d).toNat := by
    apply Classical.byContradiction
    intro hno
    have := ha5 (lab d).toNat (Nat.zero_le _) (by omega)
    rw [show (((lab d).toNat : Nat) : Int) = lab d by omega] at this
    obtain ⟨_, q, hq, _⟩ := hv3
    rw [this] at hq
    cases hq
   rcases List.cons_lt_cons_iff.1 hlt with h | ⟨h1, h2⟩
   ·have := lets_lt_lab hv h16 hd m1 h
    rw [m2] at this
    omega
   ·have : lab d = (a : Int) := by rw [h1, m2]
    rw [this] at hv3
    exact q3 v (by simpa using hv1) hv3 h2
theorem mem_startF {n : Int} {p : TStateReadBadLeft} : p ∈ startF g mark n ↔ (0 ≤ p.1 ∧ p.1 < g.2.1) ∧ p.2 = ((mark.length : Int), false, n) ∧ canP g.2.2 mark p = true := by
 unfold startF
 rw [List.mem_filter, List.mem_map]
 constructor
 ·rintro ⟨⟨t, ht, rfl⟩, h⟩
  rw [List.mem_range] at ht
  exact ⟨⟨Int.natCast_nonneg _, by dsimp only; omega⟩, rfl, h⟩
 ·rintro ⟨⟨h0, h1⟩, h2, h3⟩
  refine ⟨⟨p.1.toNat, List.mem_range.2 (by omega), ?_⟩, h3⟩
  obtain ⟨p1, p2⟩ := p
  dsimp only at h0 h1 h2 ⊢
  rw [h2, show ((p1.toNat : Nat) : Int) = p1 by omega]
theorem goes_start (hv : VG g) (h16 : g.1 ≤ 16) {n : Nat} {u : List UInt8} (hu : u.length = n) : goes g mark (startF g mark n) u ↔ (u ∈ allW (lets g) n ∧ accB g u = true) ∧ badU mark u = true := by
 unfold goes accB badU
 rw [mem_allW, decide_eq_true_eq, can_iff hv u (upto_ok g)]
 constructor
 ·rintro ⟨h1, p, hp, h2, h3⟩
  obtain ⟨⟨p0, p1⟩, p2, p3⟩ := mem_startF.1 hp
  refine ⟨⟨⟨hu, h1⟩, p.1, mem_upto.2 ⟨p0, p1⟩, h2⟩, ?_⟩
  rw [p2] at h3
  exact h3
 ·rintro ⟨⟨⟨_, h1⟩, s, hs, h2⟩, h3⟩
  obtain ⟨s0, s1⟩ := mem_upto.1 hs
  refine ⟨h1, (s, (mark.length : Int), false, (n : Int)), mem_startF.2 ⟨⟨s0, s1⟩, rfl, ?_⟩, h2, h3⟩
  unfold canP
  dsimp only
  rw [Int.toNat_natCast]
  exact (canF_iff hv h16 n _ s0 s1).2 ⟨u, hu, h1, h2, h3⟩
def badsW (g : Gr) (mark : List UInt8) (n : Nat) : List (List UInt8) := ((allW (lets g) n).filter (accB g)).filter (badU mark)
theorem badF_eq (hv : VG g) (h16 : g.1 ≤ 16) (n : Nat) : badF g mark n = ((badsW g mark n).headD [], decide (badsW g mark n ≠ [])) := by
 have hmem : ∀ u, u ∈ badsW g mark n ↔ u.length = n ∧ goes g mark (startF g mark n) u := fun u => by
  unfold badsW
  rw [List.mem_filter, List.mem_filter]
  constructor
  ·intro h
   have hl := (mem_allW.1 h.1.1).1
   exact ⟨hl, (goes_start hv h16 hl).2 h⟩
  ·rintro ⟨hl, h⟩
   exact (goes_start hv h16 hl).1 h
 have hasc : (badsW g mark n).Pairwise (· < ·) := ((allW_asc (lets_asc g) n).filter _).filter _
 unfold badF
 by_cases hs : startF g mark n = []
 ·rw [if_pos hs]
  have : badsW g mark n = [] := List.eq_nil_iff_forall_not_mem.2 fun u hu => by
   obtain ⟨_, _, p, hp, _⟩ := (hmem u).1 hu
   rw [hs] at hp
   cases hp
  rw [this]
  rfl
 ·rw [if_neg hs, Int.toNat_natCast]
  obtain ⟨q1, q2, q3⟩ := grow_spec hv h16 n (startF g mark n) hs (fun p hp => by
   obtain ⟨h1, h2, h3⟩ := mem_startF.1 hp
   refine ⟨h3, h1, ?_, ?_⟩
   ·rw [h2]; exact Int.natCast_nonneg _
   ·rw [h2])
  generalize growF (canP g.2.2 mark) (stepF mark) (leav g.2.2) g.1 n (startF g mark n) = u at q1 q2 q3
  have hu := (hmem u).2 ⟨q1, q2⟩
  cases hb : badsW g mark n with
  | nil => rw [hb] at hu; cases hu
  | cons v l =>
   have hv1 := (hmem v).1 (by rw [hb]; exact List.mem_cons_self ..)
   have e : u = v := by
    rw [hb] at hu hasc
    rcases List.mem_cons.1 hu with e | hu
    ·exact e
    ·exact absurd ((List.pairwise_cons.1 hasc).1 u hu) (q3 v hv1.1 hv1.2)
   subst e
   simp
end
end Go.AW
namespace Go.AW
open Go
set_option linter.unusedVariables false
set_option linter.unusedSimpArgs false
def MOk54 (g : Gr) (mark : List UInt8) : Prop := VG g ∧ g.1 ≤ 16 ∧ mark ≠ [] ∧ mark.length ≤ 32 ∧ ∀ c ∈ mark, c ∈ lets g
theorem check54_tot (g : Gr) (mark : List UInt8) : ∃ e, m_syncmark_check g mark = some e ∧ (e = 0 ↔ MOk54 g mark) := by
 unfold m_syncmark_check MOk54
 obtain ⟨e, he, hz⟩ := Check_tot g
 obtain ⟨f, hf, hy⟩ := wcheck g.1 mark
 rw [Check_ref, he, Option.bind_some]
 by_cases h0 : e = 0
 case neg =>
  rw [if_pos h0]
  exact ⟨1, rfl, ⟨fun h => absurd h (by decide), fun h => absurd (hz.2 h.1) h0⟩⟩
 have hv := hz.1 h0
 rw [if_neg (by omega)]
 by_cases h1 : 16 < g.1
 ·rw [if_pos h1]
  exact ⟨12, rfl, ⟨fun h => absurd h (by decide), fun h => by have := h.2.1; omega⟩⟩
 rw [if_neg h1]
 by_cases h2 : mark = []
 ·rw [if_pos h2]
  exact ⟨5, rfl, ⟨fun h => absurd h (by decide), fun h => absurd h2 h.2.2.1⟩⟩
 rw [if_neg h2]
 by_cases h3 : 32 < (mark.length : Int)
 ·rw [if_pos h3]
  exact ⟨4, rfl, ⟨fun h => absurd h (by decide), fun h => by have := h.2.2.2.1; omega⟩⟩
 rw [if_neg h3, hf]
 refine ⟨f, rfl, hy.trans ⟨fun h => ⟨hv, by omega, h2, by omega, h.2.2⟩, fun h => ⟨⟨hv.l1, by omega⟩, by omega, h.2.2.2.2⟩⟩⟩
theorem checkNumber54_tot (g : Gr) (mark : List UInt8) (n : Int) : ∃ e, m_syncmark_checkNumber g mark n = some e ∧ (e = 0 ↔ MOk54 g mark ∧ 0 ≤ n ∧ n ≤ 4096) ∧ (∀ f, m_syncmark_check g mark = some f → f ≠ 0 → e = f) ∧ (MOk54 g mark → e = if n < 0 ∨ 4096 < n then 2 else 0) := by
 obtain ⟨e, he, hz⟩ := check54_tot g mark
 unfold m_syncmark_checkNumber
 rw [he, Option.bind_some]
 by_cases h0 : e = 0
 case neg =>
  rw [if_pos h0]
  refine ⟨e, rfl, ⟨fun h => absurd h h0, fun h => absurd (hz.2 h.1) h0⟩, fun f hf _ => (Option.some.inj hf), fun h => absurd (hz.2 h) h0⟩
 rw [if_neg (by omega)]
 have hm := hz.1 h0
 simp only [jp]
 by_cases h1 : n < 0
 ·rw [if_pos h1, if_pos trivial]
  exact ⟨2, rfl, ⟨fun h => absurd h (by decide), fun h => by omega⟩, fun f hf h => absurd (Option.some.inj hf ▸ h0) h, fun _ => (if_pos (.inl h1)).symm⟩
 rw [if_neg h1]
 by_cases h2 : 4096 < n
 ·rw [if_pos (decide_eq_true h2)]
  exact ⟨2, rfl, ⟨fun h => absurd h (by decide), fun h => by omega⟩, fun f hf h => absurd (Option.some.inj hf ▸ h0) h, fun _ => (if_pos (.inr h2)).symm⟩
 ·rw [if_neg (by rw [decide_eq_true_eq]; exact h2)]
  exact ⟨0, rfl, ⟨fun _ => ⟨hm, by omega, by omega⟩, fun _ => rfl⟩, fun f hf h => absurd (Option.some.inj hf ▸ h0) h, fun _ => (if_neg (by omega)).symm⟩
theorem lets_sub (g : Gr) {c : UInt8} (h : c ∈ lets g) : c ∈ letters := List.mem_of_mem_take h
theorem bad_eq {g : Gr} {mark : List UInt8} (h : MOk54 g mark) {n : Nat} (hn : n ≤ 4096) : m_syncmark_bad g mark (n : Int) = some ((badsW g mark n).headD [], decide (badsW g mark n ≠ [])) := by
 obtain ⟨hv, h16, h1, h2, h3⟩ := h
 unfold m_syncmark_bad
 have hok : badOk g mark (n : Int) := by
  have := hv.l1
  have := hv.s0
  have := hv.s1
  refine ⟨⟨by omega, h16⟩, ⟨by omega, by omega⟩, hv.el, fun x hx => ?_, h1, by omega, fun c hc => lets_sub g (h3 c hc), by omega, by omega⟩
  obtain ⟨e1, e2, e3, e4, e5, e6⟩ := hv.ed x hx
  exact ⟨⟨e1, e2⟩, ⟨e5, e6⟩, e3, e4⟩
 rw [if_pos hok, badF_eq hv h16]
theorem Valid_eq {g : Gr} {mark : List UInt8} (h : MOk54 g mark) {n : Nat} (hn : n ≤ 4096) : m_syncmark_Valid g mark (n : Int) = some (decide (badsW g mark n = []), 0) := by
 obtain ⟨e, he, hz, _⟩ := checkNumber54_tot g mark n
 unfold m_syncmark_Valid
 rw [he, Option.bind_some, if_neg (by rw [hz.2 ⟨h, by omega, by omega⟩]; decide), bad_eq h hn, Option.bind_some]
 simp
theorem Bad_eq {g : Gr} {mark : List UInt8} (h : MOk54 g mark) {n : Nat} (hn : n ≤ 4096) : m_syncmark_Bad g mark (n : Int) = some ((badsW g mark n).headD [], decide (badsW g mark n ≠ []), 0) := by
 obtain ⟨e, he, hz, _⟩ := checkNumber54_tot g mark n
 unfold m_syncmark_Bad
 rw [he, Option.bind_some, if_neg (by rw [hz.2 ⟨h, by omega, by omega⟩]; decide), bad_eq h hn, Option.bind_some]
theorem Free_eq {g : Gr} {mark : List UInt8} (h : MOk54 g mark) : m_syncmark_Free g mark = some (!accB g mark, 0) := by
 obtain ⟨e, he, hz⟩ := check54_tot g mark
 unfold m_syncmark_Free
 rw [he, Option.bind_some, if_neg (by rw [hz.2 h]; decide), Accepts_eq h.1 h.2.1 (w := mark) ⟨by have := h.2.2.2.1; omega, h.2.2.2.2⟩, Option.bind_some]
 rfl
noncomputable def m_ref10_Great (p0 : TLabelsStatesEdges) : Option (Bool) :=
 jp (fun (a1 : Bool) =>
   some a1)
   fun k3 =>
  if 8 < p0.2.1 then
   if p0.2.1 ≤ 64 then
    k3 true
   else
    if 30 < ((p0.2.2).length : Int) then
     if ((p0.2.2).length : Int) ≤ 1024 then
      k3 true
     else
      k3 (decide (1027 < ((p0.2.2).length : Int)))
    else
     k3 (decide (1027 < ((p0.2.2).length : Int)))
  else
   if 30 < ((p0.2.2).length : Int) then
    if ((p0.2.2).length : Int) ≤ 1024 then
     k3 true
    else
     k3 (decide (1027 < ((p0.2.2).length : Int)))
   else
    k3 (decide (1027 < ((p0.2.2).length : Int)))
noncomputable def m_law54_great (p0 : TLabelsStatesEdges) : Option (Bool) :=
 jp (fun (a1 : Bool) =>
   some a1)
   fun k3 =>
  (m_ref10_Great p0).bind fun x4 =>
  if x4 = true then
   k3 true
  else
   if 3 < p0.1 then
    k3 (decide (p0.1 ≤ 16))
   else
    k3 false
noncomputable def m_law54_long (p0 : List UInt8) : Option (Bool) :=
 jp (fun (a1 : Bool) =>
   some a1)
   fun k3 =>
  if 6 < ((p0).length : Int) then
   if ((p0).length : Int) ≤ 32 then
    k3 true
   else
    k3 (decide (35 < ((p0).length : Int)))
  else
   k3 (decide (35 < ((p0).length : Int)))
theorem great54_tot (g : Gr) : ∃ b, m_law54_great g = some b ∧ (b = false → VG g → g.2.1 ≤ 8 ∧ g.2.2.length ≤ 30 ∧ (g.1 ≤ 16 → g.1 ≤ 3)) := by
 have h10 : ∃ b, m_ref10_Great g = some b ∧ (b = false → VG g → g.2.1 ≤ 8 ∧ g.2.2.length ≤ 30) := by
  unfold m_ref10_Great
  simp only [jp]
  by_cases h1 : 8 < g.2.1
  ·rw [if_pos h1]
   by_cases h2 : g.2.1 ≤ 64
   ·rw [if_pos h2]; exact ⟨true, rfl, by simp⟩
   ·rw [if_neg h2]
    have hno : ¬ VG g := fun hv => h2 hv.s1
    by_cases h3 : 30 < (g.2.2.length : Int)
    ·rw [if_pos h3]
     by_cases h4 : (g.2.2.length : Int) ≤ 1024
     ·rw [if_pos h4]; exact ⟨_, rfl, fun _ hv => absurd hv hno⟩
     ·rw [if_neg h4]; exact ⟨_, rfl, fun _ hv => absurd hv hno⟩
    ·rw [if_neg h3]; exact ⟨_, rfl, fun _ hv => absurd hv hno⟩
  ·rw [if_neg h1]
   by_cases h3 : 30 < (g.2.2.length : Int)
   ·rw [if_pos h3]
    by_cases h4 : (g.2.2.length : Int) ≤ 1024
    ·rw [if_pos h4]; exact ⟨true, rfl, by simp⟩
    ·rw [if_neg h4]; exact ⟨_, rfl, fun _ hv => absurd hv.el (by omega)⟩
   ·rw [if_neg h3]; exact ⟨_, rfl, fun _ _ => by omega⟩
 obtain ⟨b, hb, hb2⟩ := h10
 unfold m_law54_great
 simp only [jp, hb, Option.bind_some]
 cases b with
 | true => rw [if_pos rfl]; exact ⟨true, rfl, by simp⟩
 | false =>
  rw [if_neg Bool.false_ne_true]
  by_cases h3 : 3 < g.1
  ·rw [if_pos h3]
   exact ⟨_, rfl, fun h hv => ⟨(hb2 rfl hv).1, (hb2 rfl hv).2, fun h16 => absurd h16 (of_decide_eq_false h)⟩⟩
  ·rw [if_neg h3]
   exact ⟨_, rfl, fun h hv => ⟨(hb2 rfl hv).1, (hb2 rfl hv).2, fun _ => by omega⟩⟩
def ovB (mark : List UInt8) (n : Nat) : List Int := ((List.range n).filter fun k => decide (1 ≤ k) && (mark.take k).isSuffixOf mark).map Int.ofNat
def ovL (mark : List UInt8) : List Int := ovB mark (mark.length - 1 + 1)
theorem ovB_succ (mark : List UInt8) {k : Nat} (hk : 1 ≤ k) : ovB mark (k + 1) = ovB mark k ++ if (mark.take k).isSuffixOf mark = true then [(k : Int)] else [] := by
 unfold ovB
 rw [List.range_succ, List.filter_append, List.map_append]
 congr 1
 rw [List.filter_cons, decide_eq_true hk, Bool.true_and]
 split <;> rfl
theorem ovB_len (mark : List UInt8) (n : Nat) : (ovB mark n).length ≤ n := by
 unfold ovB
 rw [List.length_map]
 have := List.length_filter_le (fun k => decide (1 ≤ k) && (mark.take k).isSuffixOf mark) (List.range n)
 rw [List.length_range] at this
 exact this
theorem ovL_len (mark : List UInt8) : (ovL mark).length ≤ mark.length + 1 := by
 have := ovB_len mark (mark.length - 1 + 1)
 unfold ovL
 omega
theorem Overlaps_eq {mark : List UInt8} (hm : mark.length ≤ 1000000) : m_syncmark_Overlaps mark = some (ovL mark) := by
  unfold m_syncmark_Overlaps
  refine bindL (loop_is (fun i => (((i + 1 : Nat) : Int), ovB mark (i + 1))) (mark.length - 1) (ovL mark) (fun i hi => ?_) ?_ rfl) rfl
  · dsimp only
    rw [if_pos (by omega)]
    simp only [jp]
    rw [if_pos ⟨Int.le_refl _, by omega, by omega⟩, HasSuffix_eq (by omega), Option.bind_some, Int.toNat_natCast, nx (n := 1000001) (by omega) (by omega), ovB_succ mark (k := i + 1) (by omega)]
    have hb := ovB_len mark (i + 1)
    rw [show ((mark.take (i + 1)).drop (0 : Int).toNat) = mark.take (i + 1) from rfl]
    by_cases h : (mark.take (i + 1)).isSuffixOf mark = true
    · rw [if_pos h, if_pos h, if_pos ⟨by simp; omega, by simp; have : 2000000 ≤ maxLen := by decide
                                                         omega⟩]
    · rw [if_neg h, if_neg h, List.append_nil]
  · dsimp only
    rw [if_neg (by omega)]
    rfl
theorem occL_len (w u : List UInt8) : (occL w u).length ≤ w.length + 1 := by
 unfold occL occB
 rw [List.length_map]
 have := List.length_filter_le (fun i => u.isPrefixOf (w.drop i)) (List.range (w.length + 1))
 rw [List.length_range] at this
 exact this
theorem Find_eq {w u : List UInt8} (hw : w.length ≤ 1000000) (hu : u.length ≤ 1000000) : m_word_Find w u = some (occL w u) := by
  unfold m_word_Find y_word_occurrences
  rw [if_pos ⟨by omega, by omega⟩, Option.bind_some]
  have hl := occL_len w u
  have hgen : ∀ (L acc : List Int), acc.length + L.length ≤ 1000001 → forL (S := (List Int)) (X := Unit) (fun a5 (x7 : Int) =>
     if fits 8 ((a5 : List Int).length + ([x7]).length) then
      some (Stp.next (a5 ++ [x7]))
     else none) L acc = some (.go (acc ++ L)) := by
    intro L
    induction L with
    | nil => intro acc _; rw [List.append_nil]; rfl
    | cons x L ih =>
      intro acc h
      rw [List.length_cons] at h
      unfold forL
      rw [if_pos ⟨by simp; omega, by simp; have : 2000000 ≤ maxLen := by decide
                                     omega⟩]
      dsimp only
      rw [ih (acc ++ [x]) (by rw [List.length_append, List.length_singleton]; omega), List.append_assoc]
      rfl
  rw [hgen (occL w u) [] (by rw [List.length_nil]; omega), List.nil_append]
  rfl
theorem Occurs_eq {w u : List UInt8} (hw : w.length ≤ 1000000) (hu : u.length ≤ 1000000) : m_syncmark_Occurs u w = some (occL w u) := by
 unfold m_syncmark_Occurs
 rw [Find_eq hw hu]
 rfl
def gEx54 : Gr := (2, 2, [(0, 0, 0), (0, 1, 1), (1, 0, 0)])
theorem gEx54_ok : VG gEx54 where
 l1 := by decide
 l2 := by decide
 s0 := by decide
 s1 := by decide
 el := by decide
 ed := by decide
 ord := fun i h => match i, h with
  | 0, _ => by show cmp3 ((0, 0, 0) : Int × Int × Int) (0, 1, 1) < 0; decide
  | 1, _ => by show cmp3 ((0, 1, 1) : Int × Int × Int) (1, 0, 0) < 0; decide
  | n + 2, h => absurd h (by show ¬ n + 2 + 1 < 3; omega)
theorem mEx54_ok {mark : List UInt8} (h1 : mark ≠ []) (h2 : mark.length ≤ 32) (h3 : ∀ c ∈ mark, c ∈ lets gEx54) : MOk54 gEx54 mark := ⟨gEx54_ok, by decide, h1, h2, h3⟩
theorem awake54_eq : m_law54_awakeG = some true := by
 unfold m_law54_awakeG
 have v1 := Valid_eq (mEx54_ok (mark := [49, 49]) (by decide) (by decide) (by decide)) (n := 1) (by decide)
 have v2 := Bad_eq (mEx54_ok (mark := [49, 49]) (by decide) (by decide) (by decide)) (n := 1) (by decide)
 have v3 := Valid_eq (mEx54_ok (mark := [49, 49, 48]) (by decide) (by decide) (by decide)) (n := 1) (by decide)
 have v4 := Free_eq (mEx54_ok (mark := [49, 49, 48]) (by decide) (by decide) (by decide))
 have b1 : badsW gEx54 [49, 49] 1 = [[49]] := by decide +kernel
 have b2 : badsW gEx54 [49, 49, 48] 1 = [] := by decide +kernel
 have b3 : accB gEx54 [49, 49, 48] = false := by decide +kernel
 rw [b1] at v1 v2
 rw [b2] at v3
 rw [b3] at v4
 rw [show m_syncmark_Valid (2, 2, [(0, 0, 0), (0, 1, 1), (1, 0, 0)]) [49, 49] 1 = some (false, 0) from v1, show m_syncmark_Bad (2, 2, [(0, 0, 0), (0, 1, 1), (1, 0, 0)]) [49, 49] 1 = some ([49], true, 0) from v2, show m_syncmark_Valid (2, 2, [(0, 0, 0), (0, 1, 1), (1, 0, 0)]) [49, 49, 48] 1 = some (true, 0) from v3, show m_syncmark_Free (2, 2, [(0, 0, 0), (0, 1, 1), (1, 0, 0)]) [49, 49, 48] = some (true, 0) from v4]
 rw [Overlaps_eq (by decide), Occurs_eq (by decide) (by decide), show ovL [48, 49, 49, 48] = [1] by decide +kernel, show occL [49, 49, 49, 49, 49] [49, 49] = [0, 1, 2, 3] by decide +kernel]
 simp only [jp, Option.bind_some]
 rw [EqI_eq (by decide), EqI_eq (by decide)]
 rfl
end Go.AW
namespace Go.AW
open Go Go.Proofs
theorem w_law54_awake {r : Bool} (h : m_law54_awake = some r) : Pure Try.prog 9 [] (· = HV.bool r) := by
 cases h
 exact w_law54_awakeG awake54_eq
end Go.AW
namespace Go.AW
open Go
set_option linter.unusedVariables false
noncomputable def m_ref54_check (p0 : TLabelsStatesEdges) (p1 : List UInt8) : Option (Int) :=
 (m_ref09_Check p0).bind fun x1 =>
 if x1 ≠ 0 then
  some 1
 else
  if 16 < p0.1 then
   some 12
  else
   if p1 = ([] : List UInt8) then
    some 5
   else
    if 32 < ((p1).length : Int) then
     some 4
    else
     (m_ref07_Check p0.1 p1).bind fun x3 =>
     some x3
noncomputable def m_ref54_follow (p0 : List UInt8) (p1 : Int) (p2 : Int) : Option (Int) :=
 if 0 ≤ (0 : Int) ∧ (0 : Int) ≤ p1 ∧ p1 ≤ (p0.length : Int) then
  if ((p0.take (p1).toNat).drop (0 : Int).toNat).length + ([p2].map fun (n : Int) => UInt8.ofNat n.toNat).length ≤ maxLen then
   lpO (loopW (S := Int) (X := Ou (Unit) (Int)) (fun a3 =>
       if 0 < a3 then
        jp (fun (a7 : Bool) =>
          if a7 = true then
           some (Stp.exit (Ou.ret a3))
          else
           some (Stp.next (IntKind.wrap .i64 (a3 - 1))))
          fun k9 =>
         if a3 ≤ ((((p0.take (p1).toNat).drop (0 : Int).toNat) ++ ([p2].map fun (n : Int) => UInt8.ofNat n.toNat)).length : Int) then
          if 0 ≤ (IntKind.wrap .i64 (((((p0.take (p1).toNat).drop (0 : Int).toNat) ++ ([p2].map fun (n : Int) => UInt8.ofNat n.toNat)).length : Int) - a3) : Int) ∧ (IntKind.wrap .i64 (((((p0.take (p1).toNat).drop (0 : Int).toNat) ++ ([p2].map fun (n : Int) => UInt8.ofNat n.toNat)).length : Int) - a3) : Int) ≤ ((((p0.take (p1).toNat).drop (0 : Int).toNat) ++ ([p2].map fun (n : Int) => UInt8.ofNat n.toNat)).length : Int) ∧ ((((p0.take (p1).toNat).drop (0 : Int).toNat) ++ ([p2].map fun (n : Int) => UInt8.ofNat n.toNat)).length : Int) ≤ ((((p0.take (p1).toNat).drop (0 : Int).toNat) ++ ([p2].map fun (n : Int) => UInt8.ofNat n.toNat)).length : Int) then
           if 0 ≤ (0 : Int) ∧ (0 : Int) ≤ a3 ∧ a3 ≤ (p0.length : Int) then
            k9 (decide ((((((p0.take (p1).toNat).drop (0 : Int).toNat) ++ ([p2].map fun (n : Int) => UInt8.ofNat n.toNat)).take (((((p0.take (p1).toNat).drop (0 : Int).toNat) ++ ([p2].map fun (n : Int) => UInt8.ofNat n.toNat)).length : Int)).toNat).drop (IntKind.wrap .i64 (((((p0.take (p1).toNat).drop (0 : Int).toNat) ++ ([p2].map fun (n : Int) => UInt8.ofNat n.toNat)).length : Int) - a3)).toNat) = ((p0.take (a3).toNat).drop (0 : Int).toNat)))
           else none
          else none
         else
          k9 false
       else
        some (Stp.exit (Ou.go ()))) ((p0).length : Int)) (fun a13 =>
       some 0) some
  else none
 else none
noncomputable def m_ref54_tables (p0 : List UInt8) (p1 : Int) : Option ((List (List (Int))) × (List (Bool))) :=
 (loopW (S := Int × (List (List (Int))) × (List Bool)) (X := (List (List (Int))) × (List Bool)) (fun a3 =>
     if a3.1 ≤ ((p0).length : Int) then
      (loopW (S := Int × (List Int)) (X := (List Int)) (fun a8 =>
          if a8.1 < p1 then
           (idx ([48, 49, 50, 51, 52, 53, 54, 55, 56, 57, 97, 98, 99, 100, 101, 102] : List UInt8) a8.1).bind fun x12 =>
           (m_ref54_follow p0 a3.1 (x12.toNat : Int)).bind fun x14 =>
           if fits 8 ((a8.2 : List Int).length + ([x14]).length) then
            some (Stp.next (IntKind.wrap .i64 (a8.1 + 1), a8.2 ++ [x14]))
           else none
          else
           some (Stp.exit a8.2)) (0, [])).bind fun a18 =>
      if fits 24 ((a3.2.1 : List (List (Int))).length + ([a18]).length) then
       (loopW (S := Bool × Int × Int) (X := Bool) (fun a22 =>
           if (IntKind.wrap .i64 (a22.2.2 + 1)) < ((p0).length : Int) then
            jp (fun (a26 : Bool × Int) =>
              some (Stp.next (a26.1, a26.2, IntKind.wrap .i64 (a22.2.2 + 1))))
              fun k28 =>
             (idx p0 a22.2.2).bind fun x29 =>
             (m_ref54_follow p0 a22.2.1 (x29.toNat : Int)).bind fun x31 =>
             if a22.1 = true then
              k28 (true, x31)
             else
              k28 (decide (x31 = ((p0).length : Int)), x31)
           else
            some (Stp.exit a22.1)) (false, a3.1, 0)).bind fun a34 =>
       if fits 1 ((a3.2.2 : List Bool).length + ([a34]).length) then
        some (Stp.next (IntKind.wrap .i64 (a3.1 + 1), a3.2.1 ++ [a18], a3.2.2 ++ [a34]))
       else none
      else none
     else
      some (Stp.exit (a3.2.1, a3.2.2))) (0, [], [])).bind fun a38 =>
 some (a38.1, a38.2)
noncomputable def m_ref54_can (p0 : TLabelsStatesEdges) (p1 : List UInt8) (p2 : Int) : Option ((List (List (Bool)))) :=
 (m_ref54_tables p1 p0.1).bind fun x1 =>
 if 0 ≤ (IntKind.wrap .i64 ((IntKind.wrap .i64 (p0.2.1 * (IntKind.wrap .i64 (((p1).length : Int) + 1)))) * 2) : Int) ∧ (IntKind.wrap .i64 ((IntKind.wrap .i64 (p0.2.1 * (IntKind.wrap .i64 (((p1).length : Int) + 1)))) * 2) : Int) ≤ IntKind.wrap .i64 ((IntKind.wrap .i64 (p0.2.1 * (IntKind.wrap .i64 (((p1).length : Int) + 1)))) * 2) ∧ (IntKind.wrap .i64 ((IntKind.wrap .i64 (p0.2.1 * (IntKind.wrap .i64 (((p1).length : Int) + 1)))) * 2) : Int) * 1 ≤ 281474976710656 then
  (loopW (S := Int × (List Bool)) (X := (List Bool)) (fun a5 =>
      if a5.1 < p0.2.1 then
       (loopW (S := Int × (List Bool)) (X := (List Bool)) (fun a9 =>
           if a9.1 ≤ ((p1).length : Int) then
            (idx x1.2 a9.1).bind fun x13 =>
            (idx a9.2 (IntKind.wrap .i64 ((IntKind.wrap .i64 ((IntKind.wrap .i64 (a5.1 * (IntKind.wrap .i64 (((p1).length : Int) + 1)))) + a9.1)) * 2))).bind fun x15 =>
            (idx ((a9.2).set (IntKind.wrap .i64 ((IntKind.wrap .i64 ((IntKind.wrap .i64 (a5.1 * (IntKind.wrap .i64 (((p1).length : Int) + 1)))) + a9.1)) * 2)).toNat x13) (IntKind.wrap .i64 ((IntKind.wrap .i64 ((IntKind.wrap .i64 ((IntKind.wrap .i64 (a5.1 * (IntKind.wrap .i64 (((p1).length : Int) + 1)))) + a9.1)) * 2)) + 1))).bind fun x17 =>
            some (Stp.next (IntKind.wrap .i64 (a9.1 + 1), ((a9.2).set (IntKind.wrap .i64 ((IntKind.wrap .i64 ((IntKind.wrap .i64 (a5.1 * (IntKind.wrap .i64 (((p1).length : Int) + 1)))) + a9.1)) * 2)).toNat x13).set (IntKind.wrap .i64 ((IntKind.wrap .i64 ((IntKind.wrap .i64 ((IntKind.wrap .i64 (a5.1 * (IntKind.wrap .i64 (((p1).length : Int) + 1)))) + a9.1)) * 2)) + 1)).toNat true))
           else
            some (Stp.exit a9.2)) (0, a5.2)).bind fun a19 =>
       some (Stp.next (IntKind.wrap .i64 (a5.1 + 1), a19))
      else
       some (Stp.exit a5.2)) (0, List.replicate (IntKind.wrap .i64 ((IntKind.wrap .i64 (p0.2.1 * (IntKind.wrap .i64 (((p1).length : Int) + 1)))) * 2)).toNat (false : Bool))).bind fun a21 =>
  (loopW (S := Int × (List (List (Bool)))) (X := (List (List (Bool)))) (fun a24 =>
      if a24.1 < p2 then
       if 0 ≤ (IntKind.wrap .i64 ((IntKind.wrap .i64 (p0.2.1 * (IntKind.wrap .i64 (((p1).length : Int) + 1)))) * 2) : Int) ∧ (IntKind.wrap .i64 ((IntKind.wrap .i64 (p0.2.1 * (IntKind.wrap .i64 (((p1).length : Int) + 1)))) * 2) : Int) ≤ IntKind.wrap .i64 ((IntKind.wrap .i64 (p0.2.1 * (IntKind.wrap .i64 (((p1).length : Int) + 1)))) * 2) ∧ (IntKind.wrap .i64 ((IntKind.wrap .i64 (p0.2.1 * (IntKind.wrap .i64 (((p1).length : Int) + 1)))) * 2) : Int) * 1 ≤ 281474976710656 then
        (loopW (S := Int × (List Bool)) (X := (List Bool)) (fun a30 =>
            if a30.1 < ((p0.2.2).length : Int) then
             (idx p0.2.2 a30.1).bind fun x34 =>
             (loopW (S := Int × (List Bool)) (X := (List Bool)) (fun a37 =>
                 if a37.1 ≤ ((p1).length : Int) then
                  (idx x1.1 a37.1).bind fun x41 =>
                  (idx x41 x34.2.1).bind fun x43 =>
                  (loopW (S := Int × (List Bool)) (X := (List Bool)) (fun a45 =>
                      if a45.1 < 2 then
                       jp (fun (a49 : (List Bool)) =>
                         some (Stp.next (IntKind.wrap .i64 (a45.1 + 1), a49)))
                         fun k51 =>
                        jp (fun (a52 : Int) =>
                          (idx a24.2 a24.1).bind fun x55 =>
                          (idx a24.2 a24.1).bind fun x57 =>
                          (idx x57 (IntKind.wrap .i64 ((IntKind.wrap .i64 ((IntKind.wrap .i64 ((IntKind.wrap .i64 (x34.2.2 * (IntKind.wrap .i64 (((p1).length : Int) + 1)))) + x43)) * 2)) + a52))).bind fun x59 =>
                          if x59 = true then
                           (idx a45.2 (IntKind.wrap .i64 ((IntKind.wrap .i64 ((IntKind.wrap .i64 ((IntKind.wrap .i64 (x34.1 * (IntKind.wrap .i64 (((p1).length : Int) + 1)))) + a37.1)) * 2)) + a45.1))).bind fun x61 =>
                           k51 ((a45.2).set (IntKind.wrap .i64 ((IntKind.wrap .i64 ((IntKind.wrap .i64 ((IntKind.wrap .i64 (x34.1 * (IntKind.wrap .i64 (((p1).length : Int) + 1)))) + a37.1)) * 2)) + a45.1)).toNat true)
                          else
                           k51 a45.2)
                          fun k54 =>
                         if x43 = ((p1).length : Int) then
                          k54 1
                         else
                          k54 a45.1
                      else
                       some (Stp.exit a45.2)) (0, a37.2)).bind fun a63 =>
                  some (Stp.next (IntKind.wrap .i64 (a37.1 + 1), a63))
                 else
                  some (Stp.exit a37.2)) (0, a30.2)).bind fun a65 =>
             some (Stp.next (IntKind.wrap .i64 (a30.1 + 1), a65))
            else
             some (Stp.exit a30.2)) (0, List.replicate (IntKind.wrap .i64 ((IntKind.wrap .i64 (p0.2.1 * (IntKind.wrap .i64 (((p1).length : Int) + 1)))) * 2)).toNat (false : Bool))).bind fun a67 =>
        if fits 24 ((a24.2 : List (List (Bool))).length + ([a67]).length) then
         some (Stp.next (IntKind.wrap .i64 (a24.1 + 1), a24.2 ++ [a67]))
        else none
       else none
      else
       some (Stp.exit a24.2)) (0, [a21])).bind fun a71 =>
  some a71
 else none
noncomputable def m_ref54_Valid (p0 : TLabelsStatesEdges) (p1 : List UInt8) (p2 : Int) : Option (Bool × Int) :=
 (m_ref54_check p0 p1).bind fun x1 =>
 if x1 ≠ 0 then
  some (false, x1)
 else
  jp (fun (a3 : Bool) =>
    if a3 = true then
     some (false, 2)
    else
     (m_ref54_can p0 p1 p2).bind fun x6 =>
     lpO (loopW (S := Int) (X := Ou (Unit) (Bool × Int)) (fun a8 =>
         if a8 < p0.2.1 then
          (idx x6 p2).bind fun x12 =>
          (idx x12 (IntKind.wrap .i64 ((IntKind.wrap .i64 ((IntKind.wrap .i64 (a8 * (IntKind.wrap .i64 (((p1).length : Int) + 1)))) + ((p1).length : Int))) * 2))).bind fun x14 =>
          if x14 = true then
           some (Stp.exit (Ou.ret (false, 0)))
          else
           some (Stp.next (IntKind.wrap .i64 (a8 + 1)))
         else
          some (Stp.exit (Ou.go ()))) 0) (fun a16 =>
         some (true, 0)) some)
    fun k5 =>
   if p2 < 0 then
    k5 true
   else
    k5 (decide (4096 < p2))
noncomputable def m_ref54_Bad (p0 : TLabelsStatesEdges) (p1 : List UInt8) (p2 : Int) : Option ((List UInt8) × Bool × Int) :=
 (m_ref54_check p0 p1).bind fun x1 =>
 if x1 ≠ 0 then
  some (([] : List UInt8), false, x1)
 else
  jp (fun (a3 : Bool) =>
    if a3 = true then
     some (([] : List UInt8), false, 2)
    else
     (m_ref54_tables p1 p0.1).bind fun x6 =>
     (m_ref54_can p0 p1 p2).bind fun x8 =>
     if 0 ≤ (IntKind.wrap .i64 ((IntKind.wrap .i64 (p0.2.1 * (IntKind.wrap .i64 (((p1).length : Int) + 1)))) * 2) : Int) ∧ (IntKind.wrap .i64 ((IntKind.wrap .i64 (p0.2.1 * (IntKind.wrap .i64 (((p1).length : Int) + 1)))) * 2) : Int) ≤ IntKind.wrap .i64 ((IntKind.wrap .i64 (p0.2.1 * (IntKind.wrap .i64 (((p1).length : Int) + 1)))) * 2) ∧ (IntKind.wrap .i64 ((IntKind.wrap .i64 (p0.2.1 * (IntKind.wrap .i64 (((p1).length : Int) + 1)))) * 2) : Int) * 1 ≤ 281474976710656 then
      (loopW (S := Bool × Int × (List Bool)) (X := (List Bool) × Bool) (fun a12 =>
          if a12.2.1 < p0.2.1 then
           jp (fun (a16 : Bool × (List Bool)) =>
             some (Stp.next (a16.1, IntKind.wrap .i64 (a12.2.1 + 1), a16.2)))
             fun k18 =>
            (idx x8 p2).bind fun x19 =>
            (idx x19 (IntKind.wrap .i64 ((IntKind.wrap .i64 ((IntKind.wrap .i64 (a12.2.1 * (IntKind.wrap .i64 (((p1).length : Int) + 1)))) + ((p1).length : Int))) * 2))).bind fun x21 =>
            (idx a12.2.2 (IntKind.wrap .i64 ((IntKind.wrap .i64 ((IntKind.wrap .i64 (a12.2.1 * (IntKind.wrap .i64 (((p1).length : Int) + 1)))) + ((p1).length : Int))) * 2))).bind fun x23 =>
            if a12.1 = true then
             k18 (true, (a12.2.2).set (IntKind.wrap .i64 ((IntKind.wrap .i64 ((IntKind.wrap .i64 (a12.2.1 * (IntKind.wrap .i64 (((p1).length : Int) + 1)))) + ((p1).length : Int))) * 2)).toNat x21)
            else
             (idx ((a12.2.2).set (IntKind.wrap .i64 ((IntKind.wrap .i64 ((IntKind.wrap .i64 (a12.2.1 * (IntKind.wrap .i64 (((p1).length : Int) + 1)))) + ((p1).length : Int))) * 2)).toNat x21) (IntKind.wrap .i64 ((IntKind.wrap .i64 ((IntKind.wrap .i64 (a12.2.1 * (IntKind.wrap .i64 (((p1).length : Int) + 1)))) + ((p1).length : Int))) * 2))).bind fun x25 =>
             (idx ((a12.2.2).set (IntKind.wrap .i64 ((IntKind.wrap .i64 ((IntKind.wrap .i64 (a12.2.1 * (IntKind.wrap .i64 (((p1).length : Int) + 1)))) + ((p1).length : Int))) * 2)).toNat x21) (IntKind.wrap .i64 ((IntKind.wrap .i64 ((IntKind.wrap .i64 (a12.2.1 * (IntKind.wrap .i64 (((p1).length : Int) + 1)))) + ((p1).length : Int))) * 2))).bind fun x27 =>
             k18 (x27, (a12.2.2).set (IntKind.wrap .i64 ((IntKind.wrap .i64 ((IntKind.wrap .i64 (a12.2.1 * (IntKind.wrap .i64 (((p1).length : Int) + 1)))) + ((p1).length : Int))) * 2)).toNat x21)
          else
           some (Stp.exit (a12.2.2, a12.1))) (false, 0, List.replicate (IntKind.wrap .i64 ((IntKind.wrap .i64 (p0.2.1 * (IntKind.wrap .i64 (((p1).length : Int) + 1)))) * 2)).toNat (false : Bool))).bind fun a30 =>
      if (!a30.2) = true then
       some (([] : List UInt8), false, 0)
      else
       (loopW (S := (List Bool) × Int × (List Int)) (X := (List Int)) (fun a33 =>
           if 0 ≤ a33.2.1 then
            (loopW (S := Int) (X := (List Bool) × (List Int)) (fun a37 =>
                if a37 < p0.1 then
                 if 0 ≤ (((a33.1).length : Int) : Int) ∧ (((a33.1).length : Int) : Int) ≤ ((a33.1).length : Int) ∧ (((a33.1).length : Int) : Int) * 1 ≤ 281474976710656 then
                  (loopW (S := Bool × Int × (List Bool)) (X := (List Bool) × Bool) (fun a43 =>
                      if a43.2.1 < ((p0.2.2).length : Int) then
                       (idx p0.2.2 a43.2.1).bind fun x47 =>
                       (loopW (S := Bool × Int × (List Bool)) (X := (List Bool) × Bool) (fun a50 =>
                           jp (fun (a54 : Bool) =>
                             if a54 = true then
                              (loopW (S := Bool × Int × (List Bool)) (X := (List Bool) × Bool) (fun a57 =>
                                  if a57.2.1 < 2 then
                                   jp (fun (a61 : Bool × (List Bool)) =>
                                     some (Stp.next (a61.1, IntKind.wrap .i64 (a57.2.1 + 1), a61.2)))
                                     fun k63 =>
                                    (idx x6.1 a50.2.1).bind fun x64 =>
                                    (idx x64 a37).bind fun x66 =>
                                    jp (fun (a68 : Int) =>
                                      jp (fun (a71 : Bool) =>
                                        if a71 = true then
                                         (idx a57.2.2 (IntKind.wrap .i64 ((IntKind.wrap .i64 ((IntKind.wrap .i64 ((IntKind.wrap .i64 (x47.2.2 * (IntKind.wrap .i64 (((p1).length : Int) + 1)))) + x66)) * 2)) + a68))).bind fun x74 =>
                                         k63 (true, (a57.2.2).set (IntKind.wrap .i64 ((IntKind.wrap .i64 ((IntKind.wrap .i64 ((IntKind.wrap .i64 (x47.2.2 * (IntKind.wrap .i64 (((p1).length : Int) + 1)))) + x66)) * 2)) + a68)).toNat true)
                                        else
                                         k63 (a57.1, a57.2.2))
                                        fun k73 =>
                                       (idx a33.1 (IntKind.wrap .i64 ((IntKind.wrap .i64 ((IntKind.wrap .i64 ((IntKind.wrap .i64 (x47.1 * (IntKind.wrap .i64 (((p1).length : Int) + 1)))) + a50.2.1)) * 2)) + a57.2.1))).bind fun x76 =>
                                       if x76 = true then
                                        (idx x8 a33.2.1).bind fun x78 =>
                                        (idx x78 (IntKind.wrap .i64 ((IntKind.wrap .i64 ((IntKind.wrap .i64 ((IntKind.wrap .i64 (x47.2.2 * (IntKind.wrap .i64 (((p1).length : Int) + 1)))) + x66)) * 2)) + a68))).bind fun x80 =>
                                        k73 x80
                                       else
                                        k73 false)
                                      fun k70 =>
                                     if x66 = ((p1).length : Int) then
                                      k70 1
                                     else
                                      k70 a57.2.1
                                  else
                                   some (Stp.exit (a57.2.2, a57.1))) (a50.1, 0, a50.2.2)).bind fun a83 =>
                              some (Stp.next (a83.2, IntKind.wrap .i64 (a50.2.1 + 1), a83.1))
                             else
                              some (Stp.exit (a50.2.2, a50.1)))
                             fun k56 =>
                            if a50.2.1 ≤ ((p1).length : Int) then
                             k56 (decide (x47.2.1 = a37))
                            else
                             k56 false) (a43.1, 0, a43.2.2)).bind fun a86 =>
                       some (Stp.next (a86.2, IntKind.wrap .i64 (a43.2.1 + 1), a86.1))
                      else
                       some (Stp.exit (a43.2.2, a43.1))) (false, 0, List.replicate (((a33.1).length : Int)).toNat (false : Bool))).bind fun a88 =>
                  if a88.2 = true then
                   (idx ([48, 49, 50, 51, 52, 53, 54, 55, 56, 57, 97, 98, 99, 100, 101, 102] : List UInt8) a37).bind fun x90 =>
                   if fits 1 ((a33.2.2 : List Int).length + ([(x90.toNat : Int)]).length) then
                    some (Stp.exit (a88.1, a33.2.2 ++ [(x90.toNat : Int)]))
                   else none
                  else
                   some (Stp.next (IntKind.wrap .i64 (a37 + 1)))
                 else none
                else
                 some (Stp.exit (a33.1, a33.2.2))) 0).bind fun a94 =>
            some (Stp.next (a94.1, IntKind.wrap .i64 (a33.2.1 - 1), a94.2))
           else
            some (Stp.exit a33.2.2)) (a30.1, IntKind.wrap .i64 (p2 - 1), [])).bind fun a96 =>
       some (a96.map fun (n : Int) => UInt8.ofNat n.toNat, true, 0)
     else none)
    fun k5 =>
   if p2 < 0 then
    k5 true
   else
    k5 (decide (4096 < p2))
noncomputable def m_ref54_Free (p0 : TLabelsStatesEdges) (p1 : List UInt8) : Option (Bool × Int) :=
 (m_ref54_check p0 p1).bind fun x1 =>
 if x1 ≠ 0 then
  some (false, x1)
 else
  (m_ref11_Accepts p0 p1).bind fun x3 =>
  jp (fun (a5 : Bool) =>
    some (a5, x3.2))
    fun k7 =>
   if x3.2 = 0 then
    k7 (!x3.1)
   else
    k7 false
noncomputable def m_ref07_Find (p0 : List UInt8) (p1 : List UInt8) : Option ((List (Int))) :=
 (loopW (S := Int × (List Int)) (X := (List Int)) (fun a2 =>
     if (IntKind.wrap .i64 (a2.1 + ((p1).length : Int))) ≤ ((p0).length : Int) then
      jp (fun (a6 : (List Int)) =>
        some (Stp.next (IntKind.wrap .i64 (a2.1 + 1), a6)))
        fun k8 =>
       if 0 ≤ (a2.1 : Int) ∧ (a2.1 : Int) ≤ IntKind.wrap .i64 (a2.1 + ((p1).length : Int)) ∧ IntKind.wrap .i64 (a2.1 + ((p1).length : Int)) ≤ (p0.length : Int) then
        if ((p0.take (IntKind.wrap .i64 (a2.1 + ((p1).length : Int))).toNat).drop (a2.1).toNat) = p1 then
         if fits 8 ((a2.2 : List Int).length + ([a2.1]).length) then
          k8 (a2.2 ++ [a2.1])
         else none
        else
         k8 a2.2
       else none
     else
      some (Stp.exit a2.2)) (0, [])).bind fun a12 =>
 some a12
noncomputable def m_ref54_Occurs (p0 : List UInt8) (p1 : List UInt8) : Option ((List (Int))) :=
 (m_ref07_Find p1 p0).bind fun x1 =>
 some x1
noncomputable def m_ref54_Overlaps (p0 : List UInt8) : Option ((List (Int))) :=
 (loopW (S := Int × (List Int)) (X := (List Int)) (fun a2 =>
     if a2.1 < ((p0).length : Int) then
      jp (fun (a6 : (List Int)) =>
        some (Stp.next (IntKind.wrap .i64 (a2.1 + 1), a6)))
        fun k8 =>
       if 0 ≤ (0 : Int) ∧ (0 : Int) ≤ a2.1 ∧ a2.1 ≤ (p0.length : Int) then
        if 0 ≤ (IntKind.wrap .i64 (((p0).length : Int) - a2.1) : Int) ∧ (IntKind.wrap .i64 (((p0).length : Int) - a2.1) : Int) ≤ ((p0).length : Int) ∧ ((p0).length : Int) ≤ (p0.length : Int) then
         if ((p0.take (a2.1).toNat).drop (0 : Int).toNat) = ((p0.take (((p0).length : Int)).toNat).drop (IntKind.wrap .i64 (((p0).length : Int) - a2.1)).toNat) then
          if fits 8 ((a2.2 : List Int).length + ([a2.1]).length) then
           k8 (a2.2 ++ [a2.1])
          else none
         else
          k8 a2.2
        else none
       else none
     else
      some (Stp.exit a2.2)) (1, [])).bind fun a13 =>
 some a13
noncomputable def m_law54_SyncmarkChecks (p0 : TLabelsStatesEdges) (p1 : List UInt8) (p2 : Int) (p3 : List UInt8) : Option (Bool) :=
 jp (fun (a1 : Bool) =>
   if a1 = true then
    (m_law54_awake).bind fun x4 =>
    some x4
   else
    (m_syncmark_Valid p0 p1 p2).bind fun x6 =>
    (m_ref54_Valid p0 p1 p2).bind fun x8 =>
    (m_syncmark_Bad p0 p1 p2).bind fun x10 =>
    (m_ref54_Bad p0 p1 p2).bind fun x12 =>
    (m_syncmark_Free p0 p1).bind fun x14 =>
    (m_ref54_Free p0 p1).bind fun x16 =>
    jp (fun (a18 : Bool) =>
      some a18)
      fun k20 =>
     if (x6.1 == x8.1) = true then
      if x6.2 = x8.2 then
       if x10.1 = x12.1 then
        if (x10.2.1 == x12.2.1) = true then
         if x10.2.2 = x12.2.2 then
          if (x14.1 == x16.1) = true then
           if x14.2 = x16.2 then
            (m_syncmark_Occurs p1 p3).bind fun x21 =>
            (m_ref54_Occurs p1 p3).bind fun x23 =>
            (m_slices_Equal_Lint_int x21 x23).bind fun x25 =>
            if x25 = true then
             (m_syncmark_Overlaps p1).bind fun x27 =>
             (m_ref54_Overlaps p1).bind fun x29 =>
             (m_slices_Equal_Lint_int x27 x29).bind fun x31 =>
             if x31 = true then
              (m_law54_awake).bind fun x33 =>
              k20 x33
             else
              k20 false
            else
             k20 false
           else
            k20 false
          else
           k20 false
         else
          k20 false
        else
         k20 false
       else
        k20 false
      else
       k20 false
     else
      k20 false)
   fun k3 =>
  (m_law54_great p0).bind fun x44 =>
  if x44 = true then
   k3 true
  else
   (m_law54_long p1).bind fun x46 =>
   if x46 = true then
    k3 true
   else
    if 8 < p2 then
     if p2 ≤ 4096 then
      k3 true
     else
      k3 (decide (40 < ((p3).length : Int)))
    else
     k3 (decide (40 < ((p3).length : Int)))
end Go.AW
namespace Go.AW
open Go Go.Proofs
set_option maxHeartbeats 1600000
set_option maxRecDepth 100000
set_option linter.unusedVariables false
theorem w_ref10_Great {p0 : TLabelsStatesEdges} {r : Bool} (h : m_ref10_Great p0 = some r) : Pure Try.prog 31 [gA p0] (· = HV.bool r) := by
 unfold m_ref10_Great at h
 refine Pure.of_body Try.func31 rfl rfl (lb rfl) fun hf => ?_
 unfold Try.f31
 dsimp only [enumS, Nat.reduceAdd]
 refine AW.rgs rfl fun K hK => b_op rfl (o_box rfl rfl rfl ?_)
 refine mv rfl rfl ?_
 refine bf hK ⟨[(1, gF p0)], []⟩ ?_
 refine AW.seqJ h (S := Bool) (V := Unit) (fun a v => ⟨[(2, .bool a)], []⟩) (fun a1 w2 h => ?_) (fun k3 h => ?_)
 ·refine AW.ret ?_
  have h := Option.some.inj h
  subst h
  exact ret_pure (hs := [.bool a1]) (.inr rfl) (resT rfl rfl) rfl trivial
 refine AW.rg rfl fun K hK => bv rfl (v_fieldAddrF fo24_1 rfl) (bv rfl (v_loadF ty3 rfl (l_lit rfl rfl)) (bv rfl (v_bin rfl rfl b_gtr) (mv rfl rfl ?_)))
 by_cases hg9 : 8 < p0.2.1
 ·have h := ifT hg9 h
  refine b_T rfl rfl rfl rfl (decide_eq_true hg9) (o_val rfl (v_fieldAddrF fo24_1 rfl) ?_)
  refine b_T rfl rfl rfl rfl rfl (o_val rfl (v_loadF ty3 rfl (l_lit rfl rfl)) ?_)
  refine b_T rfl rfl rfl rfl rfl (o_val rfl (v_bin rfl rfl b_leq) ?_)
  refine bv rfl (v_pickT rfl rfl rfl) (mv rfl rfl ?_)
  by_cases hg6 : p0.2.1 ≤ 64
  ·have h := ifT hg6 h
   refine b_F rfl rfl rfl rfl rfl (decide_eq_true hg6) ?_
   refine b_F rfl rfl rfl rfl rfl rfl ?_
   refine b_F rfl rfl rfl rfl rfl rfl ?_
   refine b_F rfl rfl rfl rfl rfl rfl ?_
   refine b_F rfl rfl rfl rfl rfl rfl ?_
   refine b_U rfl rfl rfl rfl rfl ?_
   refine b_U rfl rfl rfl rfl rfl ?_
   refine b_U rfl rfl rfl rfl rfl ?_
   refine b_U rfl rfl rfl rfl rfl ?_
   refine b_F rfl rfl rfl rfl rfl rfl ?_
   refine bv rfl (v_pickT rfl rfl rfl) (mv rfl rfl ?_)
   refine b_F rfl rfl rfl rfl rfl rfl ?_
   refine b_F rfl rfl rfl rfl rfl rfl ?_
   refine b_F rfl rfl rfl rfl rfl rfl ?_
   refine b_F rfl rfl rfl rfl rfl rfl ?_
   refine bv rfl (v_pickT rfl rfl rfl) (mv rfl rfl ?_)
   refine b_nil (hK _ ?_)
   exact to_L ⟨true, (), h, rfl⟩
  have h := ifF hg6 h
  refine b_T rfl rfl rfl rfl (decide_eq_false hg6) (o_val rfl (v_fieldAddrF fo24_2 rfl) ?_)
  refine b_T rfl rfl rfl rfl rfl (o_val rfl (v_loadF ty22 rfl (l_lit rfl rfl)) ?_)
  refine b_T rfl rfl rfl rfl rfl (o_val rfl (v_lenF rfl rfl ty22 rfl) ?_)
  refine b_T rfl rfl rfl rfl rfl (o_val rfl (v_bin rfl rfl b_gtr) ?_)
  refine b_T rfl rfl rfl rfl rfl (o_val rfl (mv_val rfl rfl).2 ?_)
  by_cases hg5 : 30 < ((p0.2.2).length : Int)
  ·have h := ifT hg5 h
   refine b_T rfl rfl rfl rfl (decide_eq_true hg5) (o_val rfl (v_fieldAddrF fo24_2 rfl) ?_)
   refine b_T rfl rfl rfl rfl rfl (o_val rfl (v_loadF ty22 rfl (l_lit rfl rfl)) ?_)
   refine b_T rfl rfl rfl rfl rfl (o_val rfl (v_lenF rfl rfl ty22 rfl) ?_)
   refine b_T rfl rfl rfl rfl rfl (o_val rfl (v_bin rfl rfl b_leq) ?_)
   refine b_T rfl rfl rfl rfl rfl (o_val rfl (v_pickT rfl rfl rfl) ?_)
   refine bv rfl (v_pickF rfl rfl rfl) (mv rfl rfl ?_)
   by_cases hg4 : ((p0.2.2).length : Int) ≤ 1024
   ·have h := ifT hg4 h
    refine b_F rfl rfl rfl rfl rfl (decide_eq_true hg4) ?_
    refine b_F rfl rfl rfl rfl rfl rfl ?_
    refine b_F rfl rfl rfl rfl rfl rfl ?_
    refine b_F rfl rfl rfl rfl rfl rfl ?_
    refine bv rfl (v_pickT rfl rfl rfl) (mv rfl rfl ?_)
    refine b_nil (hK _ ?_)
    exact to_L ⟨true, (), h, rfl⟩
   have h := ifF hg4 h
   refine b_T rfl rfl rfl rfl (decide_eq_false hg4) (o_val rfl (v_fieldAddrF fo24_2 rfl) ?_)
   refine b_T rfl rfl rfl rfl rfl (o_val rfl (v_loadF ty22 rfl (l_lit rfl rfl)) ?_)
   refine b_T rfl rfl rfl rfl rfl (o_val rfl (v_lenF rfl rfl ty22 rfl) ?_)
   refine b_T rfl rfl rfl rfl rfl (o_val rfl (v_bin rfl rfl b_gtr) ?_)
   refine bv rfl (v_pickF rfl rfl rfl) (mv rfl rfl ?_)
   refine b_nil (hK _ ?_)
   exact to_L ⟨decide (1027 < ((p0.2.2).length : Int)), (), h, rfl⟩
  have h := ifF hg5 h
  refine b_F rfl rfl rfl rfl rfl (decide_eq_false hg5) ?_
  refine b_F rfl rfl rfl rfl rfl rfl ?_
  refine b_F rfl rfl rfl rfl rfl rfl ?_
  refine b_F rfl rfl rfl rfl rfl rfl ?_
  refine b_T rfl rfl rfl rfl rfl (o_val rfl (v_pickF rfl rfl rfl) ?_)
  refine bv rfl (v_pickF rfl rfl rfl) (mv rfl rfl ?_)
  refine b_T rfl rfl rfl rfl rfl (o_val rfl (v_fieldAddrF fo24_2 rfl) ?_)
  refine b_T rfl rfl rfl rfl rfl (o_val rfl (v_loadF ty22 rfl (l_lit rfl rfl)) ?_)
  refine b_T rfl rfl rfl rfl rfl (o_val rfl (v_lenF rfl rfl ty22 rfl) ?_)
  refine b_T rfl rfl rfl rfl rfl (o_val rfl (v_bin rfl rfl b_gtr) ?_)
  refine bv rfl (v_pickF rfl rfl rfl) (mv rfl rfl ?_)
  refine b_nil (hK _ ?_)
  exact to_L ⟨decide (1027 < ((p0.2.2).length : Int)), (), h, rfl⟩
 have h := ifF hg9 h
 refine b_F rfl rfl rfl rfl rfl (decide_eq_false hg9) ?_
 refine b_F rfl rfl rfl rfl rfl rfl ?_
 refine b_F rfl rfl rfl rfl rfl rfl ?_
 refine bv rfl (v_pickF rfl rfl rfl) (mv rfl rfl ?_)
 refine b_T rfl rfl rfl rfl rfl (o_val rfl (v_fieldAddrF fo24_2 rfl) ?_)
 refine b_T rfl rfl rfl rfl rfl (o_val rfl (v_loadF ty22 rfl (l_lit rfl rfl)) ?_)
 refine b_T rfl rfl rfl rfl rfl (o_val rfl (v_lenF rfl rfl ty22 rfl) ?_)
 refine b_T rfl rfl rfl rfl rfl (o_val rfl (v_bin rfl rfl b_gtr) ?_)
 refine b_T rfl rfl rfl rfl rfl (o_val rfl (mv_val rfl rfl).2 ?_)
 by_cases hg8 : 30 < ((p0.2.2).length : Int)
 ·have h := ifT hg8 h
  refine b_T rfl rfl rfl rfl (decide_eq_true hg8) (o_val rfl (v_fieldAddrF fo24_2 rfl) ?_)
  refine b_T rfl rfl rfl rfl rfl (o_val rfl (v_loadF ty22 rfl (l_lit rfl rfl)) ?_)
  refine b_T rfl rfl rfl rfl rfl (o_val rfl (v_lenF rfl rfl ty22 rfl) ?_)
  refine b_T rfl rfl rfl rfl rfl (o_val rfl (v_bin rfl rfl b_leq) ?_)
  refine b_T rfl rfl rfl rfl rfl (o_val rfl (v_pickT rfl rfl rfl) ?_)
  refine bv rfl (v_pickF rfl rfl rfl) (mv rfl rfl ?_)
  by_cases hg7 : ((p0.2.2).length : Int) ≤ 1024
  ·have h := ifT hg7 h
   refine b_F rfl rfl rfl rfl rfl (decide_eq_true hg7) ?_
   refine b_F rfl rfl rfl rfl rfl rfl ?_
   refine b_F rfl rfl rfl rfl rfl rfl ?_
   refine b_F rfl rfl rfl rfl rfl rfl ?_
   refine bv rfl (v_pickT rfl rfl rfl) (mv rfl rfl ?_)
   refine b_nil (hK _ ?_)
   exact to_L ⟨true, (), h, rfl⟩
  have h := ifF hg7 h
  refine b_T rfl rfl rfl rfl (decide_eq_false hg7) (o_val rfl (v_fieldAddrF fo24_2 rfl) ?_)
  refine b_T rfl rfl rfl rfl rfl (o_val rfl (v_loadF ty22 rfl (l_lit rfl rfl)) ?_)
  refine b_T rfl rfl rfl rfl rfl (o_val rfl (v_lenF rfl rfl ty22 rfl) ?_)
  refine b_T rfl rfl rfl rfl rfl (o_val rfl (v_bin rfl rfl b_gtr) ?_)
  refine bv rfl (v_pickF rfl rfl rfl) (mv rfl rfl ?_)
  refine b_nil (hK _ ?_)
  exact to_L ⟨decide (1027 < ((p0.2.2).length : Int)), (), h, rfl⟩
 have h := ifF hg8 h
 refine b_F rfl rfl rfl rfl rfl (decide_eq_false hg8) ?_
 refine b_F rfl rfl rfl rfl rfl rfl ?_
 refine b_F rfl rfl rfl rfl rfl rfl ?_
 refine b_F rfl rfl rfl rfl rfl rfl ?_
 refine b_T rfl rfl rfl rfl rfl (o_val rfl (v_pickF rfl rfl rfl) ?_)
 refine bv rfl (v_pickF rfl rfl rfl) (mv rfl rfl ?_)
 refine b_T rfl rfl rfl rfl rfl (o_val rfl (v_fieldAddrF fo24_2 rfl) ?_)
 refine b_T rfl rfl rfl rfl rfl (o_val rfl (v_loadF ty22 rfl (l_lit rfl rfl)) ?_)
 refine b_T rfl rfl rfl rfl rfl (o_val rfl (v_lenF rfl rfl ty22 rfl) ?_)
 refine b_T rfl rfl rfl rfl rfl (o_val rfl (v_bin rfl rfl b_gtr) ?_)
 refine bv rfl (v_pickF rfl rfl rfl) (mv rfl rfl ?_)
 refine b_nil (hK _ ?_)
 exact to_L ⟨decide (1027 < ((p0.2.2).length : Int)), (), h, rfl⟩
theorem w_law54_great {p0 : TLabelsStatesEdges} {r : Bool} (h : m_law54_great p0 = some r) : Pure Try.prog 7 [gA p0] (· = HV.bool r) := by
 unfold m_law54_great at h
 refine Pure.of_body Try.func7 rfl rfl (lb rfl) fun hf => ?_
 unfold Try.f7
 dsimp only [enumS, Nat.reduceAdd]
 refine AW.rgs rfl fun K hK => b_op rfl (o_box rfl rfl rfl ?_)
 refine mv rfl rfl ?_
 refine bf hK ⟨[(1, gF p0)], []⟩ ?_
 refine AW.seqJ h (S := Bool) (V := Unit) (fun a v => ⟨[(2, .bool a)], []⟩) (fun a1 w2 h => ?_) (fun k3 h => ?_)
 ·refine AW.ret ?_
  have h := Option.some.inj h
  subst h
  exact ret_pure (hs := [.bool a1]) (.inr rfl) (resT rfl rfl) rfl trivial
 refine AW.rg rfl fun K hK => bv rfl (v_loadF ty24 rfl (l_litA rfl (lb rfl) rfl)) ?_
 obtain ⟨x4, h5, h⟩ := bS h
 refine b_op rfl (o_call rfl rfl rfl rfl (ACallD.pure0 (w_ref10_Great h5)) ?_)
 refine mv rfl rfl ?_
 by_cases hg7 : x4 = true
 ·have h := ifT hg7 h
  refine b_F rfl rfl rfl rfl rfl hg7 ?_
  refine b_F rfl rfl rfl rfl rfl rfl ?_
  refine b_F rfl rfl rfl rfl rfl rfl ?_
  refine b_F rfl rfl rfl rfl rfl rfl ?_
  refine b_U rfl rfl rfl rfl rfl ?_
  refine b_U rfl rfl rfl rfl rfl ?_
  refine b_U rfl rfl rfl rfl rfl ?_
  refine b_F rfl rfl rfl rfl rfl rfl ?_
  refine bv rfl (v_pickT rfl rfl rfl) (mv rfl rfl ?_)
  refine b_nil (hK _ ?_)
  exact to_L ⟨true, (), h, rfl⟩
 have h := ifF hg7 h
 refine b_T rfl rfl rfl rfl (bF hg7) (o_val rfl (v_fieldAddrF fo24_0 rfl) ?_)
 refine b_T rfl rfl rfl rfl rfl (o_val rfl (v_loadF ty3 rfl (l_lit rfl rfl)) ?_)
 refine b_T rfl rfl rfl rfl rfl (o_val rfl (v_bin rfl rfl b_gtr) ?_)
 refine b_T rfl rfl rfl rfl rfl (o_val rfl (mv_val rfl rfl).2 ?_)
 by_cases hg6 : 3 < p0.1
 ·have h := ifT hg6 h
  refine b_T rfl rfl rfl rfl (decide_eq_true hg6) (o_val rfl (v_fieldAddrF fo24_0 rfl) ?_)
  refine b_T rfl rfl rfl rfl rfl (o_val rfl (v_loadF ty3 rfl (l_lit rfl rfl)) ?_)
  refine b_T rfl rfl rfl rfl rfl (o_val rfl (v_bin rfl rfl b_leq) ?_)
  refine b_T rfl rfl rfl rfl rfl (o_val rfl (v_pickT rfl rfl rfl) ?_)
  refine bv rfl (v_pickF rfl rfl rfl) (mv rfl rfl ?_)
  refine b_nil (hK _ ?_)
  exact to_L ⟨decide (p0.1 ≤ 16), (), h, rfl⟩
 have h := ifF hg6 h
 refine b_F rfl rfl rfl rfl rfl (decide_eq_false hg6) ?_
 refine b_F rfl rfl rfl rfl rfl rfl ?_
 refine b_F rfl rfl rfl rfl rfl rfl ?_
 refine b_T rfl rfl rfl rfl rfl (o_val rfl (v_pickF rfl rfl rfl) ?_)
 refine bv rfl (v_pickF rfl rfl rfl) (mv rfl rfl ?_)
 refine b_nil (hK _ ?_)
 exact to_L ⟨false, (), h, rfl⟩
theorem w_law54_long {p0 : List UInt8} {r : Bool} (h : m_law54_long p0 = some r) : Pure Try.prog 8 [.str p0] (· = HV.bool r) := by
 unfold m_law54_long at h
 refine Pure.of_body Try.func8 rfl rfl (lb rfl) fun hf => ?_
 unfold Try.f8
 dsimp only [enumS, Nat.reduceAdd]
 refine AW.rgs rfl fun K hK => mv rfl rfl ?_
 refine bf hK ⟨[(0, .str p0)], []⟩ ?_
 refine AW.seqJ h (S := Bool) (V := Unit) (fun a v => ⟨[(2, .bool a)], []⟩) (fun a1 w2 h => ?_) (fun k3 h => ?_)
 ·refine AW.ret ?_
  have h := Option.some.inj h
  subst h
  exact ret_pure (hs := [.bool a1]) (.inr rfl) (resT rfl rfl) rfl trivial
 refine AW.rg rfl fun K hK => mv rfl rfl (bv rfl (v_lenS rfl rfl ty9 rfl) (bv rfl (v_bin rfl rfl b_gtr) (mv rfl rfl ?_)))
 by_cases hg5 : 6 < ((p0).length : Int)
 ·have h := ifT hg5 h
  refine b_T rfl rfl rfl rfl (decide_eq_true hg5) (o_val rfl (mv_val rfl rfl).2 ?_)
  refine b_T rfl rfl rfl rfl rfl (o_val rfl (v_lenS rfl rfl ty9 rfl) ?_)
  refine b_T rfl rfl rfl rfl rfl (o_val rfl (v_bin rfl rfl b_leq) ?_)
  refine bv rfl (v_pickT rfl rfl rfl) (mv rfl rfl ?_)
  by_cases hg4 : ((p0).length : Int) ≤ 32
  ·have h := ifT hg4 h
   refine b_F rfl rfl rfl rfl rfl (decide_eq_true hg4) ?_
   refine b_F rfl rfl rfl rfl rfl rfl ?_
   refine b_F rfl rfl rfl rfl rfl rfl ?_
   refine bv rfl (v_pickT rfl rfl rfl) (mv rfl rfl ?_)
   refine b_nil (hK _ ?_)
   exact to_L ⟨true, (), h, rfl⟩
  have h := ifF hg4 h
  refine b_T rfl rfl rfl rfl (decide_eq_false hg4) (o_val rfl (mv_val rfl rfl).2 ?_)
  refine b_T rfl rfl rfl rfl rfl (o_val rfl (v_lenS rfl rfl ty9 rfl) ?_)
  refine b_T rfl rfl rfl rfl rfl (o_val rfl (v_bin rfl rfl b_gtr) ?_)
  refine bv rfl (v_pickF rfl rfl rfl) (mv rfl rfl ?_)
  refine b_nil (hK _ ?_)
  exact to_L ⟨decide (35 < ((p0).length : Int)), (), h, rfl⟩
 have h := ifF hg5 h
 refine b_F rfl rfl rfl rfl rfl (decide_eq_false hg5) ?_
 refine b_F rfl rfl rfl rfl rfl rfl ?_
 refine b_F rfl rfl rfl rfl rfl rfl ?_
 refine bv rfl (v_pickF rfl rfl rfl) (mv rfl rfl ?_)
 refine b_T rfl rfl rfl rfl rfl (o_val rfl (mv_val rfl rfl).2 ?_)
 refine b_T rfl rfl rfl rfl rfl (o_val rfl (v_lenS rfl rfl ty9 rfl) ?_)
 refine b_T rfl rfl rfl rfl rfl (o_val rfl (v_bin rfl rfl b_gtr) ?_)
 refine bv rfl (v_pickF rfl rfl rfl) (mv rfl rfl ?_)
 refine b_nil (hK _ ?_)
 exact to_L ⟨decide (35 < ((p0).length : Int)), (), h, rfl⟩
theorem w_ref09_Compare {p0 : TFromLabelTo} {p1 : TFromLabelTo} {r : Int} (h : m_ref09_Compare p0 p1 = some r) : Pure Try.prog 50 [.agg [hI p0.1, hI p0.2.1, hI p0.2.2], .agg [hI p1.1, hI p1.2.1, hI p1.2.2]] (· = hI r) := by
 unfold m_ref09_Compare at h
 refine Pure.of_body Try.func50 rfl rfl (lb rfl) fun hf => ?_
 unfold Try.f50
 dsimp only [enumS, Nat.reduceAdd]
 refine AW.rgs rfl fun K hK => b_op rfl (o_box rfl rfl rfl ?_)
 refine b_op rfl (o_box rfl rfl rfl ?_)
 refine mv rfl rfl ?_
 refine bf hK ⟨[(2, .fptr [hI p0.1, hI p0.2.1, hI p0.2.2] 0), (3, .fptr [hI p1.1, hI p1.2.1, hI p1.2.2] 0)], []⟩ ?_
 refine AW.dgs 16 follows rfl rfl fun K hK => ?_
 refine sv rfl (v_fieldAddrF fo53_0 rfl) ?_
 refine sv rfl (v_loadF ty3 rfl (l_lit rfl rfl)) ?_
 refine sv rfl (v_fieldAddrF fo53_1 rfl) ?_
 refine sv rfl (v_loadF ty3 rfl (l_lit rfl rfl)) ?_
 refine sv rfl (v_fieldAddrF fo53_2 rfl) ?_
 refine sv rfl (v_loadF ty3 rfl (l_lit rfl rfl)) ?_
 refine s_op rfl rfl (ops_bsl rfl rfl (as_of (cs := [hI p0.1, hI p0.2.1, hI p0.2.2]) ty35 ty3 rfl rfl rfl rfl rfl) ?_)
 refine sv rfl (v_fieldAddrF fo53_0 rfl) ?_
 refine sv rfl (v_loadF ty3 rfl (l_lit rfl rfl)) ?_
 refine sv rfl (v_fieldAddrF fo53_1 rfl) ?_
 refine sv rfl (v_loadF ty3 rfl (l_lit rfl rfl)) ?_
 refine sv rfl (v_fieldAddrF fo53_2 rfl) ?_
 refine sv rfl (v_loadF ty3 rfl (l_lit rfl rfl)) ?_
 refine s_op rfl rfl (ops_bsl rfl rfl (as_of (cs := [hI p1.1, hI p1.2.1, hI p1.2.2]) ty35 ty3 rfl rfl rfl rfl rfl) ?_)
 refine sm rfl rfl ?_
 refine sm rfl rfl ?_
 refine s_nil ?_
 refine bf hK ⟨[(5, slE eInt [p0.1, p0.2.1, p0.2.2]), (6, slE eInt [p1.1, p1.2.1, p1.2.2])], []⟩ ?_
 refine AW.seq ?_
 refine AW.rgs rfl fun K hK => mv rfl rfl ?_
 refine bf hK ⟨[(5, slE eInt [p0.1, p0.2.1, p0.2.2]), (6, slE eInt [p1.1, p1.2.1, p1.2.2]), (7, hI 0)], []⟩ ?_
 refine AW.lpR h (by first | exact up_then | exact up_to) (S := Int) (V := Unit) (fun a v => ⟨[(5, slE eInt [p0.1, p0.2.1, p0.2.2]), (6, slE eInt [p1.1, p1.2.1, p1.2.2]), (7, hI a)], []⟩) ?_ (X := Unit) (W := Unit) (fun a v => ⟨[], []⟩) (fun a13 w14 h => ?_) (fun a1 w2 st3 h hr4=> ?_)
 ·exact to_L ⟨(), rfl⟩
 ·refine AW.rgs rfl fun K hK => mv rfl rfl ?_
  refine bf hK ⟨[(4, hI 0)], []⟩ ?_
  refine AW.ret ?_
  have h := Option.some.inj h
  subst h
  exact ret_pure (hs := [hI 0]) (.inr rfl) (resT rfl rfl) rfl trivial
 refine AW.seq ?_
 refine AW.rgs rfl fun K hK => mv rfl rfl (bv rfl (v_bin rfl rfl b_lss) ?_)
 refine bf hK ⟨[(5, slE eInt [p0.1, p0.2.1, p0.2.2]), (6, slE eInt [p1.1, p1.2.1, p1.2.2]), (7, hI a1), (23, .bool (decide (a1 < 3)))], []⟩ ?_
 refine AW.cond rfl (fun hc => ?_) (fun hc => ?_)
 ·obtain ⟨hc, h⟩ := cT hc h
  refine AW.skip ?_
  refine AW.seq (AW.block ?_)
  refine AW.seq ?_
  refine AW.dgs 9 follows rfl rfl fun K hK => ?_
  refine sm rfl rfl ?_
  refine sm rfl rfl ?_
  obtain ⟨x5, h6, h⟩ := bS h
  refine sv rfl (v_idxF ty35 es35 rfl rfl (idx_lt h6)) ?_
  refine sv rfl (v_loadF ty3 rfl (l_cell eInt h6 (o := 0) rfl rfl)) ?_
  refine sm rfl rfl ?_
  refine sm rfl rfl ?_
  obtain ⟨x7, h8, h⟩ := bS h
  refine sv rfl (v_idxF ty35 es35 rfl rfl (idx_lt h8)) ?_
  refine sv rfl (v_loadF ty3 rfl (l_cell eInt h8 (o := 0) rfl rfl)) ?_
  refine sv rfl (v_bin rfl rfl b_lss) ?_
  refine s_nil ?_
  refine bf hK ⟨[(5, slE eInt [p0.1, p0.2.1, p0.2.2]), (6, slE eInt [p1.1, p1.2.1, p1.2.2]), (7, hI a1), (34, .bool (decide (x5 < x7)))], []⟩ ?_
  refine AW.cond rfl (fun hc => ?_) (fun hc => ?_)
  ·obtain ⟨hc, h⟩ := cT hc h
   refine AW.rgs rfl fun K hK => mv rfl rfl ?_
   refine bf hK ⟨[(4, hI (-1))], []⟩ ?_
   have h := hr4 _ h
   refine AW.ret ?_
   have h := Option.some.inj h
   subst h
   exact ret_pure (hs := [hI (-1)]) (.inr rfl) (resT rfl rfl) rfl trivial
  obtain ⟨hc, h⟩ := cF hc h
  refine AW.skip ?_
  refine AW.dgs 9 follows rfl rfl fun K hK => ?_
  refine sm rfl rfl ?_
  refine sm rfl rfl ?_
  obtain ⟨x9, h10, h⟩ := bS h
  refine sv rfl (v_idxF ty35 es35 rfl rfl (idx_lt h10)) ?_
  refine sv rfl (v_loadF ty3 rfl (l_cell eInt h10 (o := 0) rfl rfl)) ?_
  refine sm rfl rfl ?_
  refine sm rfl rfl ?_
  obtain ⟨x11, h12, h⟩ := bS h
  refine sv rfl (v_idxF ty35 es35 rfl rfl (idx_lt h12)) ?_
  refine sv rfl (v_loadF ty3 rfl (l_cell eInt h12 (o := 0) rfl rfl)) ?_
  refine sv rfl (v_bin rfl rfl b_gtr) ?_
  refine s_nil ?_
  refine bf hK ⟨[(5, slE eInt [p0.1, p0.2.1, p0.2.2]), (6, slE eInt [p1.1, p1.2.1, p1.2.2]), (7, hI a1), (43, .bool (decide (x11 < x9)))], []⟩ ?_
  refine AW.cond rfl (fun hc => ?_) (fun hc => ?_)
  ·obtain ⟨hc, h⟩ := cT hc h
   refine AW.rgs rfl fun K hK => mv rfl rfl ?_
   refine bf hK ⟨[(4, hI 1)], []⟩ ?_
   have h := hr4 _ h
   refine AW.ret ?_
   have h := Option.some.inj h
   subst h
   exact ret_pure (hs := [hI 1]) (.inr rfl) (resT rfl rfl) rfl trivial
  obtain ⟨hc, h⟩ := cF hc h
  refine AW.skip ?_
  refine AW.rg rfl fun K hK => mv rfl rfl (bv rfl (v_bin rfl rfl b_add) (mv rfl rfl ?_))
  refine b_nil (hK _ ?_)
  exact to_L ⟨IntKind.wrap .i64 (a1 + 1), (), h, rfl⟩
 obtain ⟨hc, h⟩ := cF hc h
 refine AW.exit ?_
 exact to_L ⟨(), (), h, rfl⟩
theorem w_ref09_Check {p0 : TLabelsStatesEdges} {r : Int} (h : m_ref09_Check p0 = some r) : Pure Try.prog 28 [gA p0] (· = hI r) := by
 unfold m_ref09_Check at h
 refine Pure.of_body Try.func28 rfl rfl (lb rfl) fun hf => ?_
 unfold Try.f28
 dsimp only [enumS, Nat.reduceAdd]
 refine AW.rgs rfl fun K hK => b_op rfl (o_box rfl rfl rfl ?_)
 refine mv rfl rfl ?_
 refine bf hK ⟨[(1, gF p0)], []⟩ ?_
 refine AW.seq ?_
 refine AW.seqJ h (S := Bool) (V := Unit) (fun a v => ⟨[(1, gF p0), (12, .bool a)], []⟩) (fun a1 w2 h => ?_) (fun k3 h => ?_)
 ·refine AW.cond rfl (fun hc => ?_) (fun hc => ?_)
  ·have h := ifT hc h
   refine AW.rgs rfl fun K hK => mv rfl rfl ?_
   refine bf hK ⟨[(2, hI 12)], []⟩ ?_
   refine AW.ret ?_
   have h := Option.some.inj h
   subst h
   exact ret_pure (hs := [hI 12]) (.inr rfl) (resT rfl rfl) rfl trivial
  have h := ifF (bF' hc) h
  refine AW.skip ?_
  refine AW.seq ?_
  refine AW.rgs rfl fun K hK => bv rfl (v_fieldAddrF fo24_1 rfl) (bv rfl (v_loadF ty3 rfl (l_lit rfl rfl)) (bv rfl (v_bin rfl rfl b_lss) ?_))
  refine bf hK ⟨[(1, gF p0), (15, .bool (decide (p0.2.1 < 0)))], []⟩ ?_
  refine AW.cond rfl (fun hc => ?_) (fun hc => ?_)
  ·obtain ⟨hc, h⟩ := cT hc h
   refine AW.rgs rfl fun K hK => mv rfl rfl ?_
   refine bf hK ⟨[(2, hI 2)], []⟩ ?_
   refine AW.ret ?_
   have h := Option.some.inj h
   subst h
   exact ret_pure (hs := [hI 2]) (.inr rfl) (resT rfl rfl) rfl trivial
  obtain ⟨hc, h⟩ := cF hc h
  refine AW.skip ?_
  refine AW.seq ?_
  refine AW.seqJ h (S := Bool) (V := Unit) (fun a v => ⟨[(1, gF p0), (24, .bool a)], []⟩) (fun a4 w5 h => ?_) (fun k6 h => ?_)
  ·refine AW.cond rfl (fun hc => ?_) (fun hc => ?_)
   ·have h := ifT hc h
    refine AW.rgs rfl fun K hK => mv rfl rfl ?_
    refine bf hK ⟨[(2, hI 4)], []⟩ ?_
    refine AW.ret ?_
    have h := Option.some.inj h
    subst h
    exact ret_pure (hs := [hI 4]) (.inr rfl) (resT rfl rfl) rfl trivial
   have h := ifF (bF' hc) h
   refine AW.skip ?_
   refine AW.seq ?_
   refine AW.rgs rfl fun K hK => mv rfl rfl ?_
   refine bf hK ⟨[(1, gF p0), (3, hI 0)], []⟩ ?_
   refine AW.lpR h (by first | exact up_then | exact up_to) (S := Int) (V := Unit) (fun a v => ⟨[(1, gF p0), (3, hI a)], []⟩) ?_ (X := Unit) (W := Unit) (fun a v => ⟨[], []⟩) (fun a30 w31 h => ?_) (fun a7 w8 st9 h hr10=> ?_)
   ·exact to_L ⟨(), rfl⟩
   ·refine AW.rgs rfl fun K hK => mv rfl rfl ?_
    refine bf hK ⟨[(2, hI 0)], []⟩ ?_
    refine AW.ret ?_
    have h := Option.some.inj h
    subst h
    exact ret_pure (hs := [hI 0]) (.inr rfl) (resT rfl rfl) rfl trivial
   refine AW.seq ?_
   refine AW.rgs rfl fun K hK => mv rfl rfl (bv rfl (v_fieldAddrF fo24_2 rfl) (bv rfl (v_loadF ty22 rfl (l_lit rfl rfl)) (bv rfl (v_lenF rfl rfl ty22 rfl) (bv rfl (v_bin rfl rfl b_lss) ?_))))
   refine bf hK ⟨[(1, gF p0), (3, hI a7), (29, .bool (decide (a7 < ((p0.2.2).length : Int))))], []⟩ ?_
   refine AW.cond rfl (fun hc => ?_) (fun hc => ?_)
   ·obtain ⟨hc, h⟩ := cT hc h
    refine AW.skip ?_
    refine AW.seq (AW.block ?_)
    refine AW.rgs rfl fun K hK => bv rfl (v_fieldAddrF fo24_2 rfl) (bv rfl (v_loadF ty22 rfl (l_lit rfl rfl)) (mv rfl rfl ?_))
    obtain ⟨x11, h12, h⟩ := bS h
    refine bv rfl (v_idxF ty22 es22 rfl rfl (idx_lt h12)) (bv rfl (v_loadF ty53 rfl (l_agg eFromLabelTo h12 rfl rfl)) ?_)
    refine b_op rfl (o_alloc (fid := 28) (zs := [hI 0, hI 0, hI 0]) 28004 rfl rfl ty53 rfl (fun v13 => ?_))
    refine b_op rfl (o_store (cs := [hI x11.1, hI x11.2.1, hI x11.2.2]) (zs := [hI x11.1, hI x11.2.1, hI x11.2.2]) rfl rfl rfl ty53 rfl rfl rfl rfl rfl ?_)
    refine bf hK ⟨[(1, gF p0), (3, hI a7), (4, .ptr 28004 v13 0)], [(28004, v13, .arr 3 53 [hI x11.1, hI x11.2.1, hI x11.2.2])]⟩ ?_
    refine AW.seq ?_
    refine AW.seqJ h (S := Bool) (V := Unit) (fun a v => ⟨[(1, gF p0), (3, hI a7), (4, .ptr 28004 v13 0), (70, .bool a)], [(28004, v13, .arr 3 53 [hI x11.1, hI x11.2.1, hI x11.2.2])]⟩) (fun a14 w15 h => ?_) (fun k16 h => ?_)
    ·refine AW.cond rfl (fun hc => ?_) (fun hc => ?_)
     ·have h := ifT hc h
      refine AW.rgs rfl fun K hK => mv rfl rfl ?_
      refine bf hK ⟨[(2, hI 2)], []⟩ ?_
      have h := hr10 _ h
      refine AW.ret ?_
      have h := Option.some.inj h
      subst h
      exact ret_pure (hs := [hI 2]) (.inr rfl) (resT rfl rfl) rfl trivial
     have h := ifF (bF' hc) h
     refine AW.skip ?_
     refine AW.seqJ h (S := Bool) (V := Unit) (fun a v => ⟨[(1, gF p0), (3, hI a7), (83, .bool a)], []⟩) (fun a17 w18 h => ?_) (fun k19 h => ?_)
     ·refine AW.cond rfl (fun hc => ?_) (fun hc => ?_)
      ·have h := ifT hc h
       refine AW.rgs rfl fun K hK => mv rfl rfl ?_
       refine bf hK ⟨[(2, hI 10)], []⟩ ?_
       have h := hr10 _ h
       refine AW.ret ?_
       have h := Option.some.inj h
       subst h
       exact ret_pure (hs := [hI 10]) (.inr rfl) (resT rfl rfl) rfl trivial
      have h := ifF (bF' hc) h
      refine AW.skip ?_
      refine AW.rg rfl fun K hK => mv rfl rfl (bv rfl (v_bin rfl rfl b_add) (mv rfl rfl ?_))
      refine b_nil (hK _ ?_)
      exact to_L ⟨IntKind.wrap .i64 (a7 + 1), (), h, rfl⟩
     refine AW.dg 13 follows rfl rfl fun K hK => ?_
     refine sm rfl rfl ?_
     refine sv rfl (v_bin rfl rfl b_gtr) ?_
     refine sm rfl rfl ?_
     by_cases hg24 : 0 < a7
     ·have h := ifT hg24 h
      refine s_T rfl rfl rfl rfl rfl (decide_eq_true hg24) (ops_val rfl (v_fieldAddrF fo24_2 rfl) ?_)
      refine s_T rfl rfl rfl rfl rfl rfl (ops_val rfl (v_loadF ty22 rfl (l_lit rfl rfl)) ?_)
      refine s_T rfl rfl rfl rfl rfl rfl (ops_val rfl (mv_val rfl rfl).2 ?_)
      refine s_T rfl rfl rfl rfl rfl rfl (ops_val rfl (v_bin rfl rfl b_sub) ?_)
      obtain ⟨x20, h21, h⟩ := bS h
      refine s_T rfl rfl rfl rfl rfl rfl (ops_val rfl (v_idxF ty22 es22 rfl rfl (idx_lt h21)) ?_)
      refine s_T rfl rfl rfl rfl rfl rfl (ops_val rfl (v_loadF ty53 rfl (l_agg eFromLabelTo h21 rfl rfl)) ?_)
      refine s_T rfl rfl rfl rfl rfl rfl (ops_val rfl (v_loadP ty53 rfl rfl (l_litA rfl (lb rfl) rfl)) ?_)
      obtain ⟨x22, h23, h⟩ := bS h
      refine s_T rfl rfl rfl rfl rfl rfl (ops_call rfl rfl rfl rfl (ACallD.pure0 (w_ref09_Compare h23)) ?_)
      refine s_T rfl rfl rfl rfl rfl rfl (ops_val rfl (v_bin rfl rfl b_geq) ?_)
      refine sv rfl (v_pickT rfl rfl rfl) ?_
      refine s_nil ?_
      refine b_nil (hK _ ?_)
      exact to_L ⟨decide (0 ≤ x22), (), h, rfl⟩
     have h := ifF hg24 h
     refine s_F rfl rfl rfl rfl rfl (decide_eq_false hg24) ?_
     refine s_F rfl rfl rfl rfl rfl rfl ?_
     refine s_F rfl rfl rfl rfl rfl rfl ?_
     refine s_F rfl rfl rfl rfl rfl rfl ?_
     refine s_F rfl rfl rfl rfl rfl rfl ?_
     refine s_F rfl rfl rfl rfl rfl rfl ?_
     refine s_F rfl rfl rfl rfl rfl rfl ?_
     refine s_F rfl rfl rfl rfl rfl rfl ?_
     refine s_F rfl rfl rfl rfl rfl rfl ?_
     refine sv rfl (v_pickF rfl rfl rfl) ?_
     refine s_nil ?_
     refine b_nil (hK _ ?_)
     exact to_L ⟨false, (), h, rfl⟩
    refine AW.rg rfl fun K hK => bv rfl (v_fieldAddrP fo53_0 rfl rfl) (bv rfl (v_loadP ty3 rfl rfl (l_lit rfl rfl)) (bv rfl (v_bin rfl rfl b_lss) (mv rfl rfl ?_)))
    by_cases hg29 : x11.1 < 0
    ·have h := ifT hg29 h
     refine b_F rfl rfl rfl rfl rfl (decide_eq_true hg29) ?_
     refine b_F rfl rfl rfl rfl rfl rfl ?_
     refine b_F rfl rfl rfl rfl rfl rfl ?_
     refine b_F rfl rfl rfl rfl rfl rfl ?_
     refine b_F rfl rfl rfl rfl rfl rfl ?_
     refine bv rfl (v_pickT rfl rfl rfl) (mv rfl rfl ?_)
     refine b_F rfl rfl rfl rfl rfl rfl ?_
     refine b_F rfl rfl rfl rfl rfl rfl ?_
     refine b_F rfl rfl rfl rfl rfl rfl ?_
     refine bv rfl (v_pickT rfl rfl rfl) (mv rfl rfl ?_)
     refine b_F rfl rfl rfl rfl rfl rfl ?_
     refine b_F rfl rfl rfl rfl rfl rfl ?_
     refine b_F rfl rfl rfl rfl rfl rfl ?_
     refine b_F rfl rfl rfl rfl rfl rfl ?_
     refine b_F rfl rfl rfl rfl rfl rfl ?_
     refine bv rfl (v_pickT rfl rfl rfl) (mv rfl rfl ?_)
     refine b_F rfl rfl rfl rfl rfl rfl ?_
     refine b_F rfl rfl rfl rfl rfl rfl ?_
     refine b_F rfl rfl rfl rfl rfl rfl ?_
     refine bv rfl (v_pickT rfl rfl rfl) (mv rfl rfl ?_)
     refine b_F rfl rfl rfl rfl rfl rfl ?_
     refine b_F rfl rfl rfl rfl rfl rfl ?_
     refine b_F rfl rfl rfl rfl rfl rfl ?_
     refine b_F rfl rfl rfl rfl rfl rfl ?_
     refine b_F rfl rfl rfl rfl rfl rfl ?_
     refine bv rfl (v_pickT rfl rfl rfl) ?_
     refine b_nil (hK _ ?_)
     exact to_L ⟨true, (), h, rfl⟩
    have h := ifF hg29 h
    refine b_T rfl rfl rfl rfl (decide_eq_false hg29) (o_val rfl (v_fieldAddrP fo53_0 rfl rfl) ?_)
    refine b_T rfl rfl rfl rfl rfl (o_val rfl (v_loadP ty3 rfl rfl (l_lit rfl rfl)) ?_)
    refine b_T rfl rfl rfl rfl rfl (o_val rfl (v_fieldAddrF fo24_1 rfl) ?_)
    refine b_T rfl rfl rfl rfl rfl (o_val rfl (v_loadF ty3 rfl (l_lit rfl rfl)) ?_)
    refine b_T rfl rfl rfl rfl rfl (o_val rfl (v_bin rfl rfl b_geq) ?_)
    refine bv rfl (v_pickF rfl rfl rfl) (mv rfl rfl ?_)
    by_cases hg28 : p0.2.1 ≤ x11.1
    ·have h := ifT hg28 h
     refine b_F rfl rfl rfl rfl rfl (decide_eq_true hg28) ?_
     refine b_F rfl rfl rfl rfl rfl rfl ?_
     refine b_F rfl rfl rfl rfl rfl rfl ?_
     refine bv rfl (v_pickT rfl rfl rfl) (mv rfl rfl ?_)
     refine b_F rfl rfl rfl rfl rfl rfl ?_
     refine b_F rfl rfl rfl rfl rfl rfl ?_
     refine b_F rfl rfl rfl rfl rfl rfl ?_
     refine b_F rfl rfl rfl rfl rfl rfl ?_
     refine b_F rfl rfl rfl rfl rfl rfl ?_
     refine bv rfl (v_pickT rfl rfl rfl) (mv rfl rfl ?_)
     refine b_F rfl rfl rfl rfl rfl rfl ?_
     refine b_F rfl rfl rfl rfl rfl rfl ?_
     refine b_F rfl rfl rfl rfl rfl rfl ?_
     refine bv rfl (v_pickT rfl rfl rfl) (mv rfl rfl ?_)
     refine b_F rfl rfl rfl rfl rfl rfl ?_
     refine b_F rfl rfl rfl rfl rfl rfl ?_
     refine b_F rfl rfl rfl rfl rfl rfl ?_
     refine b_F rfl rfl rfl rfl rfl rfl ?_
     refine b_F rfl rfl rfl rfl rfl rfl ?_
     refine bv rfl (v_pickT rfl rfl rfl) ?_
     refine b_nil (hK _ ?_)
     exact to_L ⟨true, (), h, rfl⟩
    have h := ifF hg28 h
    refine b_T rfl rfl rfl rfl (decide_eq_false hg28) (o_val rfl (v_fieldAddrP fo53_2 rfl rfl) ?_)
    refine b_T rfl rfl rfl rfl rfl (o_val rfl (v_loadP ty3 rfl rfl (l_lit rfl rfl)) ?_)
    refine b_T rfl rfl rfl rfl rfl (o_val rfl (v_bin rfl rfl b_lss) ?_)
    refine bv rfl (v_pickF rfl rfl rfl) (mv rfl rfl ?_)
    by_cases hg27 : x11.2.2 < 0
    ·have h := ifT hg27 h
     refine b_F rfl rfl rfl rfl rfl (decide_eq_true hg27) ?_
     refine b_F rfl rfl rfl rfl rfl rfl ?_
     refine b_F rfl rfl rfl rfl rfl rfl ?_
     refine b_F rfl rfl rfl rfl rfl rfl ?_
     refine b_F rfl rfl rfl rfl rfl rfl ?_
     refine bv rfl (v_pickT rfl rfl rfl) (mv rfl rfl ?_)
     refine b_F rfl rfl rfl rfl rfl rfl ?_
     refine b_F rfl rfl rfl rfl rfl rfl ?_
     refine b_F rfl rfl rfl rfl rfl rfl ?_
     refine bv rfl (v_pickT rfl rfl rfl) (mv rfl rfl ?_)
     refine b_F rfl rfl rfl rfl rfl rfl ?_
     refine b_F rfl rfl rfl rfl rfl rfl ?_
     refine b_F rfl rfl rfl rfl rfl rfl ?_
     refine b_F rfl rfl rfl rfl rfl rfl ?_
     refine b_F rfl rfl rfl rfl rfl rfl ?_
     refine bv rfl (v_pickT rfl rfl rfl) ?_
     refine b_nil (hK _ ?_)
     exact to_L ⟨true, (), h, rfl⟩
    have h := ifF hg27 h
    refine b_T rfl rfl rfl rfl (decide_eq_false hg27) (o_val rfl (v_fieldAddrP fo53_2 rfl rfl) ?_)
    refine b_T rfl rfl rfl rfl rfl (o_val rfl (v_loadP ty3 rfl rfl (l_lit rfl rfl)) ?_)
    refine b_T rfl rfl rfl rfl rfl (o_val rfl (v_fieldAddrF fo24_1 rfl) ?_)
    refine b_T rfl rfl rfl rfl rfl (o_val rfl (v_loadF ty3 rfl (l_lit rfl rfl)) ?_)
    refine b_T rfl rfl rfl rfl rfl (o_val rfl (v_bin rfl rfl b_geq) ?_)
    refine bv rfl (v_pickF rfl rfl rfl) (mv rfl rfl ?_)
    by_cases hg26 : p0.2.1 ≤ x11.2.2
    ·have h := ifT hg26 h
     refine b_F rfl rfl rfl rfl rfl (decide_eq_true hg26) ?_
     refine b_F rfl rfl rfl rfl rfl rfl ?_
     refine b_F rfl rfl rfl rfl rfl rfl ?_
     refine bv rfl (v_pickT rfl rfl rfl) (mv rfl rfl ?_)
     refine b_F rfl rfl rfl rfl rfl rfl ?_
     refine b_F rfl rfl rfl rfl rfl rfl ?_
     refine b_F rfl rfl rfl rfl rfl rfl ?_
     refine b_F rfl rfl rfl rfl rfl rfl ?_
     refine b_F rfl rfl rfl rfl rfl rfl ?_
     refine bv rfl (v_pickT rfl rfl rfl) ?_
     refine b_nil (hK _ ?_)
     exact to_L ⟨true, (), h, rfl⟩
    have h := ifF hg26 h
    refine b_T rfl rfl rfl rfl (decide_eq_false hg26) (o_val rfl (v_fieldAddrP fo53_1 rfl rfl) ?_)
    refine b_T rfl rfl rfl rfl rfl (o_val rfl (v_loadP ty3 rfl rfl (l_lit rfl rfl)) ?_)
    refine b_T rfl rfl rfl rfl rfl (o_val rfl (v_bin rfl rfl b_lss) ?_)
    refine bv rfl (v_pickF rfl rfl rfl) (mv rfl rfl ?_)
    by_cases hg25 : x11.2.1 < 0
    ·have h := ifT hg25 h
     refine b_F rfl rfl rfl rfl rfl (decide_eq_true hg25) ?_
     refine b_F rfl rfl rfl rfl rfl rfl ?_
     refine b_F rfl rfl rfl rfl rfl rfl ?_
     refine b_F rfl rfl rfl rfl rfl rfl ?_
     refine b_F rfl rfl rfl rfl rfl rfl ?_
     refine bv rfl (v_pickT rfl rfl rfl) ?_
     refine b_nil (hK _ ?_)
     exact to_L ⟨true, (), h, rfl⟩
    have h := ifF hg25 h
    refine b_T rfl rfl rfl rfl (decide_eq_false hg25) (o_val rfl (v_fieldAddrP fo53_1 rfl rfl) ?_)
    refine b_T rfl rfl rfl rfl rfl (o_val rfl (v_loadP ty3 rfl rfl (l_lit rfl rfl)) ?_)
    refine b_T rfl rfl rfl rfl rfl (o_val rfl (v_fieldAddrF fo24_0 rfl) ?_)
    refine b_T rfl rfl rfl rfl rfl (o_val rfl (v_loadF ty3 rfl (l_lit rfl rfl)) ?_)
    refine b_T rfl rfl rfl rfl rfl (o_val rfl (v_bin rfl rfl b_geq) ?_)
    refine bv rfl (v_pickF rfl rfl rfl) ?_
    refine b_nil (hK _ ?_)
    exact to_L ⟨decide (p0.1 ≤ x11.2.1), (), h, rfl⟩
   obtain ⟨hc, h⟩ := cF hc h
   refine AW.exit ?_
   exact to_L ⟨(), (), h, rfl⟩
  refine AW.rg rfl fun K hK => bv rfl (v_fieldAddrF fo24_1 rfl) (bv rfl (v_loadF ty3 rfl (l_lit rfl rfl)) (bv rfl (v_bin rfl rfl b_gtr) (mv rfl rfl ?_)))
  by_cases hg32 : 64 < p0.2.1
  ·have h := ifT hg32 h
   refine b_F rfl rfl rfl rfl rfl (decide_eq_true hg32) ?_
   refine b_F rfl rfl rfl rfl rfl rfl ?_
   refine b_F rfl rfl rfl rfl rfl rfl ?_
   refine b_F rfl rfl rfl rfl rfl rfl ?_
   refine bv rfl (v_pickT rfl rfl rfl) ?_
   refine b_nil (hK _ ?_)
   exact to_L ⟨true, (), h, rfl⟩
  have h := ifF hg32 h
  refine b_T rfl rfl rfl rfl (decide_eq_false hg32) (o_val rfl (v_fieldAddrF fo24_2 rfl) ?_)
  refine b_T rfl rfl rfl rfl rfl (o_val rfl (v_loadF ty22 rfl (l_lit rfl rfl)) ?_)
  refine b_T rfl rfl rfl rfl rfl (o_val rfl (v_lenF rfl rfl ty22 rfl) ?_)
  refine b_T rfl rfl rfl rfl rfl (o_val rfl (v_bin rfl rfl b_gtr) ?_)
  refine bv rfl (v_pickF rfl rfl rfl) ?_
  refine b_nil (hK _ ?_)
  exact to_L ⟨decide (1024 < ((p0.2.2).length : Int)), (), h, rfl⟩
 refine AW.rg rfl fun K hK => bv rfl (v_fieldAddrF fo24_0 rfl) (bv rfl (v_loadF ty3 rfl (l_lit rfl rfl)) (bv rfl (v_bin rfl rfl b_lss) (mv rfl rfl ?_)))
 by_cases hg33 : p0.1 < 1
 ·have h := ifT hg33 h
  refine b_F rfl rfl rfl rfl rfl (decide_eq_true hg33) ?_
  refine b_F rfl rfl rfl rfl rfl rfl ?_
  refine b_F rfl rfl rfl rfl rfl rfl ?_
  refine bv rfl (v_pickT rfl rfl rfl) ?_
  refine b_nil (hK _ ?_)
  exact to_L ⟨true, (), h, rfl⟩
 have h := ifF hg33 h
 refine b_T rfl rfl rfl rfl (decide_eq_false hg33) (o_val rfl (v_fieldAddrF fo24_0 rfl) ?_)
 refine b_T rfl rfl rfl rfl rfl (o_val rfl (v_loadF ty3 rfl (l_lit rfl rfl)) ?_)
 refine b_T rfl rfl rfl rfl rfl (o_val rfl (v_bin rfl rfl b_gtr) ?_)
 refine bv rfl (v_pickF rfl rfl rfl) ?_
 refine b_nil (hK _ ?_)
 exact to_L ⟨decide (256 < p0.1), (), h, rfl⟩
theorem w_ref07_Digit {p0 : Int} {r : Int} (h : m_ref07_Digit p0 = some r) : Pure Try.prog 83 [.int .u8 p0] (· = hI r) := by
 unfold m_ref07_Digit at h
 refine Pure.of_body Try.func83 rfl rfl (lb rfl) fun hf => ?_
 unfold Try.f83
 dsimp only [enumS, Nat.reduceAdd]
 refine AW.rgs rfl fun K hK => mv rfl rfl ?_
 refine bf hK ⟨[(0, .int .u8 p0)], []⟩ ?_
 refine AW.seq ?_
 refine AW.rgs rfl fun K hK => mv rfl rfl ?_
 refine bf hK ⟨[(0, .int .u8 p0), (3, hI 0)], []⟩ ?_
 refine AW.lpR h (by first | exact up_then | exact up_to) (S := Int) (V := Unit) (fun a v => ⟨[(0, .int .u8 p0), (3, hI a)], []⟩) ?_ (X := Unit) (W := Unit) (fun a v => ⟨[], []⟩) (fun a7 w8 h => ?_) (fun a1 w2 st3 h hr4=> ?_)
 ·exact to_L ⟨(), rfl⟩
 ·refine AW.rgs rfl fun K hK => mv rfl rfl ?_
  refine bf hK ⟨[(2, hI (-1))], []⟩ ?_
  refine AW.ret ?_
  have h := Option.some.inj h
  subst h
  exact ret_pure (hs := [hI (-1)]) (.inr rfl) (resT rfl rfl) rfl trivial
 refine AW.seq ?_
 refine AW.rgs rfl fun K hK => mv rfl rfl (bv rfl (v_bin rfl rfl b_lss) ?_)
 refine bf hK ⟨[(0, .int .u8 p0), (3, hI a1), (5, .bool (decide (a1 < 16)))], []⟩ ?_
 refine AW.cond rfl (fun hc => ?_) (fun hc => ?_)
 ·obtain ⟨hc, h⟩ := cT hc h
  refine AW.skip ?_
  refine AW.seq (AW.block ?_)
  refine AW.rgs rfl fun K hK => mv rfl rfl ?_
  obtain ⟨x5, h6, h⟩ := bS h
  refine bv rfl (v_idxS ty9 rfl rfl h6) (mv rfl rfl (bv rfl (v_bin rfl rfl b_eql) ?_))
  refine bf hK ⟨[(0, .int .u8 p0), (3, hI a1), (11, .bool (decide ((x5.toNat : Int) = p0)))], []⟩ ?_
  refine AW.cond rfl (fun hc => ?_) (fun hc => ?_)
  ·obtain ⟨hc, h⟩ := cT hc h
   refine AW.rgs rfl fun K hK => mv rfl rfl (mv rfl rfl ?_)
   refine bf hK ⟨[(2, hI a1)], []⟩ ?_
   have h := hr4 _ h
   refine AW.ret ?_
   have h := Option.some.inj h
   subst h
   exact ret_pure (hs := [hI a1]) (.inr rfl) (resT rfl rfl) rfl trivial
  obtain ⟨hc, h⟩ := cF hc h
  refine AW.skip ?_
  refine AW.rg rfl fun K hK => mv rfl rfl (bv rfl (v_bin rfl rfl b_add) (mv rfl rfl ?_))
  refine b_nil (hK _ ?_)
  exact to_L ⟨IntKind.wrap .i64 (a1 + 1), (), h, rfl⟩
 obtain ⟨hc, h⟩ := cF hc h
 refine AW.exit ?_
 exact to_L ⟨(), (), h, rfl⟩
theorem w_ref07_Check {p0 : Int} {p1 : List UInt8} {r : Int} (h : m_ref07_Check p0 p1 = some r) : Pure Try.prog 60 [hI p0, .str p1] (· = hI r) := by
 unfold m_ref07_Check at h
 refine Pure.of_body Try.func60 rfl rfl (lb rfl) fun hf => ?_
 unfold Try.f60
 dsimp only [enumS, Nat.reduceAdd]
 refine AW.rgs rfl fun K hK => mv rfl rfl ?_
 refine bf hK ⟨[(0, hI p0), (1, .str p1)], []⟩ ?_
 refine AW.seq ?_
 refine AW.seqJ h (S := Bool) (V := Unit) (fun a v => ⟨[(0, hI p0), (1, .str p1), (12, .bool a)], []⟩) (fun a1 w2 h => ?_) (fun k3 h => ?_)
 ·refine AW.cond rfl (fun hc => ?_) (fun hc => ?_)
  ·have h := ifT hc h
   refine AW.rgs rfl fun K hK => mv rfl rfl ?_
   refine bf hK ⟨[(4, hI 12)], []⟩ ?_
   refine AW.ret ?_
   have h := Option.some.inj h
   subst h
   exact ret_pure (hs := [hI 12]) (.inr rfl) (resT rfl rfl) rfl trivial
  have h := ifF (bF' hc) h
  refine AW.skip ?_
  refine AW.seq ?_
  refine AW.rgs rfl fun K hK => mv rfl rfl (bv rfl (v_lenS rfl rfl ty9 rfl) (bv rfl (v_bin rfl rfl b_gtr) ?_))
  refine bf hK ⟨[(0, hI p0), (1, .str p1), (15, .bool (decide (65536 < ((p1).length : Int))))], []⟩ ?_
  refine AW.cond rfl (fun hc => ?_) (fun hc => ?_)
  ·obtain ⟨hc, h⟩ := cT hc h
   refine AW.rgs rfl fun K hK => mv rfl rfl ?_
   refine bf hK ⟨[(4, hI 4)], []⟩ ?_
   refine AW.ret ?_
   have h := Option.some.inj h
   subst h
   exact ret_pure (hs := [hI 4]) (.inr rfl) (resT rfl rfl) rfl trivial
  obtain ⟨hc, h⟩ := cF hc h
  refine AW.skip ?_
  refine AW.seq ?_
  refine AW.rgs rfl fun K hK => mv rfl rfl ?_
  refine bf hK ⟨[(0, hI p0), (1, .str p1), (5, hI 0)], []⟩ ?_
  refine AW.lpR h (by first | exact up_then | exact up_to) (S := Int) (V := Unit) (fun a v => ⟨[(0, hI p0), (1, .str p1), (5, hI a)], []⟩) ?_ (X := Unit) (W := Unit) (fun a v => ⟨[], []⟩) (fun a16 w17 h => ?_) (fun a4 w5 st6 h hr7=> ?_)
  ·exact to_L ⟨(), rfl⟩
  ·refine AW.rgs rfl fun K hK => mv rfl rfl ?_
   refine bf hK ⟨[(4, hI 0)], []⟩ ?_
   refine AW.ret ?_
   have h := Option.some.inj h
   subst h
   exact ret_pure (hs := [hI 0]) (.inr rfl) (resT rfl rfl) rfl trivial
  refine AW.seq ?_
  refine AW.rgs rfl fun K hK => mv rfl rfl (mv rfl rfl (bv rfl (v_lenS rfl rfl ty9 rfl) (bv rfl (v_bin rfl rfl b_lss) ?_)))
  refine bf hK ⟨[(0, hI p0), (1, .str p1), (5, hI a4), (19, .bool (decide (a4 < ((p1).length : Int))))], []⟩ ?_
  refine AW.cond rfl (fun hc => ?_) (fun hc => ?_)
  ·obtain ⟨hc, h⟩ := cT hc h
   refine AW.skip ?_
   refine AW.seq (AW.block ?_)
   refine AW.rgs rfl fun K hK => mv rfl rfl (mv rfl rfl ?_)
   obtain ⟨x8, h9, h⟩ := bS h
   refine bv rfl (v_idxS ty9 rfl rfl h9) ?_
   obtain ⟨x10, h11, h⟩ := bS h
   refine b_op rfl (o_call rfl rfl rfl rfl (ACallD.pure0 (w_ref07_Digit h11)) ?_)
   refine mv rfl rfl ?_
   refine bf hK ⟨[(0, hI p0), (1, .str p1), (5, hI a4), (6, hI x10)], []⟩ ?_
   refine AW.seqJ h (S := Bool) (V := Unit) (fun a v => ⟨[(0, hI p0), (1, .str p1), (5, hI a4), (32, .bool a)], []⟩) (fun a12 w13 h => ?_) (fun k14 h => ?_)
   ·refine AW.cond rfl (fun hc => ?_) (fun hc => ?_)
    ·have h := ifT hc h
     refine AW.rgs rfl fun K hK => mv rfl rfl ?_
     refine bf hK ⟨[(4, hI 13)], []⟩ ?_
     have h := hr7 _ h
     refine AW.ret ?_
     have h := Option.some.inj h
     subst h
     exact ret_pure (hs := [hI 13]) (.inr rfl) (resT rfl rfl) rfl trivial
    have h := ifF (bF' hc) h
    refine AW.skip ?_
    refine AW.rg rfl fun K hK => mv rfl rfl (bv rfl (v_bin rfl rfl b_add) (mv rfl rfl ?_))
    refine b_nil (hK _ ?_)
    exact to_L ⟨IntKind.wrap .i64 (a4 + 1), (), h, rfl⟩
   refine AW.rg rfl fun K hK => mv rfl rfl (bv rfl (v_bin rfl rfl b_lss) (mv rfl rfl ?_))
   by_cases hg15 : x10 < 0
   ·have h := ifT hg15 h
    refine b_F rfl rfl rfl rfl rfl (decide_eq_true hg15) ?_
    refine b_F rfl rfl rfl rfl rfl rfl ?_
    refine b_F rfl rfl rfl rfl rfl rfl ?_
    refine bv rfl (v_pickT rfl rfl rfl) ?_
    refine b_nil (hK _ ?_)
    exact to_L ⟨true, (), h, rfl⟩
   have h := ifF hg15 h
   refine b_T rfl rfl rfl rfl (decide_eq_false hg15) (o_val rfl (mv_val rfl rfl).2 ?_)
   refine b_T rfl rfl rfl rfl rfl (o_val rfl (mv_val rfl rfl).2 ?_)
   refine b_T rfl rfl rfl rfl rfl (o_val rfl (v_bin rfl rfl b_geq) ?_)
   refine bv rfl (v_pickF rfl rfl rfl) ?_
   refine b_nil (hK _ ?_)
   exact to_L ⟨decide (p0 ≤ x10), (), h, rfl⟩
  obtain ⟨hc, h⟩ := cF hc h
  refine AW.exit ?_
  exact to_L ⟨(), (), h, rfl⟩
 refine AW.rg rfl fun K hK => mv rfl rfl (bv rfl (v_bin rfl rfl b_lss) (mv rfl rfl ?_))
 by_cases hg18 : p0 < 1
 ·have h := ifT hg18 h
  refine b_F rfl rfl rfl rfl rfl (decide_eq_true hg18) ?_
  refine b_F rfl rfl rfl rfl rfl rfl ?_
  refine bv rfl (v_pickT rfl rfl rfl) ?_
  refine b_nil (hK _ ?_)
  exact to_L ⟨true, (), h, rfl⟩
 have h := ifF hg18 h
 refine b_T rfl rfl rfl rfl (decide_eq_false hg18) (o_val rfl (mv_val rfl rfl).2 ?_)
 refine b_T rfl rfl rfl rfl rfl (o_val rfl (v_bin rfl rfl b_gtr) ?_)
 refine bv rfl (v_pickF rfl rfl rfl) ?_
 refine b_nil (hK _ ?_)
 exact to_L ⟨decide (16 < p0), (), h, rfl⟩
theorem w_ref54_check {p0 : TLabelsStatesEdges} {p1 : List UInt8} {r : Int} (h : m_ref54_check p0 p1 = some r) : Pure Try.prog 34 [gA p0, .str p1] (· = hI r) := by
 unfold m_ref54_check at h
 refine Pure.of_body Try.func34 rfl rfl (lb rfl) fun hf => ?_
 unfold Try.f34
 dsimp only [enumS, Nat.reduceAdd]
 refine AW.rgs rfl fun K hK => b_op rfl (o_box rfl rfl rfl ?_)
 refine mv rfl rfl ?_
 refine bf hK ⟨[(1, .str p1), (2, gF p0)], []⟩ ?_
 refine AW.seq ?_
 refine AW.rgs rfl fun K hK => bv rfl (v_loadF ty24 rfl (l_litA rfl (lb rfl) rfl)) ?_
 obtain ⟨x1, h2, h⟩ := bS h
 refine b_op rfl (o_call rfl rfl rfl rfl (ACallD.pure0 (w_ref09_Check h2)) ?_)
 refine bv rfl (v_bin rfl rfl b_neq) ?_
 refine bf hK ⟨[(1, .str p1), (2, gF p0), (7, .bool (decide (x1 ≠ 0)))], []⟩ ?_
 refine AW.cond rfl (fun hc => ?_) (fun hc => ?_)
 ·obtain ⟨hc, h⟩ := cT hc h
  refine AW.rgs rfl fun K hK => mv rfl rfl ?_
  refine bf hK ⟨[(4, hI 1)], []⟩ ?_
  refine AW.ret ?_
  have h := Option.some.inj h
  subst h
  exact ret_pure (hs := [hI 1]) (.inr rfl) (resT rfl rfl) rfl trivial
 obtain ⟨hc, h⟩ := cF hc h
 refine AW.skip ?_
 refine AW.seq ?_
 refine AW.rgs rfl fun K hK => bv rfl (v_fieldAddrF fo24_0 rfl) (bv rfl (v_loadF ty3 rfl (l_lit rfl rfl)) (bv rfl (v_bin rfl rfl b_gtr) ?_))
 refine bf hK ⟨[(1, .str p1), (2, gF p0), (10, .bool (decide (16 < p0.1)))], []⟩ ?_
 refine AW.cond rfl (fun hc => ?_) (fun hc => ?_)
 ·obtain ⟨hc, h⟩ := cT hc h
  refine AW.rgs rfl fun K hK => mv rfl rfl ?_
  refine bf hK ⟨[(4, hI 12)], []⟩ ?_
  refine AW.ret ?_
  have h := Option.some.inj h
  subst h
  exact ret_pure (hs := [hI 12]) (.inr rfl) (resT rfl rfl) rfl trivial
 obtain ⟨hc, h⟩ := cF hc h
 refine AW.skip ?_
 refine AW.seq ?_
 refine AW.rgs rfl fun K hK => mv rfl rfl (bv rfl (v_bin rfl rfl b_seql) ?_)
 refine bf hK ⟨[(1, .str p1), (2, gF p0), (12, .bool (decide (p1 = nS)))], []⟩ ?_
 refine AW.cond rfl (fun hc => ?_) (fun hc => ?_)
 ·obtain ⟨hc, h⟩ := cT hc h
  refine AW.rgs rfl fun K hK => mv rfl rfl ?_
  refine bf hK ⟨[(4, hI 5)], []⟩ ?_
  refine AW.ret ?_
  have h := Option.some.inj h
  subst h
  exact ret_pure (hs := [hI 5]) (.inr rfl) (resT rfl rfl) rfl trivial
 obtain ⟨hc, h⟩ := cF hc h
 refine AW.skip ?_
 refine AW.seq ?_
 refine AW.rgs rfl fun K hK => mv rfl rfl (bv rfl (v_lenS rfl rfl ty9 rfl) (bv rfl (v_bin rfl rfl b_gtr) ?_))
 refine bf hK ⟨[(1, .str p1), (2, gF p0), (15, .bool (decide (32 < ((p1).length : Int))))], []⟩ ?_
 refine AW.cond rfl (fun hc => ?_) (fun hc => ?_)
 ·obtain ⟨hc, h⟩ := cT hc h
  refine AW.rgs rfl fun K hK => mv rfl rfl ?_
  refine bf hK ⟨[(4, hI 4)], []⟩ ?_
  refine AW.ret ?_
  have h := Option.some.inj h
  subst h
  exact ret_pure (hs := [hI 4]) (.inr rfl) (resT rfl rfl) rfl trivial
 obtain ⟨hc, h⟩ := cF hc h
 refine AW.skip ?_
 refine AW.rgs rfl fun K hK => bv rfl (v_fieldAddrF fo24_0 rfl) (bv rfl (v_loadF ty3 rfl (l_lit rfl rfl)) (mv rfl rfl ?_))
 obtain ⟨x3, h4, h⟩ := bS h
 refine b_op rfl (o_call rfl rfl rfl rfl (ACallD.pure0 (w_ref07_Check h4)) ?_)
 refine mv rfl rfl ?_
 refine bf hK ⟨[(4, hI x3)], []⟩ ?_
 refine AW.ret ?_
 have h := Option.some.inj h
 subst h
 exact ret_pure (hs := [hI x3]) (.inr rfl) (resT rfl rfl) rfl trivial
theorem w_ref54_follow {p0 : List UInt8} {p1 : Int} {p2 : Int} {r : Int} (h : m_ref54_follow p0 p1 p2 = some r) : Pure Try.prog 61 [.str p0, hI p1, .int .u8 p2] (· = hI r) := by
 unfold m_ref54_follow at h
 refine Pure.of_body Try.func61 rfl rfl (lb rfl) fun hf => ?_
 unfold Try.f61
 dsimp only [enumS, Nat.reduceAdd]
 refine AW.rgs rfl fun K hK => mv rfl rfl ?_
 refine bf hK ⟨[(0, .str p0), (1, hI p1), (2, .int .u8 p2)], []⟩ ?_
 refine AW.dgs 8 follows rfl rfl fun K hK => ?_
 refine sm rfl rfl ?_
 refine sm rfl rfl ?_
 obtain ⟨h1, h⟩ := ifN h
 refine sv rfl (v_sliceS ty9 rfl rfl rfl h1) ?_
 refine sm rfl rfl ?_
 refine s_op rfl rfl (ops_bsl rfl rfl (as_of (cs := [.int .u8 p2]) ty64 ty5 rfl rfl rfl rfl rfl) ?_)
 refine sv rfl (v_convB (l := [p2]) ty64 ty5 ty9 rfl) ?_
 obtain ⟨h2, h⟩ := ifN h
 refine sv rfl (v_bin rfl rfl (b_sadd h2)) ?_
 refine sm rfl rfl ?_
 refine s_nil ?_
 refine bf hK ⟨[(0, .str p0), (7, .str (((p0.take (p1).toNat).drop (0 : Int).toNat) ++ ([p2].map fun (n : Int) => UInt8.ofNat n.toNat)))], []⟩ ?_
 refine AW.seq ?_
 refine AW.rgs rfl fun K hK => mv rfl rfl (bv rfl (v_lenS rfl rfl ty9 rfl) (mv rfl rfl ?_))
 refine bf hK ⟨[(0, .str p0), (7, .str (((p0.take (p1).toNat).drop (0 : Int).toNat) ++ ([p2].map fun (n : Int) => UInt8.ofNat n.toNat))), (8, hI ((p0).length : Int))], []⟩ ?_
 refine AW.lpR h (by first | exact up_then | exact up_to) (S := Int) (V := Unit) (fun a v => ⟨[(0, .str p0), (7, .str (((p0.take (p1).toNat).drop (0 : Int).toNat) ++ ([p2].map fun (n : Int) => UInt8.ofNat n.toNat))), (8, hI a)], []⟩) ?_ (X := Unit) (W := Unit) (fun a v => ⟨[], []⟩) (fun a13 w14 h => ?_) (fun a3 w4 st5 h hr6=> ?_)
 ·exact to_L ⟨(), rfl⟩
 ·refine AW.rgs rfl fun K hK => mv rfl rfl ?_
  refine bf hK ⟨[(6, hI 0)], []⟩ ?_
  refine AW.ret ?_
  have h := Option.some.inj h
  subst h
  exact ret_pure (hs := [hI 0]) (.inr rfl) (resT rfl rfl) rfl trivial
 refine AW.seq ?_
 refine AW.rgs rfl fun K hK => mv rfl rfl (bv rfl (v_bin rfl rfl b_gtr) ?_)
 refine bf hK ⟨[(0, .str p0), (7, .str (((p0.take (p1).toNat).drop (0 : Int).toNat) ++ ([p2].map fun (n : Int) => UInt8.ofNat n.toNat))), (8, hI a3), (19, .bool (decide (0 < a3)))], []⟩ ?_
 refine AW.cond rfl (fun hc => ?_) (fun hc => ?_)
 ·obtain ⟨hc, h⟩ := cT hc h
  refine AW.skip ?_
  refine AW.seq (AW.block ?_)
  refine AW.seqJ h (S := Bool) (V := Unit) (fun a v => ⟨[(0, .str p0), (7, .str (((p0.take (p1).toNat).drop (0 : Int).toNat) ++ ([p2].map fun (n : Int) => UInt8.ofNat n.toNat))), (8, hI a3), (37, .bool a)], []⟩) (fun a7 w8 h => ?_) (fun k9 h => ?_)
  ·refine AW.cond rfl (fun hc => ?_) (fun hc => ?_)
   ·have h := ifT hc h
    refine AW.rgs rfl fun K hK => mv rfl rfl (mv rfl rfl ?_)
    refine bf hK ⟨[(6, hI a3)], []⟩ ?_
    have h := hr6 _ h
    refine AW.ret ?_
    have h := Option.some.inj h
    subst h
    exact ret_pure (hs := [hI a3]) (.inr rfl) (resT rfl rfl) rfl trivial
   have h := ifF (bF' hc) h
   refine AW.skip ?_
   refine AW.rg rfl fun K hK => mv rfl rfl (bv rfl (v_bin rfl rfl b_sub) (mv rfl rfl ?_))
   refine b_nil (hK _ ?_)
   exact to_L ⟨IntKind.wrap .i64 (a3 - 1), (), h, rfl⟩
  refine AW.dg 16 follows rfl rfl fun K hK => ?_
  refine sm rfl rfl ?_
  refine sm rfl rfl ?_
  refine sv rfl (v_lenS rfl rfl ty9 rfl) ?_
  refine sv rfl (v_bin rfl rfl b_leq) ?_
  refine sm rfl rfl ?_
  by_cases hg12 : a3 ≤ ((((p0.take (p1).toNat).drop (0 : Int).toNat) ++ ([p2].map fun (n : Int) => UInt8.ofNat n.toNat)).length : Int)
  ·have h := ifT hg12 h
   refine s_T rfl rfl rfl rfl rfl (decide_eq_true hg12) (ops_val rfl (mv_val rfl rfl).2 ?_)
   refine s_T rfl rfl rfl rfl rfl rfl (ops_val rfl (mv_val rfl rfl).2 ?_)
   refine s_T rfl rfl rfl rfl rfl rfl (ops_val rfl (v_lenS rfl rfl ty9 rfl) ?_)
   refine s_T rfl rfl rfl rfl rfl rfl (ops_val rfl (mv_val rfl rfl).2 ?_)
   refine s_T rfl rfl rfl rfl rfl rfl (ops_val rfl (v_bin rfl rfl b_sub) ?_)
   obtain ⟨h10, h⟩ := ifN h
   refine s_T rfl rfl rfl rfl rfl rfl (ops_val rfl (v_sliceS ty9 rfl rfl rfl h10) ?_)
   refine s_T rfl rfl rfl rfl rfl rfl (ops_val rfl (mv_val rfl rfl).2 ?_)
   refine s_T rfl rfl rfl rfl rfl rfl (ops_val rfl (mv_val rfl rfl).2 ?_)
   obtain ⟨h11, h⟩ := ifN h
   refine s_T rfl rfl rfl rfl rfl rfl (ops_val rfl (v_sliceS ty9 rfl rfl rfl h11) ?_)
   refine s_T rfl rfl rfl rfl rfl rfl (ops_val rfl (v_bin rfl rfl b_seql) ?_)
   refine sv rfl (v_pickT rfl rfl rfl) ?_
   refine s_nil ?_
   refine b_nil (hK _ ?_)
   exact to_L ⟨decide ((((((p0.take (p1).toNat).drop (0 : Int).toNat) ++ ([p2].map fun (n : Int) => UInt8.ofNat n.toNat)).take (((((p0.take (p1).toNat).drop (0 : Int).toNat) ++ ([p2].map fun (n : Int) => UInt8.ofNat n.toNat)).length : Int)).toNat).drop (IntKind.wrap .i64 (((((p0.take (p1).toNat).drop (0 : Int).toNat) ++ ([p2].map fun (n : Int) => UInt8.ofNat n.toNat)).length : Int) - a3)).toNat) = ((p0.take (a3).toNat).drop (0 : Int).toNat)), (), h, rfl⟩
  have h := ifF hg12 h
  refine s_F rfl rfl rfl rfl rfl (decide_eq_false hg12) ?_
  refine s_F rfl rfl rfl rfl rfl rfl ?_
  refine s_F rfl rfl rfl rfl rfl rfl ?_
  refine s_F rfl rfl rfl rfl rfl rfl ?_
  refine s_F rfl rfl rfl rfl rfl rfl ?_
  refine s_F rfl rfl rfl rfl rfl rfl ?_
  refine s_F rfl rfl rfl rfl rfl rfl ?_
  refine s_F rfl rfl rfl rfl rfl rfl ?_
  refine s_F rfl rfl rfl rfl rfl rfl ?_
  refine s_F rfl rfl rfl rfl rfl rfl ?_
  refine sv rfl (v_pickF rfl rfl rfl) ?_
  refine s_nil ?_
  refine b_nil (hK _ ?_)
  exact to_L ⟨false, (), h, rfl⟩
 obtain ⟨hc, h⟩ := cF hc h
 refine AW.exit ?_
 exact to_L ⟨(), (), h, rfl⟩
theorem w_ref54_tables {p0 : List UInt8} {p1 : Int} {r : (List (List (Int))) × (List (Bool))} (h : m_ref54_tables p0 p1 = some r) : Pure Try.prog 36 [.str p0, hI p1] (· = HV.tup [slE (eSl eInt) r.1, slE eBool r.2]) := by
 unfold m_ref54_tables at h
 refine Pure.of_body Try.func36 rfl rfl (lb rfl) fun hf => ?_
 unfold Try.f36
 dsimp only [enumS, Nat.reduceAdd]
 refine AW.rgs rfl fun K hK => mv rfl rfl (mv rfl rfl ?_)
 refine bf hK ⟨[(0, .str p0), (1, hI p1)], []⟩ ?_
 refine AW.rgs rfl fun K hK => b_op rfl (o_bslM (fid := 36) 36014 rfl rfl rfl (as_of (cs := []) ty61 ty35 rfl rfl rfl rfl rfl) (fun v1 => ?_))
 refine b_op rfl (o_bslM (fid := 36) 36015 rfl rfl rfl (as_of (cs := []) ty60 ty4 rfl rfl rfl rfl rfl) (fun v2 => ?_))
 refine mv rfl rfl (mv rfl rfl ?_)
 refine bf hK ⟨[(0, .str p0), (1, hI p1), (6, .ar 36014 v1 (eSl eInt).k 0 0), (7, .ar 36015 v2 eBool.k 0 0)], [(36014, v1, .arr (eSl eInt).k 35 []), (36015, v2, .arr eBool.k 4 [])]⟩ ?_
 refine AW.seq ?_
 refine AW.rgs rfl fun K hK => mv rfl rfl ?_
 refine bf hK ⟨[(0, .str p0), (1, hI p1), (6, .ar 36014 v1 (eSl eInt).k 0 0), (7, .ar 36015 v2 eBool.k 0 0), (8, hI 0)], [(36014, v1, .arr (eSl eInt).k 35 []), (36015, v2, .arr eBool.k 4 [])]⟩ ?_
 refine AW.lpX h (by first | exact up_then | exact up_to) (S := Int × (List (List (Int))) × (List Bool)) (V := Nat × Nat) (fun a v => ⟨[(0, .str p0), (1, hI p1), (6, .ar 36014 v.1 (eSl eInt).k 0 ((a.2.1).length)), (7, .ar 36015 v.2 eBool.k 0 ((a.2.2).length)), (8, hI a.1)], [(36014, v.1, .arr (eSl eInt).k 35 ((eSl eInt).E a.2.1)), (36015, v.2, .arr eBool.k 4 (eBool.E a.2.2))]⟩) ?_ (X := (List (List (Int))) × (List Bool)) (W := Nat × Nat) (fun a v => ⟨[(6, .ar 36014 v.1 (eSl eInt).k 0 ((a.1).length)), (7, .ar 36015 v.2 eBool.k 0 ((a.2).length))], [(36014, v.1, .arr (eSl eInt).k 35 ((eSl eInt).E a.1)), (36015, v.2, .arr eBool.k 4 (eBool.E a.2))]⟩) (fun a38 w39 h => ?_) (fun a3 w4 st5 h => ?_)
 ·exact to_L ⟨(v1, v2), rfl⟩
 ·refine AW.rgs rfl fun K hK => mv rfl rfl (mv rfl rfl (mv rfl rfl (mv rfl rfl ?_)))
  refine bf hK ⟨[(4, .ar 36014 w39.1 (eSl eInt).k 0 ((a38.1).length)), (5, .ar 36015 w39.2 eBool.k 0 ((a38.2).length))], [(36014, w39.1, .arr (eSl eInt).k 35 ((eSl eInt).E a38.1)), (36015, w39.2, .arr eBool.k 4 (eBool.E a38.2))]⟩ ?_
  refine AW.to (to_frz 2 [(36014, w39.1, .arr (eSl eInt).k 35 ((eSl eInt).E a38.1))] ⟨[(4, slE (eSl eInt) a38.1), (5, .ar 36015 w39.2 eBool.k 0 ((a38.2).length))], [(36015, w39.2, .arr eBool.k 4 (eBool.E a38.2))]⟩ ⟨⟨_, rfl, frz_slE (eSl eInt) (l := a38.1) rfl fun _ _ => rfl⟩, ⟨_, rfl, rfl⟩, trivial⟩ ⟨rfl, trivial⟩ ⟨rfl, trivial⟩ ⟨rfl, trivial⟩ ?_)
  refine AW.to (to_frz 2 [(36015, w39.2, .arr eBool.k 4 (eBool.E a38.2))] ⟨[(4, slE (eSl eInt) a38.1), (5, slE eBool a38.2)], []⟩ ⟨⟨_, rfl, rfl⟩, ⟨_, rfl, frz_slE eBool (l := a38.2) rfl fun _ _ => rfl⟩, trivial⟩ trivial ⟨rfl, trivial⟩ ⟨rfl, trivial⟩ ?_)
  refine AW.ret ?_
  have h := Option.some.inj h
  subst h
  exact ret_pure (hs := [slE (eSl eInt) a38.1, slE eBool a38.2]) (.inr rfl) (resT rfl (resT rfl rfl)) rfl ⟨(clean_slE fun _ _ => ⟨(clean_slE fun _ _ => ⟨trivial, trivial⟩), trivial⟩), (clean_slE fun _ _ => ⟨trivial, trivial⟩), trivial⟩
 refine AW.seq ?_
 refine AW.rgs rfl fun K hK => mv rfl rfl (mv rfl rfl (bv rfl (v_lenS rfl rfl ty9 rfl) (bv rfl (v_bin rfl rfl b_leq) ?_)))
 refine bf hK ⟨[(0, .str p0), (1, hI p1), (6, .ar 36014 w4.1 (eSl eInt).k 0 ((a3.2.1).length)), (7, .ar 36015 w4.2 eBool.k 0 ((a3.2.2).length)), (8, hI a3.1), (19, .bool (decide (a3.1 ≤ ((p0).length : Int))))], [(36014, w4.1, .arr (eSl eInt).k 35 ((eSl eInt).E a3.2.1)), (36015, w4.2, .arr eBool.k 4 (eBool.E a3.2.2))]⟩ ?_
 refine AW.cond rfl (fun hc => ?_) (fun hc => ?_)
 ·obtain ⟨hc, h⟩ := cT hc h
  refine AW.skip ?_
  refine AW.seq (AW.block ?_)
  refine AW.rgs rfl fun K hK => b_op rfl (o_bslM (fid := 36) 36022 rfl rfl rfl (as_of (cs := []) ty35 ty3 rfl rfl rfl rfl rfl) (fun v7 => ?_))
  refine mv rfl rfl ?_
  refine bf hK ⟨[(0, .str p0), (1, hI p1), (6, .ar 36014 w4.1 (eSl eInt).k 0 ((a3.2.1).length)), (7, .ar 36015 w4.2 eBool.k 0 ((a3.2.2).length)), (8, hI a3.1), (9, .ar 36022 v7 eInt.k 0 0)], [(36014, w4.1, .arr (eSl eInt).k 35 ((eSl eInt).E a3.2.1)), (36015, w4.2, .arr eBool.k 4 (eBool.E a3.2.2)), (36022, v7, .arr eInt.k 3 [])]⟩ ?_
  refine AW.seq ?_
  refine AW.rgs rfl fun K hK => mv rfl rfl ?_
  refine bf hK ⟨[(0, .str p0), (1, hI p1), (6, .ar 36014 w4.1 (eSl eInt).k 0 ((a3.2.1).length)), (7, .ar 36015 w4.2 eBool.k 0 ((a3.2.2).length)), (8, hI a3.1), (9, .ar 36022 v7 eInt.k 0 0), (10, hI 0)], [(36014, w4.1, .arr (eSl eInt).k 35 ((eSl eInt).E a3.2.1)), (36015, w4.2, .arr eBool.k 4 (eBool.E a3.2.2)), (36022, v7, .arr eInt.k 3 [])]⟩ ?_
  refine AW.lpX h (by first | exact up_then | exact up_to) (S := Int × (List Int)) (V := Nat) (fun a v => ⟨[(0, .str p0), (1, hI p1), (6, .ar 36014 w4.1 (eSl eInt).k 0 ((a3.2.1).length)), (7, .ar 36015 w4.2 eBool.k 0 ((a3.2.2).length)), (8, hI a3.1), (9, .ar 36022 v eInt.k 0 ((a.2).length)), (10, hI a.1)], [(36014, w4.1, .arr (eSl eInt).k 35 ((eSl eInt).E a3.2.1)), (36015, w4.2, .arr eBool.k 4 (eBool.E a3.2.2)), (36022, v, .arr eInt.k 3 (eInt.E a.2))]⟩) ?_ (X := (List Int)) (W := Nat) (fun a v => ⟨[(0, .str p0), (1, hI p1), (6, .ar 36014 w4.1 (eSl eInt).k 0 ((a3.2.1).length)), (7, .ar 36015 w4.2 eBool.k 0 ((a3.2.2).length)), (8, hI a3.1), (9, .ar 36022 v eInt.k 0 ((a).length))], [(36014, w4.1, .arr (eSl eInt).k 35 ((eSl eInt).E a3.2.1)), (36015, w4.2, .arr eBool.k 4 (eBool.E a3.2.2)), (36022, v, .arr eInt.k 3 (eInt.E a))]⟩) (fun a18 w19 h => ?_) (fun a8 w9 st10 h => ?_)
  ·exact to_L ⟨v7, rfl⟩
  ·refine AW.to (to_frz 2 [(36022, w19, .arr eInt.k 3 (eInt.E a18))] ⟨[(0, .str p0), (1, hI p1), (6, .ar 36014 w4.1 (eSl eInt).k 0 ((a3.2.1).length)), (7, .ar 36015 w4.2 eBool.k 0 ((a3.2.2).length)), (8, hI a3.1), (9, slE eInt a18)], [(36014, w4.1, .arr (eSl eInt).k 35 ((eSl eInt).E a3.2.1)), (36015, w4.2, .arr eBool.k 4 (eBool.E a3.2.2))]⟩ ⟨⟨_, rfl, rfl⟩, ⟨_, rfl, rfl⟩, ⟨_, rfl, rfl⟩, ⟨_, rfl, rfl⟩, ⟨_, rfl, rfl⟩, ⟨_, rfl, frz_slE eInt (l := a18) rfl fun _ _ => rfl⟩, trivial⟩ ⟨rfl, rfl, trivial⟩ ⟨rfl, trivial⟩ ⟨rfl, trivial⟩ ?_)
   refine AW.rgs rfl fun K hK => mv rfl rfl (mv rfl rfl ?_)
   refine b_op rfl (o_bsl rfl rfl (as_of (cs := [slE eInt a18]) ty61 ty35 rfl rfl rfl rfl rfl) ?_)
   obtain ⟨h21, h⟩ := ifN h
   refine b_op rfl (o_appE (eSl eInt) (l := a3.2.1) (m := [a18]) rfl rfl ty61 ty61 ty35 rfl rfl rfl rfl rfl h21 (fun v20 => ?_))
   refine mv rfl rfl ?_
   refine bf hK ⟨[(0, .str p0), (1, hI p1), (6, .ar 36014 v20 (eSl eInt).k 0 ((a3.2.1 ++ [a18]).length)), (7, .ar 36015 w4.2 eBool.k 0 ((a3.2.2).length)), (8, hI a3.1)], [(36014, v20, .arr (eSl eInt).k 35 ((eSl eInt).E (a3.2.1 ++ [a18]))), (36015, w4.2, .arr eBool.k 4 (eBool.E a3.2.2))]⟩ ?_
   refine AW.rgs rfl fun K hK => mv rfl rfl (mv rfl rfl (mv rfl rfl ?_))
   refine bf hK ⟨[(0, .str p0), (1, hI p1), (6, .ar 36014 v20 (eSl eInt).k 0 ((a3.2.1 ++ [a18]).length)), (7, .ar 36015 w4.2 eBool.k 0 ((a3.2.2).length)), (8, hI a3.1), (11, .bool false), (12, hI a3.1)], [(36014, v20, .arr (eSl eInt).k 35 ((eSl eInt).E (a3.2.1 ++ [a18]))), (36015, w4.2, .arr eBool.k 4 (eBool.E a3.2.2))]⟩ ?_
   refine AW.seq ?_
   refine AW.rgs rfl fun K hK => mv rfl rfl ?_
   refine bf hK ⟨[(0, .str p0), (1, hI p1), (6, .ar 36014 v20 (eSl eInt).k 0 ((a3.2.1 ++ [a18]).length)), (7, .ar 36015 w4.2 eBool.k 0 ((a3.2.2).length)), (8, hI a3.1), (11, .bool false), (12, hI a3.1), (13, hI 0)], [(36014, v20, .arr (eSl eInt).k 35 ((eSl eInt).E (a3.2.1 ++ [a18]))), (36015, w4.2, .arr eBool.k 4 (eBool.E a3.2.2))]⟩ ?_
   refine AW.lpX h (by first | exact up_then | exact up_to) (S := Bool × Int × Int) (V := Unit) (fun a v => ⟨[(0, .str p0), (1, hI p1), (6, .ar 36014 v20 (eSl eInt).k 0 ((a3.2.1 ++ [a18]).length)), (7, .ar 36015 w4.2 eBool.k 0 ((a3.2.2).length)), (8, hI a3.1), (11, .bool a.1), (12, hI a.2.1), (13, hI a.2.2)], [(36014, v20, .arr (eSl eInt).k 35 ((eSl eInt).E (a3.2.1 ++ [a18]))), (36015, w4.2, .arr eBool.k 4 (eBool.E a3.2.2))]⟩) ?_ (X := Bool) (W := Unit) (fun a v => ⟨[(0, .str p0), (1, hI p1), (6, .ar 36014 v20 (eSl eInt).k 0 ((a3.2.1 ++ [a18]).length)), (7, .ar 36015 w4.2 eBool.k 0 ((a3.2.2).length)), (8, hI a3.1), (11, .bool a)], [(36014, v20, .arr (eSl eInt).k 35 ((eSl eInt).E (a3.2.1 ++ [a18]))), (36015, w4.2, .arr eBool.k 4 (eBool.E a3.2.2))]⟩) (fun a34 w35 h => ?_) (fun a22 w23 st24 h => ?_)
   ·exact to_L ⟨(), rfl⟩
   ·refine AW.rg rfl fun K hK => mv rfl rfl (mv rfl rfl ?_)
    refine b_op rfl (o_bsl rfl rfl (as_of (cs := [.bool a34]) ty60 ty4 rfl rfl rfl rfl rfl) ?_)
    obtain ⟨h37, h⟩ := ifN h
    refine b_op rfl (o_appE eBool (l := a3.2.2) (m := [a34]) rfl rfl ty60 ty60 ty4 rfl rfl rfl rfl rfl h37 (fun v36 => ?_))
    refine mv rfl rfl ?_
    refine bf hK ⟨[(0, .str p0), (1, hI p1), (6, .ar 36014 v20 (eSl eInt).k 0 ((a3.2.1 ++ [a18]).length)), (7, .ar 36015 v36 eBool.k 0 ((a3.2.2 ++ [a34]).length)), (8, hI a3.1)], [(36014, v20, .arr (eSl eInt).k 35 ((eSl eInt).E (a3.2.1 ++ [a18]))), (36015, v36, .arr eBool.k 4 (eBool.E (a3.2.2 ++ [a34])))]⟩ ?_
    refine AW.rg rfl fun K hK => mv rfl rfl (bv rfl (v_bin rfl rfl b_add) (mv rfl rfl ?_))
    refine b_nil (hK _ ?_)
    exact to_L ⟨(IntKind.wrap .i64 (a3.1 + 1), a3.2.1 ++ [a18], a3.2.2 ++ [a34]), (v20, v36), h, rfl⟩
   refine AW.seq ?_
   refine AW.rgs rfl fun K hK => mv rfl rfl (bv rfl (v_bin rfl rfl b_add) (mv rfl rfl (bv rfl (v_lenS rfl rfl ty9 rfl) (bv rfl (v_bin rfl rfl b_lss) ?_))))
   refine bf hK ⟨[(0, .str p0), (1, hI p1), (6, .ar 36014 v20 (eSl eInt).k 0 ((a3.2.1 ++ [a18]).length)), (7, .ar 36015 w4.2 eBool.k 0 ((a3.2.2).length)), (8, hI a3.1), (11, .bool a22.1), (12, hI a22.2.1), (13, hI a22.2.2), (45, .bool (decide ((IntKind.wrap .i64 (a22.2.2 + 1)) < ((p0).length : Int))))], [(36014, v20, .arr (eSl eInt).k 35 ((eSl eInt).E (a3.2.1 ++ [a18]))), (36015, w4.2, .arr eBool.k 4 (eBool.E a3.2.2))]⟩ ?_
   refine AW.cond rfl (fun hc => ?_) (fun hc => ?_)
   ·obtain ⟨hc, h⟩ := cT hc h
    refine AW.skip ?_
    refine AW.seqJ h (S := Bool × Int) (V := Unit) (fun a v => ⟨[(0, .str p0), (1, hI p1), (6, .ar 36014 v20 (eSl eInt).k 0 ((a3.2.1 ++ [a18]).length)), (7, .ar 36015 w4.2 eBool.k 0 ((a3.2.2).length)), (8, hI a3.1), (11, .bool a.1), (12, hI a.2), (13, hI a22.2.2)], [(36014, v20, .arr (eSl eInt).k 35 ((eSl eInt).E (a3.2.1 ++ [a18]))), (36015, w4.2, .arr eBool.k 4 (eBool.E a3.2.2))]⟩) (fun a26 w27 h => ?_) (fun k28 h => ?_)
    ·refine AW.rg rfl fun K hK => mv rfl rfl (bv rfl (v_bin rfl rfl b_add) (mv rfl rfl ?_))
     refine b_nil (hK _ ?_)
     exact to_L ⟨(a26.1, a26.2, IntKind.wrap .i64 (a22.2.2 + 1)), (), h, rfl⟩
    refine AW.block ?_
    refine AW.rgs rfl fun K hK => mv rfl rfl (mv rfl rfl (mv rfl rfl (mv rfl rfl ?_)))
    obtain ⟨x29, h30, h⟩ := bS h
    refine bv rfl (v_idxS ty9 rfl rfl h30) ?_
    obtain ⟨x31, h32, h⟩ := bS h
    refine b_op rfl (o_call rfl rfl rfl rfl (ACallD.pure0 (w_ref54_follow h32)) ?_)
    refine mv rfl rfl ?_
    refine bf hK ⟨[(0, .str p0), (1, hI p1), (6, .ar 36014 v20 (eSl eInt).k 0 ((a3.2.1 ++ [a18]).length)), (7, .ar 36015 w4.2 eBool.k 0 ((a3.2.2).length)), (8, hI a3.1), (11, .bool a22.1), (12, hI x31), (13, hI a22.2.2)], [(36014, v20, .arr (eSl eInt).k 35 ((eSl eInt).E (a3.2.1 ++ [a18]))), (36015, w4.2, .arr eBool.k 4 (eBool.E a3.2.2))]⟩ ?_
    refine AW.rg rfl fun K hK => mv rfl rfl (mv rfl rfl ?_)
    by_cases hg33 : a22.1 = true
    ·have h := ifT hg33 h
     refine b_F rfl rfl rfl rfl rfl hg33 ?_
     refine b_F rfl rfl rfl rfl rfl rfl ?_
     refine b_F rfl rfl rfl rfl rfl rfl ?_
     refine b_F rfl rfl rfl rfl rfl rfl ?_
     refine bv rfl (v_pickT rfl rfl rfl) (mv rfl rfl ?_)
     refine b_nil (hK _ ?_)
     exact to_L ⟨(true, x31), (), h, rfl⟩
    have h := ifF hg33 h
    refine b_T rfl rfl rfl rfl (bF hg33) (o_val rfl (mv_val rfl rfl).2 ?_)
    refine b_T rfl rfl rfl rfl rfl (o_val rfl (mv_val rfl rfl).2 ?_)
    refine b_T rfl rfl rfl rfl rfl (o_val rfl (v_lenS rfl rfl ty9 rfl) ?_)
    refine b_T rfl rfl rfl rfl rfl (o_val rfl (v_bin rfl rfl b_eql) ?_)
    refine bv rfl (v_pickF rfl rfl rfl) (mv rfl rfl ?_)
    refine b_nil (hK _ ?_)
    exact to_L ⟨(decide (x31 = ((p0).length : Int)), x31), (), h, rfl⟩
   obtain ⟨hc, h⟩ := cF hc h
   refine AW.exit ?_
   exact to_L ⟨a22.1, (), h, rfl⟩
  refine AW.seq ?_
  refine AW.rgs rfl fun K hK => mv rfl rfl (mv rfl rfl (bv rfl (v_bin rfl rfl b_lss) ?_))
  refine bf hK ⟨[(0, .str p0), (1, hI p1), (6, .ar 36014 w4.1 (eSl eInt).k 0 ((a3.2.1).length)), (7, .ar 36015 w4.2 eBool.k 0 ((a3.2.2).length)), (8, hI a3.1), (9, .ar 36022 w9 eInt.k 0 ((a8.2).length)), (10, hI a8.1), (25, .bool (decide (a8.1 < p1)))], [(36014, w4.1, .arr (eSl eInt).k 35 ((eSl eInt).E a3.2.1)), (36015, w4.2, .arr eBool.k 4 (eBool.E a3.2.2)), (36022, w9, .arr eInt.k 3 (eInt.E a8.2))]⟩ ?_
  refine AW.cond rfl (fun hc => ?_) (fun hc => ?_)
  ·obtain ⟨hc, h⟩ := cT hc h
   refine AW.skip ?_
   refine AW.seq (AW.block ?_)
   refine AW.rg rfl fun K hK => mv rfl rfl (mv rfl rfl (mv rfl rfl (mv rfl rfl ?_)))
   obtain ⟨x12, h13, h⟩ := bS h
   refine bv rfl (v_idxS ty9 rfl rfl h13) ?_
   obtain ⟨x14, h15, h⟩ := bS h
   refine b_op rfl (o_call rfl rfl rfl rfl (ACallD.pure0 (w_ref54_follow h15)) ?_)
   refine b_op rfl (o_bsl rfl rfl (as_of (cs := [hI x14]) ty35 ty3 rfl rfl rfl rfl rfl) ?_)
   obtain ⟨h17, h⟩ := ifN h
   refine b_op rfl (o_appE eInt (l := a8.2) (m := [x14]) rfl rfl ty35 ty35 ty3 rfl rfl rfl rfl rfl h17 (fun v16 => ?_))
   refine mv rfl rfl ?_
   refine bf hK ⟨[(0, .str p0), (1, hI p1), (6, .ar 36014 w4.1 (eSl eInt).k 0 ((a3.2.1).length)), (7, .ar 36015 w4.2 eBool.k 0 ((a3.2.2).length)), (8, hI a3.1), (9, .ar 36022 v16 eInt.k 0 ((a8.2 ++ [x14]).length)), (10, hI a8.1)], [(36014, w4.1, .arr (eSl eInt).k 35 ((eSl eInt).E a3.2.1)), (36015, w4.2, .arr eBool.k 4 (eBool.E a3.2.2)), (36022, v16, .arr eInt.k 3 (eInt.E (a8.2 ++ [x14])))]⟩ ?_
   refine AW.rg rfl fun K hK => mv rfl rfl (bv rfl (v_bin rfl rfl b_add) (mv rfl rfl ?_))
   refine b_nil (hK _ ?_)
   exact to_L ⟨(IntKind.wrap .i64 (a8.1 + 1), a8.2 ++ [x14]), v16, h, rfl⟩
  obtain ⟨hc, h⟩ := cF hc h
  refine AW.exit ?_
  exact to_L ⟨a8.2, w9, h, rfl⟩
 obtain ⟨hc, h⟩ := cF hc h
 refine AW.exit ?_
 exact to_L ⟨(a3.2.1, a3.2.2), (w4.1, w4.2), h, rfl⟩
theorem w_ref54_can {p0 : TLabelsStatesEdges} {p1 : List UInt8} {p2 : Int} {r : (List (List (Bool)))} (h : m_ref54_can p0 p1 p2 = some r) : Pure Try.prog 35 [gA p0, .str p1, hI p2] (· = slE (eSl eBool) r) := by
 unfold m_ref54_can at h
 refine Pure.of_body Try.func35 rfl rfl (lb rfl) fun hf => ?_
 unfold Try.f35
 dsimp only [enumS, Nat.reduceAdd]
 refine AW.rgs rfl fun K hK => b_op rfl (o_box rfl rfl rfl ?_)
 refine mv rfl rfl ?_
 refine bf hK ⟨[(1, .str p1), (2, hI p2), (3, gF p0)], []⟩ ?_
 refine AW.rgs rfl fun K hK => mv rfl rfl (bv rfl (v_fieldAddrF fo24_0 rfl) (bv rfl (v_loadF ty3 rfl (l_lit rfl rfl)) ?_))
 obtain ⟨x1, h2, h⟩ := bS h
 refine b_op rfl (o_call rfl rfl rfl rfl (ACallD.pure0 (w_ref54_tables h2)) ?_)
 refine mv rfl rfl (bv rfl (v_extract rfl rfl) (bv rfl (v_extract rfl rfl) (mv rfl rfl (mv rfl rfl ?_))))
 refine bf hK ⟨[(1, .str p1), (2, hI p2), (3, gF p0), (7, slE (eSl eInt) x1.1), (8, slE eBool x1.2)], []⟩ ?_
 refine AW.rgs rfl fun K hK => mv rfl rfl (bv rfl (v_lenS rfl rfl ty9 rfl) (mv rfl rfl ?_))
 refine bf hK ⟨[(2, hI p2), (3, gF p0), (7, slE (eSl eInt) x1.1), (8, slE eBool x1.2), (9, hI ((p1).length : Int))], []⟩ ?_
 refine AW.rgs rfl fun K hK => bv rfl (v_fieldAddrF fo24_1 rfl) (bv rfl (v_loadF ty3 rfl (l_lit rfl rfl)) (mv rfl rfl (bv rfl (v_bin rfl rfl b_add) (bv rfl (v_bin rfl rfl b_mul) (bv rfl (v_bin rfl rfl b_mul) ?_)))))
 refine mv rfl rfl ?_
 refine bf hK ⟨[(2, hI p2), (3, gF p0), (7, slE (eSl eInt) x1.1), (8, slE eBool x1.2), (9, hI ((p1).length : Int)), (10, hI (IntKind.wrap .i64 ((IntKind.wrap .i64 (p0.2.1 * (IntKind.wrap .i64 (((p1).length : Int) + 1)))) * 2)))], []⟩ ?_
 refine AW.rgs rfl fun K hK => mv rfl rfl ?_
 obtain ⟨h4, h⟩ := ifN h
 refine b_op rfl (o_makeE (fid := 35) eBool (false : Bool) 35039 rfl rfl ty60 rfl rfl ty4 rfl rfl h4 (fun v3 => ?_))
 refine mv rfl rfl ?_
 refine bf hK ⟨[(2, hI p2), (3, gF p0), (7, slE (eSl eInt) x1.1), (8, slE eBool x1.2), (9, hI ((p1).length : Int)), (10, hI (IntKind.wrap .i64 ((IntKind.wrap .i64 (p0.2.1 * (IntKind.wrap .i64 (((p1).length : Int) + 1)))) * 2))), (11, .ar 35039 v3 eBool.k 0 ((List.replicate (IntKind.wrap .i64 ((IntKind.wrap .i64 (p0.2.1 * (IntKind.wrap .i64 (((p1).length : Int) + 1)))) * 2)).toNat (false : Bool)).length))], [(35039, v3, .arr eBool.k 4 (eBool.E (List.replicate (IntKind.wrap .i64 ((IntKind.wrap .i64 (p0.2.1 * (IntKind.wrap .i64 (((p1).length : Int) + 1)))) * 2)).toNat (false : Bool))))]⟩ ?_
 refine AW.seq ?_
 refine AW.rgs rfl fun K hK => mv rfl rfl ?_
 refine bf hK ⟨[(2, hI p2), (3, gF p0), (7, slE (eSl eInt) x1.1), (8, slE eBool x1.2), (9, hI ((p1).length : Int)), (10, hI (IntKind.wrap .i64 ((IntKind.wrap .i64 (p0.2.1 * (IntKind.wrap .i64 (((p1).length : Int) + 1)))) * 2))), (11, .ar 35039 v3 eBool.k 0 ((List.replicate (IntKind.wrap .i64 ((IntKind.wrap .i64 (p0.2.1 * (IntKind.wrap .i64 (((p1).length : Int) + 1)))) * 2)).toNat (false : Bool)).length)), (12, hI 0)], [(35039, v3, .arr eBool.k 4 (eBool.E (List.replicate (IntKind.wrap .i64 ((IntKind.wrap .i64 (p0.2.1 * (IntKind.wrap .i64 (((p1).length : Int) + 1)))) * 2)).toNat (false : Bool))))]⟩ ?_
 refine AW.lpX h (by first | exact up_then | exact up_to) (S := Int × (List Bool)) (V := Unit) (fun a v => ⟨[(2, hI p2), (3, gF p0), (7, slE (eSl eInt) x1.1), (8, slE eBool x1.2), (9, hI ((p1).length : Int)), (10, hI (IntKind.wrap .i64 ((IntKind.wrap .i64 (p0.2.1 * (IntKind.wrap .i64 (((p1).length : Int) + 1)))) * 2))), (11, .ar 35039 v3 eBool.k 0 ((a.2).length)), (12, hI a.1)], [(35039, v3, .arr eBool.k 4 (eBool.E a.2))]⟩) ?_ (X := (List Bool)) (W := Unit) (fun a v => ⟨[(2, hI p2), (3, gF p0), (7, slE (eSl eInt) x1.1), (9, hI ((p1).length : Int)), (10, hI (IntKind.wrap .i64 ((IntKind.wrap .i64 (p0.2.1 * (IntKind.wrap .i64 (((p1).length : Int) + 1)))) * 2))), (11, .ar 35039 v3 eBool.k 0 ((a).length))], [(35039, v3, .arr eBool.k 4 (eBool.E a))]⟩) (fun a21 w22 h => ?_) (fun a5 w6 st7 h => ?_)
 ·exact to_L ⟨(), rfl⟩
 ·refine AW.to (to_frz 2 [(35039, v3, .arr eBool.k 4 (eBool.E a21))] ⟨[(2, hI p2), (3, gF p0), (7, slE (eSl eInt) x1.1), (9, hI ((p1).length : Int)), (10, hI (IntKind.wrap .i64 ((IntKind.wrap .i64 (p0.2.1 * (IntKind.wrap .i64 (((p1).length : Int) + 1)))) * 2))), (11, slE eBool a21)], []⟩ ⟨⟨_, rfl, rfl⟩, ⟨_, rfl, rfl⟩, ⟨_, rfl, rfl⟩, ⟨_, rfl, rfl⟩, ⟨_, rfl, rfl⟩, ⟨_, rfl, frz_slE eBool (l := a21) rfl fun _ _ => rfl⟩, trivial⟩ trivial ⟨rfl, trivial⟩ ⟨rfl, trivial⟩ ?_)
  refine AW.rgs rfl fun K hK => mv rfl rfl ?_
  refine b_op rfl (o_bslM (fid := 35) 35075 rfl rfl rfl (as_of (cs := [slE eBool a21]) ty58 ty60 rfl rfl rfl rfl rfl) (fun v23 => ?_))
  refine mv rfl rfl ?_
  refine bf hK ⟨[(2, hI p2), (3, gF p0), (7, slE (eSl eInt) x1.1), (9, hI ((p1).length : Int)), (10, hI (IntKind.wrap .i64 ((IntKind.wrap .i64 (p0.2.1 * (IntKind.wrap .i64 (((p1).length : Int) + 1)))) * 2))), (14, .ar 35075 v23 (eSl eBool).k 0 (([a21]).length))], [(35075, v23, .arr (eSl eBool).k 60 ((eSl eBool).E [a21]))]⟩ ?_
  refine AW.seq ?_
  refine AW.rgs rfl fun K hK => mv rfl rfl ?_
  refine bf hK ⟨[(2, hI p2), (3, gF p0), (7, slE (eSl eInt) x1.1), (9, hI ((p1).length : Int)), (10, hI (IntKind.wrap .i64 ((IntKind.wrap .i64 (p0.2.1 * (IntKind.wrap .i64 (((p1).length : Int) + 1)))) * 2))), (14, .ar 35075 v23 (eSl eBool).k 0 (([a21]).length)), (15, hI 0)], [(35075, v23, .arr (eSl eBool).k 60 ((eSl eBool).E [a21]))]⟩ ?_
  refine AW.lpX h (by first | exact up_then | exact up_to) (S := Int × (List (List (Bool)))) (V := Nat) (fun a v => ⟨[(2, hI p2), (3, gF p0), (7, slE (eSl eInt) x1.1), (9, hI ((p1).length : Int)), (10, hI (IntKind.wrap .i64 ((IntKind.wrap .i64 (p0.2.1 * (IntKind.wrap .i64 (((p1).length : Int) + 1)))) * 2))), (14, .ar 35075 v (eSl eBool).k 0 ((a.2).length)), (15, hI a.1)], [(35075, v, .arr (eSl eBool).k 60 ((eSl eBool).E a.2))]⟩) ?_ (X := (List (List (Bool)))) (W := Nat) (fun a v => ⟨[(14, .ar 35075 v (eSl eBool).k 0 ((a).length))], [(35075, v, .arr (eSl eBool).k 60 ((eSl eBool).E a))]⟩) (fun a71 w72 h => ?_) (fun a24 w25 st26 h => ?_)
  ·exact to_L ⟨v23, rfl⟩
  ·refine AW.rgs rfl fun K hK => mv rfl rfl (mv rfl rfl ?_)
   refine bf hK ⟨[(6, .ar 35075 w72 (eSl eBool).k 0 ((a71).length))], [(35075, w72, .arr (eSl eBool).k 60 ((eSl eBool).E a71))]⟩ ?_
   refine AW.to (to_frz 2 [(35075, w72, .arr (eSl eBool).k 60 ((eSl eBool).E a71))] ⟨[(6, slE (eSl eBool) a71)], []⟩ ⟨⟨_, rfl, frz_slE (eSl eBool) (l := a71) rfl fun _ _ => rfl⟩, trivial⟩ trivial ⟨rfl, trivial⟩ ⟨rfl, trivial⟩ ?_)
   refine AW.ret ?_
   have h := Option.some.inj h
   subst h
   exact ret_pure (hs := [slE (eSl eBool) a71]) (.inr rfl) (resT rfl rfl) rfl (clean_slE fun _ _ => ⟨(clean_slE fun _ _ => ⟨trivial, trivial⟩), trivial⟩)
  refine AW.seq ?_
  refine AW.rgs rfl fun K hK => mv rfl rfl (mv rfl rfl (bv rfl (v_bin rfl rfl b_lss) ?_))
  refine bf hK ⟨[(2, hI p2), (3, gF p0), (7, slE (eSl eInt) x1.1), (9, hI ((p1).length : Int)), (10, hI (IntKind.wrap .i64 ((IntKind.wrap .i64 (p0.2.1 * (IntKind.wrap .i64 (((p1).length : Int) + 1)))) * 2))), (14, .ar 35075 w25 (eSl eBool).k 0 ((a24.2).length)), (15, hI a24.1), (78, .bool (decide (a24.1 < p2)))], [(35075, w25, .arr (eSl eBool).k 60 ((eSl eBool).E a24.2))]⟩ ?_
  refine AW.cond rfl (fun hc => ?_) (fun hc => ?_)
  ·obtain ⟨hc, h⟩ := cT hc h
   refine AW.skip ?_
   refine AW.seq (AW.block ?_)
   refine AW.rgs rfl fun K hK => mv rfl rfl ?_
   obtain ⟨h29, h⟩ := ifN h
   refine b_op rfl (o_makeE (fid := 35) eBool (false : Bool) 35082 rfl rfl ty60 rfl rfl ty4 rfl rfl h29 (fun v28 => ?_))
   refine mv rfl rfl ?_
   refine bf hK ⟨[(2, hI p2), (3, gF p0), (7, slE (eSl eInt) x1.1), (9, hI ((p1).length : Int)), (10, hI (IntKind.wrap .i64 ((IntKind.wrap .i64 (p0.2.1 * (IntKind.wrap .i64 (((p1).length : Int) + 1)))) * 2))), (14, .ar 35075 w25 (eSl eBool).k 0 ((a24.2).length)), (15, hI a24.1), (16, .ar 35082 v28 eBool.k 0 ((List.replicate (IntKind.wrap .i64 ((IntKind.wrap .i64 (p0.2.1 * (IntKind.wrap .i64 (((p1).length : Int) + 1)))) * 2)).toNat (false : Bool)).length))], [(35075, w25, .arr (eSl eBool).k 60 ((eSl eBool).E a24.2)), (35082, v28, .arr eBool.k 4 (eBool.E (List.replicate (IntKind.wrap .i64 ((IntKind.wrap .i64 (p0.2.1 * (IntKind.wrap .i64 (((p1).length : Int) + 1)))) * 2)).toNat (false : Bool))))]⟩ ?_
   refine AW.seq ?_
   refine AW.rgs rfl fun K hK => mv rfl rfl ?_
   refine bf hK ⟨[(2, hI p2), (3, gF p0), (7, slE (eSl eInt) x1.1), (9, hI ((p1).length : Int)), (10, hI (IntKind.wrap .i64 ((IntKind.wrap .i64 (p0.2.1 * (IntKind.wrap .i64 (((p1).length : Int) + 1)))) * 2))), (14, .ar 35075 w25 (eSl eBool).k 0 ((a24.2).length)), (15, hI a24.1), (16, .ar 35082 v28 eBool.k 0 ((List.replicate (IntKind.wrap .i64 ((IntKind.wrap .i64 (p0.2.1 * (IntKind.wrap .i64 (((p1).length : Int) + 1)))) * 2)).toNat (false : Bool)).length)), (17, hI 0)], [(35075, w25, .arr (eSl eBool).k 60 ((eSl eBool).E a24.2)), (35082, v28, .arr eBool.k 4 (eBool.E (List.replicate (IntKind.wrap .i64 ((IntKind.wrap .i64 (p0.2.1 * (IntKind.wrap .i64 (((p1).length : Int) + 1)))) * 2)).toNat (false : Bool))))]⟩ ?_
   refine AW.lpX h (by first | exact up_then | exact up_to) (S := Int × (List Bool)) (V := Unit) (fun a v => ⟨[(2, hI p2), (3, gF p0), (7, slE (eSl eInt) x1.1), (9, hI ((p1).length : Int)), (10, hI (IntKind.wrap .i64 ((IntKind.wrap .i64 (p0.2.1 * (IntKind.wrap .i64 (((p1).length : Int) + 1)))) * 2))), (14, .ar 35075 w25 (eSl eBool).k 0 ((a24.2).length)), (15, hI a24.1), (16, .ar 35082 v28 eBool.k 0 ((a.2).length)), (17, hI a.1)], [(35075, w25, .arr (eSl eBool).k 60 ((eSl eBool).E a24.2)), (35082, v28, .arr eBool.k 4 (eBool.E a.2))]⟩) ?_ (X := (List Bool)) (W := Unit) (fun a v => ⟨[(2, hI p2), (3, gF p0), (7, slE (eSl eInt) x1.1), (9, hI ((p1).length : Int)), (10, hI (IntKind.wrap .i64 ((IntKind.wrap .i64 (p0.2.1 * (IntKind.wrap .i64 (((p1).length : Int) + 1)))) * 2))), (14, .ar 35075 w25 (eSl eBool).k 0 ((a24.2).length)), (15, hI a24.1), (16, .ar 35082 v28 eBool.k 0 ((a).length))], [(35075, w25, .arr (eSl eBool).k 60 ((eSl eBool).E a24.2)), (35082, v28, .arr eBool.k 4 (eBool.E a))]⟩) (fun a67 w68 h => ?_) (fun a30 w31 st32 h => ?_)
   ·exact to_L ⟨(), rfl⟩
   ·refine AW.to (to_frz 2 [(35082, v28, .arr eBool.k 4 (eBool.E a67))] ⟨[(2, hI p2), (3, gF p0), (7, slE (eSl eInt) x1.1), (9, hI ((p1).length : Int)), (10, hI (IntKind.wrap .i64 ((IntKind.wrap .i64 (p0.2.1 * (IntKind.wrap .i64 (((p1).length : Int) + 1)))) * 2))), (14, .ar 35075 w25 (eSl eBool).k 0 ((a24.2).length)), (15, hI a24.1), (16, slE eBool a67)], [(35075, w25, .arr (eSl eBool).k 60 ((eSl eBool).E a24.2))]⟩ ⟨⟨_, rfl, rfl⟩, ⟨_, rfl, rfl⟩, ⟨_, rfl, rfl⟩, ⟨_, rfl, rfl⟩, ⟨_, rfl, rfl⟩, ⟨_, rfl, rfl⟩, ⟨_, rfl, rfl⟩, ⟨_, rfl, frz_slE eBool (l := a67) rfl fun _ _ => rfl⟩, trivial⟩ ⟨rfl, trivial⟩ ⟨rfl, trivial⟩ ⟨rfl, trivial⟩ ?_)
    refine AW.rg rfl fun K hK => mv rfl rfl (mv rfl rfl ?_)
    refine b_op rfl (o_bsl rfl rfl (as_of (cs := [slE eBool a67]) ty58 ty60 rfl rfl rfl rfl rfl) ?_)
    obtain ⟨h70, h⟩ := ifN h
    refine b_op rfl (o_appE (eSl eBool) (l := a24.2) (m := [a67]) rfl rfl ty58 ty58 ty60 rfl rfl rfl rfl rfl h70 (fun v69 => ?_))
    refine mv rfl rfl ?_
    refine bf hK ⟨[(2, hI p2), (3, gF p0), (7, slE (eSl eInt) x1.1), (9, hI ((p1).length : Int)), (10, hI (IntKind.wrap .i64 ((IntKind.wrap .i64 (p0.2.1 * (IntKind.wrap .i64 (((p1).length : Int) + 1)))) * 2))), (14, .ar 35075 v69 (eSl eBool).k 0 ((a24.2 ++ [a67]).length)), (15, hI a24.1)], [(35075, v69, .arr (eSl eBool).k 60 ((eSl eBool).E (a24.2 ++ [a67])))]⟩ ?_
    refine AW.rg rfl fun K hK => mv rfl rfl (bv rfl (v_bin rfl rfl b_add) (mv rfl rfl ?_))
    refine b_nil (hK _ ?_)
    exact to_L ⟨(IntKind.wrap .i64 (a24.1 + 1), a24.2 ++ [a67]), v69, h, rfl⟩
   refine AW.seq ?_
   refine AW.rgs rfl fun K hK => mv rfl rfl (bv rfl (v_fieldAddrF fo24_2 rfl) (bv rfl (v_loadF ty22 rfl (l_lit rfl rfl)) (bv rfl (v_lenF rfl rfl ty22 rfl) (bv rfl (v_bin rfl rfl b_lss) ?_))))
   refine bf hK ⟨[(2, hI p2), (3, gF p0), (7, slE (eSl eInt) x1.1), (9, hI ((p1).length : Int)), (10, hI (IntKind.wrap .i64 ((IntKind.wrap .i64 (p0.2.1 * (IntKind.wrap .i64 (((p1).length : Int) + 1)))) * 2))), (14, .ar 35075 w25 (eSl eBool).k 0 ((a24.2).length)), (15, hI a24.1), (16, .ar 35082 v28 eBool.k 0 ((a30.2).length)), (17, hI a30.1), (87, .bool (decide (a30.1 < ((p0.2.2).length : Int))))], [(35075, w25, .arr (eSl eBool).k 60 ((eSl eBool).E a24.2)), (35082, v28, .arr eBool.k 4 (eBool.E a30.2))]⟩ ?_
   refine AW.cond rfl (fun hc => ?_) (fun hc => ?_)
   ·obtain ⟨hc, h⟩ := cT hc h
    refine AW.skip ?_
    refine AW.seq (AW.block ?_)
    refine AW.rgs rfl fun K hK => bv rfl (v_fieldAddrF fo24_2 rfl) (bv rfl (v_loadF ty22 rfl (l_lit rfl rfl)) (mv rfl rfl ?_))
    obtain ⟨x34, h35, h⟩ := bS h
    refine bv rfl (v_idxF ty22 es22 rfl rfl (idx_lt h35)) (bv rfl (v_loadF ty53 rfl (l_agg eFromLabelTo h35 rfl rfl)) ?_)
    refine b_op rfl (o_alloc (fid := 35) (zs := [hI 0, hI 0, hI 0]) 35018 rfl rfl ty53 rfl (fun v36 => ?_))
    refine b_op rfl (o_store (cs := [hI x34.1, hI x34.2.1, hI x34.2.2]) (zs := [hI x34.1, hI x34.2.1, hI x34.2.2]) rfl rfl rfl ty53 rfl rfl rfl rfl rfl ?_)
    refine bf hK ⟨[(2, hI p2), (3, gF p0), (7, slE (eSl eInt) x1.1), (9, hI ((p1).length : Int)), (10, hI (IntKind.wrap .i64 ((IntKind.wrap .i64 (p0.2.1 * (IntKind.wrap .i64 (((p1).length : Int) + 1)))) * 2))), (14, .ar 35075 w25 (eSl eBool).k 0 ((a24.2).length)), (15, hI a24.1), (16, .ar 35082 v28 eBool.k 0 ((a30.2).length)), (17, hI a30.1), (18, .ptr 35018 v36 0)], [(35075, w25, .arr (eSl eBool).k 60 ((eSl eBool).E a24.2)), (35082, v28, .arr eBool.k 4 (eBool.E a30.2)), (35018, v36, .arr 3 53 [hI x34.1, hI x34.2.1, hI x34.2.2])]⟩ ?_
    refine AW.rgs rfl fun K hK => mv rfl rfl ?_
    refine bf hK ⟨[(2, hI p2), (3, gF p0), (7, slE (eSl eInt) x1.1), (9, hI ((p1).length : Int)), (10, hI (IntKind.wrap .i64 ((IntKind.wrap .i64 (p0.2.1 * (IntKind.wrap .i64 (((p1).length : Int) + 1)))) * 2))), (14, .ar 35075 w25 (eSl eBool).k 0 ((a24.2).length)), (15, hI a24.1), (16, .ar 35082 v28 eBool.k 0 ((a30.2).length)), (17, hI a30.1), (18, .ptr 35018 v36 0), (19, hI 0)], [(35075, w25, .arr (eSl eBool).k 60 ((eSl eBool).E a24.2)), (35082, v28, .arr eBool.k 4 (eBool.E a30.2)), (35018, v36, .arr 3 53 [hI x34.1, hI x34.2.1, hI x34.2.2])]⟩ ?_
    refine AW.lpX h (by first | exact up_then | exact up_to) (S := Int × (List Bool)) (V := Unit) (fun a v => ⟨[(2, hI p2), (3, gF p0), (7, slE (eSl eInt) x1.1), (9, hI ((p1).length : Int)), (10, hI (IntKind.wrap .i64 ((IntKind.wrap .i64 (p0.2.1 * (IntKind.wrap .i64 (((p1).length : Int) + 1)))) * 2))), (14, .ar 35075 w25 (eSl eBool).k 0 ((a24.2).length)), (15, hI a24.1), (16, .ar 35082 v28 eBool.k 0 ((a.2).length)), (17, hI a30.1), (18, .ptr 35018 v36 0), (19, hI a.1)], [(35018, v36, .arr 3 53 [hI x34.1, hI x34.2.1, hI x34.2.2]), (35075, w25, .arr (eSl eBool).k 60 ((eSl eBool).E a24.2)), (35082, v28, .arr eBool.k 4 (eBool.E a.2))]⟩) ?_ (X := (List Bool)) (W := Unit) (fun a v => ⟨[(2, hI p2), (3, gF p0), (7, slE (eSl eInt) x1.1), (9, hI ((p1).length : Int)), (10, hI (IntKind.wrap .i64 ((IntKind.wrap .i64 (p0.2.1 * (IntKind.wrap .i64 (((p1).length : Int) + 1)))) * 2))), (14, .ar 35075 w25 (eSl eBool).k 0 ((a24.2).length)), (15, hI a24.1), (16, .ar 35082 v28 eBool.k 0 ((a).length)), (17, hI a30.1)], [(35075, w25, .arr (eSl eBool).k 60 ((eSl eBool).E a24.2)), (35082, v28, .arr eBool.k 4 (eBool.E a))]⟩) (fun a65 w66 h => ?_) (fun a37 w38 st39 h => ?_)
    ·exact to_L ⟨(), rfl⟩
    ·refine AW.rg rfl fun K hK => mv rfl rfl (bv rfl (v_bin rfl rfl b_add) (mv rfl rfl ?_))
     refine b_nil (hK _ ?_)
     exact to_L ⟨(IntKind.wrap .i64 (a30.1 + 1), a65), (), h, rfl⟩
    refine AW.seq ?_
    refine AW.rgs rfl fun K hK => mv rfl rfl (mv rfl rfl (bv rfl (v_bin rfl rfl b_leq) ?_))
    refine bf hK ⟨[(2, hI p2), (3, gF p0), (7, slE (eSl eInt) x1.1), (9, hI ((p1).length : Int)), (10, hI (IntKind.wrap .i64 ((IntKind.wrap .i64 (p0.2.1 * (IntKind.wrap .i64 (((p1).length : Int) + 1)))) * 2))), (14, .ar 35075 w25 (eSl eBool).k 0 ((a24.2).length)), (15, hI a24.1), (16, .ar 35082 v28 eBool.k 0 ((a37.2).length)), (17, hI a30.1), (18, .ptr 35018 v36 0), (19, hI a37.1), (97, .bool (decide (a37.1 ≤ ((p1).length : Int))))], [(35018, v36, .arr 3 53 [hI x34.1, hI x34.2.1, hI x34.2.2]), (35075, w25, .arr (eSl eBool).k 60 ((eSl eBool).E a24.2)), (35082, v28, .arr eBool.k 4 (eBool.E a37.2))]⟩ ?_
    refine AW.cond rfl (fun hc => ?_) (fun hc => ?_)
    ·obtain ⟨hc, h⟩ := cT hc h
     refine AW.skip ?_
     refine AW.seq (AW.block ?_)
     refine AW.dgs 9 follows rfl rfl fun K hK => ?_
     refine sm rfl rfl ?_
     refine sm rfl rfl ?_
     obtain ⟨x41, h42, h⟩ := bS h
     refine sv rfl (v_idxF ty61 es61 rfl rfl (idx_lt h42)) ?_
     refine sv rfl (v_loadF ty35 rfl (l_cell (eSl eInt) h42 (o := 0) rfl rfl)) ?_
     refine sv rfl (v_fieldAddrP fo53_1 rfl rfl) ?_
     refine sv rfl (v_loadP ty3 rfl rfl (l_lit rfl rfl)) ?_
     obtain ⟨x43, h44, h⟩ := bS h
     refine sv rfl (v_idxF ty35 es35 rfl rfl (idx_lt h44)) ?_
     refine sv rfl (v_loadF ty3 rfl (l_cell eInt h44 (o := 0) rfl rfl)) ?_
     refine sm rfl rfl ?_
     refine s_nil ?_
     refine bf hK ⟨[(2, hI p2), (3, gF p0), (7, slE (eSl eInt) x1.1), (9, hI ((p1).length : Int)), (10, hI (IntKind.wrap .i64 ((IntKind.wrap .i64 (p0.2.1 * (IntKind.wrap .i64 (((p1).length : Int) + 1)))) * 2))), (14, .ar 35075 w25 (eSl eBool).k 0 ((a24.2).length)), (15, hI a24.1), (16, .ar 35082 v28 eBool.k 0 ((a37.2).length)), (17, hI a30.1), (18, .ptr 35018 v36 0), (19, hI a37.1), (20, hI x43)], [(35018, v36, .arr 3 53 [hI x34.1, hI x34.2.1, hI x34.2.2]), (35075, w25, .arr (eSl eBool).k 60 ((eSl eBool).E a24.2)), (35082, v28, .arr eBool.k 4 (eBool.E a37.2))]⟩ ?_
     refine AW.rgs rfl fun K hK => mv rfl rfl ?_
     refine bf hK ⟨[(2, hI p2), (3, gF p0), (7, slE (eSl eInt) x1.1), (9, hI ((p1).length : Int)), (10, hI (IntKind.wrap .i64 ((IntKind.wrap .i64 (p0.2.1 * (IntKind.wrap .i64 (((p1).length : Int) + 1)))) * 2))), (14, .ar 35075 w25 (eSl eBool).k 0 ((a24.2).length)), (15, hI a24.1), (16, .ar 35082 v28 eBool.k 0 ((a37.2).length)), (17, hI a30.1), (18, .ptr 35018 v36 0), (19, hI a37.1), (20, hI x43), (21, hI 0)], [(35018, v36, .arr 3 53 [hI x34.1, hI x34.2.1, hI x34.2.2]), (35075, w25, .arr (eSl eBool).k 60 ((eSl eBool).E a24.2)), (35082, v28, .arr eBool.k 4 (eBool.E a37.2))]⟩ ?_
     refine AW.lpX h (by first | exact up_then | exact up_to) (S := Int × (List Bool)) (V := Unit) (fun a v => ⟨[(2, hI p2), (3, gF p0), (7, slE (eSl eInt) x1.1), (9, hI ((p1).length : Int)), (10, hI (IntKind.wrap .i64 ((IntKind.wrap .i64 (p0.2.1 * (IntKind.wrap .i64 (((p1).length : Int) + 1)))) * 2))), (14, .ar 35075 w25 (eSl eBool).k 0 ((a24.2).length)), (15, hI a24.1), (16, .ar 35082 v28 eBool.k 0 ((a.2).length)), (17, hI a30.1), (18, .ptr 35018 v36 0), (19, hI a37.1), (20, hI x43), (21, hI a.1)], [(35018, v36, .arr 3 53 [hI x34.1, hI x34.2.1, hI x34.2.2]), (35075, w25, .arr (eSl eBool).k 60 ((eSl eBool).E a24.2)), (35082, v28, .arr eBool.k 4 (eBool.E a.2))]⟩) ?_ (X := (List Bool)) (W := Unit) (fun a v => ⟨[(2, hI p2), (3, gF p0), (7, slE (eSl eInt) x1.1), (9, hI ((p1).length : Int)), (10, hI (IntKind.wrap .i64 ((IntKind.wrap .i64 (p0.2.1 * (IntKind.wrap .i64 (((p1).length : Int) + 1)))) * 2))), (14, .ar 35075 w25 (eSl eBool).k 0 ((a24.2).length)), (15, hI a24.1), (16, .ar 35082 v28 eBool.k 0 ((a).length)), (17, hI a30.1), (18, .ptr 35018 v36 0), (19, hI a37.1)], [(35018, v36, .arr 3 53 [hI x34.1, hI x34.2.1, hI x34.2.2]), (35075, w25, .arr (eSl eBool).k 60 ((eSl eBool).E a24.2)), (35082, v28, .arr eBool.k 4 (eBool.E a))]⟩) (fun a63 w64 h => ?_) (fun a45 w46 st47 h => ?_)
     ·exact to_L ⟨(), rfl⟩
     ·refine AW.rg rfl fun K hK => mv rfl rfl (bv rfl (v_bin rfl rfl b_add) (mv rfl rfl ?_))
      refine b_nil (hK _ ?_)
      exact to_L ⟨(IntKind.wrap .i64 (a37.1 + 1), a63), (), h, rfl⟩
     refine AW.seq ?_
     refine AW.rgs rfl fun K hK => mv rfl rfl (bv rfl (v_bin rfl rfl b_lss) ?_)
     refine bf hK ⟨[(2, hI p2), (3, gF p0), (7, slE (eSl eInt) x1.1), (9, hI ((p1).length : Int)), (10, hI (IntKind.wrap .i64 ((IntKind.wrap .i64 (p0.2.1 * (IntKind.wrap .i64 (((p1).length : Int) + 1)))) * 2))), (14, .ar 35075 w25 (eSl eBool).k 0 ((a24.2).length)), (15, hI a24.1), (16, .ar 35082 v28 eBool.k 0 ((a45.2).length)), (17, hI a30.1), (18, .ptr 35018 v36 0), (19, hI a37.1), (20, hI x43), (21, hI a45.1), (109, .bool (decide (a45.1 < 2)))], [(35018, v36, .arr 3 53 [hI x34.1, hI x34.2.1, hI x34.2.2]), (35075, w25, .arr (eSl eBool).k 60 ((eSl eBool).E a24.2)), (35082, v28, .arr eBool.k 4 (eBool.E a45.2))]⟩ ?_
     refine AW.cond rfl (fun hc => ?_) (fun hc => ?_)
     ·obtain ⟨hc, h⟩ := cT hc h
      refine AW.skip ?_
      refine AW.seqJ h (S := (List Bool)) (V := Unit) (fun a v => ⟨[(2, hI p2), (3, gF p0), (7, slE (eSl eInt) x1.1), (9, hI ((p1).length : Int)), (10, hI (IntKind.wrap .i64 ((IntKind.wrap .i64 (p0.2.1 * (IntKind.wrap .i64 (((p1).length : Int) + 1)))) * 2))), (14, .ar 35075 w25 (eSl eBool).k 0 ((a24.2).length)), (15, hI a24.1), (16, .ar 35082 v28 eBool.k 0 ((a).length)), (17, hI a30.1), (18, .ptr 35018 v36 0), (19, hI a37.1), (20, hI x43), (21, hI a45.1)], [(35018, v36, .arr 3 53 [hI x34.1, hI x34.2.1, hI x34.2.2]), (35075, w25, .arr (eSl eBool).k 60 ((eSl eBool).E a24.2)), (35082, v28, .arr eBool.k 4 (eBool.E a))]⟩) (fun a49 w50 h => ?_) (fun k51 h => ?_)
      ·refine AW.rg rfl fun K hK => mv rfl rfl (bv rfl (v_bin rfl rfl b_add) (mv rfl rfl ?_))
       refine b_nil (hK _ ?_)
       exact to_L ⟨(IntKind.wrap .i64 (a45.1 + 1), a49), (), h, rfl⟩
      refine AW.block ?_
      refine AW.rgs rfl fun K hK => mv rfl rfl (mv rfl rfl ?_)
      refine bf hK ⟨[(2, hI p2), (3, gF p0), (7, slE (eSl eInt) x1.1), (9, hI ((p1).length : Int)), (10, hI (IntKind.wrap .i64 ((IntKind.wrap .i64 (p0.2.1 * (IntKind.wrap .i64 (((p1).length : Int) + 1)))) * 2))), (14, .ar 35075 w25 (eSl eBool).k 0 ((a24.2).length)), (15, hI a24.1), (16, .ar 35082 v28 eBool.k 0 ((a45.2).length)), (17, hI a30.1), (18, .ptr 35018 v36 0), (19, hI a37.1), (20, hI x43), (21, hI a45.1), (22, hI a45.1)], [(35018, v36, .arr 3 53 [hI x34.1, hI x34.2.1, hI x34.2.2]), (35075, w25, .arr (eSl eBool).k 60 ((eSl eBool).E a24.2)), (35082, v28, .arr eBool.k 4 (eBool.E a45.2))]⟩ ?_
      refine AW.seq ?_
      refine AW.rgs rfl fun K hK => mv rfl rfl (mv rfl rfl (bv rfl (v_bin rfl rfl b_eql) ?_))
      refine bf hK ⟨[(2, hI p2), (3, gF p0), (7, slE (eSl eInt) x1.1), (9, hI ((p1).length : Int)), (10, hI (IntKind.wrap .i64 ((IntKind.wrap .i64 (p0.2.1 * (IntKind.wrap .i64 (((p1).length : Int) + 1)))) * 2))), (14, .ar 35075 w25 (eSl eBool).k 0 ((a24.2).length)), (15, hI a24.1), (16, .ar 35082 v28 eBool.k 0 ((a45.2).length)), (17, hI a30.1), (18, .ptr 35018 v36 0), (19, hI a37.1), (20, hI x43), (21, hI a45.1), (22, hI a45.1), (115, .bool (decide (x43 = ((p1).length : Int))))], [(35018, v36, .arr 3 53 [hI x34.1, hI x34.2.1, hI x34.2.2]), (35075, w25, .arr (eSl eBool).k 60 ((eSl eBool).E a24.2)), (35082, v28, .arr eBool.k 4 (eBool.E a45.2))]⟩ ?_
      refine AW.lastJ h (by first | exact up_then | exact up_to) (S := Int) (V := Unit) (fun a v => ⟨[(2, hI p2), (3, gF p0), (7, slE (eSl eInt) x1.1), (9, hI ((p1).length : Int)), (10, hI (IntKind.wrap .i64 ((IntKind.wrap .i64 (p0.2.1 * (IntKind.wrap .i64 (((p1).length : Int) + 1)))) * 2))), (14, .ar 35075 w25 (eSl eBool).k 0 ((a24.2).length)), (15, hI a24.1), (16, .ar 35082 v28 eBool.k 0 ((a45.2).length)), (17, hI a30.1), (18, .ptr 35018 v36 0), (19, hI a37.1), (20, hI x43), (21, hI a45.1), (22, hI a)], [(35018, v36, .arr 3 53 [hI x34.1, hI x34.2.1, hI x34.2.2]), (35075, w25, .arr (eSl eBool).k 60 ((eSl eBool).E a24.2)), (35082, v28, .arr eBool.k 4 (eBool.E a45.2))]⟩) (fun a52 w53 h => ?_) (fun k54 h => ?_)
      ·refine AW.dgs 16 follows rfl rfl fun K hK => ?_
       refine sm rfl rfl ?_
       refine sm rfl rfl ?_
       obtain ⟨x55, h56, h⟩ := bS h
       refine sv rfl (v_idxA ty58 es58 rfl rfl (idx_lt h56) rfl) ?_
       obtain ⟨x57, h58, h⟩ := bS h
       refine sv rfl (v_loadP ty60 rfl rfl (l_cell (eSl eBool) h58 (o := 0) rfl rfl)) ?_
       refine sv rfl (v_fieldAddrP fo53_2 rfl rfl) ?_
       refine sv rfl (v_loadP ty3 rfl rfl (l_lit rfl rfl)) ?_
       refine sm rfl rfl ?_
       refine sv rfl (v_bin rfl rfl b_add) ?_
       refine sv rfl (v_bin rfl rfl b_mul) ?_
       refine sm rfl rfl ?_
       refine sv rfl (v_bin rfl rfl b_add) ?_
       refine sv rfl (v_bin rfl rfl b_mul) ?_
       refine sm rfl rfl ?_
       refine sv rfl (v_bin rfl rfl b_add) ?_
       obtain ⟨x59, h60, h⟩ := bS h
       refine sv rfl (v_idxF ty60 es60 rfl rfl (idx_lt h60)) ?_
       refine sv rfl (v_loadF ty4 rfl (l_cell eBool h60 (o := 0) rfl rfl)) ?_
       refine s_nil ?_
       refine bf hK ⟨[(2, hI p2), (3, gF p0), (7, slE (eSl eInt) x1.1), (9, hI ((p1).length : Int)), (10, hI (IntKind.wrap .i64 ((IntKind.wrap .i64 (p0.2.1 * (IntKind.wrap .i64 (((p1).length : Int) + 1)))) * 2))), (14, .ar 35075 w25 (eSl eBool).k 0 ((a24.2).length)), (15, hI a24.1), (16, .ar 35082 v28 eBool.k 0 ((a45.2).length)), (17, hI a30.1), (18, .ptr 35018 v36 0), (19, hI a37.1), (20, hI x43), (21, hI a45.1), (131, .bool x59)], [(35018, v36, .arr 3 53 [hI x34.1, hI x34.2.1, hI x34.2.2]), (35075, w25, .arr (eSl eBool).k 60 ((eSl eBool).E a24.2)), (35082, v28, .arr eBool.k 4 (eBool.E a45.2))]⟩ ?_
       refine AW.cond rfl (fun hc => ?_) (fun hc => ?_)
       ·have h := ifT hc h
        refine AW.rg rfl fun K hK => mv rfl rfl (bv rfl (v_fieldAddrP fo53_0 rfl rfl) (bv rfl (v_loadP ty3 rfl rfl (l_lit rfl rfl)) (mv rfl rfl (bv rfl (v_bin rfl rfl b_add) (bv rfl (v_bin rfl rfl b_mul) ?_)))))
        refine mv rfl rfl (bv rfl (v_bin rfl rfl b_add) (bv rfl (v_bin rfl rfl b_mul) (mv rfl rfl (bv rfl (v_bin rfl rfl b_add) ?_))))
        obtain ⟨x61, h62, h⟩ := bS h
        refine bv rfl (v_idxA ty60 es60 rfl rfl (idx_lt h62) rfl) ?_
        refine b_op rfl (o_storeE eBool (l := a45.2) (j := (IntKind.wrap .i64 ((IntKind.wrap .i64 ((IntKind.wrap .i64 ((IntKind.wrap .i64 (x34.1 * (IntKind.wrap .i64 (((p1).length : Int) + 1)))) + a37.1)) * 2)) + a45.1))) (v := true) rfl rfl rfl ty4 rfl rfl rfl (idx_lt h62) ?_)
        refine b_nil (hK _ ?_)
        exact to_le (s' := ⟨[(2, hI p2), (3, gF p0), (7, slE (eSl eInt) x1.1), (9, hI ((p1).length : Int)), (10, hI (IntKind.wrap .i64 ((IntKind.wrap .i64 (p0.2.1 * (IntKind.wrap .i64 (((p1).length : Int) + 1)))) * 2))), (14, .ar 35075 w25 (eSl eBool).k 0 ((a24.2).length)), (15, hI a24.1), (16, .ar 35082 v28 eBool.k 0 (((a45.2).set (IntKind.wrap .i64 ((IntKind.wrap .i64 ((IntKind.wrap .i64 ((IntKind.wrap .i64 (x34.1 * (IntKind.wrap .i64 (((p1).length : Int) + 1)))) + a37.1)) * 2)) + a45.1)).toNat true).length)), (17, hI a30.1), (18, .ptr 35018 v36 0), (19, hI a37.1), (20, hI x43), (21, hI a45.1)], [(35018, v36, .arr 3 53 [hI x34.1, hI x34.2.1, hI x34.2.2]), (35075, w25, .arr (eSl eBool).k 60 ((eSl eBool).E a24.2)), (35082, v28, .arr eBool.k 4 (eBool.E ((a45.2).set (IntKind.wrap .i64 ((IntKind.wrap .i64 ((IntKind.wrap .i64 ((IntKind.wrap .i64 (x34.1 * (IntKind.wrap .i64 (((p1).length : Int) + 1)))) + a37.1)) * 2)) + a45.1)).toNat true)))]⟩) (AS.le_of ⟨rfl, rfl, rfl, rfl, rfl, rfl, rfl, arl (by first | rfl | simp only [List.length_set, sortI_len, sortS_len]), rfl, rfl, rfl, rfl, rfl, trivial⟩ ⟨rfl, rfl, rfl, trivial⟩) ⟨(a45.2).set (IntKind.wrap .i64 ((IntKind.wrap .i64 ((IntKind.wrap .i64 ((IntKind.wrap .i64 (x34.1 * (IntKind.wrap .i64 (((p1).length : Int) + 1)))) + a37.1)) * 2)) + a45.1)).toNat true, (), h, rfl⟩
       have h := ifF (bF' hc) h
       refine AW.skip ?_
       exact to_L ⟨a45.2, (), h, rfl⟩
      refine AW.cond rfl (fun hc => ?_) (fun hc => ?_)
      ·obtain ⟨hc, h⟩ := cT hc h
       refine AW.rg rfl fun K hK => mv rfl rfl ?_
       refine b_nil (hK _ ?_)
       exact to_L ⟨1, (), h, rfl⟩
      obtain ⟨hc, h⟩ := cF hc h
      refine AW.skip ?_
      exact to_L ⟨a45.1, (), h, rfl⟩
     obtain ⟨hc, h⟩ := cF hc h
     refine AW.exit ?_
     exact to_L ⟨a45.2, (), h, rfl⟩
    obtain ⟨hc, h⟩ := cF hc h
    refine AW.exit ?_
    exact to_L ⟨a37.2, (), h, rfl⟩
   obtain ⟨hc, h⟩ := cF hc h
   refine AW.exit ?_
   exact to_L ⟨a30.2, (), h, rfl⟩
  obtain ⟨hc, h⟩ := cF hc h
  refine AW.exit ?_
  exact to_L ⟨a24.2, w25, h, rfl⟩
 refine AW.seq ?_
 refine AW.rgs rfl fun K hK => mv rfl rfl (bv rfl (v_fieldAddrF fo24_1 rfl) (bv rfl (v_loadF ty3 rfl (l_lit rfl rfl)) (bv rfl (v_bin rfl rfl b_lss) ?_)))
 refine bf hK ⟨[(2, hI p2), (3, gF p0), (7, slE (eSl eInt) x1.1), (8, slE eBool x1.2), (9, hI ((p1).length : Int)), (10, hI (IntKind.wrap .i64 ((IntKind.wrap .i64 (p0.2.1 * (IntKind.wrap .i64 (((p1).length : Int) + 1)))) * 2))), (11, .ar 35039 v3 eBool.k 0 ((a5.2).length)), (12, hI a5.1), (43, .bool (decide (a5.1 < p0.2.1)))], [(35039, v3, .arr eBool.k 4 (eBool.E a5.2))]⟩ ?_
 refine AW.cond rfl (fun hc => ?_) (fun hc => ?_)
 ·obtain ⟨hc, h⟩ := cT hc h
  refine AW.skip ?_
  refine AW.seq (AW.block ?_)
  refine AW.rgs rfl fun K hK => mv rfl rfl ?_
  refine bf hK ⟨[(2, hI p2), (3, gF p0), (7, slE (eSl eInt) x1.1), (8, slE eBool x1.2), (9, hI ((p1).length : Int)), (10, hI (IntKind.wrap .i64 ((IntKind.wrap .i64 (p0.2.1 * (IntKind.wrap .i64 (((p1).length : Int) + 1)))) * 2))), (11, .ar 35039 v3 eBool.k 0 ((a5.2).length)), (12, hI a5.1), (13, hI 0)], [(35039, v3, .arr eBool.k 4 (eBool.E a5.2))]⟩ ?_
  refine AW.lpX h (by first | exact up_then | exact up_to) (S := Int × (List Bool)) (V := Unit) (fun a v => ⟨[(2, hI p2), (3, gF p0), (7, slE (eSl eInt) x1.1), (8, slE eBool x1.2), (9, hI ((p1).length : Int)), (10, hI (IntKind.wrap .i64 ((IntKind.wrap .i64 (p0.2.1 * (IntKind.wrap .i64 (((p1).length : Int) + 1)))) * 2))), (11, .ar 35039 v3 eBool.k 0 ((a.2).length)), (12, hI a5.1), (13, hI a.1)], [(35039, v3, .arr eBool.k 4 (eBool.E a.2))]⟩) ?_ (X := (List Bool)) (W := Unit) (fun a v => ⟨[(2, hI p2), (3, gF p0), (7, slE (eSl eInt) x1.1), (8, slE eBool x1.2), (9, hI ((p1).length : Int)), (10, hI (IntKind.wrap .i64 ((IntKind.wrap .i64 (p0.2.1 * (IntKind.wrap .i64 (((p1).length : Int) + 1)))) * 2))), (11, .ar 35039 v3 eBool.k 0 ((a).length)), (12, hI a5.1)], [(35039, v3, .arr eBool.k 4 (eBool.E a))]⟩) (fun a19 w20 h => ?_) (fun a9 w10 st11 h => ?_)
  ·exact to_L ⟨(), rfl⟩
  ·refine AW.rg rfl fun K hK => mv rfl rfl (bv rfl (v_bin rfl rfl b_add) (mv rfl rfl ?_))
   refine b_nil (hK _ ?_)
   exact to_L ⟨(IntKind.wrap .i64 (a5.1 + 1), a19), (), h, rfl⟩
  refine AW.seq ?_
  refine AW.rgs rfl fun K hK => mv rfl rfl (mv rfl rfl (bv rfl (v_bin rfl rfl b_leq) ?_))
  refine bf hK ⟨[(2, hI p2), (3, gF p0), (7, slE (eSl eInt) x1.1), (8, slE eBool x1.2), (9, hI ((p1).length : Int)), (10, hI (IntKind.wrap .i64 ((IntKind.wrap .i64 (p0.2.1 * (IntKind.wrap .i64 (((p1).length : Int) + 1)))) * 2))), (11, .ar 35039 v3 eBool.k 0 ((a9.2).length)), (12, hI a5.1), (13, hI a9.1), (48, .bool (decide (a9.1 ≤ ((p1).length : Int))))], [(35039, v3, .arr eBool.k 4 (eBool.E a9.2))]⟩ ?_
  refine AW.cond rfl (fun hc => ?_) (fun hc => ?_)
  ·obtain ⟨hc, h⟩ := cT hc h
   refine AW.skip ?_
   refine AW.seq (AW.block ?_)
   refine AW.rg rfl fun K hK => mv rfl rfl (mv rfl rfl (mv rfl rfl (bv rfl (v_bin rfl rfl b_add) (bv rfl (v_bin rfl rfl b_mul) (mv rfl rfl ?_)))))
   refine bv rfl (v_bin rfl rfl b_add) (bv rfl (v_bin rfl rfl b_mul) (mv rfl rfl (mv rfl rfl (mv rfl rfl (bv rfl (v_bin rfl rfl b_add) ?_)))))
   refine bv rfl (v_bin rfl rfl b_mul) (mv rfl rfl (bv rfl (v_bin rfl rfl b_add) (bv rfl (v_bin rfl rfl b_mul) (bv rfl (v_bin rfl rfl b_add) (mv rfl rfl ?_)))))
   refine mv rfl rfl ?_
   obtain ⟨x13, h14, h⟩ := bS h
   refine bv rfl (v_idxF ty60 es60 rfl rfl (idx_lt h14)) (bv rfl (v_loadF ty4 rfl (l_cell eBool h14 (o := 0) rfl rfl)) ?_)
   obtain ⟨x15, h16, h⟩ := bS h
   refine bv rfl (v_idxA ty60 es60 rfl rfl (idx_lt h16) rfl) ?_
   refine b_op rfl (o_storeE eBool (l := a9.2) (j := (IntKind.wrap .i64 ((IntKind.wrap .i64 ((IntKind.wrap .i64 (a5.1 * (IntKind.wrap .i64 (((p1).length : Int) + 1)))) + a9.1)) * 2))) (v := x13) rfl rfl rfl ty4 rfl rfl rfl (idx_lt h16) ?_)
   obtain ⟨x17, h18, h⟩ := bS h
   refine bv rfl (v_idxA ty60 es60 rfl rfl (by simpa only [List.length_set] using idx_lt h18) rfl) ?_
   refine b_op rfl (o_storeE eBool (l := ((a9.2).set (IntKind.wrap .i64 ((IntKind.wrap .i64 ((IntKind.wrap .i64 (a5.1 * (IntKind.wrap .i64 (((p1).length : Int) + 1)))) + a9.1)) * 2)).toNat x13)) (j := (IntKind.wrap .i64 ((IntKind.wrap .i64 ((IntKind.wrap .i64 ((IntKind.wrap .i64 (a5.1 * (IntKind.wrap .i64 (((p1).length : Int) + 1)))) + a9.1)) * 2)) + 1))) (v := true) rfl rfl rfl ty4 rfl rfl rfl (idx_lt h18) ?_)
   refine b_fin hK (s' := ⟨[(2, hI p2), (3, gF p0), (7, slE (eSl eInt) x1.1), (8, slE eBool x1.2), (9, hI ((p1).length : Int)), (10, hI (IntKind.wrap .i64 ((IntKind.wrap .i64 (p0.2.1 * (IntKind.wrap .i64 (((p1).length : Int) + 1)))) * 2))), (11, .ar 35039 v3 eBool.k 0 ((((a9.2).set (IntKind.wrap .i64 ((IntKind.wrap .i64 ((IntKind.wrap .i64 (a5.1 * (IntKind.wrap .i64 (((p1).length : Int) + 1)))) + a9.1)) * 2)).toNat x13).set (IntKind.wrap .i64 ((IntKind.wrap .i64 ((IntKind.wrap .i64 ((IntKind.wrap .i64 (a5.1 * (IntKind.wrap .i64 (((p1).length : Int) + 1)))) + a9.1)) * 2)) + 1)).toNat true).length)), (12, hI a5.1), (13, hI a9.1)], [(35039, v3, .arr eBool.k 4 (eBool.E (((a9.2).set (IntKind.wrap .i64 ((IntKind.wrap .i64 ((IntKind.wrap .i64 (a5.1 * (IntKind.wrap .i64 (((p1).length : Int) + 1)))) + a9.1)) * 2)).toNat x13).set (IntKind.wrap .i64 ((IntKind.wrap .i64 ((IntKind.wrap .i64 ((IntKind.wrap .i64 (a5.1 * (IntKind.wrap .i64 (((p1).length : Int) + 1)))) + a9.1)) * 2)) + 1)).toNat true)))]⟩) (AS.le_of ⟨rfl, rfl, rfl, rfl, rfl, rfl, arl (by first | rfl | simp only [List.length_set, sortI_len, sortS_len]), rfl, rfl, trivial⟩ ⟨rfl, trivial⟩) ?_
   refine AW.rg rfl fun K hK => mv rfl rfl (bv rfl (v_bin rfl rfl b_add) (mv rfl rfl ?_))
   refine b_nil (hK _ ?_)
   exact to_L ⟨(IntKind.wrap .i64 (a9.1 + 1), ((a9.2).set (IntKind.wrap .i64 ((IntKind.wrap .i64 ((IntKind.wrap .i64 (a5.1 * (IntKind.wrap .i64 (((p1).length : Int) + 1)))) + a9.1)) * 2)).toNat x13).set (IntKind.wrap .i64 ((IntKind.wrap .i64 ((IntKind.wrap .i64 ((IntKind.wrap .i64 (a5.1 * (IntKind.wrap .i64 (((p1).length : Int) + 1)))) + a9.1)) * 2)) + 1)).toNat true), (), h, rfl⟩
  obtain ⟨hc, h⟩ := cF hc h
  refine AW.exit ?_
  exact to_L ⟨a9.2, (), h, rfl⟩
 obtain ⟨hc, h⟩ := cF hc h
 refine AW.exit ?_
 exact to_L ⟨a5.2, (), h, rfl⟩
theorem w_ref54_Valid {p0 : TLabelsStatesEdges} {p1 : List UInt8} {p2 : Int} {r : Bool × Int} (h : m_ref54_Valid p0 p1 p2 = some r) : Pure Try.prog 11 [gA p0, .str p1, hI p2] (· = HV.tup [.bool r.1, hI r.2]) := by
 unfold m_ref54_Valid at h
 refine Pure.of_body Try.func11 rfl rfl (lb rfl) fun hf => ?_
 unfold Try.f11
 dsimp only [enumS, Nat.reduceAdd]
 refine AW.rgs rfl fun K hK => b_op rfl (o_box rfl rfl rfl ?_)
 refine mv rfl rfl (mv rfl rfl ?_)
 refine bf hK ⟨[(1, .str p1), (2, hI p2), (3, gF p0)], []⟩ ?_
 refine AW.seq ?_
 refine AW.rgs rfl fun K hK => bv rfl (v_loadF ty24 rfl (l_litA rfl (lb rfl) rfl)) (mv rfl rfl ?_)
 obtain ⟨x1, h2, h⟩ := bS h
 refine b_op rfl (o_call rfl rfl rfl rfl (ACallD.pure0 (w_ref54_check h2)) ?_)
 refine mv rfl rfl ?_
 refine bf hK ⟨[(1, .str p1), (2, hI p2), (3, gF p0), (8, hI x1)], []⟩ ?_
 refine AW.rgs rfl fun K hK => mv rfl rfl (bv rfl (v_bin rfl rfl b_neq) ?_)
 refine bf hK ⟨[(1, .str p1), (2, hI p2), (3, gF p0), (8, hI x1), (15, .bool (decide (x1 ≠ 0)))], []⟩ ?_
 refine AW.cond rfl (fun hc => ?_) (fun hc => ?_)
 ·obtain ⟨hc, h⟩ := cT hc h
  refine AW.rgs rfl fun K hK => mv rfl rfl (mv rfl rfl (mv rfl rfl ?_))
  refine bf hK ⟨[(6, .bool false), (7, hI x1)], []⟩ ?_
  refine AW.ret ?_
  have h := Option.some.inj h
  subst h
  exact ret_pure (hs := [.bool false, hI x1]) (.inr rfl) (resT rfl (resT rfl rfl)) rfl ⟨trivial, trivial, trivial⟩
 obtain ⟨hc, h⟩ := cF hc h
 refine AW.skip ?_
 refine AW.seq ?_
 refine AW.seqJ h (S := Bool) (V := Unit) (fun a v => ⟨[(1, .str p1), (2, hI p2), (3, gF p0), (22, .bool a)], []⟩) (fun a3 w4 h => ?_) (fun k5 h => ?_)
 ·refine AW.cond rfl (fun hc => ?_) (fun hc => ?_)
  ·have h := ifT hc h
   refine AW.rgs rfl fun K hK => mv rfl rfl (mv rfl rfl ?_)
   refine bf hK ⟨[(6, .bool false), (7, hI 2)], []⟩ ?_
   refine AW.ret ?_
   have h := Option.some.inj h
   subst h
   exact ret_pure (hs := [.bool false, hI 2]) (.inr rfl) (resT rfl (resT rfl rfl)) rfl ⟨trivial, trivial, trivial⟩
  have h := ifF (bF' hc) h
  refine AW.skip ?_
  refine AW.rgs rfl fun K hK => bv rfl (v_loadF ty24 rfl (l_litA rfl (lb rfl) rfl)) (mv rfl rfl (mv rfl rfl ?_))
  obtain ⟨x6, h7, h⟩ := bS h
  refine b_op rfl (o_call rfl rfl rfl rfl (ACallD.pure0 (w_ref54_can h7)) ?_)
  refine mv rfl rfl ?_
  refine bf hK ⟨[(1, .str p1), (2, hI p2), (3, gF p0), (9, slE (eSl eBool) x6)], []⟩ ?_
  refine AW.seq ?_
  refine AW.rgs rfl fun K hK => mv rfl rfl ?_
  refine bf hK ⟨[(1, .str p1), (2, hI p2), (3, gF p0), (9, slE (eSl eBool) x6), (10, hI 0)], []⟩ ?_
  refine AW.lpR h (by first | exact up_then | exact up_to) (S := Int) (V := Unit) (fun a v => ⟨[(1, .str p1), (2, hI p2), (3, gF p0), (9, slE (eSl eBool) x6), (10, hI a)], []⟩) ?_ (X := Unit) (W := Unit) (fun a v => ⟨[], []⟩) (fun a16 w17 h => ?_) (fun a8 w9 st10 h hr11=> ?_)
  ·exact to_L ⟨(), rfl⟩
  ·refine AW.rgs rfl fun K hK => mv rfl rfl (mv rfl rfl ?_)
   refine bf hK ⟨[(6, .bool true), (7, hI 0)], []⟩ ?_
   refine AW.ret ?_
   have h := Option.some.inj h
   subst h
   exact ret_pure (hs := [.bool true, hI 0]) (.inr rfl) (resT rfl (resT rfl rfl)) rfl ⟨trivial, trivial, trivial⟩
  refine AW.seq ?_
  refine AW.rgs rfl fun K hK => mv rfl rfl (bv rfl (v_fieldAddrF fo24_1 rfl) (bv rfl (v_loadF ty3 rfl (l_lit rfl rfl)) (bv rfl (v_bin rfl rfl b_lss) ?_)))
  refine bf hK ⟨[(1, .str p1), (2, hI p2), (3, gF p0), (9, slE (eSl eBool) x6), (10, hI a8), (30, .bool (decide (a8 < p0.2.1)))], []⟩ ?_
  refine AW.cond rfl (fun hc => ?_) (fun hc => ?_)
  ·obtain ⟨hc, h⟩ := cT hc h
   refine AW.skip ?_
   refine AW.seq (AW.block ?_)
   refine AW.rgs rfl fun K hK => mv rfl rfl (mv rfl rfl ?_)
   obtain ⟨x12, h13, h⟩ := bS h
   refine bv rfl (v_idxF ty58 es58 rfl rfl (idx_lt h13)) (bv rfl (v_loadF ty60 rfl (l_cell (eSl eBool) h13 (o := 0) rfl rfl)) (mv rfl rfl (mv rfl rfl (bv rfl (v_lenS rfl rfl ty9 rfl) (bv rfl (v_bin rfl rfl b_add) ?_)))))
   refine bv rfl (v_bin rfl rfl b_mul) (mv rfl rfl (bv rfl (v_lenS rfl rfl ty9 rfl) (bv rfl (v_bin rfl rfl b_add) (bv rfl (v_bin rfl rfl b_mul) ?_))))
   obtain ⟨x14, h15, h⟩ := bS h
   refine bv rfl (v_idxF ty60 es60 rfl rfl (idx_lt h15)) (bv rfl (v_loadF ty4 rfl (l_cell eBool h15 (o := 0) rfl rfl)) ?_)
   refine bf hK ⟨[(1, .str p1), (2, hI p2), (3, gF p0), (9, slE (eSl eBool) x6), (10, hI a8), (47, .bool x14)], []⟩ ?_
   refine AW.cond rfl (fun hc => ?_) (fun hc => ?_)
   ·have h := ifT hc h
    refine AW.rgs rfl fun K hK => mv rfl rfl (mv rfl rfl ?_)
    refine bf hK ⟨[(6, .bool false), (7, hI 0)], []⟩ ?_
    have h := hr11 _ h
    refine AW.ret ?_
    have h := Option.some.inj h
    subst h
    exact ret_pure (hs := [.bool false, hI 0]) (.inr rfl) (resT rfl (resT rfl rfl)) rfl ⟨trivial, trivial, trivial⟩
   have h := ifF (bF' hc) h
   refine AW.skip ?_
   refine AW.rg rfl fun K hK => mv rfl rfl (bv rfl (v_bin rfl rfl b_add) (mv rfl rfl ?_))
   refine b_nil (hK _ ?_)
   exact to_L ⟨IntKind.wrap .i64 (a8 + 1), (), h, rfl⟩
  obtain ⟨hc, h⟩ := cF hc h
  refine AW.exit ?_
  exact to_L ⟨(), (), h, rfl⟩
 refine AW.rg rfl fun K hK => mv rfl rfl (bv rfl (v_bin rfl rfl b_lss) (mv rfl rfl ?_))
 by_cases hg18 : p2 < 0
 ·have h := ifT hg18 h
  refine b_F rfl rfl rfl rfl rfl (decide_eq_true hg18) ?_
  refine b_F rfl rfl rfl rfl rfl rfl ?_
  refine bv rfl (v_pickT rfl rfl rfl) ?_
  refine b_nil (hK _ ?_)
  exact to_L ⟨true, (), h, rfl⟩
 have h := ifF hg18 h
 refine b_T rfl rfl rfl rfl (decide_eq_false hg18) (o_val rfl (mv_val rfl rfl).2 ?_)
 refine b_T rfl rfl rfl rfl rfl (o_val rfl (v_bin rfl rfl b_gtr) ?_)
 refine bv rfl (v_pickF rfl rfl rfl) ?_
 refine b_nil (hK _ ?_)
 exact to_L ⟨decide (4096 < p2), (), h, rfl⟩
theorem w_ref54_Bad {p0 : TLabelsStatesEdges} {p1 : List UInt8} {p2 : Int} {r : (List UInt8) × Bool × Int} (h : m_ref54_Bad p0 p1 p2 = some r) : Pure Try.prog 13 [gA p0, .str p1, hI p2] (· = HV.tup [.str r.1, .bool r.2.1, hI r.2.2]) := by
 unfold m_ref54_Bad at h
 refine Pure.of_body Try.func13 rfl rfl (lb rfl) fun hf => ?_
 unfold Try.f13
 dsimp only [enumS, Nat.reduceAdd]
 refine AW.rgs rfl fun K hK => b_op rfl (o_box rfl rfl rfl ?_)
 refine mv rfl rfl (mv rfl rfl (mv rfl rfl ?_))
 refine bf hK ⟨[(1, .str p1), (2, hI p2), (3, gF p0)], []⟩ ?_
 refine AW.seq ?_
 refine AW.rgs rfl fun K hK => bv rfl (v_loadF ty24 rfl (l_litA rfl (lb rfl) rfl)) (mv rfl rfl ?_)
 obtain ⟨x1, h2, h⟩ := bS h
 refine b_op rfl (o_call rfl rfl rfl rfl (ACallD.pure0 (w_ref54_check h2)) ?_)
 refine mv rfl rfl ?_
 refine bf hK ⟨[(1, .str p1), (2, hI p2), (3, gF p0), (9, hI x1)], []⟩ ?_
 refine AW.rgs rfl fun K hK => mv rfl rfl (bv rfl (v_bin rfl rfl b_neq) ?_)
 refine bf hK ⟨[(1, .str p1), (2, hI p2), (3, gF p0), (9, hI x1), (34, .bool (decide (x1 ≠ 0)))], []⟩ ?_
 refine AW.cond rfl (fun hc => ?_) (fun hc => ?_)
 ·obtain ⟨hc, h⟩ := cT hc h
  refine AW.rgs rfl fun K hK => mv rfl rfl (mv rfl rfl (mv rfl rfl (mv rfl rfl ?_)))
  refine bf hK ⟨[(6, .str nS), (7, .bool false), (8, hI x1)], []⟩ ?_
  refine AW.ret ?_
  have h := Option.some.inj h
  subst h
  exact ret_pure (hs := [.str nS, .bool false, hI x1]) (.inr rfl) (resT rfl (resT rfl (resT rfl rfl))) rfl ⟨trivial, trivial, trivial, trivial⟩
 obtain ⟨hc, h⟩ := cF hc h
 refine AW.skip ?_
 refine AW.seq ?_
 refine AW.seqJ h (S := Bool) (V := Unit) (fun a v => ⟨[(1, .str p1), (2, hI p2), (3, gF p0), (41, .bool a)], []⟩) (fun a3 w4 h => ?_) (fun k5 h => ?_)
 ·refine AW.cond rfl (fun hc => ?_) (fun hc => ?_)
  ·have h := ifT hc h
   refine AW.rgs rfl fun K hK => mv rfl rfl (mv rfl rfl (mv rfl rfl ?_))
   refine bf hK ⟨[(6, .str nS), (7, .bool false), (8, hI 2)], []⟩ ?_
   refine AW.ret ?_
   have h := Option.some.inj h
   subst h
   exact ret_pure (hs := [.str nS, .bool false, hI 2]) (.inr rfl) (resT rfl (resT rfl (resT rfl rfl))) rfl ⟨trivial, trivial, trivial, trivial⟩
  have h := ifF (bF' hc) h
  refine AW.skip ?_
  refine AW.rgs rfl fun K hK => mv rfl rfl (bv rfl (v_lenS rfl rfl ty9 rfl) (mv rfl rfl ?_))
  refine bf hK ⟨[(1, .str p1), (2, hI p2), (3, gF p0), (10, hI ((p1).length : Int))], []⟩ ?_
  refine AW.rgs rfl fun K hK => mv rfl rfl (bv rfl (v_fieldAddrF fo24_0 rfl) (bv rfl (v_loadF ty3 rfl (l_lit rfl rfl)) ?_))
  obtain ⟨x6, h7, h⟩ := bS h
  refine b_op rfl (o_call rfl rfl rfl rfl (ACallD.pure0 (w_ref54_tables h7)) ?_)
  refine mv rfl rfl (bv rfl (v_extract rfl rfl) (bv rfl (v_extract rfl rfl) (mv rfl rfl (mv rfl rfl ?_))))
  refine bf hK ⟨[(1, .str p1), (2, hI p2), (3, gF p0), (10, hI ((p1).length : Int)), (11, slE (eSl eInt) x6.1)], []⟩ ?_
  refine AW.rgs rfl fun K hK => bv rfl (v_loadF ty24 rfl (l_litA rfl (lb rfl) rfl)) (mv rfl rfl (mv rfl rfl ?_))
  obtain ⟨x8, h9, h⟩ := bS h
  refine b_op rfl (o_call rfl rfl rfl rfl (ACallD.pure0 (w_ref54_can h9)) ?_)
  refine mv rfl rfl ?_
  refine bf hK ⟨[(2, hI p2), (3, gF p0), (10, hI ((p1).length : Int)), (11, slE (eSl eInt) x6.1), (13, slE (eSl eBool) x8)], []⟩ ?_
  refine AW.rgs rfl fun K hK => bv rfl (v_fieldAddrF fo24_1 rfl) (bv rfl (v_loadF ty3 rfl (l_lit rfl rfl)) (mv rfl rfl (bv rfl (v_bin rfl rfl b_add) (bv rfl (v_bin rfl rfl b_mul) (bv rfl (v_bin rfl rfl b_mul) ?_)))))
  obtain ⟨h11, h⟩ := ifN h
  refine b_op rfl (o_makeE (fid := 13) eBool (false : Bool) 13061 rfl rfl ty60 rfl rfl ty4 rfl rfl h11 (fun v10 => ?_))
  refine mv rfl rfl ?_
  refine bf hK ⟨[(2, hI p2), (3, gF p0), (10, hI ((p1).length : Int)), (11, slE (eSl eInt) x6.1), (13, slE (eSl eBool) x8), (14, .ar 13061 v10 eBool.k 0 ((List.replicate (IntKind.wrap .i64 ((IntKind.wrap .i64 (p0.2.1 * (IntKind.wrap .i64 (((p1).length : Int) + 1)))) * 2)).toNat (false : Bool)).length))], [(13061, v10, .arr eBool.k 4 (eBool.E (List.replicate (IntKind.wrap .i64 ((IntKind.wrap .i64 (p0.2.1 * (IntKind.wrap .i64 (((p1).length : Int) + 1)))) * 2)).toNat (false : Bool))))]⟩ ?_
  refine AW.rgs rfl fun K hK => mv rfl rfl ?_
  refine bf hK ⟨[(2, hI p2), (3, gF p0), (10, hI ((p1).length : Int)), (11, slE (eSl eInt) x6.1), (13, slE (eSl eBool) x8), (14, .ar 13061 v10 eBool.k 0 ((List.replicate (IntKind.wrap .i64 ((IntKind.wrap .i64 (p0.2.1 * (IntKind.wrap .i64 (((p1).length : Int) + 1)))) * 2)).toNat (false : Bool)).length)), (15, .bool false)], [(13061, v10, .arr eBool.k 4 (eBool.E (List.replicate (IntKind.wrap .i64 ((IntKind.wrap .i64 (p0.2.1 * (IntKind.wrap .i64 (((p1).length : Int) + 1)))) * 2)).toNat (false : Bool))))]⟩ ?_
  refine AW.seq ?_
  refine AW.rgs rfl fun K hK => mv rfl rfl ?_
  refine bf hK ⟨[(2, hI p2), (3, gF p0), (10, hI ((p1).length : Int)), (11, slE (eSl eInt) x6.1), (13, slE (eSl eBool) x8), (14, .ar 13061 v10 eBool.k 0 ((List.replicate (IntKind.wrap .i64 ((IntKind.wrap .i64 (p0.2.1 * (IntKind.wrap .i64 (((p1).length : Int) + 1)))) * 2)).toNat (false : Bool)).length)), (15, .bool false), (16, hI 0)], [(13061, v10, .arr eBool.k 4 (eBool.E (List.replicate (IntKind.wrap .i64 ((IntKind.wrap .i64 (p0.2.1 * (IntKind.wrap .i64 (((p1).length : Int) + 1)))) * 2)).toNat (false : Bool))))]⟩ ?_
  refine AW.lpX h (by first | exact up_then | exact up_to) (S := Bool × Int × (List Bool)) (V := Unit) (fun a v => ⟨[(2, hI p2), (3, gF p0), (10, hI ((p1).length : Int)), (11, slE (eSl eInt) x6.1), (13, slE (eSl eBool) x8), (14, .ar 13061 v10 eBool.k 0 ((a.2.2).length)), (15, .bool a.1), (16, hI a.2.1)], [(13061, v10, .arr eBool.k 4 (eBool.E a.2.2))]⟩) ?_ (X := (List Bool) × Bool) (W := Unit) (fun a v => ⟨[(2, hI p2), (3, gF p0), (10, hI ((p1).length : Int)), (11, slE (eSl eInt) x6.1), (13, slE (eSl eBool) x8), (14, .ar 13061 v10 eBool.k 0 ((a.1).length)), (15, .bool a.2)], [(13061, v10, .arr eBool.k 4 (eBool.E a.1))]⟩) (fun a30 w31 h => ?_) (fun a12 w13 st14 h => ?_)
  ·exact to_L ⟨(), rfl⟩
  ·refine AW.seq ?_
   refine AW.rgs rfl fun K hK => mv rfl rfl (bv rfl (v_not rfl) ?_)
   refine bf hK ⟨[(2, hI p2), (3, gF p0), (10, hI ((p1).length : Int)), (11, slE (eSl eInt) x6.1), (13, slE (eSl eBool) x8), (14, .ar 13061 v10 eBool.k 0 ((a30.1).length)), (93, .bool (!a30.2))], [(13061, v10, .arr eBool.k 4 (eBool.E a30.1))]⟩ ?_
   refine AW.cond rfl (fun hc => ?_) (fun hc => ?_)
   ·have h := ifT hc h
    refine AW.rgs rfl fun K hK => mv rfl rfl (mv rfl rfl (mv rfl rfl ?_))
    refine bf hK ⟨[(6, .str nS), (7, .bool false), (8, hI 0)], []⟩ ?_
    refine AW.ret ?_
    have h := Option.some.inj h
    subst h
    exact ret_pure (hs := [.str nS, .bool false, hI 0]) (.inr rfl) (resT rfl (resT rfl (resT rfl rfl))) rfl ⟨trivial, trivial, trivial, trivial⟩
   have h := ifF (bF' hc) h
   refine AW.skip ?_
   refine AW.rgs rfl fun K hK => b_op rfl (o_bslM (fid := 13) 13094 rfl rfl rfl (as_of (cs := []) ty64 ty5 rfl rfl rfl rfl rfl) (fun v32 => ?_))
   refine mv rfl rfl ?_
   refine bf hK ⟨[(2, hI p2), (3, gF p0), (10, hI ((p1).length : Int)), (11, slE (eSl eInt) x6.1), (13, slE (eSl eBool) x8), (14, .ar 13061 v10 eBool.k 0 ((a30.1).length)), (18, .ar 13094 v32 eU8.k 0 0)], [(13061, v10, .arr eBool.k 4 (eBool.E a30.1)), (13094, v32, .arr eU8.k 5 [])]⟩ ?_
   refine AW.seq ?_
   refine AW.rgs rfl fun K hK => mv rfl rfl (bv rfl (v_bin rfl rfl b_sub) (mv rfl rfl ?_))
   refine bf hK ⟨[(3, gF p0), (10, hI ((p1).length : Int)), (11, slE (eSl eInt) x6.1), (13, slE (eSl eBool) x8), (14, .ar 13061 v10 eBool.k 0 ((a30.1).length)), (18, .ar 13094 v32 eU8.k 0 0), (19, hI (IntKind.wrap .i64 (p2 - 1)))], [(13061, v10, .arr eBool.k 4 (eBool.E a30.1)), (13094, v32, .arr eU8.k 5 [])]⟩ ?_
   refine AW.lpX h (by first | exact up_then | exact up_to) (S := (List Bool) × Int × (List Int)) (V := Nat) (fun a v => ⟨[(3, gF p0), (10, hI ((p1).length : Int)), (11, slE (eSl eInt) x6.1), (13, slE (eSl eBool) x8), (14, slE eBool a.1), (18, .ar 13094 v eU8.k 0 ((a.2.2).length)), (19, hI a.2.1)], [(13094, v, .arr eU8.k 5 (eU8.E a.2.2))]⟩) ?_ (X := (List Int)) (W := Nat) (fun a v => ⟨[(18, .ar 13094 v eU8.k 0 ((a).length))], [(13094, v, .arr eU8.k 5 (eU8.E a))]⟩) (fun a96 w97 h => ?_) (fun a33 w34 st35 h => ?_)
   ·refine to_bind (to_frz 2 [(13061, v10, .arr eBool.k 4 (eBool.E a30.1))] ⟨[(3, gF p0), (10, hI ((p1).length : Int)), (11, slE (eSl eInt) x6.1), (13, slE (eSl eBool) x8), (14, slE eBool a30.1), (18, .ar 13094 v32 eU8.k 0 0), (19, hI (IntKind.wrap .i64 (p2 - 1)))], [(13094, v32, .arr eU8.k 5 [])]⟩ ⟨⟨_, rfl, rfl⟩, ⟨_, rfl, rfl⟩, ⟨_, rfl, rfl⟩, ⟨_, rfl, rfl⟩, ⟨_, rfl, frz_slE eBool (l := a30.1) rfl fun _ _ => rfl⟩, ⟨_, rfl, rfl⟩, ⟨_, rfl, rfl⟩, trivial⟩ ⟨rfl, trivial⟩ ⟨rfl, trivial⟩ ⟨rfl, trivial⟩ ?_)
    exact to_L ⟨v32, rfl⟩
   ·refine AW.to (to_frz 2 [(13094, w97, .arr eU8.k 5 (eU8.E a96))] ⟨[(18, slE eU8 a96)], []⟩ ⟨⟨_, rfl, frz_slE eU8 (l := a96) rfl fun _ _ => rfl⟩, trivial⟩ trivial ⟨rfl, trivial⟩ ⟨rfl, trivial⟩ ?_)
    refine AW.rgs rfl fun K hK => mv rfl rfl (bv rfl (v_convB (l := a96) ty64 ty5 ty9 rfl) (mv rfl rfl (mv rfl rfl (mv rfl rfl ?_))))
    refine bf hK ⟨[(6, .str (a96.map fun (n : Int) => UInt8.ofNat n.toNat)), (7, .bool true), (8, hI 0)], []⟩ ?_
    refine AW.ret ?_
    have h := Option.some.inj h
    subst h
    exact ret_pure (hs := [.str (a96.map fun (n : Int) => UInt8.ofNat n.toNat), .bool true, hI 0]) (.inr rfl) (resT rfl (resT rfl (resT rfl rfl))) rfl ⟨trivial, trivial, trivial, trivial⟩
   refine AW.seq ?_
   refine AW.rgs rfl fun K hK => mv rfl rfl (bv rfl (v_bin rfl rfl b_geq) ?_)
   refine bf hK ⟨[(3, gF p0), (10, hI ((p1).length : Int)), (11, slE (eSl eInt) x6.1), (13, slE (eSl eBool) x8), (14, slE eBool a33.1), (18, .ar 13094 w34 eU8.k 0 ((a33.2.2).length)), (19, hI a33.2.1), (98, .bool (decide (0 ≤ a33.2.1)))], [(13094, w34, .arr eU8.k 5 (eU8.E a33.2.2))]⟩ ?_
   refine AW.cond rfl (fun hc => ?_) (fun hc => ?_)
   ·obtain ⟨hc, h⟩ := cT hc h
    refine AW.skip ?_
    refine AW.seq (AW.block ?_)
    refine AW.rgs rfl fun K hK => mv rfl rfl ?_
    refine bf hK ⟨[(3, gF p0), (10, hI ((p1).length : Int)), (11, slE (eSl eInt) x6.1), (13, slE (eSl eBool) x8), (14, slE eBool a33.1), (18, .ar 13094 w34 eU8.k 0 ((a33.2.2).length)), (19, hI a33.2.1), (20, hI 0)], [(13094, w34, .arr eU8.k 5 (eU8.E a33.2.2))]⟩ ?_
    refine AW.lpX h (by first | exact up_then | exact up_to) (S := Int) (V := Unit) (fun a v => ⟨[(3, gF p0), (10, hI ((p1).length : Int)), (11, slE (eSl eInt) x6.1), (13, slE (eSl eBool) x8), (14, slE eBool a33.1), (18, .ar 13094 w34 eU8.k 0 ((a33.2.2).length)), (19, hI a33.2.1), (20, hI a)], [(13094, w34, .arr eU8.k 5 (eU8.E a33.2.2))]⟩) ?_ (X := (List Bool) × (List Int)) (W := Nat) (fun a v => ⟨[(3, gF p0), (10, hI ((p1).length : Int)), (11, slE (eSl eInt) x6.1), (13, slE (eSl eBool) x8), (14, slE eBool a.1), (18, .ar 13094 v eU8.k 0 ((a.2).length)), (19, hI a33.2.1)], [(13094, v, .arr eU8.k 5 (eU8.E a.2))]⟩) (fun a94 w95 h => ?_) (fun a37 w38 st39 h => ?_)
    ·exact to_L ⟨(), rfl⟩
    ·refine AW.rg rfl fun K hK => mv rfl rfl (bv rfl (v_bin rfl rfl b_sub) (mv rfl rfl ?_))
     refine b_nil (hK _ ?_)
     exact to_L ⟨(a94.1, IntKind.wrap .i64 (a33.2.1 - 1), a94.2), w95, h, rfl⟩
    refine AW.seq ?_
    refine AW.rgs rfl fun K hK => mv rfl rfl (bv rfl (v_fieldAddrF fo24_0 rfl) (bv rfl (v_loadF ty3 rfl (l_lit rfl rfl)) (bv rfl (v_bin rfl rfl b_lss) ?_)))
    refine bf hK ⟨[(3, gF p0), (10, hI ((p1).length : Int)), (11, slE (eSl eInt) x6.1), (13, slE (eSl eBool) x8), (14, slE eBool a33.1), (18, .ar 13094 w34 eU8.k 0 ((a33.2.2).length)), (19, hI a33.2.1), (20, hI a37), (104, .bool (decide (a37 < p0.1)))], [(13094, w34, .arr eU8.k 5 (eU8.E a33.2.2))]⟩ ?_
    refine AW.cond rfl (fun hc => ?_) (fun hc => ?_)
    ·obtain ⟨hc, h⟩ := cT hc h
     refine AW.skip ?_
     refine AW.seq (AW.block ?_)
     refine AW.rgs rfl fun K hK => mv rfl rfl (bv rfl (v_lenF rfl rfl ty60 rfl) ?_)
     obtain ⟨h42, h⟩ := ifN h
     refine b_op rfl (o_makeE (fid := 13) eBool (false : Bool) 13109 rfl rfl ty60 rfl rfl ty4 rfl rfl h42 (fun v41 => ?_))
     refine mv rfl rfl ?_
     refine bf hK ⟨[(3, gF p0), (10, hI ((p1).length : Int)), (11, slE (eSl eInt) x6.1), (13, slE (eSl eBool) x8), (14, slE eBool a33.1), (18, .ar 13094 w34 eU8.k 0 ((a33.2.2).length)), (19, hI a33.2.1), (20, hI a37), (21, .ar 13109 v41 eBool.k 0 ((List.replicate (((a33.1).length : Int)).toNat (false : Bool)).length))], [(13094, w34, .arr eU8.k 5 (eU8.E a33.2.2)), (13109, v41, .arr eBool.k 4 (eBool.E (List.replicate (((a33.1).length : Int)).toNat (false : Bool))))]⟩ ?_
     refine AW.rgs rfl fun K hK => mv rfl rfl ?_
     refine bf hK ⟨[(3, gF p0), (10, hI ((p1).length : Int)), (11, slE (eSl eInt) x6.1), (13, slE (eSl eBool) x8), (14, slE eBool a33.1), (18, .ar 13094 w34 eU8.k 0 ((a33.2.2).length)), (19, hI a33.2.1), (20, hI a37), (21, .ar 13109 v41 eBool.k 0 ((List.replicate (((a33.1).length : Int)).toNat (false : Bool)).length)), (22, .bool false)], [(13094, w34, .arr eU8.k 5 (eU8.E a33.2.2)), (13109, v41, .arr eBool.k 4 (eBool.E (List.replicate (((a33.1).length : Int)).toNat (false : Bool))))]⟩ ?_
     refine AW.seq ?_
     refine AW.rgs rfl fun K hK => mv rfl rfl ?_
     refine bf hK ⟨[(3, gF p0), (10, hI ((p1).length : Int)), (11, slE (eSl eInt) x6.1), (13, slE (eSl eBool) x8), (14, slE eBool a33.1), (18, .ar 13094 w34 eU8.k 0 ((a33.2.2).length)), (19, hI a33.2.1), (20, hI a37), (21, .ar 13109 v41 eBool.k 0 ((List.replicate (((a33.1).length : Int)).toNat (false : Bool)).length)), (22, .bool false), (23, hI 0)], [(13094, w34, .arr eU8.k 5 (eU8.E a33.2.2)), (13109, v41, .arr eBool.k 4 (eBool.E (List.replicate (((a33.1).length : Int)).toNat (false : Bool))))]⟩ ?_
     refine AW.lpX h (by first | exact up_then | exact up_to) (S := Bool × Int × (List Bool)) (V := Unit) (fun a v => ⟨[(3, gF p0), (10, hI ((p1).length : Int)), (11, slE (eSl eInt) x6.1), (13, slE (eSl eBool) x8), (14, slE eBool a33.1), (18, .ar 13094 w34 eU8.k 0 ((a33.2.2).length)), (19, hI a33.2.1), (20, hI a37), (21, .ar 13109 v41 eBool.k 0 ((a.2.2).length)), (22, .bool a.1), (23, hI a.2.1)], [(13094, w34, .arr eU8.k 5 (eU8.E a33.2.2)), (13109, v41, .arr eBool.k 4 (eBool.E a.2.2))]⟩) ?_ (X := (List Bool) × Bool) (W := Unit) (fun a v => ⟨[(3, gF p0), (10, hI ((p1).length : Int)), (11, slE (eSl eInt) x6.1), (13, slE (eSl eBool) x8), (14, slE eBool a33.1), (18, .ar 13094 w34 eU8.k 0 ((a33.2.2).length)), (19, hI a33.2.1), (20, hI a37), (21, .ar 13109 v41 eBool.k 0 ((a.1).length)), (22, .bool a.2)], [(13094, w34, .arr eU8.k 5 (eU8.E a33.2.2)), (13109, v41, .arr eBool.k 4 (eBool.E a.1))]⟩) (fun a88 w89 h => ?_) (fun a43 w44 st45 h => ?_)
     ·exact to_L ⟨(), rfl⟩
     ·refine AW.rgs rfl fun K hK => mv rfl rfl ?_
      refine bf hK ⟨[(3, gF p0), (10, hI ((p1).length : Int)), (11, slE (eSl eInt) x6.1), (13, slE (eSl eBool) x8), (14, slE eBool a33.1), (18, .ar 13094 w34 eU8.k 0 ((a33.2.2).length)), (19, hI a33.2.1), (20, hI a37), (21, .ar 13109 v41 eBool.k 0 ((a88.1).length)), (183, .bool a88.2)], [(13094, w34, .arr eU8.k 5 (eU8.E a33.2.2)), (13109, v41, .arr eBool.k 4 (eBool.E a88.1))]⟩ ?_
      refine AW.cond rfl (fun hc => ?_) (fun hc => ?_)
      ·have h := ifT hc h
       refine AW.rgs rfl fun K hK => mv rfl rfl (mv rfl rfl ?_)
       refine bf hK ⟨[(3, gF p0), (10, hI ((p1).length : Int)), (11, slE (eSl eInt) x6.1), (13, slE (eSl eBool) x8), (14, .ar 13109 v41 eBool.k 0 ((a88.1).length)), (18, .ar 13094 w34 eU8.k 0 ((a33.2.2).length)), (19, hI a33.2.1), (20, hI a37)], [(13094, w34, .arr eU8.k 5 (eU8.E a33.2.2)), (13109, v41, .arr eBool.k 4 (eBool.E a88.1))]⟩ ?_
       refine AW.rgs rfl fun K hK => mv rfl rfl (mv rfl rfl ?_)
       obtain ⟨x90, h91, h⟩ := bS h
       refine bv rfl (v_idxS ty9 rfl rfl h91) ?_
       refine b_op rfl (o_bsl rfl rfl (as_of (cs := [.int .u8 (x90.toNat : Int)]) ty64 ty5 rfl rfl rfl rfl rfl) ?_)
       obtain ⟨h93, h⟩ := ifN h
       refine b_op rfl (o_appE eU8 (l := a33.2.2) (m := [(x90.toNat : Int)]) rfl rfl ty64 ty64 ty5 rfl rfl rfl rfl rfl h93 (fun v92 => ?_))
       refine mv rfl rfl ?_
       refine bf hK ⟨[(3, gF p0), (10, hI ((p1).length : Int)), (11, slE (eSl eInt) x6.1), (13, slE (eSl eBool) x8), (14, .ar 13109 v41 eBool.k 0 ((a88.1).length)), (18, .ar 13094 v92 eU8.k 0 ((a33.2.2 ++ [(x90.toNat : Int)]).length)), (19, hI a33.2.1)], [(13094, v92, .arr eU8.k 5 (eU8.E (a33.2.2 ++ [(x90.toNat : Int)]))), (13109, v41, .arr eBool.k 4 (eBool.E a88.1))]⟩ ?_
       refine AW.exit ?_
       refine to_bind (to_frz 2 [(13109, v41, .arr eBool.k 4 (eBool.E a88.1))] ⟨[(3, gF p0), (10, hI ((p1).length : Int)), (11, slE (eSl eInt) x6.1), (13, slE (eSl eBool) x8), (14, slE eBool a88.1), (18, .ar 13094 v92 eU8.k 0 ((a33.2.2 ++ [(x90.toNat : Int)]).length)), (19, hI a33.2.1)], [(13094, v92, .arr eU8.k 5 (eU8.E (a33.2.2 ++ [(x90.toNat : Int)])))]⟩ ⟨⟨_, rfl, rfl⟩, ⟨_, rfl, rfl⟩, ⟨_, rfl, rfl⟩, ⟨_, rfl, rfl⟩, ⟨_, rfl, frz_slE eBool (l := a88.1) rfl fun _ _ => rfl⟩, ⟨_, rfl, rfl⟩, ⟨_, rfl, rfl⟩, trivial⟩ ⟨rfl, trivial⟩ ⟨rfl, trivial⟩ ⟨rfl, trivial⟩ ?_)
       exact to_L ⟨(a88.1, a33.2.2 ++ [(x90.toNat : Int)]), v92, h, rfl⟩
      have h := ifF (bF' hc) h
      refine AW.skip ?_
      refine AW.rg rfl fun K hK => mv rfl rfl (bv rfl (v_bin rfl rfl b_add) (mv rfl rfl ?_))
      refine b_nil (hK _ ?_)
      exact to_L ⟨IntKind.wrap .i64 (a37 + 1), (), h, rfl⟩
     refine AW.seq ?_
     refine AW.rgs rfl fun K hK => mv rfl rfl (bv rfl (v_fieldAddrF fo24_2 rfl) (bv rfl (v_loadF ty22 rfl (l_lit rfl rfl)) (bv rfl (v_lenF rfl rfl ty22 rfl) (bv rfl (v_bin rfl rfl b_lss) ?_))))
     refine bf hK ⟨[(3, gF p0), (10, hI ((p1).length : Int)), (11, slE (eSl eInt) x6.1), (13, slE (eSl eBool) x8), (14, slE eBool a33.1), (18, .ar 13094 w34 eU8.k 0 ((a33.2.2).length)), (19, hI a33.2.1), (20, hI a37), (21, .ar 13109 v41 eBool.k 0 ((a43.2.2).length)), (22, .bool a43.1), (23, hI a43.2.1), (114, .bool (decide (a43.2.1 < ((p0.2.2).length : Int))))], [(13094, w34, .arr eU8.k 5 (eU8.E a33.2.2)), (13109, v41, .arr eBool.k 4 (eBool.E a43.2.2))]⟩ ?_
     refine AW.cond rfl (fun hc => ?_) (fun hc => ?_)
     ·obtain ⟨hc, h⟩ := cT hc h
      refine AW.skip ?_
      refine AW.seq (AW.block ?_)
      refine AW.rgs rfl fun K hK => bv rfl (v_fieldAddrF fo24_2 rfl) (bv rfl (v_loadF ty22 rfl (l_lit rfl rfl)) (mv rfl rfl ?_))
      obtain ⟨x47, h48, h⟩ := bS h
      refine bv rfl (v_idxF ty22 es22 rfl rfl (idx_lt h48)) (bv rfl (v_loadF ty53 rfl (l_agg eFromLabelTo h48 rfl rfl)) ?_)
      refine b_op rfl (o_alloc (fid := 13) (zs := [hI 0, hI 0, hI 0]) 13024 rfl rfl ty53 rfl (fun v49 => ?_))
      refine b_op rfl (o_store (cs := [hI x47.1, hI x47.2.1, hI x47.2.2]) (zs := [hI x47.1, hI x47.2.1, hI x47.2.2]) rfl rfl rfl ty53 rfl rfl rfl rfl rfl ?_)
      refine bf hK ⟨[(3, gF p0), (10, hI ((p1).length : Int)), (11, slE (eSl eInt) x6.1), (13, slE (eSl eBool) x8), (14, slE eBool a33.1), (18, .ar 13094 w34 eU8.k 0 ((a33.2.2).length)), (19, hI a33.2.1), (20, hI a37), (21, .ar 13109 v41 eBool.k 0 ((a43.2.2).length)), (22, .bool a43.1), (23, hI a43.2.1), (24, .ptr 13024 v49 0)], [(13094, w34, .arr eU8.k 5 (eU8.E a33.2.2)), (13109, v41, .arr eBool.k 4 (eBool.E a43.2.2)), (13024, v49, .arr 3 53 [hI x47.1, hI x47.2.1, hI x47.2.2])]⟩ ?_
      refine AW.rgs rfl fun K hK => mv rfl rfl ?_
      refine bf hK ⟨[(3, gF p0), (10, hI ((p1).length : Int)), (11, slE (eSl eInt) x6.1), (13, slE (eSl eBool) x8), (14, slE eBool a33.1), (18, .ar 13094 w34 eU8.k 0 ((a33.2.2).length)), (19, hI a33.2.1), (20, hI a37), (21, .ar 13109 v41 eBool.k 0 ((a43.2.2).length)), (22, .bool a43.1), (23, hI a43.2.1), (24, .ptr 13024 v49 0), (25, hI 0)], [(13094, w34, .arr eU8.k 5 (eU8.E a33.2.2)), (13109, v41, .arr eBool.k 4 (eBool.E a43.2.2)), (13024, v49, .arr 3 53 [hI x47.1, hI x47.2.1, hI x47.2.2])]⟩ ?_
      refine AW.lpX h (by first | exact up_then | exact up_to) (S := Bool × Int × (List Bool)) (V := Unit) (fun a v => ⟨[(3, gF p0), (10, hI ((p1).length : Int)), (11, slE (eSl eInt) x6.1), (13, slE (eSl eBool) x8), (14, slE eBool a33.1), (18, .ar 13094 w34 eU8.k 0 ((a33.2.2).length)), (19, hI a33.2.1), (20, hI a37), (21, .ar 13109 v41 eBool.k 0 ((a.2.2).length)), (22, .bool a.1), (23, hI a43.2.1), (24, .ptr 13024 v49 0), (25, hI a.2.1)], [(13024, v49, .arr 3 53 [hI x47.1, hI x47.2.1, hI x47.2.2]), (13094, w34, .arr eU8.k 5 (eU8.E a33.2.2)), (13109, v41, .arr eBool.k 4 (eBool.E a.2.2))]⟩) ?_ (X := (List Bool) × Bool) (W := Unit) (fun a v => ⟨[(3, gF p0), (10, hI ((p1).length : Int)), (11, slE (eSl eInt) x6.1), (13, slE (eSl eBool) x8), (14, slE eBool a33.1), (18, .ar 13094 w34 eU8.k 0 ((a33.2.2).length)), (19, hI a33.2.1), (20, hI a37), (21, .ar 13109 v41 eBool.k 0 ((a.1).length)), (22, .bool a.2), (23, hI a43.2.1)], [(13094, w34, .arr eU8.k 5 (eU8.E a33.2.2)), (13109, v41, .arr eBool.k 4 (eBool.E a.1))]⟩) (fun a86 w87 h => ?_) (fun a50 w51 st52 h => ?_)
      ·exact to_L ⟨(), rfl⟩
      ·refine AW.rg rfl fun K hK => mv rfl rfl (bv rfl (v_bin rfl rfl b_add) (mv rfl rfl ?_))
       refine b_nil (hK _ ?_)
       exact to_L ⟨(a86.2, IntKind.wrap .i64 (a43.2.1 + 1), a86.1), (), h, rfl⟩
      refine AW.seq ?_
      refine AW.seqJ h (S := Bool) (V := Unit) (fun a v => ⟨[(3, gF p0), (10, hI ((p1).length : Int)), (11, slE (eSl eInt) x6.1), (13, slE (eSl eBool) x8), (14, slE eBool a33.1), (18, .ar 13094 w34 eU8.k 0 ((a33.2.2).length)), (19, hI a33.2.1), (20, hI a37), (21, .ar 13109 v41 eBool.k 0 ((a50.2.2).length)), (22, .bool a50.1), (23, hI a43.2.1), (24, .ptr 13024 v49 0), (25, hI a50.2.1), (130, .bool a)], [(13024, v49, .arr 3 53 [hI x47.1, hI x47.2.1, hI x47.2.2]), (13094, w34, .arr eU8.k 5 (eU8.E a33.2.2)), (13109, v41, .arr eBool.k 4 (eBool.E a50.2.2))]⟩) (fun a54 w55 h => ?_) (fun k56 h => ?_)
      ·refine AW.cond rfl (fun hc => ?_) (fun hc => ?_)
       ·have h := ifT hc h
        refine AW.skip ?_
        refine AW.seq (AW.block ?_)
        refine AW.rgs rfl fun K hK => mv rfl rfl ?_
        refine bf hK ⟨[(3, gF p0), (10, hI ((p1).length : Int)), (11, slE (eSl eInt) x6.1), (13, slE (eSl eBool) x8), (14, slE eBool a33.1), (18, .ar 13094 w34 eU8.k 0 ((a33.2.2).length)), (19, hI a33.2.1), (20, hI a37), (21, .ar 13109 v41 eBool.k 0 ((a50.2.2).length)), (22, .bool a50.1), (23, hI a43.2.1), (24, .ptr 13024 v49 0), (25, hI a50.2.1), (26, hI 0)], [(13024, v49, .arr 3 53 [hI x47.1, hI x47.2.1, hI x47.2.2]), (13094, w34, .arr eU8.k 5 (eU8.E a33.2.2)), (13109, v41, .arr eBool.k 4 (eBool.E a50.2.2))]⟩ ?_
        refine AW.lpX h (by first | exact up_then | exact up_to) (S := Bool × Int × (List Bool)) (V := Unit) (fun a v => ⟨[(3, gF p0), (10, hI ((p1).length : Int)), (11, slE (eSl eInt) x6.1), (13, slE (eSl eBool) x8), (14, slE eBool a33.1), (18, .ar 13094 w34 eU8.k 0 ((a33.2.2).length)), (19, hI a33.2.1), (20, hI a37), (21, .ar 13109 v41 eBool.k 0 ((a.2.2).length)), (22, .bool a.1), (23, hI a43.2.1), (24, .ptr 13024 v49 0), (25, hI a50.2.1), (26, hI a.2.1)], [(13024, v49, .arr 3 53 [hI x47.1, hI x47.2.1, hI x47.2.2]), (13094, w34, .arr eU8.k 5 (eU8.E a33.2.2)), (13109, v41, .arr eBool.k 4 (eBool.E a.2.2))]⟩) ?_ (X := (List Bool) × Bool) (W := Unit) (fun a v => ⟨[(3, gF p0), (10, hI ((p1).length : Int)), (11, slE (eSl eInt) x6.1), (13, slE (eSl eBool) x8), (14, slE eBool a33.1), (18, .ar 13094 w34 eU8.k 0 ((a33.2.2).length)), (19, hI a33.2.1), (20, hI a37), (21, .ar 13109 v41 eBool.k 0 ((a.1).length)), (22, .bool a.2), (23, hI a43.2.1), (24, .ptr 13024 v49 0), (25, hI a50.2.1)], [(13024, v49, .arr 3 53 [hI x47.1, hI x47.2.1, hI x47.2.2]), (13094, w34, .arr eU8.k 5 (eU8.E a33.2.2)), (13109, v41, .arr eBool.k 4 (eBool.E a.1))]⟩) (fun a83 w84 h => ?_) (fun a57 w58 st59 h => ?_)
        ·exact to_L ⟨(), rfl⟩
        ·refine AW.rg rfl fun K hK => mv rfl rfl (bv rfl (v_bin rfl rfl b_add) (mv rfl rfl ?_))
         refine b_nil (hK _ ?_)
         exact to_L ⟨(a83.2, IntKind.wrap .i64 (a50.2.1 + 1), a83.1), (), h, rfl⟩
        refine AW.seq ?_
        refine AW.rgs rfl fun K hK => mv rfl rfl (bv rfl (v_bin rfl rfl b_lss) ?_)
        refine bf hK ⟨[(3, gF p0), (10, hI ((p1).length : Int)), (11, slE (eSl eInt) x6.1), (13, slE (eSl eBool) x8), (14, slE eBool a33.1), (18, .ar 13094 w34 eU8.k 0 ((a33.2.2).length)), (19, hI a33.2.1), (20, hI a37), (21, .ar 13109 v41 eBool.k 0 ((a57.2.2).length)), (22, .bool a57.1), (23, hI a43.2.1), (24, .ptr 13024 v49 0), (25, hI a50.2.1), (26, hI a57.2.1), (134, .bool (decide (a57.2.1 < 2)))], [(13024, v49, .arr 3 53 [hI x47.1, hI x47.2.1, hI x47.2.2]), (13094, w34, .arr eU8.k 5 (eU8.E a33.2.2)), (13109, v41, .arr eBool.k 4 (eBool.E a57.2.2))]⟩ ?_
        refine AW.cond rfl (fun hc => ?_) (fun hc => ?_)
        ·obtain ⟨hc, h⟩ := cT hc h
         refine AW.skip ?_
         refine AW.seqJ h (S := Bool × (List Bool)) (V := Unit) (fun a v => ⟨[(3, gF p0), (10, hI ((p1).length : Int)), (11, slE (eSl eInt) x6.1), (13, slE (eSl eBool) x8), (14, slE eBool a33.1), (18, .ar 13094 w34 eU8.k 0 ((a33.2.2).length)), (19, hI a33.2.1), (20, hI a37), (21, .ar 13109 v41 eBool.k 0 ((a.2).length)), (22, .bool a.1), (23, hI a43.2.1), (24, .ptr 13024 v49 0), (25, hI a50.2.1), (26, hI a57.2.1)], [(13024, v49, .arr 3 53 [hI x47.1, hI x47.2.1, hI x47.2.2]), (13094, w34, .arr eU8.k 5 (eU8.E a33.2.2)), (13109, v41, .arr eBool.k 4 (eBool.E a.2))]⟩) (fun a61 w62 h => ?_) (fun k63 h => ?_)
         ·refine AW.rg rfl fun K hK => mv rfl rfl (bv rfl (v_bin rfl rfl b_add) (mv rfl rfl ?_))
          refine b_nil (hK _ ?_)
          exact to_L ⟨(a61.1, IntKind.wrap .i64 (a57.2.1 + 1), a61.2), (), h, rfl⟩
         refine AW.block ?_
         refine AW.rgs rfl fun K hK => mv rfl rfl (mv rfl rfl ?_)
         obtain ⟨x64, h65, h⟩ := bS h
         refine bv rfl (v_idxF ty61 es61 rfl rfl (idx_lt h65)) (bv rfl (v_loadF ty35 rfl (l_cell (eSl eInt) h65 (o := 0) rfl rfl)) (mv rfl rfl ?_))
         obtain ⟨x66, h67, h⟩ := bS h
         refine bv rfl (v_idxF ty35 es35 rfl rfl (idx_lt h67)) (bv rfl (v_loadF ty3 rfl (l_cell eInt h67 (o := 0) rfl rfl)) (mv rfl rfl (mv rfl rfl (mv rfl rfl ?_))))
         refine bf hK ⟨[(3, gF p0), (10, hI ((p1).length : Int)), (11, slE (eSl eInt) x6.1), (13, slE (eSl eBool) x8), (14, slE eBool a33.1), (18, .ar 13094 w34 eU8.k 0 ((a33.2.2).length)), (19, hI a33.2.1), (20, hI a37), (21, .ar 13109 v41 eBool.k 0 ((a57.2.2).length)), (22, .bool a57.1), (23, hI a43.2.1), (24, .ptr 13024 v49 0), (25, hI a50.2.1), (26, hI a57.2.1), (27, hI x66), (28, hI a57.2.1)], [(13024, v49, .arr 3 53 [hI x47.1, hI x47.2.1, hI x47.2.2]), (13094, w34, .arr eU8.k 5 (eU8.E a33.2.2)), (13109, v41, .arr eBool.k 4 (eBool.E a57.2.2))]⟩ ?_
         refine AW.seq ?_
         refine AW.rgs rfl fun K hK => mv rfl rfl (mv rfl rfl (bv rfl (v_bin rfl rfl b_eql) ?_))
         refine bf hK ⟨[(3, gF p0), (10, hI ((p1).length : Int)), (11, slE (eSl eInt) x6.1), (13, slE (eSl eBool) x8), (14, slE eBool a33.1), (18, .ar 13094 w34 eU8.k 0 ((a33.2.2).length)), (19, hI a33.2.1), (20, hI a37), (21, .ar 13109 v41 eBool.k 0 ((a57.2.2).length)), (22, .bool a57.1), (23, hI a43.2.1), (24, .ptr 13024 v49 0), (25, hI a50.2.1), (26, hI a57.2.1), (27, hI x66), (28, hI a57.2.1), (147, .bool (decide (x66 = ((p1).length : Int))))], [(13024, v49, .arr 3 53 [hI x47.1, hI x47.2.1, hI x47.2.2]), (13094, w34, .arr eU8.k 5 (eU8.E a33.2.2)), (13109, v41, .arr eBool.k 4 (eBool.E a57.2.2))]⟩ ?_
         refine AW.lastJ h (by first | exact up_then | exact up_to) (S := Int) (V := Unit) (fun a v => ⟨[(3, gF p0), (10, hI ((p1).length : Int)), (11, slE (eSl eInt) x6.1), (13, slE (eSl eBool) x8), (14, slE eBool a33.1), (18, .ar 13094 w34 eU8.k 0 ((a33.2.2).length)), (19, hI a33.2.1), (20, hI a37), (21, .ar 13109 v41 eBool.k 0 ((a57.2.2).length)), (22, .bool a57.1), (23, hI a43.2.1), (24, .ptr 13024 v49 0), (25, hI a50.2.1), (26, hI a57.2.1), (27, hI x66), (28, hI a)], [(13024, v49, .arr 3 53 [hI x47.1, hI x47.2.1, hI x47.2.2]), (13094, w34, .arr eU8.k 5 (eU8.E a33.2.2)), (13109, v41, .arr eBool.k 4 (eBool.E a57.2.2))]⟩) (fun a68 w69 h => ?_) (fun k70 h => ?_)
         ·refine AW.rgs rfl fun K hK => bv rfl (v_fieldAddrP fo53_2 rfl rfl) (bv rfl (v_loadP ty3 rfl rfl (l_lit rfl rfl)) (mv rfl rfl (bv rfl (v_bin rfl rfl b_add) (bv rfl (v_bin rfl rfl b_mul) (mv rfl rfl ?_)))))
          refine bv rfl (v_bin rfl rfl b_add) (bv rfl (v_bin rfl rfl b_mul) (mv rfl rfl (bv rfl (v_bin rfl rfl b_add) (mv rfl rfl ?_))))
          refine bf hK ⟨[(3, gF p0), (10, hI ((p1).length : Int)), (11, slE (eSl eInt) x6.1), (13, slE (eSl eBool) x8), (14, slE eBool a33.1), (18, .ar 13094 w34 eU8.k 0 ((a33.2.2).length)), (19, hI a33.2.1), (20, hI a37), (21, .ar 13109 v41 eBool.k 0 ((a57.2.2).length)), (22, .bool a57.1), (23, hI a43.2.1), (24, .ptr 13024 v49 0), (25, hI a50.2.1), (26, hI a57.2.1), (29, hI (IntKind.wrap .i64 ((IntKind.wrap .i64 ((IntKind.wrap .i64 ((IntKind.wrap .i64 (x47.2.2 * (IntKind.wrap .i64 (((p1).length : Int) + 1)))) + x66)) * 2)) + a68)))], [(13024, v49, .arr 3 53 [hI x47.1, hI x47.2.1, hI x47.2.2]), (13094, w34, .arr eU8.k 5 (eU8.E a33.2.2)), (13109, v41, .arr eBool.k 4 (eBool.E a57.2.2))]⟩ ?_
          refine AW.seqJ h (S := Bool) (V := Unit) (fun a v => ⟨[(3, gF p0), (10, hI ((p1).length : Int)), (11, slE (eSl eInt) x6.1), (13, slE (eSl eBool) x8), (14, slE eBool a33.1), (18, .ar 13094 w34 eU8.k 0 ((a33.2.2).length)), (19, hI a33.2.1), (20, hI a37), (21, .ar 13109 v41 eBool.k 0 ((a57.2.2).length)), (22, .bool a57.1), (23, hI a43.2.1), (24, .ptr 13024 v49 0), (25, hI a50.2.1), (26, hI a57.2.1), (29, hI (IntKind.wrap .i64 ((IntKind.wrap .i64 ((IntKind.wrap .i64 ((IntKind.wrap .i64 (x47.2.2 * (IntKind.wrap .i64 (((p1).length : Int) + 1)))) + x66)) * 2)) + a68))), (179, .bool a)], [(13024, v49, .arr 3 53 [hI x47.1, hI x47.2.1, hI x47.2.2]), (13094, w34, .arr eU8.k 5 (eU8.E a33.2.2)), (13109, v41, .arr eBool.k 4 (eBool.E a57.2.2))]⟩) (fun a71 w72 h => ?_) (fun k73 h => ?_)
          ·refine AW.cond rfl (fun hc => ?_) (fun hc => ?_)
           ·have h := ifT hc h
            refine AW.rg rfl fun K hK => mv rfl rfl (mv rfl rfl ?_)
            obtain ⟨x74, h75, h⟩ := bS h
            refine bv rfl (v_idxA ty60 es60 rfl rfl (idx_lt h75) rfl) ?_
            refine b_op rfl (o_storeE eBool (l := a57.2.2) (j := (IntKind.wrap .i64 ((IntKind.wrap .i64 ((IntKind.wrap .i64 ((IntKind.wrap .i64 (x47.2.2 * (IntKind.wrap .i64 (((p1).length : Int) + 1)))) + x66)) * 2)) + a68))) (v := true) rfl rfl rfl ty4 rfl rfl rfl (idx_lt h75) ?_)
            refine mv rfl rfl ?_
            refine b_nil (hK _ ?_)
            exact to_le (s' := ⟨[(3, gF p0), (10, hI ((p1).length : Int)), (11, slE (eSl eInt) x6.1), (13, slE (eSl eBool) x8), (14, slE eBool a33.1), (18, .ar 13094 w34 eU8.k 0 ((a33.2.2).length)), (19, hI a33.2.1), (20, hI a37), (21, .ar 13109 v41 eBool.k 0 (((a57.2.2).set (IntKind.wrap .i64 ((IntKind.wrap .i64 ((IntKind.wrap .i64 ((IntKind.wrap .i64 (x47.2.2 * (IntKind.wrap .i64 (((p1).length : Int) + 1)))) + x66)) * 2)) + a68)).toNat true).length)), (22, .bool true), (23, hI a43.2.1), (24, .ptr 13024 v49 0), (25, hI a50.2.1), (26, hI a57.2.1)], [(13024, v49, .arr 3 53 [hI x47.1, hI x47.2.1, hI x47.2.2]), (13094, w34, .arr eU8.k 5 (eU8.E a33.2.2)), (13109, v41, .arr eBool.k 4 (eBool.E ((a57.2.2).set (IntKind.wrap .i64 ((IntKind.wrap .i64 ((IntKind.wrap .i64 ((IntKind.wrap .i64 (x47.2.2 * (IntKind.wrap .i64 (((p1).length : Int) + 1)))) + x66)) * 2)) + a68)).toNat true)))]⟩) (AS.le_of ⟨rfl, rfl, rfl, rfl, rfl, rfl, rfl, rfl, arl (by first | rfl | simp only [List.length_set, sortI_len, sortS_len]), rfl, rfl, rfl, rfl, rfl, trivial⟩ ⟨rfl, rfl, rfl, trivial⟩) ⟨(true, (a57.2.2).set (IntKind.wrap .i64 ((IntKind.wrap .i64 ((IntKind.wrap .i64 ((IntKind.wrap .i64 (x47.2.2 * (IntKind.wrap .i64 (((p1).length : Int) + 1)))) + x66)) * 2)) + a68)).toNat true), (), h, rfl⟩
           have h := ifF (bF' hc) h
           refine AW.skip ?_
           exact to_L ⟨(a57.1, a57.2.2), (), h, rfl⟩
          refine AW.rg rfl fun K hK => mv rfl rfl (bv rfl (v_fieldAddrP fo53_0 rfl rfl) (bv rfl (v_loadP ty3 rfl rfl (l_lit rfl rfl)) (mv rfl rfl (bv rfl (v_bin rfl rfl b_add) (bv rfl (v_bin rfl rfl b_mul) ?_)))))
          refine mv rfl rfl (bv rfl (v_bin rfl rfl b_add) (bv rfl (v_bin rfl rfl b_mul) (mv rfl rfl (bv rfl (v_bin rfl rfl b_add) ?_))))
          obtain ⟨x76, h77, h⟩ := bS h
          refine bv rfl (v_idxF ty60 es60 rfl rfl (idx_lt h77)) (bv rfl (v_loadF ty4 rfl (l_cell eBool h77 (o := 0) rfl rfl)) (mv rfl rfl ?_))
          by_cases hg82 : x76 = true
          ·have h := ifT hg82 h
           refine b_T rfl rfl rfl rfl hg82 (o_val rfl (mv_val rfl rfl).2 ?_)
           refine b_T rfl rfl rfl rfl rfl (o_val rfl (mv_val rfl rfl).2 ?_)
           obtain ⟨x78, h79, h⟩ := bS h
           refine b_T rfl rfl rfl rfl rfl (o_val rfl (v_idxF ty58 es58 rfl rfl (idx_lt h79)) ?_)
           refine b_T rfl rfl rfl rfl rfl (o_val rfl (v_loadF ty60 rfl (l_cell (eSl eBool) h79 (o := 0) rfl rfl)) ?_)
           refine b_T rfl rfl rfl rfl rfl (o_val rfl (mv_val rfl rfl).2 ?_)
           obtain ⟨x80, h81, h⟩ := bS h
           refine b_T rfl rfl rfl rfl rfl (o_val rfl (v_idxF ty60 es60 rfl rfl (idx_lt h81)) ?_)
           refine b_T rfl rfl rfl rfl rfl (o_val rfl (v_loadF ty4 rfl (l_cell eBool h81 (o := 0) rfl rfl)) ?_)
           refine bv rfl (v_pickT rfl rfl rfl) ?_
           refine b_nil (hK _ ?_)
           exact to_L ⟨x80, (), h, rfl⟩
          have h := ifF hg82 h
          refine b_F rfl rfl rfl rfl rfl (bF hg82) ?_
          refine b_F rfl rfl rfl rfl rfl rfl ?_
          refine b_F rfl rfl rfl rfl rfl rfl ?_
          refine b_F rfl rfl rfl rfl rfl rfl ?_
          refine b_F rfl rfl rfl rfl rfl rfl ?_
          refine b_F rfl rfl rfl rfl rfl rfl ?_
          refine b_F rfl rfl rfl rfl rfl rfl ?_
          refine bv rfl (v_pickF rfl rfl rfl) ?_
          refine b_nil (hK _ ?_)
          exact to_L ⟨false, (), h, rfl⟩
         refine AW.cond rfl (fun hc => ?_) (fun hc => ?_)
         ·obtain ⟨hc, h⟩ := cT hc h
          refine AW.rg rfl fun K hK => mv rfl rfl ?_
          refine b_nil (hK _ ?_)
          exact to_L ⟨1, (), h, rfl⟩
         obtain ⟨hc, h⟩ := cF hc h
         refine AW.skip ?_
         exact to_L ⟨a57.2.1, (), h, rfl⟩
        obtain ⟨hc, h⟩ := cF hc h
        refine AW.exit ?_
        exact to_L ⟨(a57.2.2, a57.1), (), h, rfl⟩
       have h := ifF (bF' hc) h
       refine AW.exit ?_
       exact to_L ⟨(a50.2.2, a50.1), (), h, rfl⟩
      refine AW.rg rfl fun K hK => mv rfl rfl (mv rfl rfl (bv rfl (v_bin rfl rfl b_leq) (mv rfl rfl ?_)))
      by_cases hg85 : a50.2.1 ≤ ((p1).length : Int)
      ·have h := ifT hg85 h
       refine b_T rfl rfl rfl rfl (decide_eq_true hg85) (o_val rfl (v_fieldAddrP fo53_1 rfl rfl) ?_)
       refine b_T rfl rfl rfl rfl rfl (o_val rfl (v_loadP ty3 rfl rfl (l_lit rfl rfl)) ?_)
       refine b_T rfl rfl rfl rfl rfl (o_val rfl (mv_val rfl rfl).2 ?_)
       refine b_T rfl rfl rfl rfl rfl (o_val rfl (v_bin rfl rfl b_eql) ?_)
       refine bv rfl (v_pickT rfl rfl rfl) ?_
       refine b_nil (hK _ ?_)
       exact to_L ⟨decide (x47.2.1 = a37), (), h, rfl⟩
      have h := ifF hg85 h
      refine b_F rfl rfl rfl rfl rfl (decide_eq_false hg85) ?_
      refine b_F rfl rfl rfl rfl rfl rfl ?_
      refine b_F rfl rfl rfl rfl rfl rfl ?_
      refine b_F rfl rfl rfl rfl rfl rfl ?_
      refine bv rfl (v_pickF rfl rfl rfl) ?_
      refine b_nil (hK _ ?_)
      exact to_L ⟨false, (), h, rfl⟩
     obtain ⟨hc, h⟩ := cF hc h
     refine AW.exit ?_
     exact to_L ⟨(a43.2.2, a43.1), (), h, rfl⟩
    obtain ⟨hc, h⟩ := cF hc h
    refine AW.exit ?_
    exact to_L ⟨(a33.1, a33.2.2), w34, h, rfl⟩
   obtain ⟨hc, h⟩ := cF hc h
   refine AW.exit ?_
   exact to_L ⟨a33.2.2, w34, h, rfl⟩
  refine AW.seq ?_
  refine AW.rgs rfl fun K hK => mv rfl rfl (bv rfl (v_fieldAddrF fo24_1 rfl) (bv rfl (v_loadF ty3 rfl (l_lit rfl rfl)) (bv rfl (v_bin rfl rfl b_lss) ?_)))
  refine bf hK ⟨[(2, hI p2), (3, gF p0), (10, hI ((p1).length : Int)), (11, slE (eSl eInt) x6.1), (13, slE (eSl eBool) x8), (14, .ar 13061 v10 eBool.k 0 ((a12.2.2).length)), (15, .bool a12.1), (16, hI a12.2.1), (65, .bool (decide (a12.2.1 < p0.2.1)))], [(13061, v10, .arr eBool.k 4 (eBool.E a12.2.2))]⟩ ?_
  refine AW.cond rfl (fun hc => ?_) (fun hc => ?_)
  ·obtain ⟨hc, h⟩ := cT hc h
   refine AW.skip ?_
   refine AW.seqJ h (S := Bool × (List Bool)) (V := Unit) (fun a v => ⟨[(2, hI p2), (3, gF p0), (10, hI ((p1).length : Int)), (11, slE (eSl eInt) x6.1), (13, slE (eSl eBool) x8), (14, .ar 13061 v10 eBool.k 0 ((a.2).length)), (15, .bool a.1), (16, hI a12.2.1)], [(13061, v10, .arr eBool.k 4 (eBool.E a.2))]⟩) (fun a16 w17 h => ?_) (fun k18 h => ?_)
   ·refine AW.rg rfl fun K hK => mv rfl rfl (bv rfl (v_bin rfl rfl b_add) (mv rfl rfl ?_))
    refine b_nil (hK _ ?_)
    exact to_L ⟨(a16.1, IntKind.wrap .i64 (a12.2.1 + 1), a16.2), (), h, rfl⟩
   refine AW.block ?_
   refine AW.rgs rfl fun K hK => mv rfl rfl (mv rfl rfl (bv rfl (v_bin rfl rfl b_add) (bv rfl (v_bin rfl rfl b_mul) (mv rfl rfl (bv rfl (v_bin rfl rfl b_add) ?_)))))
   refine bv rfl (v_bin rfl rfl b_mul) (mv rfl rfl ?_)
   refine bf hK ⟨[(2, hI p2), (3, gF p0), (10, hI ((p1).length : Int)), (11, slE (eSl eInt) x6.1), (13, slE (eSl eBool) x8), (14, .ar 13061 v10 eBool.k 0 ((a12.2.2).length)), (15, .bool a12.1), (16, hI a12.2.1), (17, hI (IntKind.wrap .i64 ((IntKind.wrap .i64 ((IntKind.wrap .i64 (a12.2.1 * (IntKind.wrap .i64 (((p1).length : Int) + 1)))) + ((p1).length : Int))) * 2)))], [(13061, v10, .arr eBool.k 4 (eBool.E a12.2.2))]⟩ ?_
   refine AW.rgs rfl fun K hK => mv rfl rfl (mv rfl rfl (mv rfl rfl (mv rfl rfl ?_)))
   obtain ⟨x19, h20, h⟩ := bS h
   refine bv rfl (v_idxF ty58 es58 rfl rfl (idx_lt h20)) (bv rfl (v_loadF ty60 rfl (l_cell (eSl eBool) h20 (o := 0) rfl rfl)) (mv rfl rfl ?_))
   obtain ⟨x21, h22, h⟩ := bS h
   refine bv rfl (v_idxF ty60 es60 rfl rfl (idx_lt h22)) (bv rfl (v_loadF ty4 rfl (l_cell eBool h22 (o := 0) rfl rfl)) ?_)
   obtain ⟨x23, h24, h⟩ := bS h
   refine bv rfl (v_idxA ty60 es60 rfl rfl (idx_lt h24) rfl) ?_
   refine b_op rfl (o_storeE eBool (l := a12.2.2) (j := (IntKind.wrap .i64 ((IntKind.wrap .i64 ((IntKind.wrap .i64 (a12.2.1 * (IntKind.wrap .i64 (((p1).length : Int) + 1)))) + ((p1).length : Int))) * 2))) (v := x21) rfl rfl rfl ty4 rfl rfl rfl (idx_lt h24) ?_)
   refine b_fin hK (s' := ⟨[(2, hI p2), (3, gF p0), (10, hI ((p1).length : Int)), (11, slE (eSl eInt) x6.1), (13, slE (eSl eBool) x8), (14, .ar 13061 v10 eBool.k 0 (((a12.2.2).set (IntKind.wrap .i64 ((IntKind.wrap .i64 ((IntKind.wrap .i64 (a12.2.1 * (IntKind.wrap .i64 (((p1).length : Int) + 1)))) + ((p1).length : Int))) * 2)).toNat x21).length)), (15, .bool a12.1), (16, hI a12.2.1), (17, hI (IntKind.wrap .i64 ((IntKind.wrap .i64 ((IntKind.wrap .i64 (a12.2.1 * (IntKind.wrap .i64 (((p1).length : Int) + 1)))) + ((p1).length : Int))) * 2)))], [(13061, v10, .arr eBool.k 4 (eBool.E ((a12.2.2).set (IntKind.wrap .i64 ((IntKind.wrap .i64 ((IntKind.wrap .i64 (a12.2.1 * (IntKind.wrap .i64 (((p1).length : Int) + 1)))) + ((p1).length : Int))) * 2)).toNat x21)))]⟩) (AS.le_of ⟨rfl, rfl, rfl, rfl, rfl, arl (by first | rfl | simp only [List.length_set, sortI_len, sortS_len]), rfl, rfl, rfl, trivial⟩ ⟨rfl, trivial⟩) ?_
   refine AW.rg rfl fun K hK => mv rfl rfl (mv rfl rfl ?_)
   by_cases hg29 : a12.1 = true
   ·have h := ifT hg29 h
    refine b_F rfl rfl rfl rfl rfl hg29 ?_
    refine b_F rfl rfl rfl rfl rfl rfl ?_
    refine b_F rfl rfl rfl rfl rfl rfl ?_
    refine b_F rfl rfl rfl rfl rfl rfl ?_
    refine bv rfl (v_pickT rfl rfl rfl) (mv rfl rfl ?_)
    refine b_nil (hK _ ?_)
    exact to_L ⟨(true, (a12.2.2).set (IntKind.wrap .i64 ((IntKind.wrap .i64 ((IntKind.wrap .i64 (a12.2.1 * (IntKind.wrap .i64 (((p1).length : Int) + 1)))) + ((p1).length : Int))) * 2)).toNat x21), (), h, rfl⟩
   have h := ifF hg29 h
   refine b_T rfl rfl rfl rfl (bF hg29) (o_val rfl (mv_val rfl rfl).2 ?_)
   refine b_T rfl rfl rfl rfl rfl (o_val rfl (mv_val rfl rfl).2 ?_)
   obtain ⟨x25, h26, h⟩ := bS h
   refine b_T rfl rfl rfl rfl rfl (o_val rfl (v_idxA ty60 es60 rfl rfl (idx_lt h26) rfl) ?_)
   obtain ⟨x27, h28, h⟩ := bS h
   refine b_T rfl rfl rfl rfl rfl (o_val rfl (v_loadP ty4 rfl rfl (l_cell eBool h28 (o := 0) rfl rfl)) ?_)
   refine bv rfl (v_pickF rfl rfl rfl) (mv rfl rfl ?_)
   refine b_nil (hK _ ?_)
   exact to_L ⟨(x27, (a12.2.2).set (IntKind.wrap .i64 ((IntKind.wrap .i64 ((IntKind.wrap .i64 (a12.2.1 * (IntKind.wrap .i64 (((p1).length : Int) + 1)))) + ((p1).length : Int))) * 2)).toNat x21), (), h, rfl⟩
  obtain ⟨hc, h⟩ := cF hc h
  refine AW.exit ?_
  exact to_L ⟨(a12.2.2, a12.1), (), h, rfl⟩
 refine AW.rg rfl fun K hK => mv rfl rfl (bv rfl (v_bin rfl rfl b_lss) (mv rfl rfl ?_))
 by_cases hg98 : p2 < 0
 ·have h := ifT hg98 h
  refine b_F rfl rfl rfl rfl rfl (decide_eq_true hg98) ?_
  refine b_F rfl rfl rfl rfl rfl rfl ?_
  refine bv rfl (v_pickT rfl rfl rfl) ?_
  refine b_nil (hK _ ?_)
  exact to_L ⟨true, (), h, rfl⟩
 have h := ifF hg98 h
 refine b_T rfl rfl rfl rfl (decide_eq_false hg98) (o_val rfl (mv_val rfl rfl).2 ?_)
 refine b_T rfl rfl rfl rfl rfl (o_val rfl (v_bin rfl rfl b_gtr) ?_)
 refine bv rfl (v_pickF rfl rfl rfl) ?_
 refine b_nil (hK _ ?_)
 exact to_L ⟨decide (4096 < p2), (), h, rfl⟩
theorem w_ref11_check {p0 : TLabelsStatesEdges} {r : Int} (h : m_ref11_check p0 = some r) : Pure Try.prog 84 [gA p0] (· = hI r) := by
 unfold m_ref11_check at h
 refine Pure.of_body Try.func84 rfl rfl (lb rfl) fun hf => ?_
 unfold Try.f84
 dsimp only [enumS, Nat.reduceAdd]
 refine AW.rgs rfl fun K hK => b_op rfl (o_box rfl rfl rfl ?_)
 refine mv rfl rfl ?_
 refine bf hK ⟨[(1, gF p0)], []⟩ ?_
 refine AW.seq ?_
 refine AW.rgs rfl fun K hK => bv rfl (v_loadF ty24 rfl (l_litA rfl (lb rfl) rfl)) ?_
 obtain ⟨x1, h2, h⟩ := bS h
 refine b_op rfl (o_call rfl rfl rfl rfl (ACallD.pure0 (w_ref09_Check h2)) ?_)
 refine bv rfl (v_bin rfl rfl b_neq) ?_
 refine bf hK ⟨[(1, gF p0), (5, .bool (decide (x1 ≠ 0)))], []⟩ ?_
 refine AW.cond rfl (fun hc => ?_) (fun hc => ?_)
 ·obtain ⟨hc, h⟩ := cT hc h
  refine AW.rgs rfl fun K hK => mv rfl rfl ?_
  refine bf hK ⟨[(2, hI 1)], []⟩ ?_
  refine AW.ret ?_
  have h := Option.some.inj h
  subst h
  exact ret_pure (hs := [hI 1]) (.inr rfl) (resT rfl rfl) rfl trivial
 obtain ⟨hc, h⟩ := cF hc h
 refine AW.skip ?_
 refine AW.seq ?_
 refine AW.rgs rfl fun K hK => bv rfl (v_fieldAddrF fo24_0 rfl) (bv rfl (v_loadF ty3 rfl (l_lit rfl rfl)) (bv rfl (v_bin rfl rfl b_gtr) ?_))
 refine bf hK ⟨[(8, .bool (decide (16 < p0.1)))], []⟩ ?_
 refine AW.cond rfl (fun hc => ?_) (fun hc => ?_)
 ·obtain ⟨hc, h⟩ := cT hc h
  refine AW.rgs rfl fun K hK => mv rfl rfl ?_
  refine bf hK ⟨[(2, hI 12)], []⟩ ?_
  refine AW.ret ?_
  have h := Option.some.inj h
  subst h
  exact ret_pure (hs := [hI 12]) (.inr rfl) (resT rfl rfl) rfl trivial
 obtain ⟨hc, h⟩ := cF hc h
 refine AW.skip ?_
 refine AW.rgs rfl fun K hK => mv rfl rfl ?_
 refine bf hK ⟨[(2, hI 0)], []⟩ ?_
 refine AW.ret ?_
 have h := Option.some.inj h
 subst h
 exact ret_pure (hs := [hI 0]) (.inr rfl) (resT rfl rfl) rfl trivial
theorem w_ref11_checkWord {p0 : TLabelsStatesEdges} {p1 : List UInt8} {r : Int} (h : m_ref11_checkWord p0 p1 = some r) : Pure Try.prog 62 [gA p0, .str p1] (· = hI r) := by
 unfold m_ref11_checkWord at h
 refine Pure.of_body Try.func62 rfl rfl (lb rfl) fun hf => ?_
 unfold Try.f62
 dsimp only [enumS, Nat.reduceAdd]
 refine AW.rgs rfl fun K hK => b_op rfl (o_box rfl rfl rfl ?_)
 refine mv rfl rfl ?_
 refine bf hK ⟨[(1, .str p1), (2, gF p0)], []⟩ ?_
 refine AW.seq ?_
 refine AW.rgs rfl fun K hK => bv rfl (v_loadF ty24 rfl (l_litA rfl (lb rfl) rfl)) ?_
 obtain ⟨x1, h2, h⟩ := bS h
 refine b_op rfl (o_call rfl rfl rfl rfl (ACallD.pure0 (w_ref11_check h2)) ?_)
 refine mv rfl rfl ?_
 refine bf hK ⟨[(1, .str p1), (2, gF p0), (5, hI x1)], []⟩ ?_
 refine AW.rgs rfl fun K hK => mv rfl rfl (bv rfl (v_bin rfl rfl b_neq) ?_)
 refine bf hK ⟨[(1, .str p1), (2, gF p0), (5, hI x1), (9, .bool (decide (x1 ≠ 0)))], []⟩ ?_
 refine AW.cond rfl (fun hc => ?_) (fun hc => ?_)
 ·obtain ⟨hc, h⟩ := cT hc h
  refine AW.rgs rfl fun K hK => mv rfl rfl (mv rfl rfl ?_)
  refine bf hK ⟨[(4, hI x1)], []⟩ ?_
  refine AW.ret ?_
  have h := Option.some.inj h
  subst h
  exact ret_pure (hs := [hI x1]) (.inr rfl) (resT rfl rfl) rfl trivial
 obtain ⟨hc, h⟩ := cF hc h
 refine AW.skip ?_
 refine AW.rgs rfl fun K hK => bv rfl (v_fieldAddrF fo24_0 rfl) (bv rfl (v_loadF ty3 rfl (l_lit rfl rfl)) (mv rfl rfl ?_))
 obtain ⟨x3, h4, h⟩ := bS h
 refine b_op rfl (o_call rfl rfl rfl rfl (ACallD.pure0 (w_ref07_Check h4)) ?_)
 refine mv rfl rfl ?_
 refine bf hK ⟨[(4, hI x3)], []⟩ ?_
 refine AW.ret ?_
 have h := Option.some.inj h
 subst h
 exact ret_pure (hs := [hI x3]) (.inr rfl) (resT rfl rfl) rfl trivial
theorem w_ref11_has {p0 : List (Int)} {p1 : Int} {r : Bool} (h : m_ref11_has p0 p1 = some r) : Pure Try.prog 99 [slE eInt p0, hI p1] (· = HV.bool r) := by
 unfold m_ref11_has at h
 refine Pure.of_body Try.func99 rfl rfl (lb rfl) fun hf => ?_
 unfold Try.f99
 dsimp only [enumS, Nat.reduceAdd]
 refine AW.rgs rfl fun K hK => mv rfl rfl ?_
 refine bf hK ⟨[(0, slE eInt p0), (1, hI p1)], []⟩ ?_
 refine AW.seq ?_
 refine AW.rgs rfl fun K hK => mv rfl rfl ?_
 refine bf hK ⟨[(0, slE eInt p0), (1, hI p1), (5, hI 0)], []⟩ ?_
 refine AW.lpR h (by first | exact up_then | exact up_to) (S := Int) (V := Unit) (fun a v => ⟨[(0, slE eInt p0), (1, hI p1), (5, hI a)], []⟩) ?_ (X := Unit) (W := Unit) (fun a v => ⟨[], []⟩) (fun a7 w8 h => ?_) (fun a1 w2 st3 h hr4=> ?_)
 ·exact to_L ⟨(), rfl⟩
 ·refine AW.rgs rfl fun K hK => mv rfl rfl ?_
  refine bf hK ⟨[(4, .bool false)], []⟩ ?_
  refine AW.ret ?_
  have h := Option.some.inj h
  subst h
  exact ret_pure (hs := [.bool false]) (.inr rfl) (resT rfl rfl) rfl trivial
 refine AW.seq ?_
 refine AW.rgs rfl fun K hK => mv rfl rfl (mv rfl rfl (bv rfl (v_lenF rfl rfl ty35 rfl) (bv rfl (v_bin rfl rfl b_lss) ?_)))
 refine bf hK ⟨[(0, slE eInt p0), (1, hI p1), (5, hI a1), (9, .bool (decide (a1 < ((p0).length : Int))))], []⟩ ?_
 refine AW.cond rfl (fun hc => ?_) (fun hc => ?_)
 ·obtain ⟨hc, h⟩ := cT hc h
  refine AW.skip ?_
  refine AW.seq (AW.block ?_)
  refine AW.rgs rfl fun K hK => mv rfl rfl (mv rfl rfl ?_)
  obtain ⟨x5, h6, h⟩ := bS h
  refine bv rfl (v_idxF ty35 es35 rfl rfl (idx_lt h6)) (bv rfl (v_loadF ty3 rfl (l_cell eInt h6 (o := 0) rfl rfl)) (mv rfl rfl (bv rfl (v_bin rfl rfl b_eql) ?_)))
  refine bf hK ⟨[(0, slE eInt p0), (1, hI p1), (5, hI a1), (17, .bool (decide (x5 = p1)))], []⟩ ?_
  refine AW.cond rfl (fun hc => ?_) (fun hc => ?_)
  ·obtain ⟨hc, h⟩ := cT hc h
   refine AW.rgs rfl fun K hK => mv rfl rfl ?_
   refine bf hK ⟨[(4, .bool true)], []⟩ ?_
   have h := hr4 _ h
   refine AW.ret ?_
   have h := Option.some.inj h
   subst h
   exact ret_pure (hs := [.bool true]) (.inr rfl) (resT rfl rfl) rfl trivial
  obtain ⟨hc, h⟩ := cF hc h
  refine AW.skip ?_
  refine AW.rg rfl fun K hK => mv rfl rfl (bv rfl (v_bin rfl rfl b_add) (mv rfl rfl ?_))
  refine b_nil (hK _ ?_)
  exact to_L ⟨IntKind.wrap .i64 (a1 + 1), (), h, rfl⟩
 obtain ⟨hc, h⟩ := cF hc h
 refine AW.exit ?_
 exact to_L ⟨(), (), h, rfl⟩
theorem w_ref11_Step {p0 : TLabelsStatesEdges} {p1 : List (Int)} {p2 : Int} {r : (List (Int))} (h : m_ref11_Step p0 p1 p2 = some r) : Pure Try.prog 85 [gA p0, slE eInt p1, hI p2] (· = slE eInt r) := by
 unfold m_ref11_Step at h
 refine Pure.of_body Try.func85 rfl rfl (lb rfl) fun hf => ?_
 unfold Try.f85
 dsimp only [enumS, Nat.reduceAdd]
 refine AW.rgs rfl fun K hK => b_op rfl (o_box rfl rfl rfl ?_)
 refine mv rfl rfl ?_
 refine bf hK ⟨[(1, slE eInt p1), (2, hI p2), (3, gF p0)], []⟩ ?_
 refine AW.rgs rfl fun K hK => b_op rfl (o_bslM (fid := 85) 85011 rfl rfl rfl (as_of (cs := []) ty35 ty3 rfl rfl rfl rfl rfl) (fun v1 => ?_))
 refine mv rfl rfl ?_
 refine bf hK ⟨[(1, slE eInt p1), (2, hI p2), (3, gF p0), (7, .ar 85011 v1 eInt.k 0 0)], [(85011, v1, .arr eInt.k 3 [])]⟩ ?_
 refine AW.seq ?_
 refine AW.rgs rfl fun K hK => mv rfl rfl ?_
 refine bf hK ⟨[(1, slE eInt p1), (2, hI p2), (3, gF p0), (7, .ar 85011 v1 eInt.k 0 0), (8, hI 0)], [(85011, v1, .arr eInt.k 3 [])]⟩ ?_
 refine AW.lpX h (by first | exact up_then | exact up_to) (S := Int × (List Int)) (V := Nat) (fun a v => ⟨[(1, slE eInt p1), (2, hI p2), (3, gF p0), (7, .ar 85011 v eInt.k 0 ((a.2).length)), (8, hI a.1)], [(85011, v, .arr eInt.k 3 (eInt.E a.2))]⟩) ?_ (X := (List Int)) (W := Nat) (fun a v => ⟨[(7, .ar 85011 v eInt.k 0 ((a).length))], [(85011, v, .arr eInt.k 3 (eInt.E a))]⟩) (fun a33 w34 h => ?_) (fun a2 w3 st4 h => ?_)
 ·exact to_L ⟨v1, rfl⟩
 ·refine AW.rgs rfl fun K hK => mv rfl rfl (mv rfl rfl ?_)
  refine bf hK ⟨[(6, .ar 85011 w34 eInt.k 0 ((a33).length))], [(85011, w34, .arr eInt.k 3 (eInt.E a33))]⟩ ?_
  refine AW.to (to_frz 2 [(85011, w34, .arr eInt.k 3 (eInt.E a33))] ⟨[(6, slE eInt a33)], []⟩ ⟨⟨_, rfl, frz_slE eInt (l := a33) rfl fun _ _ => rfl⟩, trivial⟩ trivial ⟨rfl, trivial⟩ ⟨rfl, trivial⟩ ?_)
  refine AW.ret ?_
  have h := Option.some.inj h
  subst h
  exact ret_pure (hs := [slE eInt a33]) (.inr rfl) (resT rfl rfl) rfl (clean_slE fun _ _ => ⟨trivial, trivial⟩)
 refine AW.seq ?_
 refine AW.rgs rfl fun K hK => mv rfl rfl (bv rfl (v_fieldAddrF fo24_1 rfl) (bv rfl (v_loadF ty3 rfl (l_lit rfl rfl)) (bv rfl (v_bin rfl rfl b_lss) ?_)))
 refine bf hK ⟨[(1, slE eInt p1), (2, hI p2), (3, gF p0), (7, .ar 85011 w3 eInt.k 0 ((a2.2).length)), (8, hI a2.1), (15, .bool (decide (a2.1 < p0.2.1)))], [(85011, w3, .arr eInt.k 3 (eInt.E a2.2))]⟩ ?_
 refine AW.cond rfl (fun hc => ?_) (fun hc => ?_)
 ·obtain ⟨hc, h⟩ := cT hc h
  refine AW.skip ?_
  refine AW.seqJ h (S := (List Int)) (V := Nat) (fun a v => ⟨[(1, slE eInt p1), (2, hI p2), (3, gF p0), (7, .ar 85011 v eInt.k 0 ((a).length)), (8, hI a2.1)], [(85011, v, .arr eInt.k 3 (eInt.E a))]⟩) (fun a6 w7 h => ?_) (fun k8 h => ?_)
  ·refine AW.rg rfl fun K hK => mv rfl rfl (bv rfl (v_bin rfl rfl b_add) (mv rfl rfl ?_))
   refine b_nil (hK _ ?_)
   exact to_L ⟨(IntKind.wrap .i64 (a2.1 + 1), a6), w7, h, rfl⟩
  refine AW.block ?_
  refine AW.rgs rfl fun K hK => mv rfl rfl ?_
  refine bf hK ⟨[(1, slE eInt p1), (2, hI p2), (3, gF p0), (7, .ar 85011 w3 eInt.k 0 ((a2.2).length)), (8, hI a2.1), (9, .bool false)], [(85011, w3, .arr eInt.k 3 (eInt.E a2.2))]⟩ ?_
  refine AW.seq ?_
  refine AW.rgs rfl fun K hK => mv rfl rfl ?_
  refine bf hK ⟨[(1, slE eInt p1), (2, hI p2), (3, gF p0), (7, .ar 85011 w3 eInt.k 0 ((a2.2).length)), (8, hI a2.1), (9, .bool false), (10, hI 0)], [(85011, w3, .arr eInt.k 3 (eInt.E a2.2))]⟩ ?_
  refine AW.lpX h (by first | exact up_then | exact up_to) (S := Bool × Int) (V := Unit) (fun a v => ⟨[(1, slE eInt p1), (2, hI p2), (3, gF p0), (7, .ar 85011 w3 eInt.k 0 ((a2.2).length)), (8, hI a2.1), (9, .bool a.1), (10, hI a.2)], [(85011, w3, .arr eInt.k 3 (eInt.E a2.2))]⟩) ?_ (X := Bool) (W := Unit) (fun a v => ⟨[(1, slE eInt p1), (2, hI p2), (3, gF p0), (7, .ar 85011 w3 eInt.k 0 ((a2.2).length)), (8, hI a2.1), (9, .bool a)], [(85011, w3, .arr eInt.k 3 (eInt.E a2.2))]⟩) (fun a29 w30 h => ?_) (fun a9 w10 st11 h => ?_)
  ·exact to_L ⟨(), rfl⟩
  ·refine AW.rgs rfl fun K hK => mv rfl rfl ?_
   refine bf hK ⟨[(1, slE eInt p1), (2, hI p2), (3, gF p0), (7, .ar 85011 w3 eInt.k 0 ((a2.2).length)), (8, hI a2.1), (53, .bool a29)], [(85011, w3, .arr eInt.k 3 (eInt.E a2.2))]⟩ ?_
   refine AW.cond rfl (fun hc => ?_) (fun hc => ?_)
   ·have h := ifT hc h
    refine AW.rg rfl fun K hK => mv rfl rfl (mv rfl rfl ?_)
    refine b_op rfl (o_bsl rfl rfl (as_of (cs := [hI a2.1]) ty35 ty3 rfl rfl rfl rfl rfl) ?_)
    obtain ⟨h32, h⟩ := ifN h
    refine b_op rfl (o_appE eInt (l := a2.2) (m := [a2.1]) rfl rfl ty35 ty35 ty3 rfl rfl rfl rfl rfl h32 (fun v31 => ?_))
    refine mv rfl rfl ?_
    refine b_nil (hK _ ?_)
    exact to_L ⟨a2.2 ++ [a2.1], v31, h, rfl⟩
   have h := ifF (bF' hc) h
   refine AW.skip ?_
   exact to_L ⟨a2.2, w3, h, rfl⟩
  refine AW.seq ?_
  refine AW.rgs rfl fun K hK => mv rfl rfl (bv rfl (v_fieldAddrF fo24_2 rfl) (bv rfl (v_loadF ty22 rfl (l_lit rfl rfl)) (bv rfl (v_lenF rfl rfl ty22 rfl) (bv rfl (v_bin rfl rfl b_lss) ?_))))
  refine bf hK ⟨[(1, slE eInt p1), (2, hI p2), (3, gF p0), (7, .ar 85011 w3 eInt.k 0 ((a2.2).length)), (8, hI a2.1), (9, .bool a9.1), (10, hI a9.2), (22, .bool (decide (a9.2 < ((p0.2.2).length : Int))))], [(85011, w3, .arr eInt.k 3 (eInt.E a2.2))]⟩ ?_
  refine AW.cond rfl (fun hc => ?_) (fun hc => ?_)
  ·obtain ⟨hc, h⟩ := cT hc h
   refine AW.skip ?_
   refine AW.seqJ h (S := Bool) (V := Unit) (fun a v => ⟨[(1, slE eInt p1), (2, hI p2), (3, gF p0), (7, .ar 85011 w3 eInt.k 0 ((a2.2).length)), (8, hI a2.1), (9, .bool a), (10, hI a9.2)], [(85011, w3, .arr eInt.k 3 (eInt.E a2.2))]⟩) (fun a13 w14 h => ?_) (fun k15 h => ?_)
   ·refine AW.rg rfl fun K hK => mv rfl rfl (bv rfl (v_bin rfl rfl b_add) (mv rfl rfl ?_))
    refine b_nil (hK _ ?_)
    exact to_L ⟨(a13, IntKind.wrap .i64 (a9.2 + 1)), (), h, rfl⟩
   refine AW.block ?_
   refine AW.seqJ h (S := Bool) (V := Unit) (fun a v => ⟨[(1, slE eInt p1), (2, hI p2), (3, gF p0), (7, .ar 85011 w3 eInt.k 0 ((a2.2).length)), (8, hI a2.1), (9, .bool a9.1), (10, hI a9.2), (52, .bool a)], [(85011, w3, .arr eInt.k 3 (eInt.E a2.2))]⟩) (fun a16 w17 h => ?_) (fun k18 h => ?_)
   ·refine AW.cond rfl (fun hc => ?_) (fun hc => ?_)
    ·have h := ifT hc h
     refine AW.rg rfl fun K hK => mv rfl rfl ?_
     refine b_nil (hK _ ?_)
     exact to_L ⟨true, (), h, rfl⟩
    have h := ifF (bF' hc) h
    refine AW.skip ?_
    exact to_L ⟨a9.1, (), h, rfl⟩
   refine AW.rg rfl fun K hK => bv rfl (v_fieldAddrF fo24_2 rfl) (bv rfl (v_loadF ty22 rfl (l_lit rfl rfl)) (mv rfl rfl ?_))
   obtain ⟨x19, h20, h⟩ := bS h
   refine bv rfl (v_idxF ty22 es22 rfl rfl (idx_lt h20)) (bv rfl (v_fieldAddrF fo53_2 rfl) (bv rfl (v_loadF ty3 rfl (l_cell eFromLabelTo h20 (o := 2) rfl rfl)) (mv rfl rfl (bv rfl (v_bin rfl rfl b_eql) (mv rfl rfl ?_)))))
   by_cases hg28 : x19.2.2 = a2.1
   ·have h := ifT hg28 h
    refine b_T rfl rfl rfl rfl (decide_eq_true hg28) (o_val rfl (v_fieldAddrF fo24_2 rfl) ?_)
    refine b_T rfl rfl rfl rfl rfl (o_val rfl (v_loadF ty22 rfl (l_lit rfl rfl)) ?_)
    refine b_T rfl rfl rfl rfl rfl (o_val rfl (mv_val rfl rfl).2 ?_)
    obtain ⟨x21, h22, h⟩ := bS h
    refine b_T rfl rfl rfl rfl rfl (o_val rfl (v_idxF ty22 es22 rfl rfl (idx_lt h22)) ?_)
    refine b_T rfl rfl rfl rfl rfl (o_val rfl (v_fieldAddrF fo53_1 rfl) ?_)
    refine b_T rfl rfl rfl rfl rfl (o_val rfl (v_loadF ty3 rfl (l_cell eFromLabelTo h22 (o := 1) rfl rfl)) ?_)
    refine b_T rfl rfl rfl rfl rfl (o_val rfl (mv_val rfl rfl).2 ?_)
    refine b_T rfl rfl rfl rfl rfl (o_val rfl (v_bin rfl rfl b_eql) ?_)
    refine bv rfl (v_pickT rfl rfl rfl) (mv rfl rfl ?_)
    by_cases hg27 : x21.2.1 = p2
    ·have h := ifT hg27 h
     refine b_T rfl rfl rfl rfl (decide_eq_true hg27) (o_val rfl (mv_val rfl rfl).2 ?_)
     refine b_T rfl rfl rfl rfl rfl (o_val rfl (v_fieldAddrF fo24_2 rfl) ?_)
     refine b_T rfl rfl rfl rfl rfl (o_val rfl (v_loadF ty22 rfl (l_lit rfl rfl)) ?_)
     refine b_T rfl rfl rfl rfl rfl (o_val rfl (mv_val rfl rfl).2 ?_)
     obtain ⟨x23, h24, h⟩ := bS h
     refine b_T rfl rfl rfl rfl rfl (o_val rfl (v_idxF ty22 es22 rfl rfl (idx_lt h24)) ?_)
     refine b_T rfl rfl rfl rfl rfl (o_val rfl (v_fieldAddrF fo53_0 rfl) ?_)
     refine b_T rfl rfl rfl rfl rfl (o_val rfl (v_loadF ty3 rfl (l_cell eFromLabelTo h24 (o := 0) rfl rfl)) ?_)
     obtain ⟨x25, h26, h⟩ := bS h
     refine b_T rfl rfl rfl rfl rfl (o_call rfl rfl rfl rfl (ACallD.pure0 (w_ref11_has h26)) ?_)
     refine bv rfl (v_pickT rfl rfl rfl) ?_
     refine b_nil (hK _ ?_)
     exact to_L ⟨x25, (), h, rfl⟩
    have h := ifF hg27 h
    refine b_F rfl rfl rfl rfl rfl (decide_eq_false hg27) ?_
    refine b_F rfl rfl rfl rfl rfl rfl ?_
    refine b_F rfl rfl rfl rfl rfl rfl ?_
    refine b_F rfl rfl rfl rfl rfl rfl ?_
    refine b_F rfl rfl rfl rfl rfl rfl ?_
    refine b_F rfl rfl rfl rfl rfl rfl ?_
    refine b_F rfl rfl rfl rfl rfl rfl ?_
    refine b_F rfl rfl rfl rfl rfl rfl ?_
    refine bv rfl (v_pickF rfl rfl rfl) ?_
    refine b_nil (hK _ ?_)
    exact to_L ⟨false, (), h, rfl⟩
   have h := ifF hg28 h
   refine b_F rfl rfl rfl rfl rfl (decide_eq_false hg28) ?_
   refine b_F rfl rfl rfl rfl rfl rfl ?_
   refine b_F rfl rfl rfl rfl rfl rfl ?_
   refine b_F rfl rfl rfl rfl rfl rfl ?_
   refine b_F rfl rfl rfl rfl rfl rfl ?_
   refine b_F rfl rfl rfl rfl rfl rfl ?_
   refine b_F rfl rfl rfl rfl rfl rfl ?_
   refine b_F rfl rfl rfl rfl rfl rfl ?_
   refine bv rfl (v_pickF rfl rfl rfl) (mv rfl rfl ?_)
   refine b_F rfl rfl rfl rfl rfl rfl ?_
   refine b_F rfl rfl rfl rfl rfl rfl ?_
   refine b_F rfl rfl rfl rfl rfl rfl ?_
   refine b_F rfl rfl rfl rfl rfl rfl ?_
   refine b_F rfl rfl rfl rfl rfl rfl ?_
   refine b_F rfl rfl rfl rfl rfl rfl ?_
   refine b_F rfl rfl rfl rfl rfl rfl ?_
   refine b_F rfl rfl rfl rfl rfl rfl ?_
   refine bv rfl (v_pickF rfl rfl rfl) ?_
   refine b_nil (hK _ ?_)
   exact to_L ⟨false, (), h, rfl⟩
  obtain ⟨hc, h⟩ := cF hc h
  refine AW.exit ?_
  exact to_L ⟨a9.1, (), h, rfl⟩
 obtain ⟨hc, h⟩ := cF hc h
 refine AW.exit ?_
 exact to_L ⟨a2.2, w3, h, rfl⟩
theorem w_ref11_ends {p0 : TLabelsStatesEdges} {p1 : List (Int)} {p2 : List UInt8} {r : (List (Int))} (h : m_ref11_ends p0 p1 p2 = some r) : Pure Try.prog 63 [gA p0, slE eInt p1, .str p2] (· = slE eInt r) := by
 unfold m_ref11_ends at h
 refine Pure.of_body Try.func63 rfl rfl (lb rfl) fun hf => ?_
 unfold Try.f63
 dsimp only [enumS, Nat.reduceAdd]
 refine AW.rgs rfl fun K hK => b_op rfl (o_box rfl rfl rfl ?_)
 refine mv rfl rfl ?_
 refine bf hK ⟨[(1, slE eInt p1), (2, .str p2), (3, gF p0)], []⟩ ?_
 refine AW.seq ?_
 refine AW.rgs rfl fun K hK => mv rfl rfl ?_
 refine bf hK ⟨[(1, slE eInt p1), (2, .str p2), (3, gF p0), (7, hI 0)], []⟩ ?_
 refine AW.lpX h (by first | exact up_then | exact up_to) (S := (List Int) × Int) (V := Unit) (fun a v => ⟨[(1, slE eInt a.1), (2, .str p2), (3, gF p0), (7, hI a.2)], []⟩) ?_ (X := (List Int)) (W := Unit) (fun a v => ⟨[(1, slE eInt a)], []⟩) (fun a11 w12 h => ?_) (fun a1 w2 st3 h => ?_)
 ·exact to_L ⟨(), rfl⟩
 ·refine AW.rgs rfl fun K hK => mv rfl rfl (mv rfl rfl ?_)
  refine bf hK ⟨[(6, slE eInt a11)], []⟩ ?_
  refine AW.ret ?_
  have h := Option.some.inj h
  subst h
  exact ret_pure (hs := [slE eInt a11]) (.inr rfl) (resT rfl rfl) rfl (clean_slE fun _ _ => ⟨trivial, trivial⟩)
 refine AW.seq ?_
 refine AW.rgs rfl fun K hK => mv rfl rfl (mv rfl rfl (bv rfl (v_lenS rfl rfl ty9 rfl) (bv rfl (v_bin rfl rfl b_lss) ?_)))
 refine bf hK ⟨[(1, slE eInt a1.1), (2, .str p2), (3, gF p0), (7, hI a1.2), (11, .bool (decide (a1.2 < ((p2).length : Int))))], []⟩ ?_
 refine AW.cond rfl (fun hc => ?_) (fun hc => ?_)
 ·obtain ⟨hc, h⟩ := cT hc h
  refine AW.skip ?_
  refine AW.seq (AW.block ?_)
  refine AW.dg 8 follows rfl rfl fun K hK => ?_
  refine sv rfl (v_loadF ty24 rfl (l_litA rfl (lb rfl) rfl)) ?_
  refine sm rfl rfl ?_
  refine sm rfl rfl ?_
  refine sm rfl rfl ?_
  obtain ⟨x5, h6, h⟩ := bS h
  refine sv rfl (v_idxS ty9 rfl rfl h6) ?_
  obtain ⟨x7, h8, h⟩ := bS h
  refine s_op rfl rfl (ops_call rfl rfl rfl rfl (ACallD.pure0 (w_ref07_Digit h8)) ?_)
  obtain ⟨x9, h10, h⟩ := bS h
  refine s_op rfl rfl (ops_call rfl rfl rfl rfl (ACallD.pure0 (w_ref11_Step h10)) ?_)
  refine sm rfl rfl ?_
  refine s_nil ?_
  refine bf hK ⟨[(1, slE eInt x9), (2, .str p2), (3, gF p0), (7, hI a1.2)], []⟩ ?_
  refine AW.rg rfl fun K hK => mv rfl rfl (bv rfl (v_bin rfl rfl b_add) (mv rfl rfl ?_))
  refine b_nil (hK _ ?_)
  exact to_L ⟨(x9, IntKind.wrap .i64 (a1.2 + 1)), (), h, rfl⟩
 obtain ⟨hc, h⟩ := cF hc h
 refine AW.exit ?_
 exact to_L ⟨a1.1, (), h, rfl⟩
theorem w_ref11_All {p0 : TLabelsStatesEdges} {r : (List (Int))} (h : m_ref11_All p0 = some r) : Pure Try.prog 64 [gA p0] (· = slE eInt r) := by
 unfold m_ref11_All at h
 refine Pure.of_body Try.func64 rfl rfl (lb rfl) fun hf => ?_
 unfold Try.f64
 dsimp only [enumS, Nat.reduceAdd]
 refine AW.rgs rfl fun K hK => b_op rfl (o_box rfl rfl rfl ?_)
 refine mv rfl rfl ?_
 refine bf hK ⟨[(1, gF p0)], []⟩ ?_
 refine AW.rgs rfl fun K hK => b_op rfl (o_bslM (fid := 64) 64005 rfl rfl rfl (as_of (cs := []) ty35 ty3 rfl rfl rfl rfl rfl) (fun v1 => ?_))
 refine mv rfl rfl ?_
 refine bf hK ⟨[(1, gF p0), (3, .ar 64005 v1 eInt.k 0 0)], [(64005, v1, .arr eInt.k 3 [])]⟩ ?_
 refine AW.seq ?_
 refine AW.rgs rfl fun K hK => mv rfl rfl ?_
 refine bf hK ⟨[(1, gF p0), (3, .ar 64005 v1 eInt.k 0 0), (4, hI 0)], [(64005, v1, .arr eInt.k 3 [])]⟩ ?_
 refine AW.lpX h (by first | exact up_then | exact up_to) (S := Int × (List Int)) (V := Nat) (fun a v => ⟨[(1, gF p0), (3, .ar 64005 v eInt.k 0 ((a.2).length)), (4, hI a.1)], [(64005, v, .arr eInt.k 3 (eInt.E a.2))]⟩) ?_ (X := (List Int)) (W := Nat) (fun a v => ⟨[(3, .ar 64005 v eInt.k 0 ((a).length))], [(64005, v, .arr eInt.k 3 (eInt.E a))]⟩) (fun a8 w9 h => ?_) (fun a2 w3 st4 h => ?_)
 ·exact to_L ⟨v1, rfl⟩
 ·refine AW.rgs rfl fun K hK => mv rfl rfl (mv rfl rfl ?_)
  refine bf hK ⟨[(2, .ar 64005 w9 eInt.k 0 ((a8).length))], [(64005, w9, .arr eInt.k 3 (eInt.E a8))]⟩ ?_
  refine AW.to (to_frz 2 [(64005, w9, .arr eInt.k 3 (eInt.E a8))] ⟨[(2, slE eInt a8)], []⟩ ⟨⟨_, rfl, frz_slE eInt (l := a8) rfl fun _ _ => rfl⟩, trivial⟩ trivial ⟨rfl, trivial⟩ ⟨rfl, trivial⟩ ?_)
  refine AW.ret ?_
  have h := Option.some.inj h
  subst h
  exact ret_pure (hs := [slE eInt a8]) (.inr rfl) (resT rfl rfl) rfl (clean_slE fun _ _ => ⟨trivial, trivial⟩)
 refine AW.seq ?_
 refine AW.rgs rfl fun K hK => mv rfl rfl (bv rfl (v_fieldAddrF fo24_1 rfl) (bv rfl (v_loadF ty3 rfl (l_lit rfl rfl)) (bv rfl (v_bin rfl rfl b_lss) ?_)))
 refine bf hK ⟨[(1, gF p0), (3, .ar 64005 w3 eInt.k 0 ((a2.2).length)), (4, hI a2.1), (9, .bool (decide (a2.1 < p0.2.1)))], [(64005, w3, .arr eInt.k 3 (eInt.E a2.2))]⟩ ?_
 refine AW.cond rfl (fun hc => ?_) (fun hc => ?_)
 ·obtain ⟨hc, h⟩ := cT hc h
  refine AW.skip ?_
  refine AW.seq (AW.block ?_)
  refine AW.rg rfl fun K hK => mv rfl rfl (mv rfl rfl ?_)
  refine b_op rfl (o_bsl rfl rfl (as_of (cs := [hI a2.1]) ty35 ty3 rfl rfl rfl rfl rfl) ?_)
  obtain ⟨h7, h⟩ := ifN h
  refine b_op rfl (o_appE eInt (l := a2.2) (m := [a2.1]) rfl rfl ty35 ty35 ty3 rfl rfl rfl rfl rfl h7 (fun v6 => ?_))
  refine mv rfl rfl ?_
  refine bf hK ⟨[(1, gF p0), (3, .ar 64005 v6 eInt.k 0 ((a2.2 ++ [a2.1]).length)), (4, hI a2.1)], [(64005, v6, .arr eInt.k 3 (eInt.E (a2.2 ++ [a2.1])))]⟩ ?_
  refine AW.rg rfl fun K hK => mv rfl rfl (bv rfl (v_bin rfl rfl b_add) (mv rfl rfl ?_))
  refine b_nil (hK _ ?_)
  exact to_L ⟨(IntKind.wrap .i64 (a2.1 + 1), a2.2 ++ [a2.1]), v6, h, rfl⟩
 obtain ⟨hc, h⟩ := cF hc h
 refine AW.exit ?_
 exact to_L ⟨a2.2, w3, h, rfl⟩
theorem w_ref11_Accepts {p0 : TLabelsStatesEdges} {p1 : List UInt8} {r : Bool × Int} (h : m_ref11_Accepts p0 p1 = some r) : Pure Try.prog 38 [gA p0, .str p1] (· = HV.tup [.bool r.1, hI r.2]) := by
 unfold m_ref11_Accepts at h
 refine Pure.of_body Try.func38 rfl rfl (lb rfl) fun hf => ?_
 unfold Try.f38
 dsimp only [enumS, Nat.reduceAdd]
 refine AW.rgs rfl fun K hK => b_op rfl (o_box rfl rfl rfl ?_)
 refine mv rfl rfl (mv rfl rfl ?_)
 refine bf hK ⟨[(1, .str p1), (2, gF p0)], []⟩ ?_
 refine AW.seq ?_
 refine AW.rgs rfl fun K hK => bv rfl (v_loadF ty24 rfl (l_litA rfl (lb rfl) rfl)) (mv rfl rfl ?_)
 obtain ⟨x1, h2, h⟩ := bS h
 refine b_op rfl (o_call rfl rfl rfl rfl (ACallD.pure0 (w_ref11_checkWord h2)) ?_)
 refine mv rfl rfl ?_
 refine bf hK ⟨[(1, .str p1), (2, gF p0), (6, hI x1)], []⟩ ?_
 refine AW.rgs rfl fun K hK => mv rfl rfl (bv rfl (v_bin rfl rfl b_neq) ?_)
 refine bf hK ⟨[(1, .str p1), (2, gF p0), (6, hI x1), (11, .bool (decide (x1 ≠ 0)))], []⟩ ?_
 refine AW.cond rfl (fun hc => ?_) (fun hc => ?_)
 ·obtain ⟨hc, h⟩ := cT hc h
  refine AW.rgs rfl fun K hK => mv rfl rfl (mv rfl rfl (mv rfl rfl ?_))
  refine bf hK ⟨[(4, .bool false), (5, hI x1)], []⟩ ?_
  refine AW.ret ?_
  have h := Option.some.inj h
  subst h
  exact ret_pure (hs := [.bool false, hI x1]) (.inr rfl) (resT rfl (resT rfl rfl)) rfl ⟨trivial, trivial, trivial⟩
 obtain ⟨hc, h⟩ := cF hc h
 refine AW.skip ?_
 refine AW.dgs 9 follows rfl rfl fun K hK => ?_
 refine sv rfl (v_loadF ty24 rfl (l_litA rfl (lb rfl) rfl)) ?_
 refine sv rfl (v_loadF ty24 rfl (l_litA rfl (lb rfl) rfl)) ?_
 obtain ⟨x3, h4, h⟩ := bS h
 refine s_op rfl rfl (ops_call rfl rfl rfl rfl (ACallD.pure0 (w_ref11_All h4)) ?_)
 refine sm rfl rfl ?_
 obtain ⟨x5, h6, h⟩ := bS h
 refine s_op rfl rfl (ops_call rfl rfl rfl rfl (ACallD.pure0 (w_ref11_ends h6)) ?_)
 refine sv rfl (v_lenF rfl rfl ty35 rfl) ?_
 refine sv rfl (v_bin rfl rfl b_gtr) ?_
 refine sm rfl rfl ?_
 refine sm rfl rfl ?_
 refine s_nil ?_
 refine bf hK ⟨[(4, .bool (decide (0 < ((x5).length : Int)))), (5, hI 0)], []⟩ ?_
 refine AW.ret ?_
 have h := Option.some.inj h
 subst h
 exact ret_pure (hs := [.bool (decide (0 < ((x5).length : Int))), hI 0]) (.inr rfl) (resT rfl (resT rfl rfl)) rfl ⟨trivial, trivial, trivial⟩
theorem w_ref54_Free {p0 : TLabelsStatesEdges} {p1 : List UInt8} {r : Bool × Int} (h : m_ref54_Free p0 p1 = some r) : Pure Try.prog 15 [gA p0, .str p1] (· = HV.tup [.bool r.1, hI r.2]) := by
 unfold m_ref54_Free at h
 refine Pure.of_body Try.func15 rfl rfl (lb rfl) fun hf => ?_
 unfold Try.f15
 dsimp only [enumS, Nat.reduceAdd]
 refine AW.rgs rfl fun K hK => b_op rfl (o_box rfl rfl rfl ?_)
 refine mv rfl rfl (mv rfl rfl ?_)
 refine bf hK ⟨[(1, .str p1), (2, gF p0)], []⟩ ?_
 refine AW.seq ?_
 refine AW.rgs rfl fun K hK => bv rfl (v_loadF ty24 rfl (l_litA rfl (lb rfl) rfl)) (mv rfl rfl ?_)
 obtain ⟨x1, h2, h⟩ := bS h
 refine b_op rfl (o_call rfl rfl rfl rfl (ACallD.pure0 (w_ref54_check h2)) ?_)
 refine mv rfl rfl ?_
 refine bf hK ⟨[(1, .str p1), (2, gF p0), (6, hI x1)], []⟩ ?_
 refine AW.rgs rfl fun K hK => mv rfl rfl (bv rfl (v_bin rfl rfl b_neq) ?_)
 refine bf hK ⟨[(1, .str p1), (2, gF p0), (6, hI x1), (13, .bool (decide (x1 ≠ 0)))], []⟩ ?_
 refine AW.cond rfl (fun hc => ?_) (fun hc => ?_)
 ·obtain ⟨hc, h⟩ := cT hc h
  refine AW.rgs rfl fun K hK => mv rfl rfl (mv rfl rfl (mv rfl rfl ?_))
  refine bf hK ⟨[(4, .bool false), (5, hI x1)], []⟩ ?_
  refine AW.ret ?_
  have h := Option.some.inj h
  subst h
  exact ret_pure (hs := [.bool false, hI x1]) (.inr rfl) (resT rfl (resT rfl rfl)) rfl ⟨trivial, trivial, trivial⟩
 obtain ⟨hc, h⟩ := cF hc h
 refine AW.skip ?_
 refine AW.rgs rfl fun K hK => bv rfl (v_loadF ty24 rfl (l_litA rfl (lb rfl) rfl)) (mv rfl rfl ?_)
 obtain ⟨x3, h4, h⟩ := bS h
 refine b_op rfl (o_call rfl rfl rfl rfl (ACallD.pure0 (w_ref11_Accepts h4)) ?_)
 refine mv rfl rfl (bv rfl (v_extract rfl rfl) (bv rfl (v_extract rfl rfl) (mv rfl rfl (mv rfl rfl ?_))))
 refine bf hK ⟨[(7, .bool x3.1), (8, hI x3.2)], []⟩ ?_
 refine AW.seqJ h (S := Bool) (V := Unit) (fun a v => ⟨[(4, .bool a), (5, hI x3.2)], []⟩) (fun a5 w6 h => ?_) (fun k7 h => ?_)
 ·refine AW.ret ?_
  have h := Option.some.inj h
  subst h
  exact ret_pure (hs := [.bool a5, hI x3.2]) (.inr rfl) (resT rfl (resT rfl rfl)) rfl ⟨trivial, trivial, trivial⟩
 refine AW.rg rfl fun K hK => mv rfl rfl (bv rfl (v_bin rfl rfl b_eql) (mv rfl rfl ?_))
 by_cases hg8 : x3.2 = 0
 ·have h := ifT hg8 h
  refine b_T rfl rfl rfl rfl (decide_eq_true hg8) (o_val rfl (mv_val rfl rfl).2 ?_)
  refine b_T rfl rfl rfl rfl rfl (o_val rfl (v_not rfl) ?_)
  refine bv rfl (v_pickT rfl rfl rfl) (mv rfl rfl (mv rfl rfl (mv rfl rfl ?_)))
  refine b_nil (hK _ ?_)
  exact to_L ⟨!x3.1, (), h, rfl⟩
 have h := ifF hg8 h
 refine b_F rfl rfl rfl rfl rfl (decide_eq_false hg8) ?_
 refine b_F rfl rfl rfl rfl rfl rfl ?_
 refine bv rfl (v_pickF rfl rfl rfl) (mv rfl rfl (mv rfl rfl (mv rfl rfl ?_)))
 refine b_nil (hK _ ?_)
 exact to_L ⟨false, (), h, rfl⟩
theorem w_ref07_Find {p0 : List UInt8} {p1 : List UInt8} {r : (List (Int))} (h : m_ref07_Find p0 p1 = some r) : Pure Try.prog 40 [.str p0, .str p1] (· = slE eInt r) := by
 unfold m_ref07_Find at h
 refine Pure.of_body Try.func40 rfl rfl (lb rfl) fun hf => ?_
 unfold Try.f40
 dsimp only [enumS, Nat.reduceAdd]
 refine AW.rgs rfl fun K hK => mv rfl rfl ?_
 refine bf hK ⟨[(0, .str p0), (1, .str p1)], []⟩ ?_
 refine AW.rgs rfl fun K hK => b_op rfl (o_bslM (fid := 40) 40007 rfl rfl rfl (as_of (cs := []) ty35 ty3 rfl rfl rfl rfl rfl) (fun v1 => ?_))
 refine mv rfl rfl ?_
 refine bf hK ⟨[(0, .str p0), (1, .str p1), (5, .ar 40007 v1 eInt.k 0 0)], [(40007, v1, .arr eInt.k 3 [])]⟩ ?_
 refine AW.seq ?_
 refine AW.rgs rfl fun K hK => mv rfl rfl ?_
 refine bf hK ⟨[(0, .str p0), (1, .str p1), (5, .ar 40007 v1 eInt.k 0 0), (6, hI 0)], [(40007, v1, .arr eInt.k 3 [])]⟩ ?_
 refine AW.lpX h (by first | exact up_then | exact up_to) (S := Int × (List Int)) (V := Nat) (fun a v => ⟨[(0, .str p0), (1, .str p1), (5, .ar 40007 v eInt.k 0 ((a.2).length)), (6, hI a.1)], [(40007, v, .arr eInt.k 3 (eInt.E a.2))]⟩) ?_ (X := (List Int)) (W := Nat) (fun a v => ⟨[(5, .ar 40007 v eInt.k 0 ((a).length))], [(40007, v, .arr eInt.k 3 (eInt.E a))]⟩) (fun a12 w13 h => ?_) (fun a2 w3 st4 h => ?_)
 ·exact to_L ⟨v1, rfl⟩
 ·refine AW.rgs rfl fun K hK => mv rfl rfl (mv rfl rfl ?_)
  refine bf hK ⟨[(4, .ar 40007 w13 eInt.k 0 ((a12).length))], [(40007, w13, .arr eInt.k 3 (eInt.E a12))]⟩ ?_
  refine AW.to (to_frz 2 [(40007, w13, .arr eInt.k 3 (eInt.E a12))] ⟨[(4, slE eInt a12)], []⟩ ⟨⟨_, rfl, frz_slE eInt (l := a12) rfl fun _ _ => rfl⟩, trivial⟩ trivial ⟨rfl, trivial⟩ ⟨rfl, trivial⟩ ?_)
  refine AW.ret ?_
  have h := Option.some.inj h
  subst h
  exact ret_pure (hs := [slE eInt a12]) (.inr rfl) (resT rfl rfl) rfl (clean_slE fun _ _ => ⟨trivial, trivial⟩)
 refine AW.seq ?_
 refine AW.rgs rfl fun K hK => mv rfl rfl (mv rfl rfl (bv rfl (v_lenS rfl rfl ty9 rfl) (bv rfl (v_bin rfl rfl b_add) (mv rfl rfl (bv rfl (v_lenS rfl rfl ty9 rfl) ?_)))))
 refine bv rfl (v_bin rfl rfl b_leq) ?_
 refine bf hK ⟨[(0, .str p0), (1, .str p1), (5, .ar 40007 w3 eInt.k 0 ((a2.2).length)), (6, hI a2.1), (14, .bool (decide ((IntKind.wrap .i64 (a2.1 + ((p1).length : Int))) ≤ ((p0).length : Int))))], [(40007, w3, .arr eInt.k 3 (eInt.E a2.2))]⟩ ?_
 refine AW.cond rfl (fun hc => ?_) (fun hc => ?_)
 ·obtain ⟨hc, h⟩ := cT hc h
  refine AW.skip ?_
  refine AW.seqJ h (S := (List Int)) (V := Nat) (fun a v => ⟨[(0, .str p0), (1, .str p1), (5, .ar 40007 v eInt.k 0 ((a).length)), (6, hI a2.1)], [(40007, v, .arr eInt.k 3 (eInt.E a))]⟩) (fun a6 w7 h => ?_) (fun k8 h => ?_)
  ·refine AW.rg rfl fun K hK => mv rfl rfl (bv rfl (v_bin rfl rfl b_add) (mv rfl rfl ?_))
   refine b_nil (hK _ ?_)
   exact to_L ⟨(IntKind.wrap .i64 (a2.1 + 1), a6), w7, h, rfl⟩
  refine AW.block ?_
  refine AW.rgs rfl fun K hK => mv rfl rfl (mv rfl rfl (mv rfl rfl (mv rfl rfl (bv rfl (v_lenS rfl rfl ty9 rfl) (bv rfl (v_bin rfl rfl b_add) ?_)))))
  obtain ⟨h9, h⟩ := ifN h
  refine bv rfl (v_sliceS ty9 rfl rfl rfl h9) (mv rfl rfl (bv rfl (v_bin rfl rfl b_seql) ?_))
  refine bf hK ⟨[(0, .str p0), (1, .str p1), (5, .ar 40007 w3 eInt.k 0 ((a2.2).length)), (6, hI a2.1), (25, .bool (decide (((p0.take (IntKind.wrap .i64 (a2.1 + ((p1).length : Int))).toNat).drop (a2.1).toNat) = p1)))], [(40007, w3, .arr eInt.k 3 (eInt.E a2.2))]⟩ ?_
  refine AW.cond rfl (fun hc => ?_) (fun hc => ?_)
  ·obtain ⟨hc, h⟩ := cT hc h
   refine AW.rg rfl fun K hK => mv rfl rfl (mv rfl rfl ?_)
   refine b_op rfl (o_bsl rfl rfl (as_of (cs := [hI a2.1]) ty35 ty3 rfl rfl rfl rfl rfl) ?_)
   obtain ⟨h11, h⟩ := ifN h
   refine b_op rfl (o_appE eInt (l := a2.2) (m := [a2.1]) rfl rfl ty35 ty35 ty3 rfl rfl rfl rfl rfl h11 (fun v10 => ?_))
   refine mv rfl rfl ?_
   refine b_nil (hK _ ?_)
   exact to_L ⟨a2.2 ++ [a2.1], v10, h, rfl⟩
  obtain ⟨hc, h⟩ := cF hc h
  refine AW.skip ?_
  exact to_L ⟨a2.2, w3, h, rfl⟩
 obtain ⟨hc, h⟩ := cF hc h
 refine AW.exit ?_
 exact to_L ⟨a2.2, w3, h, rfl⟩
theorem w_ref54_Occurs {p0 : List UInt8} {p1 : List UInt8} {r : (List (Int))} (h : m_ref54_Occurs p0 p1 = some r) : Pure Try.prog 18 [.str p0, .str p1] (· = slE eInt r) := by
 unfold m_ref54_Occurs at h
 refine Pure.of_body Try.func18 rfl rfl (lb rfl) fun hf => ?_
 unfold Try.f18
 dsimp only [enumS, Nat.reduceAdd]
 refine AW.rgs rfl fun K hK => mv rfl rfl ?_
 refine bf hK ⟨[(0, .str p0), (1, .str p1)], []⟩ ?_
 refine AW.rgs rfl fun K hK => mv rfl rfl (mv rfl rfl ?_)
 obtain ⟨x1, h2, h⟩ := bS h
 refine b_op rfl (o_call rfl rfl rfl rfl (ACallD.pure0 (w_ref07_Find h2)) ?_)
 refine mv rfl rfl ?_
 refine bf hK ⟨[(4, slE eInt x1)], []⟩ ?_
 refine AW.ret ?_
 have h := Option.some.inj h
 subst h
 exact ret_pure (hs := [slE eInt x1]) (.inr rfl) (resT rfl rfl) rfl (clean_slE fun _ _ => ⟨trivial, trivial⟩)
theorem w_ref54_Overlaps {p0 : List UInt8} {r : (List (Int))} (h : m_ref54_Overlaps p0 = some r) : Pure Try.prog 20 [.str p0] (· = slE eInt r) := by
 unfold m_ref54_Overlaps at h
 refine Pure.of_body Try.func20 rfl rfl (lb rfl) fun hf => ?_
 unfold Try.f20
 dsimp only [enumS, Nat.reduceAdd]
 refine AW.rgs rfl fun K hK => mv rfl rfl ?_
 refine bf hK ⟨[(0, .str p0)], []⟩ ?_
 refine AW.rgs rfl fun K hK => b_op rfl (o_bslM (fid := 20) 20005 rfl rfl rfl (as_of (cs := []) ty35 ty3 rfl rfl rfl rfl rfl) (fun v1 => ?_))
 refine mv rfl rfl ?_
 refine bf hK ⟨[(0, .str p0), (3, .ar 20005 v1 eInt.k 0 0)], [(20005, v1, .arr eInt.k 3 [])]⟩ ?_
 refine AW.seq ?_
 refine AW.rgs rfl fun K hK => mv rfl rfl ?_
 refine bf hK ⟨[(0, .str p0), (3, .ar 20005 v1 eInt.k 0 0), (4, hI 1)], [(20005, v1, .arr eInt.k 3 [])]⟩ ?_
 refine AW.lpX h (by first | exact up_then | exact up_to) (S := Int × (List Int)) (V := Nat) (fun a v => ⟨[(0, .str p0), (3, .ar 20005 v eInt.k 0 ((a.2).length)), (4, hI a.1)], [(20005, v, .arr eInt.k 3 (eInt.E a.2))]⟩) ?_ (X := (List Int)) (W := Nat) (fun a v => ⟨[(3, .ar 20005 v eInt.k 0 ((a).length))], [(20005, v, .arr eInt.k 3 (eInt.E a))]⟩) (fun a13 w14 h => ?_) (fun a2 w3 st4 h => ?_)
 ·exact to_L ⟨v1, rfl⟩
 ·refine AW.rgs rfl fun K hK => mv rfl rfl (mv rfl rfl ?_)
  refine bf hK ⟨[(2, .ar 20005 w14 eInt.k 0 ((a13).length))], [(20005, w14, .arr eInt.k 3 (eInt.E a13))]⟩ ?_
  refine AW.to (to_frz 2 [(20005, w14, .arr eInt.k 3 (eInt.E a13))] ⟨[(2, slE eInt a13)], []⟩ ⟨⟨_, rfl, frz_slE eInt (l := a13) rfl fun _ _ => rfl⟩, trivial⟩ trivial ⟨rfl, trivial⟩ ⟨rfl, trivial⟩ ?_)
  refine AW.ret ?_
  have h := Option.some.inj h
  subst h
  exact ret_pure (hs := [slE eInt a13]) (.inr rfl) (resT rfl rfl) rfl (clean_slE fun _ _ => ⟨trivial, trivial⟩)
 refine AW.seq ?_
 refine AW.rgs rfl fun K hK => mv rfl rfl (mv rfl rfl (bv rfl (v_lenS rfl rfl ty9 rfl) (bv rfl (v_bin rfl rfl b_lss) ?_)))
 refine bf hK ⟨[(0, .str p0), (3, .ar 20005 w3 eInt.k 0 ((a2.2).length)), (4, hI a2.1), (9, .bool (decide (a2.1 < ((p0).length : Int))))], [(20005, w3, .arr eInt.k 3 (eInt.E a2.2))]⟩ ?_
 refine AW.cond rfl (fun hc => ?_) (fun hc => ?_)
 ·obtain ⟨hc, h⟩ := cT hc h
  refine AW.skip ?_
  refine AW.seqJ h (S := (List Int)) (V := Nat) (fun a v => ⟨[(0, .str p0), (3, .ar 20005 v eInt.k 0 ((a).length)), (4, hI a2.1)], [(20005, v, .arr eInt.k 3 (eInt.E a))]⟩) (fun a6 w7 h => ?_) (fun k8 h => ?_)
  ·refine AW.rg rfl fun K hK => mv rfl rfl (bv rfl (v_bin rfl rfl b_add) (mv rfl rfl ?_))
   refine b_nil (hK _ ?_)
   exact to_L ⟨(IntKind.wrap .i64 (a2.1 + 1), a6), w7, h, rfl⟩
  refine AW.block ?_
  refine AW.dgs 10 follows rfl rfl fun K hK => ?_
  refine sm rfl rfl ?_
  refine sm rfl rfl ?_
  obtain ⟨h9, h⟩ := ifN h
  refine sv rfl (v_sliceS ty9 rfl rfl rfl h9) ?_
  refine sm rfl rfl ?_
  refine sm rfl rfl ?_
  refine sv rfl (v_lenS rfl rfl ty9 rfl) ?_
  refine sm rfl rfl ?_
  refine sv rfl (v_bin rfl rfl b_sub) ?_
  obtain ⟨h10, h⟩ := ifN h
  refine sv rfl (v_sliceS ty9 rfl rfl rfl h10) ?_
  refine sv rfl (v_bin rfl rfl b_seql) ?_
  refine s_nil ?_
  refine bf hK ⟨[(0, .str p0), (3, .ar 20005 w3 eInt.k 0 ((a2.2).length)), (4, hI a2.1), (21, .bool (decide (((p0.take (a2.1).toNat).drop (0 : Int).toNat) = ((p0.take (((p0).length : Int)).toNat).drop (IntKind.wrap .i64 (((p0).length : Int) - a2.1)).toNat))))], [(20005, w3, .arr eInt.k 3 (eInt.E a2.2))]⟩ ?_
  refine AW.cond rfl (fun hc => ?_) (fun hc => ?_)
  ·obtain ⟨hc, h⟩ := cT hc h
   refine AW.rg rfl fun K hK => mv rfl rfl (mv rfl rfl ?_)
   refine b_op rfl (o_bsl rfl rfl (as_of (cs := [hI a2.1]) ty35 ty3 rfl rfl rfl rfl rfl) ?_)
   obtain ⟨h12, h⟩ := ifN h
   refine b_op rfl (o_appE eInt (l := a2.2) (m := [a2.1]) rfl rfl ty35 ty35 ty3 rfl rfl rfl rfl rfl h12 (fun v11 => ?_))
   refine mv rfl rfl ?_
   refine b_nil (hK _ ?_)
   exact to_L ⟨a2.2 ++ [a2.1], v11, h, rfl⟩
  obtain ⟨hc, h⟩ := cF hc h
  refine AW.skip ?_
  exact to_L ⟨a2.2, w3, h, rfl⟩
 obtain ⟨hc, h⟩ := cF hc h
 refine AW.exit ?_
 exact to_L ⟨a2.2, w3, h, rfl⟩
end Go.AW
