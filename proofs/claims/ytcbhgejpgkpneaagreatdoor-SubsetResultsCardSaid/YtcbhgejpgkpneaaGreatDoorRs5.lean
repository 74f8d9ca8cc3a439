import Derived.Test.YtcbhgejpgkpneaaGreatDoorRs4
namespace Go.AW
open Go
set_option linter.unusedSimpArgs false
set_option linter.unusedVariables false
def scanC (p q : Nat → Bool) : Nat → Nat → Nat
 | 0, _ => 0
 | n + 1, i => if p i = true then 1 else if q i = true then 2 else scanC p q n (i + 1)
def pick3 {X : Type} (r0 r1 r2 : X) : Nat → X
 | 1 => r1
 | 2 => r2
 | _ => r0
theorem loop_scan {S X : Type} {body : S → Option (Stp S X)} (st : Nat → S) (n : Nat) (p q : Nat → Bool) (r1 r2 rf : X) (h : ∀ i, i < n → body (st i) = if p i = true then some (.exit r1) else if q i = true then some (.exit r2) else some (.next (st (i + 1)))) (hf : body (st n) = some (.exit rf)) {s0 : S} (hs0 : s0 = st 0) :
  loopW body s0 = some (pick3 rf r1 r2 (scanC p q n 0)) := by
 subst hs0
 have : ∀ d i, i + d = n → loopW body (st i) = some (pick3 rf r1 r2 (scanC p q d i)) := by
  intro d
  induction d with
  | zero =>
   intro i hi
   have e : i = n := by omega
   subst e
   rw [loopW_exit hf]
   rfl
  | succ d ih =>
   intro i hi
   have hb := h i (by omega)
   unfold scanC
   by_cases hp : p i = true
   ·rw [if_pos hp] at hb ⊢
    rw [loopW_exit hb]; rfl
   ·rw [if_neg hp] at hb ⊢
    by_cases hq : q i = true
    ·rw [if_pos hq] at hb ⊢
     rw [loopW_exit hb]; rfl
    ·rw [if_neg hq] at hb ⊢
     rw [loopW_next hb]
     exact ih (i + 1) (by omega)
 exact this n 0 (by omega)
theorem scanC_cases (p q : Nat → Bool) : ∀ n i, scanC p q n i = 1 ∨ scanC p q n i = 2 ∨ scanC p q n i = 0 ∧ ∀ j, i ≤ j → j < i + n → p j = false ∧ q j = false
 | 0, i => .inr (.inr ⟨rfl, fun j h1 h2 => by omega⟩)
 | n + 1, i => by
  unfold scanC
  by_cases hp : p i = true
  ·rw [if_pos hp]; exact .inl rfl
  ·rw [if_neg hp]
   by_cases hq : q i = true
   ·rw [if_pos hq]; exact .inr (.inl rfl)
   ·rw [if_neg hq]
    rcases scanC_cases p q n (i + 1) with h | h | ⟨h, h'⟩
    ·exact .inl h
    ·exact .inr (.inl h)
    ·refine .inr (.inr ⟨h, fun j h1 h2 => ?_⟩)
     by_cases hj : j = i
     ·subst hj; exact ⟨Bool.eq_false_iff.2 hp, Bool.eq_false_iff.2 hq⟩
     ·exact h' j (by omega) (by omega)
theorem scanC_zero {p q : Nat → Bool} : ∀ n i, (∀ j, i ≤ j → j < i + n → p j = false ∧ q j = false) → scanC p q n i = 0
 | 0, _, _ => rfl
 | n + 1, i, h => by
  unfold scanC
  obtain ⟨h1, h2⟩ := h i (Nat.le_refl _) (by omega)
  rw [h1, h2, if_neg (by decide), if_neg (by decide)]
  exact scanC_zero n (i + 1) fun j a b => h j (by omega) (by omega)
theorem lpN {V R Y : Type} {o : Option (Ou V R)} {M : V → Option Y} {Rt : R → Option Y} {r : Option Y} (Q : Ou V R → Prop) (h : ∃ x, o = some x ∧ Q x) (k : ∀ x, Q x → lpO (some x) M Rt = r) : lpO o M Rt = r := by
 obtain ⟨x, rfl, hq⟩ := h
 exact k x hq
theorem bindNE {X R T : Type} {o : Option X} {M : X → Option R} {C : T → Prop} {r : T → Option R} (Q : X → Prop) (h : ∃ x, o = some x ∧ Q x) (k : ∀ x, Q x → ∃ t, C t ∧ M x = r t) : ∃ t, C t ∧ o.bind M = r t := by
 obtain ⟨x, rfl, hq⟩ := h
 exact k x hq
theorem dec2_pre : ∀ n, n < 64 → ∀ m, m < 64 → (dec2 n ++ [32]).isPrefixOf (dec2 m ++ [32]) = true → n = m := by decide +kernel
theorem dec2_len (n : Nat) : (dec2 n).length ≤ 2 := by unfold dec2; split <;> simp
def keyL (a : List Int) : List UInt8 := a.flatMap fun s => dec2 s.toNat ++ [32]
theorem keyL_inj : ∀ {a b : List Int}, (∀ x ∈ a, 0 ≤ x ∧ x < 64) → (∀ x ∈ b, 0 ≤ x ∧ x < 64) → keyL a = keyL b → a = b
 | [], [], _, _, _ => rfl
 | [], y :: b, _, _, h => by simp [keyL] at h
 | x :: a, [], _, _, h => by simp [keyL] at h
 | x :: a, y :: b, ha, hb, h => by
  have hx := ha x (List.mem_cons_self ..)
  have hy := hb y (List.mem_cons_self ..)
  have h' : (dec2 x.toNat ++ [32]) ++ keyL a = (dec2 y.toNat ++ [32]) ++ keyL b := by
   simpa only [keyL, List.flatMap_cons] using h
  have h1 : dec2 x.toNat ++ [32] <+: (dec2 y.toNat ++ [32]) ++ keyL b := ⟨_, h'⟩
  have h2 : dec2 y.toNat ++ [32] <+: (dec2 y.toNat ++ [32]) ++ keyL b := ⟨_, rfl⟩
  have e : x.toNat = y.toNat := by
   rcases List.prefix_or_prefix_of_prefix h1 h2 with hp | hp
   ·exact dec2_pre _ (by omega) _ (by omega) (List.isPrefixOf_iff_prefix.2 hp)
   ·exact (dec2_pre _ (by omega) _ (by omega) (List.isPrefixOf_iff_prefix.2 hp)).symm
  have hk : keyL a = keyL b := by
   rw [e] at h'
   exact List.append_cancel_left h'
  have := keyL_inj (fun z hz => ha z (List.mem_cons_of_mem _ hz)) (fun z hz => hb z (List.mem_cons_of_mem _ hz)) hk
  rw [this]
  congr 1
  omega
section
variable {g : Gr}
theorem setOk_64 (hv : VG g) {a : List Int} (h : SetOk g a) : ∀ x ∈ a, 0 ≤ x ∧ x < 64 := fun x hx => by
 have := h.2 x hx
 have := hv.s1
 omega
theorem keyL_take (a : List Int) {i : Nat} (h : i < a.length) : keyL (a.take (i + 1)) = keyL (a.take i) ++ (dec2 a[i].toNat ++ [32]) := by
 rw [List.take_add_one, List.getElem?_eq_getElem h]
 simp only [keyL, Option.toList_some, List.flatMap_append, List.flatMap_cons, List.flatMap_nil, List.append_nil]
theorem keyL_len (a : List Int) : (keyL a).length ≤ 3 * a.length := by
 induction a with
 | nil => simp [keyL]
 | cons x a ih =>
  have := dec2_len x.toNat
  simp only [keyL, List.flatMap_cons, List.length_append, List.length_cons, List.length_nil] at ih ⊢
  omega
theorem key_eq (hv : VG g) {a : List Int} (h : SetOk g a) : m_subset_key a = some (keyL a) := by
 have hl := setOk_len hv h
 unfold m_subset_key
 refine bindL (loop_is (fun i => ((i : Int), keyL (a.take i))) a.length (keyL a) (fun i hi => ?_) ?_ (by simp [keyL])) rfl
 ·dsimp only
  obtain ⟨h0, h1⟩ := setOk_64 hv h a[i] (List.getElem_mem hi)
  have hs : m_strconv_Itoa a[i] = some (dec2 a[i].toNat) := by unfold m_strconv_Itoa; rw [if_pos (by omega)]
  have hd := dec2_len a[i].toNat
  have hk := keyL_len (a.take i)
  rw [if_pos (lt_int hi), ix hi]
  simp only [Option.bind_some, hs]
  rw [if_pos (by simp [maxLen]; omega), if_pos (fits_le (by simp at hk ⊢; omega) (by simp at hk ⊢; omega)), nx (by omega : a.length ≤ _) hi, keyL_take a hi]
 ·dsimp only
  rw [if_neg (not_lt_int _), List.take_length]
abbrev BS := List Ed × List (List Int)
def bstep (g : Gr) (i : Nat) (a : List Int) (st : BS) (lab : Nat) : BS :=
 if stepL g a lab = [] then st else (st.1 ++ [((i : Int), (lab : Int), ((st.2.idxOf (stepL g a lab) : Nat) : Int))], if stepL g a lab ∈ st.2 then st.2 else st.2 ++ [stepL g a lab])
def browN (g : Gr) (i : Nat) (a : List Int) (n : Nat) (st : BS) : BS := (List.range n).foldl (bstep g i a) st
theorem browN_zero {i : Nat} {a : List Int} {st : BS} : browN g i a 0 st = st := rfl
theorem browN_succ {i n : Nat} {a : List Int} {st : BS} : browN g i a (n + 1) st = bstep g i a (browN g i a n st) n := by simp [browN, List.range_succ, List.foldl_append]
def brow (g : Gr) (i : Nat) (st : BS) : BS := browN g i (st.2.getD i []) g.1.toNat st
def small (st : BS) : Prop := st.2.length ≤ 64 ∧ st.1.length ≤ 1024
instance (st : BS) : Decidable (small st) := by unfold small; infer_instance
def brun (g : Gr) : Nat → Nat → BS → Option BS
 | 0, _, _ => none
 | f + 1, i, st => if i < st.2.length then (if small (brow g i st) then brun g f (i + 1) (brow g i st) else none) else some st
theorem bstep_grow (i : Nat) (a : List Int) (st : BS) (n : Nat) : st.1 <+: (bstep g i a st n).1 ∧ st.2 <+: (bstep g i a st n).2 ∧ (bstep g i a st n).1.length ≤ st.1.length + 1 ∧ (bstep g i a st n).2.length ≤ st.2.length + 1 := by
 unfold bstep
 split
 ·exact ⟨List.prefix_refl _, List.prefix_refl _, Nat.le_succ _, Nat.le_succ _⟩
 ·refine ⟨List.prefix_append _ _, ?_, by simp, ?_⟩
  ·dsimp only
   split
   ·exact List.prefix_refl _
   ·exact List.prefix_append _ _
  ·dsimp only
   split
   ·exact Nat.le_succ _
   ·simp
theorem browN_grow (i : Nat) (a : List Int) (st : BS) : ∀ n, st.1 <+: (browN g i a n st).1 ∧ st.2 <+: (browN g i a n st).2 ∧ (browN g i a n st).1.length ≤ st.1.length + n ∧ (browN g i a n st).2.length ≤ st.2.length + n
 | 0 => ⟨List.prefix_refl _, List.prefix_refl _, Nat.le_refl _, Nat.le_refl _⟩
 | n + 1 => by
  obtain ⟨h1, h2, h3, h4⟩ := browN_grow i a st n
  obtain ⟨k1, k2, k3, k4⟩ := bstep_grow (g := g) i a (browN g i a n st) n
  rw [browN_succ]
  exact ⟨h1.trans k1, h2.trans k2, by omega, by omega⟩
theorem browN_mono (i : Nat) (a : List Int) (st : BS) {m : Nat} : ∀ {n}, m ≤ n → (browN g i a m st).1 <+: (browN g i a n st).1 ∧ (browN g i a m st).2 <+: (browN g i a n st).2
 | 0, h => by
  have : m = 0 := by omega
  subst this
  exact ⟨List.prefix_refl _, List.prefix_refl _⟩
 | n + 1, h => by
  by_cases e : m = n + 1
  ·subst e; exact ⟨List.prefix_refl _, List.prefix_refl _⟩
  ·obtain ⟨h1, h2⟩ := browN_mono i a st (m := m) (n := n) (by omega)
   obtain ⟨k1, k2, _⟩ := bstep_grow (g := g) i a (browN g i a n st) n
   rw [browN_succ]
   exact ⟨h1.trans k1, h2.trans k2⟩
def Good (g : Gr) (st : BS) : Prop := ∀ x ∈ st.2, SetOk g x
theorem bstep_good {i n : Nat} {a : List Int} {st : BS} (h : Good g st) : Good g (bstep g i a st n) := by
 unfold bstep
 split
 ·exact h
 ·intro x hx
  dsimp only at hx
  split at hx
  ·exact h x hx
  ·rcases List.mem_append.1 hx with hx | hx
   ·exact h x hx
   ·rw [List.mem_singleton.1 hx]; exact stepL_ok g a n
theorem browN_good {i : Nat} {a : List Int} {st : BS} (h : Good g st) : ∀ n, Good g (browN g i a n st)
 | 0 => h
 | n + 1 => by rw [browN_succ]; exact bstep_good (browN_good h n)
theorem bfs_loop {S R V T : Type} {body : S → Option (Stp S (Ou V R))} (enc : Nat → BS → T → S) (out : BS → V) (rl : R) (Ok : BS → T → Prop)
  (h : ∀ i st t, Good g st → small st → Ok st t → i < st.2.length → ∃ t', Ok (brow g i st) t' ∧ body (enc i st t) = some (if small (brow g i st) then .next (enc (i + 1) (brow g i st) t') else .exit (.ret rl)))
  (hf : ∀ i st t, small st → i ≤ st.2.length → ¬ i < st.2.length → body (enc i st t) = some (.exit (.go (out st)))) :
  ∀ f i st t, Good g st → small st → Ok st t → i ≤ st.2.length → i + f = 66 → loopW body (enc i st t) = some (match brun g f i st with | none => .ret rl | some st' => .go (out st'))
 | 0, i, st, t, _, hs, _, hi, hf' => by
  have := hs.1
  omega
 | f + 1, i, st, t, hg, hs, hok, hi, hf' => by
  unfold brun
  by_cases hlt : i < st.2.length
  ·obtain ⟨t', ht', hb⟩ := h i st t hg hs hok hlt
   rw [if_pos hlt]
   by_cases hsm : small (brow g i st)
   ·rw [if_pos hsm] at hb ⊢
    rw [loopW_next hb]
    have hgr := (browN_grow (g := g) i (st.2.getD i []) st g.1.toNat).2.1.length_le
    exact bfs_loop enc out rl Ok h hf f (i + 1) _ t' (browN_good hg _) hsm ht' (by unfold brow; omega) (by omega)
   ·rw [if_neg hsm] at hb ⊢
    rw [loopW_exit hb]
  ·rw [if_neg hlt, loopW_exit (hf i st t hs hi hlt)]
theorem idxOf_lt {l : List (List Int)} {x : List Int} (h : x ∈ l) : l.idxOf x < l.length := List.idxOf_lt_length_of_mem h
theorem idxOf_no {l : List (List Int)} {x : List Int} (h : x ∉ l) : l.idxOf x = l.length := List.idxOf_eq_length h
theorem idxOf_at {l : List (List Int)} {x : List Int} {i : Nat} (hi : i < l.length) (hx : l[i] = x) (hn : x ∉ l.take i) : l.idxOf x = i := by
 have e : l = l.take i ++ l[i] :: l.drop (i + 1) := by rw [← List.drop_eq_getElem_cons hi, List.take_append_drop]
 conv => lhs; rw [e]
 rw [List.idxOf_append, if_neg hn, hx, List.idxOf_cons_self]
 simp; omega
def NumOk (g : Gr) (l : List (List Int)) (M : List (List UInt8 × Int)) : Prop := ∀ x, SetOk g x → mlook (keyL x) M = if x ∈ l then some ((l.idxOf x : Nat) : Int) else none
theorem numOk_put (hv : VG g) {l : List (List Int)} {M : List (List UInt8 × Int)} (h : NumOk g l M) {y : List Int} (hy : SetOk g y) (hn : y ∉ l) : NumOk g (l ++ [y]) (mputN (keyL y) ((l.length : Nat) : Int) M) := fun x hx => by
 rw [mlook_put]
 by_cases e : x = y
 ·subst e
  rw [if_pos rfl, if_pos (by simp), List.idxOf_append, if_neg hn, List.idxOf_cons_self]
  simp
 ·rw [if_neg (fun hk => e (keyL_inj (setOk_64 hv hx) (setOk_64 hv hy) hk)), h x hx]
  by_cases hm : x ∈ l
  ·rw [if_pos hm, if_pos (by simp [hm]), List.idxOf_append, if_pos hm]
  ·rw [if_neg hm, if_neg (by simp [hm, e])]
theorem numOk_one (hv : VG g) {a : List Int} (ha : SetOk g a) : NumOk g [a] (mputN (keyL a) 0 ([] : List (List UInt8 × Int))) := by
 have := numOk_put hv (l := []) (M := []) (fun x _ => by simp [mlook]) ha (by simp)
 simpa using this
theorem cloneI_eq {l : List Int} (h : l.length ≤ 1000000) : m_slices_Clone_Lint_int l = some l := by unfold m_slices_Clone_Lint_int; rw [if_pos (by omega)]
def buildR (g : Gr) (a : List Int) : Gr × List (List Int) × Int := match brun g 66 0 ([], [a]) with
 | none => ((0, 0, []), [], 4)
 | some st => ((g.1, (st.2.length : Int), st.1), st.2, 0)
theorem small_one (a : List Int) : small (([], [a]) : BS) := ⟨by simp, by simp⟩
theorem good_one {a : List Int} (ha : SetOk g a) : Good g ([], [a]) := fun x hx => by rw [List.mem_singleton.1 hx]; exact ha
theorem build_eq (hv : VG g) {a : List Int} (ha : SetOk g a) : m_subset_build g a = some (buildR g a) := by
 have hl := setOk_len hv ha
 have h256 := hv.l2
 have h1 := hv.l1
 unfold m_subset_build
 rw [key_eq hv ha, Option.bind_some, cloneI_eq (by omega), Option.bind_some]
 refine lpL (bfs_loop (g := g) (T := List (List UInt8 × Int)) (fun i st M => (st.1, (i : Int), M, st.2)) (fun st => (st.1, st.2)) ((0, 0, []), [], 4) (fun st M => NumOk g st.2 M) (fun i st M hg hs hM hi => ?_) (fun i st M hs hi hn => ?_) 66 0 ([], [a]) _ (good_one ha) (small_one a) (numOk_one hv ha) (Nat.zero_le _) rfl) ?_
 ·-- a row
  have hsl := hs.1
  have hel := hs.2
  have hset : SetOk g st.2[i] := hg _ (List.getElem_mem hi)
  have hgd : st.2.getD i [] = st.2[i] := by simp [List.getD, hi]
  dsimp only
  rw [if_pos (by omega), ix hi]
  simp only [Option.bind_some, jp]
  refine bindNE (fun x => x.1 = (brow g i st).1 ∧ NumOk g (brow g i st).2 x.2.1 ∧ x.2.2 = (brow g i st).2) (loopN g.1.toNat (fun k s => ∃ M, NumOk g (browN g i st.2[i] k st).2 M ∧ s = ((k : Int), (browN g i st.2[i] k st).1, M, (browN g i st.2[i] k st).2))
   (fun k s hk hI => .inl ?_) (fun s hI => ?_) 0 _ (Nat.zero_le _) ⟨M, hM, rfl⟩) fun x ⟨hxq1, hxq2, hxq3⟩ => ?_
  ·-- a label
   obtain ⟨M, hM, rfl⟩ := hI
   obtain ⟨_, _, b1, b2⟩ := browN_grow (g := g) i st.2[i] st k
   have hgk := browN_good (i := i) (a := st.2[i]) hg k
   dsimp only
   rw [if_pos (by omega), Step_eq hv hset (by omega) (by omega)]
   simp only [Option.bind_some]
   have hnx : IntKind.wrap .i64 ((k : Int) + 1) = ((k + 1 : Nat) : Int) := by rw [w64 (by omega) (by omega)]; omega
   have hno := stepL_ok g st.2[i] (k : Int)
   rw [browN_succ]
   by_cases hz : stepL g st.2[i] (k : Int) = []
   ·have e : bstep g i st.2[i] (browN g i st.2[i] k st) k = browN g i st.2[i] k st := by unfold bstep; rw [if_pos hz]
    rw [if_neg (by rw [hz]; simp), hnx, e]
    exact ⟨_, rfl, M, hM, rfl⟩
   ·have hpos : 0 < (stepL g st.2[i] (k : Int)).length := List.length_pos_iff.2 hz
    rw [if_pos (by omega), key_eq hv hno]
    simp only [Option.bind_some]
    rw [hM _ hno]
    have hf1 : ∀ x : Ed, fits 24 ((browN g i st.2[i] k st).1.length + ([x] : List Ed).length) := fun x => fits_le (by simp; omega) (by simp; omega)
    by_cases hm : stepL g st.2[i] (k : Int) ∈ (browN g i st.2[i] k st).2
    ·have e : bstep g i st.2[i] (browN g i st.2[i] k st) k = ((browN g i st.2[i] k st).1 ++ [((i : Int), (k : Int), (((browN g i st.2[i] k st).2.idxOf (stepL g st.2[i] (k : Int)) : Nat) : Int))], (browN g i st.2[i] k st).2) := by unfold bstep; rw [if_neg hz, if_pos hm]
     rw [if_pos hm]
     simp only [Option.isSome_some, Bool.not_true, Bool.false_eq_true, if_false, Option.getD_some, hnx]
     rw [if_pos (hf1 _), e]
     exact ⟨_, rfl, M, hM, rfl⟩
    ·have e : bstep g i st.2[i] (browN g i st.2[i] k st) k = ((browN g i st.2[i] k st).1 ++ [((i : Int), (k : Int), (((browN g i st.2[i] k st).2.length : Nat) : Int))], (browN g i st.2[i] k st).2 ++ [stepL g st.2[i] (k : Int)]) := by unfold bstep; rw [if_neg hz, if_neg hm, idxOf_no hm]
     rw [if_neg hm]
     simp only [Option.isSome_none, Bool.not_false, if_true, hnx]
     rw [if_pos (fits_le (by simp; omega) (by simp; omega)), if_pos (hf1 _), e]
     exact ⟨_, rfl, _, numOk_put hv hM hno hm, rfl⟩
  ·obtain ⟨M, hM, rfl⟩ := hI
   dsimp only
   rw [if_neg (by omega)]
   refine ⟨_, rfl, ?_⟩
   unfold brow
   rw [hgd]
   exact ⟨rfl, hM, rfl⟩
  ·refine ⟨x.2.1, hxq2, ?_⟩
   simp only [Option.bind_some, hxq1, hxq3]
   rw [nx (by omega : st.2.length ≤ _) hi]
   by_cases hsm : small (brow g i st)
   ·obtain ⟨s1, s2⟩ := id hsm
    rw [if_pos hsm, if_neg (by omega)]
    have hd : decide ((1024 : Int) < (((brow g i st).1.length : Nat) : Int)) = false := decide_eq_false (by omega)
    simp only [hd, Bool.false_eq_true, if_false]
   ·rw [if_neg hsm]
    by_cases h64 : (64 : Int) < (((brow g i st).2.length : Nat) : Int)
    ·rw [if_pos h64, if_pos trivial]
    ·have hd : decide ((1024 : Int) < (((brow g i st).1.length : Nat) : Int)) = true := decide_eq_true (by
      have : ¬ ((brow g i st).2.length ≤ 64 ∧ (brow g i st).1.length ≤ 1024) := hsm
      omega)
     rw [if_neg h64]
     simp only [hd, if_true]
 ·dsimp only
  rw [if_neg (by omega)]
 ·unfold buildR
  cases hb : brun g 66 0 ([], [a]) with
  | none => rfl
  | some st => rfl
end
end Go.AW
namespace Go.AW
open Go
set_option linter.unusedSimpArgs false
set_option linter.unusedVariables false
theorem loop_eqL {α S X : Type} [DecidableEq α] {body : S → Option (Stp S X)} (st : Nat → S) (a b : List α) (hl : a.length = b.length) (xr xf : X) (h : ∀ i (h1 : i < a.length) (h2 : i < b.length), body (st i) = if a[i] ≠ b[i] then some (.exit xr) else some (.next (st (i + 1)))) (hf : body (st a.length) = some (.exit xf)) {s0 : S} (hs0 : s0 = st 0) :
  loopW body s0 = some (if a = b then xf else xr) := by
 subst hs0
 obtain ⟨x, hx, hq⟩ := loopN (body := body) (Q := fun x => x = if a = b then xf else xr) a.length (fun i s => s = st i ∧ ∀ j, j < i → a[j]? = b[j]?) (fun i s hi ⟨hs, ha⟩ => by
  subst hs
  have h2 : i < b.length := by omega
  by_cases he : a[i] = b[i]
  ·refine .inl ⟨_, by rw [h i hi h2, if_neg (by simpa using he)], rfl, fun j hj => ?_⟩
   by_cases hji : j = i
   ·subst hji; rw [List.getElem?_eq_getElem hi, List.getElem?_eq_getElem h2, he]
   ·exact ha j (by omega)
  ·refine .inr ⟨xr, by rw [h i hi h2, if_pos he], ?_⟩
   rw [if_neg]
   intro hab
   subst hab
   exact he rfl) (fun s ⟨hs, ha⟩ => by
  subst hs
  refine ⟨xf, hf, ?_⟩
  rw [if_pos]
  exact List.ext_getElem? fun j => by
   by_cases hj : j < a.length
   ·exact ha j hj
   ·rw [List.getElem?_eq_none (by omega), List.getElem?_eq_none (by omega)]) 0 (st 0) (Nat.zero_le _) ⟨rfl, fun j hj => by omega⟩
 rw [hx, hq]
theorem Same12_eq {a b : List Int} (hm : a.length ≤ 9223372036854775807) : m_ref12_Same a b = some (decide (a = b)) := by
 unfold m_ref12_Same
 by_cases hl : a.length = b.length
 ·rw [if_neg (by omega)]
  refine lpL (loop_eqL (fun i => (i : Int)) a b hl (Ou.ret false) (Ou.go ()) (fun i h1 h2 => ?_) (by rw [if_neg (not_lt_int _)]) rfl) ?_
  ·rw [if_pos (lt_int h1), ix h1, ix h2]
   simp only [Option.bind_some, nx hm h1]
  ·by_cases he : a = b <;> simp [he, lpO]
 ·rw [if_pos (by omega)]
  have : ¬ a = b := fun e => hl (by rw [e])
  simp [this]
theorem SameSets_eq {a b : List (List Int)} (hm : a.length ≤ 9223372036854775807) (hx : ∀ x ∈ a, x.length ≤ 9223372036854775807) : m_ref12_SameSets a b = some (decide (a = b)) := by
 unfold m_ref12_SameSets
 by_cases hl : a.length = b.length
 ·rw [if_neg (by omega)]
  refine lpL (loop_eqL (fun i => (i : Int)) a b hl (Ou.ret false) (Ou.go ()) (fun i h1 h2 => ?_) (by rw [if_neg (not_lt_int _)]) rfl) ?_
  ·rw [if_pos (lt_int h1), ix h1, ix h2]
   simp only [Option.bind_some, Same12_eq (hx _ (List.getElem_mem h1)), nx hm h1]
   by_cases he : a[i] = b[i] <;> simp [he]
  ·by_cases he : a = b <;> simp [he, lpO]
 ·rw [if_pos (by omega)]
  have : ¬ a = b := fun e => hl (by rw [e])
  simp [this]
theorem Has_eq {a : List Int} (x : Int) (hm : a.length ≤ 9223372036854775807) : m_ref09_Has a x = some (decide (x ∈ a)) := by
 unfold m_ref09_Has
 refine lpL (loop_any (fun i => (i : Int)) a.length (fun i => decide (a.getD i 0 = x)) (Ou.ret true) (Ou.go ()) (fun i hi => ?_) (by rw [if_neg (not_lt_int _)]) rfl) ?_
 ·have e1 : a.getD i 0 = a[i] := by simp [List.getD, hi]
  rw [if_pos (lt_int hi), ix hi]
  simp only [Option.bind_some, nx hm hi, e1, decide_eq_true_eq]
 ·by_cases h : x ∈ a
  ·rw [if_pos]
   ·simp [lpO, h]
   ·obtain ⟨i, hi, rfl⟩ := List.getElem_of_mem h
    exact List.any_eq_true.2 ⟨i, List.mem_range.2 hi, decide_eq_true (by simp [List.getD, hi])⟩
  ·rw [if_neg]
   ·simp [lpO, h]
   ·intro ha
    obtain ⟨i, hi, hp⟩ := List.any_eq_true.1 ha
    have hi := List.mem_range.1 hi
    have hp := of_decide_eq_true hp
    rw [show a.getD i 0 = a[i] by simp [List.getD, hi]] at hp
    exact h (hp ▸ List.getElem_mem hi)
section
variable {g : Gr}
def hits (g : Gr) (a : List Int) (c t : Int) : Bool := g.2.2.any fun e => decide (e.2.2 = t ∧ e.2.1 = c ∧ e.1 ∈ a)
theorem Next_eq (hv : VG g) {a : List Int} (ha : SetOk g a) (c : Int) : m_ref09_Next g a c = some (stepL g a c) := by
 have hl := setOk_len hv ha
 have hel := hv.el
 have hs1 := hv.s1
 have hs0 := hv.s0
 unfold m_ref09_Next
 refine bindL (loop_is (fun i => ((i : Int), ((List.range i).map Int.ofNat).filter (hits g a c))) g.2.1.toNat (stepL g a c) (fun i hi => ?_) ?_ rfl) rfl
 ·dsimp only
  rw [if_pos (by omega)]
  simp only [jp]
  refine bindL (loop_is (fun k => ((g.2.2.take k).any fun e => decide (e.2.2 = (i : Int) ∧ e.2.1 = c ∧ e.1 ∈ a), (k : Int))) g.2.2.length (hits g a c i) (fun k hk => ?_) ?_ (by simp)) ?_
  ·dsimp only
   rw [if_pos (lt_int hk), ix hk]
   simp only [Option.bind_some, nx (by omega : g.2.2.length ≤ _) hk]
   rw [List.take_add_one, List.getElem?_eq_getElem hk]
   simp only [Option.toList_some, List.any_append, List.any_cons, List.any_nil, Bool.or_false]
   cases (g.2.2.take k).any fun e => decide (e.2.2 = (i : Int) ∧ e.2.1 = c ∧ e.1 ∈ a) with
   | true => simp
   | false =>
    simp only [Bool.false_eq_true, if_false, Bool.false_or]
    by_cases e1 : g.2.2[k].2.2 = (i : Int)
    ·rw [if_pos e1]
     by_cases e2 : g.2.2[k].2.1 = c
     ·rw [if_pos e2, Has_eq _ (by omega)]
      simp [e1, e2]
     ·rw [if_neg e2]; simp [e2]
    ·rw [if_neg e1]; simp [e1]
  ·dsimp only
   rw [if_neg (not_lt_int _), List.take_length]
   rfl
  ·have hfl : (((List.range i).map Int.ofNat).filter (hits g a c)).length ≤ i := Nat.le_trans (List.length_filter_le _ _) (by simp)
   rw [List.range_succ, List.map_append, List.filter_append]
   have hnx : IntKind.wrap .i64 ((i : Int) + 1) = ((i + 1 : Nat) : Int) := by rw [w64 (by omega) (by omega)]; omega
   by_cases hh : hits g a c i = true
   ·rw [if_pos hh, if_pos (fits_le (by simp; omega) (by simp; omega)), hnx]
    simp [hh]
   ·rw [if_neg hh, hnx]
    simp [hh]
 ·dsimp only
  rw [if_neg (by omega)]
  rfl
theorem CheckSet_ok {a : List Int} (h : SetOk g a) (hm : a.length ≤ 9223372036854775807) : m_ref09_CheckSet g a = some 0 := by
 unfold m_ref09_CheckSet
 simp only [jp]
 refine lpL (loop_is (fun i => (i : Int)) a.length (Ou.go ()) (fun i hi => ?_) (by rw [if_neg (not_lt_int _)]) rfl) rfl
 obtain ⟨h0, h1⟩ := h.2 a[i] (List.getElem_mem hi)
 rw [if_pos (lt_int hi), ix hi]
 simp only [Option.bind_some]
 rw [if_neg (by omega)]
 have hd : decide (g.2.1 ≤ a[i]) = false := decide_eq_false (by omega)
 simp only [hd, Bool.false_eq_true, if_false]
 by_cases hz : 0 < i
 ·have hlt := List.pairwise_iff_getElem.1 h.1 (i - 1) i (by omega) hi (by omega)
  rw [if_pos (by omega), ix_pred hi hm hz]
  simp only [Option.bind_some]
  have hd2 : decide (a[i] ≤ a[i - 1]'(by omega)) = false := decide_eq_false (by omega)
  simp only [hd2, Bool.false_eq_true, if_false, nx hm hi]
 ·rw [if_neg (by omega)]
  simp only [Bool.false_eq_true, if_false, nx hm hi]
theorem Step_ref (hv : VG g) {a : List Int} (ha : SetOk g a) {c : Int} (h0 : 0 ≤ c) (h1 : c < g.1) : m_ref09_Step g a c = some (stepL g a c, 0) := by
 obtain ⟨e, he, hz⟩ := Check_tot g
 have he0 := hz.2 hv
 subst he0
 have hl := setOk_len hv ha
 unfold m_ref09_Step
 rw [he, Option.bind_some, CheckSet_ok ha (by omega)]
 simp only [ne_eq, not_true_eq_false, if_false, Option.bind_some, jp]
 rw [if_neg (by omega)]
 have hd : decide (g.1 ≤ c) = false := decide_eq_false (by omega)
 simp only [hd, Bool.false_eq_true, if_false]
 rw [Next_eq hv ha]
 rfl
theorem index_eq {l : List (List Int)} (x : List Int) (hl : l.length ≤ 1000000) (hx : ∀ y ∈ l, y.length ≤ 1000000) : m_ref12_index l x = some (if x ∈ l then ((l.idxOf x : Nat) : Int) else -1) := by
 unfold m_ref12_index
 refine lpN (fun r => r = if x ∈ l then Ou.ret ((l.idxOf x : Nat) : Int) else Ou.go ()) (loopN l.length (fun i s => s = (i : Int) ∧ x ∉ l.take i) (fun i s hi hI => ?_) (fun s hI => ?_) 0 0 (Nat.zero_le _) ⟨rfl, by simp⟩) fun r hq => ?_
 ·obtain ⟨rfl, hn⟩ := hI
  rw [if_pos (lt_int hi), ix hi]
  simp only [Option.bind_some]
  rw [Same12_eq (Nat.le_trans (hx _ (List.getElem_mem hi)) (by omega))]
  simp only [Option.bind_some, nx (by omega : l.length ≤ _) hi]
  by_cases he : l[i] = x
  ·refine .inr ⟨Ou.ret (i : Int), by simp [he], ?_⟩
   rw [if_pos (he ▸ List.getElem_mem hi), idxOf_at hi he hn]
  ·refine .inl ⟨((i + 1 : Nat) : Int), by simp [he], rfl, ?_⟩
   rw [List.take_add_one, List.getElem?_eq_getElem hi]
   simp only [Option.toList_some, List.mem_append, List.mem_singleton, not_or]
   exact ⟨hn, fun e => he e.symm⟩
 ·obtain ⟨rfl, hn⟩ := hI
  rw [List.take_length] at hn
  refine ⟨Ou.go (), by rw [if_neg (not_lt_int _)], by rw [if_neg hn]⟩
 ·rw [hq]
  by_cases h : x ∈ l <;> simp [h, lpO]
theorem brow_small {i n k : Nat} {a : List Int} {st : BS} (h : ¬ small (browN g i a k st)) (hk : k ≤ n) : ¬ small (browN g i a n st) := fun hs => by
 obtain ⟨h1, h2⟩ := browN_mono (g := g) i a st hk
 have h1 := h1.length_le
 have h2 := h2.length_le
 exact h ⟨Nat.le_trans h2 hs.1, Nat.le_trans h1 hs.2⟩
theorem sets_eq (hv : VG g) {a : List Int} (ha : SetOk g a) : m_ref12_sets g a = some (match brun g 66 0 ([], [a]) with
    | none => ((0, 0, []), [], false)
    | some st => ((g.1, (st.2.length : Int), st.1), st.2, true)) := by
  have h256 := hv.l2
  have h1 := hv.l1
  unfold m_ref12_sets
  refine lpL (bfs_loop (g := g) (T := Unit) (fun i st _ => ((i : Int), st.2, st.1)) (fun st => (st.2, st.1)) ((0, 0, []), [], false) (fun st _ => True) (fun i st t hg hs _ hi => ⟨(), trivial, ?_⟩) (fun i st M hs hi hn => ?_) 66 0 ([], [a]) () (good_one ha) (small_one a) trivial (Nat.zero_le _) rfl) ?_
  · have hsl := hs.1
    have hel := hs.2
    have hset : SetOk g st.2[i] := hg _ (List.getElem_mem hi)
    have hgd : st.2.getD i [] = st.2[i] := by simp [List.getD, hi]
    have hbr : brow g i st = browN g i st.2[i] g.1.toNat st := by unfold brow; rw [hgd]
    dsimp only
    rw [if_pos (by omega)]
    refine lpN (fun x => x = if small (brow g i st) then Ou.go ((brow g i st).2, (brow g i st).1) else Ou.ret ((0, 0, []), [], false)) (loopN g.1.toNat (fun k s => small (browN g i st.2[i] k st) ∧ s = ((k : Int), (browN g i st.2[i] k st).2, (browN g i st.2[i] k st).1))
      (fun k s hk hI => ?_) (fun s hI => ?_) 0 _ (Nat.zero_le _) ⟨hs, rfl⟩) fun x hq => ?_
    · obtain ⟨hsk, rfl⟩ := hI
      obtain ⟨b0, b0', b1, b2⟩ := browN_grow (g := g) i st.2[i] st k
      have hgk := browN_good (i := i) (a := st.2[i]) hg k
      have hik : i < (browN g i st.2[i] k st).2.length := by have := b0'.length_le; omega
      have hat : (browN g i st.2[i] k st).2[i] = st.2[i] := (List.IsPrefix.getElem b0' hi).symm
      obtain ⟨s1, s2⟩ := id hsk
      simp only [jp]
      rw [if_pos (by omega), ix hik, hat, Option.bind_some, Option.bind_some, Step_ref hv hset (by omega) (by omega), Option.bind_some]
      dsimp only
      have hnx : IntKind.wrap .i64 ((k : Int) + 1) = ((k + 1 : Nat) : Int) := by rw [w64 (by omega) (by omega)]; omega
      have hno := stepL_ok g st.2[i] (k : Int)
      have hf1 : ∀ x : Ed, fits 24 ((browN g i st.2[i] k st).1.length + ([x] : List Ed).length) := fun x => fits_le (by simp; omega) (by simp; omega)
      have hf2 : ∀ x : List Int, fits 24 ((browN g i st.2[i] k st).2.length + ([x] : List (List Int)).length) := fun x => fits_le (by simp; omega) (by simp; omega)
      have hsucc : browN g i st.2[i] (k + 1) st = bstep g i st.2[i] (browN g i st.2[i] k st) k := browN_succ
      by_cases hz : stepL g st.2[i] (k : Int) = []
      · have e : bstep g i st.2[i] (browN g i st.2[i] k st) k = browN g i st.2[i] k st := by unfold bstep; rw [if_pos hz]
        rw [if_pos (by rw [hz]; simp), hnx]
        rw [e] at hsucc
        refine .inl ⟨_, rfl, by rw [hsucc]; exact hsk, by rw [hsucc]⟩
      · have hpos : 0 < (stepL g st.2[i] (k : Int)).length := List.length_pos_iff.2 hz
        rw [if_neg (by omega), index_eq _ (by omega) (fun y hy => Nat.le_trans (setOk_len hv (hgk y hy)) (by omega))]
        simp only [Option.bind_some]
        -- behind the edge
        have fin : ∀ (E : List Ed) (L : List (List Int)), browN g i st.2[i] (k + 1) st = (E, L) →
            ((∃ s' : Int × (List (List Int)) × (List Ed), (if 64 < ((L.length : Nat) : Int) then (if true = true then some (Stp.exit (Ou.ret (((0, 0, []), [], false) : Gr × (List (List Int)) × Bool))) else some (Stp.next (((k + 1 : Nat) : Int), L, E))) else (if decide (1024 < ((E.length : Nat) : Int)) = true then some (Stp.exit (Ou.ret ((0, 0, []), [], false))) else some (Stp.next (((k + 1 : Nat) : Int), L, E)))) = some (Stp.next (X := Ou ((List (List Int)) × (List Ed)) (Gr × (List (List Int)) × Bool)) s') ∧ small (browN g i st.2[i] (k + 1) st) ∧ s' = (((k + 1 : Nat) : Int), (browN g i st.2[i] (k + 1) st).2, (browN g i st.2[i] (k + 1) st).1)) ∨
             ∃ x, (if 64 < ((L.length : Nat) : Int) then (if true = true then some (Stp.exit (Ou.ret (((0, 0, []), [], false) : Gr × (List (List Int)) × Bool))) else some (Stp.next (((k + 1 : Nat) : Int), L, E))) else (if decide (1024 < ((E.length : Nat) : Int)) = true then some (Stp.exit (Ou.ret ((0, 0, []), [], false))) else some (Stp.next (((k + 1 : Nat) : Int), L, E)))) = some (Stp.exit x) ∧ x = if small (brow g i st) then Ou.go ((brow g i st).2, (brow g i st).1) else Ou.ret ((0, 0, []), [], false)) := by
          intro E L hEL
          by_cases hsm : small (browN g i st.2[i] (k + 1) st)
          · have hsm' := hsm
            rw [hEL] at hsm'
            obtain ⟨q1, q2⟩ := hsm'
            have q1 : L.length ≤ 64 := q1
            have q2 : E.length ≤ 1024 := q2
            refine .inl ⟨(((k + 1 : Nat) : Int), L, E), ?_, hsm, by rw [hEL]⟩
            rw [if_neg (by omega), if_neg (by simp; omega)]
          · have hbs : ¬ small (brow g i st) := by rw [hbr]; exact brow_small hsm (by omega)
            have hsm' := hsm
            rw [hEL] at hsm'
            have hsm' : ¬ (L.length ≤ 64 ∧ E.length ≤ 1024) := hsm'
            refine .inr ⟨Ou.ret ((0, 0, []), [], false), ?_, by rw [if_neg hbs]⟩
            by_cases h64 : (64 : Int) < ((L.length : Nat) : Int)
            · rw [if_pos h64, if_pos rfl]
            · rw [if_neg h64, if_pos (by simp; omega)]
        by_cases hm : stepL g st.2[i] (k : Int) ∈ (browN g i st.2[i] k st).2
        · have e : bstep g i st.2[i] (browN g i st.2[i] k st) k = ((browN g i st.2[i] k st).1 ++ [((i : Int), (k : Int), (((browN g i st.2[i] k st).2.idxOf (stepL g st.2[i] (k : Int)) : Nat) : Int))], (browN g i st.2[i] k st).2) := by unfold bstep; rw [if_neg hz, if_pos hm]
          rw [if_pos hm, if_neg (by omega), if_pos (hf1 _), hnx]
          exact fin _ _ (hsucc.trans e)
        · have e : bstep g i st.2[i] (browN g i st.2[i] k st) k = ((browN g i st.2[i] k st).1 ++ [((i : Int), (k : Int), (((browN g i st.2[i] k st).2.length : Nat) : Int))], (browN g i st.2[i] k st).2 ++ [stepL g st.2[i] (k : Int)]) := by unfold bstep; rw [if_neg hz, if_neg hm, idxOf_no hm]
          rw [if_neg hm, if_pos rfl, if_pos (hf2 _), if_pos (hf1 _), hnx]
          exact fin _ _ (hsucc.trans e)
    · obtain ⟨hsk, rfl⟩ := hI
      dsimp only
      rw [if_neg (by omega), hbr, if_pos hsk]
      exact ⟨_, rfl, rfl⟩
    · rw [hq, nx (by omega : st.2.length ≤ _) hi]
      by_cases hsm : small (brow g i st)
      · rw [if_pos hsm, if_pos hsm]; rfl
      · rw [if_neg hsm, if_neg hsm]; rfl
  · dsimp only
    rw [if_neg (by omega)]
  · cases hb : brun g 66 0 ([], [a]) with
    | none => rfl
    | some st => rfl
end
end Go.AW
namespace Go.AW
open Go
set_option linter.unusedSimpArgs false
set_option linter.unusedVariables false
section
variable {g : Gr}
def checkS (g : Gr) (a : List Int) : Nat := scanC (bad1 g a) (bad2 a) a.length 0
theorem checkS_ok {a : List Int} (h : checkS g a = 0) : SetOk g a := by
 rcases scanC_cases (bad1 g a) (bad2 a) a.length 0 with h1 | h1 | ⟨_, h1⟩
 ·rw [show scanC (bad1 g a) (bad2 a) a.length 0 = checkS g a from rfl, h] at h1; cases h1
 ·rw [show scanC (bad1 g a) (bad2 a) a.length 0 = checkS g a from rfl, h] at h1; cases h1
 ·refine setOk_of (fun hx => ?_) (fun hx => ?_)
  ·obtain ⟨i, hi, hp⟩ := List.any_eq_true.1 hx
   have hi := List.mem_range.1 hi
   rw [(h1 i (Nat.zero_le _) (by omega)).1] at hp
   cases hp
  ·obtain ⟨i, hi, hp⟩ := List.any_eq_true.1 hx
   have hi := List.mem_range.1 hi
   rw [(h1 i (Nat.zero_le _) (by omega)).2] at hp
   cases hp
theorem checkS_zero {a : List Int} (h : SetOk g a) : checkS g a = 0 := scanC_zero _ _ fun j _ hj => by
 have hj : j < a.length := by omega
 have e1 : a.getD j 0 = a[j] := by simp [List.getD, hj]
 have h1 := h.2 a[j] (List.getElem_mem hj)
 refine ⟨decide_eq_false (by rw [e1]; omega), decide_eq_false ?_⟩
 rintro ⟨h0, h2⟩
 have e2 : a.getD (j - 1) 0 = a[j - 1]'(by omega) := by simp [List.getD, show j - 1 < a.length by omega]
 rw [e1, e2] at h2
 have := List.pairwise_iff_getElem.1 h.1 (j - 1) j (by omega) hj (by omega)
 omega
def fromR (g : Gr) (e : Int) (a : List Int) : Gr × List (List Int) × Int :=
 if e ≠ 0 then ((0, 0, []), [], 1) else if a.length = 0 then ((0, 0, []), [], 5) else pick3 (buildR g a) ((0, 0, []), [], 25) ((0, 0, []), [], 10) (checkS g a)
theorem From_ref {e : Int} (he : m_ref09_Check g = some e) (hz : e = 0 ↔ VG g) {a : List Int} (ha : a.length ≤ 1000000) : m_ref12_From g a = some (fromR g e a) := by
 unfold m_ref12_From fromR
 rw [he, Option.bind_some]
 by_cases h0 : e = 0
 ·rw [if_neg (show ¬ e ≠ 0 from fun h => h h0), if_neg (show ¬ e ≠ 0 from fun h => h h0)]
  by_cases hl : a.length = 0
  ·rw [if_pos (by omega), if_pos hl]
  ·rw [if_neg (by omega), if_neg hl]
   refine lpL (loop_scan (fun i => (i : Int)) a.length (bad1 g a) (bad2 a) (Ou.ret ((0, 0, []), [], 25)) (Ou.ret ((0, 0, []), [], 10)) (Ou.go ()) (fun i hi => ?_) (by rw [if_neg (not_lt_int _)]) rfl) ?_
   ·have e1 : a.getD i 0 = a[i] := by simp [List.getD, hi]
    rw [if_pos (lt_int hi), ix hi]
    simp only [Option.bind_some, jp, nx (by omega : a.length ≤ _) hi, bad1, bad2, e1]
    by_cases k1 : a[i] < 0
    ·simp [k1]
    ·by_cases k2 : g.2.1 ≤ a[i]
     ·simp [k1, k2]
     ·by_cases hz0 : 0 < i
      ·have e2 : a.getD (i - 1) 0 = a[i - 1]'(by omega) := by simp [List.getD, show i - 1 < a.length by omega]
       rw [ix_pred hi (by omega) hz0, if_pos (by omega : (0 : Int) < (i : Int)), e2]
       simp [k1, k2, hz0]
      ·rw [if_neg (by omega : ¬ (0 : Int) < (i : Int))]
       simp [k1, k2, hz0]
   ·rcases scanC_cases (bad1 g a) (bad2 a) a.length 0 with h | h | ⟨h, _⟩
    ·simp only [checkS, h]; rfl
    ·simp only [checkS, h]; rfl
    ·have hs : SetOk g a := checkS_ok h
     simp only [checkS, h, pick3, lpO]
     rw [sets_eq (hz.1 h0) hs]
     unfold buildR
     cases hb : brun g 66 0 ([], [a]) with
     | none => rfl
     | some st => rfl
 ·rw [if_pos h0, if_pos h0]
theorem set_up {n i : Nat} (h : i < n) : ((List.range i).map Int.ofNat ++ List.replicate (n - i) (0 : Int)).set i (i : Int) = (List.range (i + 1)).map Int.ofNat ++ List.replicate (n - (i + 1)) (0 : Int) := by
 obtain ⟨d, rfl⟩ : ∃ d, n = i + 1 + d := ⟨n - i - 1, by omega⟩
 rw [show i + 1 + d - i = d + 1 by omega, show i + 1 + d - (i + 1) = d by omega, List.replicate_succ, List.set_append_right _ _ (by simp), List.range_succ]
 simp
def buildG (g : Gr) : Gr × List (List Int) × Int := if g.2.1 = 0 then ((g.1, 0, []), [], 0) else buildR g (upto g.2.1)
def buildE (g : Gr) (e : Int) : Gr × List (List Int) × Int := if e ≠ 0 then ((0, 0, []), [], 1) else buildG g
theorem Build_eq {e : Int} (he : m_ref09_Check g = some e) (hz : e = 0 ↔ VG g) : m_subset_Build g = some (buildE g e) := by
 unfold m_subset_Build buildE
 rw [Check_ref, he, Option.bind_some]
 by_cases h0 : e = 0
 ·have hv := hz.1 h0
  have hs0 := hv.s0
  have hs1 := hv.s1
  rw [if_neg (show ¬ e ≠ 0 from fun h => h h0), if_neg (show ¬ e ≠ 0 from fun h => h h0)]
  unfold buildG
  by_cases hn : g.2.1 = 0
  ·rw [if_pos hn, if_pos hn]
  ·rw [if_neg hn, if_neg hn, if_pos (by omega)]
   refine bindL (loop_is (fun i => ((i : Int), (List.range i).map Int.ofNat ++ List.replicate (g.2.1.toNat - i) (0 : Int))) g.2.1.toNat (upto g.2.1) (fun i hi => ?_) ?_ (by simp)) ?_
   ·dsimp only
    have hlen : i < ((List.range i).map Int.ofNat ++ List.replicate (g.2.1.toNat - i) (0 : Int)).length := by simp; omega
    rw [if_pos (by simp; omega), ix hlen]
    simp only [Option.bind_some, Int.toNat_natCast]
    rw [set_up hi, nx (by omega : g.2.1.toNat ≤ _) hi]
   ·dsimp only
    rw [if_neg (by simp)]
    simp [upto]
   ·rw [build_eq hv (upto_ok g)]
    rfl
 ·rw [if_pos h0, if_pos h0]
theorem Build_ref {e : Int} (he : m_ref09_Check g = some e) (hz : e = 0 ↔ VG g) : m_ref12_Build g = some (buildE g e) := by
 unfold m_ref12_Build buildE
 rw [he, Option.bind_some]
 by_cases h0 : e = 0
 ·have hv := hz.1 h0
  have hs0 := hv.s0
  have hs1 := hv.s1
  rw [if_neg (show ¬ e ≠ 0 from fun h => h h0), if_neg (show ¬ e ≠ 0 from fun h => h h0)]
  unfold buildG
  by_cases hn : g.2.1 = 0
  ·rw [if_pos hn, if_pos hn]
  ·rw [if_neg hn, if_neg hn]
   have hst : m_ref12_states g = some (upto g.2.1) := by
    unfold m_ref12_states
    refine bindL (loop_is (fun i => ((i : Int), (List.range i).map Int.ofNat)) g.2.1.toNat (upto g.2.1) (fun i hi => ?_) ?_ rfl) rfl
    ·dsimp only
     rw [if_pos (by omega), if_pos (fits_le (by simp; omega) (by simp; omega)), nx (by omega : g.2.1.toNat ≤ _) hi, List.range_succ]
     simp
    ·dsimp only
     rw [if_neg (by omega)]
     rfl
   rw [hst, Option.bind_some, From_ref he hz (by rw [upto_len]; omega)]
   simp only [Option.bind_some]
   unfold fromR
   rw [if_neg (show ¬ e ≠ 0 from fun h => h h0), if_neg (by rw [upto_len]; omega), checkS_zero (upto_ok g)]
   rfl
 ·rw [if_pos h0, if_pos h0]
def rowE (g : Gr) (i : Nat) (a : List Int) (L : List (List Int)) (n : Nat) : List Ed :=
 (List.range n).filterMap fun (lab : Nat) => if stepL g a (lab : Int) = [] then none else some ((i : Int), (lab : Int), ((L.idxOf (stepL g a (lab : Int)) : Nat) : Int))
theorem rowE_succ (i : Nat) (a : List Int) (L : List (List Int)) (n : Nat) : rowE g i a L (n + 1) = rowE g i a L n ++ if stepL g a (n : Int) = [] then [] else [((i : Int), (n : Int), ((L.idxOf (stepL g a (n : Int)) : Nat) : Int))] := by
 unfold rowE
 rw [List.range_succ, List.filterMap_append]
 congr 1
 by_cases h : stepL g a (n : Int) = [] <;> simp [h]
theorem idxOf_pre {L L' : List (List Int)} {x : List Int} (h : L <+: L') (hx : x ∈ L) : L'.idxOf x = L.idxOf x := by
 obtain ⟨r, rfl⟩ := h
 rw [List.idxOf_append, if_pos hx]
theorem browN_form (i : Nat) (a : List Int) (st : BS) : ∀ n L', (browN g i a n st).2 <+: L' → (browN g i a n st).1 = st.1 ++ rowE g i a L' n ∧ ∀ lab, lab < n → stepL g a (lab : Int) = [] ∨ stepL g a (lab : Int) ∈ (browN g i a n st).2
 | 0, L', _ => ⟨by simp [browN_zero, rowE], fun lab h => by omega⟩
 | n + 1, L', hp => by
  rw [browN_succ] at hp ⊢
  have hpre := (bstep_grow (g := g) i a (browN g i a n st) n).2.1
  obtain ⟨ih1, ih2⟩ := browN_form i a st n L' (hpre.trans hp)
  have old : ∀ lab, lab < n → stepL g a (lab : Int) = [] ∨ stepL g a (lab : Int) ∈ (bstep g i a (browN g i a n st) n).2 := fun lab hl => (ih2 lab hl).imp id fun h => hpre.subset h
  rw [rowE_succ, ← List.append_assoc, ← ih1]
  by_cases hz : stepL g a (n : Int) = []
  ·refine ⟨?_, fun lab hl => ?_⟩
   ·unfold bstep
    rw [if_pos hz, if_pos hz, List.append_nil]
   ·by_cases e : lab = n
    ·subst e; exact .inl hz
    ·exact old lab (by omega)
  ·have hin : stepL g a (n : Int) ∈ (bstep g i a (browN g i a n st) n).2 := by
    unfold bstep
    rw [if_neg hz]
    dsimp only
    split
    ·assumption
    ·simp
   refine ⟨?_, fun lab hl => ?_⟩
   ·rw [idxOf_pre hp hin, if_neg hz]
    unfold bstep
    rw [if_neg hz]
    dsimp only
    by_cases hm : stepL g a (n : Int) ∈ (browN g i a n st).2
    ·rw [if_pos hm]
    ·rw [if_neg hm, idxOf_no hm, List.idxOf_append, if_neg hm, List.idxOf_cons_self]
     simp
   ·by_cases e : lab = n
    ·subst e; exact .inr hin
    ·exact old lab (by omega)
structure Sets (g : Gr) (a : List Int) (E : List Ed) (L : List (List Int)) : Prop where
 ed : E = (List.range L.length).flatMap fun j => rowE g j (L.getD j []) L g.1.toNat
 clo : ∀ j, j < L.length → ∀ lab, lab < g.1.toNat → stepL g (L.getD j []) (lab : Int) = [] ∨ stepL g (L.getD j []) (lab : Int) ∈ L
 nd : L.Nodup
 good : ∀ x ∈ L, SetOk g x
 ne : ∀ x ∈ L, x ≠ []
 hd : [a] <+: L
 s1 : L.length ≤ 64
 s2 : E.length ≤ 1024
theorem brun_ind {P : Nat → BS → Prop} (hstep : ∀ i st, P i st → i < st.2.length → small (brow g i st) → P (i + 1) (brow g i st)) : ∀ f i st st', brun g f i st = some st' → P i st → ∃ k, P k st' ∧ st'.2.length ≤ k
 | 0, i, st, st', h, _ => by cases h
 | f + 1, i, st, st', h, hP => by
  unfold brun at h
  by_cases hlt : i < st.2.length
  ·rw [if_pos hlt] at h
   by_cases hsm : small (brow g i st)
   ·rw [if_pos hsm] at h
    exact brun_ind hstep f _ _ _ h (hstep i st hP hlt hsm)
   ·rw [if_neg hsm] at h; cases h
  ·rw [if_neg hlt] at h
   cases h
   exact ⟨i, hP, by omega⟩
theorem bstep_nd {i n : Nat} {a : List Int} {st : BS} (h : st.2.Nodup) : (bstep g i a st n).2.Nodup := by
 unfold bstep
 split
 ·exact h
 ·dsimp only
  split
  ·exact h
  ·rename_i hm
   rw [List.nodup_append]
   exact ⟨h, by simp, fun x hx y hy => by rw [List.mem_singleton.1 hy]; intro e; subst e; exact hm hx⟩
theorem browN_nd {i : Nat} {a : List Int} {st : BS} (h : st.2.Nodup) : ∀ n, (browN g i a n st).2.Nodup
 | 0 => h
 | n + 1 => by rw [browN_succ]; exact bstep_nd (browN_nd h n)
theorem browN_ne {i : Nat} {a : List Int} {st : BS} (h : ∀ x ∈ st.2, x ≠ []) : ∀ n, ∀ x ∈ (browN g i a n st).2, x ≠ []
 | 0 => h
 | n + 1 => by
  rw [browN_succ]
  unfold bstep
  split
  ·exact browN_ne h n
  ·rename_i hz
   dsimp only
   split
   ·exact browN_ne h n
   ·intro x hx
    rcases List.mem_append.1 hx with hx | hx
    ·exact browN_ne h n x hx
    ·rw [List.mem_singleton.1 hx]; exact hz
theorem pre_getD {L L' : List (List Int)} (h : L <+: L') {i : Nat} (hi : i < L.length) : L'.getD i [] = L.getD i [] := by
 have := h.length_le
 rw [show L'.getD i [] = L'[i]'(by omega) by simp [List.getD, show i < L'.length by omega], show L.getD i [] = L[i] by simp [List.getD, hi]]
 exact (List.IsPrefix.getElem h hi).symm
theorem brun_sets {a : List Int} (ha : SetOk g a) (hne : a ≠ []) {st : BS} (h : brun g 66 0 ([], [a]) = some st) : Sets g a st.1 st.2 := by
 obtain ⟨k, ⟨h1, h2, h3, h4, h5, h6, h7, h8⟩, hk⟩ := brun_ind (g := g) (P := fun i st => (∀ L', st.2 <+: L' → st.1 = (List.range i).flatMap fun j => rowE g j (L'.getD j []) L' g.1.toNat) ∧ (∀ j, j < i → ∀ lab, lab < g.1.toNat → stepL g (st.2.getD j []) (lab : Int) = [] ∨ stepL g (st.2.getD j []) (lab : Int) ∈ st.2) ∧ i ≤ st.2.length ∧ st.2.Nodup ∧ Good g st ∧ (∀ x ∈ st.2, x ≠ []) ∧ [a] <+: st.2 ∧ small st) (fun i st ⟨h1, h2, h3, h4, h5, h6, h7, h8⟩ hi hsm => by
  have hg := browN_grow (g := g) i (st.2.getD i []) st g.1.toNat
  have hpre : st.2 <+: (brow g i st).2 := hg.2.1
  have hlen := hpre.length_le
  refine ⟨fun L' hL' => ?_, fun j hj lab hlab => ?_, by omega, browN_nd h4 _, browN_good h5 _, browN_ne h6 _, h7.trans hpre, hsm⟩
  ·rw [List.range_succ, List.flatMap_append, ← h1 L' (hpre.trans hL')]
   simp only [List.flatMap_cons, List.flatMap_nil, List.append_nil]
   rw [pre_getD (hpre.trans hL') hi]
   exact (browN_form i (st.2.getD i []) st g.1.toNat L' hL').1
  ·have hjl : j < st.2.length := by omega
   rw [pre_getD hpre hjl]
   by_cases e : j = i
   ·subst e
    exact (browN_form j (st.2.getD j []) st g.1.toNat _ (List.prefix_refl _)).2 lab hlab
   ·exact (h2 j (by omega) lab hlab).imp id fun h => hpre.subset h) 66 0 ([], [a]) st h ⟨fun L' _ => by simp, fun j hj => by omega, by simp, by simp, good_one ha, fun x hx => by rw [List.mem_singleton.1 hx]; exact hne, List.prefix_refl _, small_one a⟩
 have hkl : k = st.2.length := by omega
 subst hkl
 exact ⟨h1 _ (List.prefix_refl _), h2, h4, h5, h6, h7, h8.1, h8.2⟩
theorem buildR_cases {a : List Int} (ha : SetOk g a) (hne : a ≠ []) : buildR g a = ((0, 0, []), [], 4) ∨ ∃ E L, Sets g a E L ∧ brun g 66 0 ([], [a]) = some (E, L) ∧ buildR g a = ((g.1, (L.length : Int), E), L, 0) := by
 unfold buildR
 cases h : brun g 66 0 ([], [a]) with
 | none => exact .inl rfl
 | some st => exact .inr ⟨st.1, st.2, brun_sets ha hne h, rfl, rfl⟩
section
variable {a : List Int} {E : List Ed} {L : List (List Int)}
theorem Sets.mem (h : Sets g a E L) {e : Ed} : e ∈ E ↔ ∃ j lab : Nat, j < L.length ∧ lab < g.1.toNat ∧ stepL g (L.getD j []) (lab : Int) ≠ [] ∧ e = ((j : Int), (lab : Int), ((L.idxOf (stepL g (L.getD j []) (lab : Int)) : Nat) : Int)) := by
 rw [h.ed]
 simp only [List.mem_flatMap, List.mem_range, rowE, List.mem_filterMap]
 constructor
 ·rintro ⟨j, hj, lab, hlab, he⟩
  split at he
  ·cases he
  ·rename_i hz
   exact ⟨j, lab, hj, hlab, hz, (Option.some.inj he).symm⟩
 ·rintro ⟨j, lab, hj, hlab, hz, rfl⟩
  exact ⟨j, hj, lab, hlab, by rw [if_neg hz]⟩
theorem Sets.to_lt (h : Sets g a E L) {j lab : Nat} (hj : j < L.length) (hlab : lab < g.1.toNat) (hz : stepL g (L.getD j []) (lab : Int) ≠ []) : L.idxOf (stepL g (L.getD j []) (lab : Int)) < L.length := idxOf_lt ((h.clo j hj lab hlab).resolve_left hz)
theorem Sets.asc (h : Sets g a E L) : E.Pairwise fun x y => x.1 < y.1 ∨ x.1 = y.1 ∧ x.2.1 < y.2.1 := by
 rw [h.ed, List.pairwise_flatMap]
 refine ⟨fun j _ => ?_, ?_⟩
 ·unfold rowE
  rw [List.pairwise_filterMap]
  refine List.Pairwise.imp (R := (· < ·)) ?_ (List.pairwise_lt_range (n := g.1.toNat))
  intro x y hxy e he e' he'
  split at he
  ·cases he
  ·split at he'
   ·cases he'
   ·cases he; cases he'
    exact .inr ⟨rfl, by dsimp only; omega⟩
 ·refine List.Pairwise.imp (R := (· < ·)) ?_ (List.pairwise_lt_range (n := L.length))
  intro x y hxy e he e' he'
  unfold rowE at he he'
  obtain ⟨l1, _, he⟩ := List.mem_filterMap.1 he
  obtain ⟨l2, _, he'⟩ := List.mem_filterMap.1 he'
  split at he
  ·cases he
  ·split at he'
   ·cases he'
   ·cases he; cases he'
    exact .inl (by dsimp only; omega)
theorem cmp3_lt {x y : Ed} (h : x.1 < y.1 ∨ x.1 = y.1 ∧ x.2.1 < y.2.1) : cmp3 x y < 0 := by
 unfold cmp3
 rcases h with h | ⟨h1, h2⟩
 ·rw [if_pos h]; decide
 ·rw [if_neg (by omega), if_neg (by omega), if_pos h2]; decide
theorem Sets.vg (hv : VG g) (h : Sets g a E L) : VG (g.1, (L.length : Int), E) where
 l1 := hv.l1
 l2 := hv.l2
 s0 := by dsimp only; omega
 s1 := by have := h.s1; dsimp only; omega
 el := h.s2
 ed := fun x hx => by
  obtain ⟨j, lab, hj, hlab, hz, rfl⟩ := h.mem.1 hx
  have := h.to_lt hj hlab hz
  have := hv.l1
  dsimp only
  omega
 ord := fun i hi => cmp3_lt (List.pairwise_iff_getElem.1 h.asc i (i + 1) (by simp at hi; omega) hi (by omega))
theorem Sets.len_pos (h : Sets g a E L) : 0 < L.length := by have := h.hd.length_le; simp at this; omega
theorem Sets.zero (h : Sets g a E L) : L.getD 0 [] = a := by
 have := pre_getD h.hd (i := 0) (by simp)
 simpa using this
theorem Sets.at_idx (h : Sets g a E L) {x : List Int} (hx : x ∈ L) : L.getD (L.idxOf x) [] = x := by
 have hl := idxOf_lt hx
 rw [show L.getD (L.idxOf x) [] = L[L.idxOf x] by simp [List.getD, hl]]
 exact List.getElem_idxOf hl
theorem Sets.idx_at (h : Sets g a E L) {j : Nat} (hj : j < L.length) : L.idxOf (L.getD j []) = j := by
 rw [show L.getD j [] = L[j] by simp [List.getD, hj]]
 exact List.Nodup.idxOf_getElem h.nd j hj
end
end
end Go.AW
namespace Go.AW
open Go
set_option linter.unusedSimpArgs false
set_option linter.unusedVariables false
def wfold (W : List (List Int)) (x : Ed) : List (List Int) := if x.2.2 = (W.length : Int) then W ++ [W.getD x.1.toNat [] ++ [x.2.1]] else W
def wordsQ (E : List Ed) : List (List Int) := E.foldl wfold [[]]
theorem wordsQ_snoc (E : List Ed) (x : Ed) : wordsQ (E ++ [x]) = wfold (wordsQ E) x := by simp [wordsQ, List.foldl_append]
theorem wfold_pre (W : List (List Int)) (x : Ed) : W <+: wfold W x := by
 unfold wfold
 split
 ·exact List.prefix_append _ _
 ·exact List.prefix_refl _
theorem foldW_pre : ∀ (E : List Ed) (W : List (List Int)), W <+: E.foldl wfold W
 | [], W => List.prefix_refl _
 | x :: E, W => (wfold_pre W x).trans (foldW_pre E _)
theorem wordsQ_app (E F : List Ed) : wordsQ E <+: wordsQ (E ++ F) := by
 unfold wordsQ
 rw [List.foldl_append]
 exact foldW_pre F _
theorem wordsQ_pos (E : List Ed) : 0 < (wordsQ E).length := by
 have := (foldW_pre E [[]]).length_le
 exact this
def endsI (g : Gr) (a : List Int) (w : List Int) : List Int := w.foldl (stepL g) a
theorem endsI_snoc (g : Gr) (a w : List Int) (c : Int) : endsI g a (w ++ [c]) = stepL g (endsI g a w) c := by simp [endsI, List.foldl_append]
def DO (E : List Ed) : Prop := ∀ E1 x E2, E = E1 ++ x :: E2 → 0 ≤ x.1 ∧ x.1 < ((wordsQ E1).length : Int) ∧ 0 ≤ x.2.2 ∧ x.2.2 ≤ ((wordsQ E1).length : Int)
theorem DO_nil : DO [] := fun E1 x E2 h => by
 have := congrArg List.length h
 simp at this
theorem DO_snoc {E : List Ed} {x : Ed} (h : DO E) (hx : 0 ≤ x.1 ∧ x.1 < ((wordsQ E).length : Int) ∧ 0 ≤ x.2.2 ∧ x.2.2 ≤ ((wordsQ E).length : Int)) : DO (E ++ [x]) := fun E1 y E2 he => by
 rcases List.eq_nil_or_concat E2 with rfl | ⟨E3, z, rfl⟩
 ·obtain ⟨h1, h2⟩ := List.append_inj' he rfl
  cases h2
  rw [← h1]; exact hx
 ·rw [List.concat_eq_append] at he
  have he' : E ++ [x] = (E1 ++ y :: E3) ++ [z] := by rw [he]; simp
  exact h E1 y E3 (List.append_inj' he' rfl).1
section
variable {g : Gr}
structure Disc (g : Gr) (a : List Int) (st : BS) : Prop where
 len : (wordsQ st.1).length = st.2.length
 ord : DO st.1
 ends : ∀ j, j < st.2.length → endsI g a ((wordsQ st.1).getD j []) = st.2.getD j []
 size : ∀ j, j < (wordsQ st.1).length → ((wordsQ st.1).getD j []).length ≤ j
 labs : ∀ w ∈ wordsQ st.1, ∀ c ∈ w, 0 ≤ c ∧ c < g.1
theorem disc_one (a : List Int) : Disc g a ([], [a]) where
 len := rfl
 ord := DO_nil
 ends := fun j hj => by
  have : j = 0 := by simp at hj; omega
  subst this; rfl
 size := fun j hj => by
  have : j = 0 := by simp [wordsQ] at hj; omega
  subst this; simp [wordsQ]
 labs := fun w hw c hc => by
  have : w = [] := by simpa [wordsQ] using hw
  subst this; cases hc
theorem getD_app_lt {α : Type} {l m : List α} {d : α} {j : Nat} (h : j < l.length) : (l ++ m).getD j d = l.getD j d := by
 simp [List.getD, List.getElem?_append_left h]
theorem getD_app_len {α : Type} (l : List α) (x d : α) : (l ++ [x]).getD l.length d = x := by simp [List.getD]
theorem getD_mem {α : Type} {l : List α} {d : α} {j : Nat} (h : j < l.length) : l.getD j d ∈ l := by
 rw [show l.getD j d = l[j] by simp [List.getD, h]]; exact List.getElem_mem h
theorem Disc.step {a : List Int} {st : BS} (h : Disc g a st) {i n : Nat} (hi : i < st.2.length) (hn : (n : Int) < g.1) : Disc g a (bstep g i (st.2.getD i []) st n) := by
 unfold bstep
 by_cases hz : stepL g (st.2.getD i []) (n : Int) = []
 ·rw [if_pos hz]; exact h
 ·rw [if_neg hz]
  have hlen := h.len
  by_cases hm : stepL g (st.2.getD i []) (n : Int) ∈ st.2
  ·rw [if_pos hm]
   have hlt := idxOf_lt hm
   have hw : wordsQ (st.1 ++ [((i : Int), (n : Int), ((st.2.idxOf (stepL g (st.2.getD i []) (n : Int)) : Nat) : Int))]) = wordsQ st.1 := by
    rw [wordsQ_snoc]
    unfold wfold
    rw [if_neg (by dsimp only; omega)]
   exact ⟨by dsimp only; rw [hw]; exact hlen, DO_snoc h.ord (by dsimp only; omega), by dsimp only; rw [hw]; exact h.ends, by dsimp only; rw [hw]; exact h.size, by dsimp only; rw [hw]; exact h.labs⟩
  ·rw [if_neg hm, idxOf_no hm]
   have hw : wordsQ (st.1 ++ [((i : Int), (n : Int), ((st.2.length : Nat) : Int))]) = wordsQ st.1 ++ [(wordsQ st.1).getD i [] ++ [(n : Int)]] := by
    rw [wordsQ_snoc]
    unfold wfold
    rw [if_pos (by dsimp only; omega)]
    simp
   refine ⟨by dsimp only; rw [hw]; simp [hlen], DO_snoc h.ord (by dsimp only; omega), ?_, ?_, ?_⟩
   ·dsimp only
    rw [hw]
    intro j hj
    simp only [List.length_append, List.length_cons, List.length_nil] at hj
    by_cases hjl : j < st.2.length
    ·rw [getD_app_lt (by omega), getD_app_lt hjl]; exact h.ends j hjl
    ·have e : j = st.2.length := by omega
     subst e
     rw [getD_app_len]
     have := getD_app_len (wordsQ st.1) ((wordsQ st.1).getD i [] ++ [(n : Int)]) []
     rw [hlen] at this
     rw [this, endsI_snoc, h.ends i hi]
   ·dsimp only
    rw [hw]
    intro j hj
    simp only [List.length_append, List.length_cons, List.length_nil] at hj
    by_cases hjl : j < (wordsQ st.1).length
    ·rw [getD_app_lt hjl]; exact h.size j hjl
    ·have e : j = (wordsQ st.1).length := by omega
     subst e
     rw [getD_app_len]
     have := h.size i (by omega)
     simp only [List.length_append, List.length_cons, List.length_nil]
     omega
   ·dsimp only
    rw [hw]
    intro w hw c hc
    rcases List.mem_append.1 hw with hw | hw
    ·exact h.labs w hw c hc
    ·rw [List.mem_singleton.1 hw] at hc
     rcases List.mem_append.1 hc with hc | hc
     ·exact h.labs _ (getD_mem (by omega)) c hc
     ·rw [List.mem_singleton.1 hc]; omega
theorem Disc.row {a : List Int} {st : BS} (h : Disc g a st) {i : Nat} (hi : i < st.2.length) : ∀ n : Nat, (n : Int) ≤ g.1 → Disc g a (browN g i (st.2.getD i []) n st)
 | 0, _ => h
 | n + 1, hn => by
  have ih := Disc.row h hi n (by omega)
  have hp := (browN_grow (g := g) i (st.2.getD i []) st n).2.1
  have hle := hp.length_le
  have := ih.step (i := i) (n := n) (by omega) (by omega)
  rw [pre_getD hp hi] at this
  rw [browN_succ]
  exact this
def below (j : Nat) (E : List Ed) : List Ed := E.filter fun x => decide (x.1 < (j : Int))
structure Found (g : Gr) (a : List Int) (E : List Ed) (L : List (List Int)) : Prop where
 disc : Disc g a (E, L)
 asc : E.Pairwise fun x y => x.1 ≤ y.1
 row : ∀ j, j < L.length → j < (wordsQ (below j E)).length
theorem rowE_from {i : Nat} {a : List Int} {L : List (List Int)} {n : Nat} {x : Ed} (h : x ∈ rowE g i a L n) : x.1 = (i : Int) := by
 unfold rowE at h
 obtain ⟨l, _, h⟩ := List.mem_filterMap.1 h
 split at h
 ·cases h
 ·cases h; rfl
theorem brun_found (hv : VG g) {a : List Int} {E : List Ed} {L : List (List Int)} (h : brun g 66 0 ([], [a]) = some (E, L)) : Found g a E L := by
 have hl1 := hv.l1
 obtain ⟨k, ⟨h1, h2, h3, h4, h5⟩, hk⟩ := brun_ind (g := g) (P := fun i st => Disc g a st ∧ (∀ x ∈ st.1, 0 ≤ x.1 ∧ x.1 < (i : Int)) ∧ (st.1.Pairwise fun x y => x.1 ≤ y.1) ∧ (∀ j, j ≤ i → j < st.2.length → j < (wordsQ (below j st.1)).length) ∧ i ≤ st.2.length) (fun i st ⟨h1, h2, h3, h4, h5⟩ hi hsm => by
  have hd : Disc g a (brow g i st) := h1.row hi _ (by omega)
  have hlen := (browN_grow (g := g) i (st.2.getD i []) st g.1.toNat).2.1.length_le
  have hform : (brow g i st).1 = st.1 ++ rowE g i (st.2.getD i []) (brow g i st).2 g.1.toNat := (browN_form i (st.2.getD i []) st g.1.toNat _ (List.prefix_refl _)).1
  have hin : ∀ x ∈ (brow g i st).1, 0 ≤ x.1 ∧ x.1 < ((i + 1 : Nat) : Int) := fun x hx => by
   rw [hform] at hx
   rcases List.mem_append.1 hx with hx | hx
   ·have := h2 x hx; omega
   ·rw [rowE_from hx]; omega
  refine ⟨hd, hin, ?_, fun j hj hjl => ?_, by unfold brow; omega⟩
  ·rw [hform, List.pairwise_append]
   refine ⟨h3, ?_, fun x hx y hy => ?_⟩
   ·exact List.pairwise_of_forall_mem_list fun x hx y hy => by rw [rowE_from hx, rowE_from hy]; exact Int.le_refl _
   ·rw [rowE_from hy]; have := h2 x hx; omega
  ·by_cases e : j = i + 1
   ·subst e
    have hb : below (i + 1) (brow g i st).1 = (brow g i st).1 := List.filter_eq_self.2 fun x hx => decide_eq_true (hin x hx).2
    rw [hb, hd.len]
    exact hjl
   ·have hb : below j (brow g i st).1 = below j st.1 := by
     unfold below
     rw [hform, List.filter_append]
     have : (rowE g i (st.2.getD i []) (brow g i st).2 g.1.toNat).filter (fun x => decide (x.1 < (j : Int))) = [] := List.filter_eq_nil_iff.2 fun x hx => by
      rw [rowE_from hx]; simp; omega
     rw [this, List.append_nil]
    rw [hb]
    exact h4 j (by omega) (by omega)) 66 0 ([], [a]) (E, L) h ⟨disc_one a, fun x hx => by simp at hx, List.Pairwise.nil, fun j hj _ => by
   have : j = 0 := by omega
   subst this; exact wordsQ_pos _, by simp⟩
 have h5 : k ≤ L.length := h5
 have hk : L.length ≤ k := hk
 exact ⟨h1, h3, fun j hj => h4 j (by omega) hj⟩
theorem below_succ {i : Nat} : ∀ {E : List Ed}, (E.Pairwise fun x y => x.1 ≤ y.1) → below (i + 1) E = below i E ++ E.filter fun x => decide (x.1 = (i : Int))
 | [], _ => rfl
 | x :: E, h => by
  obtain ⟨h1, h2⟩ := List.pairwise_cons.1 h
  have ih := below_succ (i := i) h2
  unfold below at ih ⊢
  by_cases c1 : x.1 < (i : Int)
  ·rw [List.filter_cons_of_pos (by simp; omega), List.filter_cons_of_pos (by simp; omega), List.filter_cons_of_neg (by simp; omega), ih, List.cons_append]
  ·have hnil : E.filter (fun y => decide (y.1 < (i : Int))) = [] := List.filter_eq_nil_iff.2 fun y hy => by
    have := h1 y hy
    simp; omega
   rw [hnil, List.nil_append] at ih
   have e1 : (x :: E).filter (fun y => decide (y.1 < (i : Int))) = [] := by rw [List.filter_cons_of_neg (by simpa using c1), hnil]
   rw [e1, List.nil_append]
   by_cases c2 : x.1 = (i : Int)
   ·rw [List.filter_cons_of_pos (by simp; omega), List.filter_cons_of_pos (by simpa using c2), ih]
   ·rw [List.filter_cons_of_neg (by simp; omega), List.filter_cons_of_neg (by simpa using c2), ih]
theorem below_pre {i : Nat} : ∀ {E : List Ed}, (E.Pairwise fun x y => x.1 ≤ y.1) → below i E <+: E
 | [], _ => List.prefix_refl _
 | x :: E, h => by
  obtain ⟨h1, h2⟩ := List.pairwise_cons.1 h
  have ih := below_pre (i := i) h2
  unfold below at ih ⊢
  by_cases c1 : x.1 < (i : Int)
  ·rw [List.filter_cons_of_pos (by simpa using c1)]
   exact List.cons_prefix_cons.2 ⟨rfl, ih⟩
  ·have hnil : E.filter (fun y => decide (y.1 < (i : Int))) = [] := List.filter_eq_nil_iff.2 fun y hy => by
    have := h1 y hy
    simp; omega
   rw [List.filter_cons_of_neg (by simpa using c1), hnil]
   exact List.nil_prefix
theorem wordsQ_below {i : Nat} {E : List Ed} (h : E.Pairwise fun x y => x.1 ≤ y.1) : wordsQ (below i E) <+: wordsQ E := by
 obtain ⟨r, hr⟩ := below_pre (i := i) h
 conv => rhs; rw [← hr]
 exact wordsQ_app _ _
end
end Go.AW
namespace Go.AW
open Go
set_option linter.unusedSimpArgs false
set_option linter.unusedVariables false
section
variable {g : Gr}
def oneB (x : List Int) : Bool := decide (x.length = 1)
def focusR (E : List Ed) (L : List (List Int)) : List Int × Int × Bool × Int := match L.findIdx? oneB with
 | none => ([], 0, false, 0)
 | some i => ((wordsQ E).getD i [], (L.getD i []).getD 0 0, true, 0)
def focusE (g : Gr) (e : Int) : List Int × Int × Bool × Int := if (buildE g e).2.2 ≠ 0 ∨ (buildE g e).1.2.1 = 0 then ([], 0, false, (buildE g e).2.2) else focusR (buildE g e).1.2.2 (buildE g e).2.1
theorem set_next {α : Type} (W : List α) {n : Nat} (x d : α) (h : W.length < n) : (W ++ List.replicate (n - W.length) d).set W.length x = (W ++ [x]) ++ List.replicate (n - (W ++ [x]).length) d := by
 obtain ⟨k, rfl⟩ : ∃ k, n = W.length + 1 + k := ⟨n - W.length - 1, by omega⟩
 rw [show W.length + 1 + k - W.length = k + 1 by omega, List.replicate_succ, List.set_append_right _ _ (Nat.le_refl _)]
 simp only [Nat.sub_self, List.set_cons_zero, List.length_append, List.length_cons, List.length_nil, List.append_assoc, List.singleton_append]
 rw [show W.length + 1 + k - (W.length + (0 + 1)) = k by omega]
theorem upto_ne {n : Int} (h : 0 < n) : upto n ≠ [] := fun e => by
 have := upto_len n
 rw [e] at this
 simp at this
 omega
theorem Focus_eq {e : Int} (he : m_ref09_Check g = some e) (hz : e = 0 ↔ VG g) : m_subset_Focus g = some (focusE g e) := by
 unfold m_subset_Focus
 rw [Build_eq he hz, Option.bind_some]
 unfold focusE
 simp only [jp]
 by_cases hb : (buildE g e).2.2 = 0
 case neg => rw [if_pos hb, if_pos trivial, if_pos (.inl hb)]
 rw [if_neg (by simpa using hb)]
 by_cases hs : (buildE g e).1.2.1 = 0
 case pos => rw [if_pos (decide_eq_true hs), if_pos (.inr hs)]
 rw [if_neg (show ¬ decide ((buildE g e).1.2.1 = 0) = true by simpa using hs), if_neg (show ¬ ((buildE g e).2.2 ≠ 0 ∨ (buildE g e).1.2.1 = 0) from fun h => h.elim (fun h => h hb) hs)]
 -- a graph of sets
 have h0 : e = 0 := by
  apply Classical.byContradiction
  intro h
  unfold buildE at hb
  rw [if_pos h] at hb
  cases hb
 have hv := hz.1 h0
 have hne : g.2.1 ≠ 0 := fun h => by
  unfold buildE buildG at hs
  rw [if_neg (show ¬ e ≠ 0 from fun h => h h0), if_pos h] at hs
  exact hs rfl
 have hpos : 0 < g.2.1 := by have := hv.s0; omega
 have hbe : buildE g e = buildR g (upto g.2.1) := by
  unfold buildE buildG
  rw [if_neg (show ¬ e ≠ 0 from fun h => h h0), if_neg hne]
 rcases buildR_cases (upto_ok g) (upto_ne hpos) with h | ⟨E, L, hS, hrun, h⟩
 ·rw [hbe, h] at hb; cases hb
 have hF := brun_found hv hrun
 rw [hbe, h]
 dsimp only
 have hL := hS.s1
 have hE := hS.s2
 have hlenW : (wordsQ E).length = L.length := hF.disc.len
 rw [if_pos (by omega)]
 simp only [Int.toNat_natCast]
 refine lpN (fun x => x = match L.findIdx? oneB with
   | none => Ou.go ()
   | some i => Ou.ret ((wordsQ E).getD i [], (L.getD i []).getD 0 0, true, (0 : Int)))
  (loopN L.length (fun i s => s = ((i : Int), (((wordsQ (below i E)).length : Nat) : Int), wordsQ (below i E) ++ List.replicate (L.length - (wordsQ (below i E)).length) []) ∧ ∀ j, j < i → oneB (L.getD j []) = false)
   (fun i s hi hI => ?_) (fun s hI => ?_) 0 _ (Nat.zero_le _) ⟨?_, fun j hj => by omega⟩) fun x hx => ?_
 ·obtain ⟨rfl, hno⟩ := hI
  have hgd : L.getD i [] = L[i] := by simp [List.getD, hi]
  have hpre := wordsQ_below (i := i) hF.asc
  have hple := hpre.length_le
  have hrow := hF.row i hi
  dsimp only
  rw [if_pos (by omega), ix hi]
  simp only [Option.bind_some]
  have hil : i < (wordsQ (below i E) ++ List.replicate (L.length - (wordsQ (below i E)).length) []).length := by simp; omega
  by_cases h1 : L[i].length = 1
  ·refine .inr ⟨_, ?_, rfl⟩
   have hf : L.findIdx? oneB = some i := List.findIdx?_eq_some_iff_getElem.2 ⟨hi, decide_eq_true h1, fun j hj => by
    have := hno j hj
    rw [show L.getD j [] = L[j]'(by omega) by simp [List.getD, show j < L.length by omega]] at this
    simp [this]⟩
   rw [if_pos (by omega), ix hil]
   simp only [Option.bind_some]
   rw [ix0 (by omega : 0 < L[i].length), hf]
   simp only [Option.bind_some]
   have e1 : (wordsQ (below i E) ++ List.replicate (L.length - (wordsQ (below i E)).length) [])[i] = (wordsQ E).getD i [] := by
    rw [List.getElem_append_left hrow, pre_getD hpre hrow]
    simp [List.getD, hrow]
   have e2 : (L.getD i []).getD 0 0 = L[i][0] := by rw [hgd]; simp [List.getD, h1]
   rw [e1, e2]
  ·refine .inl ?_
   rw [if_neg (by omega)]
   refine ⟨((((i + 1 : Nat) : Int)), (((wordsQ (below (i + 1) E)).length : Nat) : Int), wordsQ (below (i + 1) E) ++ List.replicate (L.length - (wordsQ (below (i + 1) E)).length) []), ?_, rfl, fun j hj => ?_⟩
   case refine_2 =>
    by_cases hji : j = i
    ·subst hji; rw [hgd]; exact decide_eq_false h1
    ·exact hno j (by omega)
   -- the edges
   have hstep : wordsQ (below (i + 1) E) = (E.filter fun x => decide (x.1 = (i : Int))).foldl wfold (wordsQ (below i E)) := by
    rw [below_succ hF.asc]
    unfold wordsQ
    rw [List.foldl_append]
   let V : Nat → List (List Int) := fun k => ((E.take k).filter fun x => decide (x.1 = (i : Int))).foldl wfold (wordsQ (below i E))
   have hVle : ∀ k, (V k).length ≤ L.length := fun k => by
    have h1 : V k <+: wordsQ (below (i + 1) E) := by
     rw [hstep]
     have : (E.filter fun x => decide (x.1 = (i : Int))) = ((E.take k).filter fun x => decide (x.1 = (i : Int))) ++ (E.drop k).filter fun x => decide (x.1 = (i : Int)) := by rw [← List.filter_append, List.take_append_drop]
     rw [this, List.foldl_append]
     exact foldW_pre _ _
    have h2 := (wordsQ_below (i := i + 1) hF.asc).length_le
    have := h1.length_le
    omega
   have hVge : ∀ k, wordsQ (below i E) <+: V k := fun k => foldW_pre _ _
   have hVs : ∀ k (hk : k < E.length), V (k + 1) = if E[k].1 = (i : Int) then wfold (V k) E[k] else V k := fun k hk => by
    show ((E.take (k + 1)).filter _).foldl wfold _ = _
    rw [List.take_add_one, List.getElem?_eq_getElem hk]
    simp only [Option.toList_some, List.filter_append, List.foldl_append]
    by_cases hc : E[k].1 = (i : Int)
    ·rw [if_pos hc, List.filter_cons_of_pos (by simpa using hc)]; rfl
    ·rw [if_neg hc, List.filter_cons_of_neg (by simpa using hc)]; rfl
   refine bindL (loop_is (fun k => ((((V k).length : Nat) : Int), (k : Int), V k ++ List.replicate (L.length - (V k).length) [])) E.length (wordsQ (below (i + 1) E) ++ List.replicate (L.length - (wordsQ (below (i + 1) E)).length) [], (((wordsQ (below (i + 1) E)).length : Nat) : Int)) (fun k hk => ?_) ?_ rfl) ?_
   ·dsimp only
    rw [if_pos (lt_int hk), ix hk]
    simp only [Option.bind_some, nx (by omega : E.length ≤ _) hk]
    rw [hVs k hk]
    have hmem := hS.mem.1 (List.getElem_mem hk)
    obtain ⟨j, lab, hj, hlab, hnz, hx⟩ := hmem
    have hto := hS.to_lt hj hlab hnz
    by_cases c1 : E[k].1 = (i : Int)
    ·rw [if_pos c1, if_pos c1]
     by_cases c2 : E[k].2.2 = (((V k).length : Nat) : Int)
     ·have hlt : (V k).length < L.length := by
       rw [hx] at c2
       dsimp only at c2
       omega
      have hVk := (hVge k).length_le
      have hik : i < (V k ++ List.replicate (L.length - (V k).length) []).length := by simp; omega
      have hnk : (V k).length < (V k ++ List.replicate (L.length - (V k).length) ([] : List Int)).length := by simp; omega
      have ei : (V k ++ List.replicate (L.length - (V k).length) [])[i] = (wordsQ E).getD i [] := by
       rw [List.getElem_append_left (by omega), pre_getD hpre hrow]
       have := pre_getD (hVge k) hrow
       rw [← this]
       simp [List.getD, show i < (V k).length by omega]
      have eV : (V k).getD i [] = (wordsQ E).getD i [] := by rw [pre_getD (hVge k) hrow, pre_getD hpre hrow]
      have hsz := hF.disc.size i (by show i < (wordsQ E).length; omega)
      have hsz : ((wordsQ E).getD i []).length ≤ i := hsz
      rw [if_pos (decide_eq_true c2), ix hik]
      simp only [Option.bind_some]
      rw [ei, cloneI_eq (by omega), Option.bind_some, if_pos (fits_le (by simp at hsz ⊢; omega) (by simp at hsz ⊢; omega)), ix hnk]
      simp only [Option.bind_some, Int.toNat_natCast]
      rw [set_next _ _ _ hlt]
      have hw : wfold (V k) E[k] = V k ++ [(wordsQ E).getD i [] ++ [E[k].2.1]] := by
       unfold wfold
       rw [if_pos c2, c1]
       simp only [Int.toNat_natCast]
       rw [eV]
      rw [hw, w64 (by omega) (by omega)]
      simp only [List.length_append, List.length_cons, List.length_nil]
      congr 3
     ·rw [if_neg (by simpa using c2)]
      have hw : wfold (V k) E[k] = V k := by unfold wfold; rw [if_neg c2]
      rw [hw]
    ·rw [if_neg c1, if_neg c1, if_neg (by decide)]
   ·dsimp only
    rw [if_neg (not_lt_int _)]
    have : V E.length = wordsQ (below (i + 1) E) := by
     show ((E.take E.length).filter _).foldl wfold _ = _
     rw [List.take_length, hstep]
    rw [this]
   ·dsimp only
    rw [nx (by omega : L.length ≤ _) hi]
 ·obtain ⟨rfl, hno⟩ := hI
  dsimp only
  rw [if_neg (by omega)]
  have hf : L.findIdx? oneB = none := List.findIdx?_eq_none_iff.2 fun x hx => by
   obtain ⟨j, hj, rfl⟩ := List.getElem_of_mem hx
   have := hno j hj
   rwa [show L.getD j [] = L[j] by simp [List.getD, hj]] at this
  rw [hf]
  exact ⟨_, rfl, rfl⟩
 ·have hb0 : below 0 E = [] := List.filter_eq_nil_iff.2 fun x hx => by
   obtain ⟨j, lab, hj, hlab, hnz, rfl⟩ := hS.mem.1 hx
   simp
  have hlp := hS.len_pos
  rw [hb0]
  obtain ⟨m, hm⟩ : ∃ m, L.length = m + 1 := ⟨L.length - 1, by omega⟩
  rw [hm]
  simp [wordsQ, List.replicate_succ]
 ·rw [hx]
  unfold focusR
  cases hf : L.findIdx? oneB with
  | none => rfl
  | some i => rfl
end
end Go.AW
namespace Go.AW
open Go
set_option linter.unusedSimpArgs false
set_option linter.unusedVariables false
theorem getD_lt {α : Type} {l : List α} {d : α} {i : Nat} (h : i < l.length) : l.getD i d = l[i] := by simp [List.getD, h]
section
variable {g : Gr}
def bz (n : Nat) : TNegMag := (false, be n)
def addE (c : List Nat) (nxt : List Nat) (x : Ed) : List Nat := nxt.set x.2.2.toNat (nxt.getD x.2.2.toNat 0 + c.getD x.1.toNat 0)
def cstep (E : List Ed) (n : Nat) (c : List Nat) : List Nat := E.foldl (addE c) (List.replicate n 0)
def cinit (n : Nat) : List Nat := (List.replicate n 0).set 0 1
def crun (E : List Ed) (n : Nat) : Nat → List Nat
 | 0 => cinit n
 | k + 1 => cstep E n (crun E n k)
def csum (c : List Nat) : Nat := c.foldl (· + ·) 0
theorem addE_len (c nxt : List Nat) (x : Ed) : (addE c nxt x).length = nxt.length := List.length_set
theorem foldE_len (c : List Nat) : ∀ (E : List Ed) (nxt : List Nat), (E.foldl (addE c) nxt).length = nxt.length
 | [], _ => rfl
 | x :: E, nxt => by rw [List.foldl_cons, foldE_len c E, addE_len]
theorem cstep_len (E : List Ed) (n : Nat) (c : List Nat) : (cstep E n c).length = n := by unfold cstep; rw [foldE_len]; simp
theorem crun_len (E : List Ed) (n : Nat) : ∀ k, (crun E n k).length = n
 | 0 => by simp [crun, cinit]
 | k + 1 => cstep_len _ _ _
theorem addE_le {c nxt : List Nat} {x : Ed} {M B : Nat} (hc : ∀ y ∈ c, y ≤ M) (hn : ∀ y ∈ nxt, y ≤ B) : ∀ y ∈ addE c nxt x, y ≤ B + M := by
 intro y hy
 have hgc : c.getD x.1.toNat 0 ≤ M := by
  by_cases h : x.1.toNat < c.length
  ·exact hc _ (getD_mem h)
  ·simp [List.getD, h]
 have hgn : nxt.getD x.2.2.toNat 0 ≤ B := by
  by_cases h : x.2.2.toNat < nxt.length
  ·exact hn _ (getD_mem h)
  ·simp [List.getD, h]
 rcases List.mem_or_eq_of_mem_set hy with h | rfl
 ·have := hn y h; omega
 ·omega
theorem foldE_le {c : List Nat} {M : Nat} (hc : ∀ y ∈ c, y ≤ M) : ∀ (E : List Ed) (nxt : List Nat) (B : Nat), (∀ y ∈ nxt, y ≤ B) → ∀ y ∈ E.foldl (addE c) nxt, y ≤ B + E.length * M
 | [], nxt, B, hn => fun y hy => by have := hn y hy; simp; exact this
 | x :: E, nxt, B, hn => fun y hy => by
  have := foldE_le hc E (addE c nxt x) (B + M) (addE_le hc hn) y hy
  rw [List.length_cons, Nat.succ_mul]
  omega
theorem cstep_le {E : List Ed} {n M : Nat} {c : List Nat} (hc : ∀ y ∈ c, y ≤ M) (hE : E.length ≤ 1024) : ∀ y ∈ cstep E n c, y ≤ 1024 * M := fun y hy => by
 have := foldE_le hc E (List.replicate n 0) 0 (fun y hy => by rw [(List.mem_replicate.1 hy).2]; exact Nat.le_refl _) y hy
 have h2 : E.length * M ≤ 1024 * M := Nat.mul_le_mul_right _ hE
 omega
theorem crun_le {E : List Ed} {n : Nat} (hE : E.length ≤ 1024) : ∀ k, ∀ y ∈ crun E n k, y ≤ 1024 ^ k
 | 0 => fun y hy => by
  rcases List.mem_or_eq_of_mem_set hy with h | rfl
  ·rw [(List.mem_replicate.1 h).2]; simp
  ·simp
 | k + 1 => fun y hy => by
  have := cstep_le (crun_le hE k) hE y hy
  rw [Nat.pow_succ, Nat.mul_comm]
  exact this
theorem be_small {n k : Nat} (hk : k ≤ 40) (h : n ≤ 2048 * 1024 ^ k) : (be n).length ≤ 1099511627776 := by
 have h1 : (1024 : Nat) ^ k ≤ 1024 ^ 40 := Nat.pow_le_pow_right (by decide) hk
 have h2 : 2048 * 1024 ^ k ≤ 2048 * 1024 ^ 40 := Nat.mul_le_mul_left _ h1
 have h3 : (2048 * 1024 ^ 40 : Nat) < 256 ^ 60 := by decide
 have := be_len (n := n) 60 (by omega)
 omega
theorem bz_at {l : List Nat} {i : Nat} (h : i < l.length) : idx (l.map bz) (i : Int) = some (bz l[i]) := by
 rw [ix (by simpa using h)]
 simp
theorem bz_set (l : List Nat) (i n : Nat) : (l.map bz).set i (bz n) = (l.set i n).map bz := by rw [List.map_set]
theorem bz_zero (n : Nat) : List.replicate n ((false, ([] : List UInt8)) : TNegMag) = (List.replicate n 0).map bz := by
 rw [List.map_replicate]
 unfold bz
 rw [be0]
theorem bz_add {a b k : Nat} (hk : k ≤ 40) (ha : a ≤ 2048 * 1024 ^ k) (hb : b ≤ 2048 * 1024 ^ k) : m_integer_Add (bz a) (bz b) = some (bz (a + b)) := Add_spec (be_small hk ha) (be_small hk hb)
def countE (g : Gr) (e n : Int) : TNegMag × Int :=
 if e ≠ 0 then ((false, []), 1) else if n < 0 ∨ 4096 < n then ((false, []), 2)
 else if (buildE g e).2.2 ≠ 0 ∨ (buildE g e).1.2.1 = 0 then ((false, []), (buildE g e).2.2)
 else (bz (csum (crun (buildE g e).1.2.2 (buildE g e).2.1.length n.toNat)), 0)
theorem csum_snoc (c : List Nat) (x : Nat) : csum (c ++ [x]) = csum c + x := by simp [csum, List.foldl_append]
theorem csum_le {c : List Nat} {M : Nat} (h : ∀ y ∈ c, y ≤ M) : csum c ≤ c.length * M := by
 have : ∀ (c : List Nat) (s : Nat), (∀ y ∈ c, y ≤ M) → c.foldl (· + ·) s ≤ s + c.length * M := by
  intro c
  induction c with
  | nil => intro s _; simp
  | cons x c ih =>
   intro s hc
   have h1 := ih (s + x) fun y hy => hc y (List.mem_cons_of_mem _ hy)
   have h2 := hc x (List.mem_cons_self ..)
   rw [List.foldl_cons, List.length_cons, Nat.succ_mul]
   omega
 have := this c 0 h
 unfold csum
 omega
theorem Count_eq {e : Int} (he : m_ref09_Check g = some e) (hz : e = 0 ↔ VG g) {n : Int} (hn : n ≤ 40 ∨ 4096 < n) : m_subset_Count g n = some (countE g e n) := by
 unfold m_subset_Count countE
 rw [Check_ref, he, Option.bind_some]
 by_cases h0 : e = 0
 case neg => rw [if_pos h0, if_pos h0]
 rw [if_neg (show ¬ e ≠ 0 from fun h => h h0), if_neg (show ¬ e ≠ 0 from fun h => h h0)]
 simp only [jp]
 by_cases c1 : n < 0
 ·rw [if_pos c1, if_pos trivial, if_pos (.inl c1)]
 rw [if_neg c1]
 by_cases c2 : 4096 < n
 ·rw [if_pos (decide_eq_true c2), if_pos (.inr c2)]
 rw [if_neg (by simpa using c2), if_neg (show ¬ (n < 0 ∨ 4096 < n) from fun h => h.elim c1 c2), Build_eq he hz, Option.bind_some]
 by_cases hb : (buildE g e).2.2 = 0
 case neg => rw [if_pos hb, if_pos trivial, if_pos (.inl hb)]
 rw [if_neg (by simpa using hb)]
 by_cases hs : (buildE g e).1.2.1 = 0
 case pos => rw [if_pos (decide_eq_true hs), if_pos (.inr hs)]
 rw [if_neg (show ¬ decide ((buildE g e).1.2.1 = 0) = true by simpa using hs), if_neg (show ¬ ((buildE g e).2.2 ≠ 0 ∨ (buildE g e).1.2.1 = 0) from fun h => h.elim (fun h => h hb) hs)]
 have hv := hz.1 h0
 have hne : g.2.1 ≠ 0 := fun h => by
  unfold buildE buildG at hs
  rw [if_neg (show ¬ e ≠ 0 from fun h => h h0), if_pos h] at hs
  exact hs rfl
 have hpos : 0 < g.2.1 := by have := hv.s0; omega
 have hbe : buildE g e = buildR g (upto g.2.1) := by
  unfold buildE buildG
  rw [if_neg (show ¬ e ≠ 0 from fun h => h h0), if_neg hne]
 rcases buildR_cases (upto_ok g) (upto_ne hpos) with h | ⟨E, L, hS, hrun, h⟩
 ·rw [hbe, h] at hb; cases hb
 rw [hbe, h]
 dsimp only
 have hL := hS.s1
 have hE := hS.s2
 have hlp := hS.len_pos
 have hg : 0 ≤ (L.length : Int) ∧ (L.length : Int) ≤ (L.length : Int) ∧ (L.length : Int) * 24 ≤ 281474976710656 := by omega
 rw [if_pos hg, of_spec (by decide) (by decide), Option.bind_some, ix0 (by simp; omega), Option.bind_some]
 simp only [Int.toNat_natCast]
 rw [bz_zero]
 have hn40 : n.toNat ≤ 40 := by omega
 refine bindL (loop_is (fun k => ((crun E L.length k).map bz, (k : Int))) n.toNat ((crun E L.length n.toNat).map bz) (fun k hk => ?_) ?_ ?_) ?_
 ·dsimp only
  rw [if_pos (by omega), if_pos hg]
  have hck := crun_le (n := L.length) hE k
  have hlen := crun_len E L.length k
  refine bindL (loop_is (fun m => ((m : Int), ((E.take m).foldl (addE (crun E L.length k)) (List.replicate L.length 0)).map bz)) E.length ((crun E L.length (k + 1)).map bz) (fun m hm => ?_) ?_ rfl) ?_
  ·dsimp only
   obtain ⟨j, lab, hj, hlab, hnz, hx⟩ := hS.mem.1 (List.getElem_mem hm)
   have hto := hS.to_lt hj hlab hnz
   have e1 : E[m].1 = (j : Int) := by rw [hx]
   have e2 : E[m].2.2 = ((L.idxOf (stepL g (L.getD j []) (lab : Int)) : Nat) : Int) := by rw [hx]
   generalize hto' : L.idxOf (stepL g (L.getD j []) (lab : Int)) = t at hto e2
   have hN : ((E.take m).foldl (addE (crun E L.length k)) (List.replicate L.length 0)).length = L.length := by rw [foldE_len]; simp
   have hB := foldE_le hck (E.take m) (List.replicate L.length 0) 0 (fun y hy => by rw [(List.mem_replicate.1 hy).2]; exact Nat.le_refl _)
   have htk : E.take (m + 1) = E.take m ++ [E[m]] := by rw [List.take_add_one, List.getElem?_eq_getElem hm]; rfl
   rw [if_pos (lt_int hm), ix hm]
   simp only [Option.bind_some]
   rw [e1, e2, bz_at (by omega), bz_at (by omega)]
   simp only [Option.bind_some]
   have hml : (E.take m).length ≤ 1024 := by simp; omega
   have hmul : (E.take m).length * 1024 ^ k ≤ 1024 * 1024 ^ k := Nat.mul_le_mul_right _ hml
   have hb1 := hB _ (List.getElem_mem (show t < _ by omega))
   have hb2 := hck _ (List.getElem_mem (show j < _ by omega))
   rw [bz_add (k := k) (by omega) (by omega) (by omega)]
   simp only [Option.bind_some, Int.toNat_natCast]
   rw [bz_set, nx (by omega : E.length ≤ _) hm, htk, List.foldl_append]
   simp only [List.foldl_cons, List.foldl_nil]
   congr 4
   rw [show ∀ (c nx : List Nat) (x : Ed), addE c nx x = nx.set x.2.2.toNat (nx.getD x.2.2.toNat 0 + c.getD x.1.toNat 0) from fun _ _ _ => rfl, e1, e2]
   simp only [Int.toNat_natCast]
   congr 1
   rw [getD_lt (show t < _ by omega), getD_lt (show j < _ by omega)]
  ·dsimp only
   rw [if_neg (not_lt_int _), List.take_length]
   rfl
  ·rw [w64 (by omega) (by omega)]
   rfl
 ·dsimp only
  rw [if_neg (by omega)]
 ·show _ = ((cinit L.length).map bz, (0 : Int))
  unfold cinit
  rw [← bz_set]
  rfl
 ·have hcn := crun_le (n := L.length) hE n.toNat
  have hlen := crun_len E L.length n.toNat
  generalize hcc : crun E L.length n.toNat = c at *
  refine bindL (loop_is (fun k => ((k : Int), (bz (csum (c.take k))).1, (bz (csum (c.take k))).2)) c.length (bz (csum c)) (fun k hk => ?_) ?_ (by simp [csum, bz, be0])) rfl
  ·dsimp only
   rw [if_pos (by simp; omega), bz_at hk]
   simp only [Option.bind_some]
   have hs1 : csum (c.take k) ≤ 64 * 1024 ^ n.toNat := by
    have h1 := csum_le (c := c.take k) (M := 1024 ^ n.toNat) fun y hy => hcn y (List.mem_of_mem_take hy)
    have h2 : (c.take k).length ≤ 64 := by simp; omega
    have h3 : (c.take k).length * 1024 ^ n.toNat ≤ 64 * 1024 ^ n.toNat := Nat.mul_le_mul_right _ h2
    omega
   have hb2 := hcn _ (List.getElem_mem hk)
   have := bz_add (k := n.toNat) hn40 (a := csum (c.take k)) (b := c[k]) (by omega) (by omega)
   rw [show ((bz (csum (c.take k))).1, (bz (csum (c.take k))).2) = bz (csum (c.take k)) from rfl, this]
   simp only [Option.bind_some]
   rw [nx (by omega : c.length ≤ _) hk, show c.take (k + 1) = c.take k ++ [c[k]] by rw [List.take_add_one, List.getElem?_eq_getElem hk]; rfl, csum_snoc]
  ·dsimp only
   rw [if_neg (by simp), List.take_length]
end
end Go.AW
namespace Go.AW
open Go
set_option linter.unusedSimpArgs false
set_option linter.unusedVariables false
def even12 : Gr := (2, 2, [(0, 0, 1), (0, 1, 0), (1, 0, 0)])
theorem even12_ok : VG even12 where
 l1 := by decide
 l2 := by decide
 s0 := by decide
 s1 := by decide
 el := by decide
 ed := by decide
 ord := fun i h => match i, h with
  | 0, _ => show cmp3 (0, 0, 1) (0, 1, 0) < 0 by decide
  | 1, _ => show cmp3 (0, 1, 0) (1, 0, 0) < 0 by decide
  | _ + 2, h => absurd h (by simp [even12])
theorem be_7 : be 7 = [7] := by
 rw [be, if_neg (by decide), show 7 / 256 = 0 from rfl, be0]
 rfl
theorem awake12_eq : m_law12_awakeG = some true := by
 obtain ⟨e, he, hz⟩ := Check_tot even12
 have h0 := hz.2 even12_ok
 subst h0
 have hB := Build_eq he hz
 have hF := Focus_eq he hz
 have hC := Count_eq he hz (n := 3) (.inl (by decide))
 have b : buildE even12 0 = ((2, 3, [(0, 0, 0), (0, 1, 1), (1, 0, 2), (1, 1, 1), (2, 0, 1)]), [[0, 1], [0], [1]], 0) := by decide +kernel
 have f : focusE even12 0 = ([1], 0, true, 0) := by unfold focusE; rw [b]; decide +kernel
 have c : countE even12 0 3 = ((false, [7]), 0) := by
  unfold countE
  rw [b, if_neg (by decide), if_neg (by decide), if_neg (by decide)]
  have : csum (crun [(0, 0, 0), (0, 1, 1), (1, 0, 2), (1, 1, 1), (2, 0, 1)] 3 3) = 7 := by decide +kernel
  show (bz (csum (crun [(0, 0, 0), (0, 1, 1), (1, 0, 2), (1, 1, 1), (2, 0, 1)] 3 3)), (0 : Int)) = _
  rw [this]
  unfold bz
  rw [be_7]
 unfold m_law12_awakeG
 have h4 : m_law12_even = some even12 := rfl
 simp only [h4, Option.bind_some, hB, hF, hC, b, f, c, jp]
 have h7 : m_ref01_Of 7 = some (false, [7]) := by
  unfold m_ref01_Of m_ref01_magB
  rw [if_pos (by decide), if_pos (by decide), show ((7 : Int)).toNat = 7 from rfl, be_7]
  rfl
 rw [SameSets_eq (by decide) (by decide), Same12_eq (by decide), h7]
 decide +kernel
section
variable {g : Gr} {e : Int}
theorem great12_tot (g : Gr) : ∃ b, m_law12_great g = some b := by
 unfold m_law12_great m_ref09_Great
 simp only [jp]
 by_cases h1 : (30 : Int) < (g.2.2.length : Int)
 ·rw [if_pos h1]; exact ⟨_, rfl⟩
 ·rw [if_neg h1]
  by_cases h2 : 10 < g.2.1
  ·rw [if_pos h2]; exact ⟨_, rfl⟩
  ·rw [if_neg h2]; exact ⟨_, rfl⟩
end
end Go.AW
namespace Go.AW
open Go Go.Proofs
theorem w_law12_awake {r : Bool} (h : m_law12_awake = some r) : Pure Tryz.prog 5 [] (· = HV.bool r) := by
 cases h
 exact w_law12_awakeG awake12_eq
set_option maxHeartbeats 1600000
set_option maxRecDepth 100000
set_option linter.unusedVariables false
theorem w_graph_Deterministic {p0 : TLabelsStatesEdges} {r : Bool × Int} (h : m_graph_Deterministic p0 = some r) : Pure Tryz.prog 26 [gA p0] (· = HV.tup [.bool r.1, hI r.2]) := by
 unfold m_graph_Deterministic at h
 refine Pure.of_body Tryz.func26 rfl rfl (lb rfl) fun hf => ?_
 unfold Tryz.f26
 dsimp only [enumS, Nat.reduceAdd]
 refine AW.rgs rfl fun K hK => b_op rfl (o_box rfl rfl rfl ?_)
 refine mv rfl rfl (mv rfl rfl ?_)
 let P1 : ASf := fun t H => ⟨(1, gF p0) :: t, H⟩
 refine bf hK (P1 [] []) ?_
 refine AW.seq ?_
 refine AW.rgs rfl fun K hK => bv rfl (v_loadF ty24 rfl (l_litA rfl (lb rfl) rfl)) ?_
 obtain ⟨x1, h2, h⟩ := bS h
 refine b_op rfl (o_call rfl rfl rfl rfl (ACallD.pure0 (w_graph_Check h2)) ?_)
 refine bv rfl (v_bin rfl rfl b_neq) ?_
 refine bf hK (P1 [(9, .bool (decide (x1 ≠ 0)))] []) ?_
 refine AW.cond rfl (fun hc => ?_) (fun hc => ?_)
 ·obtain ⟨hc, h⟩ := cT hc h
  refine AW.rgs rfl fun K hK => mv rfl rfl (mv rfl rfl ?_)
  refine bf hK ⟨[(2, .bool false), (3, hI 1)], []⟩ ?_
  refine AW.ret ?_
  have h := Option.some.inj h
  subst h
  exact ret_pure (hs := [.bool false, hI 1]) (.inr rfl) (resT rfl (resT rfl rfl)) rfl ⟨trivial, trivial, trivial⟩
 obtain ⟨hc, h⟩ := cF hc h
 refine AW.skip ?_
 refine AW.seq ?_
 refine AW.rgs rfl fun K hK => mv rfl rfl ?_
 refine bf hK (P1 [(4, hI 1)] []) ?_
 refine AW.lpR h (by first | exact up_then | exact up_to) (S := Int) (V := Unit) (fun a v => (P1 [(4, hI a)] [])) ?_ (X := Unit) (W := Unit) (fun a v => ⟨[], []⟩) (fun a12 w13 h => ?_) (fun a3 w4 st5 h hr6=> ?_)
 ·exact to_L ⟨(), rfl⟩
 ·refine AW.rgs rfl fun K hK => mv rfl rfl (mv rfl rfl ?_)
  refine bf hK ⟨[(2, .bool true), (3, hI 0)], []⟩ ?_
  refine AW.ret ?_
  have h := Option.some.inj h
  subst h
  exact ret_pure (hs := [.bool true, hI 0]) (.inr rfl) (resT rfl (resT rfl rfl)) rfl ⟨trivial, trivial, trivial⟩
 refine AW.seq ?_
 refine AW.rgs rfl fun K hK => mv rfl rfl (bv rfl (v_fieldAddrF fo24_2 rfl) (bv rfl (v_loadF ty22 rfl (l_lit rfl rfl)) (bv rfl (v_lenF rfl rfl ty22 rfl) (bv rfl (v_bin rfl rfl b_lss) ?_))))
 refine bf hK (P1 [(4, hI a3), (14, .bool (decide (a3 < ((p0.2.2).length : Int))))] []) ?_
 refine AW.cond rfl (fun hc => ?_) (fun hc => ?_)
 ·obtain ⟨hc, h⟩ := cT hc h
  refine AW.skip ?_
  refine AW.seq (AW.block ?_)
  refine AW.dls follows fun K hK F hF => ?_
  obtain ⟨x70401, h70402, h⟩ := bS h
  obtain ⟨x70901, h70902, h⟩ := bS h
  refine l_go (L' := []) hF rfl (s' := (P1 [(4, hI a3)] [])) ?_ (le_q rfl rfl)
  have g7_22 : ∀ (v71101 : Nat) (v71201 : Nat), F [0, 1, 2, 3, 4, 5, 6, 7, 8, 9, 10, 11, 12, 13, 14] (P1 [(4, hI a3), (5, .ptr 26005 v71101 0), (6, .ptr 26006 v71201 0)] [(26005, v71101, .arr 3 49 [hI x70401.1, hI x70401.2.1, hI x70401.2.2]), (26006, v71201, .arr 3 49 [hI x70901.1, hI x70901.2.1, hI x70901.2.2])]) := by
   intro v71101 v71201
   refine l_done hF rfl rfl (hK _ (AW.to (to_le (s' := (P1 [(4, hI a3), (5, .ptr 26005 v71101 0), (6, .ptr 26006 v71201 0)] [(26005, v71101, .arr 3 49 [hI x70401.1, hI x70401.2.1, hI x70401.2.2]), (26006, v71201, .arr 3 49 [hI x70901.1, hI x70901.2.1, hI x70901.2.2])])) (le_q rfl rfl) ?_)))
   refine AW.seqJ h (S := Bool) (V := Unit) (fun a v => (P1 [(4, hI a3), (39, .bool a)] [])) (fun a8 w9 h => ?_) (fun k10 h => ?_)
   ·refine AW.cond rfl (fun hc => ?_) (fun hc => ?_)
    ·have h := ifT hc h
     refine AW.rgs rfl fun K hK => mv rfl rfl (mv rfl rfl ?_)
     refine bf hK ⟨[(2, .bool false), (3, hI 0)], []⟩ ?_
     have h := hr6 _ h
     refine AW.ret ?_
     have h := Option.some.inj h
     subst h
     exact ret_pure (hs := [.bool false, hI 0]) (.inr rfl) (resT rfl (resT rfl rfl)) rfl ⟨trivial, trivial, trivial⟩
    have h := ifF (bF' hc) h
    refine AW.skip ?_
    refine AW.rg rfl fun K hK => mv rfl rfl (bv rfl (v_bin rfl rfl b_add) (mv rfl rfl ?_))
    refine b_nil (hK _ ?_)
    exact to_L ⟨IntKind.wrap .i64 (a3 + 1), (), h, rfl⟩
   refine AW.rg rfl fun K hK => bv rfl (v_fieldAddrP fo49_0 rfl rfl) (bv rfl (v_loadP ty3 rfl rfl (l_lit rfl rfl)) (bv rfl (v_fieldAddrP fo49_0 rfl rfl) (bv rfl (v_loadP ty3 rfl rfl (l_lit rfl rfl)) (bv rfl (v_bin rfl rfl b_eql) (mv rfl rfl ?_)))))
   by_cases hg11 : x70401.1 = x70901.1
   ·have h := ifT hg11 h
    refine b_T rfl rfl rfl rfl (decide_eq_true hg11) (o_val rfl (v_fieldAddrP fo49_1 rfl rfl) ?_)
    refine b_T rfl rfl rfl rfl rfl (o_val rfl (v_loadP ty3 rfl rfl (l_lit rfl rfl)) ?_)
    refine b_T rfl rfl rfl rfl rfl (o_val rfl (v_fieldAddrP fo49_1 rfl rfl) ?_)
    refine b_T rfl rfl rfl rfl rfl (o_val rfl (v_loadP ty3 rfl rfl (l_lit rfl rfl)) ?_)
    refine b_T rfl rfl rfl rfl rfl (o_val rfl (v_bin rfl rfl b_eql) ?_)
    refine bv rfl (v_pickT rfl rfl rfl) ?_
    refine b_nil (hK _ ?_)
    exact to_L ⟨decide (x70401.2.1 = x70901.2.1), (), h, rfl⟩
   have h := ifF hg11 h
   refine b_F rfl rfl rfl rfl rfl (decide_eq_false hg11) ?_
   refine b_F rfl rfl rfl rfl rfl rfl ?_
   refine b_F rfl rfl rfl rfl rfl rfl ?_
   refine b_F rfl rfl rfl rfl rfl rfl ?_
   refine b_F rfl rfl rfl rfl rfl rfl ?_
   refine bv rfl (v_pickF rfl rfl rfl) ?_
   refine b_nil (hK _ ?_)
   exact to_L ⟨false, (), h, rfl⟩
  let E1 : Nat × HV := (27, .agg [hI x70901.1, hI x70901.2.1, hI x70901.2.2])
  have g7_21 : ∀ (v71101 : Nat) (v71201 : Nat), F [0, 1, 2, 3, 4, 5, 6, 7, 8, 9, 10, 11, 12, 13] (P1 [(4, hI a3), (5, .ptr 26005 v71101 0), (6, .ptr 26006 v71201 0), E1] [(26005, v71101, .arr 3 49 [hI x70401.1, hI x70401.2.1, hI x70401.2.2]), (26006, v71201, .arr 3 49 [hI 0, hI 0, hI 0])]) := by
   intro v71101 v71201
   refine l_step hF rfl [14] rfl rfl ⟨?_, trivial⟩
   ·refine l_op rfl rfl rfl (o_store (cs := [hI x70901.1, hI x70901.2.1, hI x70901.2.2]) (zs := [hI x70901.1, hI x70901.2.1, hI x70901.2.2]) rfl rfl rfl ty49 rfl rfl rfl rfl rfl ?_)
    exact b_nil (lg hF (g7_22 v71101 v71201))
  let E2 : Nat × HV := (22, .agg [hI x70401.1, hI x70401.2.1, hI x70401.2.2])
  have g7_20 : ∀ (v71101 : Nat) (v71201 : Nat), F [0, 1, 2, 3, 4, 5, 6, 7, 8, 9, 10, 11, 12] (P1 [(4, hI a3), (5, .ptr 26005 v71101 0), (6, .ptr 26006 v71201 0), E2, E1] [(26005, v71101, .arr 3 49 [hI 0, hI 0, hI 0]), (26006, v71201, .arr 3 49 [hI 0, hI 0, hI 0])]) := by
   intro v71101 v71201
   refine l_step hF rfl [13] rfl rfl ⟨?_, trivial⟩
   ·refine l_op rfl rfl rfl (o_store (cs := [hI x70401.1, hI x70401.2.1, hI x70401.2.2]) (zs := [hI x70401.1, hI x70401.2.1, hI x70401.2.2]) rfl rfl rfl ty49 rfl rfl rfl rfl rfl ?_)
    exact b_nil (lg hF (g7_21 v71101 v71201))
  let E3 : Nat × HV := (26, .fptr (eFromLabelTo.E p0.2.2) ((a3).toNat * eFromLabelTo.k))
  have g7_25 : ∀ (v71101 : Nat) (v71201 : Nat), F [0, 1, 2, 3, 4, 5, 6, 7, 8, 9, 11, 12, 13] (P1 [(4, hI a3), (5, .ptr 26005 v71101 0), (6, .ptr 26006 v71201 0), E3] [(26005, v71101, .arr 3 49 [hI x70401.1, hI x70401.2.1, hI x70401.2.2]), (26006, v71201, .arr 3 49 [hI 0, hI 0, hI 0])]) := by
   intro v71101 v71201
   refine l_step hF rfl [10] rfl rfl ⟨?_, trivial⟩
   ·exact l_ov rfl rfl rfl rfl (v_loadF ty49 rfl (l_agg eFromLabelTo h70902 rfl rfl)) (lg hF (g7_21 v71101 v71201))
  let E4 : Nat × HV := (21, .fptr (eFromLabelTo.E p0.2.2) ((IntKind.wrap .i64 (a3 - 1)).toNat * eFromLabelTo.k))
  have g7_19 : ∀ (v71101 : Nat) (v71201 : Nat), F [0, 1, 2, 3, 4, 6, 7, 8, 9, 10, 11, 12] (P1 [(4, hI a3), (5, .ptr 26005 v71101 0), (6, .ptr 26006 v71201 0), E4, E1] [(26005, v71101, .arr 3 49 [hI 0, hI 0, hI 0]), (26006, v71201, .arr 3 49 [hI 0, hI 0, hI 0])]) := by
   intro v71101 v71201
   refine l_step hF rfl [5] rfl rfl ⟨?_, trivial⟩
   ·exact l_ov rfl rfl rfl rfl (v_loadF ty49 rfl (l_agg eFromLabelTo h70402 rfl rfl)) (lg hF (g7_20 v71101 v71201))
  have g7_24 : ∀ (v71101 : Nat) (v71201 : Nat), F [0, 1, 2, 3, 4, 5, 6, 7, 8, 9, 11, 12] (P1 [(4, hI a3), (5, .ptr 26005 v71101 0), (6, .ptr 26006 v71201 0), E2, E3] [(26005, v71101, .arr 3 49 [hI 0, hI 0, hI 0]), (26006, v71201, .arr 3 49 [hI 0, hI 0, hI 0])]) := by
   intro v71101 v71201
   refine l_step hF rfl [10, 13] rfl rfl ⟨?_, ?_, trivial⟩
   ·exact l_ov rfl rfl rfl rfl (v_loadF ty49 rfl (l_agg eFromLabelTo h70902 rfl rfl)) (lg hF (g7_20 v71101 v71201))
   ·refine l_op rfl rfl rfl (o_store (cs := [hI x70401.1, hI x70401.2.1, hI x70401.2.2]) (zs := [hI x70401.1, hI x70401.2.1, hI x70401.2.2]) rfl rfl rfl ty49 rfl rfl rfl rfl rfl ?_)
    exact b_nil (lg hF (g7_25 v71101 v71201))
  let E5 : Nat × HV := (24, slE eFromLabelTo p0.2.2)
  have g7_31 : ∀ (v71101 : Nat) (v71201 : Nat), F [0, 1, 2, 3, 4, 5, 6, 7, 8, 11, 12, 13] (P1 [(4, hI a3), (5, .ptr 26005 v71101 0), (6, .ptr 26006 v71201 0), E5, (25, hI a3)] [(26005, v71101, .arr 3 49 [hI x70401.1, hI x70401.2.1, hI x70401.2.2]), (26006, v71201, .arr 3 49 [hI 0, hI 0, hI 0])]) := by
   intro v71101 v71201
   refine l_take (i := 9) hF rfl rfl rfl (v_idxF ty22 es22 rfl rfl (idx_lt h70902)) ?_
   exact lg hF (g7_25 v71101 v71201)
  have g7_37 : ∀ (v71201 : Nat), F [0, 1, 2, 3, 4, 5, 6, 7, 8, 9, 10, 12] (P1 [(4, hI a3), (6, .ptr 26006 v71201 0), E2, E1] [(26006, v71201, .arr 3 49 [hI 0, hI 0, hI 0])]) := by
   intro v71201
   refine l_step hF rfl [11] rfl rfl ⟨?_, trivial⟩
   ·refine l_op rfl rfl rfl (o_alloc (fid := 26) (zs := [hI 0, hI 0, hI 0]) 26005 rfl rfl ty49 rfl (fun v71101 => ?_))
    exact b_nil (lg hF (g7_20 v71101 v71201))
  have g7_51 : ∀ (v71101 : Nat), F [0, 1, 2, 3, 4, 5, 6, 7, 8, 9, 10, 11] (P1 [(4, hI a3), (5, .ptr 26005 v71101 0), E2, E1] [(26005, v71101, .arr 3 49 [hI 0, hI 0, hI 0])]) := by
   intro v71101
   refine l_step hF rfl [12] rfl rfl ⟨?_, trivial⟩
   ·refine l_op rfl rfl rfl (o_alloc (fid := 26) (zs := [hI 0, hI 0, hI 0]) 26006 rfl rfl ty49 rfl (fun v71201 => ?_))
    exact b_nil (lg hF (g7_20 v71101 v71201))
  let E6 : Nat × HV := (18, slE eFromLabelTo p0.2.2)
  let E7 : Nat × HV := (20, hI (IntKind.wrap .i64 (a3 - 1)))
  have g7_18 : ∀ (v71101 : Nat) (v71201 : Nat), F [0, 1, 2, 3, 6, 7, 8, 9, 10, 11, 12] (P1 [(4, hI a3), (5, .ptr 26005 v71101 0), (6, .ptr 26006 v71201 0), E6, E7, E1] [(26005, v71101, .arr 3 49 [hI 0, hI 0, hI 0]), (26006, v71201, .arr 3 49 [hI 0, hI 0, hI 0])]) := by
   intro v71101 v71201
   refine l_take (i := 4) hF rfl rfl rfl (v_idxF ty22 es22 rfl rfl (idx_lt h70402)) ?_
   exact lg hF (g7_19 v71101 v71201)
  have g7_23 : ∀ (v71101 : Nat) (v71201 : Nat), F [0, 1, 2, 3, 4, 6, 7, 8, 9, 11, 12] (P1 [(4, hI a3), (5, .ptr 26005 v71101 0), (6, .ptr 26006 v71201 0), E4, E3] [(26005, v71101, .arr 3 49 [hI 0, hI 0, hI 0]), (26006, v71201, .arr 3 49 [hI 0, hI 0, hI 0])]) := by
   intro v71101 v71201
   refine l_step hF rfl [5, 10] rfl rfl ⟨?_, ?_, trivial⟩
   ·exact l_ov rfl rfl rfl rfl (v_loadF ty49 rfl (l_agg eFromLabelTo h70402 rfl rfl)) (lg hF (g7_24 v71101 v71201))
   ·exact l_ov rfl rfl rfl rfl (v_loadF ty49 rfl (l_agg eFromLabelTo h70902 rfl rfl)) (lg hF (g7_19 v71101 v71201))
  have g7_29 : ∀ (v71101 : Nat) (v71201 : Nat), F [0, 1, 2, 3, 4, 5, 6, 7, 8, 11, 12] (P1 [(4, hI a3), (5, .ptr 26005 v71101 0), (6, .ptr 26006 v71201 0), E2, E5, (25, hI a3)] [(26005, v71101, .arr 3 49 [hI 0, hI 0, hI 0]), (26006, v71201, .arr 3 49 [hI 0, hI 0, hI 0])]) := by
   intro v71101 v71201
   refine l_take (i := 9) hF rfl rfl rfl (v_idxF ty22 es22 rfl rfl (idx_lt h70902)) ?_
   exact lg hF (g7_24 v71101 v71201)
  let E8 : Nat × HV := (23, .fptr [hI p0.1, hI p0.2.1, slE eFromLabelTo p0.2.2] 2)
  have g7_30 : ∀ (v71101 : Nat) (v71201 : Nat), F [0, 1, 2, 3, 4, 5, 6, 8, 11, 12, 13] (P1 [(4, hI a3), (5, .ptr 26005 v71101 0), (6, .ptr 26006 v71201 0), E8, (25, hI a3)] [(26005, v71101, .arr 3 49 [hI x70401.1, hI x70401.2.1, hI x70401.2.2]), (26006, v71201, .arr 3 49 [hI 0, hI 0, hI 0])]) := by
   intro v71101 v71201
   refine l_step hF rfl [7] rfl rfl ⟨?_, trivial⟩
   ·exact l_ov rfl rfl rfl rfl (v_loadF ty22 rfl (l_lit rfl rfl)) (lg hF (g7_31 v71101 v71201))
  have g7_36 : ∀ (v71201 : Nat), F [0, 1, 2, 3, 4, 6, 7, 8, 9, 10, 12] (P1 [(4, hI a3), (6, .ptr 26006 v71201 0), E4, E1] [(26006, v71201, .arr 3 49 [hI 0, hI 0, hI 0])]) := by
   intro v71201
   refine l_step hF rfl [5, 11] rfl rfl ⟨?_, ?_, trivial⟩
   ·exact l_ov rfl rfl rfl rfl (v_loadF ty49 rfl (l_agg eFromLabelTo h70402 rfl rfl)) (lg hF (g7_37 v71201))
   ·refine l_op rfl rfl rfl (o_alloc (fid := 26) (zs := [hI 0, hI 0, hI 0]) 26005 rfl rfl ty49 rfl (fun v71101 => ?_))
    exact b_nil (lg hF (g7_19 v71101 v71201))
  have g7_39 : ∀ (v71201 : Nat), F [0, 1, 2, 3, 4, 5, 6, 7, 8, 9, 12] (P1 [(4, hI a3), (6, .ptr 26006 v71201 0), E2, E3] [(26006, v71201, .arr 3 49 [hI 0, hI 0, hI 0])]) := by
   intro v71201
   refine l_step hF rfl [10, 11] rfl rfl ⟨?_, ?_, trivial⟩
   ·exact l_ov rfl rfl rfl rfl (v_loadF ty49 rfl (l_agg eFromLabelTo h70902 rfl rfl)) (lg hF (g7_37 v71201))
   ·refine l_op rfl rfl rfl (o_alloc (fid := 26) (zs := [hI 0, hI 0, hI 0]) 26005 rfl rfl ty49 rfl (fun v71101 => ?_))
    exact b_nil (lg hF (g7_24 v71101 v71201))
  have g7_50 : ∀ (v71101 : Nat), F [0, 1, 2, 3, 4, 6, 7, 8, 9, 10, 11] (P1 [(4, hI a3), (5, .ptr 26005 v71101 0), E4, E1] [(26005, v71101, .arr 3 49 [hI 0, hI 0, hI 0])]) := by
   intro v71101
   refine l_step hF rfl [5, 12] rfl rfl ⟨?_, ?_, trivial⟩
   ·exact l_ov rfl rfl rfl rfl (v_loadF ty49 rfl (l_agg eFromLabelTo h70402 rfl rfl)) (lg hF (g7_51 v71101))
   ·refine l_op rfl rfl rfl (o_alloc (fid := 26) (zs := [hI 0, hI 0, hI 0]) 26006 rfl rfl ty49 rfl (fun v71201 => ?_))
    exact b_nil (lg hF (g7_19 v71101 v71201))
  have g7_53 : ∀ (v71101 : Nat), F [0, 1, 2, 3, 4, 5, 6, 7, 8, 9, 11] (P1 [(4, hI a3), (5, .ptr 26005 v71101 0), E2, E3] [(26005, v71101, .arr 3 49 [hI 0, hI 0, hI 0])]) := by
   intro v71101
   refine l_step hF rfl [10, 12] rfl rfl ⟨?_, ?_, trivial⟩
   ·exact l_ov rfl rfl rfl rfl (v_loadF ty49 rfl (l_agg eFromLabelTo h70902 rfl rfl)) (lg hF (g7_51 v71101))
   ·refine l_op rfl rfl rfl (o_alloc (fid := 26) (zs := [hI 0, hI 0, hI 0]) 26006 rfl rfl ty49 rfl (fun v71201 => ?_))
    exact b_nil (lg hF (g7_24 v71101 v71201))
  have g7_63 : F [0, 1, 2, 3, 4, 5, 6, 7, 8, 9, 10] (P1 [(4, hI a3), E2, E1] []) := by
   refine l_step hF rfl [11, 12] rfl rfl ⟨?_, ?_, trivial⟩
   ·refine l_op rfl rfl rfl (o_alloc (fid := 26) (zs := [hI 0, hI 0, hI 0]) 26005 rfl rfl ty49 rfl (fun v71101 => ?_))
    exact b_nil (lg hF (g7_51 v71101))
   ·refine l_op rfl rfl rfl (o_alloc (fid := 26) (zs := [hI 0, hI 0, hI 0]) 26006 rfl rfl ty49 rfl (fun v71201 => ?_))
    exact b_nil (lg hF (g7_37 v71201))
  have g7_16 : ∀ (v71101 : Nat) (v71201 : Nat), F [0, 1, 2, 3, 6, 7, 8, 9, 11, 12] (P1 [(4, hI a3), (5, .ptr 26005 v71101 0), (6, .ptr 26006 v71201 0), E6, E7, E3] [(26005, v71101, .arr 3 49 [hI 0, hI 0, hI 0]), (26006, v71201, .arr 3 49 [hI 0, hI 0, hI 0])]) := by
   intro v71101 v71201
   refine l_take (i := 4) hF rfl rfl rfl (v_idxF ty22 es22 rfl rfl (idx_lt h70402)) ?_
   exact lg hF (g7_23 v71101 v71201)
  let E9 : Nat × HV := (17, .fptr [hI p0.1, hI p0.2.1, slE eFromLabelTo p0.2.2] 2)
  have g7_17 : ∀ (v71101 : Nat) (v71201 : Nat), F [0, 2, 3, 6, 7, 8, 9, 10, 11, 12] (P1 [(4, hI a3), (5, .ptr 26005 v71101 0), (6, .ptr 26006 v71201 0), E9, E7, E1] [(26005, v71101, .arr 3 49 [hI 0, hI 0, hI 0]), (26006, v71201, .arr 3 49 [hI 0, hI 0, hI 0])]) := by
   intro v71101 v71201
   refine l_step hF rfl [1] rfl rfl ⟨?_, trivial⟩
   ·exact l_ov rfl rfl rfl rfl (v_loadF ty22 rfl (l_lit rfl rfl)) (lg hF (g7_18 v71101 v71201))
  have g7_27 : ∀ (v71101 : Nat) (v71201 : Nat), F [0, 1, 2, 3, 4, 5, 6, 8, 11, 12] (P1 [(4, hI a3), (5, .ptr 26005 v71101 0), (6, .ptr 26006 v71201 0), E2, E8, (25, hI a3)] [(26005, v71101, .arr 3 49 [hI 0, hI 0, hI 0]), (26006, v71201, .arr 3 49 [hI 0, hI 0, hI 0])]) := by
   intro v71101 v71201
   refine l_step hF rfl [7, 13] rfl rfl ⟨?_, ?_, trivial⟩
   ·exact l_ov rfl rfl rfl rfl (v_loadF ty22 rfl (l_lit rfl rfl)) (lg hF (g7_29 v71101 v71201))
   ·refine l_op rfl rfl rfl (o_store (cs := [hI x70401.1, hI x70401.2.1, hI x70401.2.2]) (zs := [hI x70401.1, hI x70401.2.1, hI x70401.2.2]) rfl rfl rfl ty49 rfl rfl rfl rfl rfl ?_)
    exact b_nil (lg hF (g7_30 v71101 v71201))
  have g7_28 : ∀ (v71101 : Nat) (v71201 : Nat), F [0, 1, 2, 3, 4, 6, 7, 8, 11, 12] (P1 [(4, hI a3), (5, .ptr 26005 v71101 0), (6, .ptr 26006 v71201 0), E4, E5, (25, hI a3)] [(26005, v71101, .arr 3 49 [hI 0, hI 0, hI 0]), (26006, v71201, .arr 3 49 [hI 0, hI 0, hI 0])]) := by
   intro v71101 v71201
   refine l_take (i := 9) hF rfl rfl rfl (v_idxF ty22 es22 rfl rfl (idx_lt h70902)) ?_
   exact lg hF (g7_23 v71101 v71201)
  have g7_35 : ∀ (v71201 : Nat), F [0, 1, 2, 3, 6, 7, 8, 9, 10, 12] (P1 [(4, hI a3), (6, .ptr 26006 v71201 0), E6, E7, E1] [(26006, v71201, .arr 3 49 [hI 0, hI 0, hI 0])]) := by
   intro v71201
   refine l_take (i := 4) hF rfl rfl rfl (v_idxF ty22 es22 rfl rfl (idx_lt h70402)) ?_
   exact lg hF (g7_36 v71201)
  have g7_38 : ∀ (v71201 : Nat), F [0, 1, 2, 3, 4, 6, 7, 8, 9, 12] (P1 [(4, hI a3), (6, .ptr 26006 v71201 0), E4, E3] [(26006, v71201, .arr 3 49 [hI 0, hI 0, hI 0])]) := by
   intro v71201
   refine l_step hF rfl [5, 10, 11] rfl rfl ⟨?_, ?_, ?_, trivial⟩
   ·exact l_ov rfl rfl rfl rfl (v_loadF ty49 rfl (l_agg eFromLabelTo h70402 rfl rfl)) (lg hF (g7_39 v71201))
   ·exact l_ov rfl rfl rfl rfl (v_loadF ty49 rfl (l_agg eFromLabelTo h70902 rfl rfl)) (lg hF (g7_36 v71201))
   ·refine l_op rfl rfl rfl (o_alloc (fid := 26) (zs := [hI 0, hI 0, hI 0]) 26005 rfl rfl ty49 rfl (fun v71101 => ?_))
    exact b_nil (lg hF (g7_23 v71101 v71201))
  have g7_43 : ∀ (v71201 : Nat), F [0, 1, 2, 3, 4, 5, 6, 7, 8, 12] (P1 [(4, hI a3), (6, .ptr 26006 v71201 0), E2, E5, (25, hI a3)] [(26006, v71201, .arr 3 49 [hI 0, hI 0, hI 0])]) := by
   intro v71201
   refine l_take (i := 9) hF rfl rfl rfl (v_idxF ty22 es22 rfl rfl (idx_lt h70902)) ?_
   exact lg hF (g7_39 v71201)
  have g7_49 : ∀ (v71101 : Nat), F [0, 1, 2, 3, 6, 7, 8, 9, 10, 11] (P1 [(4, hI a3), (5, .ptr 26005 v71101 0), E6, E7, E1] [(26005, v71101, .arr 3 49 [hI 0, hI 0, hI 0])]) := by
   intro v71101
   refine l_take (i := 4) hF rfl rfl rfl (v_idxF ty22 es22 rfl rfl (idx_lt h70402)) ?_
   exact lg hF (g7_50 v71101)
  have g7_52 : ∀ (v71101 : Nat), F [0, 1, 2, 3, 4, 6, 7, 8, 9, 11] (P1 [(4, hI a3), (5, .ptr 26005 v71101 0), E4, E3] [(26005, v71101, .arr 3 49 [hI 0, hI 0, hI 0])]) := by
   intro v71101
   refine l_step hF rfl [5, 10, 12] rfl rfl ⟨?_, ?_, ?_, trivial⟩
   ·exact l_ov rfl rfl rfl rfl (v_loadF ty49 rfl (l_agg eFromLabelTo h70402 rfl rfl)) (lg hF (g7_53 v71101))
   ·exact l_ov rfl rfl rfl rfl (v_loadF ty49 rfl (l_agg eFromLabelTo h70902 rfl rfl)) (lg hF (g7_50 v71101))
   ·refine l_op rfl rfl rfl (o_alloc (fid := 26) (zs := [hI 0, hI 0, hI 0]) 26006 rfl rfl ty49 rfl (fun v71201 => ?_))
    exact b_nil (lg hF (g7_23 v71101 v71201))
  have g7_57 : ∀ (v71101 : Nat), F [0, 1, 2, 3, 4, 5, 6, 7, 8, 11] (P1 [(4, hI a3), (5, .ptr 26005 v71101 0), E2, E5, (25, hI a3)] [(26005, v71101, .arr 3 49 [hI 0, hI 0, hI 0])]) := by
   intro v71101
   refine l_take (i := 9) hF rfl rfl rfl (v_idxF ty22 es22 rfl rfl (idx_lt h70902)) ?_
   exact lg hF (g7_53 v71101)
  have g7_62 : F [0, 1, 2, 3, 4, 6, 7, 8, 9, 10] (P1 [(4, hI a3), E4, E1] []) := by
   refine l_step hF rfl [5, 11, 12] rfl rfl ⟨?_, ?_, ?_, trivial⟩
   ·exact l_ov rfl rfl rfl rfl (v_loadF ty49 rfl (l_agg eFromLabelTo h70402 rfl rfl)) (lg hF (g7_63))
   ·refine l_op rfl rfl rfl (o_alloc (fid := 26) (zs := [hI 0, hI 0, hI 0]) 26005 rfl rfl ty49 rfl (fun v71101 => ?_))
    exact b_nil (lg hF (g7_50 v71101))
   ·refine l_op rfl rfl rfl (o_alloc (fid := 26) (zs := [hI 0, hI 0, hI 0]) 26006 rfl rfl ty49 rfl (fun v71201 => ?_))
    exact b_nil (lg hF (g7_36 v71201))
  have g7_65 : F [0, 1, 2, 3, 4, 5, 6, 7, 8, 9] (P1 [(4, hI a3), E2, E3] []) := by
   refine l_step hF rfl [10, 11, 12] rfl rfl ⟨?_, ?_, ?_, trivial⟩
   ·exact l_ov rfl rfl rfl rfl (v_loadF ty49 rfl (l_agg eFromLabelTo h70902 rfl rfl)) (lg hF (g7_63))
   ·refine l_op rfl rfl rfl (o_alloc (fid := 26) (zs := [hI 0, hI 0, hI 0]) 26005 rfl rfl ty49 rfl (fun v71101 => ?_))
    exact b_nil (lg hF (g7_53 v71101))
   ·refine l_op rfl rfl rfl (o_alloc (fid := 26) (zs := [hI 0, hI 0, hI 0]) 26006 rfl rfl ty49 rfl (fun v71201 => ?_))
    exact b_nil (lg hF (g7_39 v71201))
  have g7_15 : ∀ (v71101 : Nat) (v71201 : Nat), F [0, 2, 3, 6, 7, 8, 9, 11, 12] (P1 [(4, hI a3), (5, .ptr 26005 v71101 0), (6, .ptr 26006 v71201 0), E9, E7, E3] [(26005, v71101, .arr 3 49 [hI 0, hI 0, hI 0]), (26006, v71201, .arr 3 49 [hI 0, hI 0, hI 0])]) := by
   intro v71101 v71201
   refine l_step hF rfl [1, 10] rfl rfl ⟨?_, ?_, trivial⟩
   ·exact l_ov rfl rfl rfl rfl (v_loadF ty22 rfl (l_lit rfl rfl)) (lg hF (g7_16 v71101 v71201))
   ·exact l_ov rfl rfl rfl rfl (v_loadF ty49 rfl (l_agg eFromLabelTo h70902 rfl rfl)) (lg hF (g7_17 v71101 v71201))
  have g7_26 : ∀ (v71101 : Nat) (v71201 : Nat), F [0, 1, 2, 3, 4, 6, 8, 11, 12] (P1 [(4, hI a3), (5, .ptr 26005 v71101 0), (6, .ptr 26006 v71201 0), E4, E8, (25, hI a3)] [(26005, v71101, .arr 3 49 [hI 0, hI 0, hI 0]), (26006, v71201, .arr 3 49 [hI 0, hI 0, hI 0])]) := by
   intro v71101 v71201
   refine l_step hF rfl [5, 7] rfl rfl ⟨?_, ?_, trivial⟩
   ·exact l_ov rfl rfl rfl rfl (v_loadF ty49 rfl (l_agg eFromLabelTo h70402 rfl rfl)) (lg hF (g7_27 v71101 v71201))
   ·exact l_ov rfl rfl rfl rfl (v_loadF ty22 rfl (l_lit rfl rfl)) (lg hF (g7_28 v71101 v71201))
  have g7_33 : ∀ (v71201 : Nat), F [0, 1, 2, 3, 6, 7, 8, 9, 12] (P1 [(4, hI a3), (6, .ptr 26006 v71201 0), E6, E7, E3] [(26006, v71201, .arr 3 49 [hI 0, hI 0, hI 0])]) := by
   intro v71201
   refine l_take (i := 4) hF rfl rfl rfl (v_idxF ty22 es22 rfl rfl (idx_lt h70402)) ?_
   exact lg hF (g7_38 v71201)
  have g7_34 : ∀ (v71201 : Nat), F [0, 2, 3, 6, 7, 8, 9, 10, 12] (P1 [(4, hI a3), (6, .ptr 26006 v71201 0), E9, E7, E1] [(26006, v71201, .arr 3 49 [hI 0, hI 0, hI 0])]) := by
   intro v71201
   refine l_step hF rfl [1, 11] rfl rfl ⟨?_, ?_, trivial⟩
   ·exact l_ov rfl rfl rfl rfl (v_loadF ty22 rfl (l_lit rfl rfl)) (lg hF (g7_35 v71201))
   ·refine l_op rfl rfl rfl (o_alloc (fid := 26) (zs := [hI 0, hI 0, hI 0]) 26005 rfl rfl ty49 rfl (fun v71101 => ?_))
    exact b_nil (lg hF (g7_17 v71101 v71201))
  have g7_41 : ∀ (v71201 : Nat), F [0, 1, 2, 3, 4, 5, 6, 8, 12] (P1 [(4, hI a3), (6, .ptr 26006 v71201 0), E2, E8, (25, hI a3)] [(26006, v71201, .arr 3 49 [hI 0, hI 0, hI 0])]) := by
   intro v71201
   refine l_step hF rfl [7, 11] rfl rfl ⟨?_, ?_, trivial⟩
   ·exact l_ov rfl rfl rfl rfl (v_loadF ty22 rfl (l_lit rfl rfl)) (lg hF (g7_43 v71201))
   ·refine l_op rfl rfl rfl (o_alloc (fid := 26) (zs := [hI 0, hI 0, hI 0]) 26005 rfl rfl ty49 rfl (fun v71101 => ?_))
    exact b_nil (lg hF (g7_27 v71101 v71201))
  have g7_42 : ∀ (v71201 : Nat), F [0, 1, 2, 3, 4, 6, 7, 8, 12] (P1 [(4, hI a3), (6, .ptr 26006 v71201 0), E4, E5, (25, hI a3)] [(26006, v71201, .arr 3 49 [hI 0, hI 0, hI 0])]) := by
   intro v71201
   refine l_take (i := 9) hF rfl rfl rfl (v_idxF ty22 es22 rfl rfl (idx_lt h70902)) ?_
   exact lg hF (g7_38 v71201)
  have g7_47 : ∀ (v71101 : Nat), F [0, 1, 2, 3, 6, 7, 8, 9, 11] (P1 [(4, hI a3), (5, .ptr 26005 v71101 0), E6, E7, E3] [(26005, v71101, .arr 3 49 [hI 0, hI 0, hI 0])]) := by
   intro v71101
   refine l_take (i := 4) hF rfl rfl rfl (v_idxF ty22 es22 rfl rfl (idx_lt h70402)) ?_
   exact lg hF (g7_52 v71101)
  have g7_48 : ∀ (v71101 : Nat), F [0, 2, 3, 6, 7, 8, 9, 10, 11] (P1 [(4, hI a3), (5, .ptr 26005 v71101 0), E9, E7, E1] [(26005, v71101, .arr 3 49 [hI 0, hI 0, hI 0])]) := by
   intro v71101
   refine l_step hF rfl [1, 12] rfl rfl ⟨?_, ?_, trivial⟩
   ·exact l_ov rfl rfl rfl rfl (v_loadF ty22 rfl (l_lit rfl rfl)) (lg hF (g7_49 v71101))
   ·refine l_op rfl rfl rfl (o_alloc (fid := 26) (zs := [hI 0, hI 0, hI 0]) 26006 rfl rfl ty49 rfl (fun v71201 => ?_))
    exact b_nil (lg hF (g7_17 v71101 v71201))
  have g7_55 : ∀ (v71101 : Nat), F [0, 1, 2, 3, 4, 5, 6, 8, 11] (P1 [(4, hI a3), (5, .ptr 26005 v71101 0), E2, E8, (25, hI a3)] [(26005, v71101, .arr 3 49 [hI 0, hI 0, hI 0])]) := by
   intro v71101
   refine l_step hF rfl [7, 12] rfl rfl ⟨?_, ?_, trivial⟩
   ·exact l_ov rfl rfl rfl rfl (v_loadF ty22 rfl (l_lit rfl rfl)) (lg hF (g7_57 v71101))
   ·refine l_op rfl rfl rfl (o_alloc (fid := 26) (zs := [hI 0, hI 0, hI 0]) 26006 rfl rfl ty49 rfl (fun v71201 => ?_))
    exact b_nil (lg hF (g7_27 v71101 v71201))
  have g7_56 : ∀ (v71101 : Nat), F [0, 1, 2, 3, 4, 6, 7, 8, 11] (P1 [(4, hI a3), (5, .ptr 26005 v71101 0), E4, E5, (25, hI a3)] [(26005, v71101, .arr 3 49 [hI 0, hI 0, hI 0])]) := by
   intro v71101
   refine l_take (i := 9) hF rfl rfl rfl (v_idxF ty22 es22 rfl rfl (idx_lt h70902)) ?_
   exact lg hF (g7_52 v71101)
  have g7_61 : F [0, 1, 2, 3, 6, 7, 8, 9, 10] (P1 [(4, hI a3), E6, E7, E1] []) := by
   refine l_take (i := 4) hF rfl rfl rfl (v_idxF ty22 es22 rfl rfl (idx_lt h70402)) ?_
   exact lg hF (g7_62)
  have g7_64 : F [0, 1, 2, 3, 4, 6, 7, 8, 9] (P1 [(4, hI a3), E4, E3] []) := by
   refine l_step hF rfl [5, 10, 11, 12] rfl rfl ⟨?_, ?_, ?_, ?_, trivial⟩
   ·exact l_ov rfl rfl rfl rfl (v_loadF ty49 rfl (l_agg eFromLabelTo h70402 rfl rfl)) (lg hF (g7_65))
   ·exact l_ov rfl rfl rfl rfl (v_loadF ty49 rfl (l_agg eFromLabelTo h70902 rfl rfl)) (lg hF (g7_62))
   ·refine l_op rfl rfl rfl (o_alloc (fid := 26) (zs := [hI 0, hI 0, hI 0]) 26005 rfl rfl ty49 rfl (fun v71101 => ?_))
    exact b_nil (lg hF (g7_52 v71101))
   ·refine l_op rfl rfl rfl (o_alloc (fid := 26) (zs := [hI 0, hI 0, hI 0]) 26006 rfl rfl ty49 rfl (fun v71201 => ?_))
    exact b_nil (lg hF (g7_38 v71201))
  have g7_69 : F [0, 1, 2, 3, 4, 5, 6, 7, 8] (P1 [(4, hI a3), E2, E5, (25, hI a3)] []) := by
   refine l_take (i := 9) hF rfl rfl rfl (v_idxF ty22 es22 rfl rfl (idx_lt h70902)) ?_
   exact lg hF (g7_65)
  have g7_13 : ∀ (v71101 : Nat) (v71201 : Nat), F [0, 1, 2, 3, 6, 8, 11, 12] (P1 [(4, hI a3), (5, .ptr 26005 v71101 0), (6, .ptr 26006 v71201 0), E6, E7, E8, (25, hI a3)] [(26005, v71101, .arr 3 49 [hI 0, hI 0, hI 0]), (26006, v71201, .arr 3 49 [hI 0, hI 0, hI 0])]) := by
   intro v71101 v71201
   refine l_take (i := 4) hF rfl rfl rfl (v_idxF ty22 es22 rfl rfl (idx_lt h70402)) ?_
   exact lg hF (g7_26 v71101 v71201)
  have g7_14 : ∀ (v71101 : Nat) (v71201 : Nat), F [0, 2, 3, 6, 7, 8, 11, 12] (P1 [(4, hI a3), (5, .ptr 26005 v71101 0), (6, .ptr 26006 v71201 0), E9, E7, E5, (25, hI a3)] [(26005, v71101, .arr 3 49 [hI 0, hI 0, hI 0]), (26006, v71201, .arr 3 49 [hI 0, hI 0, hI 0])]) := by
   intro v71101 v71201
   refine l_take (i := 9) hF rfl rfl rfl (v_idxF ty22 es22 rfl rfl (idx_lt h70902)) ?_
   exact lg hF (g7_15 v71101 v71201)
  have g7_32 : ∀ (v71201 : Nat), F [0, 2, 3, 6, 7, 8, 9, 12] (P1 [(4, hI a3), (6, .ptr 26006 v71201 0), E9, E7, E3] [(26006, v71201, .arr 3 49 [hI 0, hI 0, hI 0])]) := by
   intro v71201
   refine l_step hF rfl [1, 10, 11] rfl rfl ⟨?_, ?_, ?_, trivial⟩
   ·exact l_ov rfl rfl rfl rfl (v_loadF ty22 rfl (l_lit rfl rfl)) (lg hF (g7_33 v71201))
   ·exact l_ov rfl rfl rfl rfl (v_loadF ty49 rfl (l_agg eFromLabelTo h70902 rfl rfl)) (lg hF (g7_34 v71201))
   ·refine l_op rfl rfl rfl (o_alloc (fid := 26) (zs := [hI 0, hI 0, hI 0]) 26005 rfl rfl ty49 rfl (fun v71101 => ?_))
    exact b_nil (lg hF (g7_15 v71101 v71201))
  have g7_40 : ∀ (v71201 : Nat), F [0, 1, 2, 3, 4, 6, 8, 12] (P1 [(4, hI a3), (6, .ptr 26006 v71201 0), E4, E8, (25, hI a3)] [(26006, v71201, .arr 3 49 [hI 0, hI 0, hI 0])]) := by
   intro v71201
   refine l_step hF rfl [5, 7, 11] rfl rfl ⟨?_, ?_, ?_, trivial⟩
   ·exact l_ov rfl rfl rfl rfl (v_loadF ty49 rfl (l_agg eFromLabelTo h70402 rfl rfl)) (lg hF (g7_41 v71201))
   ·exact l_ov rfl rfl rfl rfl (v_loadF ty22 rfl (l_lit rfl rfl)) (lg hF (g7_42 v71201))
   ·refine l_op rfl rfl rfl (o_alloc (fid := 26) (zs := [hI 0, hI 0, hI 0]) 26005 rfl rfl ty49 rfl (fun v71101 => ?_))
    exact b_nil (lg hF (g7_26 v71101 v71201))
  have g7_46 : ∀ (v71101 : Nat), F [0, 2, 3, 6, 7, 8, 9, 11] (P1 [(4, hI a3), (5, .ptr 26005 v71101 0), E9, E7, E3] [(26005, v71101, .arr 3 49 [hI 0, hI 0, hI 0])]) := by
   intro v71101
   refine l_step hF rfl [1, 10, 12] rfl rfl ⟨?_, ?_, ?_, trivial⟩
   ·exact l_ov rfl rfl rfl rfl (v_loadF ty22 rfl (l_lit rfl rfl)) (lg hF (g7_47 v71101))
   ·exact l_ov rfl rfl rfl rfl (v_loadF ty49 rfl (l_agg eFromLabelTo h70902 rfl rfl)) (lg hF (g7_48 v71101))
   ·refine l_op rfl rfl rfl (o_alloc (fid := 26) (zs := [hI 0, hI 0, hI 0]) 26006 rfl rfl ty49 rfl (fun v71201 => ?_))
    exact b_nil (lg hF (g7_15 v71101 v71201))
  have g7_54 : ∀ (v71101 : Nat), F [0, 1, 2, 3, 4, 6, 8, 11] (P1 [(4, hI a3), (5, .ptr 26005 v71101 0), E4, E8, (25, hI a3)] [(26005, v71101, .arr 3 49 [hI 0, hI 0, hI 0])]) := by
   intro v71101
   refine l_step hF rfl [5, 7, 12] rfl rfl ⟨?_, ?_, ?_, trivial⟩
   ·exact l_ov rfl rfl rfl rfl (v_loadF ty49 rfl (l_agg eFromLabelTo h70402 rfl rfl)) (lg hF (g7_55 v71101))
   ·exact l_ov rfl rfl rfl rfl (v_loadF ty22 rfl (l_lit rfl rfl)) (lg hF (g7_56 v71101))
   ·refine l_op rfl rfl rfl (o_alloc (fid := 26) (zs := [hI 0, hI 0, hI 0]) 26006 rfl rfl ty49 rfl (fun v71201 => ?_))
    exact b_nil (lg hF (g7_26 v71101 v71201))
  have g7_59 : F [0, 1, 2, 3, 6, 7, 8, 9] (P1 [(4, hI a3), E6, E7, E3] []) := by
   refine l_take (i := 4) hF rfl rfl rfl (v_idxF ty22 es22 rfl rfl (idx_lt h70402)) ?_
   exact lg hF (g7_64)
  have g7_60 : F [0, 2, 3, 6, 7, 8, 9, 10] (P1 [(4, hI a3), E9, E7, E1] []) := by
   refine l_step hF rfl [1, 11, 12] rfl rfl ⟨?_, ?_, ?_, trivial⟩
   ·exact l_ov rfl rfl rfl rfl (v_loadF ty22 rfl (l_lit rfl rfl)) (lg hF (g7_61))
   ·refine l_op rfl rfl rfl (o_alloc (fid := 26) (zs := [hI 0, hI 0, hI 0]) 26005 rfl rfl ty49 rfl (fun v71101 => ?_))
    exact b_nil (lg hF (g7_48 v71101))
   ·refine l_op rfl rfl rfl (o_alloc (fid := 26) (zs := [hI 0, hI 0, hI 0]) 26006 rfl rfl ty49 rfl (fun v71201 => ?_))
    exact b_nil (lg hF (g7_34 v71201))
  have g7_67 : F [0, 1, 2, 3, 4, 5, 6, 8] (P1 [(4, hI a3), E2, E8, (25, hI a3)] []) := by
   refine l_step hF rfl [7, 11, 12] rfl rfl ⟨?_, ?_, ?_, trivial⟩
   ·exact l_ov rfl rfl rfl rfl (v_loadF ty22 rfl (l_lit rfl rfl)) (lg hF (g7_69))
   ·refine l_op rfl rfl rfl (o_alloc (fid := 26) (zs := [hI 0, hI 0, hI 0]) 26005 rfl rfl ty49 rfl (fun v71101 => ?_))
    exact b_nil (lg hF (g7_55 v71101))
   ·refine l_op rfl rfl rfl (o_alloc (fid := 26) (zs := [hI 0, hI 0, hI 0]) 26006 rfl rfl ty49 rfl (fun v71201 => ?_))
    exact b_nil (lg hF (g7_41 v71201))
  have g7_68 : F [0, 1, 2, 3, 4, 6, 7, 8] (P1 [(4, hI a3), E4, E5, (25, hI a3)] []) := by
   refine l_take (i := 9) hF rfl rfl rfl (v_idxF ty22 es22 rfl rfl (idx_lt h70902)) ?_
   exact lg hF (g7_64)
  have g7_10 : ∀ (v71201 : Nat), F [0, 1, 2, 3, 6, 8, 12] (P1 [(4, hI a3), (6, .ptr 26006 v71201 0), E6, E7, E8, (25, hI a3)] [(26006, v71201, .arr 3 49 [hI 0, hI 0, hI 0])]) := by
   intro v71201
   refine l_take (i := 4) hF rfl rfl rfl (v_idxF ty22 es22 rfl rfl (idx_lt h70402)) ?_
   exact lg hF (g7_40 v71201)
  have g7_11 : ∀ (v71201 : Nat), F [0, 2, 3, 6, 7, 8, 12] (P1 [(4, hI a3), (6, .ptr 26006 v71201 0), E9, E7, E5, (25, hI a3)] [(26006, v71201, .arr 3 49 [hI 0, hI 0, hI 0])]) := by
   intro v71201
   refine l_take (i := 9) hF rfl rfl rfl (v_idxF ty22 es22 rfl rfl (idx_lt h70902)) ?_
   exact lg hF (g7_32 v71201)
  have g7_12 : ∀ (v71101 : Nat) (v71201 : Nat), F [0, 2, 3, 6, 8, 11, 12] (P1 [(4, hI a3), (5, .ptr 26005 v71101 0), (6, .ptr 26006 v71201 0), E9, E7, E8, (25, hI a3)] [(26005, v71101, .arr 3 49 [hI 0, hI 0, hI 0]), (26006, v71201, .arr 3 49 [hI 0, hI 0, hI 0])]) := by
   intro v71101 v71201
   refine l_step hF rfl [1, 7] rfl rfl ⟨?_, ?_, trivial⟩
   ·exact l_ov rfl rfl rfl rfl (v_loadF ty22 rfl (l_lit rfl rfl)) (lg hF (g7_13 v71101 v71201))
   ·exact l_ov rfl rfl rfl rfl (v_loadF ty22 rfl (l_lit rfl rfl)) (lg hF (g7_14 v71101 v71201))
  have g7_44 : ∀ (v71101 : Nat), F [0, 1, 2, 3, 6, 8, 11] (P1 [(4, hI a3), (5, .ptr 26005 v71101 0), E6, E7, E8, (25, hI a3)] [(26005, v71101, .arr 3 49 [hI 0, hI 0, hI 0])]) := by
   intro v71101
   refine l_take (i := 4) hF rfl rfl rfl (v_idxF ty22 es22 rfl rfl (idx_lt h70402)) ?_
   exact lg hF (g7_54 v71101)
  have g7_45 : ∀ (v71101 : Nat), F [0, 2, 3, 6, 7, 8, 11] (P1 [(4, hI a3), (5, .ptr 26005 v71101 0), E9, E7, E5, (25, hI a3)] [(26005, v71101, .arr 3 49 [hI 0, hI 0, hI 0])]) := by
   intro v71101
   refine l_take (i := 9) hF rfl rfl rfl (v_idxF ty22 es22 rfl rfl (idx_lt h70902)) ?_
   exact lg hF (g7_46 v71101)
  have g7_58 : F [0, 2, 3, 6, 7, 8, 9] (P1 [(4, hI a3), E9, E7, E3] []) := by
   refine l_step hF rfl [1, 10, 11, 12] rfl rfl ⟨?_, ?_, ?_, ?_, trivial⟩
   ·exact l_ov rfl rfl rfl rfl (v_loadF ty22 rfl (l_lit rfl rfl)) (lg hF (g7_59))
   ·exact l_ov rfl rfl rfl rfl (v_loadF ty49 rfl (l_agg eFromLabelTo h70902 rfl rfl)) (lg hF (g7_60))
   ·refine l_op rfl rfl rfl (o_alloc (fid := 26) (zs := [hI 0, hI 0, hI 0]) 26005 rfl rfl ty49 rfl (fun v71101 => ?_))
    exact b_nil (lg hF (g7_46 v71101))
   ·refine l_op rfl rfl rfl (o_alloc (fid := 26) (zs := [hI 0, hI 0, hI 0]) 26006 rfl rfl ty49 rfl (fun v71201 => ?_))
    exact b_nil (lg hF (g7_32 v71201))
  have g7_66 : F [0, 1, 2, 3, 4, 6, 8] (P1 [(4, hI a3), E4, E8, (25, hI a3)] []) := by
   refine l_step hF rfl [5, 7, 11, 12] rfl rfl ⟨?_, ?_, ?_, ?_, trivial⟩
   ·exact l_ov rfl rfl rfl rfl (v_loadF ty49 rfl (l_agg eFromLabelTo h70402 rfl rfl)) (lg hF (g7_67))
   ·exact l_ov rfl rfl rfl rfl (v_loadF ty22 rfl (l_lit rfl rfl)) (lg hF (g7_68))
   ·refine l_op rfl rfl rfl (o_alloc (fid := 26) (zs := [hI 0, hI 0, hI 0]) 26005 rfl rfl ty49 rfl (fun v71101 => ?_))
    exact b_nil (lg hF (g7_54 v71101))
   ·refine l_op rfl rfl rfl (o_alloc (fid := 26) (zs := [hI 0, hI 0, hI 0]) 26006 rfl rfl ty49 rfl (fun v71201 => ?_))
    exact b_nil (lg hF (g7_40 v71201))
  have g7_6 : F [0, 1, 2, 3, 6, 8] (P1 [(4, hI a3), E6, E7, E8, (25, hI a3)] []) := by
   refine l_take (i := 4) hF rfl rfl rfl (v_idxF ty22 es22 rfl rfl (idx_lt h70402)) ?_
   exact lg hF (g7_66)
  have g7_7 : F [0, 2, 3, 6, 7, 8] (P1 [(4, hI a3), E9, E7, E5, (25, hI a3)] []) := by
   refine l_take (i := 9) hF rfl rfl rfl (v_idxF ty22 es22 rfl rfl (idx_lt h70902)) ?_
   exact lg hF (g7_58)
  have g7_8 : ∀ (v71101 : Nat), F [0, 2, 3, 6, 8, 11] (P1 [(4, hI a3), (5, .ptr 26005 v71101 0), E9, E7, E8, (25, hI a3)] [(26005, v71101, .arr 3 49 [hI 0, hI 0, hI 0])]) := by
   intro v71101
   refine l_step hF rfl [1, 7, 12] rfl rfl ⟨?_, ?_, ?_, trivial⟩
   ·exact l_ov rfl rfl rfl rfl (v_loadF ty22 rfl (l_lit rfl rfl)) (lg hF (g7_44 v71101))
   ·exact l_ov rfl rfl rfl rfl (v_loadF ty22 rfl (l_lit rfl rfl)) (lg hF (g7_45 v71101))
   ·refine l_op rfl rfl rfl (o_alloc (fid := 26) (zs := [hI 0, hI 0, hI 0]) 26006 rfl rfl ty49 rfl (fun v71201 => ?_))
    exact b_nil (lg hF (g7_12 v71101 v71201))
  have g7_9 : ∀ (v71201 : Nat), F [0, 2, 3, 6, 8, 12] (P1 [(4, hI a3), (6, .ptr 26006 v71201 0), E9, E7, E8, (25, hI a3)] [(26006, v71201, .arr 3 49 [hI 0, hI 0, hI 0])]) := by
   intro v71201
   refine l_step hF rfl [1, 7, 11] rfl rfl ⟨?_, ?_, ?_, trivial⟩
   ·exact l_ov rfl rfl rfl rfl (v_loadF ty22 rfl (l_lit rfl rfl)) (lg hF (g7_10 v71201))
   ·exact l_ov rfl rfl rfl rfl (v_loadF ty22 rfl (l_lit rfl rfl)) (lg hF (g7_11 v71201))
   ·refine l_op rfl rfl rfl (o_alloc (fid := 26) (zs := [hI 0, hI 0, hI 0]) 26005 rfl rfl ty49 rfl (fun v71101 => ?_))
    exact b_nil (lg hF (g7_12 v71101 v71201))
  have g7_5 : F [0, 2, 3, 6, 8] (P1 [(4, hI a3), E9, E7, E8, (25, hI a3)] []) := by
   refine l_step hF rfl [1, 7, 11, 12] rfl rfl ⟨?_, ?_, ?_, ?_, trivial⟩
   ·exact l_ov rfl rfl rfl rfl (v_loadF ty22 rfl (l_lit rfl rfl)) (lg hF (g7_6))
   ·exact l_ov rfl rfl rfl rfl (v_loadF ty22 rfl (l_lit rfl rfl)) (lg hF (g7_7))
   ·refine l_op rfl rfl rfl (o_alloc (fid := 26) (zs := [hI 0, hI 0, hI 0]) 26005 rfl rfl ty49 rfl (fun v71101 => ?_))
    exact b_nil (lg hF (g7_8 v71101))
   ·refine l_op rfl rfl rfl (o_alloc (fid := 26) (zs := [hI 0, hI 0, hI 0]) 26006 rfl rfl ty49 rfl (fun v71201 => ?_))
    exact b_nil (lg hF (g7_9 v71201))
  have g7_4 : F [0, 2, 3, 6] (P1 [(4, hI a3), E9, E7, E8] []) := by
   refine l_take (i := 8) hF rfl rfl rfl (mv_val rfl rfl).2 ?_
   exact lg hF (g7_5)
  have g7_3 : F [0, 2, 3] (P1 [(4, hI a3), E9, E7] []) := by
   refine l_take (i := 6) hF rfl rfl rfl (v_fieldAddrF fo24_2 rfl) ?_
   exact lg hF (g7_4)
  have g7_2 : F [0, 2] (P1 [(4, hI a3), E9, (19, hI a3)] []) := by
   refine l_takeW (i := 3) hF rfl rfl rfl (f_bin rfl rfl rfl b_sub rfl) ?_
   exact lg hF (g7_3)
  have g7_1 : F [0] (P1 [(4, hI a3), E9] []) := by
   refine l_take (i := 2) hF rfl rfl rfl (mv_val rfl rfl).2 ?_
   exact lg hF (g7_2)
  have g7_0 : F [] (P1 [(4, hI a3)] []) := by
   refine l_take (i := 0) hF rfl rfl rfl (v_fieldAddrF fo24_2 rfl) ?_
   exact lg hF (g7_1)
  exact g7_0
 obtain ⟨hc, h⟩ := cF hc h
 refine AW.exit ?_
 exact to_L ⟨(), (), h, rfl⟩
end Go.AW

namespace Go.AW
open Go Go.Proofs
set_option linter.unusedVariables false
abbrev zA : List HV := [hI 0, .v (.slice none 0 0)]
abbrev hpA (v2 u7 ov : Nat) (L : Int) (n ho : Nat) (hd : List HV) (rs : Rws) : Heap := (10002, v2, .arr 2 37 zA) :: (10007, u7, .arr 2 37 [hI L, .ar 10038 ov 1 0 n]) :: (10038, ho, .arr 1 27 hd) :: rowsO 0 rs
theorem hpA_rid {v2 u7 ov : Nat} {L : Int} {n ho : Nat} {hd : List HV} {rs : Rws} (i : Nat) : hget (hpA v2 u7 ov L n ho hd rs) (rid i) = hget (rowsO 0 rs) (rid i) := by
  rw [hget_tl (by unfold rid; omega), hget_tl (by unfold rid; omega), hget_tl (by unfold rid; omega)]
theorem hp_call {v2 u7 ov vr : Nat} {L : Int} {n ho : Nat} {hd : List HV} {rs : Rws} {l : List Int} : ∀ id x, hget (hpA v2 u7 ov L n ho hd (rs ++ [(vr, l)])) id = some x → hget ((rid rs.length, vr, .arr 1 3 (eInt.E l)) :: hpA v2 u7 ov L n ho hd rs) id = some x := by
  refine leH_get ⟨?_, ?_, ?_, leH_rows _ 0 fun i v' l' hi => ?_⟩
  · rw [hget_tl (by unfold rid; omega)]; rfl
  · rw [hget_tl (by unfold rid; omega)]; rfl
  · rw [hget_tl (by unfold rid; omega)]; rfl
  · have h1 := rows_le (rs := rs) (v := vr) (l := l) (H := []) (fun _ => rfl) (rid (0 + i)) _ (hget_rows 0 hi)
    by_cases e : i = rs.length
    · subst e
      rw [Nat.zero_add] at h1 ⊢
      rw [hget_hd] at h1 ⊢
      exact h1
    · rw [hget_tl (fun x => by have := rid_inj x; omega)] at h1 ⊢
      rw [Nat.zero_add] at h1 ⊢
      rw [hpA_rid]
      exact h1
theorem hp_app {v2 u7 ov ov2 : Nat} {L : Int} {n ho : Nat} {hd hd2 : List HV} {rs : Rws} : ∀ id x, hget (hpA v2 u7 ov L n ov2 hd2 rs) id = some x → hget ((10038, ov2, .arr 1 27 hd2) :: hpA v2 u7 ov L n ho hd rs) id = some x := by
  refine leH_get ⟨rfl, rfl, rfl, leH_rows _ 0 fun i v' l' hi => ?_⟩
  rw [hget_tl (by unfold rid; omega), Nat.zero_add, hpA_rid]
  have := hget_rows 0 hi
  rwa [Nat.zero_add] at this
theorem hp_sto {v2 u7 ov ov2 : Nat} {L : Int} {n n2 ho : Nat} {hd : List HV} {rs : Rws} : ∀ id x, hget (hpA v2 u7 ov2 L n2 ho hd rs) id = some x → hget ((10007, u7, .arr 2 37 [hI L, .ar 10038 ov2 1 0 n2]) :: hpA v2 u7 ov L n ho hd rs) id = some x := by
  refine leH_get ⟨rfl, rfl, rfl, leH_rows _ 0 fun i v' l' hi => ?_⟩
  rw [hget_tl (by unfold rid; omega), Nat.zero_add, hpA_rid]
  have := hget_rows 0 hi
  rwa [Nat.zero_add] at this
theorem frz_tab {D : Heap} {ov : Nat} {rs : Rws} (h : hget D 10038 = some (ov, .arr 1 27 (hdr 0 rs))) (hr : ∀ i v l, rs[i]? = some (v, l) → hget D (rid i) = some (v, .arr 1 3 (eInt.E l))) : frz 3 D (HV.ar 10038 ov 1 0 (hdr 0 rs).length) = slE (eSl eInt) (rs.map (·.2)) := by
  have e := frz_rows (D := D) rs 0 fun i v l hi => by rw [Nat.zero_add]; exact hr i v l hi
  rw [frz, h]
  simp only
  rw [if_pos ⟨trivial, by omega⟩, List.drop_zero, Nat.mul_one, List.take_length, e, hdr_len]
  show HV.sl 1 rs.length _ = HV.sl 1 (rs.map (·.2)).length _
  rw [List.length_map]
  rfl
theorem noneH_rows {o : AObj} {v : Nat} : ∀ (rs : Rws) (k : Nat), noneH [(10002, v, o)] (rowsO k rs)
  | [], _ => trivial
  | (u, l) :: t, k => ⟨by simp only [hget]; rw [if_neg (by unfold rid; omega)], noneH_rows t (k + 1)⟩
theorem leH_tab {H : Heap} {rs : Rws} (h : ∀ i, hget H (rid i) = hget (rowsO 0 rs) (rid i)) : leH H (rowsO 0 rs) := leH_rows _ 0 fun i v l hi => by
  rw [Nat.zero_add, h]
  have := hget_rows 0 hi
  rwa [Nat.zero_add] at this
set_option maxHeartbeats 4000000 in
set_option maxRecDepth 100000 in
theorem w_subset_Complete {p0 : TLabelsStatesEdges} {r : (Int × List (List Int)) × List Int × Int} (h : m_subset_Complete p0 = some r) : Pure Tryz.prog 10 [gA p0] (· = HV.tup [.agg [hI r.1.1, slE (eSl eInt) r.1.2], slE eInt r.2.1, hI r.2.2]) := by
  unfold m_subset_Complete at h
  refine Pure.of_body Tryz.func10 rfl rfl (lb rfl) fun hf => ?_
  unfold Tryz.f10
  dsimp only [enumS, Nat.reduceAdd]
  refine AW.rgs rfl fun K hK => b_op rfl (o_box rfl rfl rfl ?_)
  refine b_op rfl (o_alloc (fid := 10) (zs := zA) 10002 rfl rfl ty37 rfl (fun v2 => ?_))
  refine mv rfl rfl (mv rfl rfl ?_)
  let O1 : Nat × Nat × AObj := (10002, v2, .arr 2 37 zA)
  let P1 : ASf := fun t H => ⟨(1, gF p0) :: (2, .ptr 10002 v2 0) :: t, O1 :: H⟩
  refine bf hK (P1 [] []) ?_
  refine AW.rgs rfl fun K hK => bv rfl (v_loadF ty24 rfl (l_litA rfl (lb rfl) rfl)) ?_
  obtain ⟨x, hx, h⟩ := bS h
  refine b_op rfl (o_call rfl rfl rfl rfl (ACallD.pure0 (w_graph_Deterministic hx)) ?_)
  refine mv rfl rfl (bv rfl (v_extract rfl rfl) (bv rfl (v_extract rfl rfl) (mv rfl rfl (mv rfl rfl ?_))))
  refine bf hK (P1 [(5, .bool x.1), (6, hI x.2)] []) ?_
  refine AW.seq ?_
  refine AW.rgs rfl fun K hK => mv rfl rfl (bv rfl (v_bin rfl rfl b_neq) ?_)
  refine bf hK (P1 [(5, .bool x.1), (6, hI x.2), (16, .bool (decide (x.2 ≠ 0)))] []) ?_
  refine AW.cond rfl (fun hc => ?_) (fun hc => ?_)
  · obtain ⟨hc, h⟩ := cT hc h
    refine AW.rgs rfl fun K hK => b_op rfl (o_build (cs := zA) rfl (bl_of ty37 rfl rfl rfl rfl) ?_)
    refine mv rfl rfl ?_
    refine b_op rfl (o_store (cs := zA) (zs := zA) rfl rfl rfl ty37 rfl rfl rfl rfl rfl ?_)
    refine mv rfl rfl (mv rfl rfl ?_)
    refine bf hK ⟨[(2, .ptr 10002 v2 0), (3, .v (.slice none 0 0)), (4, hI x.2)], [O1]⟩ ?_
    refine AW.to (to_weak ⟨[(2, .ptr 10002 v2 0), (3, slE eInt ([] : List Int)), (4, hI x.2)], [O1]⟩ ⟨⟨_, rfl, .refl _⟩, ⟨_, rfl, .nil _⟩, ⟨_, rfl, .refl _⟩, trivial⟩ ⟨rfl, trivial⟩ ?_)
    refine AW.to (to_cells 10002 v2 (ds := [hI 0, slE (eSl eInt) ([] : List (List Int))]) rfl (.cons (.refl _) <| .cons (.nil _) <| .nil) ?_)
    refine AW.ret ?_
    have h := Option.some.inj h
    subst h
    exact ret_pure (hs := [.agg [hI 0, slE (eSl eInt) ([] : List (List Int))], slE eInt ([] : List Int), hI x.2]) (.inr rfl) (resP ty37 rfl rfl (l_litA rfl (lb rfl) rfl) (resT rfl (resT rfl rfl))) rfl ⟨⟨trivial, (clean_slE fun _ _ => ⟨(clean_slE fun _ _ => ⟨trivial, trivial⟩), trivial⟩), trivial⟩, (clean_slE fun _ _ => ⟨trivial, trivial⟩), trivial, trivial⟩
  obtain ⟨hc, h⟩ := cF hc h
  refine AW.skip ?_
  refine AW.seq ?_
  refine AW.rgs rfl fun K hK => mv rfl rfl (bv rfl (v_not rfl) ?_)
  refine bf hK (P1 [(20, .bool (!x.1))] []) ?_
  refine AW.cond rfl (fun hc => ?_) (fun hc => ?_)
  · have h := ifT hc h
    refine AW.rgs rfl fun K hK => b_op rfl (o_build (cs := zA) rfl (bl_of ty37 rfl rfl rfl rfl) ?_)
    refine b_op rfl (o_store (cs := zA) (zs := zA) rfl rfl rfl ty37 rfl rfl rfl rfl rfl ?_)
    refine mv rfl rfl (mv rfl rfl ?_)
    refine bf hK ⟨[(2, .ptr 10002 v2 0), (3, .v (.slice none 0 0)), (4, hI 8)], [O1]⟩ ?_
    refine AW.to (to_weak ⟨[(2, .ptr 10002 v2 0), (3, slE eInt ([] : List Int)), (4, hI 8)], [O1]⟩ ⟨⟨_, rfl, .refl _⟩, ⟨_, rfl, .nil _⟩, ⟨_, rfl, .refl _⟩, trivial⟩ ⟨rfl, trivial⟩ ?_)
    refine AW.to (to_cells 10002 v2 (ds := [hI 0, slE (eSl eInt) ([] : List (List Int))]) rfl (.cons (.refl _) <| .cons (.nil _) <| .nil) ?_)
    refine AW.ret ?_
    have h := Option.some.inj h
    subst h
    exact ret_pure (hs := [.agg [hI 0, slE (eSl eInt) ([] : List (List Int))], slE eInt ([] : List Int), hI 8]) (.inr rfl) (resP ty37 rfl rfl (l_litA rfl (lb rfl) rfl) (resT rfl (resT rfl rfl))) rfl ⟨⟨trivial, (clean_slE fun _ _ => ⟨(clean_slE fun _ _ => ⟨trivial, trivial⟩), trivial⟩), trivial⟩, (clean_slE fun _ _ => ⟨trivial, trivial⟩), trivial, trivial⟩
  have h := ifF (bF' hc) h
  refine AW.skip ?_
  by_cases hok : cplOk p0
  case neg => rw [if_neg hok] at h; cases h
  rw [if_pos hok] at h
  obtain ⟨L0, S0, E⟩ := p0
  obtain ⟨⟨hl0, hl1⟩, ⟨hs0, hs1⟩, hE, hed⟩ := hok
  simp only at hl0 hl1 hs0 hs1 hE hed h
  obtain ⟨Ln, rfl⟩ := Int.eq_ofNat_of_zero_le hl0
  obtain ⟨Sn, rfl⟩ := Int.eq_ofNat_of_zero_le hs0
  clear hf hx hl0 hs0
  have hLn : Ln ≤ 1000000 := by omega
  refine AW.rgs rfl fun K hK => bv rfl (v_fieldAddrF fo24_0 rfl) (bv rfl (v_loadF ty3 rfl (l_lit rfl rfl)) ?_)
  refine b_op rfl (o_build (cs := [hI (Ln : Int), .v (.slice none 0 0)]) rfl (bl_of ty37 rfl rfl rfl rfl) ?_)
  refine b_op rfl (o_alloc (fid := 10) (zs := zA) 10007 rfl rfl ty37 rfl (fun u7 => ?_))
  refine b_op rfl (o_store (cs := [hI (Ln : Int), .v (.slice none 0 0)]) (zs := [hI (Ln : Int), .v (.slice none 0 0)]) rfl rfl rfl ty37 rfl rfl rfl rfl rfl ?_)
  refine bf hK ⟨[(1, .fptr [hI (Ln : Int), hI (Sn : Int), slE eFromLabelTo E] 0), (2, .ptr 10002 v2 0), (7, .ptr 10007 u7 0)], [O1, (10007, u7, .arr 2 37 [hI (Ln : Int), .v (.slice none 0 0)])]⟩ ?_
  refine AW.to (to_ownC 10038 10007 u7 2 1 1 27 37 rfl rfl (by decide) fun ov0 => ?_)
  refine AW.to (to_le (s' := ⟨[(1, .fptr [hI (Ln : Int), hI (Sn : Int), slE eFromLabelTo E] 0), (2, .ptr 10002 v2 0), (7, .ptr 10007 u7 0)], hpA v2 u7 ov0 (Ln : Int) 0 ov0 (hdr 0 []) []⟩) ⟨leS_get ⟨rfl, rfl, rfl, trivial⟩, leH_get ⟨rfl, rfl, rfl, trivial⟩⟩ ?_)
  refine AW.seq ?_
  refine AW.rgs rfl fun K hK => bv rfl (v_fieldAddrF fo24_1 rfl) (bv rfl (v_loadF ty3 rfl (l_lit rfl rfl)) (mv rfl rfl ?_))
  refine b_nil (hK _ (AW.to (to_le (s' := ⟨[(1, .fptr [hI (Ln : Int), hI (Sn : Int), slE eFromLabelTo E] 0), (2, .ptr 10002 v2 0), (7, .ptr 10007 u7 0), (26, hI (Sn : Int)), (27, hI 0)], hpA v2 u7 ov0 (Ln : Int) 0 ov0 (hdr 0 []) []⟩) ⟨leS_get ⟨rfl, rfl, rfl, rfl, rfl, trivial⟩, fun _ _ h => h⟩ ?_)))
  refine AW.block ?_
  refine AW.loopS (fun a : Nat × Rws => ⟨[(1, .fptr [hI (Ln : Int), hI (Sn : Int), slE eFromLabelTo E] 0), (2, .ptr 10002 v2 0), (7, .ptr 10007 u7 0), (26, hI (Sn : Int)), (27, hI (a.2.length : Int))], hpA v2 u7 a.1 (Ln : Int) (hdr 0 a.2).length a.1 (hdr 0 a.2) a.2⟩)
    (fun a => a.2.length ≤ Sn ∧ a.2.map (·.2) = List.replicate a.2.length (List.replicate Ln (Sn : Int))) (fun a => Sn - a.2.length) (ov0, []) (AS.le_refl _) ⟨by simp, rfl⟩ ?_
  rintro ⟨ov, rs⟩ ⟨hrl, hrs⟩
  simp only at hrl hrs
  refine AW.rgs rfl fun K hK => bv rfl (v_bin rfl rfl b_lss) ?_
  refine b_nil (hK _ (AW.to (to_le (s' := ⟨[(1, .fptr [hI (Ln : Int), hI (Sn : Int), slE eFromLabelTo E] 0), (2, .ptr 10002 v2 0), (7, .ptr 10007 u7 0), (26, hI (Sn : Int)), (27, hI (rs.length : Int)), (28, .bool (decide ((rs.length : Int) < (Sn : Int))))], hpA v2 u7 ov (Ln : Int) (hdr 0 rs).length ov (hdr 0 rs) rs⟩) ⟨leS_get ⟨rfl, rfl, rfl, rfl, rfl, rfl, trivial⟩, fun _ _ h => h⟩ ?_)))
  have hfit : fits 24 ((hdr 0 rs).length + [hI 0].length) := by rw [hdr_len]; exact ⟨by simp; omega, by simp only [maxLen, List.length_singleton]; omega⟩
  refine AW.cseq rfl (fun hc => ?_) (fun hc => ?_)
  · have hc := of_decide_eq_true hc
    refine AW.skip ?_
    refine AW.seq (AW.block ?_)
    refine AW.dl follows fun K hK F hF => ?_
    refine l_go (L' := []) hF rfl (s' := ⟨[(1, .fptr [hI (Ln : Int), hI (Sn : Int), slE eFromLabelTo E] 0), (2, .ptr 10002 v2 0), (7, .ptr 10007 u7 0), (26, hI (Sn : Int)), (27, hI (rs.length : Int))], hpA v2 u7 ov (Ln : Int) (hdr 0 rs).length ov (hdr 0 rs) rs⟩) ?_ ⟨leS_get ⟨rfl, rfl, rfl, rfl, rfl, trivial⟩, fun _ _ h => h⟩
    have n0_1_2_3_4_5_6_7_8_9_10_11 : ∀ (vr ov2 : Nat), F [0, 1, 2, 3, 4, 5, 6, 7, 8, 9, 10, 11] ⟨[(1, .fptr [hI (Ln : Int), hI (Sn : Int), slE eFromLabelTo E] 0), (2, .ptr 10002 v2 0), (7, .ptr 10007 u7 0), (26, hI (Sn : Int)), (27, hI (rs.length : Int)), (29, .ptr 10007 u7 1), (30, .ar 10038 ov 1 0 (hdr 0 rs).length), (31, .fptr [hI (Ln : Int), hI (Sn : Int), slE eFromLabelTo E] 1), (32, hI (Sn : Int)), (33, .sl 1 1 [hI (Sn : Int)]), (34, .fptr [hI (Ln : Int), hI (Sn : Int), slE eFromLabelTo E] 0), (35, hI (Ln : Int)), (36, .ar (rid rs.length) vr 1 0 (List.replicate Ln (Sn : Int)).length), (37, .sl 1 1 [.ar (rid rs.length) vr 1 0 (List.replicate Ln (Sn : Int)).length]), (38, .ar 10038 ov2 1 0 (hdr 0 rs ++ [HV.ar (rid rs.length) vr 1 0 (List.replicate Ln (Sn : Int)).length]).length), (39, .ptr 10007 u7 1)], hpA v2 u7 ov2 (Ln : Int) (hdr 0 rs ++ [HV.ar (rid rs.length) vr 1 0 (List.replicate Ln (Sn : Int)).length]).length ov2 (hdr 0 rs ++ [HV.ar (rid rs.length) vr 1 0 (List.replicate Ln (Sn : Int)).length]) (rs ++ [(vr, List.replicate Ln (Sn : Int))])⟩ := by
      intro vr ov2
      refine l_done hF rfl rfl (hK _ ?_)
      clear hF F hK K
      refine AW.rg rfl fun K hK => bv rfl (v_bin rfl rfl b_add) (mv rfl rfl ?_)
      refine b_nil (hK _ ?_)
      refine ⟨(ov2, rs ++ [(vr, List.replicate Ln (Sn : Int))]), ⟨by simp; omega, ?_⟩, by simp; omega, ?_⟩
      · simp only [List.map_append, hrs, List.map_cons, List.map_nil, List.length_append, List.length_singleton, List.replicate_succ']
      · have e1 : hdr 0 (rs ++ [(vr, List.replicate Ln (Sn : Int))]) = hdr 0 rs ++ [HV.ar (rid rs.length) vr 1 0 (List.replicate Ln (Sn : Int)).length] := by rw [hdr_app, Nat.zero_add]
        have e2 : IntKind.wrap .i64 ((rs.length : Int) + 1) = ((rs ++ [(vr, List.replicate Ln (Sn : Int))]).length : Int) := by rw [w64 (by omega) (by omega)]; simp
        simp only [e1]
        exact ⟨leS_get ⟨rfl, rfl, rfl, rfl, by rw [← e2]; rfl, trivial⟩, fun _ _ h => h⟩
    let P : ASf := fun t H => ⟨(1, .fptr [hI (Ln : Int), hI (Sn : Int), slE eFromLabelTo E] 0) :: (2, .ptr 10002 v2 0) :: (7, .ptr 10007 u7 0) :: (26, hI (Sn : Int)) :: (27, hI (rs.length : Int)) :: (29, .ptr 10007 u7 1) :: t, H⟩
    have n0_1_2_3_4_5_6_7_8_9_10 : ∀ (vr ov2 : Nat), F [0, 1, 2, 3, 4, 5, 6, 7, 8, 9, 10] (P [(30, .ar 10038 ov 1 0 (hdr 0 rs).length), (31, .fptr [hI (Ln : Int), hI (Sn : Int), slE eFromLabelTo E] 1), (32, hI (Sn : Int)), (33, .sl 1 1 [hI (Sn : Int)]), (34, .fptr [hI (Ln : Int), hI (Sn : Int), slE eFromLabelTo E] 0), (35, hI (Ln : Int)), (36, .ar (rid rs.length) vr 1 0 (List.replicate Ln (Sn : Int)).length), (37, .sl 1 1 [.ar (rid rs.length) vr 1 0 (List.replicate Ln (Sn : Int)).length]), (38, .ar 10038 ov2 1 0 (hdr 0 rs ++ [HV.ar (rid rs.length) vr 1 0 (List.replicate Ln (Sn : Int)).length]).length), (39, .ptr 10007 u7 1)] (hpA v2 u7 ov (Ln : Int) (hdr 0 rs).length ov2 (hdr 0 rs ++ [HV.ar (rid rs.length) vr 1 0 (List.replicate Ln (Sn : Int)).length]) (rs ++ [(vr, List.replicate Ln (Sn : Int))]))) := by
      intro vr ov2
      refine l_step hF rfl [11] rfl rfl ⟨?_, trivial⟩
      · exact l_op rfl rfl rfl (o_store (cs := [.ar 10038 ov2 1 0 (hdr 0 rs ++ [HV.ar (rid rs.length) vr 1 0 (List.replicate Ln (Sn : Int)).length]).length]) (zs := [hI (Ln : Int), .ar 10038 ov2 1 0 (hdr 0 rs ++ [HV.ar (rid rs.length) vr 1 0 (List.replicate Ln (Sn : Int)).length]).length]) rfl rfl rfl ty35 rfl rfl rfl rfl rfl (b_nil (l_go hF rfl (n0_1_2_3_4_5_6_7_8_9_10_11 vr ov2) ⟨leS_get ⟨rfl, rfl, rfl, rfl, rfl, rfl, rfl, rfl, rfl, rfl, rfl, rfl, rfl, rfl, rfl, rfl, trivial⟩, hp_sto⟩)))
    have n0_1_2_3_4_5_6_7_8_9 : ∀ (vr ov2 : Nat), F [0, 1, 2, 3, 4, 5, 6, 7, 8, 9] (P [(30, .ar 10038 ov 1 0 (hdr 0 rs).length), (31, .fptr [hI (Ln : Int), hI (Sn : Int), slE eFromLabelTo E] 1), (32, hI (Sn : Int)), (33, .sl 1 1 [hI (Sn : Int)]), (34, .fptr [hI (Ln : Int), hI (Sn : Int), slE eFromLabelTo E] 0), (35, hI (Ln : Int)), (36, .ar (rid rs.length) vr 1 0 (List.replicate Ln (Sn : Int)).length), (37, .sl 1 1 [.ar (rid rs.length) vr 1 0 (List.replicate Ln (Sn : Int)).length]), (38, .ar 10038 ov2 1 0 (hdr 0 rs ++ [HV.ar (rid rs.length) vr 1 0 (List.replicate Ln (Sn : Int)).length]).length)] (hpA v2 u7 ov (Ln : Int) (hdr 0 rs).length ov2 (hdr 0 rs ++ [HV.ar (rid rs.length) vr 1 0 (List.replicate Ln (Sn : Int)).length]) (rs ++ [(vr, List.replicate Ln (Sn : Int))]))) := by
      intro vr ov2
      refine l_take (i := 10) hF rfl rfl rfl (v_fieldAddrP fo37_1 rfl rfl) ?_
      exact l_go hF rfl (n0_1_2_3_4_5_6_7_8_9_10 vr ov2) ⟨leS_get ⟨rfl, rfl, rfl, rfl, rfl, rfl, rfl, rfl, rfl, rfl, rfl, rfl, rfl, rfl, rfl, rfl, trivial⟩, fun _ _ h => h⟩
    have n0_1_2_3_4_5_6_7_8 : ∀ (vr : Nat), F [0, 1, 2, 3, 4, 5, 6, 7, 8] (P [(30, .ar 10038 ov 1 0 (hdr 0 rs).length), (31, .fptr [hI (Ln : Int), hI (Sn : Int), slE eFromLabelTo E] 1), (32, hI (Sn : Int)), (33, .sl 1 1 [hI (Sn : Int)]), (34, .fptr [hI (Ln : Int), hI (Sn : Int), slE eFromLabelTo E] 0), (35, hI (Ln : Int)), (36, .ar (rid rs.length) vr 1 0 (List.replicate Ln (Sn : Int)).length), (37, .sl 1 1 [.ar (rid rs.length) vr 1 0 (List.replicate Ln (Sn : Int)).length])] (hpA v2 u7 ov (Ln : Int) (hdr 0 rs).length ov (hdr 0 rs) (rs ++ [(vr, List.replicate Ln (Sn : Int))]))) := by
      intro vr
      refine l_step hF rfl [9] rfl rfl ⟨?_, trivial⟩
      · exact l_op rfl rfl rfl (o_appE eHd (l := hdr 0 rs) (m := [.ar (rid rs.length) vr 1 0 (List.replicate Ln (Sn : Int)).length]) rfl rfl ty35 ty35 ty27 rfl rfl rfl rfl rfl hfit (fun ov2 => b_nil (l_go hF rfl (n0_1_2_3_4_5_6_7_8_9 vr ov2) ⟨leS_get ⟨rfl, rfl, rfl, rfl, rfl, rfl, rfl, rfl, rfl, rfl, rfl, rfl, rfl, rfl, rfl, trivial⟩, hp_app⟩)))
    have n0_2_3_4_5_6_7_8 : ∀ (vr : Nat), F [0, 2, 3, 4, 5, 6, 7, 8] (P [(31, .fptr [hI (Ln : Int), hI (Sn : Int), slE eFromLabelTo E] 1), (32, hI (Sn : Int)), (33, .sl 1 1 [hI (Sn : Int)]), (34, .fptr [hI (Ln : Int), hI (Sn : Int), slE eFromLabelTo E] 0), (35, hI (Ln : Int)), (36, .ar (rid rs.length) vr 1 0 (List.replicate Ln (Sn : Int)).length), (37, .sl 1 1 [.ar (rid rs.length) vr 1 0 (List.replicate Ln (Sn : Int)).length])] (hpA v2 u7 ov (Ln : Int) (hdr 0 rs).length ov (hdr 0 rs) (rs ++ [(vr, List.replicate Ln (Sn : Int))]))) := by
      intro vr
      refine l_step hF rfl [1] rfl rfl ⟨?_, trivial⟩
      · exact l_ov rfl rfl rfl rfl (v_loadP ty35 rfl rfl (l_lit rfl rfl)) (l_go hF rfl (n0_1_2_3_4_5_6_7_8 vr) ⟨leS_get ⟨rfl, rfl, rfl, rfl, rfl, rfl, rfl, rfl, rfl, rfl, rfl, rfl, rfl, rfl, trivial⟩, fun _ _ h => h⟩)
    have n0_1_2_3_4_5_6_7 : ∀ (vr : Nat), F [0, 1, 2, 3, 4, 5, 6, 7] (P [(30, .ar 10038 ov 1 0 (hdr 0 rs).length), (31, .fptr [hI (Ln : Int), hI (Sn : Int), slE eFromLabelTo E] 1), (32, hI (Sn : Int)), (33, .sl 1 1 [hI (Sn : Int)]), (34, .fptr [hI (Ln : Int), hI (Sn : Int), slE eFromLabelTo E] 0), (35, hI (Ln : Int)), (36, .ar (rid rs.length) vr 1 0 (List.replicate Ln (Sn : Int)).length)] (hpA v2 u7 ov (Ln : Int) (hdr 0 rs).length ov (hdr 0 rs) (rs ++ [(vr, List.replicate Ln (Sn : Int))]))) := by
      intro vr
      refine l_step hF rfl [8] rfl rfl ⟨?_, trivial⟩
      · exact l_op rfl rfl rfl (o_bsl rfl rfl (as_of (cs := [.ar (rid rs.length) vr 1 0 (List.replicate Ln (Sn : Int)).length]) ty35 ty27 rfl rfl rfl rfl rfl) (b_nil (l_go hF rfl (n0_1_2_3_4_5_6_7_8 vr) ⟨leS_get ⟨rfl, rfl, rfl, rfl, rfl, rfl, rfl, rfl, rfl, rfl, rfl, rfl, rfl, rfl, trivial⟩, fun _ _ h => h⟩)))
    have n0_2_3_4_5_6_7 : ∀ (vr : Nat), F [0, 2, 3, 4, 5, 6, 7] (P [(31, .fptr [hI (Ln : Int), hI (Sn : Int), slE eFromLabelTo E] 1), (32, hI (Sn : Int)), (33, .sl 1 1 [hI (Sn : Int)]), (34, .fptr [hI (Ln : Int), hI (Sn : Int), slE eFromLabelTo E] 0), (35, hI (Ln : Int)), (36, .ar (rid rs.length) vr 1 0 (List.replicate Ln (Sn : Int)).length)] (hpA v2 u7 ov (Ln : Int) (hdr 0 rs).length ov (hdr 0 rs) (rs ++ [(vr, List.replicate Ln (Sn : Int))]))) := by
      intro vr
      refine l_step hF rfl [1, 8] rfl rfl ⟨?_, ?_, trivial⟩
      · exact l_ov rfl rfl rfl rfl (v_loadP ty35 rfl rfl (l_lit rfl rfl)) (l_go hF rfl (n0_1_2_3_4_5_6_7 vr) ⟨leS_get ⟨rfl, rfl, rfl, rfl, rfl, rfl, rfl, rfl, rfl, rfl, rfl, rfl, rfl, trivial⟩, fun _ _ h => h⟩)
      · exact l_op rfl rfl rfl (o_bsl rfl rfl (as_of (cs := [.ar (rid rs.length) vr 1 0 (List.replicate Ln (Sn : Int)).length]) ty35 ty27 rfl rfl rfl rfl rfl) (b_nil (l_go hF rfl (n0_2_3_4_5_6_7_8 vr) ⟨leS_get ⟨rfl, rfl, rfl, rfl, rfl, rfl, rfl, rfl, rfl, rfl, rfl, rfl, rfl, trivial⟩, fun _ _ h => h⟩)))
    have n0_1_2_3_4_5_6 : F [0, 1, 2, 3, 4, 5, 6] (P [(30, .ar 10038 ov 1 0 (hdr 0 rs).length), (31, .fptr [hI (Ln : Int), hI (Sn : Int), slE eFromLabelTo E] 1), (32, hI (Sn : Int)), (33, .sl 1 1 [hI (Sn : Int)]), (34, .fptr [hI (Ln : Int), hI (Sn : Int), slE eFromLabelTo E] 0), (35, hI (Ln : Int))] (hpA v2 u7 ov (Ln : Int) (hdr 0 rs).length ov (hdr 0 rs) rs)) := by
      refine l_step hF rfl [7] rfl rfl ⟨?_, trivial⟩
      · exact l_op rfl rfl rfl (o_callA rfl rfl rfl rfl (repI_own (Sn : Int) hLn rs.length fun vr => b_nil (l_go hF rfl (n0_1_2_3_4_5_6_7 vr) ⟨leS_get ⟨rfl, rfl, rfl, rfl, rfl, rfl, rfl, rfl, rfl, rfl, rfl, rfl, rfl, trivial⟩, hp_call⟩)))
    have n0_2_3_4_5_6 : F [0, 2, 3, 4, 5, 6] (P [(31, .fptr [hI (Ln : Int), hI (Sn : Int), slE eFromLabelTo E] 1), (32, hI (Sn : Int)), (33, .sl 1 1 [hI (Sn : Int)]), (34, .fptr [hI (Ln : Int), hI (Sn : Int), slE eFromLabelTo E] 0), (35, hI (Ln : Int))] (hpA v2 u7 ov (Ln : Int) (hdr 0 rs).length ov (hdr 0 rs) rs)) := by
      refine l_step hF rfl [1, 7] rfl rfl ⟨?_, ?_, trivial⟩
      · exact l_ov rfl rfl rfl rfl (v_loadP ty35 rfl rfl (l_lit rfl rfl)) (l_go hF rfl (n0_1_2_3_4_5_6) ⟨leS_get ⟨rfl, rfl, rfl, rfl, rfl, rfl, rfl, rfl, rfl, rfl, rfl, rfl, trivial⟩, fun _ _ h => h⟩)
      · exact l_op rfl rfl rfl (o_callA rfl rfl rfl rfl (repI_own (Sn : Int) hLn rs.length fun vr => b_nil (l_go hF rfl (n0_2_3_4_5_6_7 vr) ⟨leS_get ⟨rfl, rfl, rfl, rfl, rfl, rfl, rfl, rfl, rfl, rfl, rfl, rfl, trivial⟩, hp_call⟩)))
    have n0_1_2_3_5_6 : F [0, 1, 2, 3, 5, 6] (P [(30, .ar 10038 ov 1 0 (hdr 0 rs).length), (31, .fptr [hI (Ln : Int), hI (Sn : Int), slE eFromLabelTo E] 1), (32, hI (Sn : Int)), (34, .fptr [hI (Ln : Int), hI (Sn : Int), slE eFromLabelTo E] 0), (35, hI (Ln : Int))] (hpA v2 u7 ov (Ln : Int) (hdr 0 rs).length ov (hdr 0 rs) rs)) := by
      refine l_step hF rfl [4] rfl rfl ⟨?_, trivial⟩
      · exact l_op rfl rfl rfl (o_bsl rfl rfl (as_of (cs := [hI (Sn : Int)]) ty27 ty3 rfl rfl rfl rfl rfl) (b_nil (l_go hF rfl (n0_1_2_3_4_5_6) ⟨leS_get ⟨rfl, rfl, rfl, rfl, rfl, rfl, rfl, rfl, rfl, rfl, rfl, rfl, trivial⟩, fun _ _ h => h⟩)))
    have n0_1_2_3_4_5 : F [0, 1, 2, 3, 4, 5] (P [(30, .ar 10038 ov 1 0 (hdr 0 rs).length), (31, .fptr [hI (Ln : Int), hI (Sn : Int), slE eFromLabelTo E] 1), (32, hI (Sn : Int)), (33, .sl 1 1 [hI (Sn : Int)]), (34, .fptr [hI (Ln : Int), hI (Sn : Int), slE eFromLabelTo E] 0)] (hpA v2 u7 ov (Ln : Int) (hdr 0 rs).length ov (hdr 0 rs) rs)) := by
      refine l_step hF rfl [6] rfl rfl ⟨?_, trivial⟩
      · exact l_ov rfl rfl rfl rfl (v_loadF ty3 rfl (l_lit rfl rfl)) (l_go hF rfl (n0_1_2_3_4_5_6) ⟨leS_get ⟨rfl, rfl, rfl, rfl, rfl, rfl, rfl, rfl, rfl, rfl, rfl, rfl, trivial⟩, fun _ _ h => h⟩)
    have n0_2_3_5_6 : F [0, 2, 3, 5, 6] (P [(31, .fptr [hI (Ln : Int), hI (Sn : Int), slE eFromLabelTo E] 1), (32, hI (Sn : Int)), (34, .fptr [hI (Ln : Int), hI (Sn : Int), slE eFromLabelTo E] 0), (35, hI (Ln : Int))] (hpA v2 u7 ov (Ln : Int) (hdr 0 rs).length ov (hdr 0 rs) rs)) := by
      refine l_step hF rfl [1, 4] rfl rfl ⟨?_, ?_, trivial⟩
      · exact l_ov rfl rfl rfl rfl (v_loadP ty35 rfl rfl (l_lit rfl rfl)) (l_go hF rfl (n0_1_2_3_5_6) ⟨leS_get ⟨rfl, rfl, rfl, rfl, rfl, rfl, rfl, rfl, rfl, rfl, rfl, trivial⟩, fun _ _ h => h⟩)
      · exact l_op rfl rfl rfl (o_bsl rfl rfl (as_of (cs := [hI (Sn : Int)]) ty27 ty3 rfl rfl rfl rfl rfl) (b_nil (l_go hF rfl (n0_2_3_4_5_6) ⟨leS_get ⟨rfl, rfl, rfl, rfl, rfl, rfl, rfl, rfl, rfl, rfl, rfl, trivial⟩, fun _ _ h => h⟩)))
    have n0_1_2_5_6 : F [0, 1, 2, 5, 6] (P [(30, .ar 10038 ov 1 0 (hdr 0 rs).length), (31, .fptr [hI (Ln : Int), hI (Sn : Int), slE eFromLabelTo E] 1), (34, .fptr [hI (Ln : Int), hI (Sn : Int), slE eFromLabelTo E] 0), (35, hI (Ln : Int))] (hpA v2 u7 ov (Ln : Int) (hdr 0 rs).length ov (hdr 0 rs) rs)) := by
      refine l_step hF rfl [3] rfl rfl ⟨?_, trivial⟩
      · exact l_ov rfl rfl rfl rfl (v_loadF ty3 rfl (l_lit rfl rfl)) (l_go hF rfl (n0_1_2_3_5_6) ⟨leS_get ⟨rfl, rfl, rfl, rfl, rfl, rfl, rfl, rfl, rfl, rfl, rfl, trivial⟩, fun _ _ h => h⟩)
    have n0_2_3_4_5 : F [0, 2, 3, 4, 5] (P [(31, .fptr [hI (Ln : Int), hI (Sn : Int), slE eFromLabelTo E] 1), (32, hI (Sn : Int)), (33, .sl 1 1 [hI (Sn : Int)]), (34, .fptr [hI (Ln : Int), hI (Sn : Int), slE eFromLabelTo E] 0)] (hpA v2 u7 ov (Ln : Int) (hdr 0 rs).length ov (hdr 0 rs) rs)) := by
      refine l_step hF rfl [1, 6] rfl rfl ⟨?_, ?_, trivial⟩
      · exact l_ov rfl rfl rfl rfl (v_loadP ty35 rfl rfl (l_lit rfl rfl)) (l_go hF rfl (n0_1_2_3_4_5) ⟨leS_get ⟨rfl, rfl, rfl, rfl, rfl, rfl, rfl, rfl, rfl, rfl, rfl, trivial⟩, fun _ _ h => h⟩)
      · exact l_ov rfl rfl rfl rfl (v_loadF ty3 rfl (l_lit rfl rfl)) (l_go hF rfl (n0_2_3_4_5_6) ⟨leS_get ⟨rfl, rfl, rfl, rfl, rfl, rfl, rfl, rfl, rfl, rfl, rfl, trivial⟩, fun _ _ h => h⟩)
    have n0_1_2_3_5 : F [0, 1, 2, 3, 5] (P [(30, .ar 10038 ov 1 0 (hdr 0 rs).length), (31, .fptr [hI (Ln : Int), hI (Sn : Int), slE eFromLabelTo E] 1), (32, hI (Sn : Int)), (34, .fptr [hI (Ln : Int), hI (Sn : Int), slE eFromLabelTo E] 0)] (hpA v2 u7 ov (Ln : Int) (hdr 0 rs).length ov (hdr 0 rs) rs)) := by
      refine l_step hF rfl [4, 6] rfl rfl ⟨?_, ?_, trivial⟩
      · exact l_op rfl rfl rfl (o_bsl rfl rfl (as_of (cs := [hI (Sn : Int)]) ty27 ty3 rfl rfl rfl rfl rfl) (b_nil (l_go hF rfl (n0_1_2_3_4_5) ⟨leS_get ⟨rfl, rfl, rfl, rfl, rfl, rfl, rfl, rfl, rfl, rfl, rfl, trivial⟩, fun _ _ h => h⟩)))
      · exact l_ov rfl rfl rfl rfl (v_loadF ty3 rfl (l_lit rfl rfl)) (l_go hF rfl (n0_1_2_3_5_6) ⟨leS_get ⟨rfl, rfl, rfl, rfl, rfl, rfl, rfl, rfl, rfl, rfl, rfl, trivial⟩, fun _ _ h => h⟩)
    have n0_2_5_6 : F [0, 2, 5, 6] (P [(31, .fptr [hI (Ln : Int), hI (Sn : Int), slE eFromLabelTo E] 1), (34, .fptr [hI (Ln : Int), hI (Sn : Int), slE eFromLabelTo E] 0), (35, hI (Ln : Int))] (hpA v2 u7 ov (Ln : Int) (hdr 0 rs).length ov (hdr 0 rs) rs)) := by
      refine l_step hF rfl [1, 3] rfl rfl ⟨?_, ?_, trivial⟩
      · exact l_ov rfl rfl rfl rfl (v_loadP ty35 rfl rfl (l_lit rfl rfl)) (l_go hF rfl (n0_1_2_5_6) ⟨leS_get ⟨rfl, rfl, rfl, rfl, rfl, rfl, rfl, rfl, rfl, rfl, trivial⟩, fun _ _ h => h⟩)
      · exact l_ov rfl rfl rfl rfl (v_loadF ty3 rfl (l_lit rfl rfl)) (l_go hF rfl (n0_2_3_5_6) ⟨leS_get ⟨rfl, rfl, rfl, rfl, rfl, rfl, rfl, rfl, rfl, rfl, trivial⟩, fun _ _ h => h⟩)
    have n0_2_3_5 : F [0, 2, 3, 5] (P [(31, .fptr [hI (Ln : Int), hI (Sn : Int), slE eFromLabelTo E] 1), (32, hI (Sn : Int)), (34, .fptr [hI (Ln : Int), hI (Sn : Int), slE eFromLabelTo E] 0)] (hpA v2 u7 ov (Ln : Int) (hdr 0 rs).length ov (hdr 0 rs) rs)) := by
      refine l_step hF rfl [1, 4, 6] rfl rfl ⟨?_, ?_, ?_, trivial⟩
      · exact l_ov rfl rfl rfl rfl (v_loadP ty35 rfl rfl (l_lit rfl rfl)) (l_go hF rfl (n0_1_2_3_5) ⟨leS_get ⟨rfl, rfl, rfl, rfl, rfl, rfl, rfl, rfl, rfl, rfl, trivial⟩, fun _ _ h => h⟩)
      · exact l_op rfl rfl rfl (o_bsl rfl rfl (as_of (cs := [hI (Sn : Int)]) ty27 ty3 rfl rfl rfl rfl rfl) (b_nil (l_go hF rfl (n0_2_3_4_5) ⟨leS_get ⟨rfl, rfl, rfl, rfl, rfl, rfl, rfl, rfl, rfl, rfl, trivial⟩, fun _ _ h => h⟩)))
      · exact l_ov rfl rfl rfl rfl (v_loadF ty3 rfl (l_lit rfl rfl)) (l_go hF rfl (n0_2_3_5_6) ⟨leS_get ⟨rfl, rfl, rfl, rfl, rfl, rfl, rfl, rfl, rfl, rfl, trivial⟩, fun _ _ h => h⟩)
    have n0_1_2_5 : F [0, 1, 2, 5] (P [(30, .ar 10038 ov 1 0 (hdr 0 rs).length), (31, .fptr [hI (Ln : Int), hI (Sn : Int), slE eFromLabelTo E] 1), (34, .fptr [hI (Ln : Int), hI (Sn : Int), slE eFromLabelTo E] 0)] (hpA v2 u7 ov (Ln : Int) (hdr 0 rs).length ov (hdr 0 rs) rs)) := by
      refine l_step hF rfl [3, 6] rfl rfl ⟨?_, ?_, trivial⟩
      · exact l_ov rfl rfl rfl rfl (v_loadF ty3 rfl (l_lit rfl rfl)) (l_go hF rfl (n0_1_2_3_5) ⟨leS_get ⟨rfl, rfl, rfl, rfl, rfl, rfl, rfl, rfl, rfl, rfl, trivial⟩, fun _ _ h => h⟩)
      · exact l_ov rfl rfl rfl rfl (v_loadF ty3 rfl (l_lit rfl rfl)) (l_go hF rfl (n0_1_2_5_6) ⟨leS_get ⟨rfl, rfl, rfl, rfl, rfl, rfl, rfl, rfl, rfl, rfl, trivial⟩, fun _ _ h => h⟩)
    have n0_2_5 : F [0, 2, 5] (P [(31, .fptr [hI (Ln : Int), hI (Sn : Int), slE eFromLabelTo E] 1), (34, .fptr [hI (Ln : Int), hI (Sn : Int), slE eFromLabelTo E] 0)] (hpA v2 u7 ov (Ln : Int) (hdr 0 rs).length ov (hdr 0 rs) rs)) := by
      refine l_step hF rfl [1, 3, 6] rfl rfl ⟨?_, ?_, ?_, trivial⟩
      · exact l_ov rfl rfl rfl rfl (v_loadP ty35 rfl rfl (l_lit rfl rfl)) (l_go hF rfl (n0_1_2_5) ⟨leS_get ⟨rfl, rfl, rfl, rfl, rfl, rfl, rfl, rfl, rfl, trivial⟩, fun _ _ h => h⟩)
      · exact l_ov rfl rfl rfl rfl (v_loadF ty3 rfl (l_lit rfl rfl)) (l_go hF rfl (n0_2_3_5) ⟨leS_get ⟨rfl, rfl, rfl, rfl, rfl, rfl, rfl, rfl, rfl, trivial⟩, fun _ _ h => h⟩)
      · exact l_ov rfl rfl rfl rfl (v_loadF ty3 rfl (l_lit rfl rfl)) (l_go hF rfl (n0_2_5_6) ⟨leS_get ⟨rfl, rfl, rfl, rfl, rfl, rfl, rfl, rfl, rfl, trivial⟩, fun _ _ h => h⟩)
    have n0_2 : F [0, 2] (P [(31, .fptr [hI (Ln : Int), hI (Sn : Int), slE eFromLabelTo E] 1)] (hpA v2 u7 ov (Ln : Int) (hdr 0 rs).length ov (hdr 0 rs) rs)) := by
      refine l_take (i := 5) hF rfl rfl rfl (v_fieldAddrF fo24_0 rfl) ?_
      exact l_go hF rfl (n0_2_5) ⟨leS_get ⟨rfl, rfl, rfl, rfl, rfl, rfl, rfl, rfl, trivial⟩, fun _ _ h => h⟩
    have n0 : F [0] (P [] (hpA v2 u7 ov (Ln : Int) (hdr 0 rs).length ov (hdr 0 rs) rs)) := by
      refine l_take (i := 2) hF rfl rfl rfl (v_fieldAddrF fo24_1 rfl) ?_
      exact l_go hF rfl (n0_2) ⟨leS_get ⟨rfl, rfl, rfl, rfl, rfl, rfl, rfl, trivial⟩, fun _ _ h => h⟩
    have n : F [] ⟨[(1, .fptr [hI (Ln : Int), hI (Sn : Int), slE eFromLabelTo E] 0), (2, .ptr 10002 v2 0), (7, .ptr 10007 u7 0), (26, hI (Sn : Int)), (27, hI (rs.length : Int))], hpA v2 u7 ov (Ln : Int) (hdr 0 rs).length ov (hdr 0 rs) rs⟩ := by
      refine l_take (i := 0) hF rfl rfl rfl (v_fieldAddrP fo37_1 rfl rfl) ?_
      exact l_go hF rfl (n0) ⟨leS_get ⟨rfl, rfl, rfl, rfl, rfl, rfl, trivial⟩, fun _ _ h => h⟩
    exact n
  have hc := of_decide_eq_false hc
  have hrl2 : rs.length = Sn := by omega
  refine AW.exit ?_
  refine AW.seq ?_
  refine AW.rgs rfl fun K hK => bv rfl (v_fieldAddrF fo24_2 rfl) (bv rfl (v_loadF ty22 rfl (l_lit rfl rfl)) (bv rfl (v_lenF rfl rfl ty22 rfl) (mv rfl rfl ?_)))
  refine b_nil (hK _ (AW.to (to_le (s' := ⟨[(1, .fptr [hI (Ln : Int), hI (Sn : Int), slE eFromLabelTo E] 0), (2, .ptr 10002 v2 0), (7, .ptr 10007 u7 0), (42, slE eFromLabelTo E), (43, hI (E.length : Int)), (44, hI 0)], hpA v2 u7 ov (Ln : Int) (hdr 0 rs).length ov (hdr 0 rs) rs⟩) ⟨leS_get ⟨rfl, rfl, rfl, rfl, rfl, rfl, trivial⟩, fun _ _ h => h⟩ ?_)))
  refine AW.block ?_
  refine AW.loopS (fun a : Nat × Rws => ⟨[(1, .fptr [hI (Ln : Int), hI (Sn : Int), slE eFromLabelTo E] 0), (2, .ptr 10002 v2 0), (7, .ptr 10007 u7 0), (42, slE eFromLabelTo E), (43, hI (E.length : Int)), (44, hI (a.1 : Int))], hpA v2 u7 ov (Ln : Int) (hdr 0 a.2).length ov (hdr 0 a.2) a.2⟩)
    (fun a => a.1 ≤ E.length ∧ a.2.length = Sn ∧ (∀ (i v : Nat) (l : List Int), a.2[i]? = some (v, l) → l.length = Ln) ∧ a.2.map (·.2) = rowsK ((Ln : Int), (Sn : Int), E) a.1) (fun a => E.length - a.1) (0, rs) ⟨leS_get ⟨rfl, rfl, rfl, rfl, rfl, rfl, trivial⟩, fun _ _ h => h⟩ ⟨Nat.zero_le _, hrl2, ?_, ?_⟩ ?_
  · intro i v l hi
    have : (rs.map (·.2))[i]? = some l := by rw [List.getElem?_map, hi]; rfl
    rw [hrs] at this
    have hm := List.mem_of_getElem? this
    rw [List.eq_of_mem_replicate hm]
    simp
  · show rs.map (·.2) = rowsK _ 0
    rw [hrs, hrl2]
    rfl
  clear hrs hrl hfit hrl2
  rintro ⟨k, rs⟩ ⟨hk, hrl, hrw, hrs⟩
  simp only at hk hrl hrw hrs
  refine AW.rgs rfl fun K hK => bv rfl (v_bin rfl rfl b_lss) ?_
  refine b_nil (hK _ (AW.to (to_le (s' := ⟨[(1, .fptr [hI (Ln : Int), hI (Sn : Int), slE eFromLabelTo E] 0), (2, .ptr 10002 v2 0), (7, .ptr 10007 u7 0), (42, slE eFromLabelTo E), (43, hI (E.length : Int)), (44, hI (k : Int)), (45, .bool (decide ((k : Int) < (E.length : Int))))], hpA v2 u7 ov (Ln : Int) (hdr 0 rs).length ov (hdr 0 rs) rs⟩) ⟨leS_get ⟨rfl, rfl, rfl, rfl, rfl, rfl, rfl, trivial⟩, fun _ _ h => h⟩ ?_)))
  refine AW.cseq rfl (fun hc => ?_) (fun hc => ?_)
  · have hc := of_decide_eq_true hc
    have hkl : k < E.length := by omega
    obtain ⟨b1, b2⟩ := hed _ (List.getElem_mem hkl)
    have hidx : idx E (k : Int) = some E[k] := by rw [idx_nat, List.getElem?_eq_getElem hkl]
    have hfl : E[k].1.toNat < rs.length := by omega
    obtain ⟨⟨rv, rl⟩, hrow⟩ : ∃ b, rs[E[k].1.toNat]? = some b := ⟨_, List.getElem?_eq_getElem hfl⟩
    have hrlen := hrw _ _ _ hrow
    have hhd : (hdr 0 rs)[E[k].1.toNat * 1]? = some (HV.ar (rid E[k].1.toNat) rv 1 0 rl.length) := by
      have := hdr_get 0 hrow
      rw [Nat.zero_add] at this
      rw [Nat.mul_one]
      exact this
    have hfj : 0 ≤ E[k].1 ∧ E[k].1 < ((hdr 0 rs).length : Int) := by rw [hdr_len]; omega
    have hlj : 0 ≤ E[k].2.1 ∧ E[k].2.1 < (rl.length : Int) := by omega
    refine AW.skip ?_
    refine AW.seq (AW.block ?_)
    refine AW.rgs rfl fun K hK => bv rfl (v_idxF ty22 es22 rfl rfl (idx_lt hidx)) (bv rfl (v_loadF ty49 rfl (l_agg eFromLabelTo hidx rfl rfl)) ?_)
    refine b_op rfl (o_alloc (fid := 10) (zs := [hI 0, hI 0, hI 0]) 10009 rfl rfl ty49 rfl (fun v9 => ?_))
    refine b_op rfl (o_store (cs := cFromLabelTo E[k]) (zs := cFromLabelTo E[k]) rfl rfl rfl ty49 rfl rfl rfl rfl rfl ?_)
    refine b_nil (hK _ (AW.to (to_le (s' := ⟨[(1, .fptr [hI (Ln : Int), hI (Sn : Int), slE eFromLabelTo E] 0), (2, .ptr 10002 v2 0), (7, .ptr 10007 u7 0), (9, .ptr 10009 v9 0), (42, slE eFromLabelTo E), (43, hI (E.length : Int)), (44, hI (k : Int))], (10009, v9, .arr 3 49 (cFromLabelTo E[k])) :: hpA v2 u7 ov (Ln : Int) (hdr 0 rs).length ov (hdr 0 rs) rs⟩) ⟨leS_get ⟨rfl, rfl, rfl, rfl, rfl, rfl, rfl, trivial⟩, le_shadow⟩ ?_)))
    have hrg : hget ((10009, v9, .arr 3 49 (cFromLabelTo E[k])) :: hpA v2 u7 ov (Ln : Int) (hdr 0 rs).length ov (hdr 0 rs) rs) (rid E[k].1.toNat) = some (rv, .arr 1 3 (eInt.E rl)) := by
      rw [hget_tl (by unfold rid; omega), hpA_rid]
      have := hget_rows 0 hrow
      rwa [Nat.zero_add] at this
    refine AW.dy follows fun K hK => ?_
    refine y_st 10 rfl rfl ?_
    refine sv rfl (v_fieldAddrP fo37_1 rfl rfl) ?_
    refine sv rfl (v_loadP ty35 rfl rfl (l_lit rfl rfl)) ?_
    refine sv rfl (v_fieldAddrP fo49_0 rfl rfl) ?_
    refine sv rfl (v_loadP ty3 rfl rfl (l_lit rfl rfl)) ?_
    refine sv rfl (v_idxA ty35 es35 rfl rfl hfj rfl) ?_
    refine sv rfl (v_loadP ty27 rfl rfl (l_lit rfl hhd)) ?_
    refine sv rfl (v_fieldAddrP fo49_1 rfl rfl) ?_
    refine sv rfl (v_loadP ty3 rfl rfl (l_lit rfl rfl)) ?_
    refine sv rfl (v_fieldAddrP fo49_2 rfl rfl) ?_
    refine sv rfl (v_loadP ty3 rfl rfl (l_lit rfl rfl)) ?_
    refine s_nil ?_
    refine y_op rfl rfl rfl rfl (o_val rfl (v_idxA ty27 es27 rfl rfl hlj hrg) ?_)
    refine b_nil ?_
    refine y_op rfl rfl rfl rfl (o_storeE eInt (l := rl) (j := E[k].2.1) (v := E[k].2.2) rfl rfl rfl ty3 rfl hrg rfl hlj ?_)
    refine b_nil ?_
    refine y_nil rfl (hK _ ?_)
    refine AW.rg rfl fun K hK => bv rfl (v_bin rfl rfl b_add) (mv rfl rfl ?_)
    refine b_nil (hK _ ?_)
    obtain ⟨e1, e2⟩ := rows_set hrow (l' := rl.set E[k].2.1.toNat E[k].2.2) (by simp)
    refine ⟨(k + 1, rs.set E[k].1.toNat (rv, rl.set E[k].2.1.toNat E[k].2.2)), ⟨by simp only; omega, by simp only [List.length_set]; exact hrl, ?_, ?_⟩, by simp only; omega, ?_⟩
    · intro i v l hi
      simp only at hi
      by_cases e : E[k].1.toNat = i
      · subst e
        rw [List.getElem?_set_self hfl] at hi
        cases hi
        rw [List.length_set]; exact hrlen
      · rw [List.getElem?_set_ne e] at hi
        exact hrw i v l hi
    · show (rs.set _ _).map (·.2) = rowsK _ (k + 1)
      have es : rowsK ((Ln : Int), (Sn : Int), E) (k + 1) = setR (rowsK ((Ln : Int), (Sn : Int), E) k) E[k] := by
        unfold rowsK
        simp only
        rw [← List.take_append_getElem hkl, List.foldl_append]
        rfl
      rw [es, ← hrs, List.map_set]
      unfold setR
      congr 2
      rw [List.getD_eq_getElem?_getD, List.getElem?_map, hrow]
      rfl
    · have e3 : IntKind.wrap .i64 ((k : Int) + 1) = ((k + 1 : Nat) : Int) := by rw [w64 (by omega) (by omega)]; omega
      simp only [e1]
      refine ⟨leS_get ⟨rfl, rfl, rfl, rfl, rfl, by rw [← e3]; rfl, trivial⟩, leH_get ⟨by rw [hget_tl (by unfold rid; omega)]; rfl, by rw [hget_tl (by unfold rid; omega)]; rfl, by rw [hget_tl (by unfold rid; omega)]; rfl, leH_rows _ 0 fun i v l hi => ?_⟩⟩
      have h1 := e2 _ _ (hget_rows 0 hi)
      rw [Nat.zero_add] at h1
      show hget ((rid E[k].1.toNat, rv, AObj.arr 1 3 (eInt.E (rl.set E[k].2.1.toNat E[k].2.2))) :: (10009, v9, AObj.arr 3 49 (cFromLabelTo E[k])) :: hpA v2 u7 ov (Ln : Int) (hdr 0 rs).length ov (hdr 0 rs) rs) (rid (0 + i)) = _
      rw [Nat.zero_add]
      by_cases e : i = E[k].1.toNat
      · subst e
        rw [hget_hd] at h1 ⊢
        exact h1
      · rw [hget_tl (fun x => e (rid_inj x))] at h1 ⊢
        rw [hget_tl (by unfold rid; omega), hpA_rid]
        exact h1
  have hc := of_decide_eq_false hc
  have hkE : k = E.length := by omega
  subst hkE
  have hSL : IntKind.wrap .i64 ((Sn : Int) * (Ln : Int)) = (Sn : Int) * (Ln : Int) := by
    have h1 : Sn * Ln ≤ 1000 * 1000 := Nat.mul_le_mul (by omega) (by omega)
    rw [← Int.natCast_mul, w64 (by omega) (by omega)]
  refine AW.exit ?_
  refine AW.seq ?_
  refine AW.rgs rfl fun K hK => bv rfl (v_fieldAddrF fo24_2 rfl) (bv rfl (v_loadF ty22 rfl (l_lit rfl rfl)) (bv rfl (v_lenF rfl rfl ty22 rfl) (bv rfl (v_fieldAddrF fo24_1 rfl) (bv rfl (v_loadF ty3 rfl (l_lit rfl rfl)) (bv rfl (v_fieldAddrF fo24_0 rfl) ?_)))))
  refine bv rfl (v_loadF ty3 rfl (l_lit rfl rfl)) (bv rfl (v_bin rfl rfl b_mul) ?_)
  rw [hSL]
  refine bv rfl (v_bin rfl rfl b_eql) ?_
  refine b_nil (hK _ (AW.to (to_le (s' := ⟨[(1, .fptr [hI (Ln : Int), hI (Sn : Int), slE eFromLabelTo E] 0), (2, .ptr 10002 v2 0), (7, .ptr 10007 u7 0), (68, .bool (decide ((E.length : Int) = (Sn : Int) * (Ln : Int))))], hpA v2 u7 ov (Ln : Int) (hdr 0 rs).length ov (hdr 0 rs) rs⟩) ⟨leS_get ⟨rfl, rfl, rfl, rfl, trivial⟩, fun _ _ h => h⟩ ?_)))
  refine AW.cond rfl (fun hc => ?_) (fun hc => ?_)
  · obtain ⟨hc, h⟩ := cT hc h
    refine AW.rgs rfl fun K hK => bv rfl (v_loadP ty37 rfl rfl (l_litA rfl (lb rfl) rfl)) ?_
    refine b_op rfl (o_store (cs := [hI (Ln : Int), .ar 10038 ov 1 0 (hdr 0 rs).length]) (zs := [hI (Ln : Int), .ar 10038 ov 1 0 (hdr 0 rs).length]) rfl rfl rfl ty37 rfl rfl rfl rfl rfl ?_)
    refine mv rfl rfl (mv rfl rfl ?_)
    refine b_nil (hK _ (AW.to (to_le (s' := ⟨[(2, .ptr 10002 v2 0), (3, .v (.slice none 0 0)), (4, hI 0)], (10002, v2, .arr 2 37 [hI (Ln : Int), .ar 10038 ov 1 0 (hdr 0 rs).length]) :: (10038, ov, .arr 1 27 (hdr 0 rs)) :: rowsO 0 rs⟩) ⟨leS_get ⟨rfl, rfl, rfl, trivial⟩, leH_get ⟨rfl, rfl, leH_tab fun i => by rw [hget_tl (by unfold rid; omega), hpA_rid]⟩⟩ ?_)))
    refine AW.to (to_weak ⟨[(2, .ptr 10002 v2 0), (3, slE eInt ([] : List Int)), (4, hI 0)], (10002, v2, .arr 2 37 [hI (Ln : Int), .ar 10038 ov 1 0 (hdr 0 rs).length]) :: (10038, ov, .arr 1 27 (hdr 0 rs)) :: rowsO 0 rs⟩ ⟨⟨_, rfl, .refl _⟩, ⟨_, rfl, .nil _⟩, ⟨_, rfl, .refl _⟩, trivial⟩ ⟨rfl, rfl, leH_tab fun i => by rw [hget_tl (by unfold rid; omega), hget_tl (by unfold rid; omega)]⟩ ?_)
    have hfz := frz_tab (D := (10038, ov, .arr 1 27 (hdr 0 rs)) :: rowsO 0 rs) (ov := ov) (rs := rs) hget_hd fun i v l hi => by
      rw [hget_tl (by unfold rid; omega)]
      have := hget_rows 0 hi
      rwa [Nat.zero_add] at this
    refine AW.to (to_fill 3 ((10038, ov, .arr 1 27 (hdr 0 rs)) :: rowsO 0 rs) ⟨[(2, .ptr 10002 v2 0), (3, slE eInt ([] : List Int)), (4, hI 0)], [(10002, v2, .arr 2 37 [hI (Ln : Int), slE (eSl eInt) (rs.map (·.2))])]⟩ ⟨⟨_, rfl, ?_⟩, ⟨_, rfl, rfl⟩, ⟨_, rfl, rfl⟩, trivial⟩ ⟨.inr ⟨_, _, _, rfl, congrArg (AObj.arr 2 37) (congrArg (fun z : HV => [hI (Ln : Int), z]) hfz.symm)⟩, trivial⟩ ⟨rfl, leH_tab fun i => by rw [hget_tl (by unfold rid; omega), hget_tl (by unfold rid; omega)]⟩ ⟨rfl, noneH_rows _ 0⟩ ?_)
    · rw [frz, hget_tl (by decide), hget_rows_no _ _ (fun i _ => by unfold rid; omega)]
    refine AW.ret ?_
    have h := Option.some.inj h
    subst h
    rw [hrs]
    exact ret_pure (hs := [.agg [hI (Ln : Int), slE (eSl eInt) (rowsK ((Ln : Int), (Sn : Int), E) E.length)], slE eInt ([] : List Int), hI 0]) (.inr rfl) (resP ty37 rfl rfl (l_litA rfl (lb rfl) rfl) (resT rfl (resT rfl rfl))) rfl ⟨⟨trivial, (clean_slE fun _ _ => ⟨(clean_slE fun _ _ => ⟨trivial, trivial⟩), trivial⟩), trivial⟩, (clean_slE fun _ _ => ⟨trivial, trivial⟩), trivial, trivial⟩
  obtain ⟨hc, h⟩ := cF hc h
  refine AW.skip ?_
  have hfit : fits 24 ((hdr 0 rs).length + [hI 0].length) := by rw [hdr_len]; exact ⟨by simp; omega, by simp only [maxLen, List.length_singleton]; omega⟩
  refine AW.dls follows fun K hK F hF => ?_
  refine l_go (L' := []) hF rfl (s' := ⟨[(1, .fptr [hI (Ln : Int), hI (Sn : Int), slE eFromLabelTo E] 0), (2, .ptr 10002 v2 0), (7, .ptr 10007 u7 0)], hpA v2 u7 ov (Ln : Int) (hdr 0 rs).length ov (hdr 0 rs) rs⟩) ?_ ⟨leS_get ⟨rfl, rfl, rfl, trivial⟩, fun _ _ h => h⟩
  have n0_1_2_3_4_5_6_7_8_9_10_11 : ∀ (vr ov2 : Nat), F [0, 1, 2, 3, 4, 5, 6, 7, 8, 9, 10, 11] ⟨[(1, .fptr [hI (Ln : Int), hI (Sn : Int), slE eFromLabelTo E] 0), (2, .ptr 10002 v2 0), (7, .ptr 10007 u7 0), (70, .ptr 10007 u7 1), (71, .ar 10038 ov 1 0 (hdr 0 rs).length), (72, .fptr [hI (Ln : Int), hI (Sn : Int), slE eFromLabelTo E] 1), (73, hI (Sn : Int)), (74, .sl 1 1 [hI (Sn : Int)]), (75, .fptr [hI (Ln : Int), hI (Sn : Int), slE eFromLabelTo E] 0), (76, hI (Ln : Int)), (77, .ar (rid rs.length) vr 1 0 (List.replicate Ln (Sn : Int)).length), (78, .sl 1 1 [.ar (rid rs.length) vr 1 0 (List.replicate Ln (Sn : Int)).length]), (79, .ar 10038 ov2 1 0 (hdr 0 rs ++ [HV.ar (rid rs.length) vr 1 0 (List.replicate Ln (Sn : Int)).length]).length), (80, .ptr 10007 u7 1)], hpA v2 u7 ov2 (Ln : Int) (hdr 0 rs ++ [HV.ar (rid rs.length) vr 1 0 (List.replicate Ln (Sn : Int)).length]).length ov2 (hdr 0 rs ++ [HV.ar (rid rs.length) vr 1 0 (List.replicate Ln (Sn : Int)).length]) (rs ++ [(vr, List.replicate Ln (Sn : Int))])⟩ := by
    intro vr ov2
    refine l_done hF rfl rfl (hK _ ?_)
    clear hF F hK K
    have e1 : hdr 0 (rs ++ [(vr, List.replicate Ln (Sn : Int))]) = hdr 0 rs ++ [HV.ar (rid rs.length) vr 1 0 (List.replicate Ln (Sn : Int)).length] := by rw [hdr_app, Nat.zero_add]
    rw [← e1]
    refine AW.dls follows fun K hK F hF => ?_
    refine l_go (L' := []) hF rfl (s' := ⟨[(1, .fptr [hI (Ln : Int), hI (Sn : Int), slE eFromLabelTo E] 0), (2, .ptr 10002 v2 0), (7, .ptr 10007 u7 0)], (10002, v2, .arr 2 37 zA) :: (10007, u7, .arr 2 37 [hI (Ln : Int), .ar 10038 ov2 1 0 (hdr 0 (rs ++ [(vr, List.replicate Ln (Sn : Int))])).length]) :: (10038, ov2, .arr 1 27 (hdr 0 (rs ++ [(vr, List.replicate Ln (Sn : Int))]))) :: rowsO 0 (rs ++ [(vr, List.replicate Ln (Sn : Int))])⟩) ?_ ⟨leS_get ⟨rfl, rfl, rfl, trivial⟩, fun _ _ h => h⟩
    let P : ASf := fun t H => ⟨(1, .fptr [hI (Ln : Int), hI (Sn : Int), slE eFromLabelTo E] 0) :: (2, .ptr 10002 v2 0) :: (7, .ptr 10007 u7 0) :: (81, .agg [hI (Ln : Int), .ar 10038 ov2 1 0 (hdr 0 (rs ++ [(vr, List.replicate Ln (Sn : Int))])).length]) :: (82, .fptr [hI (Ln : Int), hI (Sn : Int), slE eFromLabelTo E] 1) :: t, H⟩
    have n0_1_2_3_4_5_6 : F [0, 1, 2, 3, 4, 5, 6] (P [(83, hI (Sn : Int)), (84, .sl 1 1 [hI (Sn : Int)]), (3, .sl 1 1 [hI (Sn : Int)]), (4, hI 0)] ((10002, v2, .arr 2 37 [hI (Ln : Int), .ar 10038 ov2 1 0 (hdr 0 (rs ++ [(vr, List.replicate Ln (Sn : Int))])).length]) :: (10007, u7, .arr 2 37 [hI (Ln : Int), .ar 10038 ov2 1 0 (hdr 0 (rs ++ [(vr, List.replicate Ln (Sn : Int))])).length]) :: (10038, ov2, .arr 1 27 (hdr 0 (rs ++ [(vr, List.replicate Ln (Sn : Int))]))) :: rowsO 0 (rs ++ [(vr, List.replicate Ln (Sn : Int))]))) := by
      refine l_done hF rfl rfl (hK _ ?_)
      clear hF F hK K
      refine AW.to (to_le (s' := ⟨[(2, .ptr 10002 v2 0), (3, .sl 1 1 [hI (Sn : Int)]), (4, hI 0)], (10002, v2, .arr 2 37 [hI (Ln : Int), .ar 10038 ov2 1 0 (hdr 0 (rs ++ [(vr, List.replicate Ln (Sn : Int))])).length]) :: (10038, ov2, .arr 1 27 (hdr 0 (rs ++ [(vr, List.replicate Ln (Sn : Int))]))) :: rowsO 0 (rs ++ [(vr, List.replicate Ln (Sn : Int))])⟩) ⟨leS_get ⟨rfl, rfl, rfl, trivial⟩, leH_get ⟨rfl, rfl, leH_tab fun i => by rw [hget_tl (by unfold rid; omega), hget_tl (by unfold rid; omega), hget_tl (by unfold rid; omega)]⟩⟩ ?_)
      have hfz := frz_tab (D := ((10038, ov2, .arr 1 27 (hdr 0 (rs ++ [(vr, List.replicate Ln (Sn : Int))]))) :: rowsO 0 (rs ++ [(vr, List.replicate Ln (Sn : Int))]))) (ov := ov2) (rs := (rs ++ [(vr, List.replicate Ln (Sn : Int))])) hget_hd fun i v l hi => by
        rw [hget_tl (by unfold rid; omega)]
        have := hget_rows 0 hi
        rwa [Nat.zero_add] at this
      refine AW.to (to_fill 3 ((10038, ov2, .arr 1 27 (hdr 0 (rs ++ [(vr, List.replicate Ln (Sn : Int))]))) :: rowsO 0 (rs ++ [(vr, List.replicate Ln (Sn : Int))])) ⟨[(2, .ptr 10002 v2 0), (3, .sl 1 1 [hI (Sn : Int)]), (4, hI 0)], [(10002, v2, .arr 2 37 [hI (Ln : Int), slE (eSl eInt) ((rs ++ [(vr, List.replicate Ln (Sn : Int))]).map (·.2))])]⟩ ⟨⟨_, rfl, ?_⟩, ⟨_, rfl, rfl⟩, ⟨_, rfl, rfl⟩, trivial⟩ ⟨.inr ⟨_, _, _, rfl, congrArg (AObj.arr 2 37) (congrArg (fun z : HV => [hI (Ln : Int), z]) hfz.symm)⟩, trivial⟩ ⟨rfl, leH_tab fun i => by rw [hget_tl (by unfold rid; omega), hget_tl (by unfold rid; omega)]⟩ ⟨rfl, noneH_rows _ 0⟩ ?_)
      · rw [frz, hget_tl (by decide), hget_rows_no _ _ (fun i _ => by unfold rid; omega)]
      refine AW.ret ?_
      have h := Option.some.inj h
      subst h
      rw [List.map_append, hrs]
      exact ret_pure (hs := [.agg [hI (Ln : Int), slE (eSl eInt) (rowsK ((Ln : Int), (Sn : Int), E) E.length ++ [List.replicate Ln (Sn : Int)])], slE eInt [(Sn : Int)], hI 0]) (.inr rfl) (resP ty37 rfl rfl (l_litA rfl (lb rfl) rfl) (resT rfl (resT rfl rfl))) rfl ⟨⟨trivial, (clean_slE fun _ _ => ⟨(clean_slE fun _ _ => ⟨trivial, trivial⟩), trivial⟩), trivial⟩, (clean_slE fun _ _ => ⟨trivial, trivial⟩), trivial, trivial⟩
    have n0_1_2_3_4_5 : F [0, 1, 2, 3, 4, 5] (P [(83, hI (Sn : Int)), (84, .sl 1 1 [hI (Sn : Int)]), (3, .sl 1 1 [hI (Sn : Int)])] ((10002, v2, .arr 2 37 [hI (Ln : Int), .ar 10038 ov2 1 0 (hdr 0 (rs ++ [(vr, List.replicate Ln (Sn : Int))])).length]) :: (10007, u7, .arr 2 37 [hI (Ln : Int), .ar 10038 ov2 1 0 (hdr 0 (rs ++ [(vr, List.replicate Ln (Sn : Int))])).length]) :: (10038, ov2, .arr 1 27 (hdr 0 (rs ++ [(vr, List.replicate Ln (Sn : Int))]))) :: rowsO 0 (rs ++ [(vr, List.replicate Ln (Sn : Int))]))) := by
      refine l_take (i := 6) hF rfl rfl rfl (mv_val rfl rfl).2 ?_
      exact l_go hF rfl (n0_1_2_3_4_5_6) ⟨leS_get ⟨rfl, rfl, rfl, rfl, rfl, rfl, rfl, rfl, rfl, trivial⟩, fun _ _ h => h⟩
    have n0_1_2_3_4 : F [0, 1, 2, 3, 4] (P [(83, hI (Sn : Int)), (84, .sl 1 1 [hI (Sn : Int)])] ((10002, v2, .arr 2 37 [hI (Ln : Int), .ar 10038 ov2 1 0 (hdr 0 (rs ++ [(vr, List.replicate Ln (Sn : Int))])).length]) :: (10007, u7, .arr 2 37 [hI (Ln : Int), .ar 10038 ov2 1 0 (hdr 0 (rs ++ [(vr, List.replicate Ln (Sn : Int))])).length]) :: (10038, ov2, .arr 1 27 (hdr 0 (rs ++ [(vr, List.replicate Ln (Sn : Int))]))) :: rowsO 0 (rs ++ [(vr, List.replicate Ln (Sn : Int))]))) := by
      refine l_take (i := 5) hF rfl rfl rfl (mv_val rfl rfl).2 ?_
      exact l_go hF rfl (n0_1_2_3_4_5) ⟨leS_get ⟨rfl, rfl, rfl, rfl, rfl, rfl, rfl, rfl, trivial⟩, fun _ _ h => h⟩
    have n0_1_2_3 : F [0, 1, 2, 3] (P [(83, hI (Sn : Int)), (84, .sl 1 1 [hI (Sn : Int)])] ((10002, v2, .arr 2 37 zA) :: (10007, u7, .arr 2 37 [hI (Ln : Int), .ar 10038 ov2 1 0 (hdr 0 (rs ++ [(vr, List.replicate Ln (Sn : Int))])).length]) :: (10038, ov2, .arr 1 27 (hdr 0 (rs ++ [(vr, List.replicate Ln (Sn : Int))]))) :: rowsO 0 (rs ++ [(vr, List.replicate Ln (Sn : Int))]))) := by
      refine l_step hF rfl [4] rfl rfl ⟨?_, trivial⟩
      · exact l_op rfl rfl rfl (o_store (cs := [hI (Ln : Int), .ar 10038 ov2 1 0 (hdr 0 (rs ++ [(vr, List.replicate Ln (Sn : Int))])).length]) (zs := [hI (Ln : Int), .ar 10038 ov2 1 0 (hdr 0 (rs ++ [(vr, List.replicate Ln (Sn : Int))])).length]) rfl rfl rfl ty37 rfl rfl rfl rfl rfl (b_nil (l_go hF rfl (n0_1_2_3_4) ⟨leS_get ⟨rfl, rfl, rfl, rfl, rfl, rfl, rfl, trivial⟩, le_shadow⟩)))
    have n0_1_2_4 : F [0, 1, 2, 4] (P [(83, hI (Sn : Int))] ((10002, v2, .arr 2 37 [hI (Ln : Int), .ar 10038 ov2 1 0 (hdr 0 (rs ++ [(vr, List.replicate Ln (Sn : Int))])).length]) :: (10007, u7, .arr 2 37 [hI (Ln : Int), .ar 10038 ov2 1 0 (hdr 0 (rs ++ [(vr, List.replicate Ln (Sn : Int))])).length]) :: (10038, ov2, .arr 1 27 (hdr 0 (rs ++ [(vr, List.replicate Ln (Sn : Int))]))) :: rowsO 0 (rs ++ [(vr, List.replicate Ln (Sn : Int))]))) := by
      refine l_step hF rfl [3] rfl rfl ⟨?_, trivial⟩
      · exact l_op rfl rfl rfl (o_bsl rfl rfl (as_of (cs := [hI (Sn : Int)]) ty27 ty3 rfl rfl rfl rfl rfl) (b_nil (l_go hF rfl (n0_1_2_3_4) ⟨leS_get ⟨rfl, rfl, rfl, rfl, rfl, rfl, rfl, trivial⟩, fun _ _ h => h⟩)))
    have n1_2_3 : F [1, 2, 3] ⟨[(1, .fptr [hI (Ln : Int), hI (Sn : Int), slE eFromLabelTo E] 0), (2, .ptr 10002 v2 0), (7, .ptr 10007 u7 0), (82, .fptr [hI (Ln : Int), hI (Sn : Int), slE eFromLabelTo E] 1), (83, hI (Sn : Int)), (84, .sl 1 1 [hI (Sn : Int)])], (10002, v2, .arr 2 37 zA) :: (10007, u7, .arr 2 37 [hI (Ln : Int), .ar 10038 ov2 1 0 (hdr 0 (rs ++ [(vr, List.replicate Ln (Sn : Int))])).length]) :: (10038, ov2, .arr 1 27 (hdr 0 (rs ++ [(vr, List.replicate Ln (Sn : Int))]))) :: rowsO 0 (rs ++ [(vr, List.replicate Ln (Sn : Int))])⟩ := by
      refine l_step hF rfl [0] rfl rfl ⟨?_, trivial⟩
      · exact l_ov rfl rfl rfl rfl (v_loadP ty37 rfl rfl (l_litA rfl (lb rfl) rfl)) (l_go hF rfl (n0_1_2_3) ⟨leS_get ⟨rfl, rfl, rfl, rfl, rfl, rfl, rfl, trivial⟩, fun _ _ h => h⟩)
    have n0_1_2 : F [0, 1, 2] (P [(83, hI (Sn : Int))] ((10002, v2, .arr 2 37 zA) :: (10007, u7, .arr 2 37 [hI (Ln : Int), .ar 10038 ov2 1 0 (hdr 0 (rs ++ [(vr, List.replicate Ln (Sn : Int))])).length]) :: (10038, ov2, .arr 1 27 (hdr 0 (rs ++ [(vr, List.replicate Ln (Sn : Int))]))) :: rowsO 0 (rs ++ [(vr, List.replicate Ln (Sn : Int))]))) := by
      refine l_step hF rfl [3, 4] rfl rfl ⟨?_, ?_, trivial⟩
      · exact l_op rfl rfl rfl (o_bsl rfl rfl (as_of (cs := [hI (Sn : Int)]) ty27 ty3 rfl rfl rfl rfl rfl) (b_nil (l_go hF rfl (n0_1_2_3) ⟨leS_get ⟨rfl, rfl, rfl, rfl, rfl, rfl, rfl, trivial⟩, fun _ _ h => h⟩)))
      · exact l_op rfl rfl rfl (o_store (cs := [hI (Ln : Int), .ar 10038 ov2 1 0 (hdr 0 (rs ++ [(vr, List.replicate Ln (Sn : Int))])).length]) (zs := [hI (Ln : Int), .ar 10038 ov2 1 0 (hdr 0 (rs ++ [(vr, List.replicate Ln (Sn : Int))])).length]) rfl rfl rfl ty37 rfl rfl rfl rfl rfl (b_nil (l_go hF rfl (n0_1_2_4) ⟨leS_get ⟨rfl, rfl, rfl, rfl, rfl, rfl, trivial⟩, le_shadow⟩)))
    have n0_1_4 : F [0, 1, 4] (P [] ((10002, v2, .arr 2 37 [hI (Ln : Int), .ar 10038 ov2 1 0 (hdr 0 (rs ++ [(vr, List.replicate Ln (Sn : Int))])).length]) :: (10007, u7, .arr 2 37 [hI (Ln : Int), .ar 10038 ov2 1 0 (hdr 0 (rs ++ [(vr, List.replicate Ln (Sn : Int))])).length]) :: (10038, ov2, .arr 1 27 (hdr 0 (rs ++ [(vr, List.replicate Ln (Sn : Int))]))) :: rowsO 0 (rs ++ [(vr, List.replicate Ln (Sn : Int))]))) := by
      refine l_step hF rfl [2] rfl rfl ⟨?_, trivial⟩
      · exact l_ov rfl rfl rfl rfl (v_loadF ty3 rfl (l_lit rfl rfl)) (l_go hF rfl (n0_1_2_4) ⟨leS_get ⟨rfl, rfl, rfl, rfl, rfl, rfl, trivial⟩, fun _ _ h => h⟩)
    have n1_2 : F [1, 2] ⟨[(1, .fptr [hI (Ln : Int), hI (Sn : Int), slE eFromLabelTo E] 0), (2, .ptr 10002 v2 0), (7, .ptr 10007 u7 0), (82, .fptr [hI (Ln : Int), hI (Sn : Int), slE eFromLabelTo E] 1), (83, hI (Sn : Int))], (10002, v2, .arr 2 37 zA) :: (10007, u7, .arr 2 37 [hI (Ln : Int), .ar 10038 ov2 1 0 (hdr 0 (rs ++ [(vr, List.replicate Ln (Sn : Int))])).length]) :: (10038, ov2, .arr 1 27 (hdr 0 (rs ++ [(vr, List.replicate Ln (Sn : Int))]))) :: rowsO 0 (rs ++ [(vr, List.replicate Ln (Sn : Int))])⟩ := by
      refine l_step hF rfl [0, 3] rfl rfl ⟨?_, ?_, trivial⟩
      · exact l_ov rfl rfl rfl rfl (v_loadP ty37 rfl rfl (l_litA rfl (lb rfl) rfl)) (l_go hF rfl (n0_1_2) ⟨leS_get ⟨rfl, rfl, rfl, rfl, rfl, rfl, trivial⟩, fun _ _ h => h⟩)
      · exact l_op rfl rfl rfl (o_bsl rfl rfl (as_of (cs := [hI (Sn : Int)]) ty27 ty3 rfl rfl rfl rfl rfl) (b_nil (l_go hF rfl (n1_2_3) ⟨leS_get ⟨rfl, rfl, rfl, rfl, rfl, rfl, trivial⟩, fun _ _ h => h⟩)))
    have n0_1 : F [0, 1] (P [] ((10002, v2, .arr 2 37 zA) :: (10007, u7, .arr 2 37 [hI (Ln : Int), .ar 10038 ov2 1 0 (hdr 0 (rs ++ [(vr, List.replicate Ln (Sn : Int))])).length]) :: (10038, ov2, .arr 1 27 (hdr 0 (rs ++ [(vr, List.replicate Ln (Sn : Int))]))) :: rowsO 0 (rs ++ [(vr, List.replicate Ln (Sn : Int))]))) := by
      refine l_step hF rfl [2, 4] rfl rfl ⟨?_, ?_, trivial⟩
      · exact l_ov rfl rfl rfl rfl (v_loadF ty3 rfl (l_lit rfl rfl)) (l_go hF rfl (n0_1_2) ⟨leS_get ⟨rfl, rfl, rfl, rfl, rfl, rfl, trivial⟩, fun _ _ h => h⟩)
      · exact l_op rfl rfl rfl (o_store (cs := [hI (Ln : Int), .ar 10038 ov2 1 0 (hdr 0 (rs ++ [(vr, List.replicate Ln (Sn : Int))])).length]) (zs := [hI (Ln : Int), .ar 10038 ov2 1 0 (hdr 0 (rs ++ [(vr, List.replicate Ln (Sn : Int))])).length]) rfl rfl rfl ty37 rfl rfl rfl rfl rfl (b_nil (l_go hF rfl (n0_1_4) ⟨leS_get ⟨rfl, rfl, rfl, rfl, rfl, trivial⟩, le_shadow⟩)))
    have n1 : F [1] ⟨[(1, .fptr [hI (Ln : Int), hI (Sn : Int), slE eFromLabelTo E] 0), (2, .ptr 10002 v2 0), (7, .ptr 10007 u7 0), (82, .fptr [hI (Ln : Int), hI (Sn : Int), slE eFromLabelTo E] 1)], (10002, v2, .arr 2 37 zA) :: (10007, u7, .arr 2 37 [hI (Ln : Int), .ar 10038 ov2 1 0 (hdr 0 (rs ++ [(vr, List.replicate Ln (Sn : Int))])).length]) :: (10038, ov2, .arr 1 27 (hdr 0 (rs ++ [(vr, List.replicate Ln (Sn : Int))]))) :: rowsO 0 (rs ++ [(vr, List.replicate Ln (Sn : Int))])⟩ := by
      refine l_step hF rfl [0, 2] rfl rfl ⟨?_, ?_, trivial⟩
      · exact l_ov rfl rfl rfl rfl (v_loadP ty37 rfl rfl (l_litA rfl (lb rfl) rfl)) (l_go hF rfl (n0_1) ⟨leS_get ⟨rfl, rfl, rfl, rfl, rfl, trivial⟩, fun _ _ h => h⟩)
      · exact l_ov rfl rfl rfl rfl (v_loadF ty3 rfl (l_lit rfl rfl)) (l_go hF rfl (n1_2) ⟨leS_get ⟨rfl, rfl, rfl, rfl, rfl, trivial⟩, fun _ _ h => h⟩)
    have n : F [] ⟨[(1, .fptr [hI (Ln : Int), hI (Sn : Int), slE eFromLabelTo E] 0), (2, .ptr 10002 v2 0), (7, .ptr 10007 u7 0)], (10002, v2, .arr 2 37 zA) :: (10007, u7, .arr 2 37 [hI (Ln : Int), .ar 10038 ov2 1 0 (hdr 0 (rs ++ [(vr, List.replicate Ln (Sn : Int))])).length]) :: (10038, ov2, .arr 1 27 (hdr 0 (rs ++ [(vr, List.replicate Ln (Sn : Int))]))) :: rowsO 0 (rs ++ [(vr, List.replicate Ln (Sn : Int))])⟩ := by
      refine l_take (i := 1) hF rfl rfl rfl (v_fieldAddrF fo24_1 rfl) ?_
      exact l_go hF rfl (n1) ⟨leS_get ⟨rfl, rfl, rfl, rfl, trivial⟩, fun _ _ h => h⟩
    exact n
  let P : ASf := fun t H => ⟨(1, .fptr [hI (Ln : Int), hI (Sn : Int), slE eFromLabelTo E] 0) :: (2, .ptr 10002 v2 0) :: (7, .ptr 10007 u7 0) :: (70, .ptr 10007 u7 1) :: t, H⟩
  have n0_1_2_3_4_5_6_7_8_9_10 : ∀ (vr ov2 : Nat), F [0, 1, 2, 3, 4, 5, 6, 7, 8, 9, 10] (P [(71, .ar 10038 ov 1 0 (hdr 0 rs).length), (72, .fptr [hI (Ln : Int), hI (Sn : Int), slE eFromLabelTo E] 1), (73, hI (Sn : Int)), (74, .sl 1 1 [hI (Sn : Int)]), (75, .fptr [hI (Ln : Int), hI (Sn : Int), slE eFromLabelTo E] 0), (76, hI (Ln : Int)), (77, .ar (rid rs.length) vr 1 0 (List.replicate Ln (Sn : Int)).length), (78, .sl 1 1 [.ar (rid rs.length) vr 1 0 (List.replicate Ln (Sn : Int)).length]), (79, .ar 10038 ov2 1 0 (hdr 0 rs ++ [HV.ar (rid rs.length) vr 1 0 (List.replicate Ln (Sn : Int)).length]).length), (80, .ptr 10007 u7 1)] (hpA v2 u7 ov (Ln : Int) (hdr 0 rs).length ov2 (hdr 0 rs ++ [HV.ar (rid rs.length) vr 1 0 (List.replicate Ln (Sn : Int)).length]) (rs ++ [(vr, List.replicate Ln (Sn : Int))]))) := by
    intro vr ov2
    refine l_step hF rfl [11] rfl rfl ⟨?_, trivial⟩
    · exact l_op rfl rfl rfl (o_store (cs := [.ar 10038 ov2 1 0 (hdr 0 rs ++ [HV.ar (rid rs.length) vr 1 0 (List.replicate Ln (Sn : Int)).length]).length]) (zs := [hI (Ln : Int), .ar 10038 ov2 1 0 (hdr 0 rs ++ [HV.ar (rid rs.length) vr 1 0 (List.replicate Ln (Sn : Int)).length]).length]) rfl rfl rfl ty35 rfl rfl rfl rfl rfl (b_nil (l_go hF rfl (n0_1_2_3_4_5_6_7_8_9_10_11 vr ov2) ⟨leS_get ⟨rfl, rfl, rfl, rfl, rfl, rfl, rfl, rfl, rfl, rfl, rfl, rfl, rfl, rfl, trivial⟩, hp_sto⟩)))
  have n0_1_2_3_4_5_6_7_8_9 : ∀ (vr ov2 : Nat), F [0, 1, 2, 3, 4, 5, 6, 7, 8, 9] (P [(71, .ar 10038 ov 1 0 (hdr 0 rs).length), (72, .fptr [hI (Ln : Int), hI (Sn : Int), slE eFromLabelTo E] 1), (73, hI (Sn : Int)), (74, .sl 1 1 [hI (Sn : Int)]), (75, .fptr [hI (Ln : Int), hI (Sn : Int), slE eFromLabelTo E] 0), (76, hI (Ln : Int)), (77, .ar (rid rs.length) vr 1 0 (List.replicate Ln (Sn : Int)).length), (78, .sl 1 1 [.ar (rid rs.length) vr 1 0 (List.replicate Ln (Sn : Int)).length]), (79, .ar 10038 ov2 1 0 (hdr 0 rs ++ [HV.ar (rid rs.length) vr 1 0 (List.replicate Ln (Sn : Int)).length]).length)] (hpA v2 u7 ov (Ln : Int) (hdr 0 rs).length ov2 (hdr 0 rs ++ [HV.ar (rid rs.length) vr 1 0 (List.replicate Ln (Sn : Int)).length]) (rs ++ [(vr, List.replicate Ln (Sn : Int))]))) := by
    intro vr ov2
    refine l_take (i := 10) hF rfl rfl rfl (v_fieldAddrP fo37_1 rfl rfl) ?_
    exact l_go hF rfl (n0_1_2_3_4_5_6_7_8_9_10 vr ov2) ⟨leS_get ⟨rfl, rfl, rfl, rfl, rfl, rfl, rfl, rfl, rfl, rfl, rfl, rfl, rfl, rfl, trivial⟩, fun _ _ h => h⟩
  have n0_1_2_3_4_5_6_7_8 : ∀ (vr : Nat), F [0, 1, 2, 3, 4, 5, 6, 7, 8] (P [(71, .ar 10038 ov 1 0 (hdr 0 rs).length), (72, .fptr [hI (Ln : Int), hI (Sn : Int), slE eFromLabelTo E] 1), (73, hI (Sn : Int)), (74, .sl 1 1 [hI (Sn : Int)]), (75, .fptr [hI (Ln : Int), hI (Sn : Int), slE eFromLabelTo E] 0), (76, hI (Ln : Int)), (77, .ar (rid rs.length) vr 1 0 (List.replicate Ln (Sn : Int)).length), (78, .sl 1 1 [.ar (rid rs.length) vr 1 0 (List.replicate Ln (Sn : Int)).length])] (hpA v2 u7 ov (Ln : Int) (hdr 0 rs).length ov (hdr 0 rs) (rs ++ [(vr, List.replicate Ln (Sn : Int))]))) := by
    intro vr
    refine l_step hF rfl [9] rfl rfl ⟨?_, trivial⟩
    · exact l_op rfl rfl rfl (o_appE eHd (l := hdr 0 rs) (m := [.ar (rid rs.length) vr 1 0 (List.replicate Ln (Sn : Int)).length]) rfl rfl ty35 ty35 ty27 rfl rfl rfl rfl rfl hfit (fun ov2 => b_nil (l_go hF rfl (n0_1_2_3_4_5_6_7_8_9 vr ov2) ⟨leS_get ⟨rfl, rfl, rfl, rfl, rfl, rfl, rfl, rfl, rfl, rfl, rfl, rfl, rfl, trivial⟩, hp_app⟩)))
  have n0_2_3_4_5_6_7_8 : ∀ (vr : Nat), F [0, 2, 3, 4, 5, 6, 7, 8] (P [(72, .fptr [hI (Ln : Int), hI (Sn : Int), slE eFromLabelTo E] 1), (73, hI (Sn : Int)), (74, .sl 1 1 [hI (Sn : Int)]), (75, .fptr [hI (Ln : Int), hI (Sn : Int), slE eFromLabelTo E] 0), (76, hI (Ln : Int)), (77, .ar (rid rs.length) vr 1 0 (List.replicate Ln (Sn : Int)).length), (78, .sl 1 1 [.ar (rid rs.length) vr 1 0 (List.replicate Ln (Sn : Int)).length])] (hpA v2 u7 ov (Ln : Int) (hdr 0 rs).length ov (hdr 0 rs) (rs ++ [(vr, List.replicate Ln (Sn : Int))]))) := by
    intro vr
    refine l_step hF rfl [1] rfl rfl ⟨?_, trivial⟩
    · exact l_ov rfl rfl rfl rfl (v_loadP ty35 rfl rfl (l_lit rfl rfl)) (l_go hF rfl (n0_1_2_3_4_5_6_7_8 vr) ⟨leS_get ⟨rfl, rfl, rfl, rfl, rfl, rfl, rfl, rfl, rfl, rfl, rfl, rfl, trivial⟩, fun _ _ h => h⟩)
  have n0_1_2_3_4_5_6_7 : ∀ (vr : Nat), F [0, 1, 2, 3, 4, 5, 6, 7] (P [(71, .ar 10038 ov 1 0 (hdr 0 rs).length), (72, .fptr [hI (Ln : Int), hI (Sn : Int), slE eFromLabelTo E] 1), (73, hI (Sn : Int)), (74, .sl 1 1 [hI (Sn : Int)]), (75, .fptr [hI (Ln : Int), hI (Sn : Int), slE eFromLabelTo E] 0), (76, hI (Ln : Int)), (77, .ar (rid rs.length) vr 1 0 (List.replicate Ln (Sn : Int)).length)] (hpA v2 u7 ov (Ln : Int) (hdr 0 rs).length ov (hdr 0 rs) (rs ++ [(vr, List.replicate Ln (Sn : Int))]))) := by
    intro vr
    refine l_step hF rfl [8] rfl rfl ⟨?_, trivial⟩
    · exact l_op rfl rfl rfl (o_bsl rfl rfl (as_of (cs := [.ar (rid rs.length) vr 1 0 (List.replicate Ln (Sn : Int)).length]) ty35 ty27 rfl rfl rfl rfl rfl) (b_nil (l_go hF rfl (n0_1_2_3_4_5_6_7_8 vr) ⟨leS_get ⟨rfl, rfl, rfl, rfl, rfl, rfl, rfl, rfl, rfl, rfl, rfl, rfl, trivial⟩, fun _ _ h => h⟩)))
  have n0_2_3_4_5_6_7 : ∀ (vr : Nat), F [0, 2, 3, 4, 5, 6, 7] (P [(72, .fptr [hI (Ln : Int), hI (Sn : Int), slE eFromLabelTo E] 1), (73, hI (Sn : Int)), (74, .sl 1 1 [hI (Sn : Int)]), (75, .fptr [hI (Ln : Int), hI (Sn : Int), slE eFromLabelTo E] 0), (76, hI (Ln : Int)), (77, .ar (rid rs.length) vr 1 0 (List.replicate Ln (Sn : Int)).length)] (hpA v2 u7 ov (Ln : Int) (hdr 0 rs).length ov (hdr 0 rs) (rs ++ [(vr, List.replicate Ln (Sn : Int))]))) := by
    intro vr
    refine l_step hF rfl [1, 8] rfl rfl ⟨?_, ?_, trivial⟩
    · exact l_ov rfl rfl rfl rfl (v_loadP ty35 rfl rfl (l_lit rfl rfl)) (l_go hF rfl (n0_1_2_3_4_5_6_7 vr) ⟨leS_get ⟨rfl, rfl, rfl, rfl, rfl, rfl, rfl, rfl, rfl, rfl, rfl, trivial⟩, fun _ _ h => h⟩)
    · exact l_op rfl rfl rfl (o_bsl rfl rfl (as_of (cs := [.ar (rid rs.length) vr 1 0 (List.replicate Ln (Sn : Int)).length]) ty35 ty27 rfl rfl rfl rfl rfl) (b_nil (l_go hF rfl (n0_2_3_4_5_6_7_8 vr) ⟨leS_get ⟨rfl, rfl, rfl, rfl, rfl, rfl, rfl, rfl, rfl, rfl, rfl, trivial⟩, fun _ _ h => h⟩)))
  have n0_1_2_3_4_5_6 : F [0, 1, 2, 3, 4, 5, 6] (P [(71, .ar 10038 ov 1 0 (hdr 0 rs).length), (72, .fptr [hI (Ln : Int), hI (Sn : Int), slE eFromLabelTo E] 1), (73, hI (Sn : Int)), (74, .sl 1 1 [hI (Sn : Int)]), (75, .fptr [hI (Ln : Int), hI (Sn : Int), slE eFromLabelTo E] 0), (76, hI (Ln : Int))] (hpA v2 u7 ov (Ln : Int) (hdr 0 rs).length ov (hdr 0 rs) rs)) := by
    refine l_step hF rfl [7] rfl rfl ⟨?_, trivial⟩
    · exact l_op rfl rfl rfl (o_callA rfl rfl rfl rfl (repI_own (Sn : Int) hLn rs.length fun vr => b_nil (l_go hF rfl (n0_1_2_3_4_5_6_7 vr) ⟨leS_get ⟨rfl, rfl, rfl, rfl, rfl, rfl, rfl, rfl, rfl, rfl, rfl, trivial⟩, hp_call⟩)))
  have n0_2_3_4_5_6 : F [0, 2, 3, 4, 5, 6] (P [(72, .fptr [hI (Ln : Int), hI (Sn : Int), slE eFromLabelTo E] 1), (73, hI (Sn : Int)), (74, .sl 1 1 [hI (Sn : Int)]), (75, .fptr [hI (Ln : Int), hI (Sn : Int), slE eFromLabelTo E] 0), (76, hI (Ln : Int))] (hpA v2 u7 ov (Ln : Int) (hdr 0 rs).length ov (hdr 0 rs) rs)) := by
    refine l_step hF rfl [1, 7] rfl rfl ⟨?_, ?_, trivial⟩
    · exact l_ov rfl rfl rfl rfl (v_loadP ty35 rfl rfl (l_lit rfl rfl)) (l_go hF rfl (n0_1_2_3_4_5_6) ⟨leS_get ⟨rfl, rfl, rfl, rfl, rfl, rfl, rfl, rfl, rfl, rfl, trivial⟩, fun _ _ h => h⟩)
    · exact l_op rfl rfl rfl (o_callA rfl rfl rfl rfl (repI_own (Sn : Int) hLn rs.length fun vr => b_nil (l_go hF rfl (n0_2_3_4_5_6_7 vr) ⟨leS_get ⟨rfl, rfl, rfl, rfl, rfl, rfl, rfl, rfl, rfl, rfl, trivial⟩, hp_call⟩)))
  have n0_1_2_3_5_6 : F [0, 1, 2, 3, 5, 6] (P [(71, .ar 10038 ov 1 0 (hdr 0 rs).length), (72, .fptr [hI (Ln : Int), hI (Sn : Int), slE eFromLabelTo E] 1), (73, hI (Sn : Int)), (75, .fptr [hI (Ln : Int), hI (Sn : Int), slE eFromLabelTo E] 0), (76, hI (Ln : Int))] (hpA v2 u7 ov (Ln : Int) (hdr 0 rs).length ov (hdr 0 rs) rs)) := by
    refine l_step hF rfl [4] rfl rfl ⟨?_, trivial⟩
    · exact l_op rfl rfl rfl (o_bsl rfl rfl (as_of (cs := [hI (Sn : Int)]) ty27 ty3 rfl rfl rfl rfl rfl) (b_nil (l_go hF rfl (n0_1_2_3_4_5_6) ⟨leS_get ⟨rfl, rfl, rfl, rfl, rfl, rfl, rfl, rfl, rfl, rfl, trivial⟩, fun _ _ h => h⟩)))
  have n0_1_2_3_4_5 : F [0, 1, 2, 3, 4, 5] (P [(71, .ar 10038 ov 1 0 (hdr 0 rs).length), (72, .fptr [hI (Ln : Int), hI (Sn : Int), slE eFromLabelTo E] 1), (73, hI (Sn : Int)), (74, .sl 1 1 [hI (Sn : Int)]), (75, .fptr [hI (Ln : Int), hI (Sn : Int), slE eFromLabelTo E] 0)] (hpA v2 u7 ov (Ln : Int) (hdr 0 rs).length ov (hdr 0 rs) rs)) := by
    refine l_step hF rfl [6] rfl rfl ⟨?_, trivial⟩
    · exact l_ov rfl rfl rfl rfl (v_loadF ty3 rfl (l_lit rfl rfl)) (l_go hF rfl (n0_1_2_3_4_5_6) ⟨leS_get ⟨rfl, rfl, rfl, rfl, rfl, rfl, rfl, rfl, rfl, rfl, trivial⟩, fun _ _ h => h⟩)
  have n0_2_3_5_6 : F [0, 2, 3, 5, 6] (P [(72, .fptr [hI (Ln : Int), hI (Sn : Int), slE eFromLabelTo E] 1), (73, hI (Sn : Int)), (75, .fptr [hI (Ln : Int), hI (Sn : Int), slE eFromLabelTo E] 0), (76, hI (Ln : Int))] (hpA v2 u7 ov (Ln : Int) (hdr 0 rs).length ov (hdr 0 rs) rs)) := by
    refine l_step hF rfl [1, 4] rfl rfl ⟨?_, ?_, trivial⟩
    · exact l_ov rfl rfl rfl rfl (v_loadP ty35 rfl rfl (l_lit rfl rfl)) (l_go hF rfl (n0_1_2_3_5_6) ⟨leS_get ⟨rfl, rfl, rfl, rfl, rfl, rfl, rfl, rfl, rfl, trivial⟩, fun _ _ h => h⟩)
    · exact l_op rfl rfl rfl (o_bsl rfl rfl (as_of (cs := [hI (Sn : Int)]) ty27 ty3 rfl rfl rfl rfl rfl) (b_nil (l_go hF rfl (n0_2_3_4_5_6) ⟨leS_get ⟨rfl, rfl, rfl, rfl, rfl, rfl, rfl, rfl, rfl, trivial⟩, fun _ _ h => h⟩)))
  have n0_1_2_5_6 : F [0, 1, 2, 5, 6] (P [(71, .ar 10038 ov 1 0 (hdr 0 rs).length), (72, .fptr [hI (Ln : Int), hI (Sn : Int), slE eFromLabelTo E] 1), (75, .fptr [hI (Ln : Int), hI (Sn : Int), slE eFromLabelTo E] 0), (76, hI (Ln : Int))] (hpA v2 u7 ov (Ln : Int) (hdr 0 rs).length ov (hdr 0 rs) rs)) := by
    refine l_step hF rfl [3] rfl rfl ⟨?_, trivial⟩
    · exact l_ov rfl rfl rfl rfl (v_loadF ty3 rfl (l_lit rfl rfl)) (l_go hF rfl (n0_1_2_3_5_6) ⟨leS_get ⟨rfl, rfl, rfl, rfl, rfl, rfl, rfl, rfl, rfl, trivial⟩, fun _ _ h => h⟩)
  have n0_2_3_4_5 : F [0, 2, 3, 4, 5] (P [(72, .fptr [hI (Ln : Int), hI (Sn : Int), slE eFromLabelTo E] 1), (73, hI (Sn : Int)), (74, .sl 1 1 [hI (Sn : Int)]), (75, .fptr [hI (Ln : Int), hI (Sn : Int), slE eFromLabelTo E] 0)] (hpA v2 u7 ov (Ln : Int) (hdr 0 rs).length ov (hdr 0 rs) rs)) := by
    refine l_step hF rfl [1, 6] rfl rfl ⟨?_, ?_, trivial⟩
    · exact l_ov rfl rfl rfl rfl (v_loadP ty35 rfl rfl (l_lit rfl rfl)) (l_go hF rfl (n0_1_2_3_4_5) ⟨leS_get ⟨rfl, rfl, rfl, rfl, rfl, rfl, rfl, rfl, rfl, trivial⟩, fun _ _ h => h⟩)
    · exact l_ov rfl rfl rfl rfl (v_loadF ty3 rfl (l_lit rfl rfl)) (l_go hF rfl (n0_2_3_4_5_6) ⟨leS_get ⟨rfl, rfl, rfl, rfl, rfl, rfl, rfl, rfl, rfl, trivial⟩, fun _ _ h => h⟩)
  have n0_1_2_3_5 : F [0, 1, 2, 3, 5] (P [(71, .ar 10038 ov 1 0 (hdr 0 rs).length), (72, .fptr [hI (Ln : Int), hI (Sn : Int), slE eFromLabelTo E] 1), (73, hI (Sn : Int)), (75, .fptr [hI (Ln : Int), hI (Sn : Int), slE eFromLabelTo E] 0)] (hpA v2 u7 ov (Ln : Int) (hdr 0 rs).length ov (hdr 0 rs) rs)) := by
    refine l_step hF rfl [4, 6] rfl rfl ⟨?_, ?_, trivial⟩
    · exact l_op rfl rfl rfl (o_bsl rfl rfl (as_of (cs := [hI (Sn : Int)]) ty27 ty3 rfl rfl rfl rfl rfl) (b_nil (l_go hF rfl (n0_1_2_3_4_5) ⟨leS_get ⟨rfl, rfl, rfl, rfl, rfl, rfl, rfl, rfl, rfl, trivial⟩, fun _ _ h => h⟩)))
    · exact l_ov rfl rfl rfl rfl (v_loadF ty3 rfl (l_lit rfl rfl)) (l_go hF rfl (n0_1_2_3_5_6) ⟨leS_get ⟨rfl, rfl, rfl, rfl, rfl, rfl, rfl, rfl, rfl, trivial⟩, fun _ _ h => h⟩)
  have n0_2_5_6 : F [0, 2, 5, 6] (P [(72, .fptr [hI (Ln : Int), hI (Sn : Int), slE eFromLabelTo E] 1), (75, .fptr [hI (Ln : Int), hI (Sn : Int), slE eFromLabelTo E] 0), (76, hI (Ln : Int))] (hpA v2 u7 ov (Ln : Int) (hdr 0 rs).length ov (hdr 0 rs) rs)) := by
    refine l_step hF rfl [1, 3] rfl rfl ⟨?_, ?_, trivial⟩
    · exact l_ov rfl rfl rfl rfl (v_loadP ty35 rfl rfl (l_lit rfl rfl)) (l_go hF rfl (n0_1_2_5_6) ⟨leS_get ⟨rfl, rfl, rfl, rfl, rfl, rfl, rfl, rfl, trivial⟩, fun _ _ h => h⟩)
    · exact l_ov rfl rfl rfl rfl (v_loadF ty3 rfl (l_lit rfl rfl)) (l_go hF rfl (n0_2_3_5_6) ⟨leS_get ⟨rfl, rfl, rfl, rfl, rfl, rfl, rfl, rfl, trivial⟩, fun _ _ h => h⟩)
  have n0_2_3_5 : F [0, 2, 3, 5] (P [(72, .fptr [hI (Ln : Int), hI (Sn : Int), slE eFromLabelTo E] 1), (73, hI (Sn : Int)), (75, .fptr [hI (Ln : Int), hI (Sn : Int), slE eFromLabelTo E] 0)] (hpA v2 u7 ov (Ln : Int) (hdr 0 rs).length ov (hdr 0 rs) rs)) := by
    refine l_step hF rfl [1, 4, 6] rfl rfl ⟨?_, ?_, ?_, trivial⟩
    · exact l_ov rfl rfl rfl rfl (v_loadP ty35 rfl rfl (l_lit rfl rfl)) (l_go hF rfl (n0_1_2_3_5) ⟨leS_get ⟨rfl, rfl, rfl, rfl, rfl, rfl, rfl, rfl, trivial⟩, fun _ _ h => h⟩)
    · exact l_op rfl rfl rfl (o_bsl rfl rfl (as_of (cs := [hI (Sn : Int)]) ty27 ty3 rfl rfl rfl rfl rfl) (b_nil (l_go hF rfl (n0_2_3_4_5) ⟨leS_get ⟨rfl, rfl, rfl, rfl, rfl, rfl, rfl, rfl, trivial⟩, fun _ _ h => h⟩)))
    · exact l_ov rfl rfl rfl rfl (v_loadF ty3 rfl (l_lit rfl rfl)) (l_go hF rfl (n0_2_3_5_6) ⟨leS_get ⟨rfl, rfl, rfl, rfl, rfl, rfl, rfl, rfl, trivial⟩, fun _ _ h => h⟩)
  have n0_1_2_5 : F [0, 1, 2, 5] (P [(71, .ar 10038 ov 1 0 (hdr 0 rs).length), (72, .fptr [hI (Ln : Int), hI (Sn : Int), slE eFromLabelTo E] 1), (75, .fptr [hI (Ln : Int), hI (Sn : Int), slE eFromLabelTo E] 0)] (hpA v2 u7 ov (Ln : Int) (hdr 0 rs).length ov (hdr 0 rs) rs)) := by
    refine l_step hF rfl [3, 6] rfl rfl ⟨?_, ?_, trivial⟩
    · exact l_ov rfl rfl rfl rfl (v_loadF ty3 rfl (l_lit rfl rfl)) (l_go hF rfl (n0_1_2_3_5) ⟨leS_get ⟨rfl, rfl, rfl, rfl, rfl, rfl, rfl, rfl, trivial⟩, fun _ _ h => h⟩)
    · exact l_ov rfl rfl rfl rfl (v_loadF ty3 rfl (l_lit rfl rfl)) (l_go hF rfl (n0_1_2_5_6) ⟨leS_get ⟨rfl, rfl, rfl, rfl, rfl, rfl, rfl, rfl, trivial⟩, fun _ _ h => h⟩)
  have n0_2_5 : F [0, 2, 5] (P [(72, .fptr [hI (Ln : Int), hI (Sn : Int), slE eFromLabelTo E] 1), (75, .fptr [hI (Ln : Int), hI (Sn : Int), slE eFromLabelTo E] 0)] (hpA v2 u7 ov (Ln : Int) (hdr 0 rs).length ov (hdr 0 rs) rs)) := by
    refine l_step hF rfl [1, 3, 6] rfl rfl ⟨?_, ?_, ?_, trivial⟩
    · exact l_ov rfl rfl rfl rfl (v_loadP ty35 rfl rfl (l_lit rfl rfl)) (l_go hF rfl (n0_1_2_5) ⟨leS_get ⟨rfl, rfl, rfl, rfl, rfl, rfl, rfl, trivial⟩, fun _ _ h => h⟩)
    · exact l_ov rfl rfl rfl rfl (v_loadF ty3 rfl (l_lit rfl rfl)) (l_go hF rfl (n0_2_3_5) ⟨leS_get ⟨rfl, rfl, rfl, rfl, rfl, rfl, rfl, trivial⟩, fun _ _ h => h⟩)
    · exact l_ov rfl rfl rfl rfl (v_loadF ty3 rfl (l_lit rfl rfl)) (l_go hF rfl (n0_2_5_6) ⟨leS_get ⟨rfl, rfl, rfl, rfl, rfl, rfl, rfl, trivial⟩, fun _ _ h => h⟩)
  have n0_2 : F [0, 2] (P [(72, .fptr [hI (Ln : Int), hI (Sn : Int), slE eFromLabelTo E] 1)] (hpA v2 u7 ov (Ln : Int) (hdr 0 rs).length ov (hdr 0 rs) rs)) := by
    refine l_take (i := 5) hF rfl rfl rfl (v_fieldAddrF fo24_0 rfl) ?_
    exact l_go hF rfl (n0_2_5) ⟨leS_get ⟨rfl, rfl, rfl, rfl, rfl, rfl, trivial⟩, fun _ _ h => h⟩
  have n0 : F [0] (P [] (hpA v2 u7 ov (Ln : Int) (hdr 0 rs).length ov (hdr 0 rs) rs)) := by
    refine l_take (i := 2) hF rfl rfl rfl (v_fieldAddrF fo24_1 rfl) ?_
    exact l_go hF rfl (n0_2) ⟨leS_get ⟨rfl, rfl, rfl, rfl, rfl, trivial⟩, fun _ _ h => h⟩
  have n : F [] ⟨[(1, .fptr [hI (Ln : Int), hI (Sn : Int), slE eFromLabelTo E] 0), (2, .ptr 10002 v2 0), (7, .ptr 10007 u7 0)], hpA v2 u7 ov (Ln : Int) (hdr 0 rs).length ov (hdr 0 rs) rs⟩ := by
    refine l_take (i := 0) hF rfl rfl rfl (v_fieldAddrP fo37_1 rfl rfl) ?_
    exact l_go hF rfl (n0) ⟨leS_get ⟨rfl, rfl, rfl, rfl, trivial⟩, fun _ _ h => h⟩
  exact n
set_option maxHeartbeats 1600000
set_option maxRecDepth 100000
theorem w_ref09_Great {p0 : TLabelsStatesEdges} {r : Bool} (h : m_ref09_Great p0 = some r) : Pure Tryz.prog 14 [gA p0] (· = HV.bool r) := by
 unfold m_ref09_Great at h
 refine Pure.of_body Tryz.func14 rfl rfl (lb rfl) fun hf => ?_
 unfold Tryz.f14
 dsimp only [enumS, Nat.reduceAdd]
 refine AW.rgs rfl fun K hK => b_op rfl (o_box rfl rfl rfl ?_)
 refine mv rfl rfl ?_
 refine bf hK ⟨[(1, gF p0)], []⟩ ?_
 refine AW.seqJ h (S := Bool) (V := Unit) (fun a v => ⟨[(2, .bool a)], []⟩) (fun a1 w2 h => ?_) (fun k3 h => ?_)
 ·refine AW.ret ?_
  have h := Option.some.inj h
  subst h
  exact ret_pure (hs := [.bool a1]) (.inr rfl) (resT rfl rfl) rfl trivial
 refine AW.rg rfl fun K hK => bv rfl (v_fieldAddrF fo24_2 rfl) (bv rfl (v_loadF ty22 rfl (l_lit rfl rfl)) (bv rfl (v_lenF rfl rfl ty22 rfl) (bv rfl (v_bin rfl rfl b_gtr) (mv rfl rfl ?_))))
 by_cases hg5 : 30 < ((p0.2.2).length : Int)
 ·have h := ifT hg5 h
  refine b_F rfl rfl rfl rfl rfl (decide_eq_true hg5) ?_
  refine b_F rfl rfl rfl rfl rfl rfl ?_
  refine b_F rfl rfl rfl rfl rfl rfl ?_
  refine b_F rfl rfl rfl rfl rfl rfl ?_
  refine b_U rfl rfl rfl rfl rfl ?_
  refine b_U rfl rfl rfl rfl rfl ?_
  refine b_U rfl rfl rfl rfl rfl ?_
  refine b_F rfl rfl rfl rfl rfl rfl ?_
  refine bv rfl (v_pickT rfl rfl rfl) (mv rfl rfl ?_)
  refine b_nil (hK _ ?_)
  exact to_L ⟨true, (), h, rfl⟩
 have h := ifF hg5 h
 refine b_T rfl rfl rfl rfl (decide_eq_false hg5) (o_val rfl (v_fieldAddrF fo24_1 rfl) ?_)
 refine b_T rfl rfl rfl rfl rfl (o_val rfl (v_loadF ty3 rfl (l_lit rfl rfl)) ?_)
 refine b_T rfl rfl rfl rfl rfl (o_val rfl (v_bin rfl rfl b_gtr) ?_)
 refine b_T rfl rfl rfl rfl rfl (o_val rfl (mv_val rfl rfl).2 ?_)
 by_cases hg4 : 10 < p0.2.1
 ·have h := ifT hg4 h
  refine b_T rfl rfl rfl rfl (decide_eq_true hg4) (o_val rfl (v_fieldAddrF fo24_1 rfl) ?_)
  refine b_T rfl rfl rfl rfl rfl (o_val rfl (v_loadF ty3 rfl (l_lit rfl rfl)) ?_)
  refine b_T rfl rfl rfl rfl rfl (o_val rfl (v_bin rfl rfl b_leq) ?_)
  refine b_T rfl rfl rfl rfl rfl (o_val rfl (v_pickT rfl rfl rfl) ?_)
  refine bv rfl (v_pickF rfl rfl rfl) (mv rfl rfl ?_)
  refine b_nil (hK _ ?_)
  exact to_L ⟨decide (p0.2.1 ≤ 64), (), h, rfl⟩
 have h := ifF hg4 h
 refine b_F rfl rfl rfl rfl rfl (decide_eq_false hg4) ?_
 refine b_F rfl rfl rfl rfl rfl rfl ?_
 refine b_F rfl rfl rfl rfl rfl rfl ?_
 refine b_T rfl rfl rfl rfl rfl (o_val rfl (v_pickF rfl rfl rfl) ?_)
 refine bv rfl (v_pickF rfl rfl rfl) (mv rfl rfl ?_)
 refine b_nil (hK _ ?_)
 exact to_L ⟨false, (), h, rfl⟩
theorem w_law12_great {p0 : TLabelsStatesEdges} {r : Bool} (h : m_law12_great p0 = some r) : Pure Tryz.prog 4 [gA p0] (· = HV.bool r) := by
 unfold m_law12_great at h
 refine Pure.of_body Tryz.func4 rfl rfl (lb rfl) fun hf => ?_
 unfold Tryz.f4
 dsimp only [enumS, Nat.reduceAdd]
 refine AW.rgs rfl fun K hK => b_op rfl (o_box rfl rfl rfl ?_)
 refine mv rfl rfl ?_
 refine bf hK ⟨[(1, gF p0)], []⟩ ?_
 refine AW.rgs rfl fun K hK => bv rfl (v_loadF ty24 rfl (l_litA rfl (lb rfl) rfl)) ?_
 obtain ⟨x1, h2, h⟩ := bS h
 refine b_op rfl (o_call rfl rfl rfl rfl (ACallD.pure0 (w_ref09_Great h2)) ?_)
 refine mv rfl rfl ?_
 refine bf hK ⟨[(2, .bool x1)], []⟩ ?_
 refine AW.ret ?_
 have h := Option.some.inj h
 subst h
 exact ret_pure (hs := [.bool x1]) (.inr rfl) (resT rfl rfl) rfl trivial
theorem w_ref09_Compare {p0 : TFromLabelTo} {p1 : TFromLabelTo} {r : Int} (h : m_ref09_Compare p0 p1 = some r) : Pure Tryz.prog 40 [.agg [hI p0.1, hI p0.2.1, hI p0.2.2], .agg [hI p1.1, hI p1.2.1, hI p1.2.2]] (· = hI r) := by
 unfold m_ref09_Compare at h
 refine Pure.of_body Tryz.func40 rfl rfl (lb rfl) fun hf => ?_
 unfold Tryz.f40
 dsimp only [enumS, Nat.reduceAdd]
 refine AW.rgs rfl fun K hK => b_op rfl (o_box rfl rfl rfl ?_)
 refine b_op rfl (o_box rfl rfl rfl ?_)
 refine mv rfl rfl ?_
 refine bf hK ⟨[(2, .fptr [hI p0.1, hI p0.2.1, hI p0.2.2] 0), (3, .fptr [hI p1.1, hI p1.2.1, hI p1.2.2] 0)], []⟩ ?_
 refine AW.dgs 16 follows rfl rfl fun K hK => ?_
 refine sv rfl (v_fieldAddrF fo49_0 rfl) ?_
 refine sv rfl (v_loadF ty3 rfl (l_lit rfl rfl)) ?_
 refine sv rfl (v_fieldAddrF fo49_1 rfl) ?_
 refine sv rfl (v_loadF ty3 rfl (l_lit rfl rfl)) ?_
 refine sv rfl (v_fieldAddrF fo49_2 rfl) ?_
 refine sv rfl (v_loadF ty3 rfl (l_lit rfl rfl)) ?_
 refine s_op rfl rfl (ops_bsl rfl rfl (as_of (cs := [hI p0.1, hI p0.2.1, hI p0.2.2]) ty27 ty3 rfl rfl rfl rfl rfl) ?_)
 refine sv rfl (v_fieldAddrF fo49_0 rfl) ?_
 refine sv rfl (v_loadF ty3 rfl (l_lit rfl rfl)) ?_
 refine sv rfl (v_fieldAddrF fo49_1 rfl) ?_
 refine sv rfl (v_loadF ty3 rfl (l_lit rfl rfl)) ?_
 refine sv rfl (v_fieldAddrF fo49_2 rfl) ?_
 refine sv rfl (v_loadF ty3 rfl (l_lit rfl rfl)) ?_
 refine s_op rfl rfl (ops_bsl rfl rfl (as_of (cs := [hI p1.1, hI p1.2.1, hI p1.2.2]) ty27 ty3 rfl rfl rfl rfl rfl) ?_)
 refine sm rfl rfl ?_
 refine sm rfl rfl ?_
 refine s_nil ?_
 let E1 : Nat × HV := (5, slE eInt [p0.1, p0.2.1, p0.2.2])
 let E2 : Nat × HV := (6, slE eInt [p1.1, p1.2.1, p1.2.2])
 refine bf hK ⟨[E1, E2], []⟩ ?_
 refine AW.seq ?_
 refine AW.rgs rfl fun K hK => mv rfl rfl ?_
 refine bf hK ⟨[E1, E2, (7, hI 0)], []⟩ ?_
 refine AW.lpR h (by first | exact up_then | exact up_to) (S := Int) (V := Unit) (fun a v => ⟨[E1, E2, (7, hI a)], []⟩) ?_ (X := Unit) (W := Unit) (fun a v => ⟨[], []⟩) (fun a13 w14 h => ?_) (fun a1 w2 st3 h hr4=> ?_)
 ·exact to_L ⟨(), rfl⟩
 ·refine AW.rgs rfl fun K hK => mv rfl rfl ?_
  refine bf hK ⟨[(4, hI 0)], []⟩ ?_
  refine AW.ret ?_
  have h := Option.some.inj h
  subst h
  exact ret_pure (hs := [hI 0]) (.inr rfl) (resT rfl rfl) rfl trivial
 refine AW.seq ?_
 refine AW.rgs rfl fun K hK => mv rfl rfl (bv rfl (v_bin rfl rfl b_lss) ?_)
 refine bf hK ⟨[E1, E2, (7, hI a1), (23, .bool (decide (a1 < 3)))], []⟩ ?_
 refine AW.cond rfl (fun hc => ?_) (fun hc => ?_)
 ·obtain ⟨hc, h⟩ := cT hc h
  refine AW.skip ?_
  refine AW.seq (AW.block ?_)
  refine AW.seq ?_
  refine AW.dgs 9 follows rfl rfl fun K hK => ?_
  refine sm rfl rfl ?_
  refine sm rfl rfl ?_
  obtain ⟨x5, h6, h⟩ := bS h
  refine sv rfl (v_idxF ty27 es27 rfl rfl (idx_lt h6)) ?_
  refine sv rfl (v_loadF ty3 rfl (l_cell eInt h6 (o := 0) rfl rfl)) ?_
  refine sm rfl rfl ?_
  refine sm rfl rfl ?_
  obtain ⟨x7, h8, h⟩ := bS h
  refine sv rfl (v_idxF ty27 es27 rfl rfl (idx_lt h8)) ?_
  refine sv rfl (v_loadF ty3 rfl (l_cell eInt h8 (o := 0) rfl rfl)) ?_
  refine sv rfl (v_bin rfl rfl b_lss) ?_
  refine s_nil ?_
  refine bf hK ⟨[E1, E2, (7, hI a1), (34, .bool (decide (x5 < x7)))], []⟩ ?_
  refine AW.cond rfl (fun hc => ?_) (fun hc => ?_)
  ·obtain ⟨hc, h⟩ := cT hc h
   refine AW.rgs rfl fun K hK => mv rfl rfl ?_
   refine bf hK ⟨[(4, hI (-1))], []⟩ ?_
   have h := hr4 _ h
   refine AW.ret ?_
   have h := Option.some.inj h
   subst h
   exact ret_pure (hs := [hI (-1)]) (.inr rfl) (resT rfl rfl) rfl trivial
  obtain ⟨hc, h⟩ := cF hc h
  refine AW.skip ?_
  refine AW.dgs 9 follows rfl rfl fun K hK => ?_
  refine sm rfl rfl ?_
  refine sm rfl rfl ?_
  obtain ⟨x9, h10, h⟩ := bS h
  refine sv rfl (v_idxF ty27 es27 rfl rfl (idx_lt h10)) ?_
  refine sv rfl (v_loadF ty3 rfl (l_cell eInt h10 (o := 0) rfl rfl)) ?_
  refine sm rfl rfl ?_
  refine sm rfl rfl ?_
  obtain ⟨x11, h12, h⟩ := bS h
  refine sv rfl (v_idxF ty27 es27 rfl rfl (idx_lt h12)) ?_
  refine sv rfl (v_loadF ty3 rfl (l_cell eInt h12 (o := 0) rfl rfl)) ?_
  refine sv rfl (v_bin rfl rfl b_gtr) ?_
  refine s_nil ?_
  refine bf hK ⟨[E1, E2, (7, hI a1), (43, .bool (decide (x11 < x9)))], []⟩ ?_
  refine AW.cond rfl (fun hc => ?_) (fun hc => ?_)
  ·obtain ⟨hc, h⟩ := cT hc h
   refine AW.rgs rfl fun K hK => mv rfl rfl ?_
   refine bf hK ⟨[(4, hI 1)], []⟩ ?_
   have h := hr4 _ h
   refine AW.ret ?_
   have h := Option.some.inj h
   subst h
   exact ret_pure (hs := [hI 1]) (.inr rfl) (resT rfl rfl) rfl trivial
  obtain ⟨hc, h⟩ := cF hc h
  refine AW.skip ?_
  refine AW.rg rfl fun K hK => mv rfl rfl (bv rfl (v_bin rfl rfl b_add) (mv rfl rfl ?_))
  refine b_nil (hK _ ?_)
  exact to_L ⟨IntKind.wrap .i64 (a1 + 1), (), h, rfl⟩
 obtain ⟨hc, h⟩ := cF hc h
 refine AW.exit ?_
 exact to_L ⟨(), (), h, rfl⟩
theorem w_ref09_Check {p0 : TLabelsStatesEdges} {r : Int} (h : m_ref09_Check p0 = some r) : Pure Tryz.prog 24 [gA p0] (· = hI r) := by
 unfold m_ref09_Check at h
 refine Pure.of_body Tryz.func24 rfl rfl (lb rfl) fun hf => ?_
 unfold Tryz.f24
 dsimp only [enumS, Nat.reduceAdd]
 refine AW.rgs rfl fun K hK => b_op rfl (o_box rfl rfl rfl ?_)
 refine mv rfl rfl ?_
 let P1 : ASf := fun t H => ⟨(1, gF p0) :: t, H⟩
 refine bf hK (P1 [] []) ?_
 refine AW.seq ?_
 refine AW.seqJ h (S := Bool) (V := Unit) (fun a v => (P1 [(12, .bool a)] [])) (fun a1 w2 h => ?_) (fun k3 h => ?_)
 ·refine AW.cond rfl (fun hc => ?_) (fun hc => ?_)
  ·have h := ifT hc h
   refine AW.rgs rfl fun K hK => mv rfl rfl ?_
   refine bf hK ⟨[(2, hI 12)], []⟩ ?_
   refine AW.ret ?_
   have h := Option.some.inj h
   subst h
   exact ret_pure (hs := [hI 12]) (.inr rfl) (resT rfl rfl) rfl trivial
  have h := ifF (bF' hc) h
  refine AW.skip ?_
  refine AW.seq ?_
  refine AW.rgs rfl fun K hK => bv rfl (v_fieldAddrF fo24_1 rfl) (bv rfl (v_loadF ty3 rfl (l_lit rfl rfl)) (bv rfl (v_bin rfl rfl b_lss) ?_))
  refine bf hK (P1 [(15, .bool (decide (p0.2.1 < 0)))] []) ?_
  refine AW.cond rfl (fun hc => ?_) (fun hc => ?_)
  ·obtain ⟨hc, h⟩ := cT hc h
   refine AW.rgs rfl fun K hK => mv rfl rfl ?_
   refine bf hK ⟨[(2, hI 2)], []⟩ ?_
   refine AW.ret ?_
   have h := Option.some.inj h
   subst h
   exact ret_pure (hs := [hI 2]) (.inr rfl) (resT rfl rfl) rfl trivial
  obtain ⟨hc, h⟩ := cF hc h
  refine AW.skip ?_
  refine AW.seq ?_
  refine AW.seqJ h (S := Bool) (V := Unit) (fun a v => (P1 [(24, .bool a)] [])) (fun a4 w5 h => ?_) (fun k6 h => ?_)
  ·refine AW.cond rfl (fun hc => ?_) (fun hc => ?_)
   ·have h := ifT hc h
    refine AW.rgs rfl fun K hK => mv rfl rfl ?_
    refine bf hK ⟨[(2, hI 4)], []⟩ ?_
    refine AW.ret ?_
    have h := Option.some.inj h
    subst h
    exact ret_pure (hs := [hI 4]) (.inr rfl) (resT rfl rfl) rfl trivial
   have h := ifF (bF' hc) h
   refine AW.skip ?_
   refine AW.seq ?_
   refine AW.rgs rfl fun K hK => mv rfl rfl ?_
   refine bf hK (P1 [(3, hI 0)] []) ?_
   refine AW.lpR h (by first | exact up_then | exact up_to) (S := Int) (V := Unit) (fun a v => (P1 [(3, hI a)] [])) ?_ (X := Unit) (W := Unit) (fun a v => ⟨[], []⟩) (fun a30 w31 h => ?_) (fun a7 w8 st9 h hr10=> ?_)
   ·exact to_L ⟨(), rfl⟩
   ·refine AW.rgs rfl fun K hK => mv rfl rfl ?_
    refine bf hK ⟨[(2, hI 0)], []⟩ ?_
    refine AW.ret ?_
    have h := Option.some.inj h
    subst h
    exact ret_pure (hs := [hI 0]) (.inr rfl) (resT rfl rfl) rfl trivial
   refine AW.seq ?_
   refine AW.rgs rfl fun K hK => mv rfl rfl (bv rfl (v_fieldAddrF fo24_2 rfl) (bv rfl (v_loadF ty22 rfl (l_lit rfl rfl)) (bv rfl (v_lenF rfl rfl ty22 rfl) (bv rfl (v_bin rfl rfl b_lss) ?_))))
   refine bf hK (P1 [(3, hI a7), (29, .bool (decide (a7 < ((p0.2.2).length : Int))))] []) ?_
   refine AW.cond rfl (fun hc => ?_) (fun hc => ?_)
   ·obtain ⟨hc, h⟩ := cT hc h
    refine AW.skip ?_
    refine AW.seq (AW.block ?_)
    refine AW.rgs rfl fun K hK => bv rfl (v_fieldAddrF fo24_2 rfl) (bv rfl (v_loadF ty22 rfl (l_lit rfl rfl)) (mv rfl rfl ?_))
    obtain ⟨x11, h12, h⟩ := bS h
    refine bv rfl (v_idxF ty22 es22 rfl rfl (idx_lt h12)) (bv rfl (v_loadF ty49 rfl (l_agg eFromLabelTo h12 rfl rfl)) ?_)
    refine b_op rfl (o_alloc (fid := 24) (zs := [hI 0, hI 0, hI 0]) 24004 rfl rfl ty49 rfl (fun v13 => ?_))
    refine b_op rfl (o_store (cs := [hI x11.1, hI x11.2.1, hI x11.2.2]) (zs := [hI x11.1, hI x11.2.1, hI x11.2.2]) rfl rfl rfl ty49 rfl rfl rfl rfl rfl ?_)
    refine bf hK (P1 [(3, hI a7), (4, .ptr 24004 v13 0)] [(24004, v13, .arr 3 49 [hI x11.1, hI x11.2.1, hI x11.2.2])]) ?_
    refine AW.seq ?_
    refine AW.seqJ h (S := Bool) (V := Unit) (fun a v => (P1 [(3, hI a7), (4, .ptr 24004 v13 0), (70, .bool a)] [(24004, v13, .arr 3 49 [hI x11.1, hI x11.2.1, hI x11.2.2])])) (fun a14 w15 h => ?_) (fun k16 h => ?_)
    ·refine AW.cond rfl (fun hc => ?_) (fun hc => ?_)
     ·have h := ifT hc h
      refine AW.rgs rfl fun K hK => mv rfl rfl ?_
      refine bf hK ⟨[(2, hI 2)], []⟩ ?_
      have h := hr10 _ h
      refine AW.ret ?_
      have h := Option.some.inj h
      subst h
      exact ret_pure (hs := [hI 2]) (.inr rfl) (resT rfl rfl) rfl trivial
     have h := ifF (bF' hc) h
     refine AW.skip ?_
     refine AW.seqJ h (S := Bool) (V := Unit) (fun a v => (P1 [(3, hI a7), (83, .bool a)] [])) (fun a17 w18 h => ?_) (fun k19 h => ?_)
     ·refine AW.cond rfl (fun hc => ?_) (fun hc => ?_)
      ·have h := ifT hc h
       refine AW.rgs rfl fun K hK => mv rfl rfl ?_
       refine bf hK ⟨[(2, hI 10)], []⟩ ?_
       have h := hr10 _ h
       refine AW.ret ?_
       have h := Option.some.inj h
       subst h
       exact ret_pure (hs := [hI 10]) (.inr rfl) (resT rfl rfl) rfl trivial
      have h := ifF (bF' hc) h
      refine AW.skip ?_
      refine AW.rg rfl fun K hK => mv rfl rfl (bv rfl (v_bin rfl rfl b_add) (mv rfl rfl ?_))
      refine b_nil (hK _ ?_)
      exact to_L ⟨IntKind.wrap .i64 (a7 + 1), (), h, rfl⟩
     refine AW.dg 13 follows rfl rfl fun K hK => ?_
     refine sm rfl rfl ?_
     refine sv rfl (v_bin rfl rfl b_gtr) ?_
     refine sm rfl rfl ?_
     by_cases hg24 : 0 < a7
     ·have h := ifT hg24 h
      refine s_T rfl rfl rfl rfl rfl (decide_eq_true hg24) (ops_val rfl (v_fieldAddrF fo24_2 rfl) ?_)
      refine s_T rfl rfl rfl rfl rfl rfl (ops_val rfl (v_loadF ty22 rfl (l_lit rfl rfl)) ?_)
      refine s_T rfl rfl rfl rfl rfl rfl (ops_val rfl (mv_val rfl rfl).2 ?_)
      refine s_T rfl rfl rfl rfl rfl rfl (ops_val rfl (v_bin rfl rfl b_sub) ?_)
      obtain ⟨x20, h21, h⟩ := bS h
      refine s_T rfl rfl rfl rfl rfl rfl (ops_val rfl (v_idxF ty22 es22 rfl rfl (idx_lt h21)) ?_)
      refine s_T rfl rfl rfl rfl rfl rfl (ops_val rfl (v_loadF ty49 rfl (l_agg eFromLabelTo h21 rfl rfl)) ?_)
      refine s_T rfl rfl rfl rfl rfl rfl (ops_val rfl (v_loadP ty49 rfl rfl (l_litA rfl (lb rfl) rfl)) ?_)
      obtain ⟨x22, h23, h⟩ := bS h
      refine s_T rfl rfl rfl rfl rfl rfl (ops_call rfl rfl rfl rfl (ACallD.pure0 (w_ref09_Compare h23)) ?_)
      refine s_T rfl rfl rfl rfl rfl rfl (ops_val rfl (v_bin rfl rfl b_geq) ?_)
      refine sv rfl (v_pickT rfl rfl rfl) ?_
      refine s_nil ?_
      refine b_nil (hK _ ?_)
      exact to_L ⟨decide (0 ≤ x22), (), h, rfl⟩
     have h := ifF hg24 h
     refine s_F rfl rfl rfl rfl rfl (decide_eq_false hg24) ?_
     refine s_F rfl rfl rfl rfl rfl rfl ?_
     refine s_F rfl rfl rfl rfl rfl rfl ?_
     refine s_F rfl rfl rfl rfl rfl rfl ?_
     refine s_F rfl rfl rfl rfl rfl rfl ?_
     refine s_F rfl rfl rfl rfl rfl rfl ?_
     refine s_F rfl rfl rfl rfl rfl rfl ?_
     refine s_F rfl rfl rfl rfl rfl rfl ?_
     refine s_F rfl rfl rfl rfl rfl rfl ?_
     refine sv rfl (v_pickF rfl rfl rfl) ?_
     refine s_nil ?_
     refine b_nil (hK _ ?_)
     exact to_L ⟨false, (), h, rfl⟩
    refine AW.rg rfl fun K hK => bv rfl (v_fieldAddrP fo49_0 rfl rfl) (bv rfl (v_loadP ty3 rfl rfl (l_lit rfl rfl)) (bv rfl (v_bin rfl rfl b_lss) (mv rfl rfl ?_)))
    by_cases hg29 : x11.1 < 0
    ·have h := ifT hg29 h
     refine b_F rfl rfl rfl rfl rfl (decide_eq_true hg29) ?_
     refine b_F rfl rfl rfl rfl rfl rfl ?_
     refine b_F rfl rfl rfl rfl rfl rfl ?_
     refine b_F rfl rfl rfl rfl rfl rfl ?_
     refine b_F rfl rfl rfl rfl rfl rfl ?_
     refine bv rfl (v_pickT rfl rfl rfl) (mv rfl rfl ?_)
     refine b_F rfl rfl rfl rfl rfl rfl ?_
     refine b_F rfl rfl rfl rfl rfl rfl ?_
     refine b_F rfl rfl rfl rfl rfl rfl ?_
     refine bv rfl (v_pickT rfl rfl rfl) (mv rfl rfl ?_)
     refine b_F rfl rfl rfl rfl rfl rfl ?_
     refine b_F rfl rfl rfl rfl rfl rfl ?_
     refine b_F rfl rfl rfl rfl rfl rfl ?_
     refine b_F rfl rfl rfl rfl rfl rfl ?_
     refine b_F rfl rfl rfl rfl rfl rfl ?_
     refine bv rfl (v_pickT rfl rfl rfl) (mv rfl rfl ?_)
     refine b_F rfl rfl rfl rfl rfl rfl ?_
     refine b_F rfl rfl rfl rfl rfl rfl ?_
     refine b_F rfl rfl rfl rfl rfl rfl ?_
     refine bv rfl (v_pickT rfl rfl rfl) (mv rfl rfl ?_)
     refine b_F rfl rfl rfl rfl rfl rfl ?_
     refine b_F rfl rfl rfl rfl rfl rfl ?_
     refine b_F rfl rfl rfl rfl rfl rfl ?_
     refine b_F rfl rfl rfl rfl rfl rfl ?_
     refine b_F rfl rfl rfl rfl rfl rfl ?_
     refine bv rfl (v_pickT rfl rfl rfl) ?_
     refine b_nil (hK _ ?_)
     exact to_L ⟨true, (), h, rfl⟩
    have h := ifF hg29 h
    refine b_T rfl rfl rfl rfl (decide_eq_false hg29) (o_val rfl (v_fieldAddrP fo49_0 rfl rfl) ?_)
    refine b_T rfl rfl rfl rfl rfl (o_val rfl (v_loadP ty3 rfl rfl (l_lit rfl rfl)) ?_)
    refine b_T rfl rfl rfl rfl rfl (o_val rfl (v_fieldAddrF fo24_1 rfl) ?_)
    refine b_T rfl rfl rfl rfl rfl (o_val rfl (v_loadF ty3 rfl (l_lit rfl rfl)) ?_)
    refine b_T rfl rfl rfl rfl rfl (o_val rfl (v_bin rfl rfl b_geq) ?_)
    refine bv rfl (v_pickF rfl rfl rfl) (mv rfl rfl ?_)
    by_cases hg28 : p0.2.1 ≤ x11.1
    ·have h := ifT hg28 h
     refine b_F rfl rfl rfl rfl rfl (decide_eq_true hg28) ?_
     refine b_F rfl rfl rfl rfl rfl rfl ?_
     refine b_F rfl rfl rfl rfl rfl rfl ?_
     refine bv rfl (v_pickT rfl rfl rfl) (mv rfl rfl ?_)
     refine b_F rfl rfl rfl rfl rfl rfl ?_
     refine b_F rfl rfl rfl rfl rfl rfl ?_
     refine b_F rfl rfl rfl rfl rfl rfl ?_
     refine b_F rfl rfl rfl rfl rfl rfl ?_
     refine b_F rfl rfl rfl rfl rfl rfl ?_
     refine bv rfl (v_pickT rfl rfl rfl) (mv rfl rfl ?_)
     refine b_F rfl rfl rfl rfl rfl rfl ?_
     refine b_F rfl rfl rfl rfl rfl rfl ?_
     refine b_F rfl rfl rfl rfl rfl rfl ?_
     refine bv rfl (v_pickT rfl rfl rfl) (mv rfl rfl ?_)
     refine b_F rfl rfl rfl rfl rfl rfl ?_
     refine b_F rfl rfl rfl rfl rfl rfl ?_
     refine b_F rfl rfl rfl rfl rfl rfl ?_
     refine b_F rfl rfl rfl rfl rfl rfl ?_
     refine b_F rfl rfl rfl rfl rfl rfl ?_
     refine bv rfl (v_pickT rfl rfl rfl) ?_
     refine b_nil (hK _ ?_)
     exact to_L ⟨true, (), h, rfl⟩
    have h := ifF hg28 h
    refine b_T rfl rfl rfl rfl (decide_eq_false hg28) (o_val rfl (v_fieldAddrP fo49_2 rfl rfl) ?_)
    refine b_T rfl rfl rfl rfl rfl (o_val rfl (v_loadP ty3 rfl rfl (l_lit rfl rfl)) ?_)
    refine b_T rfl rfl rfl rfl rfl (o_val rfl (v_bin rfl rfl b_lss) ?_)
    refine bv rfl (v_pickF rfl rfl rfl) (mv rfl rfl ?_)
    by_cases hg27 : x11.2.2 < 0
    ·have h := ifT hg27 h
     refine b_F rfl rfl rfl rfl rfl (decide_eq_true hg27) ?_
     refine b_F rfl rfl rfl rfl rfl rfl ?_
     refine b_F rfl rfl rfl rfl rfl rfl ?_
     refine b_F rfl rfl rfl rfl rfl rfl ?_
     refine b_F rfl rfl rfl rfl rfl rfl ?_
     refine bv rfl (v_pickT rfl rfl rfl) (mv rfl rfl ?_)
     refine b_F rfl rfl rfl rfl rfl rfl ?_
     refine b_F rfl rfl rfl rfl rfl rfl ?_
     refine b_F rfl rfl rfl rfl rfl rfl ?_
     refine bv rfl (v_pickT rfl rfl rfl) (mv rfl rfl ?_)
     refine b_F rfl rfl rfl rfl rfl rfl ?_
     refine b_F rfl rfl rfl rfl rfl rfl ?_
     refine b_F rfl rfl rfl rfl rfl rfl ?_
     refine b_F rfl rfl rfl rfl rfl rfl ?_
     refine b_F rfl rfl rfl rfl rfl rfl ?_
     refine bv rfl (v_pickT rfl rfl rfl) ?_
     refine b_nil (hK _ ?_)
     exact to_L ⟨true, (), h, rfl⟩
    have h := ifF hg27 h
    refine b_T rfl rfl rfl rfl (decide_eq_false hg27) (o_val rfl (v_fieldAddrP fo49_2 rfl rfl) ?_)
    refine b_T rfl rfl rfl rfl rfl (o_val rfl (v_loadP ty3 rfl rfl (l_lit rfl rfl)) ?_)
    refine b_T rfl rfl rfl rfl rfl (o_val rfl (v_fieldAddrF fo24_1 rfl) ?_)
    refine b_T rfl rfl rfl rfl rfl (o_val rfl (v_loadF ty3 rfl (l_lit rfl rfl)) ?_)
    refine b_T rfl rfl rfl rfl rfl (o_val rfl (v_bin rfl rfl b_geq) ?_)
    refine bv rfl (v_pickF rfl rfl rfl) (mv rfl rfl ?_)
    by_cases hg26 : p0.2.1 ≤ x11.2.2
    ·have h := ifT hg26 h
     refine b_F rfl rfl rfl rfl rfl (decide_eq_true hg26) ?_
     refine b_F rfl rfl rfl rfl rfl rfl ?_
     refine b_F rfl rfl rfl rfl rfl rfl ?_
     refine bv rfl (v_pickT rfl rfl rfl) (mv rfl rfl ?_)
     refine b_F rfl rfl rfl rfl rfl rfl ?_
     refine b_F rfl rfl rfl rfl rfl rfl ?_
     refine b_F rfl rfl rfl rfl rfl rfl ?_
     refine b_F rfl rfl rfl rfl rfl rfl ?_
     refine b_F rfl rfl rfl rfl rfl rfl ?_
     refine bv rfl (v_pickT rfl rfl rfl) ?_
     refine b_nil (hK _ ?_)
     exact to_L ⟨true, (), h, rfl⟩
    have h := ifF hg26 h
    refine b_T rfl rfl rfl rfl (decide_eq_false hg26) (o_val rfl (v_fieldAddrP fo49_1 rfl rfl) ?_)
    refine b_T rfl rfl rfl rfl rfl (o_val rfl (v_loadP ty3 rfl rfl (l_lit rfl rfl)) ?_)
    refine b_T rfl rfl rfl rfl rfl (o_val rfl (v_bin rfl rfl b_lss) ?_)
    refine bv rfl (v_pickF rfl rfl rfl) (mv rfl rfl ?_)
    by_cases hg25 : x11.2.1 < 0
    ·have h := ifT hg25 h
     refine b_F rfl rfl rfl rfl rfl (decide_eq_true hg25) ?_
     refine b_F rfl rfl rfl rfl rfl rfl ?_
     refine b_F rfl rfl rfl rfl rfl rfl ?_
     refine b_F rfl rfl rfl rfl rfl rfl ?_
     refine b_F rfl rfl rfl rfl rfl rfl ?_
     refine bv rfl (v_pickT rfl rfl rfl) ?_
     refine b_nil (hK _ ?_)
     exact to_L ⟨true, (), h, rfl⟩
    have h := ifF hg25 h
    refine b_T rfl rfl rfl rfl (decide_eq_false hg25) (o_val rfl (v_fieldAddrP fo49_1 rfl rfl) ?_)
    refine b_T rfl rfl rfl rfl rfl (o_val rfl (v_loadP ty3 rfl rfl (l_lit rfl rfl)) ?_)
    refine b_T rfl rfl rfl rfl rfl (o_val rfl (v_fieldAddrF fo24_0 rfl) ?_)
    refine b_T rfl rfl rfl rfl rfl (o_val rfl (v_loadF ty3 rfl (l_lit rfl rfl)) ?_)
    refine b_T rfl rfl rfl rfl rfl (o_val rfl (v_bin rfl rfl b_geq) ?_)
    refine bv rfl (v_pickF rfl rfl rfl) ?_
    refine b_nil (hK _ ?_)
    exact to_L ⟨decide (p0.1 ≤ x11.2.1), (), h, rfl⟩
   obtain ⟨hc, h⟩ := cF hc h
   refine AW.exit ?_
   exact to_L ⟨(), (), h, rfl⟩
  refine AW.rg rfl fun K hK => bv rfl (v_fieldAddrF fo24_1 rfl) (bv rfl (v_loadF ty3 rfl (l_lit rfl rfl)) (bv rfl (v_bin rfl rfl b_gtr) (mv rfl rfl ?_)))
  by_cases hg32 : 64 < p0.2.1
  ·have h := ifT hg32 h
   refine b_F rfl rfl rfl rfl rfl (decide_eq_true hg32) ?_
   refine b_F rfl rfl rfl rfl rfl rfl ?_
   refine b_F rfl rfl rfl rfl rfl rfl ?_
   refine b_F rfl rfl rfl rfl rfl rfl ?_
   refine bv rfl (v_pickT rfl rfl rfl) ?_
   refine b_nil (hK _ ?_)
   exact to_L ⟨true, (), h, rfl⟩
  have h := ifF hg32 h
  refine b_T rfl rfl rfl rfl (decide_eq_false hg32) (o_val rfl (v_fieldAddrF fo24_2 rfl) ?_)
  refine b_T rfl rfl rfl rfl rfl (o_val rfl (v_loadF ty22 rfl (l_lit rfl rfl)) ?_)
  refine b_T rfl rfl rfl rfl rfl (o_val rfl (v_lenF rfl rfl ty22 rfl) ?_)
  refine b_T rfl rfl rfl rfl rfl (o_val rfl (v_bin rfl rfl b_gtr) ?_)
  refine bv rfl (v_pickF rfl rfl rfl) ?_
  refine b_nil (hK _ ?_)
  exact to_L ⟨decide (1024 < ((p0.2.2).length : Int)), (), h, rfl⟩
 refine AW.rg rfl fun K hK => bv rfl (v_fieldAddrF fo24_0 rfl) (bv rfl (v_loadF ty3 rfl (l_lit rfl rfl)) (bv rfl (v_bin rfl rfl b_lss) (mv rfl rfl ?_)))
 by_cases hg33 : p0.1 < 1
 ·have h := ifT hg33 h
  refine b_F rfl rfl rfl rfl rfl (decide_eq_true hg33) ?_
  refine b_F rfl rfl rfl rfl rfl rfl ?_
  refine b_F rfl rfl rfl rfl rfl rfl ?_
  refine bv rfl (v_pickT rfl rfl rfl) ?_
  refine b_nil (hK _ ?_)
  exact to_L ⟨true, (), h, rfl⟩
 have h := ifF hg33 h
 refine b_T rfl rfl rfl rfl (decide_eq_false hg33) (o_val rfl (v_fieldAddrF fo24_0 rfl) ?_)
 refine b_T rfl rfl rfl rfl rfl (o_val rfl (v_loadF ty3 rfl (l_lit rfl rfl)) ?_)
 refine b_T rfl rfl rfl rfl rfl (o_val rfl (v_bin rfl rfl b_gtr) ?_)
 refine bv rfl (v_pickF rfl rfl rfl) ?_
 refine b_nil (hK _ ?_)
 exact to_L ⟨decide (256 < p0.1), (), h, rfl⟩
theorem w_ref09_CheckSet {p0 : TLabelsStatesEdges} {p1 : List (Int)} {r : Int} (h : m_ref09_CheckSet p0 p1 = some r) : Pure Tryz.prog 71 [gA p0, slE eInt p1] (· = hI r) := by
 unfold m_ref09_CheckSet at h
 refine Pure.of_body Tryz.func71 rfl rfl (lb rfl) fun hf => ?_
 unfold Tryz.f71
 dsimp only [enumS, Nat.reduceAdd]
 refine AW.rgs rfl fun K hK => b_op rfl (o_box rfl rfl rfl ?_)
 refine mv rfl rfl ?_
 let P2 : ASf := fun t H => ⟨(1, slE eInt p1) :: (2, gF p0) :: t, H⟩
 refine bf hK (P2 [] []) ?_
 refine AW.seq ?_
 refine AW.rgs rfl fun K hK => mv rfl rfl ?_
 refine bf hK (P2 [(5, hI 0)] []) ?_
 refine AW.lpR h (by first | exact up_then | exact up_to) (S := Int) (V := Unit) (fun a v => (P2 [(5, hI a)] [])) ?_ (X := Unit) (W := Unit) (fun a v => ⟨[], []⟩) (fun a21 w22 h => ?_) (fun a1 w2 st3 h hr4=> ?_)
 ·exact to_L ⟨(), rfl⟩
 ·refine AW.rgs rfl fun K hK => mv rfl rfl ?_
  refine bf hK ⟨[(4, hI 0)], []⟩ ?_
  refine AW.ret ?_
  have h := Option.some.inj h
  subst h
  exact ret_pure (hs := [hI 0]) (.inr rfl) (resT rfl rfl) rfl trivial
 refine AW.seq ?_
 refine AW.rgs rfl fun K hK => mv rfl rfl (mv rfl rfl (bv rfl (v_lenF rfl rfl ty27 rfl) (bv rfl (v_bin rfl rfl b_lss) ?_)))
 refine bf hK (P2 [(5, hI a1), (9, .bool (decide (a1 < ((p1).length : Int))))] []) ?_
 refine AW.cond rfl (fun hc => ?_) (fun hc => ?_)
 ·obtain ⟨hc, h⟩ := cT hc h
  refine AW.skip ?_
  refine AW.seq (AW.block ?_)
  refine AW.seq ?_
  refine AW.seqJ h (S := Bool) (V := Unit) (fun a v => (P2 [(5, hI a1), (25, .bool a)] [])) (fun a5 w6 h => ?_) (fun k7 h => ?_)
  ·refine AW.cond rfl (fun hc => ?_) (fun hc => ?_)
   ·have h := ifT hc h
    refine AW.rgs rfl fun K hK => mv rfl rfl ?_
    refine bf hK ⟨[(4, hI 25)], []⟩ ?_
    have h := hr4 _ h
    refine AW.ret ?_
    have h := Option.some.inj h
    subst h
    exact ret_pure (hs := [hI 25]) (.inr rfl) (resT rfl rfl) rfl trivial
   have h := ifF (bF' hc) h
   refine AW.skip ?_
   refine AW.seqJ h (S := Bool) (V := Unit) (fun a v => (P2 [(5, hI a1), (39, .bool a)] [])) (fun a8 w9 h => ?_) (fun k10 h => ?_)
   ·refine AW.cond rfl (fun hc => ?_) (fun hc => ?_)
    ·have h := ifT hc h
     refine AW.rgs rfl fun K hK => mv rfl rfl ?_
     refine bf hK ⟨[(4, hI 10)], []⟩ ?_
     have h := hr4 _ h
     refine AW.ret ?_
     have h := Option.some.inj h
     subst h
     exact ret_pure (hs := [hI 10]) (.inr rfl) (resT rfl rfl) rfl trivial
    have h := ifF (bF' hc) h
    refine AW.skip ?_
    refine AW.rg rfl fun K hK => mv rfl rfl (bv rfl (v_bin rfl rfl b_add) (mv rfl rfl ?_))
    refine b_nil (hK _ ?_)
    exact to_L ⟨IntKind.wrap .i64 (a1 + 1), (), h, rfl⟩
   refine AW.dg 14 follows rfl rfl fun K hK => ?_
   refine sm rfl rfl ?_
   refine sv rfl (v_bin rfl rfl b_gtr) ?_
   refine sm rfl rfl ?_
   by_cases hg15 : 0 < a1
   ·have h := ifT hg15 h
    refine s_T rfl rfl rfl rfl rfl (decide_eq_true hg15) (ops_val rfl (mv_val rfl rfl).2 ?_)
    refine s_T rfl rfl rfl rfl rfl rfl (ops_val rfl (mv_val rfl rfl).2 ?_)
    obtain ⟨x11, h12, h⟩ := bS h
    refine s_T rfl rfl rfl rfl rfl rfl (ops_val rfl (v_idxF ty27 es27 rfl rfl (idx_lt h12)) ?_)
    refine s_T rfl rfl rfl rfl rfl rfl (ops_val rfl (v_loadF ty3 rfl (l_cell eInt h12 (o := 0) rfl rfl)) ?_)
    refine s_T rfl rfl rfl rfl rfl rfl (ops_val rfl (mv_val rfl rfl).2 ?_)
    refine s_T rfl rfl rfl rfl rfl rfl (ops_val rfl (mv_val rfl rfl).2 ?_)
    refine s_T rfl rfl rfl rfl rfl rfl (ops_val rfl (v_bin rfl rfl b_sub) ?_)
    obtain ⟨x13, h14, h⟩ := bS h
    refine s_T rfl rfl rfl rfl rfl rfl (ops_val rfl (v_idxF ty27 es27 rfl rfl (idx_lt h14)) ?_)
    refine s_T rfl rfl rfl rfl rfl rfl (ops_val rfl (v_loadF ty3 rfl (l_cell eInt h14 (o := 0) rfl rfl)) ?_)
    refine s_T rfl rfl rfl rfl rfl rfl (ops_val rfl (v_bin rfl rfl b_leq) ?_)
    refine sv rfl (v_pickT rfl rfl rfl) ?_
    refine s_nil ?_
    refine b_nil (hK _ ?_)
    exact to_L ⟨decide (x11 ≤ x13), (), h, rfl⟩
   have h := ifF hg15 h
   refine s_F rfl rfl rfl rfl rfl (decide_eq_false hg15) ?_
   refine s_F rfl rfl rfl rfl rfl rfl ?_
   refine s_F rfl rfl rfl rfl rfl rfl ?_
   refine s_F rfl rfl rfl rfl rfl rfl ?_
   refine s_F rfl rfl rfl rfl rfl rfl ?_
   refine s_F rfl rfl rfl rfl rfl rfl ?_
   refine s_F rfl rfl rfl rfl rfl rfl ?_
   refine s_F rfl rfl rfl rfl rfl rfl ?_
   refine s_F rfl rfl rfl rfl rfl rfl ?_
   refine s_F rfl rfl rfl rfl rfl rfl ?_
   refine sv rfl (v_pickF rfl rfl rfl) ?_
   refine s_nil ?_
   refine b_nil (hK _ ?_)
   exact to_L ⟨false, (), h, rfl⟩
  refine AW.dg 14 follows rfl rfl fun K hK => ?_
  refine sm rfl rfl ?_
  refine sm rfl rfl ?_
  obtain ⟨x16, h17, h⟩ := bS h
  refine sv rfl (v_idxF ty27 es27 rfl rfl (idx_lt h17)) ?_
  refine sv rfl (v_loadF ty3 rfl (l_cell eInt h17 (o := 0) rfl rfl)) ?_
  refine sv rfl (v_bin rfl rfl b_lss) ?_
  refine sm rfl rfl ?_
  by_cases hg20 : x16 < 0
  ·have h := ifT hg20 h
   refine s_F rfl rfl rfl rfl rfl (decide_eq_true hg20) ?_
   refine s_F rfl rfl rfl rfl rfl rfl ?_
   refine s_F rfl rfl rfl rfl rfl rfl ?_
   refine s_F rfl rfl rfl rfl rfl rfl ?_
   refine s_F rfl rfl rfl rfl rfl rfl ?_
   refine s_F rfl rfl rfl rfl rfl rfl ?_
   refine s_F rfl rfl rfl rfl rfl rfl ?_
   refine sv rfl (v_pickT rfl rfl rfl) ?_
   refine s_nil ?_
   refine b_nil (hK _ ?_)
   exact to_L ⟨true, (), h, rfl⟩
  have h := ifF hg20 h
  refine s_T rfl rfl rfl rfl rfl (decide_eq_false hg20) (ops_val rfl (mv_val rfl rfl).2 ?_)
  refine s_T rfl rfl rfl rfl rfl rfl (ops_val rfl (mv_val rfl rfl).2 ?_)
  obtain ⟨x18, h19, h⟩ := bS h
  refine s_T rfl rfl rfl rfl rfl rfl (ops_val rfl (v_idxF ty27 es27 rfl rfl (idx_lt h19)) ?_)
  refine s_T rfl rfl rfl rfl rfl rfl (ops_val rfl (v_loadF ty3 rfl (l_cell eInt h19 (o := 0) rfl rfl)) ?_)
  refine s_T rfl rfl rfl rfl rfl rfl (ops_val rfl (v_fieldAddrF fo24_1 rfl) ?_)
  refine s_T rfl rfl rfl rfl rfl rfl (ops_val rfl (v_loadF ty3 rfl (l_lit rfl rfl)) ?_)
  refine s_T rfl rfl rfl rfl rfl rfl (ops_val rfl (v_bin rfl rfl b_geq) ?_)
  refine sv rfl (v_pickF rfl rfl rfl) ?_
  refine s_nil ?_
  refine b_nil (hK _ ?_)
  exact to_L ⟨decide (p0.2.1 ≤ x18), (), h, rfl⟩
 obtain ⟨hc, h⟩ := cF hc h
 refine AW.exit ?_
 exact to_L ⟨(), (), h, rfl⟩
theorem w_ref09_Has {p0 : List (Int)} {p1 : Int} {r : Bool} (h : m_ref09_Has p0 p1 = some r) : Pure Tryz.prog 79 [slE eInt p0, hI p1] (· = HV.bool r) := by
 unfold m_ref09_Has at h
 refine Pure.of_body Tryz.func79 rfl rfl (lb rfl) fun hf => ?_
 unfold Tryz.f79
 dsimp only [enumS, Nat.reduceAdd]
 refine AW.rgs rfl fun K hK => mv rfl rfl ?_
 let P3 : ASf := fun t H => ⟨(0, slE eInt p0) :: (1, hI p1) :: t, H⟩
 refine bf hK (P3 [] []) ?_
 refine AW.seq ?_
 refine AW.rgs rfl fun K hK => mv rfl rfl ?_
 refine bf hK (P3 [(5, hI 0)] []) ?_
 refine AW.lpR h (by first | exact up_then | exact up_to) (S := Int) (V := Unit) (fun a v => (P3 [(5, hI a)] [])) ?_ (X := Unit) (W := Unit) (fun a v => ⟨[], []⟩) (fun a7 w8 h => ?_) (fun a1 w2 st3 h hr4=> ?_)
 ·exact to_L ⟨(), rfl⟩
 ·refine AW.rgs rfl fun K hK => mv rfl rfl ?_
  refine bf hK ⟨[(4, .bool false)], []⟩ ?_
  refine AW.ret ?_
  have h := Option.some.inj h
  subst h
  exact ret_pure (hs := [.bool false]) (.inr rfl) (resT rfl rfl) rfl trivial
 refine AW.seq ?_
 refine AW.rgs rfl fun K hK => mv rfl rfl (mv rfl rfl (bv rfl (v_lenF rfl rfl ty27 rfl) (bv rfl (v_bin rfl rfl b_lss) ?_)))
 refine bf hK (P3 [(5, hI a1), (9, .bool (decide (a1 < ((p0).length : Int))))] []) ?_
 refine AW.cond rfl (fun hc => ?_) (fun hc => ?_)
 ·obtain ⟨hc, h⟩ := cT hc h
  refine AW.skip ?_
  refine AW.seq (AW.block ?_)
  refine AW.rgs rfl fun K hK => mv rfl rfl (mv rfl rfl ?_)
  obtain ⟨x5, h6, h⟩ := bS h
  refine bv rfl (v_idxF ty27 es27 rfl rfl (idx_lt h6)) (bv rfl (v_loadF ty3 rfl (l_cell eInt h6 (o := 0) rfl rfl)) (mv rfl rfl (bv rfl (v_bin rfl rfl b_eql) ?_)))
  refine bf hK (P3 [(5, hI a1), (17, .bool (decide (x5 = p1)))] []) ?_
  refine AW.cond rfl (fun hc => ?_) (fun hc => ?_)
  ·obtain ⟨hc, h⟩ := cT hc h
   refine AW.rgs rfl fun K hK => mv rfl rfl ?_
   refine bf hK ⟨[(4, .bool true)], []⟩ ?_
   have h := hr4 _ h
   refine AW.ret ?_
   have h := Option.some.inj h
   subst h
   exact ret_pure (hs := [.bool true]) (.inr rfl) (resT rfl rfl) rfl trivial
  obtain ⟨hc, h⟩ := cF hc h
  refine AW.skip ?_
  refine AW.rg rfl fun K hK => mv rfl rfl (bv rfl (v_bin rfl rfl b_add) (mv rfl rfl ?_))
  refine b_nil (hK _ ?_)
  exact to_L ⟨IntKind.wrap .i64 (a1 + 1), (), h, rfl⟩
 obtain ⟨hc, h⟩ := cF hc h
 refine AW.exit ?_
 exact to_L ⟨(), (), h, rfl⟩
theorem w_ref09_Next {p0 : TLabelsStatesEdges} {p1 : List (Int)} {p2 : Int} {r : (List (Int))} (h : m_ref09_Next p0 p1 p2 = some r) : Pure Tryz.prog 72 [gA p0, slE eInt p1, hI p2] (· = slE eInt r) := by
 unfold m_ref09_Next at h
 refine Pure.of_body Tryz.func72 rfl rfl (lb rfl) fun hf => ?_
 unfold Tryz.f72
 dsimp only [enumS, Nat.reduceAdd]
 refine AW.rgs rfl fun K hK => b_op rfl (o_box rfl rfl rfl ?_)
 refine mv rfl rfl ?_
 let P1 : ASf := fun t H => ⟨(1, slE eInt p1) :: (2, hI p2) :: (3, gF p0) :: t, H⟩
 refine bf hK (P1 [] []) ?_
 refine AW.rgs rfl fun K hK => mv rfl rfl ?_
 refine bf hK (P1 [(7, .v (.slice none 0 0))] []) ?_
 refine AW.seq ?_
 refine AW.rgs rfl fun K hK => mv rfl rfl ?_
 refine bf hK (P1 [(7, .v (.slice none 0 0)), (8, hI 0)] []) ?_
 refine AW.lpX h (by first | exact up_then | exact up_to) (S := Int × (List Int)) (V := Nat) (fun a v => (P1 [(7, .ar 72053 v eInt.k 0 ((a.2).length)), (8, hI a.1)] [(72053, v, .arr eInt.k 3 (eInt.E a.2))])) ?_ (X := (List Int)) (W := Nat) (fun a v => ⟨[(7, .ar 72053 v eInt.k 0 ((a).length))], [(72053, v, .arr eInt.k 3 (eInt.E a))]⟩) (fun a28 w29 h => ?_) (fun a1 w2 st3 h => ?_)
 ·refine to_bind (to_own 72053 7 eInt.k 3 rfl fun v27 => ?_)
  exact to_le (s' := (P1 [(7, .ar 72053 v27 eInt.k 0 ((([] : List Int)).length)), (8, hI 0)] [(72053, v27, .arr eInt.k 3 (eInt.E ([] : List Int)))])) (AS.le_of ⟨rfl, rfl, rfl, arl (by first | rfl | simp only [List.length_set, sortI_len, sortS_len]), rfl, trivial⟩ ⟨rfl, trivial⟩) ⟨v27, rfl⟩
 ·refine AW.rgs rfl fun K hK => mv rfl rfl (mv rfl rfl ?_)
  refine bf hK ⟨[(6, .ar 72053 w29 eInt.k 0 ((a28).length))], [(72053, w29, .arr eInt.k 3 (eInt.E a28))]⟩ ?_
  refine AW.to (to_frz 2 [(72053, w29, .arr eInt.k 3 (eInt.E a28))] ⟨[(6, slE eInt a28)], []⟩ ⟨⟨_, rfl, frz_slE eInt (l := a28) rfl fun _ _ => rfl⟩, trivial⟩ trivial ⟨rfl, trivial⟩ ⟨rfl, trivial⟩ ?_)
  refine AW.ret ?_
  have h := Option.some.inj h
  subst h
  exact ret_pure (hs := [slE eInt a28]) (.inr rfl) (resT rfl rfl) rfl (clean_slE fun _ _ => ⟨trivial, trivial⟩)
 refine AW.seq ?_
 refine AW.rgs rfl fun K hK => mv rfl rfl (bv rfl (v_fieldAddrF fo24_1 rfl) (bv rfl (v_loadF ty3 rfl (l_lit rfl rfl)) (bv rfl (v_bin rfl rfl b_lss) ?_)))
 let E1 : Nat × HV := (7, .ar 72053 w2 eInt.k 0 ((a1.2).length))
 let O2 : Nat × Nat × AObj := (72053, w2, .arr eInt.k 3 (eInt.E a1.2))
 refine bf hK (P1 [E1, (8, hI a1.1), (15, .bool (decide (a1.1 < p0.2.1)))] [O2]) ?_
 refine AW.cond rfl (fun hc => ?_) (fun hc => ?_)
 ·obtain ⟨hc, h⟩ := cT hc h
  refine AW.skip ?_
  refine AW.seqJ h (S := (List Int)) (V := Nat) (fun a v => (P1 [(7, .ar 72053 v eInt.k 0 ((a).length)), (8, hI a1.1)] [(72053, v, .arr eInt.k 3 (eInt.E a))])) (fun a5 w6 h => ?_) (fun k7 h => ?_)
  ·refine AW.rg rfl fun K hK => mv rfl rfl (bv rfl (v_bin rfl rfl b_add) (mv rfl rfl ?_))
   refine b_nil (hK _ ?_)
   exact to_L ⟨(IntKind.wrap .i64 (a1.1 + 1), a5), w6, h, rfl⟩
  refine AW.block ?_
  refine AW.rgs rfl fun K hK => mv rfl rfl ?_
  refine bf hK (P1 [E1, (8, hI a1.1), (9, .bool false)] [O2]) ?_
  refine AW.seq ?_
  refine AW.rgs rfl fun K hK => mv rfl rfl ?_
  refine bf hK (P1 [E1, (8, hI a1.1), (9, .bool false), (10, hI 0)] [O2]) ?_
  refine AW.lpX h (by first | exact up_then | exact up_to) (S := Bool × Int) (V := Unit) (fun a v => (P1 [E1, (8, hI a1.1), (9, .bool a.1), (10, hI a.2)] [O2])) ?_ (X := Bool) (W := Unit) (fun a v => (P1 [E1, (8, hI a1.1), (9, .bool a)] [O2])) (fun a23 w24 h => ?_) (fun a8 w9 st10 h => ?_)
  ·exact to_L ⟨(), rfl⟩
  ·refine AW.rgs rfl fun K hK => mv rfl rfl ?_
   refine bf hK (P1 [E1, (8, hI a1.1), (49, .bool a23)] [O2]) ?_
   refine AW.cond rfl (fun hc => ?_) (fun hc => ?_)
   ·have h := ifT hc h
    refine AW.rg rfl fun K hK => mv rfl rfl (mv rfl rfl ?_)
    refine b_op rfl (o_bsl rfl rfl (as_of (cs := [hI a1.1]) ty27 ty3 rfl rfl rfl rfl rfl) ?_)
    obtain ⟨h26, h⟩ := ifN h
    refine b_op rfl (o_appE eInt (l := a1.2) (m := [a1.1]) rfl rfl ty27 ty27 ty3 rfl rfl rfl rfl rfl h26 (fun v25 => ?_))
    refine mv rfl rfl ?_
    refine b_nil (hK _ ?_)
    exact to_L ⟨a1.2 ++ [a1.1], v25, h, rfl⟩
   have h := ifF (bF' hc) h
   refine AW.skip ?_
   exact to_L ⟨a1.2, w2, h, rfl⟩
  refine AW.seq ?_
  refine AW.rgs rfl fun K hK => mv rfl rfl (bv rfl (v_fieldAddrF fo24_2 rfl) (bv rfl (v_loadF ty22 rfl (l_lit rfl rfl)) (bv rfl (v_lenF rfl rfl ty22 rfl) (bv rfl (v_bin rfl rfl b_lss) ?_))))
  refine bf hK (P1 [E1, (8, hI a1.1), (9, .bool a8.1), (10, hI a8.2), (22, .bool (decide (a8.2 < ((p0.2.2).length : Int))))] [O2]) ?_
  refine AW.cond rfl (fun hc => ?_) (fun hc => ?_)
  ·obtain ⟨hc, h⟩ := cT hc h
   refine AW.skip ?_
   refine AW.seqJ h (S := Bool) (V := Unit) (fun a v => (P1 [E1, (8, hI a1.1), (9, .bool a), (10, hI a8.2)] [O2])) (fun a12 w13 h => ?_) (fun k14 h => ?_)
   ·refine AW.rg rfl fun K hK => mv rfl rfl (bv rfl (v_bin rfl rfl b_add) (mv rfl rfl ?_))
    refine b_nil (hK _ ?_)
    exact to_L ⟨(a12, IntKind.wrap .i64 (a8.2 + 1)), (), h, rfl⟩
   refine AW.block ?_
   refine AW.rgs rfl fun K hK => bv rfl (v_fieldAddrF fo24_2 rfl) (bv rfl (v_loadF ty22 rfl (l_lit rfl rfl)) (mv rfl rfl ?_))
   obtain ⟨x15, h16, h⟩ := bS h
   refine bv rfl (v_idxF ty22 es22 rfl rfl (idx_lt h16)) (bv rfl (v_loadF ty49 rfl (l_agg eFromLabelTo h16 rfl rfl)) ?_)
   refine b_op rfl (o_alloc (fid := 72) (zs := [hI 0, hI 0, hI 0]) 72011 rfl rfl ty49 rfl (fun v17 => ?_))
   refine b_op rfl (o_store (cs := [hI x15.1, hI x15.2.1, hI x15.2.2]) (zs := [hI x15.1, hI x15.2.1, hI x15.2.2]) rfl rfl rfl ty49 rfl rfl rfl rfl rfl ?_)
   refine bf hK (P1 [E1, (8, hI a1.1), (9, .bool a8.1), (10, hI a8.2), (11, .ptr 72011 v17 0)] [O2, (72011, v17, .arr 3 49 [hI x15.1, hI x15.2.1, hI x15.2.2])]) ?_
   refine AW.rg rfl fun K hK => mv rfl rfl (mv rfl rfl ?_)
   by_cases hg22 : a8.1 = true
   ·have h := ifT hg22 h
    refine b_F rfl rfl rfl rfl rfl hg22 ?_
    refine b_F rfl rfl rfl rfl rfl rfl ?_
    refine b_F rfl rfl rfl rfl rfl rfl ?_
    refine b_F rfl rfl rfl rfl rfl rfl ?_
    refine b_F rfl rfl rfl rfl rfl rfl ?_
    refine b_U rfl rfl rfl rfl rfl ?_
    refine b_U rfl rfl rfl rfl rfl ?_
    refine b_U rfl rfl rfl rfl rfl ?_
    refine b_U rfl rfl rfl rfl rfl ?_
    refine b_F rfl rfl rfl rfl rfl rfl ?_
    refine b_F rfl rfl rfl rfl rfl rfl ?_
    refine b_U rfl rfl rfl rfl rfl ?_
    refine b_U rfl rfl rfl rfl rfl ?_
    refine b_U rfl rfl rfl rfl rfl ?_
    refine b_U rfl rfl rfl rfl rfl ?_
    refine b_F rfl rfl rfl rfl rfl rfl ?_
    refine bv rfl (v_pickT rfl rfl rfl) (mv rfl rfl ?_)
    refine b_nil (hK _ ?_)
    exact to_L ⟨true, (), h, rfl⟩
   have h := ifF hg22 h
   refine b_T rfl rfl rfl rfl (bF hg22) (o_val rfl (v_fieldAddrP fo49_2 rfl rfl) ?_)
   refine b_T rfl rfl rfl rfl rfl (o_val rfl (v_loadP ty3 rfl rfl (l_lit rfl rfl)) ?_)
   refine b_T rfl rfl rfl rfl rfl (o_val rfl (mv_val rfl rfl).2 ?_)
   refine b_T rfl rfl rfl rfl rfl (o_val rfl (v_bin rfl rfl b_eql) ?_)
   refine b_T rfl rfl rfl rfl rfl (o_val rfl (mv_val rfl rfl).2 ?_)
   by_cases hg21 : x15.2.2 = a1.1
   ·have h := ifT hg21 h
    refine b_T rfl rfl rfl rfl (decide_eq_true hg21) (o_val rfl (v_fieldAddrP fo49_1 rfl rfl) ?_)
    refine b_T rfl rfl rfl rfl rfl (o_val rfl (v_loadP ty3 rfl rfl (l_lit rfl rfl)) ?_)
    refine b_T rfl rfl rfl rfl rfl (o_val rfl (mv_val rfl rfl).2 ?_)
    refine b_T rfl rfl rfl rfl rfl (o_val rfl (v_bin rfl rfl b_eql) ?_)
    refine b_T rfl rfl rfl rfl rfl (o_val rfl (v_pickT rfl rfl rfl) ?_)
    refine b_T rfl rfl rfl rfl rfl (o_val rfl (mv_val rfl rfl).2 ?_)
    by_cases hg20 : x15.2.1 = p2
    ·have h := ifT hg20 h
     refine b_T rfl rfl rfl rfl (decide_eq_true hg20) (o_val rfl (mv_val rfl rfl).2 ?_)
     refine b_T rfl rfl rfl rfl rfl (o_val rfl (v_fieldAddrP fo49_0 rfl rfl) ?_)
     refine b_T rfl rfl rfl rfl rfl (o_val rfl (v_loadP ty3 rfl rfl (l_lit rfl rfl)) ?_)
     obtain ⟨x18, h19, h⟩ := bS h
     refine b_T rfl rfl rfl rfl rfl (o_call rfl rfl rfl rfl (ACallD.pure0 (w_ref09_Has h19)) ?_)
     refine b_T rfl rfl rfl rfl rfl (o_val rfl (v_pickT rfl rfl rfl) ?_)
     refine bv rfl (v_pickF rfl rfl rfl) (mv rfl rfl ?_)
     refine b_nil (hK _ ?_)
     exact to_L ⟨x18, (), h, rfl⟩
    have h := ifF hg20 h
    refine b_F rfl rfl rfl rfl rfl (decide_eq_false hg20) ?_
    refine b_F rfl rfl rfl rfl rfl rfl ?_
    refine b_F rfl rfl rfl rfl rfl rfl ?_
    refine b_F rfl rfl rfl rfl rfl rfl ?_
    refine b_T rfl rfl rfl rfl rfl (o_val rfl (v_pickF rfl rfl rfl) ?_)
    refine bv rfl (v_pickF rfl rfl rfl) (mv rfl rfl ?_)
    refine b_nil (hK _ ?_)
    exact to_L ⟨false, (), h, rfl⟩
   have h := ifF hg21 h
   refine b_F rfl rfl rfl rfl rfl (decide_eq_false hg21) ?_
   refine b_F rfl rfl rfl rfl rfl rfl ?_
   refine b_F rfl rfl rfl rfl rfl rfl ?_
   refine b_F rfl rfl rfl rfl rfl rfl ?_
   refine b_T rfl rfl rfl rfl rfl (o_val rfl (v_pickF rfl rfl rfl) ?_)
   refine b_T rfl rfl rfl rfl rfl (o_val rfl (mv_val rfl rfl).2 ?_)
   refine b_F rfl rfl rfl rfl rfl rfl ?_
   refine b_F rfl rfl rfl rfl rfl rfl ?_
   refine b_F rfl rfl rfl rfl rfl rfl ?_
   refine b_F rfl rfl rfl rfl rfl rfl ?_
   refine b_T rfl rfl rfl rfl rfl (o_val rfl (v_pickF rfl rfl rfl) ?_)
   refine bv rfl (v_pickF rfl rfl rfl) (mv rfl rfl ?_)
   refine b_nil (hK _ ?_)
   exact to_L ⟨false, (), h, rfl⟩
  obtain ⟨hc, h⟩ := cF hc h
  refine AW.exit ?_
  exact to_L ⟨a8.1, (), h, rfl⟩
 obtain ⟨hc, h⟩ := cF hc h
 refine AW.exit ?_
 exact to_L ⟨a1.2, w2, h, rfl⟩
theorem w_ref09_Step {p0 : TLabelsStatesEdges} {p1 : List (Int)} {p2 : Int} {r : (List (Int)) × Int} (h : m_ref09_Step p0 p1 p2 = some r) : Pure Tryz.prog 62 [gA p0, slE eInt p1, hI p2] (· = HV.tup [slE eInt r.1, hI r.2]) := by
 unfold m_ref09_Step at h
 refine Pure.of_body Tryz.func62 rfl rfl (lb rfl) fun hf => ?_
 unfold Tryz.f62
 dsimp only [enumS, Nat.reduceAdd]
 refine AW.rgs rfl fun K hK => b_op rfl (o_box rfl rfl rfl ?_)
 refine mv rfl rfl (mv rfl rfl ?_)
 let P2 : ASf := fun t H => ⟨(1, slE eInt p1) :: (2, hI p2) :: (3, gF p0) :: t, H⟩
 refine bf hK (P2 [] []) ?_
 refine AW.seq ?_
 refine AW.rgs rfl fun K hK => bv rfl (v_loadF ty24 rfl (l_litA rfl (lb rfl) rfl)) ?_
 obtain ⟨x1, h2, h⟩ := bS h
 refine b_op rfl (o_call rfl rfl rfl rfl (ACallD.pure0 (w_ref09_Check h2)) ?_)
 refine bv rfl (v_bin rfl rfl b_neq) ?_
 refine bf hK (P2 [(11, .bool (decide (x1 ≠ 0)))] []) ?_
 refine AW.cond rfl (fun hc => ?_) (fun hc => ?_)
 ·obtain ⟨hc, h⟩ := cT hc h
  refine AW.rgs rfl fun K hK => mv rfl rfl (mv rfl rfl ?_)
  refine bf hK ⟨[(6, .v (.slice none 0 0)), (7, hI 1)], []⟩ ?_
  refine AW.to (to_weak ⟨[(6, slE eInt ([] : List Int)), (7, hI 1)], []⟩ ⟨⟨_, rfl, .nil _⟩, ⟨_, rfl, .refl _⟩, trivial⟩ trivial ?_)
  refine AW.ret ?_
  have h := Option.some.inj h
  subst h
  exact ret_pure (hs := [slE eInt ([] : List Int), hI 1]) (.inr rfl) (resT rfl (resT rfl rfl)) rfl ⟨(clean_slE fun _ _ => ⟨trivial, trivial⟩), trivial, trivial⟩
 obtain ⟨hc, h⟩ := cF hc h
 refine AW.skip ?_
 refine AW.seq ?_
 refine AW.rgs rfl fun K hK => bv rfl (v_loadF ty24 rfl (l_litA rfl (lb rfl) rfl)) (mv rfl rfl ?_)
 obtain ⟨x3, h4, h⟩ := bS h
 refine b_op rfl (o_call rfl rfl rfl rfl (ACallD.pure0 (w_ref09_CheckSet h4)) ?_)
 refine mv rfl rfl ?_
 refine bf hK (P2 [(8, hI x3)] []) ?_
 refine AW.rgs rfl fun K hK => mv rfl rfl (bv rfl (v_bin rfl rfl b_neq) ?_)
 refine bf hK (P2 [(8, hI x3), (16, .bool (decide (x3 ≠ 0)))] []) ?_
 refine AW.cond rfl (fun hc => ?_) (fun hc => ?_)
 ·obtain ⟨hc, h⟩ := cT hc h
  refine AW.rgs rfl fun K hK => mv rfl rfl (mv rfl rfl (mv rfl rfl ?_))
  refine bf hK ⟨[(6, .v (.slice none 0 0)), (7, hI x3)], []⟩ ?_
  refine AW.to (to_weak ⟨[(6, slE eInt ([] : List Int)), (7, hI x3)], []⟩ ⟨⟨_, rfl, .nil _⟩, ⟨_, rfl, .refl _⟩, trivial⟩ trivial ?_)
  refine AW.ret ?_
  have h := Option.some.inj h
  subst h
  exact ret_pure (hs := [slE eInt ([] : List Int), hI x3]) (.inr rfl) (resT rfl (resT rfl rfl)) rfl ⟨(clean_slE fun _ _ => ⟨trivial, trivial⟩), trivial, trivial⟩
 obtain ⟨hc, h⟩ := cF hc h
 refine AW.skip ?_
 refine AW.seq ?_
 refine AW.seqJ h (S := Bool) (V := Unit) (fun a v => (P2 [(25, .bool a)] [])) (fun a5 w6 h => ?_) (fun k7 h => ?_)
 ·refine AW.cond rfl (fun hc => ?_) (fun hc => ?_)
  ·have h := ifT hc h
   refine AW.rgs rfl fun K hK => mv rfl rfl (mv rfl rfl ?_)
   refine bf hK ⟨[(6, .v (.slice none 0 0)), (7, hI 2)], []⟩ ?_
   refine AW.to (to_weak ⟨[(6, slE eInt ([] : List Int)), (7, hI 2)], []⟩ ⟨⟨_, rfl, .nil _⟩, ⟨_, rfl, .refl _⟩, trivial⟩ trivial ?_)
   refine AW.ret ?_
   have h := Option.some.inj h
   subst h
   exact ret_pure (hs := [slE eInt ([] : List Int), hI 2]) (.inr rfl) (resT rfl (resT rfl rfl)) rfl ⟨(clean_slE fun _ _ => ⟨trivial, trivial⟩), trivial, trivial⟩
  have h := ifF (bF' hc) h
  refine AW.skip ?_
  refine AW.rgs rfl fun K hK => bv rfl (v_loadF ty24 rfl (l_litA rfl (lb rfl) rfl)) (mv rfl rfl (mv rfl rfl ?_))
  obtain ⟨x8, h9, h⟩ := bS h
  refine b_op rfl (o_call rfl rfl rfl rfl (ACallD.pure0 (w_ref09_Next h9)) ?_)
  refine mv rfl rfl (mv rfl rfl ?_)
  refine bf hK ⟨[(6, slE eInt x8), (7, hI 0)], []⟩ ?_
  refine AW.ret ?_
  have h := Option.some.inj h
  subst h
  exact ret_pure (hs := [slE eInt x8, hI 0]) (.inr rfl) (resT rfl (resT rfl rfl)) rfl ⟨(clean_slE fun _ _ => ⟨trivial, trivial⟩), trivial, trivial⟩
 refine AW.rg rfl fun K hK => mv rfl rfl (bv rfl (v_bin rfl rfl b_lss) (mv rfl rfl ?_))
 by_cases hg10 : p2 < 0
 ·have h := ifT hg10 h
  refine b_F rfl rfl rfl rfl rfl (decide_eq_true hg10) ?_
  refine b_F rfl rfl rfl rfl rfl rfl ?_
  refine b_F rfl rfl rfl rfl rfl rfl ?_
  refine b_F rfl rfl rfl rfl rfl rfl ?_
  refine bv rfl (v_pickT rfl rfl rfl) ?_
  refine b_nil (hK _ ?_)
  exact to_L ⟨true, (), h, rfl⟩
 have h := ifF hg10 h
 refine b_T rfl rfl rfl rfl (decide_eq_false hg10) (o_val rfl (mv_val rfl rfl).2 ?_)
 refine b_T rfl rfl rfl rfl rfl (o_val rfl (v_fieldAddrF fo24_0 rfl) ?_)
 refine b_T rfl rfl rfl rfl rfl (o_val rfl (v_loadF ty3 rfl (l_lit rfl rfl)) ?_)
 refine b_T rfl rfl rfl rfl rfl (o_val rfl (v_bin rfl rfl b_geq) ?_)
 refine bv rfl (v_pickF rfl rfl rfl) ?_
 refine b_nil (hK _ ?_)
 exact to_L ⟨decide (p0.1 ≤ p2), (), h, rfl⟩
theorem w_ref12_index {p0 : List (List (Int))} {p1 : List (Int)} {r : Int} (h : m_ref12_index p0 p1 = some r) : Pure Tryz.prog 63 [slE (eSl eInt) p0, slE eInt p1] (· = hI r) := by
 unfold m_ref12_index at h
 refine Pure.of_body Tryz.func63 rfl rfl (lb rfl) fun hf => ?_
 unfold Tryz.f63
 dsimp only [enumS, Nat.reduceAdd]
 refine AW.rgs rfl fun K hK => mv rfl rfl ?_
 let P3 : ASf := fun t H => ⟨(0, slE (eSl eInt) p0) :: (1, slE eInt p1) :: t, H⟩
 refine bf hK (P3 [] []) ?_
 refine AW.seq ?_
 refine AW.rgs rfl fun K hK => mv rfl rfl ?_
 refine bf hK (P3 [(5, hI 0)] []) ?_
 refine AW.lpR h (by first | exact up_then | exact up_to) (S := Int) (V := Unit) (fun a v => (P3 [(5, hI a)] [])) ?_ (X := Unit) (W := Unit) (fun a v => ⟨[], []⟩) (fun a9 w10 h => ?_) (fun a1 w2 st3 h hr4=> ?_)
 ·exact to_L ⟨(), rfl⟩
 ·refine AW.rgs rfl fun K hK => mv rfl rfl ?_
  refine bf hK ⟨[(4, hI (-1))], []⟩ ?_
  refine AW.ret ?_
  have h := Option.some.inj h
  subst h
  exact ret_pure (hs := [hI (-1)]) (.inr rfl) (resT rfl rfl) rfl trivial
 refine AW.seq ?_
 refine AW.rgs rfl fun K hK => mv rfl rfl (mv rfl rfl (bv rfl (v_lenF rfl rfl ty35 rfl) (bv rfl (v_bin rfl rfl b_lss) ?_)))
 refine bf hK (P3 [(5, hI a1), (9, .bool (decide (a1 < ((p0).length : Int))))] []) ?_
 refine AW.cond rfl (fun hc => ?_) (fun hc => ?_)
 ·obtain ⟨hc, h⟩ := cT hc h
  refine AW.skip ?_
  refine AW.seq (AW.block ?_)
  refine AW.rgs rfl fun K hK => mv rfl rfl (mv rfl rfl ?_)
  obtain ⟨x5, h6, h⟩ := bS h
  refine bv rfl (v_idxF ty35 es35 rfl rfl (idx_lt h6)) (bv rfl (v_loadF ty27 rfl (l_cell (eSl eInt) h6 (o := 0) rfl rfl)) (mv rfl rfl ?_))
  obtain ⟨x7, h8, h⟩ := bS h
  refine b_op rfl (o_call rfl rfl rfl rfl (ACallD.pure0 (w_ref12_Same h8)) ?_)
  refine bf hK (P3 [(5, hI a1), (17, .bool x7)] []) ?_
  refine AW.cond rfl (fun hc => ?_) (fun hc => ?_)
  ·have h := ifT hc h
   refine AW.rgs rfl fun K hK => mv rfl rfl (mv rfl rfl ?_)
   refine bf hK ⟨[(4, hI a1)], []⟩ ?_
   have h := hr4 _ h
   refine AW.ret ?_
   have h := Option.some.inj h
   subst h
   exact ret_pure (hs := [hI a1]) (.inr rfl) (resT rfl rfl) rfl trivial
  have h := ifF (bF' hc) h
  refine AW.skip ?_
  refine AW.rg rfl fun K hK => mv rfl rfl (bv rfl (v_bin rfl rfl b_add) (mv rfl rfl ?_))
  refine b_nil (hK _ ?_)
  exact to_L ⟨IntKind.wrap .i64 (a1 + 1), (), h, rfl⟩
 obtain ⟨hc, h⟩ := cF hc h
 refine AW.exit ?_
 exact to_L ⟨(), (), h, rfl⟩
end Go.AW
