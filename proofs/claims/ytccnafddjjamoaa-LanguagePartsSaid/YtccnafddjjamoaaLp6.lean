/- LanguageParts: for every input the law's function returns true, and the input reads as it did. -/
import Derived.Test.YtccnafddjjamoaaLp5
import Derived.ChangeMaps5
import Derived.OpenShut
import Derived.ProofKit
import Derived.SliceStrings
import Derived.Test.YtccnafddjjamoaaRows
import Derived.WalkKit
import Derived.WideKeyArgs
/- The law of parts: words from all states, between all pairs of states. -/
namespace Go.AW
open Go
set_option linter.unusedSimpArgs false
set_option linter.unusedVariables false

theorem sortS_mem {l : List (List UInt8)} {x : List UInt8} : x ∈ sortS l ↔ x ∈ l := (List.mergeSort_perm l _).mem_iff
theorem sortS_le (l : List (List UInt8)) : (sortS l).Pairwise (· ≤ ·) := (List.pairwise_mergeSort le_trans_bytes le_total_bytes l).imp fun h => by simpa using h
theorem compS_eq {l m : List (List UInt8)} (hm : m.Pairwise (· < ·)) (h : ∀ x, x ∈ l ↔ x ∈ m) : compactS_ (sortS l) = m := by
  refine ascW_uniq (compactS_asc (sortS_le l)) hm fun x => ?_
  rw [← h x]
  exact ⟨fun hx => sortS_mem.1 (compactS_mem hx), fun hx => compactS_has (sortS_mem.2 hx)⟩

section
variable {g : Gr}
/-- the words from a set; those that end in a state -/
def wordsF (g : Gr) (set : List Int) (n : Nat) : List (List UInt8) := (allW (lets g) n).filter fun w => decide (endsL g set w ≠ [])
def wordsB (g : Gr) (set : List Int) (t : Int) (n : Nat) : List (List UInt8) := (allW (lets g) n).filter fun w => decide (t ∈ endsL g set w)
theorem wordsF_asc (set : List Int) (n : Nat) : (wordsF g set n).Pairwise (· < ·) := (allW_asc (lets_asc g) n).filter _
theorem LV_words (hv : VG g) {set : List Int} (hs : SetOk g set) (n : Nat) : (LV g set n).map Prod.fst = wordsF g set n := by
  refine ascW_uniq (LV_asc g _ n) (wordsF_asc _ _) fun w => ?_
  simp only [wordsF, List.mem_map, List.mem_filter, mem_allW, decide_eq_true_eq]
  constructor
  · rintro ⟨x, hx, rfl⟩
    obtain ⟨h1, h2, h3, h4⟩ := (mem_LV hv hs n x).1 hx
    exact ⟨⟨h1, h2⟩, by rw [← h3]; exact h4⟩
  · rintro ⟨⟨h1, h2⟩, h3⟩
    exact ⟨(w, endsL g set w), (mem_LV hv hs n _).2 ⟨h1, h2, rfl, h3⟩, rfl⟩
theorem LV_wordsB (hv : VG g) {set : List Int} (hs : SetOk g set) (t : Int) (n : Nat) : ((LV g set n).filter fun x => decide (t ∈ x.2)).map Prod.fst = wordsB g set t n := by
  refine ascW_uniq ((LV_asc g _ n).sublist ((List.filter_sublist ..).map _)) ((allW_asc (lets_asc g) n).filter _) fun w => ?_
  simp only [wordsB, List.mem_map, List.mem_filter, mem_allW, decide_eq_true_eq]
  constructor
  · rintro ⟨x, ⟨hx, ht⟩, rfl⟩
    obtain ⟨h1, h2, h3, h4⟩ := (mem_LV hv hs n x).1 hx
    exact ⟨⟨h1, h2⟩, by rw [← h3]; exact ht⟩
  · rintro ⟨⟨h1, h2⟩, h3⟩
    exact ⟨(w, endsL g set w), ⟨(mem_LV hv hs n _).2 ⟨h1, h2, rfl, fun e => by dsimp only at e; rw [e] at h3; cases h3⟩, h3⟩, rfl⟩
theorem LV_le (hv : VG g) {set : List Int} (hs : SetOk g set) (n : Nat) : (LV g set n).length ≤ (allW (lets g) n).length := by
  have : (LV g set n).length = ((LV g set n).map Prod.fst).length := by rw [List.length_map]
  rw [this, LV_words hv hs]
  exact List.length_filter_le _ _
theorem ends_or (hv : VG g) (w : List UInt8) : endsL g (upto g.2.1) w ≠ [] ↔ ∃ s ∈ upto g.2.1, endsL g [s] w ≠ [] := by
  rw [can_iff hv w (upto_ok g)]
  constructor
  · rintro ⟨s, hs, hc⟩
    obtain ⟨h0, h1⟩ := mem_upto.1 hs
    exact ⟨s, hs, (can_iff hv w (one_ok h0 h1)).2 ⟨s, by simp, hc⟩⟩
  · rintro ⟨s, hs, hc⟩
    obtain ⟨h0, h1⟩ := mem_upto.1 hs
    obtain ⟨s', hs', hc'⟩ := (can_iff hv w (one_ok h0 h1)).1 hc
    simp at hs'; subst hs'
    exact ⟨s', hs, hc'⟩
theorem wordsF_parts (hv : VG g) {s : Int} (h0 : 0 ≤ s) (h1 : s < g.2.1) (n : Nat) : compactS_ (sortS ((upto g.2.1).flatMap fun t => wordsB g [s] t n)) = wordsF g [s] n := by
  refine compS_eq (wordsF_asc _ _) fun x => ?_
  simp only [List.mem_flatMap, wordsB, wordsF, List.mem_filter, decide_eq_true_eq]
  constructor
  · rintro ⟨t, ht, hx, hm⟩
    exact ⟨hx, fun e => by rw [e] at hm; cases hm⟩
  · rintro ⟨hx, hne⟩
    obtain ⟨t, ht⟩ := List.exists_mem_of_ne_nil _ hne
    have := (endsL_ok (one_ok h0 h1) x).2 t ht
    exact ⟨t, mem_upto.2 this, hx, ht⟩
theorem words_parts (hv : VG g) (n : Nat) : compactS_ (sortS ((upto g.2.1).flatMap fun s => wordsF g [s] n)) = (allW (lets g) n).filter (accB g) := by
  refine compS_eq ((allW_asc (lets_asc g) n).filter _) fun x => ?_
  simp only [List.mem_flatMap, wordsF, List.mem_filter, decide_eq_true_eq, accB, ends_or hv]
  constructor
  · rintro ⟨s, hs, hx, hm⟩; exact ⟨hx, s, hs, hm⟩
  · rintro ⟨hx, s, hs, hm⟩; exact ⟨s, hs, hx, hm⟩
theorem flat_le {α : Type} (f : α → List (List UInt8)) {b : Nat} : ∀ l : List α, (∀ x ∈ l, (f x).length ≤ b) → (l.flatMap f).length ≤ l.length * b
  | [], _ => by simp
  | x :: l, h => by
    have h1 := flat_le f l fun y hy => h y (List.mem_cons_of_mem _ hy)
    have h2 := h x (List.mem_cons_self ..)
    rw [List.flatMap_cons, List.length_append, List.length_cons, Nat.succ_mul]
    omega
theorem flat_next {α : Type} (f : α → List (List UInt8)) {l : List α} {i : Nat} (h : i < l.length) : (l.take (i + 1)).flatMap f = (l.take i).flatMap f ++ f l[i] := by
  rw [List.take_add_one, List.getElem?_eq_getElem h, List.flatMap_append]
  simp
end

theorem law_parts11 (g : Gr) (p : Int) (a0 : 0 ≤ p) (a1 : p ≤ 255) : m_law11_LanguageParts g p = some true := by
  have hk0 : 0 ≤ Int.tmod (IntKind.wrap .i64 p) 8 ∧ Int.tmod (IntKind.wrap .i64 p) 8 ≤ 7 := by
    rw [w64 (by omega) (by omega), Int.tmod_eq_emod_of_nonneg a0]; omega
  unfold m_law11_LanguageParts
  generalize Int.tmod (IntKind.wrap .i64 p) 8 = k at hk0
  obtain ⟨k, rfl⟩ := Int.eq_ofNat_of_zero_le hk0.1
  obtain ⟨b, hb, hb2⟩ := fine_tot g
  obtain ⟨m, hm, hm2⟩ := Many_tot g (k := k) (by omega) (m := 300) (by omega) (by omega)
  simp only [jp, hb, hm, Option.bind_some, m_law11_awake, if_true]
  by_cases hbt : (!b) = true
  · rw [if_pos hbt]
  rw [if_neg hbt]
  by_cases hmt : m = true
  · rw [if_pos hmt]
  rw [if_neg hmt]
  obtain ⟨hv, h16, h8, h30⟩ := hb2 (by simpa using hbt)
  have hl1 := hv.l1
  have hs0 := hv.s0
  have hpow : ∀ j, 1 ≤ j → j ≤ k → g.1.toNat ^ j ≤ 300 := fun j j1 j2 => by
    have := hm2 (by simpa using hmt) j j1 j2
    have e : (max 1 (min g.1 256)).toNat = g.1.toNat := by omega
    rw [e] at this
    omega
  have hlen : ∀ j, j ≤ k → (allW (lets g) j).length ≤ 300 := fun j hj => by
    rw [allW_len, lets_len hv h16]
    by_cases h0 : j = 0
    · subst h0; simp
    · exact hpow j (by omega) hj
  have hup : (upto g.2.1).length ≤ 8 := by rw [upto_len]; omega
  have hokl : ∀ s, 0 ≤ s → s < g.2.1 → OKL g [s] k = true := fun s h0 h1 => OKL_iff.2 fun j j1 j2 => Nat.le_trans (LV_le hv (one_ok h0 h1) j) (Nat.le_trans (hlen j j2) (by decide))
  have hF : ∀ s, 0 ≤ s → s < g.2.1 → m_language_From g s (k : Int) = some (wordsF g [s] k, 0) := fun s h0 h1 => by
    obtain ⟨r, hr, _, _, hx⟩ := From_both g s (k : Int)
    have := hx hv h16 (by omega) (by omega) h0 h1 (by simpa using hokl s h0 h1)
    rw [hr, this, Int.toNat_natCast, LV_words hv (one_ok h0 h1)]
  have hB : ∀ s t, 0 ≤ s → s < g.2.1 → 0 ≤ t → t < g.2.1 → m_language_Between g s t (k : Int) = some (wordsB g [s] t k, 0) := fun s t h0 h1 h2 h3 => by
    obtain ⟨r, hr, _, _, hx⟩ := Between_both g s t (k : Int)
    have := hx hv h16 (by omega) (by omega) h0 h1 h2 h3 (by simpa using hokl s h0 h1)
    rw [hr, this, Int.toNat_natCast, LV_wordsB hv (one_ok h0 h1)]
  have hFl : ∀ s, (wordsF g [s] k).length ≤ 300 := fun s => Nat.le_trans (List.length_filter_le _ _) (hlen k (Nat.le_refl _))
  have hBl : ∀ s t, (wordsB g [s] t k).length ≤ 300 := fun s t => Nat.le_trans (List.length_filter_le _ _) (hlen k (Nat.le_refl _))
  have hW := Words_ok hv h16 (n := k) (by omega) (fun j j1 j2 => Nat.le_trans (hpow j j1 j2) (by decide))
  rw [hW, every_eq hv h8]
  simp only [Option.bind_some]
  have hall : ∀ i (hi : i < (upto g.2.1).length), 0 ≤ (upto g.2.1)[i] ∧ (upto g.2.1)[i] < g.2.1 := fun i hi => mem_upto.1 (List.getElem_mem hi)
  refine lpL (loop_is (fun i => ((i : Int), ((upto g.2.1).take i).flatMap fun s => wordsF g [s] k)) (upto g.2.1).length (Ou.go ((upto g.2.1).flatMap fun s => wordsF g [s] k)) (fun i hi => ?_) ?_ (by simp)) ?_
  · dsimp only
    obtain ⟨h0, h1⟩ := hall i hi
    rw [if_pos (lt_int hi), ix hi]
    simp only [Option.bind_some, hF _ h0 h1]
    refine lpL (loop_is (fun j => ((j : Int), ((upto g.2.1).take j).flatMap fun t => wordsB g [(upto g.2.1)[i]] t k)) (upto g.2.1).length (Ou.go ((upto g.2.1).flatMap fun t => wordsB g [(upto g.2.1)[i]] t k)) (fun j hj => ?_) ?_ (by simp)) ?_
    · dsimp only
      obtain ⟨h2, h3⟩ := hall j hj
      rw [if_pos (lt_int hj), ix hj]
      simp only [Option.bind_some, hB _ _ h0 h1 h2 h3, ne_eq, not_true_eq_false, if_false]
      have hfl := flat_le (b := 300) (fun t => wordsB g [(upto g.2.1)[i]] t k) ((upto g.2.1).take j) (fun x _ => hBl _ _)
      have htl : ((upto g.2.1).take j).length ≤ 8 := by rw [List.length_take]; omega
      have hbj := hBl (upto g.2.1)[i] (upto g.2.1)[j]
      have := Nat.mul_le_mul_right 300 htl
      rw [if_pos (fits_le (by omega) (by omega)), nx (by omega : (upto g.2.1).length ≤ _) hj, flat_next _ hj]
    · dsimp only
      rw [if_neg (not_lt_int _), List.take_length]
    · simp only [lpO]
      have hfl := flat_le (b := 300) (fun t => wordsB g [(upto g.2.1)[i]] t k) (upto g.2.1) (fun x _ => hBl _ _)
      have := Nat.mul_le_mul_right 300 hup
      rw [if_pos (by omega)]
      rw [if_neg (by simp), wordsF_parts hv h0 h1, EqS_eq (by have := hFl (upto g.2.1)[i]; omega)]
      simp only [Option.bind_some, decide_true, Bool.not_true, Bool.false_eq_true, if_false]
      have hfl2 := flat_le (b := 300) (fun s => wordsF g [s] k) ((upto g.2.1).take i) (fun x _ => hFl _)
      have htl : ((upto g.2.1).take i).length ≤ 8 := by rw [List.length_take]; omega
      have h4 := Nat.mul_le_mul_right 300 htl
      have h5 := hFl (upto g.2.1)[i]
      rw [if_pos (fits_le (by omega) (by omega)), nx (by omega : (upto g.2.1).length ≤ _) hi, flat_next _ hi]
  · dsimp only
    rw [if_neg (not_lt_int _), List.take_length]
  · simp only [lpO]
    have hfl := flat_le (b := 300) (fun s => wordsF g [s] k) (upto g.2.1) (fun x _ => hFl _)
    have := Nat.mul_le_mul_right 300 hup
    rw [if_pos (by omega), words_parts hv, EqS_eq (by have := hlen k (Nat.le_refl _); have := List.length_filter_le (accB g) (allW (lets g) k); omega)]
    simp
end Go.AW

namespace Go.AW
open Go Go.Proofs
set_option linter.unusedVariables false
set_option maxHeartbeats 1600000 in
set_option maxRecDepth 100000 in
theorem w_ref11_Great {p0 : TLabelsStatesEdges} {r : Bool} (h : m_ref11_Great p0 = some r) : Pure Try.prog 85 [HV.agg [HV.int .i64 p0.1, HV.int .i64 p0.2.1, slE eFromLabelTo p0.2.2]] (· = HV.bool r) := by
  unfold m_ref11_Great at h
  refine Pure.of_body Try.func85 rfl rfl (Nat.le_of_ble_eq_true rfl) fun hf => ?_
  unfold Try.f85
  dsimp only [enumS, Nat.reduceAdd]
  refine AW.rgs rfl fun K hK => ?_
  refine b_op rfl (o_box rfl rfl rfl ?_)
  refine mv rfl rfl ?_
  refine b_nil (hK _ (AW.to (to_le (s' := ⟨[(1, HV.fptr [HV.int .i64 p0.1, HV.int .i64 p0.2.1, slE eFromLabelTo p0.2.2] 0)], []⟩) (AS.le_of ⟨rfl, trivial⟩ trivial) ?_)))
  clear hK K
  refine AW.seqJ h (S := Bool) (V := Unit) (fun a v => ⟨[(2, HV.bool a)], []⟩) (fun a1 w2 h => ?_) (fun k3 h => ?_)
  · refine AW.ret ?_
    have h := Option.some.inj h
    subst h
    exact ret_pure (hs := [HV.bool a1]) (q := HV.bool a1) (.inr rfl) (resT rfl rfl) rfl trivial
  · refine AW.rg rfl fun K hK => ?_
    refine bv rfl (v_fieldAddrF fo24_1 rfl) ?_
    refine bv rfl (v_loadF ty3 rfl (l_lit rfl rfl)) ?_
    refine bv rfl (v_bin rfl rfl b_gtr) ?_
    refine mv rfl rfl ?_
    by_cases hg9 : 8 < p0.2.1
    · have h := ifT hg9 h
      refine b_T rfl rfl rfl rfl (decide_eq_true hg9) (o_val rfl (v_fieldAddrF fo24_1 rfl) ?_)
      refine b_T rfl rfl rfl rfl rfl (o_val rfl (v_loadF ty3 rfl (l_lit rfl rfl)) ?_)
      refine b_T rfl rfl rfl rfl rfl (o_val rfl (v_bin rfl rfl b_leq) ?_)
      refine bv rfl (v_pickT rfl rfl rfl) ?_
      refine mv rfl rfl ?_
      by_cases hg6 : p0.2.1 ≤ 64
      · have h := ifT hg6 h
        refine b_F rfl rfl rfl rfl rfl (decide_eq_true hg6) ?_
        refine b_F rfl rfl rfl rfl rfl rfl ?_
        refine b_F rfl rfl rfl rfl rfl rfl ?_
        refine b_F rfl rfl rfl rfl rfl rfl ?_
        refine b_F rfl rfl rfl rfl rfl rfl ?_
        refine b_U rfl rfl rfl rfl rfl ?_
        refine b_U rfl rfl rfl rfl rfl ?_
        refine b_U rfl rfl rfl rfl rfl ?_
        refine b_U rfl rfl rfl rfl rfl ?_
        refine b_F rfl rfl rfl rfl rfl rfl ?_
        refine bv rfl (v_pickT rfl rfl rfl) ?_
        refine mv rfl rfl ?_
        refine b_F rfl rfl rfl rfl rfl rfl ?_
        refine b_F rfl rfl rfl rfl rfl rfl ?_
        refine b_F rfl rfl rfl rfl rfl rfl ?_
        refine b_F rfl rfl rfl rfl rfl rfl ?_
        refine bv rfl (v_pickT rfl rfl rfl) ?_
        refine mv rfl rfl ?_
        refine b_nil (hK _ ?_)
        clear hK K
        exact to_le (s' := ⟨[(2, HV.bool true)], []⟩) (AS.le_of ⟨rfl, trivial⟩ trivial) ⟨true, (), h, rfl⟩
      · have h := ifF hg6 h
        refine b_T rfl rfl rfl rfl (decide_eq_false hg6) (o_val rfl (v_fieldAddrF fo24_2 rfl) ?_)
        refine b_T rfl rfl rfl rfl rfl (o_val rfl (v_loadF ty22 rfl (l_lit rfl rfl)) ?_)
        refine b_T rfl rfl rfl rfl rfl (o_val rfl (v_lenF rfl rfl ty22 rfl) ?_)
        refine b_T rfl rfl rfl rfl rfl (o_val rfl (v_bin rfl rfl b_gtr) ?_)
        refine b_T rfl rfl rfl rfl rfl (o_val rfl (mv_val rfl rfl).2 ?_)
        by_cases hg5 : 30 < ((p0.2.2).length : Int)
        · have h := ifT hg5 h
          refine b_T rfl rfl rfl rfl (decide_eq_true hg5) (o_val rfl (v_fieldAddrF fo24_2 rfl) ?_)
          refine b_T rfl rfl rfl rfl rfl (o_val rfl (v_loadF ty22 rfl (l_lit rfl rfl)) ?_)
          refine b_T rfl rfl rfl rfl rfl (o_val rfl (v_lenF rfl rfl ty22 rfl) ?_)
          refine b_T rfl rfl rfl rfl rfl (o_val rfl (v_bin rfl rfl b_leq) ?_)
          refine b_T rfl rfl rfl rfl rfl (o_val rfl (v_pickT rfl rfl rfl) ?_)
          refine bv rfl (v_pickF rfl rfl rfl) ?_
          refine mv rfl rfl ?_
          by_cases hg4 : ((p0.2.2).length : Int) ≤ 1024
          · have h := ifT hg4 h
            refine b_F rfl rfl rfl rfl rfl (decide_eq_true hg4) ?_
            refine b_F rfl rfl rfl rfl rfl rfl ?_
            refine b_F rfl rfl rfl rfl rfl rfl ?_
            refine b_F rfl rfl rfl rfl rfl rfl ?_
            refine bv rfl (v_pickT rfl rfl rfl) ?_
            refine mv rfl rfl ?_
            refine b_nil (hK _ ?_)
            clear hK K
            exact to_le (s' := ⟨[(2, HV.bool true)], []⟩) (AS.le_of ⟨rfl, trivial⟩ trivial) ⟨true, (), h, rfl⟩
          · have h := ifF hg4 h
            refine b_T rfl rfl rfl rfl (decide_eq_false hg4) (o_val rfl (v_fieldAddrF fo24_2 rfl) ?_)
            refine b_T rfl rfl rfl rfl rfl (o_val rfl (v_loadF ty22 rfl (l_lit rfl rfl)) ?_)
            refine b_T rfl rfl rfl rfl rfl (o_val rfl (v_lenF rfl rfl ty22 rfl) ?_)
            refine b_T rfl rfl rfl rfl rfl (o_val rfl (v_bin rfl rfl b_gtr) ?_)
            refine bv rfl (v_pickF rfl rfl rfl) ?_
            refine mv rfl rfl ?_
            refine b_nil (hK _ ?_)
            clear hK K
            exact to_le (s' := ⟨[(2, HV.bool (decide (1027 < ((p0.2.2).length : Int))))], []⟩) (AS.le_of ⟨rfl, trivial⟩ trivial) ⟨decide (1027 < ((p0.2.2).length : Int)), (), h, rfl⟩
        · have h := ifF hg5 h
          refine b_F rfl rfl rfl rfl rfl (decide_eq_false hg5) ?_
          refine b_F rfl rfl rfl rfl rfl rfl ?_
          refine b_F rfl rfl rfl rfl rfl rfl ?_
          refine b_F rfl rfl rfl rfl rfl rfl ?_
          refine b_T rfl rfl rfl rfl rfl (o_val rfl (v_pickF rfl rfl rfl) ?_)
          refine bv rfl (v_pickF rfl rfl rfl) ?_
          refine mv rfl rfl ?_
          refine b_T rfl rfl rfl rfl rfl (o_val rfl (v_fieldAddrF fo24_2 rfl) ?_)
          refine b_T rfl rfl rfl rfl rfl (o_val rfl (v_loadF ty22 rfl (l_lit rfl rfl)) ?_)
          refine b_T rfl rfl rfl rfl rfl (o_val rfl (v_lenF rfl rfl ty22 rfl) ?_)
          refine b_T rfl rfl rfl rfl rfl (o_val rfl (v_bin rfl rfl b_gtr) ?_)
          refine bv rfl (v_pickF rfl rfl rfl) ?_
          refine mv rfl rfl ?_
          refine b_nil (hK _ ?_)
          clear hK K
          exact to_le (s' := ⟨[(2, HV.bool (decide (1027 < ((p0.2.2).length : Int))))], []⟩) (AS.le_of ⟨rfl, trivial⟩ trivial) ⟨decide (1027 < ((p0.2.2).length : Int)), (), h, rfl⟩
    · have h := ifF hg9 h
      refine b_F rfl rfl rfl rfl rfl (decide_eq_false hg9) ?_
      refine b_F rfl rfl rfl rfl rfl rfl ?_
      refine b_F rfl rfl rfl rfl rfl rfl ?_
      refine bv rfl (v_pickF rfl rfl rfl) ?_
      refine mv rfl rfl ?_
      refine b_T rfl rfl rfl rfl rfl (o_val rfl (v_fieldAddrF fo24_2 rfl) ?_)
      refine b_T rfl rfl rfl rfl rfl (o_val rfl (v_loadF ty22 rfl (l_lit rfl rfl)) ?_)
      refine b_T rfl rfl rfl rfl rfl (o_val rfl (v_lenF rfl rfl ty22 rfl) ?_)
      refine b_T rfl rfl rfl rfl rfl (o_val rfl (v_bin rfl rfl b_gtr) ?_)
      refine b_T rfl rfl rfl rfl rfl (o_val rfl (mv_val rfl rfl).2 ?_)
      by_cases hg8 : 30 < ((p0.2.2).length : Int)
      · have h := ifT hg8 h
        refine b_T rfl rfl rfl rfl (decide_eq_true hg8) (o_val rfl (v_fieldAddrF fo24_2 rfl) ?_)
        refine b_T rfl rfl rfl rfl rfl (o_val rfl (v_loadF ty22 rfl (l_lit rfl rfl)) ?_)
        refine b_T rfl rfl rfl rfl rfl (o_val rfl (v_lenF rfl rfl ty22 rfl) ?_)
        refine b_T rfl rfl rfl rfl rfl (o_val rfl (v_bin rfl rfl b_leq) ?_)
        refine b_T rfl rfl rfl rfl rfl (o_val rfl (v_pickT rfl rfl rfl) ?_)
        refine bv rfl (v_pickF rfl rfl rfl) ?_
        refine mv rfl rfl ?_
        by_cases hg7 : ((p0.2.2).length : Int) ≤ 1024
        · have h := ifT hg7 h
          refine b_F rfl rfl rfl rfl rfl (decide_eq_true hg7) ?_
          refine b_F rfl rfl rfl rfl rfl rfl ?_
          refine b_F rfl rfl rfl rfl rfl rfl ?_
          refine b_F rfl rfl rfl rfl rfl rfl ?_
          refine bv rfl (v_pickT rfl rfl rfl) ?_
          refine mv rfl rfl ?_
          refine b_nil (hK _ ?_)
          clear hK K
          exact to_le (s' := ⟨[(2, HV.bool true)], []⟩) (AS.le_of ⟨rfl, trivial⟩ trivial) ⟨true, (), h, rfl⟩
        · have h := ifF hg7 h
          refine b_T rfl rfl rfl rfl (decide_eq_false hg7) (o_val rfl (v_fieldAddrF fo24_2 rfl) ?_)
          refine b_T rfl rfl rfl rfl rfl (o_val rfl (v_loadF ty22 rfl (l_lit rfl rfl)) ?_)
          refine b_T rfl rfl rfl rfl rfl (o_val rfl (v_lenF rfl rfl ty22 rfl) ?_)
          refine b_T rfl rfl rfl rfl rfl (o_val rfl (v_bin rfl rfl b_gtr) ?_)
          refine bv rfl (v_pickF rfl rfl rfl) ?_
          refine mv rfl rfl ?_
          refine b_nil (hK _ ?_)
          clear hK K
          exact to_le (s' := ⟨[(2, HV.bool (decide (1027 < ((p0.2.2).length : Int))))], []⟩) (AS.le_of ⟨rfl, trivial⟩ trivial) ⟨decide (1027 < ((p0.2.2).length : Int)), (), h, rfl⟩
      · have h := ifF hg8 h
        refine b_F rfl rfl rfl rfl rfl (decide_eq_false hg8) ?_
        refine b_F rfl rfl rfl rfl rfl rfl ?_
        refine b_F rfl rfl rfl rfl rfl rfl ?_
        refine b_F rfl rfl rfl rfl rfl rfl ?_
        refine b_T rfl rfl rfl rfl rfl (o_val rfl (v_pickF rfl rfl rfl) ?_)
        refine bv rfl (v_pickF rfl rfl rfl) ?_
        refine mv rfl rfl ?_
        refine b_T rfl rfl rfl rfl rfl (o_val rfl (v_fieldAddrF fo24_2 rfl) ?_)
        refine b_T rfl rfl rfl rfl rfl (o_val rfl (v_loadF ty22 rfl (l_lit rfl rfl)) ?_)
        refine b_T rfl rfl rfl rfl rfl (o_val rfl (v_lenF rfl rfl ty22 rfl) ?_)
        refine b_T rfl rfl rfl rfl rfl (o_val rfl (v_bin rfl rfl b_gtr) ?_)
        refine bv rfl (v_pickF rfl rfl rfl) ?_
        refine mv rfl rfl ?_
        refine b_nil (hK _ ?_)
        clear hK K
        exact to_le (s' := ⟨[(2, HV.bool (decide (1027 < ((p0.2.2).length : Int))))], []⟩) (AS.le_of ⟨rfl, trivial⟩ trivial) ⟨decide (1027 < ((p0.2.2).length : Int)), (), h, rfl⟩

set_option maxHeartbeats 1600000 in
set_option maxRecDepth 100000 in
theorem w_law11_fine {p0 : TLabelsStatesEdges} {r : Bool} (h : m_law11_fine p0 = some r) : Pure Try.prog 39 [HV.agg [HV.int .i64 p0.1, HV.int .i64 p0.2.1, slE eFromLabelTo p0.2.2]] (· = HV.bool r) := by
  unfold m_law11_fine at h
  refine Pure.of_body Try.func39 rfl rfl (Nat.le_of_ble_eq_true rfl) fun hf => ?_
  unfold Try.f39
  dsimp only [enumS, Nat.reduceAdd]
  refine AW.rgs rfl fun K hK => ?_
  refine b_op rfl (o_box rfl rfl rfl ?_)
  refine mv rfl rfl ?_
  refine b_nil (hK _ (AW.to (to_le (s' := ⟨[(1, HV.fptr [HV.int .i64 p0.1, HV.int .i64 p0.2.1, slE eFromLabelTo p0.2.2] 0)], []⟩) (AS.le_of ⟨rfl, trivial⟩ trivial) ?_)))
  clear hK K
  refine AW.seqJ h (S := Bool) (V := Unit) (fun a v => ⟨[(2, HV.bool a)], []⟩) (fun a1 w2 h => ?_) (fun k3 h => ?_)
  · refine AW.ret ?_
    have h := Option.some.inj h
    subst h
    exact ret_pure (hs := [HV.bool a1]) (q := HV.bool a1) (.inr rfl) (resT rfl rfl) rfl trivial
  · refine AW.rg rfl fun K hK => ?_
    refine bv rfl (v_loadF ty24 rfl (l_litA rfl (Nat.le_of_ble_eq_true rfl) rfl)) ?_
    obtain ⟨x4, h5, h⟩ := bS h
    refine b_op rfl (o_call rfl rfl rfl rfl (ACallD.pure0 (w_ref11_Great h5)) ?_)
    refine bv rfl (v_not rfl) ?_
    refine mv rfl rfl ?_
    by_cases hg9 : (!x4) = true
    · have h := ifT hg9 h
      refine b_T rfl rfl rfl rfl hg9 (o_val rfl (v_loadF ty24 rfl (l_litA rfl (Nat.le_of_ble_eq_true rfl) rfl)) ?_)
      obtain ⟨x6, h7, h⟩ := bS h
      refine b_T rfl rfl rfl rfl rfl (o_call rfl rfl rfl rfl (ACallD.pure0 (w_graph_Check h7)) ?_)
      refine b_T rfl rfl rfl rfl rfl (o_val rfl (v_bin rfl rfl b_eql) ?_)
      refine bv rfl (v_pickT rfl rfl rfl) ?_
      refine mv rfl rfl ?_
      by_cases hg8 : x6 = 0
      · have h := ifT hg8 h
        refine b_T rfl rfl rfl rfl (decide_eq_true hg8) (o_val rfl (v_fieldAddrF fo24_0 rfl) ?_)
        refine b_T rfl rfl rfl rfl rfl (o_val rfl (v_loadF ty3 rfl (l_lit rfl rfl)) ?_)
        refine b_T rfl rfl rfl rfl rfl (o_val rfl (v_bin rfl rfl b_leq) ?_)
        refine bv rfl (v_pickT rfl rfl rfl) ?_
        refine mv rfl rfl ?_
        refine b_nil (hK _ ?_)
        clear hK K
        exact to_le (s' := ⟨[(2, HV.bool (decide (p0.1 ≤ 16)))], []⟩) (AS.le_of ⟨rfl, trivial⟩ trivial) ⟨decide (p0.1 ≤ 16), (), h, rfl⟩
      · have h := ifF hg8 h
        refine b_F rfl rfl rfl rfl rfl (decide_eq_false hg8) ?_
        refine b_F rfl rfl rfl rfl rfl rfl ?_
        refine b_F rfl rfl rfl rfl rfl rfl ?_
        refine bv rfl (v_pickF rfl rfl rfl) ?_
        refine mv rfl rfl ?_
        refine b_nil (hK _ ?_)
        clear hK K
        exact to_le (s' := ⟨[(2, HV.bool false)], []⟩) (AS.le_of ⟨rfl, trivial⟩ trivial) ⟨false, (), h, rfl⟩
    · have h := ifF hg9 h
      refine b_F rfl rfl rfl rfl rfl (bF hg9) ?_
      refine b_F rfl rfl rfl rfl rfl rfl ?_
      refine b_F rfl rfl rfl rfl rfl rfl ?_
      refine bv rfl (v_pickF rfl rfl rfl) ?_
      refine mv rfl rfl ?_
      refine b_F rfl rfl rfl rfl rfl rfl ?_
      refine b_F rfl rfl rfl rfl rfl rfl ?_
      refine b_F rfl rfl rfl rfl rfl rfl ?_
      refine bv rfl (v_pickF rfl rfl rfl) ?_
      refine mv rfl rfl ?_
      refine b_nil (hK _ ?_)
      clear hK K
      exact to_le (s' := ⟨[(2, HV.bool false)], []⟩) (AS.le_of ⟨rfl, trivial⟩ trivial) ⟨false, (), h, rfl⟩

set_option maxHeartbeats 1600000 in
set_option maxRecDepth 100000 in
theorem w_ref11_Many {p0 : TLabelsStatesEdges} {p1 : Int} {p2 : Int} {r : Bool} (h : m_ref11_Many p0 p1 p2 = some r) : Pure Try.prog 40 [HV.agg [HV.int .i64 p0.1, HV.int .i64 p0.2.1, slE eFromLabelTo p0.2.2], HV.int .i64 p1, HV.int .i64 p2] (· = HV.bool r) := by
  unfold m_ref11_Many at h
  refine Pure.of_body Try.func40 rfl rfl (Nat.le_of_ble_eq_true rfl) fun hf => ?_
  unfold Try.f40
  dsimp only [enumS, Nat.reduceAdd]
  refine AW.rgs rfl fun K hK => ?_
  refine b_op rfl (o_box rfl rfl rfl ?_)
  refine mv rfl rfl ?_
  refine b_nil (hK _ (AW.to (to_le (s' := ⟨[(1, HV.int .i64 p1), (2, HV.int .i64 p2), (3, HV.fptr [HV.int .i64 p0.1, HV.int .i64 p0.2.1, slE eFromLabelTo p0.2.2] 0)], []⟩) (AS.le_of ⟨rfl, rfl, rfl, trivial⟩ trivial) ?_)))
  clear hK K
  refine AW.rgs rfl fun K hK => ?_
  refine mv rfl rfl ?_
  refine b_nil (hK _ (AW.to (to_le (s' := ⟨[(1, HV.int .i64 p1), (2, HV.int .i64 p2), (3, HV.fptr [HV.int .i64 p0.1, HV.int .i64 p0.2.1, slE eFromLabelTo p0.2.2] 0), (7, HV.int .i64 1)], []⟩) (AS.le_of ⟨rfl, rfl, rfl, rfl, trivial⟩ trivial) ?_)))
  clear hK K
  refine AW.seq ?_
  refine AW.rgs rfl fun K hK => ?_
  refine mv rfl rfl ?_
  refine b_nil (hK _ (AW.to (to_le (s' := ⟨[(1, HV.int .i64 p1), (2, HV.int .i64 p2), (3, HV.fptr [HV.int .i64 p0.1, HV.int .i64 p0.2.1, slE eFromLabelTo p0.2.2] 0), (7, HV.int .i64 1), (8, HV.int .i64 0)], []⟩) (AS.le_of ⟨rfl, rfl, rfl, rfl, rfl, trivial⟩ trivial) ?_)))
  clear hK K
  refine AW.lpR h (by first | exact up_then | exact up_to) (S := Int × Int) (V := Unit) (fun a v => ⟨[(1, HV.int .i64 p1), (2, HV.int .i64 p2), (3, HV.fptr [HV.int .i64 p0.1, HV.int .i64 p0.2.1, slE eFromLabelTo p0.2.2] 0), (7, HV.int .i64 a.1), (8, HV.int .i64 a.2)], []⟩) ?_ (X := Unit) (W := Unit) (fun a v => ⟨[(1, HV.int .i64 p1)], []⟩) (fun a9 w10 h => ?_) (fun a1 w2 st3 h hr4=> ?_)
  · exact to_le (s' := ⟨[(1, HV.int .i64 p1), (2, HV.int .i64 p2), (3, HV.fptr [HV.int .i64 p0.1, HV.int .i64 p0.2.1, slE eFromLabelTo p0.2.2] 0), (7, HV.int .i64 1), (8, HV.int .i64 0)], []⟩) (AS.le_of ⟨rfl, rfl, rfl, rfl, rfl, trivial⟩ trivial) ⟨(), rfl⟩
  · refine AW.seqJ h (S := Bool) (V := Unit) (fun a v => ⟨[(6, HV.bool a)], []⟩) (fun a11 w12 h => ?_) (fun k13 h => ?_)
    · refine AW.ret ?_
      have h := Option.some.inj h
      subst h
      exact ret_pure (hs := [HV.bool a11]) (q := HV.bool a11) (.inr rfl) (resT rfl rfl) rfl trivial
    · refine AW.rg rfl fun K hK => ?_
      refine mv rfl rfl ?_
      refine bv rfl (v_bin rfl rfl b_gtr) ?_
      refine mv rfl rfl ?_
      by_cases hg14 : 24 < p1
      · have h := ifT hg14 h
        refine b_T rfl rfl rfl rfl (decide_eq_true hg14) (o_val rfl (mv_val rfl rfl).2 ?_)
        refine b_T rfl rfl rfl rfl rfl (o_val rfl (v_bin rfl rfl b_leq) ?_)
        refine bv rfl (v_pickT rfl rfl rfl) ?_
        refine mv rfl rfl ?_
        refine b_nil (hK _ ?_)
        clear hK K
        exact to_le (s' := ⟨[(6, HV.bool (decide (p1 ≤ 4096)))], []⟩) (AS.le_of ⟨rfl, trivial⟩ trivial) ⟨decide (p1 ≤ 4096), (), h, rfl⟩
      · have h := ifF hg14 h
        refine b_F rfl rfl rfl rfl rfl (decide_eq_false hg14) ?_
        refine b_F rfl rfl rfl rfl rfl rfl ?_
        refine bv rfl (v_pickF rfl rfl rfl) ?_
        refine mv rfl rfl ?_
        refine b_nil (hK _ ?_)
        clear hK K
        exact to_le (s' := ⟨[(6, HV.bool false)], []⟩) (AS.le_of ⟨rfl, trivial⟩ trivial) ⟨false, (), h, rfl⟩
  · refine AW.seq ?_
    refine AW.seqJ h (S := Bool) (V := Unit) (fun a v => ⟨[(1, HV.int .i64 p1), (2, HV.int .i64 p2), (3, HV.fptr [HV.int .i64 p0.1, HV.int .i64 p0.2.1, slE eFromLabelTo p0.2.2] 0), (7, HV.int .i64 a1.1), (8, HV.int .i64 a1.2), (15, HV.bool a)], []⟩) (fun a5 w6 h => ?_) (fun k7 h => ?_)
    · refine AW.cond rfl (fun hc => ?_) (fun hc => ?_)
      · have h := ifT hc h
        refine AW.skip ?_
        refine AW.seq (AW.block ?_)
        refine AW.rgs rfl fun K hK => ?_
        refine mv rfl rfl ?_
        refine bv rfl (v_fieldAddrF fo24_0 rfl) ?_
        refine bv rfl (v_loadF ty3 rfl (l_lit rfl rfl)) ?_
        refine bv rfl (v_min rfl rfl rfl) ?_
        refine bv rfl (v_max rfl rfl rfl) ?_
        refine bv rfl (v_bin rfl rfl b_mul) ?_
        refine mv rfl rfl ?_
        refine b_nil (hK _ (AW.to (to_le (s' := ⟨[(1, HV.int .i64 p1), (2, HV.int .i64 p2), (3, HV.fptr [HV.int .i64 p0.1, HV.int .i64 p0.2.1, slE eFromLabelTo p0.2.2] 0), (7, HV.int .i64 (IntKind.wrap .i64 (a1.1 * (max 1 (min p0.1 256))))), (8, HV.int .i64 a1.2)], []⟩) (AS.le_of ⟨rfl, rfl, rfl, rfl, rfl, trivial⟩ trivial) ?_)))
        clear hK K
        refine AW.rgs rfl fun K hK => ?_
        refine mv rfl rfl ?_
        refine mv rfl rfl ?_
        refine bv rfl (v_bin rfl rfl b_gtr) ?_
        refine b_nil (hK _ (AW.to (to_le (s' := ⟨[(1, HV.int .i64 p1), (2, HV.int .i64 p2), (3, HV.fptr [HV.int .i64 p0.1, HV.int .i64 p0.2.1, slE eFromLabelTo p0.2.2] 0), (7, HV.int .i64 (IntKind.wrap .i64 (a1.1 * (max 1 (min p0.1 256))))), (8, HV.int .i64 a1.2), (26, HV.bool (decide (p2 < (IntKind.wrap .i64 (a1.1 * (max 1 (min p0.1 256)))))))], []⟩) (AS.le_of ⟨rfl, rfl, rfl, rfl, rfl, rfl, trivial⟩ trivial) ?_)))
        clear hK K
        refine AW.cond rfl (fun hc => ?_) (fun hc => ?_)
        · have hc := of_decide_eq_true hc
          have h := ifT hc h
          refine AW.rgs rfl fun K hK => ?_
          refine mv rfl rfl ?_
          refine b_nil (hK _ (AW.to (to_le (s' := ⟨[(6, HV.bool true)], []⟩) (AS.le_of ⟨rfl, trivial⟩ trivial) ?_)))
          clear hK K
          have h := hr4 _ h
          refine AW.ret ?_
          have h := Option.some.inj h
          subst h
          exact ret_pure (hs := [HV.bool true]) (q := HV.bool true) (.inr rfl) (resT rfl rfl) rfl trivial
        · have hc := of_decide_eq_false hc
          have h := ifF hc h
          refine AW.skip ?_
          refine AW.rg rfl fun K hK => ?_
          refine mv rfl rfl ?_
          refine bv rfl (v_bin rfl rfl b_add) ?_
          refine mv rfl rfl ?_
          refine b_nil (hK _ ?_)
          clear hK K
          exact to_le (s' := ⟨[(1, HV.int .i64 p1), (2, HV.int .i64 p2), (3, HV.fptr [HV.int .i64 p0.1, HV.int .i64 p0.2.1, slE eFromLabelTo p0.2.2] 0), (7, HV.int .i64 (IntKind.wrap .i64 (a1.1 * (max 1 (min p0.1 256))))), (8, HV.int .i64 (IntKind.wrap .i64 (a1.2 + 1)))], []⟩) (AS.le_of ⟨rfl, rfl, rfl, rfl, rfl, trivial⟩ trivial) ⟨(IntKind.wrap .i64 (a1.1 * (max 1 (min p0.1 256))), IntKind.wrap .i64 (a1.2 + 1)), (), h, rfl⟩
      · have h := ifF (bF' hc) h
        refine AW.exit ?_
        exact to_le (s' := ⟨[(1, HV.int .i64 p1)], []⟩) (AS.le_of ⟨rfl, trivial⟩ trivial) ⟨(), (), h, rfl⟩
    · refine AW.rg rfl fun K hK => ?_
      refine mv rfl rfl ?_
      refine mv rfl rfl ?_
      refine bv rfl (v_bin rfl rfl b_lss) ?_
      refine mv rfl rfl ?_
      by_cases hg8 : a1.2 < p1
      · have h := ifT hg8 h
        refine b_T rfl rfl rfl rfl (decide_eq_true hg8) (o_val rfl (mv_val rfl rfl).2 ?_)
        refine b_T rfl rfl rfl rfl rfl (o_val rfl (v_bin rfl rfl b_lss) ?_)
        refine bv rfl (v_pickT rfl rfl rfl) ?_
        refine b_nil (hK _ ?_)
        clear hK K
        exact to_le (s' := ⟨[(1, HV.int .i64 p1), (2, HV.int .i64 p2), (3, HV.fptr [HV.int .i64 p0.1, HV.int .i64 p0.2.1, slE eFromLabelTo p0.2.2] 0), (7, HV.int .i64 a1.1), (8, HV.int .i64 a1.2), (15, HV.bool (decide (a1.2 < 4096)))], []⟩) (AS.le_of ⟨rfl, rfl, rfl, rfl, rfl, rfl, trivial⟩ trivial) ⟨decide (a1.2 < 4096), (), h, rfl⟩
      · have h := ifF hg8 h
        refine b_F rfl rfl rfl rfl rfl (decide_eq_false hg8) ?_
        refine b_F rfl rfl rfl rfl rfl rfl ?_
        refine bv rfl (v_pickF rfl rfl rfl) ?_
        refine b_nil (hK _ ?_)
        clear hK K
        exact to_le (s' := ⟨[(1, HV.int .i64 p1), (2, HV.int .i64 p2), (3, HV.fptr [HV.int .i64 p0.1, HV.int .i64 p0.2.1, slE eFromLabelTo p0.2.2] 0), (7, HV.int .i64 a1.1), (8, HV.int .i64 a1.2), (15, HV.bool false)], []⟩) (AS.le_of ⟨rfl, rfl, rfl, rfl, rfl, rfl, trivial⟩ trivial) ⟨false, (), h, rfl⟩

set_option maxHeartbeats 1600000 in
set_option maxRecDepth 100000 in
theorem w_law11_every {p0 : TLabelsStatesEdges} {r : (List (Int))} (h : m_law11_every p0 = some r) : Pure Try.prog 42 [HV.agg [HV.int .i64 p0.1, HV.int .i64 p0.2.1, slE eFromLabelTo p0.2.2]] (· = slE eInt r) := by
  unfold m_law11_every at h
  refine Pure.of_body Try.func42 rfl rfl (Nat.le_of_ble_eq_true rfl) fun hf => ?_
  unfold Try.f42
  dsimp only [enumS, Nat.reduceAdd]
  refine AW.rgs rfl fun K hK => ?_
  refine b_op rfl (o_box rfl rfl rfl ?_)
  refine mv rfl rfl ?_
  refine b_nil (hK _ (AW.to (to_le (s' := ⟨[(1, HV.fptr [HV.int .i64 p0.1, HV.int .i64 p0.2.1, slE eFromLabelTo p0.2.2] 0)], []⟩) (AS.le_of ⟨rfl, trivial⟩ trivial) ?_)))
  clear hK K
  refine AW.rgs rfl fun K hK => ?_
  refine mv rfl rfl ?_
  refine b_nil (hK _ (AW.to (to_le (s' := ⟨[(1, HV.fptr [HV.int .i64 p0.1, HV.int .i64 p0.2.1, slE eFromLabelTo p0.2.2] 0), (3, HV.v (.slice none 0 0))], []⟩) (AS.le_of ⟨rfl, rfl, trivial⟩ trivial) ?_)))
  clear hK K
  refine AW.seq ?_
  refine AW.rgs rfl fun K hK => ?_
  refine bv rfl (v_fieldAddrF fo24_1 rfl) ?_
  refine bv rfl (v_loadF ty3 rfl (l_lit rfl rfl)) ?_
  refine bv rfl (v_min rfl rfl rfl) ?_
  refine mv rfl rfl ?_
  refine b_nil (hK _ (AW.to (to_le (s' := ⟨[(3, HV.v (.slice none 0 0)), (7, HV.int .i64 (min p0.2.1 8)), (8, HV.int .i64 0)], []⟩) (AS.le_of ⟨rfl, rfl, rfl, trivial⟩ trivial) ?_)))
  clear hK K
  refine AW.lpX h (by first | exact up_then | exact up_to) (S := Int × (List Int)) (V := Nat) (fun a v => ⟨[(3, HV.ar 42014 v eInt.k 0 ((a.2).length)), (7, HV.int .i64 (min p0.2.1 8)), (8, HV.int .i64 a.1)], [(42014, v, .arr eInt.k 3 (eInt.E a.2))]⟩) ?_ (X := (List Int)) (W := Nat) (fun a v => ⟨[(3, HV.ar 42014 v eInt.k 0 ((a).length))], [(42014, v, .arr eInt.k 3 (eInt.E a))]⟩) (fun a8 w9 h => ?_) (fun a1 w2 st3 h => ?_)
  · refine to_bind (to_own 42014 3 eInt.k 3 rfl fun v7 => ?_)
    exact to_le (s' := ⟨[(3, HV.ar 42014 v7 eInt.k 0 ((([] : List Int)).length)), (7, HV.int .i64 (min p0.2.1 8)), (8, HV.int .i64 0)], [(42014, v7, .arr eInt.k 3 (eInt.E ([] : List Int)))]⟩) (AS.le_of ⟨arl (by first | rfl | simp only [List.length_set, sortI_len, sortS_len]), rfl, rfl, trivial⟩ ⟨rfl, trivial⟩) ⟨v7, rfl⟩
  · refine AW.rgs rfl fun K hK => ?_
    refine mv rfl rfl ?_
    refine mv rfl rfl ?_
    refine b_nil (hK _ (AW.to (to_le (s' := ⟨[(2, HV.ar 42014 w9 eInt.k 0 ((a8).length))], [(42014, w9, .arr eInt.k 3 (eInt.E a8))]⟩) (AS.le_of ⟨rfl, trivial⟩ ⟨rfl, trivial⟩) ?_)))
    clear hK K
    refine AW.to (to_frz 2 [(42014, w9, .arr eInt.k 3 (eInt.E a8))] ⟨[(2, slE eInt a8)], []⟩ ⟨⟨_, rfl, frz_slE eInt (l := a8) rfl fun _ _ => rfl⟩, trivial⟩ trivial ⟨rfl, trivial⟩ ⟨rfl, trivial⟩ ?_)
    refine AW.ret ?_
    have h := Option.some.inj h
    subst h
    exact ret_pure (hs := [slE eInt a8]) (q := slE eInt a8) (.inr rfl) (resT rfl rfl) rfl (clean_slE fun _ _ => ⟨trivial, trivial⟩)
  · refine AW.rgs rfl fun K hK => ?_
    refine bv rfl (v_bin rfl rfl b_lss) ?_
    refine b_nil (hK _ (AW.to (to_le (s' := ⟨[(3, HV.ar 42014 w2 eInt.k 0 ((a1.2).length)), (7, HV.int .i64 (min p0.2.1 8)), (8, HV.int .i64 a1.1), (9, HV.bool (decide (a1.1 < (min p0.2.1 8))))], [(42014, w2, .arr eInt.k 3 (eInt.E a1.2))]⟩) (AS.le_of ⟨rfl, rfl, rfl, rfl, trivial⟩ ⟨rfl, trivial⟩) ?_)))
    clear hK K
    refine AW.cseq rfl (fun hc => ?_) (fun hc => ?_)
    · have hc := of_decide_eq_true hc
      have h := ifT hc h
      refine AW.skip ?_
      refine AW.seq (AW.block ?_)
      refine AW.rgs rfl fun K hK => ?_
      refine mv rfl rfl ?_
      refine mv rfl rfl ?_
      refine b_nil (hK _ (AW.to (to_le (s' := ⟨[(3, HV.ar 42014 w2 eInt.k 0 ((a1.2).length)), (4, HV.int .i64 a1.1), (7, HV.int .i64 (min p0.2.1 8)), (8, HV.int .i64 a1.1)], [(42014, w2, .arr eInt.k 3 (eInt.E a1.2))]⟩) (AS.le_of ⟨rfl, rfl, rfl, rfl, trivial⟩ ⟨rfl, trivial⟩) ?_)))
      clear hK K
      refine AW.rg rfl fun K hK => ?_
      refine mv rfl rfl ?_
      refine mv rfl rfl ?_
      refine b_op rfl (o_bsl rfl rfl (as_of (cs := [HV.int .i64 a1.1]) ty42 ty3 rfl rfl rfl rfl rfl) ?_)
      obtain ⟨h6, h⟩ := ifN h
      refine b_op rfl (o_appE eInt (l := a1.2) (m := [a1.1]) rfl rfl ty42 ty42 ty3 rfl rfl rfl rfl rfl h6 (fun v5 => ?_))
      refine mv rfl rfl ?_
      refine b_nil (hK _ (AW.to (to_le (s' := ⟨[(3, HV.ar 42014 v5 eInt.k 0 ((a1.2 ++ [a1.1]).length)), (7, HV.int .i64 (min p0.2.1 8)), (8, HV.int .i64 a1.1)], [(42014, v5, .arr eInt.k 3 (eInt.E (a1.2 ++ [a1.1])))]⟩) (AS.le_of ⟨rfl, rfl, rfl, trivial⟩ ⟨rfl, trivial⟩) ?_)))
      clear hK K
      refine AW.rg rfl fun K hK => ?_
      refine bv rfl (v_bin rfl rfl b_add) ?_
      refine mv rfl rfl ?_
      refine b_nil (hK _ ?_)
      clear hK K
      exact to_le (s' := ⟨[(3, HV.ar 42014 v5 eInt.k 0 ((a1.2 ++ [a1.1]).length)), (7, HV.int .i64 (min p0.2.1 8)), (8, HV.int .i64 (IntKind.wrap .i64 (a1.1 + 1)))], [(42014, v5, .arr eInt.k 3 (eInt.E (a1.2 ++ [a1.1])))]⟩) (AS.le_of ⟨rfl, rfl, rfl, trivial⟩ ⟨rfl, trivial⟩) ⟨(IntKind.wrap .i64 (a1.1 + 1), a1.2 ++ [a1.1]), v5, h, rfl⟩
    · have hc := of_decide_eq_false hc
      have h := ifF hc h
      refine AW.exit ?_
      exact to_le (s' := ⟨[(3, HV.ar 42014 w2 eInt.k 0 ((a1.2).length))], [(42014, w2, .arr eInt.k 3 (eInt.E a1.2))]⟩) (AS.le_of ⟨rfl, trivial⟩ ⟨rfl, trivial⟩) ⟨a1.2, w2, h, rfl⟩

set_option maxHeartbeats 1600000 in
set_option maxRecDepth 100000 in
theorem w_language_From {p0 : TLabelsStatesEdges} {p1 : Int} {p2 : Int} {r : (List (List UInt8)) × Int} (h : m_language_From p0 p1 p2 = some r) : Pure Try.prog 43 [HV.agg [HV.int .i64 p0.1, HV.int .i64 p0.2.1, slE eFromLabelTo p0.2.2], HV.int .i64 p1, HV.int .i64 p2] (· = HV.tup [slE eStr r.1, HV.int .i64 r.2]) := by
  unfold m_language_From at h
  refine Pure.of_body Try.func43 rfl rfl (Nat.le_of_ble_eq_true rfl) fun hf => ?_
  unfold Try.f43
  dsimp only [enumS, Nat.reduceAdd]
  refine AW.rgs rfl fun K hK => ?_
  refine b_op rfl (o_box rfl rfl rfl ?_)
  refine mv rfl rfl ?_
  refine mv rfl rfl ?_
  refine b_nil (hK _ (AW.to (to_le (s' := ⟨[(1, HV.int .i64 p1), (2, HV.int .i64 p2), (3, HV.fptr [HV.int .i64 p0.1, HV.int .i64 p0.2.1, slE eFromLabelTo p0.2.2] 0)], []⟩) (AS.le_of ⟨rfl, rfl, rfl, trivial⟩ trivial) ?_)))
  clear hK K
  refine AW.seq ?_
  refine AW.rgs rfl fun K hK => ?_
  refine bv rfl (v_loadF ty24 rfl (l_litA rfl (Nat.le_of_ble_eq_true rfl) rfl)) ?_
  refine mv rfl rfl ?_
  obtain ⟨x1, h2, h⟩ := bS h
  refine b_op rfl (o_call rfl rfl rfl rfl (ACallD.pure0 (w_language_lengths h2)) ?_)
  refine mv rfl rfl ?_
  refine b_nil (hK _ (AW.to (to_le (s' := ⟨[(1, HV.int .i64 p1), (2, HV.int .i64 p2), (3, HV.fptr [HV.int .i64 p0.1, HV.int .i64 p0.2.1, slE eFromLabelTo p0.2.2] 0), (8, HV.int .i64 x1)], []⟩) (AS.le_of ⟨rfl, rfl, rfl, rfl, trivial⟩ trivial) ?_)))
  clear hK K
  refine AW.rgs rfl fun K hK => ?_
  refine mv rfl rfl ?_
  refine bv rfl (v_bin rfl rfl b_neq) ?_
  refine b_nil (hK _ (AW.to (to_le (s' := ⟨[(1, HV.int .i64 p1), (2, HV.int .i64 p2), (3, HV.fptr [HV.int .i64 p0.1, HV.int .i64 p0.2.1, slE eFromLabelTo p0.2.2] 0), (8, HV.int .i64 x1), (15, HV.bool (decide (x1 ≠ 0)))], []⟩) (AS.le_of ⟨rfl, rfl, rfl, rfl, rfl, trivial⟩ trivial) ?_)))
  clear hK K
  refine AW.cond rfl (fun hc => ?_) (fun hc => ?_)
  · have hc := of_decide_eq_true hc
    have h := ifT hc h
    refine AW.rgs rfl fun K hK => ?_
    refine mv rfl rfl ?_
    refine mv rfl rfl ?_
    refine mv rfl rfl ?_
    refine b_nil (hK _ (AW.to (to_le (s' := ⟨[(6, HV.v (.slice none 0 0)), (7, HV.int .i64 x1)], []⟩) (AS.le_of ⟨rfl, rfl, trivial⟩ trivial) ?_)))
    clear hK K
    refine AW.to (to_weak ⟨[(6, slE eStr ([] : List (List UInt8))), (7, HV.int .i64 x1)], []⟩ ⟨⟨_, rfl, .nil _⟩, ⟨_, rfl, .refl _⟩, trivial⟩ trivial ?_)
    refine AW.ret ?_
    have h := Option.some.inj h
    subst h
    exact ret_pure (hs := [slE eStr ([] : List (List UInt8)), HV.int .i64 x1]) (q := HV.tup [slE eStr ([] : List (List UInt8)), HV.int .i64 x1]) (.inr rfl) (resT rfl (resT rfl rfl)) rfl ⟨(clean_slE fun _ _ => ⟨trivial, trivial⟩), trivial, trivial⟩
  · have hc := of_decide_eq_false hc
    have h := ifF hc h
    refine AW.skip ?_
    refine AW.seq ?_
    refine AW.seqJ h (S := Bool) (V := Unit) (fun a v => ⟨[(1, HV.int .i64 p1), (2, HV.int .i64 p2), (3, HV.fptr [HV.int .i64 p0.1, HV.int .i64 p0.2.1, slE eFromLabelTo p0.2.2] 0), (24, HV.bool a)], []⟩) (fun a3 w4 h => ?_) (fun k5 h => ?_)
    · refine AW.cond rfl (fun hc => ?_) (fun hc => ?_)
      · have h := ifT hc h
        refine AW.rgs rfl fun K hK => ?_
        refine mv rfl rfl ?_
        refine mv rfl rfl ?_
        refine b_nil (hK _ (AW.to (to_le (s' := ⟨[(6, HV.v (.slice none 0 0)), (7, HV.int .i64 25)], []⟩) (AS.le_of ⟨rfl, rfl, trivial⟩ trivial) ?_)))
        clear hK K
        refine AW.to (to_weak ⟨[(6, slE eStr ([] : List (List UInt8))), (7, HV.int .i64 25)], []⟩ ⟨⟨_, rfl, .nil _⟩, ⟨_, rfl, .refl _⟩, trivial⟩ trivial ?_)
        refine AW.ret ?_
        have h := Option.some.inj h
        subst h
        exact ret_pure (hs := [slE eStr ([] : List (List UInt8)), HV.int .i64 25]) (q := HV.tup [slE eStr ([] : List (List UInt8)), HV.int .i64 25]) (.inr rfl) (resT rfl (resT rfl rfl)) rfl ⟨(clean_slE fun _ _ => ⟨trivial, trivial⟩), trivial, trivial⟩
      · have h := ifF (bF' hc) h
        refine AW.skip ?_
        refine AW.rgs rfl fun K hK => ?_
        refine bv rfl (v_loadF ty24 rfl (l_litA rfl (Nat.le_of_ble_eq_true rfl) rfl)) ?_
        refine mv rfl rfl ?_
        refine b_op rfl (o_bsl rfl rfl (as_of (cs := [HV.int .i64 p1]) ty42 ty3 rfl rfl rfl rfl rfl) ?_)
        refine mv rfl rfl ?_
        obtain ⟨x6, h7, h⟩ := bS h
        by_cases hg8 : x6.2 = true
        · have h := ifT hg8 h
          refine b_op rfl (o_callA rfl rfl rfl rfl (c_listT h7 hg8 fun i9 v10 es11 hes12 => ?_) )
          refine mv rfl rfl ?_
          refine bv rfl (v_extract rfl rfl) ?_
          refine bv rfl (v_extract rfl rfl) ?_
          refine mv rfl rfl ?_
          refine mv rfl rfl ?_
          refine b_nil (hK _ (AW.to (to_le (s' := ⟨[(9, HV.mp i9 v10), (10, HV.bool true)], [(i9, v10, .map es11)]⟩) (AS.le_of ⟨rfl, rfl, trivial⟩ ⟨hget_0, trivial⟩) ?_)))
          clear hK K
          refine AW.seq ?_
          refine AW.rgs rfl fun K hK => ?_
          refine mv rfl rfl ?_
          refine bv rfl (v_not rfl) ?_
          refine b_nil (hK _ (AW.to (to_le (s' := ⟨[(9, HV.mp i9 v10), (34, HV.bool false)], [(i9, v10, .map es11)]⟩) (AS.le_of ⟨rfl, rfl, trivial⟩ ⟨hget_0, trivial⟩) ?_)))
          clear hK K
          refine AW.cond rfl (fun hc => by cases hc) (fun _ => ?_)
          refine AW.skip ?_
          refine AW.rgs rfl fun K hK => ?_
          refine mv rfl rfl ?_
          refine b_op rfl (o_callK [(i9, v10, .map es11)] rfl rfl rfl rfl (fun K hK => w82 hK) ?_)
          refine b_op rfl (o_callK (q := slE eStr (sortS ((x6.1).map Prod.fst))) [] rfl rfl rfl rfl (fun K hK => c_sortedKeys hes12 hK) ?_)
          refine mv rfl rfl ?_
          refine mv rfl rfl ?_
          refine b_nil (hK _ (AW.to (to_le (s' := ⟨[(6, slE eStr (sortS ((x6.1).map Prod.fst))), (7, HV.int .i64 0)], []⟩) (AS.le_of ⟨rfl, rfl, trivial⟩ trivial) ?_)))
          clear hK K
          refine AW.ret ?_
          have h := Option.some.inj h
          subst h
          exact ret_pure (hs := [slE eStr (sortS ((x6.1).map Prod.fst)), HV.int .i64 0]) (q := HV.tup [slE eStr (sortS ((x6.1).map Prod.fst)), HV.int .i64 0]) (.inr rfl) (resT rfl (resT rfl rfl)) rfl ⟨(clean_slE fun _ _ => ⟨trivial, trivial⟩), trivial, trivial⟩
        · have h := ifF hg8 h
          refine b_op rfl (o_callA rfl rfl rfl rfl (c_listF h7 hg8 ?_) )
          refine mv rfl rfl ?_
          refine bv rfl (v_extract rfl rfl) ?_
          refine bv rfl (v_extract rfl rfl) ?_
          refine mv rfl rfl ?_
          refine mv rfl rfl ?_
          refine b_nil (hK _ (AW.to (to_le (s' := ⟨[(9, HV.v (.map none)), (10, HV.bool false)], []⟩) (AS.le_of ⟨rfl, rfl, trivial⟩ trivial) ?_)))
          clear hK K
          refine AW.seq ?_
          refine AW.rgs rfl fun K hK => ?_
          refine mv rfl rfl ?_
          refine bv rfl (v_not rfl) ?_
          refine b_nil (hK _ (AW.to (to_le (s' := ⟨[(9, HV.v (.map none)), (34, HV.bool true)], []⟩) (AS.le_of ⟨rfl, rfl, trivial⟩ trivial) ?_)))
          clear hK K
          refine AW.cond rfl (fun _ => ?_) (fun hc => by cases hc)
          refine AW.rgs rfl fun K hK => ?_
          refine mv rfl rfl ?_
          refine mv rfl rfl ?_
          refine b_nil (hK _ (AW.to (to_le (s' := ⟨[(6, HV.v (.slice none 0 0)), (7, HV.int .i64 4)], []⟩) (AS.le_of ⟨rfl, rfl, trivial⟩ trivial) ?_)))
          clear hK K
          refine AW.to (to_weak ⟨[(6, slE eStr ([] : List (List UInt8))), (7, HV.int .i64 4)], []⟩ ⟨⟨_, rfl, .nil _⟩, ⟨_, rfl, .refl _⟩, trivial⟩ trivial ?_)
          refine AW.ret ?_
          have h := Option.some.inj h
          subst h
          exact ret_pure (hs := [slE eStr ([] : List (List UInt8)), HV.int .i64 4]) (q := HV.tup [slE eStr ([] : List (List UInt8)), HV.int .i64 4]) (.inr rfl) (resT rfl (resT rfl rfl)) rfl ⟨(clean_slE fun _ _ => ⟨trivial, trivial⟩), trivial, trivial⟩
    · refine AW.rg rfl fun K hK => ?_
      refine mv rfl rfl ?_
      refine bv rfl (v_bin rfl rfl b_lss) ?_
      refine mv rfl rfl ?_
      by_cases hg13 : p1 < 0
      · have h := ifT hg13 h
        refine b_F rfl rfl rfl rfl rfl (decide_eq_true hg13) ?_
        refine b_F rfl rfl rfl rfl rfl rfl ?_
        refine b_F rfl rfl rfl rfl rfl rfl ?_
        refine b_F rfl rfl rfl rfl rfl rfl ?_
        refine bv rfl (v_pickT rfl rfl rfl) ?_
        refine b_nil (hK _ ?_)
        clear hK K
        exact to_le (s' := ⟨[(1, HV.int .i64 p1), (2, HV.int .i64 p2), (3, HV.fptr [HV.int .i64 p0.1, HV.int .i64 p0.2.1, slE eFromLabelTo p0.2.2] 0), (24, HV.bool true)], []⟩) (AS.le_of ⟨rfl, rfl, rfl, rfl, trivial⟩ trivial) ⟨true, (), h, rfl⟩
      · have h := ifF hg13 h
        refine b_T rfl rfl rfl rfl (decide_eq_false hg13) (o_val rfl (mv_val rfl rfl).2 ?_)
        refine b_T rfl rfl rfl rfl rfl (o_val rfl (v_fieldAddrF fo24_1 rfl) ?_)
        refine b_T rfl rfl rfl rfl rfl (o_val rfl (v_loadF ty3 rfl (l_lit rfl rfl)) ?_)
        refine b_T rfl rfl rfl rfl rfl (o_val rfl (v_bin rfl rfl b_geq) ?_)
        refine bv rfl (v_pickF rfl rfl rfl) ?_
        refine b_nil (hK _ ?_)
        clear hK K
        exact to_le (s' := ⟨[(1, HV.int .i64 p1), (2, HV.int .i64 p2), (3, HV.fptr [HV.int .i64 p0.1, HV.int .i64 p0.2.1, slE eFromLabelTo p0.2.2] 0), (24, HV.bool (decide (p0.2.1 ≤ p1)))], []⟩) (AS.le_of ⟨rfl, rfl, rfl, rfl, trivial⟩ trivial) ⟨decide (p0.2.1 ≤ p1), (), h, rfl⟩

set_option maxHeartbeats 1600000 in
set_option maxRecDepth 100000 in
theorem w_slices_Index_Lint_int {p0 : List (Int)} {p1 : Int} {r : Int} (h : m_slices_Index_Lint_int p0 p1 = some r) : Pure Try.prog 131 [slE eInt p0, HV.int .i64 p1] (· = HV.int .i64 r) := by
  unfold m_slices_Index_Lint_int at h
  refine Pure.of_body Try.func131 rfl rfl (Nat.le_of_ble_eq_true rfl) fun hf => ?_
  unfold Try.f131
  dsimp only [enumS, Nat.reduceAdd]
  refine AW.rgs rfl fun K hK => ?_
  refine mv rfl rfl ?_
  refine b_nil (hK _ (AW.to (to_le (s' := ⟨[(0, slE eInt p0), (1, HV.int .i64 p1)], []⟩) (AS.le_of ⟨rfl, rfl, trivial⟩ trivial) ?_)))
  clear hK K
  refine AW.seq ?_
  refine AW.rgs rfl fun K hK => ?_
  refine mv rfl rfl ?_
  refine bv rfl (v_lenF rfl rfl ty42 rfl) ?_
  refine mv rfl rfl ?_
  refine b_nil (hK _ (AW.to (to_le (s' := ⟨[(0, slE eInt p0), (1, HV.int .i64 p1), (7, HV.int .i64 ((p0).length : Int)), (8, HV.int .i64 0)], []⟩) (AS.le_of ⟨rfl, rfl, rfl, rfl, trivial⟩ trivial) ?_)))
  clear hK K
  refine AW.lpR h (by first | exact up_then | exact up_to) (S := Int) (V := Unit) (fun a v => ⟨[(0, slE eInt p0), (1, HV.int .i64 p1), (7, HV.int .i64 ((p0).length : Int)), (8, HV.int .i64 a)], []⟩) ?_ (X := Unit) (W := Unit) (fun a v => ⟨[], []⟩) (fun a7 w8 h => ?_) (fun a1 w2 st3 h hr4=> ?_)
  · exact to_le (s' := ⟨[(0, slE eInt p0), (1, HV.int .i64 p1), (7, HV.int .i64 ((p0).length : Int)), (8, HV.int .i64 0)], []⟩) (AS.le_of ⟨rfl, rfl, rfl, rfl, trivial⟩ trivial) ⟨(), rfl⟩
  · refine AW.rgs rfl fun K hK => ?_
    refine mv rfl rfl ?_
    refine b_nil (hK _ (AW.to (to_le (s' := ⟨[(4, HV.int .i64 (-1))], []⟩) (AS.le_of ⟨rfl, trivial⟩ trivial) ?_)))
    clear hK K
    refine AW.ret ?_
    have h := Option.some.inj h
    subst h
    exact ret_pure (hs := [HV.int .i64 (-1)]) (q := HV.int .i64 (-1)) (.inr rfl) (resT rfl rfl) rfl trivial
  · refine AW.rgs rfl fun K hK => ?_
    refine bv rfl (v_bin rfl rfl b_lss) ?_
    refine b_nil (hK _ (AW.to (to_le (s' := ⟨[(0, slE eInt p0), (1, HV.int .i64 p1), (7, HV.int .i64 ((p0).length : Int)), (8, HV.int .i64 a1), (9, HV.bool (decide (a1 < ((p0).length : Int))))], []⟩) (AS.le_of ⟨rfl, rfl, rfl, rfl, rfl, trivial⟩ trivial) ?_)))
    clear hK K
    refine AW.cseq rfl (fun hc => ?_) (fun hc => ?_)
    · have hc := of_decide_eq_true hc
      have h := ifT hc h
      refine AW.skip ?_
      refine AW.seq (AW.block ?_)
      refine AW.rgs rfl fun K hK => ?_
      refine mv rfl rfl ?_
      refine mv rfl rfl ?_
      refine b_nil (hK _ (AW.to (to_le (s' := ⟨[(0, slE eInt p0), (1, HV.int .i64 p1), (5, HV.int .i64 a1), (7, HV.int .i64 ((p0).length : Int)), (8, HV.int .i64 a1)], []⟩) (AS.le_of ⟨rfl, rfl, rfl, rfl, rfl, trivial⟩ trivial) ?_)))
      clear hK K
      refine AW.rgs rfl fun K hK => ?_
      refine mv rfl rfl ?_
      refine mv rfl rfl ?_
      refine mv rfl rfl ?_
      obtain ⟨x5, h6, h⟩ := bS h
      refine bv rfl (v_idxF ty42 es42 rfl rfl (idx_lt h6)) ?_
      refine bv rfl (v_loadF ty3 rfl (l_cell eInt h6 (o := 0) rfl rfl)) ?_
      refine bv rfl (v_bin rfl rfl b_eql) ?_
      refine b_nil (hK _ (AW.to (to_le (s' := ⟨[(0, slE eInt p0), (1, HV.int .i64 p1), (5, HV.int .i64 a1), (7, HV.int .i64 ((p0).length : Int)), (8, HV.int .i64 a1), (16, HV.bool (decide (p1 = x5)))], []⟩) (AS.le_of ⟨rfl, rfl, rfl, rfl, rfl, rfl, trivial⟩ trivial) ?_)))
      clear hK K
      refine AW.cond rfl (fun hc => ?_) (fun hc => ?_)
      · have hc := of_decide_eq_true hc
        have h := ifT hc h
        refine AW.rgs rfl fun K hK => ?_
        refine mv rfl rfl ?_
        refine mv rfl rfl ?_
        refine b_nil (hK _ (AW.to (to_le (s' := ⟨[(4, HV.int .i64 a1)], []⟩) (AS.le_of ⟨rfl, trivial⟩ trivial) ?_)))
        clear hK K
        have h := hr4 _ h
        refine AW.ret ?_
        have h := Option.some.inj h
        subst h
        exact ret_pure (hs := [HV.int .i64 a1]) (q := HV.int .i64 a1) (.inr rfl) (resT rfl rfl) rfl trivial
      · have hc := of_decide_eq_false hc
        have h := ifF hc h
        refine AW.skip ?_
        refine AW.rg rfl fun K hK => ?_
        refine bv rfl (v_bin rfl rfl b_add) ?_
        refine mv rfl rfl ?_
        refine b_nil (hK _ ?_)
        clear hK K
        exact to_le (s' := ⟨[(0, slE eInt p0), (1, HV.int .i64 p1), (7, HV.int .i64 ((p0).length : Int)), (8, HV.int .i64 (IntKind.wrap .i64 (a1 + 1)))], []⟩) (AS.le_of ⟨rfl, rfl, rfl, rfl, trivial⟩ trivial) ⟨IntKind.wrap .i64 (a1 + 1), (), h, rfl⟩
    · have hc := of_decide_eq_false hc
      have h := ifF hc h
      refine AW.exit ?_
      exact to_le (s' := ⟨[], []⟩) (AS.le_of trivial trivial) ⟨(), (), h, rfl⟩

set_option maxHeartbeats 1600000 in
set_option maxRecDepth 100000 in
theorem w_slices_Contains_Lint_int {p0 : List (Int)} {p1 : Int} {r : Bool} (h : m_slices_Contains_Lint_int p0 p1 = some r) : Pure Try.prog 91 [slE eInt p0, HV.int .i64 p1] (· = HV.bool r) := by
  unfold m_slices_Contains_Lint_int at h
  refine Pure.of_body Try.func91 rfl rfl (Nat.le_of_ble_eq_true rfl) fun hf => ?_
  unfold Try.f91
  dsimp only [enumS, Nat.reduceAdd]
  refine AW.rgs rfl fun K hK => ?_
  refine mv rfl rfl ?_
  refine b_nil (hK _ (AW.to (to_le (s' := ⟨[(0, slE eInt p0), (1, HV.int .i64 p1)], []⟩) (AS.le_of ⟨rfl, rfl, trivial⟩ trivial) ?_)))
  clear hK K
  refine AW.rgs rfl fun K hK => ?_
  refine mv rfl rfl ?_
  refine mv rfl rfl ?_
  obtain ⟨x1, h2, h⟩ := bS h
  refine b_op rfl (o_call rfl rfl rfl rfl (ACallD.pure0 (w_slices_Index_Lint_int h2)) ?_)
  refine bv rfl (v_bin rfl rfl b_geq) ?_
  refine mv rfl rfl ?_
  refine b_nil (hK _ (AW.to (to_le (s' := ⟨[(4, HV.bool (decide (0 ≤ x1)))], []⟩) (AS.le_of ⟨rfl, trivial⟩ trivial) ?_)))
  clear hK K
  refine AW.ret ?_
  have h := Option.some.inj h
  subst h
  exact ret_pure (hs := [HV.bool (decide (0 ≤ x1))]) (q := HV.bool (decide (0 ≤ x1))) (.inr rfl) (resT rfl rfl) rfl trivial

set_option maxHeartbeats 1600000 in
set_option maxRecDepth 100000 in
theorem w_language_Between_1 {p0 : List UInt8} {p1 : List (Int)} {c0 : Int} {r : Bool} (h : m_language_Between_1 p0 p1 c0 = some r) : Pure Try.prog 90 [HV.str p0, slE eInt p1, HV.fptr [HV.int .i64 c0] 0] (· = HV.bool r) := by
  unfold m_language_Between_1 at h
  refine Pure.of_body Try.func90 rfl rfl (Nat.le_of_ble_eq_true rfl) fun hf => ?_
  unfold Try.f90
  dsimp only [enumS, Nat.reduceAdd]
  refine AW.rgs rfl fun K hK => ?_
  refine mv rfl rfl ?_
  refine b_nil (hK _ (AW.to (to_le (s' := ⟨[(1, slE eInt p1), (2, HV.fptr [HV.int .i64 c0] 0)], []⟩) (AS.le_of ⟨rfl, rfl, trivial⟩ trivial) ?_)))
  clear hK K
  refine AW.rgs rfl fun K hK => ?_
  refine mv rfl rfl ?_
  refine bv rfl (v_loadF ty3 rfl (l_lit rfl rfl)) ?_
  obtain ⟨x1, h2, h⟩ := bS h
  refine b_op rfl (o_call rfl rfl rfl rfl (ACallD.pure0 (w_slices_Contains_Lint_int h2)) ?_)
  refine bv rfl (v_not rfl) ?_
  refine mv rfl rfl ?_
  refine b_nil (hK _ (AW.to (to_le (s' := ⟨[(5, HV.bool (!x1))], []⟩) (AS.le_of ⟨rfl, trivial⟩ trivial) ?_)))
  clear hK K
  refine AW.ret ?_
  have h := Option.some.inj h
  subst h
  exact ret_pure (hs := [HV.bool (!x1)]) (q := HV.bool (!x1)) (.inr rfl) (resT rfl rfl) rfl trivial

set_option maxHeartbeats 1600000 in
set_option maxRecDepth 100000 in
theorem w_language_Between {p0 : TLabelsStatesEdges} {p1 : Int} {p2 : Int} {p3 : Int} {r : (List (List UInt8)) × Int} (h : m_language_Between p0 p1 p2 p3 = some r) : Pure Try.prog 44 [HV.agg [HV.int .i64 p0.1, HV.int .i64 p0.2.1, slE eFromLabelTo p0.2.2], HV.int .i64 p1, HV.int .i64 p2, HV.int .i64 p3] (· = HV.tup [slE eStr r.1, HV.int .i64 r.2]) := by
  unfold m_language_Between at h
  refine Pure.of_body Try.func44 rfl rfl (Nat.le_of_ble_eq_true rfl) fun hf => ?_
  unfold Try.f44
  dsimp only [enumS, Nat.reduceAdd]
  refine AW.rgs rfl fun K hK => ?_
  refine b_op rfl (o_box rfl rfl rfl ?_)
  refine b_op rfl (o_box rfl rfl rfl ?_)
  refine mv rfl rfl ?_
  refine mv rfl rfl ?_
  refine b_nil (hK _ (AW.to (to_le (s' := ⟨[(1, HV.int .i64 p1), (3, HV.int .i64 p3), (4, HV.fptr [HV.int .i64 p0.1, HV.int .i64 p0.2.1, slE eFromLabelTo p0.2.2] 0), (6, HV.fptr [HV.int .i64 p2] 0)], []⟩) (AS.le_of ⟨rfl, rfl, rfl, rfl, trivial⟩ trivial) ?_)))
  clear hK K
  refine AW.seq ?_
  refine AW.rgs rfl fun K hK => ?_
  refine bv rfl (v_loadF ty24 rfl (l_litA rfl (Nat.le_of_ble_eq_true rfl) rfl)) ?_
  refine mv rfl rfl ?_
  obtain ⟨x1, h2, h⟩ := bS h
  refine b_op rfl (o_call rfl rfl rfl rfl (ACallD.pure0 (w_language_lengths h2)) ?_)
  refine mv rfl rfl ?_
  refine b_nil (hK _ (AW.to (to_le (s' := ⟨[(1, HV.int .i64 p1), (3, HV.int .i64 p3), (4, HV.fptr [HV.int .i64 p0.1, HV.int .i64 p0.2.1, slE eFromLabelTo p0.2.2] 0), (6, HV.fptr [HV.int .i64 p2] 0), (10, HV.int .i64 x1)], []⟩) (AS.le_of ⟨rfl, rfl, rfl, rfl, rfl, trivial⟩ trivial) ?_)))
  clear hK K
  refine AW.rgs rfl fun K hK => ?_
  refine mv rfl rfl ?_
  refine bv rfl (v_bin rfl rfl b_neq) ?_
  refine b_nil (hK _ (AW.to (to_le (s' := ⟨[(1, HV.int .i64 p1), (3, HV.int .i64 p3), (4, HV.fptr [HV.int .i64 p0.1, HV.int .i64 p0.2.1, slE eFromLabelTo p0.2.2] 0), (6, HV.fptr [HV.int .i64 p2] 0), (10, HV.int .i64 x1), (17, HV.bool (decide (x1 ≠ 0)))], []⟩) (AS.le_of ⟨rfl, rfl, rfl, rfl, rfl, rfl, trivial⟩ trivial) ?_)))
  clear hK K
  refine AW.cond rfl (fun hc => ?_) (fun hc => ?_)
  · have hc := of_decide_eq_true hc
    have h := ifT hc h
    refine AW.rgs rfl fun K hK => ?_
    refine mv rfl rfl ?_
    refine mv rfl rfl ?_
    refine mv rfl rfl ?_
    refine b_nil (hK _ (AW.to (to_le (s' := ⟨[(8, HV.v (.slice none 0 0)), (9, HV.int .i64 x1)], []⟩) (AS.le_of ⟨rfl, rfl, trivial⟩ trivial) ?_)))
    clear hK K
    refine AW.to (to_weak ⟨[(8, slE eStr ([] : List (List UInt8))), (9, HV.int .i64 x1)], []⟩ ⟨⟨_, rfl, .nil _⟩, ⟨_, rfl, .refl _⟩, trivial⟩ trivial ?_)
    refine AW.ret ?_
    have h := Option.some.inj h
    subst h
    exact ret_pure (hs := [slE eStr ([] : List (List UInt8)), HV.int .i64 x1]) (q := HV.tup [slE eStr ([] : List (List UInt8)), HV.int .i64 x1]) (.inr rfl) (resT rfl (resT rfl rfl)) rfl ⟨(clean_slE fun _ _ => ⟨trivial, trivial⟩), trivial, trivial⟩
  · have hc := of_decide_eq_false hc
    have h := ifF hc h
    refine AW.skip ?_
    refine AW.seq ?_
    refine AW.seqJ h (S := Bool) (V := Unit) (fun a v => ⟨[(1, HV.int .i64 p1), (3, HV.int .i64 p3), (4, HV.fptr [HV.int .i64 p0.1, HV.int .i64 p0.2.1, slE eFromLabelTo p0.2.2] 0), (6, HV.fptr [HV.int .i64 p2] 0), (36, HV.bool a)], []⟩) (fun a3 w4 h => ?_) (fun k5 h => ?_)
    · refine AW.cond rfl (fun hc => ?_) (fun hc => ?_)
      · have h := ifT hc h
        refine AW.rgs rfl fun K hK => ?_
        refine mv rfl rfl ?_
        refine mv rfl rfl ?_
        refine b_nil (hK _ (AW.to (to_le (s' := ⟨[(8, HV.v (.slice none 0 0)), (9, HV.int .i64 25)], []⟩) (AS.le_of ⟨rfl, rfl, trivial⟩ trivial) ?_)))
        clear hK K
        refine AW.to (to_weak ⟨[(8, slE eStr ([] : List (List UInt8))), (9, HV.int .i64 25)], []⟩ ⟨⟨_, rfl, .nil _⟩, ⟨_, rfl, .refl _⟩, trivial⟩ trivial ?_)
        refine AW.ret ?_
        have h := Option.some.inj h
        subst h
        exact ret_pure (hs := [slE eStr ([] : List (List UInt8)), HV.int .i64 25]) (q := HV.tup [slE eStr ([] : List (List UInt8)), HV.int .i64 25]) (.inr rfl) (resT rfl (resT rfl rfl)) rfl ⟨(clean_slE fun _ _ => ⟨trivial, trivial⟩), trivial, trivial⟩
      · have h := ifF (bF' hc) h
        refine AW.skip ?_
        refine AW.rgs rfl fun K hK => ?_
        refine bv rfl (v_loadF ty24 rfl (l_litA rfl (Nat.le_of_ble_eq_true rfl) rfl)) ?_
        refine mv rfl rfl ?_
        refine b_op rfl (o_bsl rfl rfl (as_of (cs := [HV.int .i64 p1]) ty42 ty3 rfl rfl rfl rfl rfl) ?_)
        refine mv rfl rfl ?_
        obtain ⟨x6, h7, h⟩ := bS h
        by_cases hg8 : x6.2 = true
        · have h := ifT hg8 h
          refine b_op rfl (o_callA rfl rfl rfl rfl (c_listT h7 hg8 fun i9 v10 es11 hes12 => ?_) )
          refine mv rfl rfl ?_
          refine bv rfl (v_extract rfl rfl) ?_
          refine bv rfl (v_extract rfl rfl) ?_
          refine mv rfl rfl ?_
          refine mv rfl rfl ?_
          refine b_nil (hK _ (AW.to (to_le (s' := ⟨[(6, HV.fptr [HV.int .i64 p2] 0), (11, HV.mp i9 v10), (12, HV.bool true)], [(i9, v10, .map es11)]⟩) (AS.le_of ⟨rfl, rfl, rfl, trivial⟩ ⟨hget_0, trivial⟩) ?_)))
          clear hK K
          refine AW.seq ?_
          refine AW.rgs rfl fun K hK => ?_
          refine mv rfl rfl ?_
          refine bv rfl (v_not rfl) ?_
          refine b_nil (hK _ (AW.to (to_le (s' := ⟨[(6, HV.fptr [HV.int .i64 p2] 0), (11, HV.mp i9 v10), (46, HV.bool false)], [(i9, v10, .map es11)]⟩) (AS.le_of ⟨rfl, rfl, rfl, trivial⟩ ⟨hget_0, trivial⟩) ?_)))
          clear hK K
          refine AW.cond rfl (fun hc => by cases hc) (fun _ => ?_)
          refine AW.skip ?_
          refine AW.rgs rfl fun K hK => ?_
          refine mv rfl rfl ?_
          refine bv rfl (v_func rfl rfl) ?_
          obtain ⟨x13, h14, h⟩ := bS h
          refine b_op rfl (o_callA rfl rfl rfl rfl (c_deleteFunc (pm := (fun b0 b1 => m_language_Between_1 b0 b1 p2)) (fun _ _ _ h => w_language_Between_1 h) hes12 h14 fun es15 hes16 => ?_) )
          refine b_nil (hK _ (AW.to (to_le (s' := ⟨[(11, HV.mp i9 v10)], [(i9, v10, .map es15)]⟩) (AS.le_of ⟨rfl, trivial⟩ ⟨hget_0, trivial⟩) ?_)))
          clear hK K
          refine AW.rgs rfl fun K hK => ?_
          refine mv rfl rfl ?_
          refine b_op rfl (o_callK [(i9, v10, .map es15)] rfl rfl rfl rfl (fun K hK => w82 hK) ?_)
          refine b_op rfl (o_callK (q := slE eStr (sortS ((x13).map Prod.fst))) [] rfl rfl rfl rfl (fun K hK => c_sortedKeys hes16 hK) ?_)
          refine mv rfl rfl ?_
          refine mv rfl rfl ?_
          refine b_nil (hK _ (AW.to (to_le (s' := ⟨[(8, slE eStr (sortS ((x13).map Prod.fst))), (9, HV.int .i64 0)], []⟩) (AS.le_of ⟨rfl, rfl, trivial⟩ trivial) ?_)))
          clear hK K
          refine AW.ret ?_
          have h := Option.some.inj h
          subst h
          exact ret_pure (hs := [slE eStr (sortS ((x13).map Prod.fst)), HV.int .i64 0]) (q := HV.tup [slE eStr (sortS ((x13).map Prod.fst)), HV.int .i64 0]) (.inr rfl) (resT rfl (resT rfl rfl)) rfl ⟨(clean_slE fun _ _ => ⟨trivial, trivial⟩), trivial, trivial⟩
        · have h := ifF hg8 h
          refine b_op rfl (o_callA rfl rfl rfl rfl (c_listF h7 hg8 ?_) )
          refine mv rfl rfl ?_
          refine bv rfl (v_extract rfl rfl) ?_
          refine bv rfl (v_extract rfl rfl) ?_
          refine mv rfl rfl ?_
          refine mv rfl rfl ?_
          refine b_nil (hK _ (AW.to (to_le (s' := ⟨[(6, HV.fptr [HV.int .i64 p2] 0), (11, HV.v (.map none)), (12, HV.bool false)], []⟩) (AS.le_of ⟨rfl, rfl, rfl, trivial⟩ trivial) ?_)))
          clear hK K
          refine AW.seq ?_
          refine AW.rgs rfl fun K hK => ?_
          refine mv rfl rfl ?_
          refine bv rfl (v_not rfl) ?_
          refine b_nil (hK _ (AW.to (to_le (s' := ⟨[(6, HV.fptr [HV.int .i64 p2] 0), (11, HV.v (.map none)), (46, HV.bool true)], []⟩) (AS.le_of ⟨rfl, rfl, rfl, trivial⟩ trivial) ?_)))
          clear hK K
          refine AW.cond rfl (fun _ => ?_) (fun hc => by cases hc)
          refine AW.rgs rfl fun K hK => ?_
          refine mv rfl rfl ?_
          refine mv rfl rfl ?_
          refine b_nil (hK _ (AW.to (to_le (s' := ⟨[(8, HV.v (.slice none 0 0)), (9, HV.int .i64 4)], []⟩) (AS.le_of ⟨rfl, rfl, trivial⟩ trivial) ?_)))
          clear hK K
          refine AW.to (to_weak ⟨[(8, slE eStr ([] : List (List UInt8))), (9, HV.int .i64 4)], []⟩ ⟨⟨_, rfl, .nil _⟩, ⟨_, rfl, .refl _⟩, trivial⟩ trivial ?_)
          refine AW.ret ?_
          have h := Option.some.inj h
          subst h
          exact ret_pure (hs := [slE eStr ([] : List (List UInt8)), HV.int .i64 4]) (q := HV.tup [slE eStr ([] : List (List UInt8)), HV.int .i64 4]) (.inr rfl) (resT rfl (resT rfl rfl)) rfl ⟨(clean_slE fun _ _ => ⟨trivial, trivial⟩), trivial, trivial⟩
    · refine AW.rg rfl fun K hK => ?_
      refine mv rfl rfl ?_
      refine bv rfl (v_bin rfl rfl b_lss) ?_
      refine mv rfl rfl ?_
      by_cases hg19 : p1 < 0
      · have h := ifT hg19 h
        refine b_F rfl rfl rfl rfl rfl (decide_eq_true hg19) ?_
        refine b_F rfl rfl rfl rfl rfl rfl ?_
        refine b_F rfl rfl rfl rfl rfl rfl ?_
        refine b_F rfl rfl rfl rfl rfl rfl ?_
        refine bv rfl (v_pickT rfl rfl rfl) ?_
        refine mv rfl rfl ?_
        refine b_F rfl rfl rfl rfl rfl rfl ?_
        refine b_F rfl rfl rfl rfl rfl rfl ?_
        refine bv rfl (v_pickT rfl rfl rfl) ?_
        refine mv rfl rfl ?_
        refine b_F rfl rfl rfl rfl rfl rfl ?_
        refine b_F rfl rfl rfl rfl rfl rfl ?_
        refine b_F rfl rfl rfl rfl rfl rfl ?_
        refine b_F rfl rfl rfl rfl rfl rfl ?_
        refine bv rfl (v_pickT rfl rfl rfl) ?_
        refine b_nil (hK _ ?_)
        clear hK K
        exact to_le (s' := ⟨[(1, HV.int .i64 p1), (3, HV.int .i64 p3), (4, HV.fptr [HV.int .i64 p0.1, HV.int .i64 p0.2.1, slE eFromLabelTo p0.2.2] 0), (6, HV.fptr [HV.int .i64 p2] 0), (36, HV.bool true)], []⟩) (AS.le_of ⟨rfl, rfl, rfl, rfl, rfl, trivial⟩ trivial) ⟨true, (), h, rfl⟩
      · have h := ifF hg19 h
        refine b_T rfl rfl rfl rfl (decide_eq_false hg19) (o_val rfl (mv_val rfl rfl).2 ?_)
        refine b_T rfl rfl rfl rfl rfl (o_val rfl (v_fieldAddrF fo24_1 rfl) ?_)
        refine b_T rfl rfl rfl rfl rfl (o_val rfl (v_loadF ty3 rfl (l_lit rfl rfl)) ?_)
        refine b_T rfl rfl rfl rfl rfl (o_val rfl (v_bin rfl rfl b_geq) ?_)
        refine bv rfl (v_pickF rfl rfl rfl) ?_
        refine mv rfl rfl ?_
        by_cases hg18 : p0.2.1 ≤ p1
        · have h := ifT hg18 h
          refine b_F rfl rfl rfl rfl rfl (decide_eq_true hg18) ?_
          refine b_F rfl rfl rfl rfl rfl rfl ?_
          refine bv rfl (v_pickT rfl rfl rfl) ?_
          refine mv rfl rfl ?_
          refine b_F rfl rfl rfl rfl rfl rfl ?_
          refine b_F rfl rfl rfl rfl rfl rfl ?_
          refine b_F rfl rfl rfl rfl rfl rfl ?_
          refine b_F rfl rfl rfl rfl rfl rfl ?_
          refine bv rfl (v_pickT rfl rfl rfl) ?_
          refine b_nil (hK _ ?_)
          clear hK K
          exact to_le (s' := ⟨[(1, HV.int .i64 p1), (3, HV.int .i64 p3), (4, HV.fptr [HV.int .i64 p0.1, HV.int .i64 p0.2.1, slE eFromLabelTo p0.2.2] 0), (6, HV.fptr [HV.int .i64 p2] 0), (36, HV.bool true)], []⟩) (AS.le_of ⟨rfl, rfl, rfl, rfl, rfl, trivial⟩ trivial) ⟨true, (), h, rfl⟩
        · have h := ifF hg18 h
          refine b_T rfl rfl rfl rfl (decide_eq_false hg18) (o_val rfl (v_loadF ty3 rfl (l_lit rfl rfl)) ?_)
          refine b_T rfl rfl rfl rfl rfl (o_val rfl (v_bin rfl rfl b_lss) ?_)
          refine bv rfl (v_pickF rfl rfl rfl) ?_
          refine mv rfl rfl ?_
          by_cases hg17 : p2 < 0
          · have h := ifT hg17 h
            refine b_F rfl rfl rfl rfl rfl (decide_eq_true hg17) ?_
            refine b_F rfl rfl rfl rfl rfl rfl ?_
            refine b_F rfl rfl rfl rfl rfl rfl ?_
            refine b_F rfl rfl rfl rfl rfl rfl ?_
            refine bv rfl (v_pickT rfl rfl rfl) ?_
            refine b_nil (hK _ ?_)
            clear hK K
            exact to_le (s' := ⟨[(1, HV.int .i64 p1), (3, HV.int .i64 p3), (4, HV.fptr [HV.int .i64 p0.1, HV.int .i64 p0.2.1, slE eFromLabelTo p0.2.2] 0), (6, HV.fptr [HV.int .i64 p2] 0), (36, HV.bool true)], []⟩) (AS.le_of ⟨rfl, rfl, rfl, rfl, rfl, trivial⟩ trivial) ⟨true, (), h, rfl⟩
          · have h := ifF hg17 h
            refine b_T rfl rfl rfl rfl (decide_eq_false hg17) (o_val rfl (v_loadF ty3 rfl (l_lit rfl rfl)) ?_)
            refine b_T rfl rfl rfl rfl rfl (o_val rfl (v_fieldAddrF fo24_1 rfl) ?_)
            refine b_T rfl rfl rfl rfl rfl (o_val rfl (v_loadF ty3 rfl (l_lit rfl rfl)) ?_)
            refine b_T rfl rfl rfl rfl rfl (o_val rfl (v_bin rfl rfl b_geq) ?_)
            refine bv rfl (v_pickF rfl rfl rfl) ?_
            refine b_nil (hK _ ?_)
            clear hK K
            exact to_le (s' := ⟨[(1, HV.int .i64 p1), (3, HV.int .i64 p3), (4, HV.fptr [HV.int .i64 p0.1, HV.int .i64 p0.2.1, slE eFromLabelTo p0.2.2] 0), (6, HV.fptr [HV.int .i64 p2] 0), (36, HV.bool (decide (p0.2.1 ≤ p2)))], []⟩) (AS.le_of ⟨rfl, rfl, rfl, rfl, rfl, trivial⟩ trivial) ⟨decide (p0.2.1 ≤ p2), (), h, rfl⟩

end Go.AW

namespace Go.AW
open Go Go.Proofs
set_option linter.unusedVariables false
set_option maxHeartbeats 1600000 in
set_option maxRecDepth 100000 in
theorem w_law11_LanguageParts {p0 : TLabelsStatesEdges} {p1 : Int} {r : Bool} (h : m_law11_LanguageParts p0 p1 = some r) : Pure Try.prog 8 [HV.agg [HV.int .i64 p0.1, HV.int .i64 p0.2.1, slE eFromLabelTo p0.2.2], HV.int .u8 p1] (· = HV.bool r) := by
  unfold m_law11_LanguageParts at h
  refine Pure.of_body Try.func8 rfl rfl (Nat.le_of_ble_eq_true rfl) fun hf => ?_
  unfold Try.f8
  dsimp only [enumS, Nat.reduceAdd]
  refine AW.rgs rfl fun K hK => ?_
  refine b_op rfl (o_box rfl rfl rfl ?_)
  refine mv rfl rfl ?_
  refine b_nil (hK _ (AW.to (to_le (s' := ⟨[(1, HV.int .u8 p1), (2, HV.fptr [HV.int .i64 p0.1, HV.int .i64 p0.2.1, slE eFromLabelTo p0.2.2] 0)], []⟩) (AS.le_of ⟨rfl, rfl, trivial⟩ trivial) ?_)))
  clear hK K
  refine AW.rgs rfl fun K hK => ?_
  refine mv rfl rfl ?_
  refine bv rfl (v_convI ty5 ty3 rfl) ?_
  refine bv rfl (v_bin rfl rfl (b_rem (by decide))) ?_
  refine mv rfl rfl ?_
  refine b_nil (hK _ (AW.to (to_le (s' := ⟨[(2, HV.fptr [HV.int .i64 p0.1, HV.int .i64 p0.2.1, slE eFromLabelTo p0.2.2] 0), (5, HV.int .i64 (Int.tmod (IntKind.wrap .i64 p1) 8))], []⟩) (AS.le_of ⟨rfl, rfl, trivial⟩ trivial) ?_)))
  clear hK K
  refine AW.seq ?_
  refine AW.seqJ h (S := Bool) (V := Unit) (fun a v => ⟨[(2, HV.fptr [HV.int .i64 p0.1, HV.int .i64 p0.2.1, slE eFromLabelTo p0.2.2] 0), (5, HV.int .i64 (Int.tmod (IntKind.wrap .i64 p1) 8)), (28, HV.bool a)], []⟩) (fun a1 w2 h => ?_) (fun k3 h => ?_)
  · refine AW.cond rfl (fun hc => ?_) (fun hc => ?_)
    · have h := ifT hc h
      refine AW.rgs rfl fun K hK => ?_
      obtain ⟨x4, h5, h⟩ := bS h
      refine b_op rfl (o_call rfl rfl rfl rfl (ACallD.pure0 (w_law11_awake h5)) ?_)
      refine mv rfl rfl ?_
      refine b_nil (hK _ (AW.to (to_le (s' := ⟨[(4, HV.bool x4)], []⟩) (AS.le_of ⟨rfl, trivial⟩ trivial) ?_)))
      clear hK K
      refine AW.ret ?_
      have h := Option.some.inj h
      subst h
      exact ret_pure (hs := [HV.bool x4]) (q := HV.bool x4) (.inr rfl) (resT rfl rfl) rfl trivial
    · have h := ifF (bF' hc) h
      refine AW.skip ?_
      refine AW.rgs rfl fun K hK => ?_
      refine bv rfl (v_loadF ty24 rfl (l_litA rfl (Nat.le_of_ble_eq_true rfl) rfl)) ?_
      refine mv rfl rfl ?_
      obtain ⟨x6, h7, h⟩ := bS h
      refine b_op rfl (o_call rfl rfl rfl rfl (ACallD.pure0 (w_language_Words h7)) ?_)
      refine mv rfl rfl ?_
      refine bv rfl (v_extract rfl rfl) ?_
      refine bv rfl (v_extract rfl rfl) ?_
      refine mv rfl rfl ?_
      refine mv rfl rfl ?_
      refine b_nil (hK _ (AW.to (to_le (s' := ⟨[(2, HV.fptr [HV.int .i64 p0.1, HV.int .i64 p0.2.1, slE eFromLabelTo p0.2.2] 0), (5, HV.int .i64 (Int.tmod (IntKind.wrap .i64 p1) 8)), (6, slE eStr x6.1), (7, HV.int .i64 x6.2)], []⟩) (AS.le_of ⟨rfl, rfl, rfl, rfl, trivial⟩ trivial) ?_)))
      clear hK K
      refine AW.rgs rfl fun K hK => ?_
      refine mv rfl rfl ?_
      refine b_nil (hK _ (AW.to (to_le (s' := ⟨[(2, HV.fptr [HV.int .i64 p0.1, HV.int .i64 p0.2.1, slE eFromLabelTo p0.2.2] 0), (5, HV.int .i64 (Int.tmod (IntKind.wrap .i64 p1) 8)), (6, slE eStr x6.1), (7, HV.int .i64 x6.2), (8, HV.v (.slice none 0 0))], []⟩) (AS.le_of ⟨rfl, rfl, rfl, rfl, rfl, trivial⟩ trivial) ?_)))
      clear hK K
      refine AW.seq ?_
      refine AW.rgs rfl fun K hK => ?_
      refine bv rfl (v_loadF ty24 rfl (l_litA rfl (Nat.le_of_ble_eq_true rfl) rfl)) ?_
      obtain ⟨x8, h9, h⟩ := bS h
      refine b_op rfl (o_call rfl rfl rfl rfl (ACallD.pure0 (w_law11_every h9)) ?_)
      refine bv rfl (v_lenF rfl rfl ty42 rfl) ?_
      refine mv rfl rfl ?_
      refine b_nil (hK _ (AW.to (to_le (s' := ⟨[(2, HV.fptr [HV.int .i64 p0.1, HV.int .i64 p0.2.1, slE eFromLabelTo p0.2.2] 0), (5, HV.int .i64 (Int.tmod (IntKind.wrap .i64 p1) 8)), (6, slE eStr x6.1), (7, HV.int .i64 x6.2), (8, HV.v (.slice none 0 0)), (37, slE eInt x8), (38, HV.int .i64 ((x8).length : Int)), (39, HV.int .i64 0)], []⟩) (AS.le_of ⟨rfl, rfl, rfl, rfl, rfl, rfl, rfl, rfl, trivial⟩ trivial) ?_)))
      clear hK K
      refine AW.lpR h (by first | exact up_then | exact up_to) (S := Int × (List (List UInt8))) (V := Nat) (fun a v => ⟨[(2, HV.fptr [HV.int .i64 p0.1, HV.int .i64 p0.2.1, slE eFromLabelTo p0.2.2] 0), (5, HV.int .i64 (Int.tmod (IntKind.wrap .i64 p1) 8)), (6, slE eStr x6.1), (7, HV.int .i64 x6.2), (8, HV.ar 8084 v eStr.k 0 ((a.2).length)), (37, slE eInt x8), (38, HV.int .i64 ((x8).length : Int)), (39, HV.int .i64 a.1)], [(8084, v, .arr eStr.k 9 (eStr.E a.2))]⟩) ?_ (X := (List (List UInt8))) (W := Nat) (fun a v => ⟨[(6, slE eStr x6.1), (7, HV.int .i64 x6.2), (8, HV.ar 8084 v eStr.k 0 ((a).length))], [(8084, v, .arr eStr.k 9 (eStr.E a))]⟩) (fun a43 w44 h => ?_) (fun a10 w11 st12 h hr13=> ?_)
      · refine to_bind (to_own 8084 8 eStr.k 9 rfl fun v42 => ?_)
        exact to_le (s' := ⟨[(2, HV.fptr [HV.int .i64 p0.1, HV.int .i64 p0.2.1, slE eFromLabelTo p0.2.2] 0), (5, HV.int .i64 (Int.tmod (IntKind.wrap .i64 p1) 8)), (6, slE eStr x6.1), (7, HV.int .i64 x6.2), (8, HV.ar 8084 v42 eStr.k 0 ((([] : List (List UInt8))).length)), (37, slE eInt x8), (38, HV.int .i64 ((x8).length : Int)), (39, HV.int .i64 0)], [(8084, v42, .arr eStr.k 9 (eStr.E ([] : List (List UInt8))))]⟩) (AS.le_of ⟨rfl, rfl, rfl, rfl, arl (by first | rfl | simp only [List.length_set, sortI_len, sortS_len]), rfl, rfl, rfl, trivial⟩ ⟨rfl, trivial⟩) ⟨v42, rfl⟩
      · refine AW.rgs rfl fun K hK => ?_
        refine mv rfl rfl ?_
        obtain ⟨h45, h⟩ := ifN h
        refine b_op rfl (o_sortS c_sortS (l := a43) rfl rfl rfl rfl h45 ?_)
        refine b_nil (hK _ (AW.to (to_le (s' := ⟨[(6, slE eStr x6.1), (7, HV.int .i64 x6.2), (8, HV.ar 8084 w44 eStr.k 0 ((sortS a43).length))], [(8084, w44, .arr eStr.k 9 (eStr.E (sortS a43)))]⟩) (AS.le_of ⟨rfl, rfl, arl (by first | rfl | simp only [List.length_set, sortI_len, sortS_len]), trivial⟩ ⟨rfl, trivial⟩) ?_)))
        clear hK K
        refine AW.seqJ h (S := Bool) (V := Unit) (fun a v => ⟨[(4, HV.bool a)], []⟩) (fun a46 w47 h => ?_) (fun k48 h => ?_)
        · refine AW.ret ?_
          have h := Option.some.inj h
          subst h
          exact ret_pure (hs := [HV.bool a46]) (q := HV.bool a46) (.inr rfl) (resT rfl rfl) rfl trivial
        · refine AW.rg rfl fun K hK => ?_
          refine mv rfl rfl ?_
          refine bv rfl (v_bin rfl rfl b_eql) ?_
          refine mv rfl rfl ?_
          by_cases hg54 : x6.2 = 0
          · have h := ifT hg54 h
            refine b_T rfl rfl rfl rfl (decide_eq_true hg54) (o_val rfl (mv_val rfl rfl).2 ?_)
            refine b_T rfl rfl rfl rfl rfl (o_val rfl (mv_val rfl rfl).2 ?_)
            refine b_T rfl rfl rfl rfl rfl (o_callK (q := slE eStr (compactS_ (sortS a43))) [] rfl rfl rfl rfl (fun K hK => c_compactS (H' := []) (l := sortS a43) rfl rfl (leH_get trivial) rfl hK) ?_)
            obtain ⟨x49, h50, h⟩ := bS h
            refine b_T rfl rfl rfl rfl rfl (o_call rfl rfl rfl rfl (ACallD.pure0 (w_slices_Equal_Lstring_string h50)) ?_)
            refine bv rfl (v_pickT rfl rfl rfl) ?_
            refine mv rfl rfl ?_
            by_cases hg53 : x49 = true
            · have h := ifT hg53 h
              obtain ⟨x51, h52, h⟩ := bS h
              refine b_T rfl rfl rfl rfl hg53 (o_call rfl rfl rfl rfl (ACallD.pure0 (w_law11_awake h52)) ?_)
              refine bv rfl (v_pickT rfl rfl rfl) ?_
              refine mv rfl rfl ?_
              refine b_nil (hK _ ?_)
              clear hK K
              exact to_le (s' := ⟨[(4, HV.bool x51)], []⟩) (AS.le_of ⟨rfl, trivial⟩ trivial) ⟨x51, (), h, rfl⟩
            · have h := ifF hg53 h
              refine b_F rfl rfl rfl rfl rfl (bF hg53) ?_
              refine bv rfl (v_pickF rfl rfl rfl) ?_
              refine mv rfl rfl ?_
              refine b_nil (hK _ ?_)
              clear hK K
              exact to_le (s' := ⟨[(4, HV.bool false)], []⟩) (AS.le_of ⟨rfl, trivial⟩ trivial) ⟨false, (), h, rfl⟩
          · have h := ifF hg54 h
            refine b_F rfl rfl rfl rfl rfl (decide_eq_false hg54) ?_
            refine b_F rfl rfl rfl rfl rfl rfl ?_
            refine b_F rfl rfl rfl rfl rfl rfl ?_
            refine b_F rfl rfl rfl rfl rfl rfl ?_
            refine bv rfl (v_pickF rfl rfl rfl) ?_
            refine mv rfl rfl ?_
            refine b_F rfl rfl rfl rfl rfl rfl ?_
            refine bv rfl (v_pickF rfl rfl rfl) ?_
            refine mv rfl rfl ?_
            refine b_nil (hK _ ?_)
            clear hK K
            exact to_le (s' := ⟨[(4, HV.bool false)], []⟩) (AS.le_of ⟨rfl, trivial⟩ trivial) ⟨false, (), h, rfl⟩
      · refine AW.rgs rfl fun K hK => ?_
        refine bv rfl (v_bin rfl rfl b_lss) ?_
        refine b_nil (hK _ (AW.to (to_le (s' := ⟨[(2, HV.fptr [HV.int .i64 p0.1, HV.int .i64 p0.2.1, slE eFromLabelTo p0.2.2] 0), (5, HV.int .i64 (Int.tmod (IntKind.wrap .i64 p1) 8)), (6, slE eStr x6.1), (7, HV.int .i64 x6.2), (8, HV.ar 8084 w11 eStr.k 0 ((a10.2).length)), (37, slE eInt x8), (38, HV.int .i64 ((x8).length : Int)), (39, HV.int .i64 a10.1), (40, HV.bool (decide (a10.1 < ((x8).length : Int))))], [(8084, w11, .arr eStr.k 9 (eStr.E a10.2))]⟩) (AS.le_of ⟨rfl, rfl, rfl, rfl, rfl, rfl, rfl, rfl, rfl, trivial⟩ ⟨rfl, trivial⟩) ?_)))
        clear hK K
        refine AW.cseq rfl (fun hc => ?_) (fun hc => ?_)
        · have hc := of_decide_eq_true hc
          have h := ifT hc h
          refine AW.skip ?_
          refine AW.seq (AW.block ?_)
          refine AW.rgs rfl fun K hK => ?_
          obtain ⟨x14, h15, h⟩ := bS h
          refine bv rfl (v_idxF ty42 es42 rfl rfl (idx_lt h15)) ?_
          refine bv rfl (v_loadF ty3 rfl (l_cell eInt h15 (o := 0) rfl rfl)) ?_
          refine mv rfl rfl ?_
          refine b_nil (hK _ (AW.to (to_le (s' := ⟨[(2, HV.fptr [HV.int .i64 p0.1, HV.int .i64 p0.2.1, slE eFromLabelTo p0.2.2] 0), (5, HV.int .i64 (Int.tmod (IntKind.wrap .i64 p1) 8)), (6, slE eStr x6.1), (7, HV.int .i64 x6.2), (8, HV.ar 8084 w11 eStr.k 0 ((a10.2).length)), (10, HV.int .i64 x14), (37, slE eInt x8), (38, HV.int .i64 ((x8).length : Int)), (39, HV.int .i64 a10.1)], [(8084, w11, .arr eStr.k 9 (eStr.E a10.2))]⟩) (AS.le_of ⟨rfl, rfl, rfl, rfl, rfl, rfl, rfl, rfl, rfl, trivial⟩ ⟨rfl, trivial⟩) ?_)))
          clear hK K
          refine AW.rgs rfl fun K hK => ?_
          refine bv rfl (v_loadF ty24 rfl (l_litA rfl (Nat.le_of_ble_eq_true rfl) rfl)) ?_
          refine mv rfl rfl ?_
          refine mv rfl rfl ?_
          obtain ⟨x16, h17, h⟩ := bS h
          refine b_op rfl (o_call rfl rfl rfl rfl (ACallD.pure0 (w_language_From h17)) ?_)
          refine mv rfl rfl ?_
          refine bv rfl (v_extract rfl rfl) ?_
          refine bv rfl (v_extract rfl rfl) ?_
          refine mv rfl rfl ?_
          refine mv rfl rfl ?_
          refine b_nil (hK _ (AW.to (to_le (s' := ⟨[(2, HV.fptr [HV.int .i64 p0.1, HV.int .i64 p0.2.1, slE eFromLabelTo p0.2.2] 0), (5, HV.int .i64 (Int.tmod (IntKind.wrap .i64 p1) 8)), (6, slE eStr x6.1), (7, HV.int .i64 x6.2), (8, HV.ar 8084 w11 eStr.k 0 ((a10.2).length)), (10, HV.int .i64 x14), (11, slE eStr x16.1), (12, HV.int .i64 x16.2), (37, slE eInt x8), (38, HV.int .i64 ((x8).length : Int)), (39, HV.int .i64 a10.1)], [(8084, w11, .arr eStr.k 9 (eStr.E a10.2))]⟩) (AS.le_of ⟨rfl, rfl, rfl, rfl, rfl, rfl, rfl, rfl, rfl, rfl, rfl, trivial⟩ ⟨rfl, trivial⟩) ?_)))
          clear hK K
          refine AW.rgs rfl fun K hK => ?_
          refine mv rfl rfl ?_
          refine b_nil (hK _ (AW.to (to_le (s' := ⟨[(2, HV.fptr [HV.int .i64 p0.1, HV.int .i64 p0.2.1, slE eFromLabelTo p0.2.2] 0), (5, HV.int .i64 (Int.tmod (IntKind.wrap .i64 p1) 8)), (6, slE eStr x6.1), (7, HV.int .i64 x6.2), (8, HV.ar 8084 w11 eStr.k 0 ((a10.2).length)), (10, HV.int .i64 x14), (11, slE eStr x16.1), (12, HV.int .i64 x16.2), (13, HV.v (.slice none 0 0)), (37, slE eInt x8), (38, HV.int .i64 ((x8).length : Int)), (39, HV.int .i64 a10.1)], [(8084, w11, .arr eStr.k 9 (eStr.E a10.2))]⟩) (AS.le_of ⟨rfl, rfl, rfl, rfl, rfl, rfl, rfl, rfl, rfl, rfl, rfl, rfl, trivial⟩ ⟨rfl, trivial⟩) ?_)))
          clear hK K
          refine AW.seq ?_
          refine AW.rgs rfl fun K hK => ?_
          refine bv rfl (v_loadF ty24 rfl (l_litA rfl (Nat.le_of_ble_eq_true rfl) rfl)) ?_
          obtain ⟨x18, h19, h⟩ := bS h
          refine b_op rfl (o_call rfl rfl rfl rfl (ACallD.pure0 (w_law11_every h19)) ?_)
          refine bv rfl (v_lenF rfl rfl ty42 rfl) ?_
          refine mv rfl rfl ?_
          refine b_nil (hK _ (AW.to (to_le (s' := ⟨[(2, HV.fptr [HV.int .i64 p0.1, HV.int .i64 p0.2.1, slE eFromLabelTo p0.2.2] 0), (5, HV.int .i64 (Int.tmod (IntKind.wrap .i64 p1) 8)), (6, slE eStr x6.1), (7, HV.int .i64 x6.2), (8, HV.ar 8084 w11 eStr.k 0 ((a10.2).length)), (10, HV.int .i64 x14), (11, slE eStr x16.1), (12, HV.int .i64 x16.2), (13, HV.v (.slice none 0 0)), (37, slE eInt x8), (38, HV.int .i64 ((x8).length : Int)), (39, HV.int .i64 a10.1), (51, slE eInt x18), (52, HV.int .i64 ((x18).length : Int)), (53, HV.int .i64 0)], [(8084, w11, .arr eStr.k 9 (eStr.E a10.2))]⟩) (AS.le_of ⟨rfl, rfl, rfl, rfl, rfl, rfl, rfl, rfl, rfl, rfl, rfl, rfl, rfl, rfl, rfl, trivial⟩ ⟨rfl, trivial⟩) ?_)))
          clear hK K
          refine AW.lpR h (by first | exact up_then | exact up_to) (S := Int × (List (List UInt8))) (V := Nat) (fun a v => ⟨[(2, HV.fptr [HV.int .i64 p0.1, HV.int .i64 p0.2.1, slE eFromLabelTo p0.2.2] 0), (5, HV.int .i64 (Int.tmod (IntKind.wrap .i64 p1) 8)), (6, slE eStr x6.1), (7, HV.int .i64 x6.2), (8, HV.ar 8084 w11 eStr.k 0 ((a10.2).length)), (10, HV.int .i64 x14), (11, slE eStr x16.1), (12, HV.int .i64 x16.2), (13, HV.ar 8069 v eStr.k 0 ((a.2).length)), (37, slE eInt x8), (38, HV.int .i64 ((x8).length : Int)), (39, HV.int .i64 a10.1), (51, slE eInt x18), (52, HV.int .i64 ((x18).length : Int)), (53, HV.int .i64 a.1)], [(8069, v, .arr eStr.k 9 (eStr.E a.2)), (8084, w11, .arr eStr.k 9 (eStr.E a10.2))]⟩) ?_ (X := (List (List UInt8))) (W := Nat) (fun a v => ⟨[(2, HV.fptr [HV.int .i64 p0.1, HV.int .i64 p0.2.1, slE eFromLabelTo p0.2.2] 0), (5, HV.int .i64 (Int.tmod (IntKind.wrap .i64 p1) 8)), (6, slE eStr x6.1), (7, HV.int .i64 x6.2), (8, HV.ar 8084 w11 eStr.k 0 ((a10.2).length)), (11, slE eStr x16.1), (12, HV.int .i64 x16.2), (13, HV.ar 8069 v eStr.k 0 ((a).length)), (37, slE eInt x8), (38, HV.int .i64 ((x8).length : Int)), (39, HV.int .i64 a10.1)], [(8069, v, .arr eStr.k 9 (eStr.E a)), (8084, w11, .arr eStr.k 9 (eStr.E a10.2))]⟩) (fun a31 w32 h => ?_) (fun a20 w21 st22 h hr23=> ?_)
          · refine to_bind (to_own 8069 13 eStr.k 9 rfl fun v30 => ?_)
            exact to_le (s' := ⟨[(2, HV.fptr [HV.int .i64 p0.1, HV.int .i64 p0.2.1, slE eFromLabelTo p0.2.2] 0), (5, HV.int .i64 (Int.tmod (IntKind.wrap .i64 p1) 8)), (6, slE eStr x6.1), (7, HV.int .i64 x6.2), (8, HV.ar 8084 w11 eStr.k 0 ((a10.2).length)), (10, HV.int .i64 x14), (11, slE eStr x16.1), (12, HV.int .i64 x16.2), (13, HV.ar 8069 v30 eStr.k 0 ((([] : List (List UInt8))).length)), (37, slE eInt x8), (38, HV.int .i64 ((x8).length : Int)), (39, HV.int .i64 a10.1), (51, slE eInt x18), (52, HV.int .i64 ((x18).length : Int)), (53, HV.int .i64 0)], [(8069, v30, .arr eStr.k 9 (eStr.E ([] : List (List UInt8)))), (8084, w11, .arr eStr.k 9 (eStr.E a10.2))]⟩) (AS.le_of ⟨rfl, rfl, rfl, rfl, rfl, rfl, rfl, rfl, arl (by first | rfl | simp only [List.length_set, sortI_len, sortS_len]), rfl, rfl, rfl, rfl, rfl, rfl, trivial⟩ ⟨rfl, rfl, trivial⟩) ⟨v30, rfl⟩
          · refine AW.rgs rfl fun K hK => ?_
            refine mv rfl rfl ?_
            obtain ⟨h33, h⟩ := ifN h
            refine b_op rfl (o_sortS c_sortS (l := a31) rfl rfl rfl rfl h33 ?_)
            refine b_nil (hK _ (AW.to (to_le (s' := ⟨[(2, HV.fptr [HV.int .i64 p0.1, HV.int .i64 p0.2.1, slE eFromLabelTo p0.2.2] 0), (5, HV.int .i64 (Int.tmod (IntKind.wrap .i64 p1) 8)), (6, slE eStr x6.1), (7, HV.int .i64 x6.2), (8, HV.ar 8084 w11 eStr.k 0 ((a10.2).length)), (11, slE eStr x16.1), (12, HV.int .i64 x16.2), (13, HV.ar 8069 w32 eStr.k 0 ((sortS a31).length)), (37, slE eInt x8), (38, HV.int .i64 ((x8).length : Int)), (39, HV.int .i64 a10.1)], [(8069, w32, .arr eStr.k 9 (eStr.E (sortS a31))), (8084, w11, .arr eStr.k 9 (eStr.E a10.2))]⟩) (AS.le_of ⟨rfl, rfl, rfl, rfl, rfl, rfl, rfl, arl (by first | rfl | simp only [List.length_set, sortI_len, sortS_len]), rfl, rfl, rfl, trivial⟩ ⟨rfl, rfl, trivial⟩) ?_)))
            clear hK K
            refine AW.seq ?_
            refine AW.seqJ h (S := Bool) (V := Unit) (fun a v => ⟨[(2, HV.fptr [HV.int .i64 p0.1, HV.int .i64 p0.2.1, slE eFromLabelTo p0.2.2] 0), (5, HV.int .i64 (Int.tmod (IntKind.wrap .i64 p1) 8)), (6, slE eStr x6.1), (7, HV.int .i64 x6.2), (8, HV.ar 8084 w11 eStr.k 0 ((a10.2).length)), (11, slE eStr x16.1), (37, slE eInt x8), (38, HV.int .i64 ((x8).length : Int)), (39, HV.int .i64 a10.1), (81, HV.bool a)], [(8084, w11, .arr eStr.k 9 (eStr.E a10.2))]⟩) (fun a34 w35 h => ?_) (fun k36 h => ?_)
            · refine AW.cond rfl (fun hc => ?_) (fun hc => ?_)
              · have h := ifT hc h
                refine AW.rgs rfl fun K hK => ?_
                refine mv rfl rfl ?_
                refine b_nil (hK _ (AW.to (to_le (s' := ⟨[(4, HV.bool false)], []⟩) (AS.le_of ⟨rfl, trivial⟩ trivial) ?_)))
                clear hK K
                have h := hr13 _ h
                refine AW.ret ?_
                have h := Option.some.inj h
                subst h
                exact ret_pure (hs := [HV.bool false]) (q := HV.bool false) (.inr rfl) (resT rfl rfl) rfl trivial
              · have h := ifF (bF' hc) h
                refine AW.skip ?_
                refine AW.rg rfl fun K hK => ?_
                refine mv rfl rfl ?_
                refine mv rfl rfl ?_
                obtain ⟨h38, h⟩ := ifN h
                refine b_op rfl (o_appE eStr (l := a10.2) (m := x16.1) rfl rfl ty30 ty30 ty9 rfl rfl rfl rfl rfl h38 (fun v37 => ?_))
                refine mv rfl rfl ?_
                refine b_nil (hK _ (AW.to (to_le (s' := ⟨[(2, HV.fptr [HV.int .i64 p0.1, HV.int .i64 p0.2.1, slE eFromLabelTo p0.2.2] 0), (5, HV.int .i64 (Int.tmod (IntKind.wrap .i64 p1) 8)), (6, slE eStr x6.1), (7, HV.int .i64 x6.2), (8, HV.ar 8084 v37 eStr.k 0 ((a10.2 ++ x16.1).length)), (37, slE eInt x8), (38, HV.int .i64 ((x8).length : Int)), (39, HV.int .i64 a10.1)], [(8084, v37, .arr eStr.k 9 (eStr.E (a10.2 ++ x16.1)))]⟩) (AS.le_of ⟨rfl, rfl, rfl, rfl, rfl, rfl, rfl, rfl, trivial⟩ ⟨rfl, trivial⟩) ?_)))
                clear hK K
                refine AW.rg rfl fun K hK => ?_
                refine bv rfl (v_bin rfl rfl b_add) ?_
                refine mv rfl rfl ?_
                refine b_nil (hK _ ?_)
                clear hK K
                exact to_le (s' := ⟨[(2, HV.fptr [HV.int .i64 p0.1, HV.int .i64 p0.2.1, slE eFromLabelTo p0.2.2] 0), (5, HV.int .i64 (Int.tmod (IntKind.wrap .i64 p1) 8)), (6, slE eStr x6.1), (7, HV.int .i64 x6.2), (8, HV.ar 8084 v37 eStr.k 0 ((a10.2 ++ x16.1).length)), (37, slE eInt x8), (38, HV.int .i64 ((x8).length : Int)), (39, HV.int .i64 (IntKind.wrap .i64 (a10.1 + 1)))], [(8084, v37, .arr eStr.k 9 (eStr.E (a10.2 ++ x16.1)))]⟩) (AS.le_of ⟨rfl, rfl, rfl, rfl, rfl, rfl, rfl, rfl, trivial⟩ ⟨rfl, trivial⟩) ⟨(IntKind.wrap .i64 (a10.1 + 1), a10.2 ++ x16.1), v37, h, rfl⟩
            · refine AW.rg rfl fun K hK => ?_
              refine mv rfl rfl ?_
              refine bv rfl (v_bin rfl rfl b_neq) ?_
              refine mv rfl rfl ?_
              by_cases hg41 : x16.2 ≠ 0
              · have h := ifT hg41 h
                refine b_F rfl rfl rfl rfl rfl (decide_eq_true hg41) ?_
                refine b_F rfl rfl rfl rfl rfl rfl ?_
                refine b_F rfl rfl rfl rfl rfl rfl ?_
                refine b_F rfl rfl rfl rfl rfl rfl ?_
                refine b_F rfl rfl rfl rfl rfl rfl ?_
                refine bv rfl (v_pickT rfl rfl rfl) ?_
                refine b_nil (hK _ ?_)
                clear hK K
                exact to_le (s' := ⟨[(2, HV.fptr [HV.int .i64 p0.1, HV.int .i64 p0.2.1, slE eFromLabelTo p0.2.2] 0), (5, HV.int .i64 (Int.tmod (IntKind.wrap .i64 p1) 8)), (6, slE eStr x6.1), (7, HV.int .i64 x6.2), (8, HV.ar 8084 w11 eStr.k 0 ((a10.2).length)), (11, slE eStr x16.1), (37, slE eInt x8), (38, HV.int .i64 ((x8).length : Int)), (39, HV.int .i64 a10.1), (81, HV.bool true)], [(8084, w11, .arr eStr.k 9 (eStr.E a10.2))]⟩) (AS.le_of ⟨rfl, rfl, rfl, rfl, rfl, rfl, rfl, rfl, rfl, rfl, trivial⟩ ⟨rfl, trivial⟩) ⟨true, (), h, rfl⟩
              · have h := ifF hg41 h
                refine b_T rfl rfl rfl rfl (decide_eq_false hg41) (o_val rfl (mv_val rfl rfl).2 ?_)
                refine b_T rfl rfl rfl rfl rfl (o_val rfl (mv_val rfl rfl).2 ?_)
                refine b_T rfl rfl rfl rfl rfl (o_callK (q := slE eStr (compactS_ (sortS a31))) [(8084, w11, .arr eStr.k 9 (eStr.E a10.2))] rfl rfl rfl rfl (fun K hK => c_compactS (H' := [(8084, w11, .arr eStr.k 9 (eStr.E a10.2))]) (l := sortS a31) rfl rfl (leH_get ⟨rfl, trivial⟩) rfl hK) ?_)
                obtain ⟨x39, h40, h⟩ := bS h
                refine b_T rfl rfl rfl rfl rfl (o_call rfl rfl rfl rfl (ACallD.pure0 (w_slices_Equal_Lstring_string h40)) ?_)
                refine b_T rfl rfl rfl rfl rfl (o_val rfl (v_not rfl) ?_)
                refine bv rfl (v_pickF rfl rfl rfl) ?_
                refine b_nil (hK _ ?_)
                clear hK K
                exact to_le (s' := ⟨[(2, HV.fptr [HV.int .i64 p0.1, HV.int .i64 p0.2.1, slE eFromLabelTo p0.2.2] 0), (5, HV.int .i64 (Int.tmod (IntKind.wrap .i64 p1) 8)), (6, slE eStr x6.1), (7, HV.int .i64 x6.2), (8, HV.ar 8084 w11 eStr.k 0 ((a10.2).length)), (11, slE eStr x16.1), (37, slE eInt x8), (38, HV.int .i64 ((x8).length : Int)), (39, HV.int .i64 a10.1), (81, HV.bool (!x39))], [(8084, w11, .arr eStr.k 9 (eStr.E a10.2))]⟩) (AS.le_of ⟨rfl, rfl, rfl, rfl, rfl, rfl, rfl, rfl, rfl, rfl, trivial⟩ ⟨rfl, trivial⟩) ⟨!x39, (), h, rfl⟩
          · refine AW.rgs rfl fun K hK => ?_
            refine bv rfl (v_bin rfl rfl b_lss) ?_
            refine b_nil (hK _ (AW.to (to_le (s' := ⟨[(2, HV.fptr [HV.int .i64 p0.1, HV.int .i64 p0.2.1, slE eFromLabelTo p0.2.2] 0), (5, HV.int .i64 (Int.tmod (IntKind.wrap .i64 p1) 8)), (6, slE eStr x6.1), (7, HV.int .i64 x6.2), (8, HV.ar 8084 w11 eStr.k 0 ((a10.2).length)), (10, HV.int .i64 x14), (11, slE eStr x16.1), (12, HV.int .i64 x16.2), (13, HV.ar 8069 w21 eStr.k 0 ((a20.2).length)), (37, slE eInt x8), (38, HV.int .i64 ((x8).length : Int)), (39, HV.int .i64 a10.1), (51, slE eInt x18), (52, HV.int .i64 ((x18).length : Int)), (53, HV.int .i64 a20.1), (54, HV.bool (decide (a20.1 < ((x18).length : Int))))], [(8069, w21, .arr eStr.k 9 (eStr.E a20.2)), (8084, w11, .arr eStr.k 9 (eStr.E a10.2))]⟩) (AS.le_of ⟨rfl, rfl, rfl, rfl, rfl, rfl, rfl, rfl, rfl, rfl, rfl, rfl, rfl, rfl, rfl, rfl, trivial⟩ ⟨rfl, rfl, trivial⟩) ?_)))
            clear hK K
            refine AW.cseq rfl (fun hc => ?_) (fun hc => ?_)
            · have hc := of_decide_eq_true hc
              have h := ifT hc h
              refine AW.skip ?_
              refine AW.seq (AW.block ?_)
              refine AW.rgs rfl fun K hK => ?_
              obtain ⟨x24, h25, h⟩ := bS h
              refine bv rfl (v_idxF ty42 es42 rfl rfl (idx_lt h25)) ?_
              refine bv rfl (v_loadF ty3 rfl (l_cell eInt h25 (o := 0) rfl rfl)) ?_
              refine mv rfl rfl ?_
              refine b_nil (hK _ (AW.to (to_le (s' := ⟨[(2, HV.fptr [HV.int .i64 p0.1, HV.int .i64 p0.2.1, slE eFromLabelTo p0.2.2] 0), (5, HV.int .i64 (Int.tmod (IntKind.wrap .i64 p1) 8)), (6, slE eStr x6.1), (7, HV.int .i64 x6.2), (8, HV.ar 8084 w11 eStr.k 0 ((a10.2).length)), (10, HV.int .i64 x14), (11, slE eStr x16.1), (12, HV.int .i64 x16.2), (13, HV.ar 8069 w21 eStr.k 0 ((a20.2).length)), (15, HV.int .i64 x24), (37, slE eInt x8), (38, HV.int .i64 ((x8).length : Int)), (39, HV.int .i64 a10.1), (51, slE eInt x18), (52, HV.int .i64 ((x18).length : Int)), (53, HV.int .i64 a20.1)], [(8069, w21, .arr eStr.k 9 (eStr.E a20.2)), (8084, w11, .arr eStr.k 9 (eStr.E a10.2))]⟩) (AS.le_of ⟨rfl, rfl, rfl, rfl, rfl, rfl, rfl, rfl, rfl, rfl, rfl, rfl, rfl, rfl, rfl, rfl, trivial⟩ ⟨rfl, rfl, trivial⟩) ?_)))
              clear hK K
              refine AW.rgs rfl fun K hK => ?_
              refine bv rfl (v_loadF ty24 rfl (l_litA rfl (Nat.le_of_ble_eq_true rfl) rfl)) ?_
              refine mv rfl rfl ?_
              refine mv rfl rfl ?_
              refine mv rfl rfl ?_
              obtain ⟨x26, h27, h⟩ := bS h
              refine b_op rfl (o_call rfl rfl rfl rfl (ACallD.pure0 (w_language_Between h27)) ?_)
              refine mv rfl rfl ?_
              refine bv rfl (v_extract rfl rfl) ?_
              refine bv rfl (v_extract rfl rfl) ?_
              refine mv rfl rfl ?_
              refine mv rfl rfl ?_
              refine b_nil (hK _ (AW.to (to_le (s' := ⟨[(2, HV.fptr [HV.int .i64 p0.1, HV.int .i64 p0.2.1, slE eFromLabelTo p0.2.2] 0), (5, HV.int .i64 (Int.tmod (IntKind.wrap .i64 p1) 8)), (6, slE eStr x6.1), (7, HV.int .i64 x6.2), (8, HV.ar 8084 w11 eStr.k 0 ((a10.2).length)), (10, HV.int .i64 x14), (11, slE eStr x16.1), (12, HV.int .i64 x16.2), (13, HV.ar 8069 w21 eStr.k 0 ((a20.2).length)), (16, slE eStr x26.1), (17, HV.int .i64 x26.2), (37, slE eInt x8), (38, HV.int .i64 ((x8).length : Int)), (39, HV.int .i64 a10.1), (51, slE eInt x18), (52, HV.int .i64 ((x18).length : Int)), (53, HV.int .i64 a20.1)], [(8069, w21, .arr eStr.k 9 (eStr.E a20.2)), (8084, w11, .arr eStr.k 9 (eStr.E a10.2))]⟩) (AS.le_of ⟨rfl, rfl, rfl, rfl, rfl, rfl, rfl, rfl, rfl, rfl, rfl, rfl, rfl, rfl, rfl, rfl, rfl, trivial⟩ ⟨rfl, rfl, trivial⟩) ?_)))
              clear hK K
              refine AW.seq ?_
              refine AW.rgs rfl fun K hK => ?_
              refine mv rfl rfl ?_
              refine bv rfl (v_bin rfl rfl b_neq) ?_
              refine b_nil (hK _ (AW.to (to_le (s' := ⟨[(2, HV.fptr [HV.int .i64 p0.1, HV.int .i64 p0.2.1, slE eFromLabelTo p0.2.2] 0), (5, HV.int .i64 (Int.tmod (IntKind.wrap .i64 p1) 8)), (6, slE eStr x6.1), (7, HV.int .i64 x6.2), (8, HV.ar 8084 w11 eStr.k 0 ((a10.2).length)), (10, HV.int .i64 x14), (11, slE eStr x16.1), (12, HV.int .i64 x16.2), (13, HV.ar 8069 w21 eStr.k 0 ((a20.2).length)), (16, slE eStr x26.1), (37, slE eInt x8), (38, HV.int .i64 ((x8).length : Int)), (39, HV.int .i64 a10.1), (51, slE eInt x18), (52, HV.int .i64 ((x18).length : Int)), (53, HV.int .i64 a20.1), (66, HV.bool (decide (x26.2 ≠ 0)))], [(8069, w21, .arr eStr.k 9 (eStr.E a20.2)), (8084, w11, .arr eStr.k 9 (eStr.E a10.2))]⟩) (AS.le_of ⟨rfl, rfl, rfl, rfl, rfl, rfl, rfl, rfl, rfl, rfl, rfl, rfl, rfl, rfl, rfl, rfl, rfl, trivial⟩ ⟨rfl, rfl, trivial⟩) ?_)))
              clear hK K
              refine AW.cond rfl (fun hc => ?_) (fun hc => ?_)
              · have hc := of_decide_eq_true hc
                have h := ifT hc h
                refine AW.rgs rfl fun K hK => ?_
                refine mv rfl rfl ?_
                refine b_nil (hK _ (AW.to (to_le (s' := ⟨[(4, HV.bool false)], []⟩) (AS.le_of ⟨rfl, trivial⟩ trivial) ?_)))
                clear hK K
                have h := hr23 _ h
                have h := hr13 _ h
                refine AW.ret ?_
                have h := Option.some.inj h
                subst h
                exact ret_pure (hs := [HV.bool false]) (q := HV.bool false) (.inr rfl) (resT rfl rfl) rfl trivial
              · have hc := of_decide_eq_false hc
                have h := ifF hc h
                refine AW.skip ?_
                refine AW.rg rfl fun K hK => ?_
                refine mv rfl rfl ?_
                refine mv rfl rfl ?_
                obtain ⟨h29, h⟩ := ifN h
                refine b_op rfl (o_appE eStr (l := a20.2) (m := x26.1) rfl rfl ty30 ty30 ty9 rfl rfl rfl rfl rfl h29 (fun v28 => ?_))
                refine mv rfl rfl ?_
                refine b_nil (hK _ (AW.to (to_le (s' := ⟨[(2, HV.fptr [HV.int .i64 p0.1, HV.int .i64 p0.2.1, slE eFromLabelTo p0.2.2] 0), (5, HV.int .i64 (Int.tmod (IntKind.wrap .i64 p1) 8)), (6, slE eStr x6.1), (7, HV.int .i64 x6.2), (8, HV.ar 8084 w11 eStr.k 0 ((a10.2).length)), (10, HV.int .i64 x14), (11, slE eStr x16.1), (12, HV.int .i64 x16.2), (13, HV.ar 8069 v28 eStr.k 0 ((a20.2 ++ x26.1).length)), (37, slE eInt x8), (38, HV.int .i64 ((x8).length : Int)), (39, HV.int .i64 a10.1), (51, slE eInt x18), (52, HV.int .i64 ((x18).length : Int)), (53, HV.int .i64 a20.1)], [(8069, v28, .arr eStr.k 9 (eStr.E (a20.2 ++ x26.1))), (8084, w11, .arr eStr.k 9 (eStr.E a10.2))]⟩) (AS.le_of ⟨rfl, rfl, rfl, rfl, rfl, rfl, rfl, rfl, rfl, rfl, rfl, rfl, rfl, rfl, rfl, trivial⟩ ⟨rfl, rfl, trivial⟩) ?_)))
                clear hK K
                refine AW.rg rfl fun K hK => ?_
                refine bv rfl (v_bin rfl rfl b_add) ?_
                refine mv rfl rfl ?_
                refine b_nil (hK _ ?_)
                clear hK K
                exact to_le (s' := ⟨[(2, HV.fptr [HV.int .i64 p0.1, HV.int .i64 p0.2.1, slE eFromLabelTo p0.2.2] 0), (5, HV.int .i64 (Int.tmod (IntKind.wrap .i64 p1) 8)), (6, slE eStr x6.1), (7, HV.int .i64 x6.2), (8, HV.ar 8084 w11 eStr.k 0 ((a10.2).length)), (10, HV.int .i64 x14), (11, slE eStr x16.1), (12, HV.int .i64 x16.2), (13, HV.ar 8069 v28 eStr.k 0 ((a20.2 ++ x26.1).length)), (37, slE eInt x8), (38, HV.int .i64 ((x8).length : Int)), (39, HV.int .i64 a10.1), (51, slE eInt x18), (52, HV.int .i64 ((x18).length : Int)), (53, HV.int .i64 (IntKind.wrap .i64 (a20.1 + 1)))], [(8069, v28, .arr eStr.k 9 (eStr.E (a20.2 ++ x26.1))), (8084, w11, .arr eStr.k 9 (eStr.E a10.2))]⟩) (AS.le_of ⟨rfl, rfl, rfl, rfl, rfl, rfl, rfl, rfl, rfl, rfl, rfl, rfl, rfl, rfl, rfl, trivial⟩ ⟨rfl, rfl, trivial⟩) ⟨(IntKind.wrap .i64 (a20.1 + 1), a20.2 ++ x26.1), v28, h, rfl⟩
            · have hc := of_decide_eq_false hc
              have h := ifF hc h
              refine AW.exit ?_
              exact to_le (s' := ⟨[(2, HV.fptr [HV.int .i64 p0.1, HV.int .i64 p0.2.1, slE eFromLabelTo p0.2.2] 0), (5, HV.int .i64 (Int.tmod (IntKind.wrap .i64 p1) 8)), (6, slE eStr x6.1), (7, HV.int .i64 x6.2), (8, HV.ar 8084 w11 eStr.k 0 ((a10.2).length)), (11, slE eStr x16.1), (12, HV.int .i64 x16.2), (13, HV.ar 8069 w21 eStr.k 0 ((a20.2).length)), (37, slE eInt x8), (38, HV.int .i64 ((x8).length : Int)), (39, HV.int .i64 a10.1)], [(8069, w21, .arr eStr.k 9 (eStr.E a20.2)), (8084, w11, .arr eStr.k 9 (eStr.E a10.2))]⟩) (AS.le_of ⟨rfl, rfl, rfl, rfl, rfl, rfl, rfl, rfl, rfl, rfl, rfl, trivial⟩ ⟨rfl, rfl, trivial⟩) ⟨a20.2, w21, h, rfl⟩
        · have hc := of_decide_eq_false hc
          have h := ifF hc h
          refine AW.exit ?_
          exact to_le (s' := ⟨[(6, slE eStr x6.1), (7, HV.int .i64 x6.2), (8, HV.ar 8084 w11 eStr.k 0 ((a10.2).length))], [(8084, w11, .arr eStr.k 9 (eStr.E a10.2))]⟩) (AS.le_of ⟨rfl, rfl, rfl, trivial⟩ ⟨rfl, trivial⟩) ⟨a10.2, w11, h, rfl⟩
  · refine AW.rg rfl fun K hK => ?_
    refine bv rfl (v_loadF ty24 rfl (l_litA rfl (Nat.le_of_ble_eq_true rfl) rfl)) ?_
    obtain ⟨x55, h56, h⟩ := bS h
    refine b_op rfl (o_call rfl rfl rfl rfl (ACallD.pure0 (w_law11_fine h56)) ?_)
    refine bv rfl (v_not rfl) ?_
    refine mv rfl rfl ?_
    by_cases hg59 : (!x55) = true
    · have h := ifT hg59 h
      refine b_F rfl rfl rfl rfl rfl hg59 ?_
      refine b_F rfl rfl rfl rfl rfl rfl ?_
      refine b_F rfl rfl rfl rfl rfl rfl ?_
      refine bv rfl (v_pickT rfl rfl rfl) ?_
      refine b_nil (hK _ ?_)
      clear hK K
      exact to_le (s' := ⟨[(2, HV.fptr [HV.int .i64 p0.1, HV.int .i64 p0.2.1, slE eFromLabelTo p0.2.2] 0), (5, HV.int .i64 (Int.tmod (IntKind.wrap .i64 p1) 8)), (28, HV.bool true)], []⟩) (AS.le_of ⟨rfl, rfl, rfl, trivial⟩ trivial) ⟨true, (), h, rfl⟩
    · have h := ifF hg59 h
      refine b_T rfl rfl rfl rfl (bF hg59) (o_val rfl (v_loadF ty24 rfl (l_litA rfl (Nat.le_of_ble_eq_true rfl) rfl)) ?_)
      refine b_T rfl rfl rfl rfl rfl (o_val rfl (mv_val rfl rfl).2 ?_)
      obtain ⟨x57, h58, h⟩ := bS h
      refine b_T rfl rfl rfl rfl rfl (o_call rfl rfl rfl rfl (ACallD.pure0 (w_ref11_Many h58)) ?_)
      refine bv rfl (v_pickF rfl rfl rfl) ?_
      refine b_nil (hK _ ?_)
      clear hK K
      exact to_le (s' := ⟨[(2, HV.fptr [HV.int .i64 p0.1, HV.int .i64 p0.2.1, slE eFromLabelTo p0.2.2] 0), (5, HV.int .i64 (Int.tmod (IntKind.wrap .i64 p1) 8)), (28, HV.bool x57)], []⟩) (AS.le_of ⟨rfl, rfl, rfl, trivial⟩ trivial) ⟨x57, (), h, rfl⟩

end Go.AW



namespace Go.AW
open Go Go.ChangeShapes Go.WideShapes Go.ChangeAt Go.RowKit

/-- of what was there nothing turns -/
def Kept (W W' : World) : Prop := W'.os = W.os ∧ W'.output = W.output ∧ W.heap.size ≤ W'.heap.size ∧ ∀ b : Nat, b < W.heap.size → W'.heap[b]? = W.heap[b]?

theorem Kept.frame {W W' : World} (h : Kept W W') (may : MemPlace → Prop) : W.keptBut W' may := by
  refine ⟨h.1, h.2.1, fun i hi => ?_⟩
  rw [h.2.2.2 i hi]
  cases W.heap[i]? with
  | none => rfl
  | some o => cases o with
    | cells c t fr => exact ⟨rfl, rfl, rfl, fun _ _ => rfl⟩
    | map es clock => exact .inr ⟨rfl, rfl⟩
    | _ => rfl

theorem Kept.frozen {W W' : World} (h : Kept W W') (a : Addr) (ha : a.block < W.heap.size) : W'.frozen? a = W.frozen? a := by
  simp only [World.frozen?, h.2.2.2 _ ha]

def Mu.zero : Mu := { nx := 0, loc := fun _ => none, held := fun _ => False }

theorem SR.zero (W : World) : SR W Mu.zero [] :=
  ⟨(fun _ _ _ h => by cases h), (fun _ _ _ h => by cases h), (fun _ _ h => by cases h), (fun _ _ _ _ _ h => by cases h), (fun _ h => h.elim)⟩

theorem calls_of_pure {P : Program} {f : FuncId} {args : List HV} {vs : List Value} {W : World} (hp : Pure P f args (· = .bool true)) (hr : RepL W Mu.zero args vs) :
    Calls P f vs.toArray W fun e W' => e = .returned (.bool true) ∧ Kept W W' := by
  refine (hp.2 Mu.zero W vs (SR.zero W) hr).mono ?_
  rintro e W' ⟨v, r, H', μ', rfl, ⟨rfl, _, _⟩, hs, hv, E⟩
  have hv' : v = .bool true := hv
  subst hv'
  exact ⟨rfl, E.os, E.output, E.size, fun b hb => E.keep b hb fun ⟨_, _, hl⟩ => by cases hl⟩

theorem post_of_kept {H : Type} {enc : TypeId × Value → H} {P : Program} {f : Func} {s : ChangeSpec} {apart fresh handsOn again : Bool} {W W' : World} {args : Array Value} {v : Value} {ds gs : List (DataW H)} {before pa pv : List MemPlace}
    (hW : DataW.Whole enc P f.params.toList s.vars apart W args.toList ds gs before)
    (hres : ∀ (b : Nat) (sp : Nat → Bool) (hd : Bool), DataW.TrodAll enc P W' b sp hd f.resultTypes.toList (v.resultList f.resultTypes.size) (s.fn H (ds ++ gs)).results [])
    (hargs : ∀ sp : Nat → Bool, (∀ p ∈ before, sp p.block = true) → DataW.TrodAll enc P W' 0 sp true f.params.toList args.toList (s.fn H (ds ++ gs)).args pa)
    (hvars : ∀ sp : Nat → Bool, (∀ p ∈ before, sp p.block = true) → DataW.TrodVars enc P W' sp s.vars (s.fn H (ds ++ gs)).vars pv)
    (hps : before = pa ++ pv) (hk : Kept W W')
    (hok : ∀ (j : Nat) (t : TypeId) (r : Value), f.resultTypes[j]? = some t → (v.resultList f.resultTypes.size)[j]? = some r → Value.okWide P W' .any 0 t r) :
    s.post enc P f apart fresh handsOn again W args v W' := by
  have hold : ∀ p ∈ before, (fun b => decide (b < W.heap.size)) p.block = true := fun p hp => by simpa using hW.lt p hp
  refine ⟨ds, gs, before, [], pa, pv, hW, hres _ _ _, hargs _ hold, hvars _ hold, World.keptBut_mono (fun p hp => ⟨hp, ?_⟩) (hk.frame (· ∈ before)), fun _ => ?_⟩
  · rw [hps, List.mem_append] at hp
    exact Or.inr hp
  · have hlt := hW.lt
    obtain ⟨_, _, _, _, _, hz, hn⟩ := hW
    refine ⟨hok, _, _, ([] ++ pa) ++ pv, ⟨[] ++ pa, pv, trodAll_append (hargs _ (fun _ _ => rfl)) (hres _ _ _), hvars _ (fun _ _ => rfl), rfl, ?_, ?_⟩, ?_⟩
    · intro b off hp
      have hp' : MemPlace.cell b off ∈ before := by rw [hps]; simpa using hp
      rw [hk.frozen _ (hlt _ hp')]
      exact hz b off hp'
    · intro ha
      have := hn ha
      rw [hps] at this
      simpa using this
    · intro p hp _
      rw [hps]
      simpa using hp
end Go.AW

/- Arguments: from what is read of them to what the layer says of them; and the law's end for any arguments. -/
namespace Go.AW
open Go Go.ChangeShapes Go.WideShapes Go.ChangeAt Go.RowKit

theorem rowAt_le {p : Program} {fits : TypeId → Bool} {d : Nat} {e : TypeId} {count off n : Nat} (h : rowAt p fits d e count off n = true) : off ≤ count * p.cellsOf e := by
  cases d with
  | zero => simp [rowAt] at h
  | succ d =>
    unfold rowAt at h
    simp only at h
    split at h
    · cases h
    · rename_i hs
      have hs' : 0 < p.cellsOf e := Nat.pos_of_ne_zero hs
      have hd := Nat.div_add_mod off (p.cellsOf e)
      rw [Nat.mul_comm] at hd
      simp only [Bool.or_eq_true, Bool.and_eq_true, beq_iff_eq, decide_eq_true_eq] at h
      rcases h with ⟨⟨h0, h1⟩, _⟩ | ⟨h1, _⟩
      · rw [← hd, h0, Nat.add_zero]
        exact Nat.mul_le_mul_right _ (by omega)
      · have hm := Nat.mod_lt off hs'
        have : (off / p.cellsOf e + 1) * p.cellsOf e ≤ count * p.cellsOf e := Nat.mul_le_mul_right _ h1
        rw [Nat.add_mul] at this
        omega

theorem liesAt_le {p : Program} {d : Nat} {e u : TypeId} {count off n : Nat} (h : liesAt p d e count off u n = true) : off ≤ count * p.cellsOf e := by
  induction d generalizing u n with
  | zero => simp [liesAt] at h
  | succ d ih =>
    unfold liesAt at h
    rw [Bool.or_eq_true] at h
    rcases h with h | h
    · exact rowAt_le h
    · split at h
      · exact ih h
      · cases h

/-- where an argument's slice lies -/
theorem has_seg {P : Program} {W : World} {r : Reach} {base : Nat} {a : Addr} {e : TypeId} {cap : Nat} (h : W.has P r base a e cap) {vs : List Value} (hc : ∀ i (hi : i < vs.length), W.cell? (a.add i) = some vs[i]) :
    ∃ b off, a = ⟨b, off, none⟩ ∧ Seg W b off vs := by
  obtain ⟨_, hsp, row, cells, hsh, hl⟩ := h
  obtain ⟨b, off, spot⟩ := a
  dsimp only at hsp hsh hl
  subst hsp
  refine ⟨b, off, rfl, ?_⟩
  unfold World.shape? at hsh
  split at hsh
  · rename_i cur e' fr hb
    simp only [Option.some.injEq, Prod.mk.injEq] at hsh
    obtain ⟨rfl, rfl⟩ := hsh
    have hoff : off ≤ cur.size := Nat.le_trans (liesAt_le hl) (Nat.div_mul_le_self _ _)
    have hget : ∀ i (hi : i < vs.length), cur.toList[off + i]? = some vs[i] := fun i hi => by
      have := hc i hi
      rw [add_plain] at this
      unfold World.cell? at this
      rw [hb] at this
      simpa using this
    refine ⟨cur, e', fr, cur.toList.take off, cur.toList.drop (off + vs.length), hb, ?_, by simp [hoff]⟩
    have hvs : vs = (cur.toList.drop off).take vs.length := by
      apply List.ext_getElem?
      intro i
      rcases Nat.lt_or_ge i vs.length with hi | hi
      · rw [List.getElem?_take_of_lt hi, List.getElem?_drop, hget i hi, List.getElem?_eq_getElem hi]
      · rw [List.getElem?_eq_none hi, List.getElem?_eq_none (by simp; omega)]
    have : vs ++ cur.toList.drop (off + vs.length) = cur.toList.drop off := by
      conv => lhs; arg 1; rw [hvs]
      rw [← List.drop_drop]
      exact List.take_append_drop _ _
    rw [List.append_assoc, this, List.take_append_drop]
  · cases hsh

theorem nown (b : Nat) : ¬ Mu.zero.owns b := fun h => h.elim (fun ⟨_, _, h⟩ => by cases h) id

/-- a number -/
theorem open_num {H : Type} {enc : TypeId × Value → H} {P : Program} {W : World} {base : Nat} {t : TypeId} {k : IntKind} {v : Value} {d : DataW H} {ps : List MemPlace} (ht : P.underlying t = some (.int k))
    (hval : Value.okWide P W .any base t v) (h : DataW.Trod enc P W 0 (fun _ => true) true t v d ps) : ∃ n : Int, (Lit.int k n).wf = true ∧ Rep W Mu.zero (.int k n) v := by
  obtain ⟨n, rfl, _, _, hw⟩ := open_int ht hval h
  exact ⟨n, hw, rfl, hw⟩

/-- a byte -/
theorem open_u8 {H : Type} {enc : TypeId × Value → H} {P : Program} {W : World} {base : Nat} {t : TypeId} {v : Value} {d : DataW H} {ps : List MemPlace} (ht : P.underlying t = some (.int .u8))
    (hval : Value.okWide P W .any base t v) (h : DataW.Trod enc P W 0 (fun _ => true) true t v d ps) : ∃ b : UInt8, Rep W Mu.zero (.int .u8 (b.toNat : Int)) v := by
  obtain ⟨n, hw, hr⟩ := open_num ht hval h
  have hw' : (0 : Int) ≤ n ∧ n ≤ 255 := by
    simp only [Lit.wf, Bool.and_eq_true, decide_eq_true_eq] at hw
    exact hw
  refine ⟨UInt8.ofNat n.toNat, ?_⟩
  have : ((UInt8.ofNat n.toNat).toNat : Int) = n := by
    rw [UInt8.toNat_ofNat']
    omega
  rw [this]
  exact hr

/-- the arguments read again -/
theorem trodAll_stays {H : Type} {enc : TypeId × Value → H} {P : Program} (hl : laidOutB P = true) {W W' : World} {sp : Nat → Bool} : ∀ {ts : List TypeId} {vs : List Value} {ds : List (DataW H)} {ps : List MemPlace},
    (ts.all fun t => P.readableRec t && decide (t < P.types.size)) = true → DataW.TrodAll enc P W 0 (fun _ => true) true ts vs ds ps → (∀ p ∈ ps, W.sameAt W' p) → (∀ p ∈ ps, sp p.block = true) → DataW.TrodAll enc P W' 0 sp true ts vs ds ps
  | [], vs, ds, ps, _, h, _, _ => by
    obtain ⟨rfl, rfl, rfl⟩ := trodAll_nil h
    exact trodAll_mk0
  | t :: ts, vs, ds, ps, ht, h, h1, h2 => by
    obtain ⟨v, vs', d, ds', p, q, rfl, rfl, rfl, h3, h4⟩ := trodAll_cons h
    simp only [List.all_cons, Bool.and_eq_true, decide_eq_true_eq] at ht
    exact trodAll_cons_mk (WideElems.Trod_stays hl ht.1.1 ht.1.2 h3 (fun x hx => h1 x (List.mem_append_left _ hx)) (fun x hx => h2 x (List.mem_append_left _ hx)))
      (trodAll_stays hl ht.2 h4 (fun x hx => h1 x (List.mem_append_right _ hx)) (fun x hx => h2 x (List.mem_append_right _ hx)))

theorem Kept.same {W W' : World} (h : Kept W W') (p : MemPlace) (hp : p.block < W.heap.size) : W.sameAt W' p := by
  cases p with
  | cell b off =>
    show W'.cell? ⟨b, off, none⟩ = W.cell? ⟨b, off, none⟩
    unfold World.cell?
    rw [h.2.2.2 b hp]
  | map b => exact h.2.2.2 b hp

/-- A LAW'S END: true, and the arguments read as they did. -/
theorem post_of_true {H : Type} {enc : TypeId × Value → H} {P : Program} {f : Func} {s : ChangeSpec} {apart fresh handsOn again : Bool} {W W' : World} {args : Array Value} {ds gs : List (DataW H)} {before : List MemPlace} {t : TypeId}
    (hl : laidOutB P = true) (hps : (f.params.toList.all fun t => P.readableRec t && decide (t < P.types.size)) = true) (hres : f.resultTypes = #[t]) (ht : P.underlying t = some .bool) (hv : s.vars = [])
    (hW : DataW.Whole enc P f.params.toList s.vars apart W args.toList ds gs before) (hk : Kept W W')
    (h1 : (s.fn H (ds ++ gs)).results = [.lit (.bool true)]) (h2 : (s.fn H (ds ++ gs)).args = ds) (h3 : (s.fn H (ds ++ gs)).vars = []) :
    s.post enc P f apart fresh handsOn again W args (.bool true) W' := by
  have hlt := hW.lt
  have hW' := hW
  obtain ⟨p, q, hA, hV, rfl, _, _⟩ := hW
  rw [hv] at hV
  obtain ⟨rfl, rfl⟩ := trodVars_none hV
  refine post_of_kept (pa := p) (pv := []) hW' (fun _ _ _ => ?_) (fun sp hsp => ?_) (fun _ _ => ?_) (by simp) hk (ok_one hres rfl (okWide_bool_mk ht _))
  · rw [hres, h1]
    exact trodAll_cons_mk (shut_bool ht _) trodAll_mk0
  · rw [h2]
    exact trodAll_stays hl hps hA (fun x hx => hk.same x (hlt x (by simpa using hx))) (fun x hx => hsp x (by simpa using hx))
  · rw [h3, hv]
    rfl
end Go.AW

/- Arguments that are graphs: what is read of them, and what the layer says of them. -/
namespace Go.AW
open Go Go.ChangeShapes Go.WideShapes Go.ChangeAt Go.RowKit

section
variable {H : Type} {enc : TypeId × Value → H} {P : Program} {W : World} {base : Nat}

theorem repL_app {μ : Mu} : ∀ {hs ks : List HV} {vs us : List Value}, RepL W μ hs vs → RepL W μ ks us → RepL W μ (hs ++ ks) (vs ++ us)
  | [], _, _, _, h, h' => by cases h; exact h'
  | _ :: _, _, _, _, ⟨x, xs, rfl, h1, h2⟩, h' => ⟨x, _, rfl, h1, repL_app h2 h'⟩

theorem add_adds (a : Addr) (i j : Nat) : (a.add i).add j = a.add (i + j) := by
  unfold Addr.add
  repeat' split
  all_goals simp_all [Nat.add_assoc]

theorem open_rows {α : Type} (c : EncL α) {fuel : Nat} {t e : TypeId} {cs : List Value} {x : DataW H × List MemPlace} (ht : P.underlying t = some (.slice e)) (hk : P.cellsOf e = c.k) (hone : ∀ x, ones (c.C x))
    (hel : ∀ n cs y, DataW.trod enc P W 0 (fun _ => true) true n e cs = some y → ∃ x : α, RepL W Mu.zero (c.C x) cs)
    (hhas : ∀ a len cap, cs = [.slice (some a) len cap] → W.has P .any base a e cap) (h : DataW.trod enc P W 0 (fun _ => true) true fuel t cs = some x) : ∃ l : List α, RepL W Mu.zero [slE c l] cs := by
  rcases DataW.trod_slice ht h with ⟨rfl, _⟩ | ⟨a, len, cap, elems, rest, n, _, rfl, _, _, hl, hm, hlen, hel', _, _⟩
  · refine ⟨[], _, _, rfl, ?_, rfl⟩
    show _ ∧ _
    exact ⟨(by rw [c.nil]; exact fun _ h => nomatch h), (by rw [c.nil]; simp), Nat.zero_le _, .inl ⟨rfl, rfl⟩⟩
  · have each : ∀ i, i < len → ∃ cs' x, W.cells? 0 (a.add (i * c.k)) c.k = some cs' ∧ RepL W Mu.zero (c.C x) cs' := fun i hi => by
      have h1 := hel' i hi
      rw [List.getElem?_eq_getElem (by omega), Option.bind_eq_some_iff, hk] at h1
      obtain ⟨cs', h2, h3⟩ := h1
      obtain ⟨x, hx⟩ := hel _ _ _ h3
      exact ⟨cs', x, h2, hx⟩
    have build : ∀ m, m ≤ len → ∃ (l : List α) (vs : List Value), l.length = m ∧ vs.length = m * c.k ∧ RepL W Mu.zero (c.E l) vs ∧ ∀ i (hi : i < vs.length), W.cell? (a.add i) = some vs[i] := by
      intro m
      induction m with
      | zero => exact fun _ => ⟨[], [], rfl, by simp, by rw [c.nil]; rfl, fun i hi => by simp at hi⟩
      | succ m ih =>
        intro hm
        obtain ⟨l, vs, h1, h2, h3, h4⟩ := ih (by omega)
        obtain ⟨cs', x, h5, h6⟩ := each m (by omega)
        obtain ⟨_, h7, h8⟩ := World.cells?_some h5
        refine ⟨l ++ [x], vs ++ cs', by simp [h1], by rw [List.length_append, h2, h7, Nat.succ_mul], by rw [c.append, c.one]; exact repL_app h3 h6, fun i hi => ?_⟩
        rcases Nat.lt_or_ge i vs.length with hi' | hi'
        · rw [List.getElem_append_left hi']; exact h4 i hi'
        · rw [List.getElem_append_right hi']
          rw [List.length_append] at hi
          have := h8 (i - vs.length) (by omega)
          rw [add_adds, h2, show m * c.k + (i - m * c.k) = i by omega] at this
          rw [this, List.getElem?_eq_getElem (by omega)]
          simp only [h2]
    obtain ⟨l, vs, h1, h2, h3, h4⟩ := build len (Nat.le_refl _)
    obtain ⟨b, off, rfl, hseg⟩ := has_seg (hhas _ _ _ rfl) h4
    refine ⟨l, _, _, rfl, ?_, rfl⟩
    show _ ∧ _
    refine ⟨fun d hd => ?_, c.len l, by omega, .inr ⟨b, off, cap, vs, by rw [h1], by omega, nown b, hseg, h3⟩⟩
    rw [c.hE] at hd
    obtain ⟨x, _, hdx⟩ := List.mem_flatMap.1 hd
    exact hone x d hdx

theorem open3 {t : TypeId} {f0 f1 f2 : Field} {fuel : Nat} {cs : List Value} {x : DataW H × List MemPlace} (ht : P.underlying t = some (.struct #[f0, f1, f2])) (o0 : f0.offset = 0) (o1 : f1.offset = 1) (o2 : f2.offset = 2) (c : P.cellsOf t = 3)
    (c0 : P.cellsOf f0.type = 1) (c1 : P.cellsOf f1.type = 1) (c2 : P.cellsOf f2.type = 1) (h : DataW.trod enc P W 0 (fun _ => true) true fuel t cs = some x) :
    ∃ v0 v1 v2 y0 y1 y2 n, cs = [v0, v1, v2] ∧ DataW.trod enc P W 0 (fun _ => true) true n f0.type [v0] = some y0 ∧ DataW.trod enc P W 0 (fun _ => true) true n f1.type [v1] = some y1 ∧ DataW.trod enc P W 0 (fun _ => true) true n f2.type [v2] = some y2 := by
  obtain ⟨xs, n, _, rfl, hl, hlen, hf⟩ := DataW.trod_struct ht h
  rw [c] at hl
  match cs, hl with
  | [v0, v1, v2], _ =>
    match xs, hlen with
    | [y0, y1, y2], _ =>
      refine ⟨v0, v1, v2, y0, y1, y2, n, rfl, ?_, ?_, ?_⟩
      · have := hf 0 f0 rfl; rw [o0, c0] at this; exact this
      · have := hf 1 f1 rfl; rw [o1, c1] at this; exact this
      · have := hf 2 f2 rfl; rw [o2, c2] at this; exact this

theorem rep_i64 {n : Int} {ti : TypeId} {m : Nat} {v : Value} {y : DataW H × List MemPlace} (hti : P.underlying ti = some (.int .i64)) (h : DataW.trod enc P W 0 (fun _ => true) true m ti [v] = some y) : ∃ n : Int, Rep W Mu.zero (.int .i64 n) v := by
  obtain ⟨n, hv, _, hw⟩ := DataW.trod_int hti h
  cases hv
  exact ⟨n, rfl, hw⟩

/-- a graph -/
theorem open_graph {t ti ts te : TypeId} {f0 f1 f2 e0 e1 e2 : Field} {v : Value} {d : DataW H} {ps : List MemPlace} (ht : P.underlying t = some (.struct #[f0, f1, f2])) (o : f0.offset = 0 ∧ f1.offset = 1 ∧ f2.offset = 2) (y : f0.type = ti ∧ f1.type = ti ∧ f2.type = ts)
    (c : P.cellsOf t = 3) (ci : P.cellsOf ti = 1) (cs : P.cellsOf ts = 1) (ct : P.cellTypes P.depth t = some [ti, ti, ts]) (hti : P.underlying ti = some (.int .i64)) (hts : P.underlying ts = some (.slice te))
    (hte : P.underlying te = some (.struct #[e0, e1, e2])) (oe : e0.offset = 0 ∧ e1.offset = 1 ∧ e2.offset = 2) (ye : e0.type = ti ∧ e1.type = ti ∧ e2.type = ti) (ce : P.cellsOf te = 3)
    (hval : Value.okWide P W .any base t v) (h : DataW.Trod enc P W 0 (fun _ => true) true t v d ps) : ∃ g : TLabelsStatesEdges, Rep W Mu.zero (.agg [.int .i64 g.1, .int .i64 g.2.1, slE eFromLabelTo g.2.2]) v := by
  obtain ⟨y0, y1, y2⟩ := y
  obtain ⟨z0, z1, z2⟩ := ye
  simp only [Value.okWide, ht] at hval
  obtain ⟨arr, rfl, _, hrow⟩ := hval
  obtain ⟨fuel, hf⟩ := h
  obtain ⟨v0, v1, v2, a0, a1, a2, n, hcs, h0, h1, h2⟩ := open3 ht o.1 o.2.1 o.2.2 c (by rw [y0]; exact ci) (by rw [y1]; exact ci) (by rw [y2]; exact cs) hf
  have harr : arr = #[v0, v1, v2] := by
    have : arr.toList = [v0, v1, v2] := hcs
    cases arr
    simp_all
  subst harr
  rw [y0] at h0
  rw [y1] at h1
  rw [y2] at h2
  obtain ⟨l, r0⟩ := rep_i64 (n := 0) hti h0
  obtain ⟨s, r1⟩ := rep_i64 (n := 0) hti h1
  obtain ⟨es, _, _, r2, r2', r2''⟩ := open_rows (base := base) eFromLabelTo hts ce (fun x d hd => by
      have hd : d ∈ [HV.int .i64 x.1, HV.int .i64 x.2.1, HV.int .i64 x.2.2] := hd
      simp only [List.mem_cons, List.not_mem_nil, or_false] at hd
      rcases hd with rfl | rfl | rfl <;> rfl) (fun m cs' y hy => by
      obtain ⟨w0, w1, w2, b0, b1, b2, n', rfl, k0, k1, k2⟩ := open3 hte oe.1 oe.2.1 oe.2.2 ce (by rw [z0]; exact ci) (by rw [z1]; exact ci) (by rw [z2]; exact ci) hy
      rw [z0] at k0
      rw [z1] at k1
      rw [z2] at k2
      obtain ⟨p0, q0⟩ := rep_i64 (n := 0) hti k0
      obtain ⟨p1, q1⟩ := rep_i64 (n := 0) hti k1
      obtain ⟨p2, q2⟩ := rep_i64 (n := 0) hti k2
      exact ⟨(p0, p1, p2), _, _, rfl, q0, _, _, rfl, q1, _, _, rfl, q2, rfl⟩) (fun a len cap e => by
      cases e
      obtain ⟨tys, ht1, _, hcell⟩ := hrow
      rw [ct] at ht1
      cases ht1
      obtain ⟨u, hu, hok⟩ := hcell 2 (.slice (some a) len cap) rfl
      cases hu
      simp only [Cell.okWide, hts, Cell.ok] at hok
      exact hok.2.2) h2
  cases r2
  refine ⟨(l, s, es), ?_⟩
  show _ ∧ _
  refine ⟨fun d hd => ?_, _, rfl, _, _, rfl, r0, _, _, rfl, r1, _, _, rfl, r2', rfl⟩
  simp only [List.mem_cons, List.not_mem_nil, or_false] at hd
  rcases hd with rfl | rfl | rfl <;> rfl
end
end Go.AW

/- Arguments that are lists of numbers. -/
namespace Go.AW
open Go Go.ChangeShapes Go.WideShapes Go.ChangeAt Go.RowKit
section
variable {H : Type} {enc : TypeId × Value → H} {P : Program} {W : World} {base : Nat}
end
end Go.AW

namespace Go.Proofs.Ytccnafddjjamoaa
open Go Go.AW Go.ChangeShapes Go.WideShapes Go.ChangeAt Go.RowKit Go.ChangeMaps
set_option linter.unusedVariables false

theorem ownM : ownKnob Try.prog.godebug = none := by kernel_rfl
theorem laidB : laidOutB Try.prog = true := by kernel_rfl

theorem wLaw (a0 : TLabelsStatesEdges) (a1 : UInt8) : Pure Try.prog 8 [HV.agg [HV.int .i64 a0.1, HV.int .i64 a0.2.1, slE eFromLabelTo a0.2.2], .int .u8 a1.toNat] (· = .bool true) := w_law11_LanguageParts (law_parts11 a0 a1.toNat (by omega) (by have := a1.toNat_lt; omega))

set_option maxRecDepth 100000 in
theorem liftedL (os : Os) (started : os.Started) (H : Type) (enc : TypeId × Value → H) :
    ReturnsInHanded {} Try.checked os 8 .any (Rows.languagePartsSpec.pre6 enc Try.prog Try.f8 Rows.languagePartsRow.domain false) (Rows.languagePartsSpec.post enc Try.prog Try.f8 false true false false) := by
  refine returnsInHanded_of_change (C := Try.checked) ownM started (by kernel_rfl) Try.func8
    (ChangeSpec.witness6 (enc := enc) (C := Try.checked) false ⟨#[], #[.agg #[.int .i64 0, .int .i64 0, .slice none 0 0], .int .u8 0], []⟩ 8 (by kernel_rfl) (by kernel_rfl) (by kernel_rfl) (by kernel_rfl)) ?_
  intro W base args ds gs before hval0 hW hcnd _
  have hval : ∀ (j : Nat) t v, Try.f8.params[j]? = some t → args[j]? = some v → Value.okWide Try.prog W .any base t v := hval0
  have hW' := hW
  obtain ⟨p, q, hA0, hV, rfl, hfz, hnd⟩ := hW
  have hA : DataW.TrodAll enc Try.prog W 0 (fun _ => true) true Try.f8.params.toList args.toList ds p := hA0
  rw [Try.params8] at hA hval
  obtain ⟨v0, vs0, d0, ds0, p0, q0, hargs, rfl, rfl, h0, r0⟩ := trodAll_cons hA
  obtain ⟨v1, vs1, d1, ds1, p1, q1, rfl, rfl, rfl, h1, r1⟩ := trodAll_cons r0
  obtain ⟨rfl, rfl, rfl⟩ := trodAll_nil r1
  obtain rfl : args = #[v0, v1] := by cases args; simp_all
  obtain ⟨rfl, rfl⟩ := trodVars_none hV
  obtain ⟨a0, hr0⟩ := open_graph Try.underlying24 ⟨rfl, rfl, rfl⟩ ⟨rfl, rfl, rfl⟩ (by kernel_rfl) (by kernel_rfl) (by kernel_rfl) (by kernel_rfl) Try.underlying3 Try.underlying22 Try.underlying66 ⟨rfl, rfl, rfl⟩ ⟨rfl, rfl, rfl⟩ (by kernel_rfl) (hval 0 24 v0 rfl rfl) h0
  obtain ⟨a1, hr1⟩ := open_u8 Try.underlying5 (hval 1 5 v1 rfl rfl) h1
  refine (calls_of_pure (vs := [v0, v1]) (wLaw a0 a1) ⟨_, _, rfl, hr0, _, _, rfl, hr1, rfl⟩).mono fun e W' ⟨he, hk⟩ => ?_
  subst he
  exact ⟨_, rfl, post_of_true laidB (by kernel_rfl) rfl Try.underlying4 rfl hW' hk rfl rfl rfl⟩

theorem languagePartsProved : Rows.LanguagePartsSaid :=
  OpenClaim.holds_of_wide 8 Try.f8 rfl rfl rfl rfl rfl rfl rfl ⟨rfl, rfl, rfl, rfl, rfl⟩ rfl rfl rfl rfl rfl (by kernel_rfl) Try.func8 (by kernel_rfl)
    (of_decide_eq_true (by kernel_rfl)) (by unfold Func.isWrapper; first | (rw [if_pos (by decide +kernel)]; kernel_rfl) | (rw [if_neg (by decide +kernel)]; exact ⟨rfl, rfl⟩))
    (fun os started H enc _ => liftedL os started H enc)
#print axioms languagePartsProved
end Go.Proofs.Ytccnafddjjamoaa
