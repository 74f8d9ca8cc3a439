/- SubsetWords: for every input the law's function returns true, and the input reads as it did. The package-level variables that the row lists start as the program lays them; the card ties that to the text. -/
import Derived.Test.YtibfjjmglgabdaaGreatDoorWa5
import Derived.ChangeMaps5
import Derived.Handy
import Derived.Lay
import Derived.OpenShut
import Derived.ProofKit
import Derived.SevenTiedAt
import Derived.SliceStrings
import Derived.Test.YtibfjjmglgabdaaGreatDoorCards
import Derived.Test.YtibfjjmglgabdaaGreatDoorRows
import Derived.Test.YtibfjjmglgabdaaGreatDoorTie
import Derived.WalkKit
import Derived.WideKeyArgs
/- The words of a length: the program's list, the reference's list, and their order. -/
namespace Go.AW
open Go
set_option linter.unusedSimpArgs false
set_option linter.unusedVariables false

theorem letters_len : letters.length = 16 := rfl
theorem idx_letter {i : Nat} (h : i < letters.length) : Lib.indexByte letters letters[i] = (i : Int) := by
  have : ∀ j : Fin 16, Lib.indexByte letters (letters[j.1]'j.2) = (j.1 : Int) := by decide
  exact this ⟨i, h⟩
theorem byte_back (c : UInt8) : ((c.toNat : Int).toNat.toUInt8) = c := by simp

/-- the letters of a graph -/
def lets (g : Gr) : List UInt8 := letters.take g.1.toNat

section
variable {g : Gr}
theorem lets_len (hv : VG g) (h16 : g.1 ≤ 16) : (lets g).length = g.1.toNat := by
  have := hv.l1
  rw [lets, List.length_take, letters_len]; omega
theorem lstep_eq (hv : VG g) {a : List Int} (ha : SetOk g a) {i : Nat} (h : i < letters.length) (hi : (i : Int) < g.1) : m_language_step g a ((letters[i]).toNat : Int) = some (stepL g a i) := by
  unfold m_language_step m_strings_IndexByte
  simp only [byte_back, Option.bind_some]
  have e : Lib.indexByte [48, 49, 50, 51, 52, 53, 54, 55, 56, 57, 97, 98, 99, 100, 101, 102] letters[i] = (i : Int) := idx_letter h
  rw [e, Step_eq hv ha (by omega) hi]
  rfl
theorem stpM_eq (hv : VG g) {a : List Int} (ha : SetOk g a) {i : Nat} (h : i < letters.length) (hi : (i : Int) < g.1) : stpM g a letters[i] = stepL g a i := by
  unfold stpM; rw [lstep_eq hv ha h hi]; rfl
theorem mem_lets {c : UInt8} (h : c ∈ letters.take g.1.toNat) : ∃ (i : Nat) (hi : i < letters.length), (i : Int) < g.1 ∧ letters[i] = c := by
  obtain ⟨i, hi, rfl⟩ := List.mem_take_iff_getElem.1 h
  have h1 : i < g.1.toNat := by omega
  exact ⟨i, by omega, by omega, rfl⟩
theorem stpM_ok (hv : VG g) {a : List Int} {c : UInt8} (ha : SetOk g a) (hc : c ∈ letters.take g.1.toNat) : SetOk g (stpM g a c) := by
  obtain ⟨i, hi, hg, rfl⟩ := mem_lets hc
  rw [stpM_eq hv ha hi hg]
  exact stepL_ok g a i
theorem stepsOk (hv : VG g) {set : List Int} (hs : SetOk g set) : StepsOk g set := ⟨SetOk g, hs, fun a c ha hc => by
  obtain ⟨i, hi, hg, rfl⟩ := mem_lets hc
  exact ⟨_, lstep_eq hv ha hi hg, stepL_ok g a i⟩⟩

/-- the words of a length of paths from a set, each with its ends -/
noncomputable def LV (g : Gr) (set : List Int) (n : Nat) : List WS := lvl (stpM g) (letters.take g.1.toNat) set n
noncomputable def OKL (g : Gr) (set : List Int) (n : Nat) : Bool := okLvl (stpM g) (letters.take g.1.toNat) set n

theorem list_eq (hv : VG g) (h16 : g.1 ≤ 16) {set : List Int} (hs : SetOk g set) {n : Nat} : m_language_list g set (n : Int) = some (if OKL g set n = true then (LV g set n, true) else ([], false)) := by
  unfold m_language_list
  have := hv.l1
  rw [if_pos ⟨by omega, h16, by omega, stepsOk hv hs⟩]
  rfl
theorem LV_set (hv : VG g) {set : List Int} (hs : SetOk g set) {n : Nat} {x : WS} (h : x ∈ LV g set n) : SetOk g x.2 := lvl_all hs (fun a c ha hc => stpM_ok hv ha hc) n x h
theorem LV_len {set : List Int} {n : Nat} {x : WS} (h : x ∈ LV g set n) : x.1.length = n := lvl_len n x h
theorem OKL_iff {set : List Int} {n : Nat} : OKL g set n = true ↔ ∀ j, 1 ≤ j → j ≤ n → (LV g set j).length ≤ 4096 := okLvl_iff

theorem ext1_len (stp : List Int → UInt8 → List Int) (cs : List UInt8) (x : WS) : (ext1 stp cs x).length ≤ cs.length := List.length_filterMap_le _ _
theorem flat_len (stp : List Int → UInt8 → List Int) (cs : List UInt8) : ∀ l : List WS, (l.flatMap (ext1 stp cs)).length ≤ l.length * cs.length
  | [] => by simp
  | x :: l => by
    have h1 := flat_len stp cs l
    have h2 := ext1_len stp cs x
    rw [List.flatMap_cons, List.length_append, List.length_cons, Nat.succ_mul]
    omega

theorem one_letter {k : Nat} (h : k < letters.length) : (letters.take (k + 1)).drop k = [letters[k]] := by
  rw [List.take_add_one, List.getElem?_eq_getElem h, List.drop_left' (by rw [List.length_take]; omega)]
  rfl

theorem grow_eq (hv : VG g) (h16 : g.1 ≤ 16) {l : List WS} (hl : l.length ≤ 4096) (hs : ∀ x ∈ l, SetOk g x.2) (hw : ∀ x ∈ l, x.1.length ≤ 1000000) : m_ref11_grow g l = some (l.flatMap (ext1 (stpM g) (letters.take g.1.toNat))) := by
  have h1 := hv.l1
  obtain ⟨L, hL⟩ := Int.eq_ofNat_of_zero_le (show 0 ≤ g.1 by omega)
  have hL16 : L ≤ letters.length := by rw [letters_len]; omega
  have htn : g.1.toNat = L := by omega
  unfold m_ref11_grow
  rw [htn]
  have hb : ∀ i, ((l.take i).flatMap (ext1 (stpM g) (letters.take L))).length ≤ 65536 := fun i => by
    have h2 := flat_len (stpM g) (letters.take L) (l.take i)
    have h3 : (l.take i).length ≤ 4096 := by rw [List.length_take]; omega
    have h4 : (letters.take L).length ≤ 16 := by rw [List.length_take, letters_len]; omega
    exact Nat.le_trans h2 (Nat.le_trans (Nat.mul_le_mul h3 h4) (by decide))
  refine bindL (loop_is (fun i => ((i : Int), (l.take i).flatMap (ext1 (stpM g) (letters.take L)))) l.length (l.flatMap (ext1 (stpM g) (letters.take L))) (fun i hi => ?_) ?_ (by simp)) rfl
  · dsimp only
    rw [if_pos (lt_int hi)]
    have hsx := hs _ (List.getElem_mem hi)
    have hlx := setOk_len hv hsx
    refine bindL (loop_is (fun k => ((k : Int), (l.take i).flatMap (ext1 (stpM g) (letters.take L)) ++ ext1 (stpM g) (letters.take k) l[i])) L ((l.take i).flatMap (ext1 (stpM g) (letters.take L)) ++ ext1 (stpM g) (letters.take L) l[i]) (fun k hk => ?_) ?_ (by simp [ext1])) ?_
    · dsimp only
      have hk16 : k < letters.length := by omega
      have hk16' : k < 16 := hk16
      rw [if_pos (by omega), ix hi]
      simp only [jp, Option.bind_some, refStep_eq hv (show (l[i]).2.length ≤ 9223372036854775807 by omega), nx (by omega : L ≤ _) hk]
      have hst := stpM_eq hv hsx hk16 (by omega : (k : Int) < g.1)
      have htk := ext1_take (stp := stpM g) (cs := letters) l[i] hk16
      rw [hst] at htk
      by_cases he : stepL g (l[i]).2 (k : Int) = []
      · rw [if_neg (by rw [he]; simp)]
        rw [htk, if_pos he, List.append_nil]
      · have hpos : 0 < ((stepL g (l[i]).2 (k : Int)).length : Int) := by
          have := List.length_pos_iff.2 he
          omega
        rw [if_pos hpos]
        have e16 : ([48, 49, 50, 51, 52, 53, 54, 55, 56, 57, 97, 98, 99, 100, 101, 102] : List UInt8) = letters := rfl
        rw [e16, if_pos (by rw [letters_len]; omega)]
        simp only [Int.toNat_natCast, one_letter hk16]
        have hwl := hw _ (List.getElem_mem hi)
        have he1 := ext1_len (stpM g) (letters.take k) l[i]
        have he2 : (letters.take k).length ≤ 16 := by rw [List.length_take, letters_len]; omega
        have hbi := hb i
        rw [if_pos (by simp only [List.length_cons, List.length_nil, maxLen]; omega), if_pos (fits_le (by simp only [List.length_append, List.length_cons, List.length_nil]; omega) (by simp only [List.length_append, List.length_cons, List.length_nil]; omega))]
        rw [htk, if_neg he, List.append_assoc]
    · dsimp only
      rw [if_neg (by omega)]
    · simp only [nx (by omega : l.length ≤ _) hi]
      rw [List.take_add_one, List.getElem?_eq_getElem hi]
      simp only [Option.toList_some, List.flatMap_append, List.flatMap_cons, List.flatMap_nil, List.append_nil]
  · dsimp only
    rw [if_neg (not_lt_int _), List.take_length]

theorem LV_zero (g : Gr) (set : List Int) : (LV g set 0).length ≤ 1 := by
  unfold LV lvl; split <;> simp

theorem refwords_eq (hv : VG g) (h16 : g.1 ≤ 16) {set : List Int} (hs : SetOk g set) {n : Nat} (hn : n ≤ 4096) : m_ref11_words g set n = some (if OKL g set n = true then (LV g set n, 0) else ([], 4)) := by
  unfold m_ref11_words
  simp only [jp]
  have key : ∀ (l0 : List WS), l0 = LV g set 0 → lpO (loopW (S := List TWordEnds × Int) (X := Ou (List TWordEnds) (List TWordEnds × Int)) (fun a5 =>
      if a5.2 < (n : Int) then
        if decide (0 < ((a5.1).length : Int)) = true then
          (m_ref11_grow g a5.1).bind fun x12 => if 4096 < ((x12).length : Int) then some (Stp.exit (Ou.ret ([], 4))) else some (Stp.next (x12, IntKind.wrap .i64 (a5.2 + 1)))
        else some (Stp.exit (Ou.go a5.1))
      else if false = true then
          (m_ref11_grow g a5.1).bind fun x12 => if 4096 < ((x12).length : Int) then some (Stp.exit (Ou.ret ([], 4))) else some (Stp.next (x12, IntKind.wrap .i64 (a5.2 + 1)))
        else some (Stp.exit (Ou.go a5.1))) (l0, 0)) (fun a15 => some (a15, 0)) some = some (if OKL g set n = true then (LV g set n, 0) else ([], 4)) := by
    intro l0 hl0
    have hx : ∃ x, loopW (S := List TWordEnds × Int) (X := Ou (List TWordEnds) (List TWordEnds × Int)) (fun a5 =>
      if a5.2 < (n : Int) then
        if decide (0 < ((a5.1).length : Int)) = true then
          (m_ref11_grow g a5.1).bind fun x12 => if 4096 < ((x12).length : Int) then some (Stp.exit (Ou.ret ([], 4))) else some (Stp.next (x12, IntKind.wrap .i64 (a5.2 + 1)))
        else some (Stp.exit (Ou.go a5.1))
      else if false = true then
          (m_ref11_grow g a5.1).bind fun x12 => if 4096 < ((x12).length : Int) then some (Stp.exit (Ou.ret ([], 4))) else some (Stp.next (x12, IntKind.wrap .i64 (a5.2 + 1)))
        else some (Stp.exit (Ou.go a5.1))) (l0, 0) = some x ∧ ((x = .go (LV g set n) ∧ OKL g set n = true) ∨ (x = .ret ([], 4) ∧ ¬ OKL g set n = true)) := by
      refine loopN n (fun i s => s = (LV g set i, (i : Int)) ∧ ∀ j, 1 ≤ j → j ≤ i → (LV g set j).length ≤ 4096) ?_ ?_ 0 _ (Nat.zero_le _) ⟨by rw [hl0]; rfl, fun j h1 h2 => by omega⟩
      · rintro i s hi ⟨rfl, hj⟩
        dsimp only
        rw [if_pos (lt_int hi)]
        by_cases h0 : LV g set i = []
        · rw [if_neg (by rw [h0]; simp)]
          have hnil : ∀ j, i ≤ j → LV g set j = [] := fun j h => lvl_nil h0 h
          refine .inr ⟨_, rfl, .inl ⟨by rw [h0, hnil n (by omega)], OKL_iff.2 fun j h1 h2 => ?_⟩⟩
          by_cases h : j ≤ i
          · exact hj j h1 h
          · rw [hnil j (by omega)]; simp
        · have hpos : 0 < (LV g set i).length := List.length_pos_iff.2 h0
          rw [if_pos (decide_eq_true (by omega))]
          have hl : (LV g set i).length ≤ 4096 := by
            by_cases hi0 : i = 0
            · subst hi0; have := LV_zero g set; omega
            · exact hj i (by omega) (Nat.le_refl _)
          rw [grow_eq hv h16 hl (fun x hx => LV_set hv hs hx) (fun x hx => by rw [LV_len hx]; omega)]
          simp only [Option.bind_some]
          have e : (LV g set i).flatMap (ext1 (stpM g) (letters.take g.1.toNat)) = LV g set (i + 1) := rfl
          rw [e]
          by_cases h4 : 4096 < (LV g set (i + 1)).length
          · rw [if_pos (by omega)]
            refine .inr ⟨_, rfl, .inr ⟨rfl, fun hok => ?_⟩⟩
            have := OKL_iff.1 hok (i + 1) (by omega) (by omega)
            omega
          · rw [if_neg (by omega)]
            refine .inl ⟨_, rfl, by rw [nx (by omega : n ≤ _) hi], fun j h1 h2 => ?_⟩
            by_cases h : j ≤ i
            · exact hj j h1 h
            · have : j = i + 1 := by omega
              subst this; omega
      · rintro s ⟨rfl, hj⟩
        dsimp only
        rw [if_neg (not_lt_int _), if_neg (by simp)]
        exact ⟨_, rfl, .inl ⟨rfl, OKL_iff.2 hj⟩⟩
    obtain ⟨x, hx, ⟨rfl, hok⟩ | ⟨rfl, hok⟩⟩ := hx
    · rw [hx, if_pos hok]; rfl
    · rw [hx, if_neg hok]; rfl
  by_cases h0 : set = []
  · rw [if_neg (by rw [h0]; simp)]
    exact key [] (by unfold LV lvl; rw [if_pos h0])
  · have hpos : 0 < set.length := List.length_pos_iff.2 h0
    rw [if_pos (by omega), if_pos (fits_le (by simp) (by simp))]
    exact key _ (by unfold LV lvl; rw [if_neg h0]; rfl)

theorem texts_eq {l : List WS} (hl : l.length ≤ 1000000) : m_ref11_texts l = some (l.map Prod.fst) := by
  unfold m_ref11_texts
  refine bindL (loop_is (fun i => ((i : Int), (l.take i).map Prod.fst)) l.length (l.map Prod.fst) (fun i hi => ?_) ?_ (by simp)) rfl
  · dsimp only
    rw [if_pos (lt_int hi), ix hi]
    simp only [Option.bind_some]
    rw [if_pos (fits_le (by simp; omega) (by simp; omega)), nx (by omega : l.length ≤ _) hi, List.take_add_one, List.getElem?_eq_getElem hi, List.map_append]
    rfl
  · dsimp only
    rw [if_neg (not_lt_int _), List.take_length]

/-! ### order -/
theorem u8_irr (a : UInt8) : ¬ a < a := UInt8.lt_irrefl a
theorem app_lt {u v : List UInt8} : ∀ (w : List UInt8), u < v → w ++ u < w ++ v
  | [], h => h
  | a :: w, h => List.cons_lt_cons_iff.2 (.inr ⟨rfl, app_lt w h⟩)
theorem lt_app : ∀ {u v : List UInt8} (x y : List UInt8), u.length = v.length → u < v → u ++ x < v ++ y
  | [], [], _, _, _, h => by cases h
  | [], _ :: _, _, _, hl, _ => by cases hl
  | _ :: _, [], _, _, hl, _ => by cases hl
  | a :: u, b :: v, x, y, hl, h => by
    rcases List.cons_lt_cons_iff.1 h with h1 | ⟨h0, h1⟩
    · exact List.cons_lt_cons_iff.2 (.inl h1)
    · exact List.cons_lt_cons_iff.2 (.inr ⟨h0, lt_app x y (by simpa using hl) h1⟩)
theorem lt_irr : ∀ (u : List UInt8), ¬ u < u
  | [], h => by cases h
  | a :: u, h => by
    rcases List.cons_lt_cons_iff.1 h with h | ⟨_, h⟩
    · exact u8_irr a h
    · exact lt_irr u h
theorem lvl_asc {stp : List Int → UInt8 → List Int} {cs : List UInt8} {set : List Int} (hcs : cs.Pairwise (· < ·)) : ∀ i, (lvl stp cs set i).Pairwise (fun x y => x.1 < y.1)
  | 0 => by simp only [lvl]; split <;> simp
  | i + 1 => by
    simp only [lvl]
    rw [List.pairwise_flatMap]
    refine ⟨fun x hx => ?_, (lvl_asc hcs i).imp_of_mem fun {x y} hx hy hxy a ha b hb => ?_⟩
    · unfold ext1
      rw [List.pairwise_filterMap]
      refine hcs.imp fun {c d} hcd y hy z hz => ?_
      split at hy
      · cases hy
      · split at hz
        · cases hz
        · cases hy; cases hz
          exact app_lt _ (List.cons_lt_cons_iff.2 (.inl hcd))
    · obtain ⟨c, _, _, rfl⟩ := mem_ext1.1 ha
      obtain ⟨d, _, _, rfl⟩ := mem_ext1.1 hb
      exact lt_app _ _ (by rw [lvl_len i x hx, lvl_len i y hy]) hxy
theorem letters_asc : letters.Pairwise (· < ·) := by decide
theorem LV_asc (g : Gr) (set : List Int) (n : Nat) : ((LV g set n).map Prod.fst).Pairwise (· < ·) := by
  rw [List.pairwise_map]
  exact lvl_asc (letters_asc.sublist (List.take_sublist _ _)) n
theorem sortS_id {l : List (List UInt8)} (h : l.Pairwise (· < ·)) : sortS l = l := sortS_eq (List.Perm.refl l) (h.imp fun h => decide_eq_true (List.le_of_lt h))

/-! ### Words -/
theorem lengths_ref (g : Gr) (n : Int) : m_language_lengths g n = m_ref11_checkNumber g n := by
  unfold m_language_lengths m_ref11_checkNumber m_language_check m_ref11_check
  rw [Check_ref]

theorem checkNumber_tot (g : Gr) (n : Int) : ∃ e, m_ref11_checkNumber g n = some e ∧ (e = 0 ↔ VG g ∧ g.1 ≤ 16 ∧ 0 ≤ n ∧ n ≤ 4096) := by
  obtain ⟨e, he, hz⟩ := Check_tot g
  unfold m_ref11_checkNumber m_ref11_check
  rw [he]
  simp only [Option.bind_some, jp]
  by_cases h0 : e = 0
  · have hv := hz.1 h0
    rw [if_neg (by omega : ¬ e ≠ 0)]
    by_cases h1 : 16 < g.1
    · exact ⟨12, by simp [h1], by simp; omega⟩
    · simp only [if_neg h1, Option.bind_some, ne_eq, not_true_eq_false, if_false]
      by_cases h2 : n < 0
      · exact ⟨2, by simp [h2], by simp; omega⟩
      · by_cases h3 : 4096 < n
        · exact ⟨2, by simp [h2, h3], by simp; omega⟩
        · exact ⟨0, by simp [h2, h3], by simp [hv]; omega⟩
  · have hv : ¬ VG g := fun v => h0 (hz.2 v)
    rw [if_pos h0]
    exact ⟨1, by simp, by simp [hv]⟩

/-- the words of a length -/
noncomputable def wordsE (g : Gr) (n : Int) : List (List UInt8) := (LV g (upto g.2.1) n.toNat).map Prod.fst

theorem Words_both (g : Gr) (n : Int) : ∃ r, m_language_Words g n = some r ∧ m_ref11_Words g n = some r ∧ (r.2 = 0 → (VG g ∧ g.1 ≤ 16 ∧ 0 ≤ n ∧ n ≤ 4096 ∧ OKL g (upto g.2.1) n.toNat = true) ∧ r.1 = wordsE g n) ∧
    (VG g → g.1 ≤ 16 → 0 ≤ n → n ≤ 4096 → OKL g (upto g.2.1) n.toNat = true → r.2 = 0) := by
  obtain ⟨e, he, hz⟩ := checkNumber_tot g n
  unfold m_language_Words m_ref11_Words
  rw [lengths_ref, he]
  simp only [Option.bind_some]
  by_cases h0 : e = 0
  · obtain ⟨hv, h16, hn0, hn1⟩ := hz.1 h0
    have hs := upto_ok g
    obtain ⟨m, hm⟩ := Int.eq_ofNat_of_zero_le hn0
    have hn : ¬ e ≠ 0 := by omega
    rw [if_neg hn, if_neg hn, states_eq hv, All_eq hv]
    subst hm
    simp only [Option.bind_some, list_eq hv h16 hs, refwords_eq hv h16 hs (by omega : m ≤ 4096), Int.toNat_natCast]
    by_cases hok : OKL g (upto g.2.1) m = true
    · simp only [if_pos hok, if_true, ne_eq, not_true_eq_false, if_false]
      have hl : (LV g (upto g.2.1) m).length ≤ 4096 := by
        by_cases hm0 : m = 0
        · subst hm0; have := LV_zero g (upto g.2.1); omega
        · exact OKL_iff.1 hok m (by omega) (Nat.le_refl _)
      rw [texts_eq (by omega), sortS_id (LV_asc g _ m)]
      exact ⟨_, rfl, rfl, fun _ => ⟨⟨hv, h16, hn0, hn1, hok⟩, by simp [wordsE]⟩, fun _ _ _ _ _ => rfl⟩
    · simp only [if_neg hok, if_neg (show ¬ false = true by simp)]
      exact ⟨([], 4), rfl, (by simp), (fun h => by cases h), fun _ _ _ _ h => absurd h hok⟩
  · rw [if_pos h0, if_pos h0]
    exact ⟨_, rfl, rfl, fun h => absurd h h0, fun h1 h2 h3 h4 _ => absurd (hz.2 ⟨h1, h2, h3, h4⟩) h0⟩
end
end Go.AW

/- Reading words in graphs: ends of words, and the law of factors. -/
namespace Go.AW
open Go
set_option linter.unusedSimpArgs false
set_option linter.unusedVariables false

/-- the number of a letter -/
def lab (c : UInt8) : Int := Lib.indexByte letters c

/-- a word over the letters of a graph -/
def WOk (g : Gr) (w : List UInt8) : Prop := w.length ≤ 65536 ∧ ∀ c ∈ w, c ∈ lets g

section
variable {g : Gr}

theorem lab_mem {c : UInt8} (h : c ∈ lets g) : ∃ (i : Nat) (hi : i < letters.length), (i : Int) < g.1 ∧ letters[i] = c ∧ lab c = i := by
  obtain ⟨i, hi, hg, rfl⟩ := mem_lets h
  exact ⟨i, hi, hg, rfl, idx_letter hi⟩
theorem step_lab (hv : VG g) {a : List Int} (ha : SetOk g a) {c : UInt8} (hc : c ∈ lets g) : m_language_step g a (c.toNat : Int) = some (stepL g a (lab c)) := by
  obtain ⟨i, hi, hg, rfl, e⟩ := lab_mem hc
  rw [e]
  exact lstep_eq hv ha hi hg

/-- the ends of a word -/
def endsL (g : Gr) (a : List Int) (w : List UInt8) : List Int := w.foldl (fun a c => stepL g a (lab c)) a
theorem endsL_app (a : List Int) (u v : List UInt8) : endsL g a (u ++ v) = endsL g (endsL g a u) v := List.foldl_append ..
theorem stepL_nil (c : Int) : stepL g [] c = [] := by simp [stepL]
end

theorem WOk.sub {g : Gr} {w u : List UInt8} (h : WOk g w) (hl : u.length ≤ w.length) (hs : ∀ c ∈ u, c ∈ w) : WOk g u := ⟨Nat.le_trans hl h.1, fun c hc => h.2 c (hs c hc)⟩

end Go.AW

/- The least path that is labelled with a word. -/
namespace Go.AW
open Go
set_option linter.unusedSimpArgs false
set_option linter.unusedVariables false

section
variable {g : Gr}

/-- from which states a word can be read -/
def canB (g : Gr) : List UInt8 → List Bool
  | [] => List.replicate g.2.1.toNat true
  | c :: w => (upto g.2.1).map fun s => g.2.2.any fun x => decide (x.1 = s ∧ x.2.1 = lab c) && (canB g w).getD x.2.2.toNat false
/-- an edge with which a word goes on -/
def okE (g : Gr) (w : List UInt8) (c : UInt8) (prev : Option Int) (x : Ed) : Bool := decide (x.2.1 = lab c) && (canB g w).getD x.2.2.toNat false && (match prev with
  | none => true
  | some s => decide (x.1 = s))
def pick (g : Gr) (w : List UInt8) (c : UInt8) (prev : Option Int) : Nat := g.2.2.findIdx (okE g w c prev)
end
end Go.AW

/- language.Path gives the least path. -/
namespace Go.AW
open Go
set_option linter.unusedSimpArgs false
set_option linter.unusedVariables false
section
variable {g : Gr}

end
end Go.AW

/- language.Path: the edges; the whole function. -/
namespace Go.AW
open Go
set_option linter.unusedSimpArgs false
set_option linter.unusedVariables false
section
variable {g : Gr}

end
end Go.AW

/- All words of a length. -/
namespace Go.AW
open Go
set_option linter.unusedSimpArgs false
set_option linter.unusedVariables false

/-- all words of a length over some letters -/
def allW (cs : List UInt8) : Nat → List (List UInt8)
  | 0 => [[]]
  | n + 1 => (allW cs n).flatMap fun w => cs.map fun c => w ++ [c]
theorem mem_allW {cs : List UInt8} : ∀ {n : Nat} {w : List UInt8}, w ∈ allW cs n ↔ w.length = n ∧ ∀ c ∈ w, c ∈ cs
  | 0, w => by
    simp only [allW, List.mem_singleton]
    constructor
    · rintro rfl; simp
    · rintro ⟨h, _⟩; exact List.eq_nil_of_length_eq_zero h
  | n + 1, w => by
    simp only [allW, List.mem_flatMap, List.mem_map]
    constructor
    · rintro ⟨u, hu, c, hc, rfl⟩
      obtain ⟨h1, h2⟩ := mem_allW.1 hu
      refine ⟨by simp [h1], fun d hd => ?_⟩
      rcases List.mem_append.1 hd with h | h
      · exact h2 d h
      · simp at h; subst h; exact hc
    · rintro ⟨h1, h2⟩
      rcases List.eq_nil_or_concat w with rfl | ⟨v, c, rfl⟩
      · simp at h1
      · rw [List.concat_eq_append] at h1 h2 ⊢
        exact ⟨v, mem_allW.2 ⟨by simpa using h1, fun d hd => h2 d (List.mem_append_left _ hd)⟩, c, h2 c (by simp), rfl⟩
theorem allW_len (cs : List UInt8) : ∀ n, (allW cs n).length = cs.length ^ n
  | 0 => rfl
  | n + 1 => by
    have h : ∀ l : List (List UInt8), (l.flatMap fun w => cs.map fun c => w ++ [c]).length = l.length * cs.length := by
      intro l
      induction l with
      | nil => simp
      | cons x l ih => rw [List.flatMap_cons, List.length_append, ih, List.length_map, List.length_cons, Nat.succ_mul]; omega
    simp only [allW]
    rw [h, allW_len cs n, Nat.pow_succ]
theorem allW_asc {cs : List UInt8} (hcs : cs.Pairwise (· < ·)) : ∀ n, (allW cs n).Pairwise (· < ·)
  | 0 => by simp [allW]
  | n + 1 => by
    simp only [allW]
    rw [List.pairwise_flatMap]
    refine ⟨fun x hx => ?_, (allW_asc hcs n).imp_of_mem fun {x y} hx hy hxy a ha b hb => ?_⟩
    · rw [List.pairwise_map]
      exact hcs.imp fun hcd => app_lt _ (List.cons_lt_cons_iff.2 (.inl hcd))
    · obtain ⟨c, _, rfl⟩ := List.mem_map.1 ha
      obtain ⟨d, _, rfl⟩ := List.mem_map.1 hb
      exact lt_app _ _ (by rw [(mem_allW.1 hx).1, (mem_allW.1 hy).1]) hxy

section
variable {g : Gr}
end
end Go.AW

/- Models, printed by lk.py. -/
namespace Go.AW
open Go
set_option linter.unusedVariables false
end Go.AW

/- The first missing word. -/
namespace Go.AW
open Go
set_option linter.unusedSimpArgs false
set_option linter.unusedVariables false

section
variable {β : Type}
theorem mlook_put (k q : List UInt8) (v : β) : ∀ l : List (List UInt8 × β), mlook q (mputN k v l) = if q = k then some v else mlook q l
  | [] => by simp only [mputN, mlook]
  | (p, x) :: l => by
    simp only [mputN]
    by_cases h : k = p
    · rw [if_pos h]
      simp only [mlook]
      by_cases e : q = p
      · rw [if_pos e, if_pos (e.trans h.symm)]
      · rw [if_neg e, if_neg (fun e' => e (e'.trans h)), if_neg e]
    · rw [if_neg h]
      simp only [mlook]
      by_cases e : q = p
      · rw [if_pos e, if_neg (fun e' => h (e'.symm.trans e)), if_pos e]
      · rw [if_neg e, mlook_put k q v l, if_neg e]
end

section
variable {g : Gr}
end
end Go.AW

/- Models, printed by lk.py. -/
namespace Go.AW
open Go
set_option linter.unusedVariables false
/-- slices.Equal[[]string,string] -/
noncomputable def m_slices_Equal_Lstring_string (p0 : List (List UInt8)) (p1 : List (List UInt8)) : Option (Bool) :=
  if ((p0).length : Int) ≠ ((p1).length : Int) then
    some false
  else
    lpO (loopW (S := Int) (X := Ou (Unit) (Bool)) (fun a1 =>
        if a1 < ((p0).length : Int) then
          (idx p0 a1).bind fun x5 =>
          (idx p1 a1).bind fun x7 =>
          if x5 ≠ x7 then
            some (Stp.exit (Ou.ret false))
          else
            some (Stp.next (IntKind.wrap .i64 (a1 + 1)))
        else
          some (Stp.exit (Ou.go ()))) 0) (fun a9 =>
        some true) some

end Go.AW

/- The words of a length, by reading; the anchor of chapter 11. -/
namespace Go.AW
open Go
set_option linter.unusedSimpArgs false
set_option linter.unusedVariables false

theorem lvl_congr {f h : List Int → UInt8 → List Int} {cs : List UInt8} {A : List Int → Prop} {set : List Int} (hs : A set) (hA : ∀ a c, A a → c ∈ cs → A (f a c)) (he : ∀ a c, A a → c ∈ cs → f a c = h a c) : ∀ n, lvl f cs set n = lvl h cs set n
  | 0 => rfl
  | n + 1 => by
    simp only [lvl]
    rw [← lvl_congr hs hA he n]
    have hall : ∀ x ∈ lvl f cs set n, A x.2 := lvl_all hs hA n
    have hcs : ∀ (cs' : List UInt8), (∀ c ∈ cs', c ∈ cs) → ∀ x ∈ lvl f cs set n, ext1 f cs' x = ext1 h cs' x := by
      intro cs' hsub x hx
      unfold ext1
      induction cs' with
      | nil => rfl
      | cons c cs' ih =>
        rw [List.filterMap_cons, List.filterMap_cons, he x.2 c (hall x hx) (hsub c (List.mem_cons_self ..)), ih fun d hd => hsub d (List.mem_cons_of_mem _ hd)]
    have : ∀ l : List WS, (∀ x ∈ l, ext1 f cs x = ext1 h cs x) → l.flatMap (ext1 f cs) = l.flatMap (ext1 h cs) := by
      intro l hl
      induction l with
      | nil => rfl
      | cons x l ih => rw [List.flatMap_cons, List.flatMap_cons, hl x (List.mem_cons_self ..), ih fun y hy => hl y (List.mem_cons_of_mem _ hy)]
    exact this _ (hcs cs fun _ h => h)

section
variable {g : Gr}
def stpL (g : Gr) (a : List Int) (c : UInt8) : List Int := stepL g a (lab c)
theorem LV_lab (hv : VG g) {set : List Int} (hs : SetOk g set) (n : Nat) : LV g set n = lvl (stpL g) (lets g) set n := by
  refine lvl_congr (A := SetOk g) hs (fun a c ha hc => stpM_ok hv ha hc) (fun a c ha hc => ?_) n
  unfold stpM
  rw [step_lab hv ha hc]
  rfl

theorem mem_LV (hv : VG g) {set : List Int} (hs : SetOk g set) : ∀ (n : Nat) (x : WS), x ∈ LV g set n ↔ x.1.length = n ∧ (∀ c ∈ x.1, c ∈ lets g) ∧ x.2 = endsL g set x.1 ∧ x.2 ≠ [] := by
  intro n
  rw [LV_lab hv hs]
  induction n with
  | zero =>
    rintro ⟨u, a⟩
    simp only [lvl]
    constructor
    · intro h
      split at h
      · cases h
      · rename_i hne
        simp only [List.mem_singleton, Prod.mk.injEq] at h
        obtain ⟨rfl, rfl⟩ := h
        exact ⟨rfl, by simp, rfl, hne⟩
    · rintro ⟨hl, _, he, hne⟩
      have hu : u = [] := List.eq_nil_of_length_eq_zero hl
      subst hu
      have : a = set := he
      subst this
      rw [if_neg hne]
      simp
  | succ n ih =>
    rintro ⟨u, a⟩
    simp only [lvl, List.mem_flatMap, mem_ext1]
    constructor
    · rintro ⟨y, hy, c, hc, hne, he⟩
      cases he
      obtain ⟨h1, h2, h3, h4⟩ := (ih y).1 hy
      refine ⟨by simp [h1], fun d hd => ?_, ?_, hne⟩
      · rcases List.mem_append.1 hd with hd | hd
        · exact h2 d hd
        · simp at hd; subst hd; exact hc
      · show stepL g y.2 (lab c) = _
        rw [endsL_app, ← h3]
        rfl
    · rintro ⟨hl, hc, he, hne⟩
      rcases List.eq_nil_or_concat u with rfl | ⟨v, c, rfl⟩
      · simp at hl
      · rw [List.concat_eq_append] at he hl hc ⊢
        rw [endsL_app] at he
        have he' : a = stepL g (endsL g set v) (lab c) := he
        have hne2 : endsL g set v ≠ [] := fun h0 => hne (by rw [he', h0, stepL_nil])
        exact ⟨(v, endsL g set v), (ih _).2 ⟨by simpa using hl, fun d hd => hc d (List.mem_append_left _ hd), rfl, hne2⟩, c, hc c (by simp), by show stepL g _ _ ≠ []; rw [← he']; exact hne, by rw [he']; rfl⟩
end

theorem EqS_eq {a b : List (List UInt8)} (hm : a.length ≤ 9223372036854775807) : m_slices_Equal_Lstring_string a b = some (decide (a = b)) := by
  unfold m_slices_Equal_Lstring_string
  by_cases hl : a.length = b.length
  · rw [if_neg (by omega)]
    refine lpL (loop_any (fun i => (i : Int)) a.length (fun i => decide (a.getD i [] ≠ b.getD i [])) (Ou.ret false) (Ou.go ()) (fun i hi => ?_) (by rw [if_neg (not_lt_int _)]) rfl) ?_
    · have hi' : i < b.length := by omega
      have e1 : a.getD i [] = a[i] := by simp [List.getD, hi]
      have e2 : b.getD i [] = b[i] := by simp [List.getD, hi']
      rw [if_pos (lt_int hi), ix hi, ix hi']
      simp only [Option.bind_some, nx hm hi, e1, e2, decide_eq_true_eq]
    · by_cases he : a = b
      · subst he
        rw [if_neg]
        · simp [lpO]
        · simp
      · rw [if_pos]
        · simp [lpO, he]
        · refine List.any_eq_true.2 ?_
          apply Classical.byContradiction
          intro hno
          refine he (List.ext_getElem hl fun i h1 h2 => ?_)
          apply Classical.byContradiction
          intro hne
          refine hno ⟨i, List.mem_range.2 h1, decide_eq_true ?_⟩
          rwa [show a.getD i [] = a[i] by simp [List.getD, h1], show b.getD i [] = b[i] by simp [List.getD, h2]]
  · rw [if_pos (by omega)]
    have : ¬ a = b := fun e => hl (by rw [e])
    simp [this]

end Go.AW

/- Models, printed by lk.py. -/
namespace Go.AW
open Go
set_option linter.unusedVariables false
end Go.AW

/- The law of words. -/
namespace Go.AW
open Go
set_option linter.unusedSimpArgs false
set_option linter.unusedVariables false

theorem ltW_asym : ∀ {u v : List UInt8}, u < v → ¬ v < u
  | [], [], h, _ => by cases h
  | [], _ :: _, _, h => by cases h
  | _ :: _, [], h, _ => by cases h
  | a :: u, b :: v, h, h' => by
    rcases List.cons_lt_cons_iff.1 h with h1 | ⟨h1, h2⟩
    · rcases List.cons_lt_cons_iff.1 h' with h3 | ⟨h3, h4⟩
      · exact absurd (UInt8.lt_trans h1 h3) (u8_irr a)
      · subst h3; exact u8_irr _ h1
    · subst h1
      rcases List.cons_lt_cons_iff.1 h' with h3 | ⟨h3, h4⟩
      · exact u8_irr _ h3
      · exact ltW_asym h2 h4
theorem ascW_uniq {l m : List (List UInt8)} (hl : l.Pairwise (· < ·)) (hm : m.Pairwise (· < ·)) (h : ∀ x, x ∈ l ↔ x ∈ m) : l = m := by
  have nl : l.Nodup := hl.imp fun h e => by subst e; exact lt_irr _ h
  have nm : m.Nodup := hm.imp fun h e => by subst e; exact lt_irr _ h
  have hp : l.Perm m := (List.perm_ext_iff_of_nodup nl nm).2 h
  exact hp.eq_of_pairwise (fun a b _ _ h1 h2 => absurd h2 (ltW_asym h1)) hl hm

section
variable {g : Gr}
theorem lets_asc (g : Gr) : (lets g).Pairwise (· < ·) := letters_asc.sublist (List.take_sublist _ _)
end

end Go.AW

/- word.All; the law of words. -/
namespace Go.AW
open Go
set_option linter.unusedSimpArgs false
set_option linter.unusedVariables false

end Go.AW

/- Models, printed by lk.py. -/
namespace Go.AW
open Go
set_option linter.unusedVariables false
end Go.AW

/- The law of the first missing word. -/
namespace Go.AW
open Go
set_option linter.unusedSimpArgs false
set_option linter.unusedVariables false
section
variable {g : Gr}

end

end Go.AW

/- The letters that can follow in a set of states. -/
namespace Go.AW
open Go
end Go.AW

/- Models, printed by lk.py. -/
namespace Go.AW
open Go
set_option linter.unusedVariables false
end Go.AW

/- The law of letters. -/
namespace Go.AW
open Go
set_option linter.unusedSimpArgs false
set_option linter.unusedVariables false

end Go.AW

/- Models, printed by lk.py. -/
namespace Go.AW
open Go
set_option linter.unusedVariables false
end Go.AW

/- Reading words, in the program and in the reference. -/
namespace Go.AW
open Go
set_option linter.unusedSimpArgs false
set_option linter.unusedVariables false

section
variable {g : Gr}
end
end Go.AW

/- Models, printed by lk.py. -/
namespace Go.AW
open Go
set_option linter.unusedVariables false
/-- groove/grooveref09.Great -/
noncomputable def m_ref09_Great (p0 : TLabelsStatesEdges) : Option (Bool) :=
  jp (fun (a1 : Bool) =>
    some a1)
    fun k3 =>
    if 30 < ((p0.2.2).length : Int) then
      k3 true
    else
      if 10 < p0.2.1 then
        k3 (decide (p0.2.1 ≤ 64))
      else
        k3 false

/-- groove/groovelaw12.great -/
noncomputable def m_law12_great (p0 : TLabelsStatesEdges) : Option (Bool) :=
  (m_ref09_Great p0).bind fun x1 =>
  some x1

end Go.AW

/- Graphs of sets: the program's search and the reference's find the same. -/
namespace Go.AW
open Go
set_option linter.unusedSimpArgs false
set_option linter.unusedVariables false

theorem lpN {V R Y : Type} {o : Option (Ou V R)} {M : V → Option Y} {Rt : R → Option Y} {r : Option Y} (Q : Ou V R → Prop) (h : ∃ x, o = some x ∧ Q x) (k : ∀ x, Q x → lpO (some x) M Rt = r) : lpO o M Rt = r := by
  obtain ⟨x, rfl, hq⟩ := h
  exact k x hq
theorem bindNE {X R T : Type} {o : Option X} {M : X → Option R} {C : T → Prop} {r : T → Option R} (Q : X → Prop) (h : ∃ x, o = some x ∧ Q x) (k : ∀ x, Q x → ∃ t, C t ∧ M x = r t) : ∃ t, C t ∧ o.bind M = r t := by
  obtain ⟨x, rfl, hq⟩ := h
  exact k x hq

theorem dec2_pre : ∀ n, n < 64 → ∀ m, m < 64 → (dec2 n ++ [32]).isPrefixOf (dec2 m ++ [32]) = true → n = m := by decide +kernel
theorem dec2_len (n : Nat) : (dec2 n).length ≤ 2 := by unfold dec2; split <;> simp
/-- the key of a set -/
def keyL (a : List Int) : List UInt8 := a.flatMap fun s => dec2 s.toNat ++ [32]
theorem keyL_inj : ∀ {a b : List Int}, (∀ x ∈ a, 0 ≤ x ∧ x < 64) → (∀ x ∈ b, 0 ≤ x ∧ x < 64) → keyL a = keyL b → a = b
  | [], [], _, _, _ => rfl
  | [], y :: b, _, _, h => by simp [keyL] at h
  | x :: a, [], _, _, h => by simp [keyL] at h
  | x :: a, y :: b, ha, hb, h => by
    have hx := ha x (List.mem_cons_self ..)
    have hy := hb y (List.mem_cons_self ..)
    have h' : (dec2 x.toNat ++ [32]) ++ keyL a = (dec2 y.toNat ++ [32]) ++ keyL b := by
      simpa only [keyL, List.flatMap_cons] using h
    have h1 : dec2 x.toNat ++ [32] <+: (dec2 y.toNat ++ [32]) ++ keyL b := ⟨_, h'⟩
    have h2 : dec2 y.toNat ++ [32] <+: (dec2 y.toNat ++ [32]) ++ keyL b := ⟨_, rfl⟩
    have e : x.toNat = y.toNat := by
      rcases List.prefix_or_prefix_of_prefix h1 h2 with hp | hp
      · exact dec2_pre _ (by omega) _ (by omega) (List.isPrefixOf_iff_prefix.2 hp)
      · exact (dec2_pre _ (by omega) _ (by omega) (List.isPrefixOf_iff_prefix.2 hp)).symm
    have hk : keyL a = keyL b := by
      rw [e] at h'
      exact List.append_cancel_left h'
    have := keyL_inj (fun z hz => ha z (List.mem_cons_of_mem _ hz)) (fun z hz => hb z (List.mem_cons_of_mem _ hz)) hk
    rw [this]
    congr 1
    omega

section
variable {g : Gr}
theorem setOk_64 (hv : VG g) {a : List Int} (h : SetOk g a) : ∀ x ∈ a, 0 ≤ x ∧ x < 64 := fun x hx => by
  have := h.2 x hx
  have := hv.s1
  omega
theorem keyL_take (a : List Int) {i : Nat} (h : i < a.length) : keyL (a.take (i + 1)) = keyL (a.take i) ++ (dec2 a[i].toNat ++ [32]) := by
  rw [List.take_add_one, List.getElem?_eq_getElem h]
  simp only [keyL, Option.toList_some, List.flatMap_append, List.flatMap_cons, List.flatMap_nil, List.append_nil]
theorem keyL_len (a : List Int) : (keyL a).length ≤ 3 * a.length := by
  induction a with
  | nil => simp [keyL]
  | cons x a ih =>
    have := dec2_len x.toNat
    simp only [keyL, List.flatMap_cons, List.length_append, List.length_cons, List.length_nil] at ih ⊢
    omega
theorem key_eq (hv : VG g) {a : List Int} (h : SetOk g a) : m_subset_key a = some (keyL a) := by
  have hl := setOk_len hv h
  unfold m_subset_key
  refine bindL (loop_is (fun i => ((i : Int), keyL (a.take i))) a.length (keyL a) (fun i hi => ?_) ?_ (by simp [keyL])) rfl
  · dsimp only
    obtain ⟨h0, h1⟩ := setOk_64 hv h a[i] (List.getElem_mem hi)
    have hs : m_strconv_Itoa a[i] = some (dec2 a[i].toNat) := by unfold m_strconv_Itoa; rw [if_pos (by omega)]
    have hd := dec2_len a[i].toNat
    have hk := keyL_len (a.take i)
    rw [if_pos (lt_int hi), ix hi]
    simp only [Option.bind_some, hs]
    rw [if_pos (by simp [maxLen]; omega), if_pos (fits_le (by simp at hk ⊢; omega) (by simp at hk ⊢; omega)), nx (by omega : a.length ≤ _) hi, keyL_take a hi]
  · dsimp only
    rw [if_neg (not_lt_int _), List.take_length]

/-- what a search has: edges and sets -/
abbrev BS := List Ed × List (List Int)
/-- a label of the set a, the one with number i -/
def bstep (g : Gr) (i : Nat) (a : List Int) (st : BS) (lab : Nat) : BS :=
  if stepL g a lab = [] then st else (st.1 ++ [((i : Int), (lab : Int), ((st.2.idxOf (stepL g a lab) : Nat) : Int))], if stepL g a lab ∈ st.2 then st.2 else st.2 ++ [stepL g a lab])
def browN (g : Gr) (i : Nat) (a : List Int) (n : Nat) (st : BS) : BS := (List.range n).foldl (bstep g i a) st
theorem browN_zero {i : Nat} {a : List Int} {st : BS} : browN g i a 0 st = st := rfl
theorem browN_succ {i n : Nat} {a : List Int} {st : BS} : browN g i a (n + 1) st = bstep g i a (browN g i a n st) n := by simp [browN, List.range_succ, List.foldl_append]
def brow (g : Gr) (i : Nat) (st : BS) : BS := browN g i (st.2.getD i []) g.1.toNat st
def small (st : BS) : Prop := st.2.length ≤ 64 ∧ st.1.length ≤ 1024
instance (st : BS) : Decidable (small st) := by unfold small; infer_instance
/-- the search from the set number i on; none if it becomes too large -/
def brun (g : Gr) : Nat → Nat → BS → Option BS
  | 0, _, _ => none
  | f + 1, i, st => if i < st.2.length then (if small (brow g i st) then brun g f (i + 1) (brow g i st) else none) else some st

theorem bstep_grow (i : Nat) (a : List Int) (st : BS) (n : Nat) : st.1 <+: (bstep g i a st n).1 ∧ st.2 <+: (bstep g i a st n).2 ∧ (bstep g i a st n).1.length ≤ st.1.length + 1 ∧ (bstep g i a st n).2.length ≤ st.2.length + 1 := by
  unfold bstep
  split
  · exact ⟨List.prefix_refl _, List.prefix_refl _, Nat.le_succ _, Nat.le_succ _⟩
  · refine ⟨List.prefix_append _ _, ?_, by simp, ?_⟩
    · dsimp only
      split
      · exact List.prefix_refl _
      · exact List.prefix_append _ _
    · dsimp only
      split
      · exact Nat.le_succ _
      · simp
theorem browN_grow (i : Nat) (a : List Int) (st : BS) : ∀ n, st.1 <+: (browN g i a n st).1 ∧ st.2 <+: (browN g i a n st).2 ∧ (browN g i a n st).1.length ≤ st.1.length + n ∧ (browN g i a n st).2.length ≤ st.2.length + n
  | 0 => ⟨List.prefix_refl _, List.prefix_refl _, Nat.le_refl _, Nat.le_refl _⟩
  | n + 1 => by
    obtain ⟨h1, h2, h3, h4⟩ := browN_grow i a st n
    obtain ⟨k1, k2, k3, k4⟩ := bstep_grow (g := g) i a (browN g i a n st) n
    rw [browN_succ]
    exact ⟨h1.trans k1, h2.trans k2, by omega, by omega⟩
/-- all are sets of states -/
def Good (g : Gr) (st : BS) : Prop := ∀ x ∈ st.2, SetOk g x
theorem bstep_good {i n : Nat} {a : List Int} {st : BS} (h : Good g st) : Good g (bstep g i a st n) := by
  unfold bstep
  split
  · exact h
  · intro x hx
    dsimp only at hx
    split at hx
    · exact h x hx
    · rcases List.mem_append.1 hx with hx | hx
      · exact h x hx
      · rw [List.mem_singleton.1 hx]; exact stepL_ok g a n
theorem browN_good {i : Nat} {a : List Int} {st : BS} (h : Good g st) : ∀ n, Good g (browN g i a n st)
  | 0 => h
  | n + 1 => by rw [browN_succ]; exact bstep_good (browN_good h n)
/-- the loop over the sets -/
theorem bfs_loop {S R V T : Type} {body : S → Option (Stp S (Ou V R))} (enc : Nat → BS → T → S) (out : BS → V) (rl : R) (Ok : BS → T → Prop)
    (h : ∀ i st t, Good g st → small st → Ok st t → i < st.2.length → ∃ t', Ok (brow g i st) t' ∧ body (enc i st t) = some (if small (brow g i st) then .next (enc (i + 1) (brow g i st) t') else .exit (.ret rl)))
    (hf : ∀ i st t, small st → i ≤ st.2.length → ¬ i < st.2.length → body (enc i st t) = some (.exit (.go (out st)))) :
    ∀ f i st t, Good g st → small st → Ok st t → i ≤ st.2.length → i + f = 66 → loopW body (enc i st t) = some (match brun g f i st with | none => .ret rl | some st' => .go (out st'))
  | 0, i, st, t, _, hs, _, hi, hf' => by
    have := hs.1
    omega
  | f + 1, i, st, t, hg, hs, hok, hi, hf' => by
    unfold brun
    by_cases hlt : i < st.2.length
    · obtain ⟨t', ht', hb⟩ := h i st t hg hs hok hlt
      rw [if_pos hlt]
      by_cases hsm : small (brow g i st)
      · rw [if_pos hsm] at hb ⊢
        rw [loopW_next hb]
        have hgr := (browN_grow (g := g) i (st.2.getD i []) st g.1.toNat).2.1.length_le
        exact bfs_loop enc out rl Ok h hf f (i + 1) _ t' (browN_good hg _) hsm ht' (by unfold brow; omega) (by omega)
      · rw [if_neg hsm] at hb ⊢
        rw [loopW_exit hb]
    · rw [if_neg hlt, loopW_exit (hf i st t hs hi hlt)]

theorem idxOf_lt {l : List (List Int)} {x : List Int} (h : x ∈ l) : l.idxOf x < l.length := List.idxOf_lt_length_of_mem h
theorem idxOf_no {l : List (List Int)} {x : List Int} (h : x ∉ l) : l.idxOf x = l.length := List.idxOf_eq_length h
theorem idxOf_at {l : List (List Int)} {x : List Int} {i : Nat} (hi : i < l.length) (hx : l[i] = x) (hn : x ∉ l.take i) : l.idxOf x = i := by
  have e : l = l.take i ++ l[i] :: l.drop (i + 1) := by rw [← List.drop_eq_getElem_cons hi, List.take_append_drop]
  conv => lhs; rw [e]
  rw [List.idxOf_append, if_neg hn, hx, List.idxOf_cons_self]
  simp; omega

/-- the numbers of the sets, under their keys -/
def NumOk (g : Gr) (l : List (List Int)) (M : List (List UInt8 × Int)) : Prop := ∀ x, SetOk g x → mlook (keyL x) M = if x ∈ l then some ((l.idxOf x : Nat) : Int) else none
theorem numOk_put (hv : VG g) {l : List (List Int)} {M : List (List UInt8 × Int)} (h : NumOk g l M) {y : List Int} (hy : SetOk g y) (hn : y ∉ l) : NumOk g (l ++ [y]) (mputN (keyL y) ((l.length : Nat) : Int) M) := fun x hx => by
  rw [mlook_put]
  by_cases e : x = y
  · subst e
    rw [if_pos rfl, if_pos (by simp), List.idxOf_append, if_neg hn, List.idxOf_cons_self]
    simp
  · rw [if_neg (fun hk => e (keyL_inj (setOk_64 hv hx) (setOk_64 hv hy) hk)), h x hx]
    by_cases hm : x ∈ l
    · rw [if_pos hm, if_pos (by simp [hm]), List.idxOf_append, if_pos hm]
    · rw [if_neg hm, if_neg (by simp [hm, e])]
theorem numOk_one (hv : VG g) {a : List Int} (ha : SetOk g a) : NumOk g [a] (mputN (keyL a) 0 ([] : List (List UInt8 × Int))) := by
  have := numOk_put hv (l := []) (M := []) (fun x _ => by simp [mlook]) ha (by simp)
  simpa using this

theorem cloneI_eq {l : List Int} (h : l.length ≤ 1000000) : m_slices_Clone_Lint_int l = some l := by unfold m_slices_Clone_Lint_int; rw [if_pos (by omega)]

/-- what the search from a set gives -/
def buildR (g : Gr) (a : List Int) : Gr × List (List Int) × Int := match brun g 66 0 ([], [a]) with
  | none => ((0, 0, []), [], 4)
  | some st => ((g.1, (st.2.length : Int), st.1), st.2, 0)

theorem small_one (a : List Int) : small (([], [a]) : BS) := ⟨by simp, by simp⟩
theorem good_one {a : List Int} (ha : SetOk g a) : Good g ([], [a]) := fun x hx => by rw [List.mem_singleton.1 hx]; exact ha

theorem build_eq (hv : VG g) {a : List Int} (ha : SetOk g a) : m_subset_build g a = some (buildR g a) := by
  have hl := setOk_len hv ha
  have h256 := hv.l2
  have h1 := hv.l1
  unfold m_subset_build
  rw [key_eq hv ha, Option.bind_some, cloneI_eq (by omega), Option.bind_some]
  refine lpL (bfs_loop (g := g) (T := List (List UInt8 × Int)) (fun i st M => (st.1, (i : Int), M, st.2)) (fun st => (st.1, st.2)) ((0, 0, []), [], 4) (fun st M => NumOk g st.2 M) (fun i st M hg hs hM hi => ?_) (fun i st M hs hi hn => ?_) 66 0 ([], [a]) _ (good_one ha) (small_one a) (numOk_one hv ha) (Nat.zero_le _) rfl) ?_
  · -- a row
    have hsl := hs.1
    have hel := hs.2
    have hset : SetOk g st.2[i] := hg _ (List.getElem_mem hi)
    have hgd : st.2.getD i [] = st.2[i] := by simp [List.getD, hi]
    dsimp only
    rw [if_pos (by omega), ix hi]
    simp only [Option.bind_some, jp]
    refine bindNE (fun x => x.1 = (brow g i st).1 ∧ NumOk g (brow g i st).2 x.2.1 ∧ x.2.2 = (brow g i st).2) (loopN g.1.toNat (fun k s => ∃ M, NumOk g (browN g i st.2[i] k st).2 M ∧ s = ((k : Int), (browN g i st.2[i] k st).1, M, (browN g i st.2[i] k st).2))
      (fun k s hk hI => .inl ?_) (fun s hI => ?_) 0 _ (Nat.zero_le _) ⟨M, hM, rfl⟩) fun x ⟨hxq1, hxq2, hxq3⟩ => ?_
    · -- a label
      obtain ⟨M, hM, rfl⟩ := hI
      obtain ⟨_, _, b1, b2⟩ := browN_grow (g := g) i st.2[i] st k
      have hgk := browN_good (i := i) (a := st.2[i]) hg k
      dsimp only
      rw [if_pos (by omega), Step_eq hv hset (by omega) (by omega)]
      simp only [Option.bind_some]
      have hnx : IntKind.wrap .i64 ((k : Int) + 1) = ((k + 1 : Nat) : Int) := by rw [w64 (by omega) (by omega)]; omega
      have hno := stepL_ok g st.2[i] (k : Int)
      rw [browN_succ]
      by_cases hz : stepL g st.2[i] (k : Int) = []
      · have e : bstep g i st.2[i] (browN g i st.2[i] k st) k = browN g i st.2[i] k st := by unfold bstep; rw [if_pos hz]
        rw [if_neg (by rw [hz]; simp), hnx, e]
        exact ⟨_, rfl, M, hM, rfl⟩
      · have hpos : 0 < (stepL g st.2[i] (k : Int)).length := List.length_pos_iff.2 hz
        rw [if_pos (by omega), key_eq hv hno]
        simp only [Option.bind_some]
        rw [hM _ hno]
        have hf1 : ∀ x : Ed, fits 24 ((browN g i st.2[i] k st).1.length + ([x] : List Ed).length) := fun x => fits_le (by simp; omega) (by simp; omega)
        by_cases hm : stepL g st.2[i] (k : Int) ∈ (browN g i st.2[i] k st).2
        · have e : bstep g i st.2[i] (browN g i st.2[i] k st) k = ((browN g i st.2[i] k st).1 ++ [((i : Int), (k : Int), (((browN g i st.2[i] k st).2.idxOf (stepL g st.2[i] (k : Int)) : Nat) : Int))], (browN g i st.2[i] k st).2) := by unfold bstep; rw [if_neg hz, if_pos hm]
          rw [if_pos hm]
          simp only [Option.isSome_some, Bool.not_true, Bool.false_eq_true, if_false, Option.getD_some, hnx]
          rw [if_pos (hf1 _), e]
          exact ⟨_, rfl, M, hM, rfl⟩
        · have e : bstep g i st.2[i] (browN g i st.2[i] k st) k = ((browN g i st.2[i] k st).1 ++ [((i : Int), (k : Int), (((browN g i st.2[i] k st).2.length : Nat) : Int))], (browN g i st.2[i] k st).2 ++ [stepL g st.2[i] (k : Int)]) := by unfold bstep; rw [if_neg hz, if_neg hm, idxOf_no hm]
          rw [if_neg hm]
          simp only [Option.isSome_none, Bool.not_false, if_true, hnx]
          rw [if_pos (fits_le (by simp; omega) (by simp; omega)), if_pos (hf1 _), e]
          exact ⟨_, rfl, _, numOk_put hv hM hno hm, rfl⟩
    · obtain ⟨M, hM, rfl⟩ := hI
      dsimp only
      rw [if_neg (by omega)]
      refine ⟨_, rfl, ?_⟩
      unfold brow
      rw [hgd]
      exact ⟨rfl, hM, rfl⟩
    · refine ⟨x.2.1, hxq2, ?_⟩
      simp only [Option.bind_some, hxq1, hxq3]
      rw [nx (by omega : st.2.length ≤ _) hi]
      by_cases hsm : small (brow g i st)
      · obtain ⟨s1, s2⟩ := id hsm
        rw [if_pos hsm, if_neg (by omega)]
        have hd : decide ((1024 : Int) < (((brow g i st).1.length : Nat) : Int)) = false := decide_eq_false (by omega)
        simp only [hd, Bool.false_eq_true, if_false]
      · rw [if_neg hsm]
        by_cases h64 : (64 : Int) < (((brow g i st).2.length : Nat) : Int)
        · rw [if_pos h64, if_pos trivial]
        · have hd : decide ((1024 : Int) < (((brow g i st).1.length : Nat) : Int)) = true := decide_eq_true (by
            have : ¬ ((brow g i st).2.length ≤ 64 ∧ (brow g i st).1.length ≤ 1024) := hsm
            omega)
          rw [if_neg h64]
          simp only [hd, if_true]
  · dsimp only
    rw [if_neg (by omega)]
  · unfold buildR
    cases hb : brun g 66 0 ([], [a]) with
    | none => rfl
    | some st => rfl
end
end Go.AW

/- Graphs of sets: the reference. -/
namespace Go.AW
open Go
set_option linter.unusedSimpArgs false
set_option linter.unusedVariables false

theorem loop_eqL {α S X : Type} [DecidableEq α] {body : S → Option (Stp S X)} (st : Nat → S) (a b : List α) (hl : a.length = b.length) (xr xf : X) (h : ∀ i (h1 : i < a.length) (h2 : i < b.length), body (st i) = if a[i] ≠ b[i] then some (.exit xr) else some (.next (st (i + 1)))) (hf : body (st a.length) = some (.exit xf)) {s0 : S} (hs0 : s0 = st 0) :
    loopW body s0 = some (if a = b then xf else xr) := by
  subst hs0
  obtain ⟨x, hx, hq⟩ := loopN (body := body) (Q := fun x => x = if a = b then xf else xr) a.length (fun i s => s = st i ∧ ∀ j, j < i → a[j]? = b[j]?) (fun i s hi ⟨hs, ha⟩ => by
    subst hs
    have h2 : i < b.length := by omega
    by_cases he : a[i] = b[i]
    · refine .inl ⟨_, by rw [h i hi h2, if_neg (by simpa using he)], rfl, fun j hj => ?_⟩
      by_cases hji : j = i
      · subst hji; rw [List.getElem?_eq_getElem hi, List.getElem?_eq_getElem h2, he]
      · exact ha j (by omega)
    · refine .inr ⟨xr, by rw [h i hi h2, if_pos he], ?_⟩
      rw [if_neg]
      intro hab
      subst hab
      exact he rfl) (fun s ⟨hs, ha⟩ => by
    subst hs
    refine ⟨xf, hf, ?_⟩
    rw [if_pos]
    exact List.ext_getElem? fun j => by
      by_cases hj : j < a.length
      · exact ha j hj
      · rw [List.getElem?_eq_none (by omega), List.getElem?_eq_none (by omega)]) 0 (st 0) (Nat.zero_le _) ⟨rfl, fun j hj => by omega⟩
  rw [hx, hq]

theorem Same12_eq {a b : List Int} (hm : a.length ≤ 9223372036854775807) : m_ref12_Same a b = some (decide (a = b)) := by
  unfold m_ref12_Same
  by_cases hl : a.length = b.length
  · rw [if_neg (by omega)]
    refine lpL (loop_eqL (fun i => (i : Int)) a b hl (Ou.ret false) (Ou.go ()) (fun i h1 h2 => ?_) (by rw [if_neg (not_lt_int _)]) rfl) ?_
    · rw [if_pos (lt_int h1), ix h1, ix h2]
      simp only [Option.bind_some, nx hm h1]
    · by_cases he : a = b <;> simp [he, lpO]
  · rw [if_pos (by omega)]
    have : ¬ a = b := fun e => hl (by rw [e])
    simp [this]
theorem SameSets_eq {a b : List (List Int)} (hm : a.length ≤ 9223372036854775807) (hx : ∀ x ∈ a, x.length ≤ 9223372036854775807) : m_ref12_SameSets a b = some (decide (a = b)) := by
  unfold m_ref12_SameSets
  by_cases hl : a.length = b.length
  · rw [if_neg (by omega)]
    refine lpL (loop_eqL (fun i => (i : Int)) a b hl (Ou.ret false) (Ou.go ()) (fun i h1 h2 => ?_) (by rw [if_neg (not_lt_int _)]) rfl) ?_
    · rw [if_pos (lt_int h1), ix h1, ix h2]
      simp only [Option.bind_some, Same12_eq (hx _ (List.getElem_mem h1)), nx hm h1]
      by_cases he : a[i] = b[i] <;> simp [he]
    · by_cases he : a = b <;> simp [he, lpO]
  · rw [if_pos (by omega)]
    have : ¬ a = b := fun e => hl (by rw [e])
    simp [this]

section
variable {g : Gr}
end
end Go.AW

/- Graphs of sets: From and Build in both, and what they have. -/
namespace Go.AW
open Go
set_option linter.unusedSimpArgs false
set_option linter.unusedVariables false

section
variable {g : Gr}
/-- the set of all states, as the program makes it -/
theorem set_up {n i : Nat} (h : i < n) : ((List.range i).map Int.ofNat ++ List.replicate (n - i) (0 : Int)).set i (i : Int) = (List.range (i + 1)).map Int.ofNat ++ List.replicate (n - (i + 1)) (0 : Int) := by
  obtain ⟨d, rfl⟩ : ∃ d, n = i + 1 + d := ⟨n - i - 1, by omega⟩
  rw [show i + 1 + d - i = d + 1 by omega, show i + 1 + d - (i + 1) = d by omega, List.replicate_succ, List.set_append_right _ _ (by simp), List.range_succ]
  simp

def buildG (g : Gr) : Gr × List (List Int) × Int := if g.2.1 = 0 then ((g.1, 0, []), [], 0) else buildR g (upto g.2.1)
def buildE (g : Gr) (e : Int) : Gr × List (List Int) × Int := if e ≠ 0 then ((0, 0, []), [], 1) else buildG g

theorem Build_eq {e : Int} (he : m_ref09_Check g = some e) (hz : e = 0 ↔ VG g) : m_subset_Build g = some (buildE g e) := by
  unfold m_subset_Build buildE
  rw [Check_ref, he, Option.bind_some]
  by_cases h0 : e = 0
  · have hv := hz.1 h0
    have hs0 := hv.s0
    have hs1 := hv.s1
    rw [if_neg (show ¬ e ≠ 0 from fun h => h h0), if_neg (show ¬ e ≠ 0 from fun h => h h0)]
    unfold buildG
    by_cases hn : g.2.1 = 0
    · rw [if_pos hn, if_pos hn]
    · rw [if_neg hn, if_neg hn, if_pos (by omega)]
      refine bindL (loop_is (fun i => ((i : Int), (List.range i).map Int.ofNat ++ List.replicate (g.2.1.toNat - i) (0 : Int))) g.2.1.toNat (upto g.2.1) (fun i hi => ?_) ?_ (by simp)) ?_
      · dsimp only
        have hlen : i < ((List.range i).map Int.ofNat ++ List.replicate (g.2.1.toNat - i) (0 : Int)).length := by simp; omega
        rw [if_pos (by simp; omega), ix hlen]
        simp only [Option.bind_some, Int.toNat_natCast]
        rw [set_up hi, nx (by omega : g.2.1.toNat ≤ _) hi]
      · dsimp only
        rw [if_neg (by simp)]
        simp [upto]
      · rw [build_eq hv (upto_ok g)]
        rfl
  · rw [if_pos h0, if_pos h0]

/-- the edges of the set a, the one with number i, in a list of sets -/
def rowE (g : Gr) (i : Nat) (a : List Int) (L : List (List Int)) (n : Nat) : List Ed :=
  (List.range n).filterMap fun (lab : Nat) => if stepL g a (lab : Int) = [] then none else some ((i : Int), (lab : Int), ((L.idxOf (stepL g a (lab : Int)) : Nat) : Int))
theorem rowE_succ (i : Nat) (a : List Int) (L : List (List Int)) (n : Nat) : rowE g i a L (n + 1) = rowE g i a L n ++ if stepL g a (n : Int) = [] then [] else [((i : Int), (n : Int), ((L.idxOf (stepL g a (n : Int)) : Nat) : Int))] := by
  unfold rowE
  rw [List.range_succ, List.filterMap_append]
  congr 1
  by_cases h : stepL g a (n : Int) = [] <;> simp [h]
theorem idxOf_pre {L L' : List (List Int)} {x : List Int} (h : L <+: L') (hx : x ∈ L) : L'.idxOf x = L.idxOf x := by
  obtain ⟨r, rfl⟩ := h
  rw [List.idxOf_append, if_pos hx]

theorem browN_form (i : Nat) (a : List Int) (st : BS) : ∀ n L', (browN g i a n st).2 <+: L' → (browN g i a n st).1 = st.1 ++ rowE g i a L' n ∧ ∀ lab, lab < n → stepL g a (lab : Int) = [] ∨ stepL g a (lab : Int) ∈ (browN g i a n st).2
  | 0, L', _ => ⟨by simp [browN_zero, rowE], fun lab h => by omega⟩
  | n + 1, L', hp => by
    rw [browN_succ] at hp ⊢
    have hpre := (bstep_grow (g := g) i a (browN g i a n st) n).2.1
    obtain ⟨ih1, ih2⟩ := browN_form i a st n L' (hpre.trans hp)
    have old : ∀ lab, lab < n → stepL g a (lab : Int) = [] ∨ stepL g a (lab : Int) ∈ (bstep g i a (browN g i a n st) n).2 := fun lab hl => (ih2 lab hl).imp id fun h => hpre.subset h
    rw [rowE_succ, ← List.append_assoc, ← ih1]
    by_cases hz : stepL g a (n : Int) = []
    · refine ⟨?_, fun lab hl => ?_⟩
      · unfold bstep
        rw [if_pos hz, if_pos hz, List.append_nil]
      · by_cases e : lab = n
        · subst e; exact .inl hz
        · exact old lab (by omega)
    · have hin : stepL g a (n : Int) ∈ (bstep g i a (browN g i a n st) n).2 := by
        unfold bstep
        rw [if_neg hz]
        dsimp only
        split
        · assumption
        · simp
      refine ⟨?_, fun lab hl => ?_⟩
      · rw [idxOf_pre hp hin, if_neg hz]
        unfold bstep
        rw [if_neg hz]
        dsimp only
        by_cases hm : stepL g a (n : Int) ∈ (browN g i a n st).2
        · rw [if_pos hm]
        · rw [if_neg hm, idxOf_no hm, List.idxOf_append, if_neg hm, List.idxOf_cons_self]
          simp
      · by_cases e : lab = n
        · subst e; exact .inr hin
        · exact old lab (by omega)

/-- WHAT A GRAPH OF SETS IS -/
structure Sets (g : Gr) (a : List Int) (E : List Ed) (L : List (List Int)) : Prop where
  ed : E = (List.range L.length).flatMap fun j => rowE g j (L.getD j []) L g.1.toNat
  clo : ∀ j, j < L.length → ∀ lab, lab < g.1.toNat → stepL g (L.getD j []) (lab : Int) = [] ∨ stepL g (L.getD j []) (lab : Int) ∈ L
  nd : L.Nodup
  good : ∀ x ∈ L, SetOk g x
  ne : ∀ x ∈ L, x ≠ []
  hd : [a] <+: L
  s1 : L.length ≤ 64
  s2 : E.length ≤ 1024

theorem brun_ind {P : Nat → BS → Prop} (hstep : ∀ i st, P i st → i < st.2.length → small (brow g i st) → P (i + 1) (brow g i st)) : ∀ f i st st', brun g f i st = some st' → P i st → ∃ k, P k st' ∧ st'.2.length ≤ k
  | 0, i, st, st', h, _ => by cases h
  | f + 1, i, st, st', h, hP => by
    unfold brun at h
    by_cases hlt : i < st.2.length
    · rw [if_pos hlt] at h
      by_cases hsm : small (brow g i st)
      · rw [if_pos hsm] at h
        exact brun_ind hstep f _ _ _ h (hstep i st hP hlt hsm)
      · rw [if_neg hsm] at h; cases h
    · rw [if_neg hlt] at h
      cases h
      exact ⟨i, hP, by omega⟩

theorem bstep_nd {i n : Nat} {a : List Int} {st : BS} (h : st.2.Nodup) : (bstep g i a st n).2.Nodup := by
  unfold bstep
  split
  · exact h
  · dsimp only
    split
    · exact h
    · rename_i hm
      rw [List.nodup_append]
      exact ⟨h, by simp, fun x hx y hy => by rw [List.mem_singleton.1 hy]; intro e; subst e; exact hm hx⟩
theorem browN_nd {i : Nat} {a : List Int} {st : BS} (h : st.2.Nodup) : ∀ n, (browN g i a n st).2.Nodup
  | 0 => h
  | n + 1 => by rw [browN_succ]; exact bstep_nd (browN_nd h n)
theorem browN_ne {i : Nat} {a : List Int} {st : BS} (h : ∀ x ∈ st.2, x ≠ []) : ∀ n, ∀ x ∈ (browN g i a n st).2, x ≠ []
  | 0 => h
  | n + 1 => by
    rw [browN_succ]
    unfold bstep
    split
    · exact browN_ne h n
    · rename_i hz
      dsimp only
      split
      · exact browN_ne h n
      · intro x hx
        rcases List.mem_append.1 hx with hx | hx
        · exact browN_ne h n x hx
        · rw [List.mem_singleton.1 hx]; exact hz

theorem pre_getD {L L' : List (List Int)} (h : L <+: L') {i : Nat} (hi : i < L.length) : L'.getD i [] = L.getD i [] := by
  have := h.length_le
  rw [show L'.getD i [] = L'[i]'(by omega) by simp [List.getD, show i < L'.length by omega], show L.getD i [] = L[i] by simp [List.getD, hi]]
  exact (List.IsPrefix.getElem h hi).symm

theorem brun_sets {a : List Int} (ha : SetOk g a) (hne : a ≠ []) {st : BS} (h : brun g 66 0 ([], [a]) = some st) : Sets g a st.1 st.2 := by
  obtain ⟨k, ⟨h1, h2, h3, h4, h5, h6, h7, h8⟩, hk⟩ := brun_ind (g := g) (P := fun i st => (∀ L', st.2 <+: L' → st.1 = (List.range i).flatMap fun j => rowE g j (L'.getD j []) L' g.1.toNat) ∧ (∀ j, j < i → ∀ lab, lab < g.1.toNat → stepL g (st.2.getD j []) (lab : Int) = [] ∨ stepL g (st.2.getD j []) (lab : Int) ∈ st.2) ∧ i ≤ st.2.length ∧ st.2.Nodup ∧ Good g st ∧ (∀ x ∈ st.2, x ≠ []) ∧ [a] <+: st.2 ∧ small st) (fun i st ⟨h1, h2, h3, h4, h5, h6, h7, h8⟩ hi hsm => by
    have hg := browN_grow (g := g) i (st.2.getD i []) st g.1.toNat
    have hpre : st.2 <+: (brow g i st).2 := hg.2.1
    have hlen := hpre.length_le
    refine ⟨fun L' hL' => ?_, fun j hj lab hlab => ?_, by omega, browN_nd h4 _, browN_good h5 _, browN_ne h6 _, h7.trans hpre, hsm⟩
    · rw [List.range_succ, List.flatMap_append, ← h1 L' (hpre.trans hL')]
      simp only [List.flatMap_cons, List.flatMap_nil, List.append_nil]
      rw [pre_getD (hpre.trans hL') hi]
      exact (browN_form i (st.2.getD i []) st g.1.toNat L' hL').1
    · have hjl : j < st.2.length := by omega
      rw [pre_getD hpre hjl]
      by_cases e : j = i
      · subst e
        exact (browN_form j (st.2.getD j []) st g.1.toNat _ (List.prefix_refl _)).2 lab hlab
      · exact (h2 j (by omega) lab hlab).imp id fun h => hpre.subset h) 66 0 ([], [a]) st h ⟨fun L' _ => by simp, fun j hj => by omega, by simp, by simp, good_one ha, fun x hx => by rw [List.mem_singleton.1 hx]; exact hne, List.prefix_refl _, small_one a⟩
  have hkl : k = st.2.length := by omega
  subst hkl
  exact ⟨h1 _ (List.prefix_refl _), h2, h4, h5, h6, h7, h8.1, h8.2⟩

theorem buildR_cases {a : List Int} (ha : SetOk g a) (hne : a ≠ []) : buildR g a = ((0, 0, []), [], 4) ∨ ∃ E L, Sets g a E L ∧ brun g 66 0 ([], [a]) = some (E, L) ∧ buildR g a = ((g.1, (L.length : Int), E), L, 0) := by
  unfold buildR
  cases h : brun g 66 0 ([], [a]) with
  | none => exact .inl rfl
  | some st => exact .inr ⟨st.1, st.2, brun_sets ha hne h, rfl, rfl⟩

section
variable {a : List Int} {E : List Ed} {L : List (List Int)}
theorem Sets.mem (h : Sets g a E L) {e : Ed} : e ∈ E ↔ ∃ j lab : Nat, j < L.length ∧ lab < g.1.toNat ∧ stepL g (L.getD j []) (lab : Int) ≠ [] ∧ e = ((j : Int), (lab : Int), ((L.idxOf (stepL g (L.getD j []) (lab : Int)) : Nat) : Int)) := by
  rw [h.ed]
  simp only [List.mem_flatMap, List.mem_range, rowE, List.mem_filterMap]
  constructor
  · rintro ⟨j, hj, lab, hlab, he⟩
    split at he
    · cases he
    · rename_i hz
      exact ⟨j, lab, hj, hlab, hz, (Option.some.inj he).symm⟩
  · rintro ⟨j, lab, hj, hlab, hz, rfl⟩
    exact ⟨j, hj, lab, hlab, by rw [if_neg hz]⟩
theorem Sets.to_lt (h : Sets g a E L) {j lab : Nat} (hj : j < L.length) (hlab : lab < g.1.toNat) (hz : stepL g (L.getD j []) (lab : Int) ≠ []) : L.idxOf (stepL g (L.getD j []) (lab : Int)) < L.length := idxOf_lt ((h.clo j hj lab hlab).resolve_left hz)
theorem Sets.asc (h : Sets g a E L) : E.Pairwise fun x y => x.1 < y.1 ∨ x.1 = y.1 ∧ x.2.1 < y.2.1 := by
  rw [h.ed, List.pairwise_flatMap]
  refine ⟨fun j _ => ?_, ?_⟩
  · unfold rowE
    rw [List.pairwise_filterMap]
    refine List.Pairwise.imp (R := (· < ·)) ?_ (List.pairwise_lt_range (n := g.1.toNat))
    intro x y hxy e he e' he'
    split at he
    · cases he
    · split at he'
      · cases he'
      · cases he; cases he'
        exact .inr ⟨rfl, by dsimp only; omega⟩
  · refine List.Pairwise.imp (R := (· < ·)) ?_ (List.pairwise_lt_range (n := L.length))
    intro x y hxy e he e' he'
    unfold rowE at he he'
    obtain ⟨l1, _, he⟩ := List.mem_filterMap.1 he
    obtain ⟨l2, _, he'⟩ := List.mem_filterMap.1 he'
    split at he
    · cases he
    · split at he'
      · cases he'
      · cases he; cases he'
        exact .inl (by dsimp only; omega)
theorem cmp3_lt {x y : Ed} (h : x.1 < y.1 ∨ x.1 = y.1 ∧ x.2.1 < y.2.1) : cmp3 x y < 0 := by
  unfold cmp3
  rcases h with h | ⟨h1, h2⟩
  · rw [if_pos h]; decide
  · rw [if_neg (by omega), if_neg (by omega), if_pos h2]; decide
/-- the graph of sets is valid -/
theorem Sets.vg (hv : VG g) (h : Sets g a E L) : VG (g.1, (L.length : Int), E) where
  l1 := hv.l1
  l2 := hv.l2
  s0 := by dsimp only; omega
  s1 := by have := h.s1; dsimp only; omega
  el := h.s2
  ed := fun x hx => by
    obtain ⟨j, lab, hj, hlab, hz, rfl⟩ := h.mem.1 hx
    have := h.to_lt hj hlab hz
    have := hv.l1
    dsimp only
    omega
  ord := fun i hi => cmp3_lt (List.pairwise_iff_getElem.1 h.asc i (i + 1) (by simp at hi; omega) hi (by omega))
theorem Sets.len_pos (h : Sets g a E L) : 0 < L.length := by have := h.hd.length_le; simp at this; omega
theorem Sets.zero (h : Sets g a E L) : L.getD 0 [] = a := by
  have := pre_getD h.hd (i := 0) (by simp)
  simpa using this
theorem Sets.at_idx (h : Sets g a E L) {x : List Int} (hx : x ∈ L) : L.getD (L.idxOf x) [] = x := by
  have hl := idxOf_lt hx
  rw [show L.getD (L.idxOf x) [] = L[L.idxOf x] by simp [List.getD, hl]]
  exact List.getElem_idxOf hl
theorem Sets.idx_at (h : Sets g a E L) {j : Nat} (hj : j < L.length) : L.idxOf (L.getD j []) = j := by
  rw [show L.getD j [] = L[j] by simp [List.getD, hj]]
  exact List.Nodup.idxOf_getElem h.nd j hj
end
end
end Go.AW

/- Graphs of sets: the words by which the sets were found. -/
namespace Go.AW
open Go
set_option linter.unusedSimpArgs false
set_option linter.unusedVariables false

/-- an edge that leads to the next number finds a word -/
def wfold (W : List (List Int)) (x : Ed) : List (List Int) := if x.2.2 = (W.length : Int) then W ++ [W.getD x.1.toNat [] ++ [x.2.1]] else W
def wordsQ (E : List Ed) : List (List Int) := E.foldl wfold [[]]
theorem wordsQ_snoc (E : List Ed) (x : Ed) : wordsQ (E ++ [x]) = wfold (wordsQ E) x := by simp [wordsQ, List.foldl_append]
theorem wfold_pre (W : List (List Int)) (x : Ed) : W <+: wfold W x := by
  unfold wfold
  split
  · exact List.prefix_append _ _
  · exact List.prefix_refl _
theorem foldW_pre : ∀ (E : List Ed) (W : List (List Int)), W <+: E.foldl wfold W
  | [], W => List.prefix_refl _
  | x :: E, W => (wfold_pre W x).trans (foldW_pre E _)
theorem wordsQ_app (E F : List Ed) : wordsQ E <+: wordsQ (E ++ F) := by
  unfold wordsQ
  rw [List.foldl_append]
  exact foldW_pre F _
theorem wordsQ_pos (E : List Ed) : 0 < (wordsQ E).length := by
  have := (foldW_pre E [[]]).length_le
  exact this

/-- where a list of labels leads -/
def endsI (g : Gr) (a : List Int) (w : List Int) : List Int := w.foldl (stepL g) a
theorem endsI_snoc (g : Gr) (a w : List Int) (c : Int) : endsI g a (w ++ [c]) = stepL g (endsI g a w) c := by simp [endsI, List.foldl_append]
/-- each edge comes from a number that is known, and leads to one or to the next one -/
def DO (E : List Ed) : Prop := ∀ E1 x E2, E = E1 ++ x :: E2 → 0 ≤ x.1 ∧ x.1 < ((wordsQ E1).length : Int) ∧ 0 ≤ x.2.2 ∧ x.2.2 ≤ ((wordsQ E1).length : Int)
theorem DO_nil : DO [] := fun E1 x E2 h => by
  have := congrArg List.length h
  simp at this
theorem DO_snoc {E : List Ed} {x : Ed} (h : DO E) (hx : 0 ≤ x.1 ∧ x.1 < ((wordsQ E).length : Int) ∧ 0 ≤ x.2.2 ∧ x.2.2 ≤ ((wordsQ E).length : Int)) : DO (E ++ [x]) := fun E1 y E2 he => by
  rcases List.eq_nil_or_concat E2 with rfl | ⟨E3, z, rfl⟩
  · obtain ⟨h1, h2⟩ := List.append_inj' he rfl
    cases h2
    rw [← h1]; exact hx
  · rw [List.concat_eq_append] at he
    have he' : E ++ [x] = (E1 ++ y :: E3) ++ [z] := by rw [he]; simp
    exact h E1 y E3 (List.append_inj' he' rfl).1

section
variable {g : Gr}
/-- what holds of the edges and sets so far -/
structure Disc (g : Gr) (a : List Int) (st : BS) : Prop where
  len : (wordsQ st.1).length = st.2.length
  ord : DO st.1
  ends : ∀ j, j < st.2.length → endsI g a ((wordsQ st.1).getD j []) = st.2.getD j []
  size : ∀ j, j < (wordsQ st.1).length → ((wordsQ st.1).getD j []).length ≤ j
  labs : ∀ w ∈ wordsQ st.1, ∀ c ∈ w, 0 ≤ c ∧ c < g.1

theorem disc_one (a : List Int) : Disc g a ([], [a]) where
  len := rfl
  ord := DO_nil
  ends := fun j hj => by
    have : j = 0 := by simp at hj; omega
    subst this; rfl
  size := fun j hj => by
    have : j = 0 := by simp [wordsQ] at hj; omega
    subst this; simp [wordsQ]
  labs := fun w hw c hc => by
    have : w = [] := by simpa [wordsQ] using hw
    subst this; cases hc

theorem getD_app_lt {α : Type} {l m : List α} {d : α} {j : Nat} (h : j < l.length) : (l ++ m).getD j d = l.getD j d := by
  simp [List.getD, List.getElem?_append_left h]
theorem getD_app_len {α : Type} (l : List α) (x d : α) : (l ++ [x]).getD l.length d = x := by simp [List.getD]
theorem getD_mem {α : Type} {l : List α} {d : α} {j : Nat} (h : j < l.length) : l.getD j d ∈ l := by
  rw [show l.getD j d = l[j] by simp [List.getD, h]]; exact List.getElem_mem h

theorem Disc.step {a : List Int} {st : BS} (h : Disc g a st) {i n : Nat} (hi : i < st.2.length) (hn : (n : Int) < g.1) : Disc g a (bstep g i (st.2.getD i []) st n) := by
  unfold bstep
  by_cases hz : stepL g (st.2.getD i []) (n : Int) = []
  · rw [if_pos hz]; exact h
  · rw [if_neg hz]
    have hlen := h.len
    by_cases hm : stepL g (st.2.getD i []) (n : Int) ∈ st.2
    · rw [if_pos hm]
      have hlt := idxOf_lt hm
      have hw : wordsQ (st.1 ++ [((i : Int), (n : Int), ((st.2.idxOf (stepL g (st.2.getD i []) (n : Int)) : Nat) : Int))]) = wordsQ st.1 := by
        rw [wordsQ_snoc]
        unfold wfold
        rw [if_neg (by dsimp only; omega)]
      exact ⟨by dsimp only; rw [hw]; exact hlen, DO_snoc h.ord (by dsimp only; omega), by dsimp only; rw [hw]; exact h.ends, by dsimp only; rw [hw]; exact h.size, by dsimp only; rw [hw]; exact h.labs⟩
    · rw [if_neg hm, idxOf_no hm]
      have hw : wordsQ (st.1 ++ [((i : Int), (n : Int), ((st.2.length : Nat) : Int))]) = wordsQ st.1 ++ [(wordsQ st.1).getD i [] ++ [(n : Int)]] := by
        rw [wordsQ_snoc]
        unfold wfold
        rw [if_pos (by dsimp only; omega)]
        simp
      refine ⟨by dsimp only; rw [hw]; simp [hlen], DO_snoc h.ord (by dsimp only; omega), ?_, ?_, ?_⟩
      · dsimp only
        rw [hw]
        intro j hj
        simp only [List.length_append, List.length_cons, List.length_nil] at hj
        by_cases hjl : j < st.2.length
        · rw [getD_app_lt (by omega), getD_app_lt hjl]; exact h.ends j hjl
        · have e : j = st.2.length := by omega
          subst e
          rw [getD_app_len]
          have := getD_app_len (wordsQ st.1) ((wordsQ st.1).getD i [] ++ [(n : Int)]) []
          rw [hlen] at this
          rw [this, endsI_snoc, h.ends i hi]
      · dsimp only
        rw [hw]
        intro j hj
        simp only [List.length_append, List.length_cons, List.length_nil] at hj
        by_cases hjl : j < (wordsQ st.1).length
        · rw [getD_app_lt hjl]; exact h.size j hjl
        · have e : j = (wordsQ st.1).length := by omega
          subst e
          rw [getD_app_len]
          have := h.size i (by omega)
          simp only [List.length_append, List.length_cons, List.length_nil]
          omega
      · dsimp only
        rw [hw]
        intro w hw c hc
        rcases List.mem_append.1 hw with hw | hw
        · exact h.labs w hw c hc
        · rw [List.mem_singleton.1 hw] at hc
          rcases List.mem_append.1 hc with hc | hc
          · exact h.labs _ (getD_mem (by omega)) c hc
          · rw [List.mem_singleton.1 hc]; omega
theorem Disc.row {a : List Int} {st : BS} (h : Disc g a st) {i : Nat} (hi : i < st.2.length) : ∀ n : Nat, (n : Int) ≤ g.1 → Disc g a (browN g i (st.2.getD i []) n st)
  | 0, _ => h
  | n + 1, hn => by
    have ih := Disc.row h hi n (by omega)
    have hp := (browN_grow (g := g) i (st.2.getD i []) st n).2.1
    have hle := hp.length_le
    have := ih.step (i := i) (n := n) (by omega) (by omega)
    rw [pre_getD hp hi] at this
    rw [browN_succ]
    exact this

def below (j : Nat) (E : List Ed) : List Ed := E.filter fun x => decide (x.1 < (j : Int))
/-- the words by which the sets of a graph of sets were found -/
structure Found (g : Gr) (a : List Int) (E : List Ed) (L : List (List Int)) : Prop where
  disc : Disc g a (E, L)
  asc : E.Pairwise fun x y => x.1 ≤ y.1
  row : ∀ j, j < L.length → j < (wordsQ (below j E)).length

theorem rowE_from {i : Nat} {a : List Int} {L : List (List Int)} {n : Nat} {x : Ed} (h : x ∈ rowE g i a L n) : x.1 = (i : Int) := by
  unfold rowE at h
  obtain ⟨l, _, h⟩ := List.mem_filterMap.1 h
  split at h
  · cases h
  · cases h; rfl

theorem brun_found (hv : VG g) {a : List Int} {E : List Ed} {L : List (List Int)} (h : brun g 66 0 ([], [a]) = some (E, L)) : Found g a E L := by
  have hl1 := hv.l1
  obtain ⟨k, ⟨h1, h2, h3, h4, h5⟩, hk⟩ := brun_ind (g := g) (P := fun i st => Disc g a st ∧ (∀ x ∈ st.1, 0 ≤ x.1 ∧ x.1 < (i : Int)) ∧ (st.1.Pairwise fun x y => x.1 ≤ y.1) ∧ (∀ j, j ≤ i → j < st.2.length → j < (wordsQ (below j st.1)).length) ∧ i ≤ st.2.length) (fun i st ⟨h1, h2, h3, h4, h5⟩ hi hsm => by
    have hd : Disc g a (brow g i st) := h1.row hi _ (by omega)
    have hlen := (browN_grow (g := g) i (st.2.getD i []) st g.1.toNat).2.1.length_le
    have hform : (brow g i st).1 = st.1 ++ rowE g i (st.2.getD i []) (brow g i st).2 g.1.toNat := (browN_form i (st.2.getD i []) st g.1.toNat _ (List.prefix_refl _)).1
    have hin : ∀ x ∈ (brow g i st).1, 0 ≤ x.1 ∧ x.1 < ((i + 1 : Nat) : Int) := fun x hx => by
      rw [hform] at hx
      rcases List.mem_append.1 hx with hx | hx
      · have := h2 x hx; omega
      · rw [rowE_from hx]; omega
    refine ⟨hd, hin, ?_, fun j hj hjl => ?_, by unfold brow; omega⟩
    · rw [hform, List.pairwise_append]
      refine ⟨h3, ?_, fun x hx y hy => ?_⟩
      · exact List.pairwise_of_forall_mem_list fun x hx y hy => by rw [rowE_from hx, rowE_from hy]; exact Int.le_refl _
      · rw [rowE_from hy]; have := h2 x hx; omega
    · by_cases e : j = i + 1
      · subst e
        have hb : below (i + 1) (brow g i st).1 = (brow g i st).1 := List.filter_eq_self.2 fun x hx => decide_eq_true (hin x hx).2
        rw [hb, hd.len]
        exact hjl
      · have hb : below j (brow g i st).1 = below j st.1 := by
          unfold below
          rw [hform, List.filter_append]
          have : (rowE g i (st.2.getD i []) (brow g i st).2 g.1.toNat).filter (fun x => decide (x.1 < (j : Int))) = [] := List.filter_eq_nil_iff.2 fun x hx => by
            rw [rowE_from hx]; simp; omega
          rw [this, List.append_nil]
        rw [hb]
        exact h4 j (by omega) (by omega)) 66 0 ([], [a]) (E, L) h ⟨disc_one a, fun x hx => by simp at hx, List.Pairwise.nil, fun j hj _ => by
      have : j = 0 := by omega
      subst this; exact wordsQ_pos _, by simp⟩
  have h5 : k ≤ L.length := h5
  have hk : L.length ≤ k := hk
  exact ⟨h1, h3, fun j hj => h4 j (by omega) hj⟩

/-- the edges from numbers below i, and then those from i -/
theorem below_succ {i : Nat} : ∀ {E : List Ed}, (E.Pairwise fun x y => x.1 ≤ y.1) → below (i + 1) E = below i E ++ E.filter fun x => decide (x.1 = (i : Int))
  | [], _ => rfl
  | x :: E, h => by
    obtain ⟨h1, h2⟩ := List.pairwise_cons.1 h
    have ih := below_succ (i := i) h2
    unfold below at ih ⊢
    by_cases c1 : x.1 < (i : Int)
    · rw [List.filter_cons_of_pos (by simp; omega), List.filter_cons_of_pos (by simp; omega), List.filter_cons_of_neg (by simp; omega), ih, List.cons_append]
    · have hnil : E.filter (fun y => decide (y.1 < (i : Int))) = [] := List.filter_eq_nil_iff.2 fun y hy => by
        have := h1 y hy
        simp; omega
      rw [hnil, List.nil_append] at ih
      have e1 : (x :: E).filter (fun y => decide (y.1 < (i : Int))) = [] := by rw [List.filter_cons_of_neg (by simpa using c1), hnil]
      rw [e1, List.nil_append]
      by_cases c2 : x.1 = (i : Int)
      · rw [List.filter_cons_of_pos (by simp; omega), List.filter_cons_of_pos (by simpa using c2), ih]
      · rw [List.filter_cons_of_neg (by simp; omega), List.filter_cons_of_neg (by simpa using c2), ih]
theorem below_pre {i : Nat} : ∀ {E : List Ed}, (E.Pairwise fun x y => x.1 ≤ y.1) → below i E <+: E
  | [], _ => List.prefix_refl _
  | x :: E, h => by
    obtain ⟨h1, h2⟩ := List.pairwise_cons.1 h
    have ih := below_pre (i := i) h2
    unfold below at ih ⊢
    by_cases c1 : x.1 < (i : Int)
    · rw [List.filter_cons_of_pos (by simpa using c1)]
      exact List.cons_prefix_cons.2 ⟨rfl, ih⟩
    · have hnil : E.filter (fun y => decide (y.1 < (i : Int))) = [] := List.filter_eq_nil_iff.2 fun y hy => by
        have := h1 y hy
        simp; omega
      rw [List.filter_cons_of_neg (by simpa using c1), hnil]
      exact List.nil_prefix
theorem wordsQ_below {i : Nat} {E : List Ed} (h : E.Pairwise fun x y => x.1 ≤ y.1) : wordsQ (below i E) <+: wordsQ E := by
  obtain ⟨r, hr⟩ := below_pre (i := i) h
  conv => rhs; rw [← hr]
  exact wordsQ_app _ _
end
end Go.AW

/- Graphs of sets: the first focus. -/
namespace Go.AW
open Go
set_option linter.unusedSimpArgs false
set_option linter.unusedVariables false

section
variable {g : Gr}
def oneB (x : List Int) : Bool := decide (x.length = 1)
def focusR (E : List Ed) (L : List (List Int)) : List Int × Int × Bool × Int := match L.findIdx? oneB with
  | none => ([], 0, false, 0)
  | some i => ((wordsQ E).getD i [], (L.getD i []).getD 0 0, true, 0)
def focusE (g : Gr) (e : Int) : List Int × Int × Bool × Int := if (buildE g e).2.2 ≠ 0 ∨ (buildE g e).1.2.1 = 0 then ([], 0, false, (buildE g e).2.2) else focusR (buildE g e).1.2.2 (buildE g e).2.1

theorem set_next {α : Type} (W : List α) {n : Nat} (x d : α) (h : W.length < n) : (W ++ List.replicate (n - W.length) d).set W.length x = (W ++ [x]) ++ List.replicate (n - (W ++ [x]).length) d := by
  obtain ⟨k, rfl⟩ : ∃ k, n = W.length + 1 + k := ⟨n - W.length - 1, by omega⟩
  rw [show W.length + 1 + k - W.length = k + 1 by omega, List.replicate_succ, List.set_append_right _ _ (Nat.le_refl _)]
  simp only [Nat.sub_self, List.set_cons_zero, List.length_append, List.length_cons, List.length_nil, List.append_assoc, List.singleton_append]
  rw [show W.length + 1 + k - (W.length + (0 + 1)) = k by omega]

theorem upto_ne {n : Int} (h : 0 < n) : upto n ≠ [] := fun e => by
  have := upto_len n
  rw [e] at this
  simp at this
  omega

theorem Focus_eq {e : Int} (he : m_ref09_Check g = some e) (hz : e = 0 ↔ VG g) : m_subset_Focus g = some (focusE g e) := by
  unfold m_subset_Focus
  rw [Build_eq he hz, Option.bind_some]
  unfold focusE
  simp only [jp]
  by_cases hb : (buildE g e).2.2 = 0
  case neg => rw [if_pos hb, if_pos trivial, if_pos (.inl hb)]
  rw [if_neg (by simpa using hb)]
  by_cases hs : (buildE g e).1.2.1 = 0
  case pos => rw [if_pos (decide_eq_true hs), if_pos (.inr hs)]
  rw [if_neg (show ¬ decide ((buildE g e).1.2.1 = 0) = true by simpa using hs), if_neg (show ¬ ((buildE g e).2.2 ≠ 0 ∨ (buildE g e).1.2.1 = 0) from fun h => h.elim (fun h => h hb) hs)]
  -- a graph of sets
  have h0 : e = 0 := by
    apply Classical.byContradiction
    intro h
    unfold buildE at hb
    rw [if_pos h] at hb
    cases hb
  have hv := hz.1 h0
  have hne : g.2.1 ≠ 0 := fun h => by
    unfold buildE buildG at hs
    rw [if_neg (show ¬ e ≠ 0 from fun h => h h0), if_pos h] at hs
    exact hs rfl
  have hpos : 0 < g.2.1 := by have := hv.s0; omega
  have hbe : buildE g e = buildR g (upto g.2.1) := by
    unfold buildE buildG
    rw [if_neg (show ¬ e ≠ 0 from fun h => h h0), if_neg hne]
  rcases buildR_cases (upto_ok g) (upto_ne hpos) with h | ⟨E, L, hS, hrun, h⟩
  · rw [hbe, h] at hb; cases hb
  have hF := brun_found hv hrun
  rw [hbe, h]
  dsimp only
  have hL := hS.s1
  have hE := hS.s2
  have hlenW : (wordsQ E).length = L.length := hF.disc.len
  rw [if_pos (by omega)]
  simp only [Int.toNat_natCast]
  refine lpN (fun x => x = match L.findIdx? oneB with
      | none => Ou.go ()
      | some i => Ou.ret ((wordsQ E).getD i [], (L.getD i []).getD 0 0, true, (0 : Int)))
    (loopN L.length (fun i s => s = ((i : Int), (((wordsQ (below i E)).length : Nat) : Int), wordsQ (below i E) ++ List.replicate (L.length - (wordsQ (below i E)).length) []) ∧ ∀ j, j < i → oneB (L.getD j []) = false)
      (fun i s hi hI => ?_) (fun s hI => ?_) 0 _ (Nat.zero_le _) ⟨?_, fun j hj => by omega⟩) fun x hx => ?_
  · obtain ⟨rfl, hno⟩ := hI
    have hgd : L.getD i [] = L[i] := by simp [List.getD, hi]
    have hpre := wordsQ_below (i := i) hF.asc
    have hple := hpre.length_le
    have hrow := hF.row i hi
    dsimp only
    rw [if_pos (by omega), ix hi]
    simp only [Option.bind_some]
    have hil : i < (wordsQ (below i E) ++ List.replicate (L.length - (wordsQ (below i E)).length) []).length := by simp; omega
    by_cases h1 : L[i].length = 1
    · refine .inr ⟨_, ?_, rfl⟩
      have hf : L.findIdx? oneB = some i := List.findIdx?_eq_some_iff_getElem.2 ⟨hi, decide_eq_true h1, fun j hj => by
        have := hno j hj
        rw [show L.getD j [] = L[j]'(by omega) by simp [List.getD, show j < L.length by omega]] at this
        simp [this]⟩
      rw [if_pos (by omega), ix hil]
      simp only [Option.bind_some]
      rw [ix0 (by omega : 0 < L[i].length), hf]
      simp only [Option.bind_some]
      have e1 : (wordsQ (below i E) ++ List.replicate (L.length - (wordsQ (below i E)).length) [])[i] = (wordsQ E).getD i [] := by
        rw [List.getElem_append_left hrow, pre_getD hpre hrow]
        simp [List.getD, hrow]
      have e2 : (L.getD i []).getD 0 0 = L[i][0] := by rw [hgd]; simp [List.getD, h1]
      rw [e1, e2]
    · refine .inl ?_
      rw [if_neg (by omega)]
      refine ⟨((((i + 1 : Nat) : Int)), (((wordsQ (below (i + 1) E)).length : Nat) : Int), wordsQ (below (i + 1) E) ++ List.replicate (L.length - (wordsQ (below (i + 1) E)).length) []), ?_, rfl, fun j hj => ?_⟩
      case refine_2 =>
        by_cases hji : j = i
        · subst hji; rw [hgd]; exact decide_eq_false h1
        · exact hno j (by omega)
      -- the edges
      have hstep : wordsQ (below (i + 1) E) = (E.filter fun x => decide (x.1 = (i : Int))).foldl wfold (wordsQ (below i E)) := by
        rw [below_succ hF.asc]
        unfold wordsQ
        rw [List.foldl_append]
      let V : Nat → List (List Int) := fun k => ((E.take k).filter fun x => decide (x.1 = (i : Int))).foldl wfold (wordsQ (below i E))
      have hVle : ∀ k, (V k).length ≤ L.length := fun k => by
        have h1 : V k <+: wordsQ (below (i + 1) E) := by
          rw [hstep]
          have : (E.filter fun x => decide (x.1 = (i : Int))) = ((E.take k).filter fun x => decide (x.1 = (i : Int))) ++ (E.drop k).filter fun x => decide (x.1 = (i : Int)) := by rw [← List.filter_append, List.take_append_drop]
          rw [this, List.foldl_append]
          exact foldW_pre _ _
        have h2 := (wordsQ_below (i := i + 1) hF.asc).length_le
        have := h1.length_le
        omega
      have hVge : ∀ k, wordsQ (below i E) <+: V k := fun k => foldW_pre _ _
      have hVs : ∀ k (hk : k < E.length), V (k + 1) = if E[k].1 = (i : Int) then wfold (V k) E[k] else V k := fun k hk => by
        show ((E.take (k + 1)).filter _).foldl wfold _ = _
        rw [List.take_add_one, List.getElem?_eq_getElem hk]
        simp only [Option.toList_some, List.filter_append, List.foldl_append]
        by_cases hc : E[k].1 = (i : Int)
        · rw [if_pos hc, List.filter_cons_of_pos (by simpa using hc)]; rfl
        · rw [if_neg hc, List.filter_cons_of_neg (by simpa using hc)]; rfl
      refine bindL (loop_is (fun k => ((((V k).length : Nat) : Int), (k : Int), V k ++ List.replicate (L.length - (V k).length) [])) E.length (wordsQ (below (i + 1) E) ++ List.replicate (L.length - (wordsQ (below (i + 1) E)).length) [], (((wordsQ (below (i + 1) E)).length : Nat) : Int)) (fun k hk => ?_) ?_ rfl) ?_
      · dsimp only
        rw [if_pos (lt_int hk), ix hk]
        simp only [Option.bind_some, nx (by omega : E.length ≤ _) hk]
        rw [hVs k hk]
        have hmem := hS.mem.1 (List.getElem_mem hk)
        obtain ⟨j, lab, hj, hlab, hnz, hx⟩ := hmem
        have hto := hS.to_lt hj hlab hnz
        by_cases c1 : E[k].1 = (i : Int)
        · rw [if_pos c1, if_pos c1]
          by_cases c2 : E[k].2.2 = (((V k).length : Nat) : Int)
          · have hlt : (V k).length < L.length := by
              rw [hx] at c2
              dsimp only at c2
              omega
            have hVk := (hVge k).length_le
            have hik : i < (V k ++ List.replicate (L.length - (V k).length) []).length := by simp; omega
            have hnk : (V k).length < (V k ++ List.replicate (L.length - (V k).length) ([] : List Int)).length := by simp; omega
            have ei : (V k ++ List.replicate (L.length - (V k).length) [])[i] = (wordsQ E).getD i [] := by
              rw [List.getElem_append_left (by omega), pre_getD hpre hrow]
              have := pre_getD (hVge k) hrow
              rw [← this]
              simp [List.getD, show i < (V k).length by omega]
            have eV : (V k).getD i [] = (wordsQ E).getD i [] := by rw [pre_getD (hVge k) hrow, pre_getD hpre hrow]
            have hsz := hF.disc.size i (by show i < (wordsQ E).length; omega)
            have hsz : ((wordsQ E).getD i []).length ≤ i := hsz
            rw [if_pos (decide_eq_true c2), ix hik]
            simp only [Option.bind_some]
            rw [ei, cloneI_eq (by omega), Option.bind_some, if_pos (fits_le (by simp at hsz ⊢; omega) (by simp at hsz ⊢; omega)), ix hnk]
            simp only [Option.bind_some, Int.toNat_natCast]
            rw [set_next _ _ _ hlt]
            have hw : wfold (V k) E[k] = V k ++ [(wordsQ E).getD i [] ++ [E[k].2.1]] := by
              unfold wfold
              rw [if_pos c2, c1]
              simp only [Int.toNat_natCast]
              rw [eV]
            rw [hw, w64 (by omega) (by omega)]
            simp only [List.length_append, List.length_cons, List.length_nil]
            congr 3
          · rw [if_neg (by simpa using c2)]
            have hw : wfold (V k) E[k] = V k := by unfold wfold; rw [if_neg c2]
            rw [hw]
        · rw [if_neg c1, if_neg c1, if_neg (by decide)]
      · dsimp only
        rw [if_neg (not_lt_int _)]
        have : V E.length = wordsQ (below (i + 1) E) := by
          show ((E.take E.length).filter _).foldl wfold _ = _
          rw [List.take_length, hstep]
        rw [this]
      · dsimp only
        rw [nx (by omega : L.length ≤ _) hi]
  · obtain ⟨rfl, hno⟩ := hI
    dsimp only
    rw [if_neg (by omega)]
    have hf : L.findIdx? oneB = none := List.findIdx?_eq_none_iff.2 fun x hx => by
      obtain ⟨j, hj, rfl⟩ := List.getElem_of_mem hx
      have := hno j hj
      rwa [show L.getD j [] = L[j] by simp [List.getD, hj]] at this
    rw [hf]
    exact ⟨_, rfl, rfl⟩
  · have hb0 : below 0 E = [] := List.filter_eq_nil_iff.2 fun x hx => by
      obtain ⟨j, lab, hj, hlab, hnz, rfl⟩ := hS.mem.1 hx
      simp
    have hlp := hS.len_pos
    rw [hb0]
    obtain ⟨m, hm⟩ : ∃ m, L.length = m + 1 := ⟨L.length - 1, by omega⟩
    rw [hm]
    simp [wordsQ, List.replicate_succ]
  · rw [hx]
    unfold focusR
    cases hf : L.findIdx? oneB with
    | none => rfl
    | some i => rfl
end
end Go.AW

/- Integers: digits to the base 2^32, bytes. -/
namespace Go.AW
open Go
set_option linter.unusedSimpArgs false
set_option linter.unusedVariables false

theorem wu8 (n : Int) : IntKind.wrap .u8 n = n % 256 := by simp [IntKind.wrap, IntKind.bits, IntKind.signed]
theorem wu32 (n : Int) : IntKind.wrap .u32 n = n % 4294967296 := by simp [IntKind.wrap, IntKind.bits, IntKind.signed]
theorem wu64 (n : Int) : IntKind.wrap .u64 n = n % 18446744073709551616 := by simp [IntKind.wrap, IntKind.bits, IntKind.signed]

/-- an invariant, and what the loop comes to -/
theorem loopW_to {S X : Type} {body : S → Option (Stp S X)} {x0 : X} (I : S → Prop) (m : S → Nat) (step : ∀ s, I s → (∃ s', body s = some (.next s') ∧ I s' ∧ m s' < m s) ∨ body s = some (.exit x0)) {s : S} (hI : I s) : loopW body s = some x0 := by
  obtain ⟨x, hx, rfl⟩ := loopW_inv I m (fun x => x = x0) (fun s hs => (step s hs).imp id fun h => ⟨_, h, rfl⟩) s hI
  exact hx

/-- the bytes of a number, the highest first -/
def be (n : Nat) : List UInt8 := if n = 0 then [] else be (n / 256) ++ [UInt8.ofNat n]
termination_by n
decreasing_by omega

theorem be0 : be 0 = [] := by rw [be]; simp
theorem be_step (m c : Nat) (hc : c < 256) (h : ¬ (m = 0 ∧ c = 0)) : be (256 * m + c) = be m ++ [UInt8.ofNat c] := by
  rw [be, if_neg (by omega), show (256 * m + c) / 256 = m by omega]
  congr 2
  apply UInt8.toNat_inj.1
  simp
theorem be_nil {n : Nat} : be n = [] ↔ n = 0 := by
  constructor
  · intro h
    rw [be] at h
    by_cases e : n = 0
    · exact e
    · rw [if_neg e] at h; simp at h
  · rintro rfl; exact be0
theorem be_pos {n : Nat} (h : n ≠ 0) : 0 < (be n).length := List.length_pos_iff.2 fun e => h (be_nil.1 e)

/-- the value of bytes, the highest first -/
def valB (l : List UInt8) : Nat := l.foldl (fun a b => 256 * a + b.toNat) 0
theorem valB_app (l : List UInt8) (b : UInt8) : valB (l ++ [b]) = 256 * valB l + b.toNat := by simp [valB]
theorem valB_be (n : Nat) : valB (be n) = n := by
  induction n using Nat.strongRecOn with
  | _ n ih =>
    rw [be]
    by_cases e : n = 0
    · simp [e, valB]
    · rw [if_neg e, valB_app, ih (n / 256) (by omega)]
      simp
      omega
theorem be_len {n : Nat} : ∀ k, n < 256 ^ k → (be n).length ≤ k
  | 0, h => by
    have : n = 0 := by simpa using h
    rw [this, be0]; simp
  | k + 1, h => by
    rw [be]
    by_cases e : n = 0
    · simp [e]
    · rw [if_neg e, List.length_append]
      have := be_len (n := n / 256) k (by rw [Nat.pow_succ] at h; omega)
      simp
      omega
/-- the value of digits to the base 2^32, the lowest first -/
def valN : List Int → Nat
  | [] => 0
  | d :: l => d.toNat + 4294967296 * valN l
def wfN (x : List Int) : Prop := ∀ d ∈ x, 0 ≤ d ∧ d < 4294967296
theorem valN_zeros : ∀ (x : List Int), (∀ d ∈ x, d = 0) → valN x = 0
  | [], _ => rfl
  | d :: l, h => by
    have h0 := h d (by simp)
    subst h0
    simp [valN, valN_zeros l fun d hd => h d (by simp [hd])]
theorem valN_app : ∀ (x y : List Int), valN (x ++ y) = valN x + 4294967296 ^ x.length * valN y
  | [], y => by simp [valN]
  | d :: l, y => by
    simp only [List.cons_append, valN, valN_app l y, List.length_cons, Nat.pow_succ]
    rw [Nat.mul_add]
    have : 4294967296 ^ l.length * 4294967296 * valN y = 4294967296 * (4294967296 ^ l.length * valN y) := by rw [Nat.mul_comm (4294967296 ^ l.length), Nat.mul_assoc]
    omega
theorem valN_lt : ∀ {x : List Int}, wfN x → valN x < 4294967296 ^ x.length
  | [], _ => by simp [valN]
  | d :: l, h => by
    have h0 := h d (by simp)
    have := valN_lt (x := l) fun d hd => h d (by simp [hd])
    simp only [valN, List.length_cons, Nat.pow_succ]
    omega

/-- without zeros at the end -/
theorem trim_eq : ∀ (n : Nat) (x : List Int), x.length = n → x.length ≤ 9223372036854775807 → ∃ y k, m_integer_trim x = some y ∧ x = y ++ List.replicate k 0 ∧ (y = [] ∨ ∃ z d, y = z ++ [d] ∧ d ≠ 0) := by
  intro n
  induction n with
  | zero =>
    intro x hx _
    have : x = [] := List.length_eq_zero_iff.1 hx
    subst this
    refine ⟨[], 0, ?_, rfl, .inl rfl⟩
    unfold m_integer_trim
    rw [loopW_eq]
    simp [jp]
  | succ n ih =>
    intro x hx hm
    obtain ⟨z, d, rfl⟩ : ∃ z d, x = z ++ [d] := ⟨x.dropLast, x.getLast (by intro e; simp [e] at hx), (List.dropLast_concat_getLast _).symm⟩
    simp only [List.length_append, List.length_cons, List.length_nil, Nat.zero_add] at hx hm
    have hw : IntKind.wrap .i64 (((z ++ [d]).length : Int) - 1) = (z.length : Int) := by
      rw [w64 (by simp only [List.length_append, List.length_cons, List.length_nil]; omega) (by simp only [List.length_append, List.length_cons, List.length_nil]; omega)]
      simp only [List.length_append, List.length_cons, List.length_nil]; omega
    have hi : idx (z ++ [d]) ((z.length : Nat) : Int) = some d := by
      unfold idx
      rw [if_pos (by omega)]
      simp
    by_cases h0 : d = 0
    · subst h0
      obtain ⟨y, k, h1, h2, h3⟩ := ih z (by omega) (by omega)
      refine ⟨y, k + 1, ?_, ?_, h3⟩
      · rw [← h1]
        unfold m_integer_trim
        rw [loopW_eq]
        simp only [jp, hw, hi, Option.bind_some]
        rw [if_pos (by simp)]
        simp only [decide_true, if_true]
        rw [if_pos (by simp; omega)]
        have ht : (((z ++ [(0 : Int)]).take ((z.length : Nat) : Int).toNat).drop (0 : Int).toNat) = z := by simp
        simp only [ht]
      · rw [h2, List.append_assoc]
        congr 1
        rw [show ([(0 : Int)] : List Int) = List.replicate 1 0 from rfl, List.replicate_append_replicate]
    · refine ⟨z ++ [d], 0, ?_, by simp, .inr ⟨z, d, rfl, h0⟩⟩
      unfold m_integer_trim
      rw [loopW_eq]
      simp only [jp, hw, hi, Option.bind_some]
      rw [if_pos (by simp)]
      simp [h0]

theorem trim_spec {x : List Int} (hw : wfN x) (hm : x.length ≤ 9223372036854775807) : ∃ y, m_integer_trim x = some y ∧ valN y = valN x ∧ wfN y ∧ y.length ≤ x.length ∧ (y = [] ↔ valN x = 0) := by
  obtain ⟨y, k, h1, h2, h3⟩ := trim_eq _ x rfl hm
  have hv : valN y = valN x := by
    rw [h2, valN_app, valN_zeros (List.replicate k 0) (fun d hd => (List.mem_replicate.1 hd).2)]
    simp
  have hwy : wfN y := fun d hd => hw d (by rw [h2]; simp [hd])
  refine ⟨y, h1, hv, hwy, by rw [h2]; simp, ?_⟩
  constructor
  · rintro rfl; rw [← hv]; rfl
  · intro h
    rcases h3 with h3 | ⟨z, d, rfl, hd⟩
    · exact h3
    · exfalso
      have h4 := hwy d (by simp)
      rw [← hv, valN_app] at h
      have h5 : valN [d] = 0 := by
        rcases Nat.mul_eq_zero.1 (by omega : 4294967296 ^ z.length * valN [d] = 0) with h6 | h6
        · have := Nat.pow_pos (n := z.length) (show 0 < 4294967296 by decide); omega
        · exact h6
      simp only [valN] at h5
      omega

def bI (l : List UInt8) : List Int := l.map fun c => (c.toNat : Int)
theorem bI_back (l : List UInt8) : (bI l).map (fun n => UInt8.ofNat n.toNat) = l := by
  unfold bI
  rw [List.map_map]
  exact (List.map_congr_left fun c _ => by simp).trans (List.map_id l)
theorem bI_len (l : List UInt8) : (bI l).length = l.length := List.length_map _

theorem byte_at (xi m : Nat) (h : m < 4) : IntKind.wrap .u8 (Int.fdiv (xi : Int) (2 ^ (min ((IntKind.wrap .i64 (8 * (m : Int)))).toNat (IntKind.bits .u32)))) = ((xi / 256 ^ m % 256 : Nat) : Int) := by
  rw [wu8, w64 (by omega) (by omega)]
  have hm : m = 0 ∨ m = 1 ∨ m = 2 ∨ m = 3 := by omega
  rcases hm with rfl | rfl | rfl | rfl
  · have : (2 : Int) ^ (min ((8 * ((0 : Nat) : Int))).toNat (IntKind.bits .u32)) = 1 := by decide
    rw [this, Int.fdiv_eq_ediv_of_nonneg _ (by omega)]; omega
  · have : (2 : Int) ^ (min ((8 * ((1 : Nat) : Int))).toNat (IntKind.bits .u32)) = 256 := by decide
    rw [this, Int.fdiv_eq_ediv_of_nonneg _ (by omega)]; omega
  · have : (2 : Int) ^ (min ((8 * ((2 : Nat) : Int))).toNat (IntKind.bits .u32)) = 65536 := by decide
    rw [this, Int.fdiv_eq_ediv_of_nonneg _ (by omega)]; omega
  · have : (2 : Int) ^ (min ((8 * ((3 : Nat) : Int))).toNat (IntKind.bits .u32)) = 16777216 := by decide
    rw [this, Int.fdiv_eq_ediv_of_nonneg _ (by omega)]; omega

theorem byte_low {N xi H m : Nat} (h : m < 4) (hN : N = xi + 4294967296 * H) : N / 256 ^ m % 256 = xi / 256 ^ m % 256 := by
  have hm : m = 0 ∨ m = 1 ∨ m = 2 ∨ m = 3 := by omega
  rcases hm with rfl | rfl | rfl | rfl <;> omega

theorem fits1 {n : Nat} (h : n ≤ 35184372088832) : fits 1 n := by
  unfold fits
  simp only [maxLen]
  omega

theorem bytes_loop {x2 : List Int} {i : Int} {xi : Nat} (hi : idx x2 i = some (xi : Int)) {N H K : Nat} (hx : xi < 4294967296) (hN : N = xi + 4294967296 * H) (hK : N < 256 ^ K) (hK2 : K ≤ 35184372088830) :
    loopW (S := Int × (List Int)) (X := (List Int)) (fun a10 =>
                if 0 ≤ a10.1 then
                  jp (fun (a14 : (List Int)) =>
                    some (Stp.next (IntKind.wrap .i64 (a10.1 - 1), a14)))
                    fun k16 =>
                    (idx x2 i).bind fun x17 =>
                    if 0 ≤ (IntKind.wrap .i64 (8 * a10.1)) then
                      jp (fun (a20 : Bool) =>
                        if a20 = true then
                          if fits 1 ((a10.2 : List Int).length + ([IntKind.wrap .u8 (Int.fdiv x17 (2 ^ (min ((IntKind.wrap .i64 (8 * a10.1))).toNat (IntKind.bits .u32))))]).length) then
                            k16 (a10.2 ++ [IntKind.wrap .u8 (Int.fdiv x17 (2 ^ (min ((IntKind.wrap .i64 (8 * a10.1))).toNat (IntKind.bits .u32))))])
                          else none
                        else
                          k16 a10.2)
                        fun k22 =>
                        if (IntKind.wrap .u8 (Int.fdiv x17 (2 ^ (min ((IntKind.wrap .i64 (8 * a10.1))).toNat (IntKind.bits .u32))))) ≠ 0 then
                          k22 true
                        else
                          k22 (decide (0 < (((a10.2).length : Nat) : Int)))
                    else none
                else
                  some (Stp.exit a10.2)) (3, bI (be H)) = some (bI (be N)) := by
  have hle : ∀ M, M ≤ N → (be M).length ≤ K := fun M hM => be_len K (by omega)
  refine loopW_to (fun s : Int × List Int => ∃ m : Nat, m ≤ 4 ∧ s = ((m : Int) - 1, bI (be (N / 256 ^ m)))) (fun s => (s.1 + 1).toNat) (fun s hs => ?_) ⟨4, Nat.le_refl _, by
      have : N / 256 ^ 4 = H := by omega
      rw [this]; rfl⟩
  · obtain ⟨m, hm, rfl⟩ := hs
    dsimp only
    cases m with
    | zero =>
      right
      rw [if_neg (by omega)]
      simp
    | succ j =>
      left
      have e : (((j + 1 : Nat) : Int) - 1) = (j : Int) := by omega
      rw [e, if_pos (by omega)]
      simp only [jp, hi, Option.bind_some, byte_at xi j (by omega)]
      rw [if_pos (by rw [w64 (by omega) (by omega)]; omega)]
      have hb := byte_low (m := j) (by omega) hN
      have hs : N / 256 ^ j = 256 * (N / 256 ^ (j + 1)) + xi / 256 ^ j % 256 := by
        rw [← hb, Nat.pow_succ, ← Nat.div_div_eq_div_mul]
        omega
      have hl2 := hle (N / 256 ^ (j + 1)) (Nat.div_le_self _ _)
      generalize xi / 256 ^ j % 256 = c at *
      generalize N / 256 ^ (j + 1) = M at *
      have hc : c < 256 := by
        rw [← hb]; exact Nat.mod_lt _ (by decide)
      have hwj : IntKind.wrap .i64 ((j : Int) - 1) = (j : Int) - 1 := w64 (by omega) (by omega)
      have app : fits 1 ((bI (be M)).length + ([(c : Int)]).length) := fits1 (by simp [bI_len]; omega)
      have hcc : [((c : Nat) : Int)] = bI [UInt8.ofNat c] := by simp [bI]; omega
      by_cases hz : M = 0 ∧ c = 0
      · obtain ⟨rfl, rfl⟩ := hz
        simp only [be0, bI, List.map_nil, List.length_nil]
        refine ⟨_, rfl, ⟨j, by omega, ?_⟩, ?_⟩
        · simp only [hwj, Prod.mk.injEq, true_and]
          rw [hs, Nat.mul_zero, be0]; simp
        · simp [hwj]
      · have hbe := be_step M c hc hz
        by_cases hc0 : c = 0
        · subst hc0
          have hM : M ≠ 0 := fun e => hz ⟨e, rfl⟩
          rw [if_neg (by simp)]
          have : decide (0 < (((bI (be M)).length : Nat) : Int)) = true := by
            have := be_pos hM
            simp [bI_len]; omega
          simp only [this, if_true]
          rw [if_pos app]
          refine ⟨_, rfl, ⟨j, by omega, ?_⟩, ?_⟩
          · simp only [hwj, Prod.mk.injEq, true_and]
            rw [hs, hbe, hcc]; simp [bI]
          · simp [hwj]
        · rw [if_pos (by omega)]
          simp only [if_true]
          rw [if_pos app]
          refine ⟨_, rfl, ⟨j, by omega, ?_⟩, ?_⟩
          · simp only [hwj, Prod.mk.injEq, true_and]
            rw [hs, hbe, hcc]; simp [bI]
          · simp [hwj]

theorem number_spec {x : List Int} (hw : wfN x) (hm : x.length ≤ 1099511627776) (neg : Bool) : m_integer_number neg x = some (if valN x = 0 then (false, []) else (neg, be (valN x))) := by
  obtain ⟨y, h1, hv, hwy, hyl, hy0⟩ := trim_spec hw (by omega)
  unfold m_integer_number
  rw [h1, Option.bind_some]
  by_cases h0 : valN x = 0
  · rw [if_pos h0]
    have := hy0.2 h0
    subst this
    simp
  · rw [if_neg h0]
    have hy : y ≠ [] := fun e => h0 (hy0.1 e)
    have hyp : 0 < y.length := List.length_pos_iff.2 hy
    rw [if_neg (by omega), if_pos (by rw [w64 (by omega) (by omega)]; omega)]
    have main : ∃ b, loopW (S := Int × (List Int)) (X := (List Int)) (fun a6 =>
          if 0 ≤ a6.1 then
            (loopW (S := Int × (List Int)) (X := (List Int)) (fun a10 =>
                if 0 ≤ a10.1 then
                  jp (fun (a14 : (List Int)) =>
                    some (Stp.next (IntKind.wrap .i64 (a10.1 - 1), a14)))
                    fun k16 =>
                    (idx y a6.1).bind fun x17 =>
                    if 0 ≤ (IntKind.wrap .i64 (8 * a10.1)) then
                      jp (fun (a20 : Bool) =>
                        if a20 = true then
                          if fits 1 ((a10.2 : List Int).length + ([IntKind.wrap .u8 (Int.fdiv x17 (2 ^ (min ((IntKind.wrap .i64 (8 * a10.1))).toNat (IntKind.bits .u32))))]).length) then
                            k16 (a10.2 ++ [IntKind.wrap .u8 (Int.fdiv x17 (2 ^ (min ((IntKind.wrap .i64 (8 * a10.1))).toNat (IntKind.bits .u32))))])
                          else none
                        else
                          k16 a10.2)
                        fun k22 =>
                        if (IntKind.wrap .u8 (Int.fdiv x17 (2 ^ (min ((IntKind.wrap .i64 (8 * a10.1))).toNat (IntKind.bits .u32))))) ≠ 0 then
                          k22 true
                        else
                          k22 (decide (0 < (((a10.2).length : Nat) : Int)))
                    else none
                else
                  some (Stp.exit a10.2)) (3, a6.2)).bind fun a26 =>
            some (Stp.next (IntKind.wrap .i64 (a6.1 - 1), a26))
          else
            some (Stp.exit a6.2)) (IntKind.wrap .i64 (((y).length : Int) - 1), List.replicate (0 : Int).toNat (0 : Int)) = some b ∧ b = bI (be (valN y)) := by
      refine loopW_inv (fun s : Int × List Int => ∃ i : Nat, i ≤ y.length ∧ s = ((i : Int) - 1, bI (be (valN (y.drop i))))) (fun s => (s.1 + 1).toNat) (fun b => b = bI (be (valN y))) (fun s hs => ?_) _ ⟨y.length, Nat.le_refl _, by
        rw [w64 (by omega) (by omega)]
        simp [valN, be0, bI]⟩
      obtain ⟨i, hi, rfl⟩ := hs
      dsimp only
      cases i with
      | zero =>
        right
        rw [if_neg (by omega)]
        exact ⟨_, rfl, by simp⟩
      | succ j =>
        left
        have e : (((j + 1 : Nat) : Int) - 1) = (j : Int) := by omega
        rw [e, if_pos (by omega)]
        have hdj : y.drop j = y[j] :: y.drop (j + 1) := List.drop_eq_getElem_cons (by omega)
        have hd := hwy y[j] (List.getElem_mem _)
        have hix : idx y (j : Int) = some ((y[j].toNat : Nat) : Int) := by
          unfold idx
          rw [if_pos (by omega)]
          simp only [Int.toNat_natCast, List.getElem?_eq_getElem (show j < y.length by omega)]
          congr 1
          omega
        have hwd : wfN (y.drop j) := fun d hd => hwy d (List.mem_of_mem_drop hd)
        have hlt := valN_lt hwd
        have hK : valN (y.drop j) < 256 ^ (4 * y.length) := by
          refine Nat.lt_of_lt_of_le hlt ?_
          rw [show (4294967296 : Nat) = 256 ^ 4 by decide, ← Nat.pow_mul]
          exact Nat.pow_le_pow_right (by decide) (by simp; omega)
        rw [bytes_loop hix (H := valN (y.drop (j + 1))) (N := valN (y.drop j)) (K := 4 * y.length) (by omega) (by rw [hdj, valN]) hK (by omega)]
        refine ⟨_, rfl, ⟨j, by omega, ?_⟩, ?_⟩
        · rw [w64 (by omega) (by omega)]
        · dsimp only
          rw [w64 (by omega) (by omega)]; omega
    obtain ⟨b, hb, rfl⟩ := main
    rw [hb, Option.bind_some, bI_back, hv]

theorem of_spec {n : Int} (h0 : 0 ≤ n) (h1 : n ≤ 9223372036854775807) : m_integer_Of n = some (false, be n.toNat) := by
  unfold m_integer_Of
  simp only [jp]
  rw [if_neg (by omega)]
  have e : IntKind.wrap .u64 n = n := by rw [wu64]; omega
  have e2 : Int.fdiv n (2 ^ (min (32 : Int).toNat (IntKind.bits .u64))) = n / 4294967296 := by
    have : (2 : Int) ^ (min (32 : Int).toNat (IntKind.bits .u64)) = 4294967296 := by decide
    rw [this, Int.fdiv_eq_ediv_of_nonneg _ (by omega)]
  rw [e, e2, wu32, wu32]
  have hv : valN [n % 4294967296, n / 4294967296 % 4294967296] = n.toNat := by
    simp only [valN]; omega
  rw [number_spec (x := [n % 4294967296, n / 4294967296 % 4294967296]) (by intro d hd; simp at hd; omega) (by simp), hv, Option.bind_some]
  by_cases h : n.toNat = 0
  · rw [if_pos h, h, be0]
  · rw [if_neg h]
    have : decide (n < 0) = false := by simp; omega
    rw [this]

theorem valB_cons (c : UInt8) (l : List UInt8) : valB (c :: l) = c.toNat * 256 ^ l.length + valB l := by
  have gen : ∀ (l : List UInt8) (a : Nat), l.foldl (fun a b => 256 * a + b.toNat) a = a * 256 ^ l.length + valB l := by
    intro l
    induction l with
    | nil => intro a; simp [valB]
    | cons b l ih =>
      intro a
      have e1 := ih (256 * a + b.toNat)
      have e2 := ih b.toNat
      simp only [List.foldl_cons, valB, List.length_cons, Nat.pow_succ] at e1 e2 ⊢
      rw [e1, show 256 * 0 + b.toNat = b.toNat by omega, e2, Nat.add_mul, Nat.mul_comm 256 a, Nat.mul_assoc, Nat.mul_comm 256 (256 ^ l.length)]
      omega
  have := gen l c.toNat
  simp only [valB, List.foldl_cons, Nat.mul_zero, Nat.zero_add] at this ⊢
  exact this
theorem valB_lt : ∀ l : List UInt8, valB l < 256 ^ l.length
  | [] => by simp [valB]
  | c :: l => by
    rw [valB_cons, List.length_cons, Nat.pow_succ]
    have h1 := valB_lt l
    have h2 := c.toNat_lt
    have h3 : c.toNat * 256 ^ l.length ≤ 255 * 256 ^ l.length := Nat.mul_le_mul_right _ (by omega)
    omega

theorem valN_set : ∀ (x : List Int) (q : Nat) (d : Int) (h : q < x.length), valN (x.set q d) + 4294967296 ^ q * x[q].toNat = valN x + 4294967296 ^ q * d.toNat
  | [], _, _, h => by simp at h
  | e :: l, 0, d, _ => by simp [valN]; omega
  | e :: l, q + 1, d, h => by
    have ih := valN_set l q d (by simpa using h)
    simp only [List.set_cons_succ, valN, List.getElem_cons_succ, Nat.pow_succ]
    have a1 : 4294967296 ^ q * 4294967296 * (l[q]'(by simpa using h)).toNat = 4294967296 * (4294967296 ^ q * (l[q]'(by simpa using h)).toNat) := by rw [Nat.mul_comm (4294967296 ^ q), Nat.mul_assoc]
    have a2 : 4294967296 ^ q * 4294967296 * d.toNat = 4294967296 * (4294967296 ^ q * d.toNat) := by rw [Nat.mul_comm (4294967296 ^ q), Nat.mul_assoc]
    omega
theorem wfN_set {x : List Int} (h : wfN x) {q : Nat} {d : Int} (hd : 0 ≤ d ∧ d < 4294967296) : wfN (x.set q d) := fun e he => by
  rcases List.mem_or_eq_of_mem_set he with h1 | rfl
  · exact h e h1
  · exact hd
theorem valN_drop (x : List Int) (q : Nat) : valN x = valN (x.take q) + 4294967296 ^ (x.take q).length * valN (x.drop q) := by
  have := valN_app (x.take q) (x.drop q)
  rwa [List.take_append_drop] at this

theorem or_case (a c m : Nat) (hm : m < 4) (ha : a < 256 ^ m) (hc : c < 256) :
    IntKind.wrap .u32 (BitVec.ofInt (IntKind.bits .u32) (a : Int) ||| BitVec.ofInt (IntKind.bits .u32) (IntKind.wrap .u32 ((IntKind.wrap .u32 (c : Int)) * 2 ^ (min ((IntKind.wrap .i64 (8 * (m : Int)))).toNat (IntKind.bits .u32))))).toNat = ((a + c * 256 ^ m : Nat) : Int) := by
  have key : ∀ k : Nat, 256 ^ m = 2 ^ k → k < 25 → IntKind.wrap .u32 (BitVec.ofInt (IntKind.bits .u32) (a : Int) ||| BitVec.ofInt (IntKind.bits .u32) (((c * 2 ^ k : Nat) : Int))).toNat = ((a + c * 256 ^ m : Nat) : Int) := by
    intro k hk hk2
    have hlt : c * 2 ^ k < 4294967296 := by
      have h1 : (2 : Nat) ^ k ≤ 2 ^ 24 := Nat.pow_le_pow_right (by decide) (by omega)
      have h2 : c * 2 ^ k ≤ 255 * 2 ^ 24 := Nat.mul_le_mul (by omega) h1
      omega
    have ha2 : a < 2 ^ k := by rw [← hk]; exact ha
    have ha3 : a < 4294967296 := by
      have h1 : (2 : Nat) ^ k ≤ 2 ^ 24 := Nat.pow_le_pow_right (by decide) (by omega)
      omega
    rw [BitVec.toNat_or]
    have e1 : (BitVec.ofInt (IntKind.bits .u32) ((a : Nat) : Int)).toNat = a := by
      rw [BitVec.toNat_ofInt]
      show (((a : Nat) : Int) % ((2 ^ 32 : Nat) : Int)).toNat = a
      omega
    have e2 : (BitVec.ofInt (IntKind.bits .u32) ((c * 2 ^ k : Nat) : Int)).toNat = c * 2 ^ k := by
      rw [BitVec.toNat_ofInt]
      show (((c * 2 ^ k : Nat) : Int) % ((2 ^ 32 : Nat) : Int)).toNat = c * 2 ^ k
      omega
    rw [e1, e2, Nat.or_comm, Nat.mul_comm c, ← Nat.two_pow_add_eq_or_of_lt ha2, hk, wu32, Nat.mul_comm c]
    have hlt2 : 2 ^ k * c + a < 4294967296 := by
      have h1 : (2 : Nat) ^ k ≤ 2 ^ 24 := Nat.pow_le_pow_right (by decide) (by omega)
      have h2 : 2 ^ k * c ≤ 2 ^ k * 255 := Nat.mul_le_mul_left _ (by omega)
      omega
    omega
  rw [wu32 (c : Int), w64 (by omega) (by omega)]
  have hcm : (c : Int) % 4294967296 = c := by omega
  rw [hcm]
  have hm' : m = 0 ∨ m = 1 ∨ m = 2 ∨ m = 3 := by omega
  rcases hm' with rfl | rfl | rfl | rfl
  · rw [← key 0 (by decide) (by decide), wu32 ((c : Int) * _), show (2 : Int) ^ (min ((8 * ((0 : Nat) : Int))).toNat (IntKind.bits .u32)) = 1 by decide]
    congr 5; omega
  · rw [← key 8 (by decide) (by decide), wu32 ((c : Int) * _), show (2 : Int) ^ (min ((8 * ((1 : Nat) : Int))).toNat (IntKind.bits .u32)) = 256 by decide]
    congr 5; omega
  · rw [← key 16 (by decide) (by decide), wu32 ((c : Int) * _), show (2 : Int) ^ (min ((8 * ((2 : Nat) : Int))).toNat (IntKind.bits .u32)) = 65536 by decide]
    congr 5; omega
  · rw [← key 24 (by decide) (by decide), wu32 ((c : Int) * _), show (2 : Int) ^ (min ((8 * ((3 : Nat) : Int))).toNat (IntKind.bits .u32)) = 16777216 by decide]
    congr 5; omega

theorem digits_spec {neg : Bool} {l : List UInt8} (hl : l.length ≤ 1099511627776) : ∃ y, m_integer_digits (neg, l) = some y ∧ valN y = valB l ∧ wfN y ∧ y.length ≤ (l.length + 3) / 4 := by
  unfold m_integer_digits
  dsimp only
  have hL : IntKind.wrap .i64 (Int.tdiv (IntKind.wrap .i64 ((l.length : Int) + 3)) 4) = (((l.length + 3) / 4 : Nat) : Int) := by
    rw [w64 (n := (l.length : Int) + 3) (by omega) (by omega), Int.tdiv_eq_ediv_of_nonneg (by omega), w64 (by omega) (by omega)]
    omega
  rw [hL]
  generalize hLL : (l.length + 3) / 4 = L
  rw [if_pos (by omega), Int.toNat_natCast]
  have main : ∃ z, loopW (S := Int × (List Int)) (X := (List Int)) (fun a3 =>
        if a3.1 < ((l).length : Int) then
          (idx l (IntKind.wrap .i64 ((IntKind.wrap .i64 (((l).length : Int) - 1)) - a3.1))).bind fun x7 =>
          (idx a3.2 (IntKind.wrap .i64 (Int.tdiv a3.1 4))).bind fun x9 =>
          (idx a3.2 (IntKind.wrap .i64 (Int.tdiv a3.1 4))).bind fun x11 =>
          if 0 ≤ (IntKind.wrap .i64 (8 * (Int.tmod a3.1 4))) then
            (idx a3.2 (IntKind.wrap .i64 (Int.tdiv a3.1 4))).bind fun x14 =>
            some (Stp.next (IntKind.wrap .i64 (a3.1 + 1), (a3.2).set (IntKind.wrap .i64 (Int.tdiv a3.1 4)).toNat (IntKind.wrap .u32 (BitVec.ofInt (IntKind.bits .u32) x11 ||| BitVec.ofInt (IntKind.bits .u32) (IntKind.wrap .u32 ((IntKind.wrap .u32 (x7.toNat : Int)) * 2 ^ (min ((IntKind.wrap .i64 (8 * (Int.tmod a3.1 4)))).toNat (IntKind.bits .u32))))).toNat)))
          else none
        else
          some (Stp.exit a3.2)) (0, List.replicate L (0 : Int)) = some z ∧ (z.length = L ∧ wfN z ∧ valN z = valB l) := by
    refine loopN l.length (fun i s => ∃ out : List Int, s = ((i : Int), out) ∧ out.length = L ∧ wfN out ∧ valN out = valB (l.drop (l.length - i))) (fun i s hi hs => ?_) (fun s hs => ?_) 0 _ (Nat.zero_le _) ⟨_, rfl, by simp, ?_, ?_⟩
    · left
      obtain ⟨out, rfl, ho, hw, hv⟩ := hs
      dsimp only
      rw [if_pos (lt_int hi)]
      have e1 : IntKind.wrap .i64 (IntKind.wrap .i64 ((l.length : Int) - 1) - (i : Int)) = ((l.length - 1 - i : Nat) : Int) := by
        rw [w64 (n := (l.length : Int) - 1) (by omega) (by omega), w64 (by omega) (by omega)]; omega
      have e2 : IntKind.wrap .i64 (Int.tdiv (i : Int) 4) = ((i / 4 : Nat) : Int) := by
        rw [Int.tdiv_eq_ediv_of_nonneg (by omega), w64 (by omega) (by omega)]; omega
      have e3 : Int.tmod (i : Int) 4 = ((i % 4 : Nat) : Int) := by
        rw [Int.tmod_eq_emod_of_nonneg (by omega)]; omega
      have hq : i / 4 < out.length := by omega
      rw [e1, e2, e3, idx_nat, idx_nat, List.getElem?_eq_getElem (show l.length - 1 - i < l.length by omega), List.getElem?_eq_getElem hq]
      simp only [Option.bind_some, Int.toNat_natCast]
      rw [if_pos (by rw [w64 (by omega) (by omega)]; omega)]
      have hd := hw out[i / 4] (List.getElem_mem _)
      obtain ⟨a, ha⟩ := Int.eq_ofNat_of_zero_le hd.1
      have hdrop : l.drop (l.length - (i + 1)) = l[l.length - 1 - i] :: l.drop (l.length - i) := by
        rw [List.drop_eq_getElem_cons (show l.length - (i + 1) < l.length by omega)]
        congr 1
        · congr 1; omega
        · congr 1; omega
      have hvl : valN out < 256 ^ i := by
        rw [hv]
        have := valB_lt (l.drop (l.length - i))
        rwa [List.length_drop, show l.length - (l.length - i) = i by omega] at this
      have hpow : (4294967296 : Nat) ^ (i / 4) * 256 ^ (i % 4) = 256 ^ i := by
        rw [show (4294967296 : Nat) = 256 ^ 4 by decide, ← Nat.pow_mul, ← Nat.pow_add]
        congr 1; omega
      have hp0 : 0 < (4294967296 : Nat) ^ (i / 4) := Nat.pow_pos (by decide)
      have ha2 : a < 256 ^ (i % 4) := by
        have h1 := valN_drop out (i / 4)
        rw [List.length_take, Nat.min_eq_left (by omega), List.drop_eq_getElem_cons hq, valN, ha, Int.toNat_natCast] at h1
        have h2 : 4294967296 ^ (i / 4) * a ≤ 4294967296 ^ (i / 4) * (a + 4294967296 * valN (out.drop (i / 4 + 1))) := Nat.mul_le_mul_left _ (by omega)
        have h3 : 4294967296 ^ (i / 4) * a < 4294967296 ^ (i / 4) * 256 ^ (i % 4) := by rw [hpow]; omega
        exact Nat.lt_of_mul_lt_mul_left h3
      have hc := (l[l.length - 1 - i]).toNat_lt
      rw [ha, or_case a _ (i % 4) (by omega) ha2 (by omega)]
      refine ⟨_, rfl, _, Prod.ext (nx (n := l.length) (by omega) hi) rfl, by simp [ho], wfN_set hw ?_, ?_⟩
      · have h1 : (256 : Nat) ^ (i % 4) ≤ 256 ^ 3 := Nat.pow_le_pow_right (by decide) (by omega)
        have h2 : (l[l.length - 1 - i]).toNat * 256 ^ (i % 4) ≤ 255 * 256 ^ (i % 4) := Nat.mul_le_mul_right _ (by omega)
        omega
      · have h1 := valN_set out (i / 4) ((a + (l[l.length - 1 - i]).toNat * 256 ^ (i % 4) : Nat) : Int) hq
        rw [ha, Int.toNat_natCast, Int.toNat_natCast, Nat.mul_add] at h1
        rw [hdrop, valB_cons, List.length_drop, show l.length - (l.length - i) = i by omega, ← hv]
        have h2 : 4294967296 ^ (i / 4) * ((l[l.length - 1 - i]).toNat * 256 ^ (i % 4)) = (l[l.length - 1 - i]).toNat * 256 ^ i := by
          rw [← hpow, Nat.mul_left_comm]
        omega
    · obtain ⟨out, rfl, ho, hw, hv⟩ := hs
      dsimp only
      rw [if_neg (by omega)]
      refine ⟨_, rfl, ho, hw, ?_⟩
      rw [hv, Nat.sub_self, List.drop_zero]
    · intro d hd
      rw [(List.mem_replicate.1 hd).2]; omega
    · rw [valN_zeros _ fun d hd => (List.mem_replicate.1 hd).2]
      simp [valB]
  obtain ⟨z, hz, h1, h2, h3⟩ := main
  rw [hz, Option.bind_some]
  obtain ⟨y, hy, hv, hwy, hyl, _⟩ := trim_spec h2 (by omega)
  exact ⟨y, by rw [hy, Option.bind_some], by rw [hv, h3], hwy, by omega⟩

theorem valN_snoc (x : List Int) (d : Int) : valN (x ++ [d]) = valN x + 4294967296 ^ x.length * d.toNat := by rw [valN_app]; simp [valN]
theorem take_snoc {x : List Int} {i : Nat} (h : i < x.length) : x.take (i + 1) = x.take i ++ [x[i]] := (List.take_append_getElem h).symm

theorem add_core {u v : List Int} (hu : wfN u) (hv : wfN v) (hlu : u.length ≤ 1099511627776) (hlv : v.length ≤ u.length) :
    ∃ z, ((loopW (S := Int × Int × (List Int)) (X := (List Int) × Int) (fun a6 =>
          if a6.2.1 < ((u).length : Int) then
            (idx u a6.2.1).bind fun x10 =>
            jp (fun (a12 : Int) =>
              (idx a6.2.2 a6.2.1).bind fun x15 =>
              some (Stp.next (Int.fdiv a12 (2 ^ (min (32 : Int).toNat (IntKind.bits .u64))), IntKind.wrap .i64 (a6.2.1 + 1), (a6.2.2).set (a6.2.1).toNat (IntKind.wrap .u32 a12))))
              fun k14 =>
              if a6.2.1 < ((v).length : Int) then
                (idx v a6.2.1).bind fun x17 =>
                k14 (IntKind.wrap .u64 ((IntKind.wrap .u64 ((IntKind.wrap .u64 x10) + a6.1)) + (IntKind.wrap .u64 x17)))
              else
                k14 (IntKind.wrap .u64 ((IntKind.wrap .u64 x10) + a6.1))
          else
            some (Stp.exit (a6.2.2, a6.1))) (0, 0, List.replicate (IntKind.wrap .i64 (((u).length : Int) + 1)).toNat (0 : Int))).bind fun a19 =>
      (idx a19.1 ((u).length : Int)).bind fun x21 =>
      (m_integer_trim ((a19.1).set (((u).length : Int)).toNat (IntKind.wrap .u32 a19.2))).bind fun x23 =>
      some x23) = some z ∧ valN z = valN u + valN v ∧ wfN z ∧ z.length ≤ u.length + 1 := by
  have hL : IntKind.wrap .i64 ((u.length : Int) + 1) = ((u.length + 1 : Nat) : Int) := by rw [w64 (by omega) (by omega)]; omega
  rw [hL, Int.toNat_natCast]
  have hsh : (2 : Int) ^ (min (32 : Int).toNat (IntKind.bits .u64)) = 4294967296 := by decide
  simp only [hsh]
  have main : ∃ r, loopW (S := Int × Int × (List Int)) (X := (List Int) × Int) (fun a6 =>
          if a6.2.1 < ((u).length : Int) then
            (idx u a6.2.1).bind fun x10 =>
            jp (fun (a12 : Int) =>
              (idx a6.2.2 a6.2.1).bind fun x15 =>
              some (Stp.next (Int.fdiv a12 4294967296, IntKind.wrap .i64 (a6.2.1 + 1), (a6.2.2).set (a6.2.1).toNat (IntKind.wrap .u32 a12))))
              fun k14 =>
              if a6.2.1 < ((v).length : Int) then
                (idx v a6.2.1).bind fun x17 =>
                k14 (IntKind.wrap .u64 ((IntKind.wrap .u64 ((IntKind.wrap .u64 x10) + a6.1)) + (IntKind.wrap .u64 x17)))
              else
                k14 (IntKind.wrap .u64 ((IntKind.wrap .u64 x10) + a6.1))
          else
            some (Stp.exit (a6.2.2, a6.1))) (0, 0, List.replicate (u.length + 1) (0 : Int)) = some r ∧ (r.1.length = u.length + 1 ∧ wfN r.1 ∧ (0 ≤ r.2 ∧ r.2 ≤ 1) ∧ ∃ h : u.length < r.1.length, r.1[u.length] = 0 ∧ valN r.1 + 4294967296 ^ u.length * r.2.toNat = valN u + valN v) := by
    refine loopN u.length (fun i s => ∃ (c : Nat) (out : List Int), s = ((c : Int), (i : Int), out) ∧ out.length = u.length + 1 ∧ wfN out ∧ c ≤ 1 ∧ (∀ j (h : j < out.length), i ≤ j → out[j] = 0) ∧ valN out + 4294967296 ^ i * c = valN (u.take i) + valN (v.take i)) (fun i s hi hs => ?_) (fun s hs => ?_) 0 _ (Nat.zero_le _) ⟨0, _, rfl, by simp, ?_, by omega, ?_, ?_⟩
    · left
      obtain ⟨c, out, rfl, ho, hw, hc, hz, hv2⟩ := hs
      dsimp only
      rw [if_pos (lt_int hi), idx_nat, List.getElem?_eq_getElem hi]
      have hio : i < out.length := by omega
      have ht := hu u[i] (List.getElem_mem _)
      simp only [jp, Option.bind_some, idx_nat, List.getElem?_eq_getElem hio, Int.toNat_natCast]
      have fin : ∀ t : Nat, t < 4294967296 → (t : Int) = (if h : i < v.length then v[i] else 0) →
          ∃ s', some (Stp.next (X := (List Int) × Int) (Int.fdiv ((u[i] + c + t : Int)) 4294967296, IntKind.wrap .i64 ((i : Int) + 1), out.set i (IntKind.wrap .u32 (u[i] + c + t)))) = some (.next s') ∧ ∃ (c : Nat) (out : List Int), s' = ((c : Int), ((i + 1 : Nat) : Int), out) ∧ out.length = u.length + 1 ∧ wfN out ∧ c ≤ 1 ∧ (∀ j (h : j < out.length), i + 1 ≤ j → out[j] = 0) ∧ valN out + 4294967296 ^ (i + 1) * c = valN (u.take (i + 1)) + valN (v.take (i + 1)) := by
        intro t ht2 hte
        obtain ⟨a, ha⟩ := Int.eq_ofNat_of_zero_le ht.1
        rw [ha]
        have e1 : Int.fdiv ((a : Int) + c + t) 4294967296 = (((a + c + t) / 4294967296 : Nat) : Int) := by
          rw [Int.fdiv_eq_ediv_of_nonneg _ (by omega)]; omega
        have e2 : IntKind.wrap .u32 ((a : Int) + c + t) = (((a + c + t) % 4294967296 : Nat) : Int) := by rw [wu32]; omega
        rw [e1, e2, nx (n := u.length) (by omega) hi]
        refine ⟨_, rfl, (a + c + t) / 4294967296, _, rfl, by simp [ho], wfN_set hw (by omega), by omega, ?_, ?_⟩
        · intro j hj hij
          rw [List.getElem_set_ne (by omega)]
          exact hz j (by simpa using hj) (by omega)
        · have h1 := valN_set out i (((a + c + t) % 4294967296 : Nat) : Int) hio
          rw [hz i hio (Nat.le_refl _), Int.toNat_natCast] at h1
          have hut : valN (u.take (i + 1)) = valN (u.take i) + 4294967296 ^ i * a := by
            rw [take_snoc hi, valN_snoc, ha, Int.toNat_natCast, List.length_take, Nat.min_eq_left (by omega)]
          have hvt : valN (v.take (i + 1)) = valN (v.take i) + 4294967296 ^ i * t := by
            by_cases hiv : i < v.length
            · rw [dif_pos hiv] at hte
              rw [take_snoc hiv, valN_snoc, ← hte, Int.toNat_natCast, List.length_take, Nat.min_eq_left (by omega)]
            · rw [dif_neg hiv] at hte
              have : t = 0 := by omega
              subst this
              rw [List.take_of_length_le (by omega), List.take_of_length_le (by omega)]; omega
          rw [hut, hvt, Nat.pow_succ]
          have h2 : 4294967296 ^ i * 4294967296 * ((a + c + t) / 4294967296) + 4294967296 ^ i * ((a + c + t) % 4294967296) = 4294967296 ^ i * (a + c + t) := by
            rw [Nat.mul_assoc, ← Nat.mul_add, Nat.div_add_mod]
          rw [Nat.mul_add, Nat.mul_add] at h2
          simp only [Int.toNat_zero, Nat.mul_zero, Nat.add_zero] at h1
          omega
      have e0 : IntKind.wrap .u64 (IntKind.wrap .u64 u[i] + (c : Int)) = u[i] + c := by rw [wu64, wu64]; omega
      by_cases hiv : i < v.length
      · rw [if_pos (lt_int hiv), List.getElem?_eq_getElem hiv, Option.bind_some]
        have hvi := hv v[i] (List.getElem_mem _)
        have := fin v[i].toNat (by omega) (by rw [dif_pos hiv]; omega)
        rw [show ((v[i].toNat : Nat) : Int) = v[i] by omega] at this
        have e3 : IntKind.wrap .u64 (u[i] + c + IntKind.wrap .u64 v[i]) = u[i] + c + v[i] := by rw [wu64, wu64]; omega
        rw [e0, e3]
        exact this
      · rw [if_neg (by omega), e0]
        have := fin 0 (by decide) (by rw [dif_neg hiv]; rfl)
        simpa using this
    · obtain ⟨c, out, rfl, ho, hw, hc, hz, hv2⟩ := hs
      dsimp only
      rw [if_neg (by omega)]
      refine ⟨_, rfl, ho, hw, by omega, by dsimp only; omega, hz _ _ (Nat.le_refl _), ?_⟩
      rw [List.take_of_length_le (Nat.le_refl _), List.take_of_length_le hlv] at hv2
      simpa using hv2
    · intro d hd
      rw [(List.mem_replicate.1 hd).2]; omega
    · intro j hj _
      simp
    · rw [valN_zeros _ fun d hd => (List.mem_replicate.1 hd).2]
      simp [valN]
  obtain ⟨⟨out, c⟩, hr, ho, hw, hc, hlt, h0, hval⟩ := main
  rw [hr, Option.bind_some]
  dsimp only at ho hw hc hlt h0 hval ⊢
  rw [idx_nat, List.getElem?_eq_getElem hlt, Option.bind_some, Int.toNat_natCast]
  have hc2 : IntKind.wrap .u32 c = c := by rw [wu32]; omega
  rw [hc2]
  have hwz : wfN (out.set u.length c) := wfN_set hw (by omega)
  obtain ⟨y, hy, hv2, hwy, hyl, _⟩ := trim_spec hwz (by simp [ho]; omega)
  refine ⟨y, by rw [hy, Option.bind_some], ?_, hwy, by simp [ho] at hyl; omega⟩
  have h1 := valN_set out u.length c hlt
  rw [h0] at h1
  simp only [Int.toNat_zero, Nat.mul_zero, Nat.add_zero] at h1
  rw [hv2, h1, hval]

theorem add_spec {x y : List Int} (hx : wfN x) (hy : wfN y) (lx : x.length ≤ 1099511627776) (ly : y.length ≤ 1099511627776) :
    ∃ z, m_integer_add x y = some z ∧ valN z = valN x + valN y ∧ wfN z ∧ z.length ≤ max x.length y.length + 1 := by
  unfold m_integer_add
  simp only [jp]
  by_cases h : x.length < y.length
  · rw [if_pos (lt_int h), if_pos (by rw [w64 (by omega) (by omega)]; omega)]
    obtain ⟨z, h1, h2, h3, h4⟩ := add_core hy hx ly (by omega)
    exact ⟨z, h1, by rw [h2, Nat.add_comm], h3, by omega⟩
  · rw [if_neg (by omega), if_pos (by rw [w64 (by omega) (by omega)]; omega)]
    obtain ⟨z, h1, h2, h3, h4⟩ := add_core hx hy lx (by omega)
    exact ⟨z, h1, h2, h3, by omega⟩

theorem Add_spec {a b : Nat} (ha : (be a).length ≤ 1099511627776) (hb : (be b).length ≤ 1099511627776) : m_integer_Add (false, be a) (false, be b) = some (false, be (a + b)) := by
  unfold m_integer_Add
  obtain ⟨x, hx, hvx, hwx, hlx⟩ := digits_spec (neg := false) ha
  obtain ⟨y, hy, hvy, hwy, hly⟩ := digits_spec (neg := false) hb
  obtain ⟨z, hz, hvz, hwz, hlz⟩ := add_spec hwx hwy (by omega) (by omega)
  rw [hx, Option.bind_some, hy, Option.bind_some]
  simp only [beq_self_eq_true, if_true, hz, Option.bind_some]
  rw [number_spec hwz (by omega), Option.bind_some, hvz, hvx, hvy, valB_be, valB_be]
  by_cases h : a + b = 0
  · rw [if_pos h, h, be0]
  · rw [if_neg h]
end Go.AW

/- Graphs of sets: the number of words. -/
namespace Go.AW
open Go
set_option linter.unusedSimpArgs false
set_option linter.unusedVariables false

theorem getD_lt {α : Type} {l : List α} {d : α} {i : Nat} (h : i < l.length) : l.getD i d = l[i] := by simp [List.getD, h]

section
variable {g : Gr}
def bz (n : Nat) : TNegMag := (false, be n)
/-- an edge carries the number of its beginning to its end -/
def addE (c : List Nat) (nxt : List Nat) (x : Ed) : List Nat := nxt.set x.2.2.toNat (nxt.getD x.2.2.toNat 0 + c.getD x.1.toNat 0)
def cstep (E : List Ed) (n : Nat) (c : List Nat) : List Nat := E.foldl (addE c) (List.replicate n 0)
def cinit (n : Nat) : List Nat := (List.replicate n 0).set 0 1
def crun (E : List Ed) (n : Nat) : Nat → List Nat
  | 0 => cinit n
  | k + 1 => cstep E n (crun E n k)
def csum (c : List Nat) : Nat := c.foldl (· + ·) 0

theorem addE_len (c nxt : List Nat) (x : Ed) : (addE c nxt x).length = nxt.length := List.length_set
theorem foldE_len (c : List Nat) : ∀ (E : List Ed) (nxt : List Nat), (E.foldl (addE c) nxt).length = nxt.length
  | [], _ => rfl
  | x :: E, nxt => by rw [List.foldl_cons, foldE_len c E, addE_len]
theorem cstep_len (E : List Ed) (n : Nat) (c : List Nat) : (cstep E n c).length = n := by unfold cstep; rw [foldE_len]; simp
theorem crun_len (E : List Ed) (n : Nat) : ∀ k, (crun E n k).length = n
  | 0 => by simp [crun, cinit]
  | k + 1 => cstep_len _ _ _

theorem addE_le {c nxt : List Nat} {x : Ed} {M B : Nat} (hc : ∀ y ∈ c, y ≤ M) (hn : ∀ y ∈ nxt, y ≤ B) : ∀ y ∈ addE c nxt x, y ≤ B + M := by
  intro y hy
  have hgc : c.getD x.1.toNat 0 ≤ M := by
    by_cases h : x.1.toNat < c.length
    · exact hc _ (getD_mem h)
    · simp [List.getD, h]
  have hgn : nxt.getD x.2.2.toNat 0 ≤ B := by
    by_cases h : x.2.2.toNat < nxt.length
    · exact hn _ (getD_mem h)
    · simp [List.getD, h]
  rcases List.mem_or_eq_of_mem_set hy with h | rfl
  · have := hn y h; omega
  · omega
theorem foldE_le {c : List Nat} {M : Nat} (hc : ∀ y ∈ c, y ≤ M) : ∀ (E : List Ed) (nxt : List Nat) (B : Nat), (∀ y ∈ nxt, y ≤ B) → ∀ y ∈ E.foldl (addE c) nxt, y ≤ B + E.length * M
  | [], nxt, B, hn => fun y hy => by have := hn y hy; simp; exact this
  | x :: E, nxt, B, hn => fun y hy => by
    have := foldE_le hc E (addE c nxt x) (B + M) (addE_le hc hn) y hy
    rw [List.length_cons, Nat.succ_mul]
    omega
theorem cstep_le {E : List Ed} {n M : Nat} {c : List Nat} (hc : ∀ y ∈ c, y ≤ M) (hE : E.length ≤ 1024) : ∀ y ∈ cstep E n c, y ≤ 1024 * M := fun y hy => by
  have := foldE_le hc E (List.replicate n 0) 0 (fun y hy => by rw [(List.mem_replicate.1 hy).2]; exact Nat.le_refl _) y hy
  have h2 : E.length * M ≤ 1024 * M := Nat.mul_le_mul_right _ hE
  omega
theorem crun_le {E : List Ed} {n : Nat} (hE : E.length ≤ 1024) : ∀ k, ∀ y ∈ crun E n k, y ≤ 1024 ^ k
  | 0 => fun y hy => by
    rcases List.mem_or_eq_of_mem_set hy with h | rfl
    · rw [(List.mem_replicate.1 h).2]; simp
    · simp
  | k + 1 => fun y hy => by
    have := cstep_le (crun_le hE k) hE y hy
    rw [Nat.pow_succ, Nat.mul_comm]
    exact this
theorem be_small {n k : Nat} (hk : k ≤ 40) (h : n ≤ 2048 * 1024 ^ k) : (be n).length ≤ 1099511627776 := by
  have h1 : (1024 : Nat) ^ k ≤ 1024 ^ 40 := Nat.pow_le_pow_right (by decide) hk
  have h2 : 2048 * 1024 ^ k ≤ 2048 * 1024 ^ 40 := Nat.mul_le_mul_left _ h1
  have h3 : (2048 * 1024 ^ 40 : Nat) < 256 ^ 60 := by decide
  have := be_len (n := n) 60 (by omega)
  omega

theorem bz_at {l : List Nat} {i : Nat} (h : i < l.length) : idx (l.map bz) (i : Int) = some (bz l[i]) := by
  rw [ix (by simpa using h)]
  simp
theorem bz_set (l : List Nat) (i n : Nat) : (l.map bz).set i (bz n) = (l.set i n).map bz := by rw [List.map_set]
theorem bz_zero (n : Nat) : List.replicate n ((false, ([] : List UInt8)) : TNegMag) = (List.replicate n 0).map bz := by
  rw [List.map_replicate]
  unfold bz
  rw [be0]
theorem bz_add {a b k : Nat} (hk : k ≤ 40) (ha : a ≤ 2048 * 1024 ^ k) (hb : b ≤ 2048 * 1024 ^ k) : m_integer_Add (bz a) (bz b) = some (bz (a + b)) := Add_spec (be_small hk ha) (be_small hk hb)

/-- what Count gives, the graph's errors being e -/
def countE (g : Gr) (e n : Int) : TNegMag × Int :=
  if e ≠ 0 then ((false, []), 1) else if n < 0 ∨ 4096 < n then ((false, []), 2)
  else if (buildE g e).2.2 ≠ 0 ∨ (buildE g e).1.2.1 = 0 then ((false, []), (buildE g e).2.2)
  else (bz (csum (crun (buildE g e).1.2.2 (buildE g e).2.1.length n.toNat)), 0)

theorem csum_snoc (c : List Nat) (x : Nat) : csum (c ++ [x]) = csum c + x := by simp [csum, List.foldl_append]
theorem csum_le {c : List Nat} {M : Nat} (h : ∀ y ∈ c, y ≤ M) : csum c ≤ c.length * M := by
  have : ∀ (c : List Nat) (s : Nat), (∀ y ∈ c, y ≤ M) → c.foldl (· + ·) s ≤ s + c.length * M := by
    intro c
    induction c with
    | nil => intro s _; simp
    | cons x c ih =>
      intro s hc
      have h1 := ih (s + x) fun y hy => hc y (List.mem_cons_of_mem _ hy)
      have h2 := hc x (List.mem_cons_self ..)
      rw [List.foldl_cons, List.length_cons, Nat.succ_mul]
      omega
  have := this c 0 h
  unfold csum
  omega

theorem Count_eq {e : Int} (he : m_ref09_Check g = some e) (hz : e = 0 ↔ VG g) {n : Int} (hn : n ≤ 40 ∨ 4096 < n) : m_subset_Count g n = some (countE g e n) := by
  unfold m_subset_Count countE
  rw [Check_ref, he, Option.bind_some]
  by_cases h0 : e = 0
  case neg => rw [if_pos h0, if_pos h0]
  rw [if_neg (show ¬ e ≠ 0 from fun h => h h0), if_neg (show ¬ e ≠ 0 from fun h => h h0)]
  simp only [jp]
  by_cases c1 : n < 0
  · rw [if_pos c1, if_pos trivial, if_pos (.inl c1)]
  rw [if_neg c1]
  by_cases c2 : 4096 < n
  · rw [if_pos (decide_eq_true c2), if_pos (.inr c2)]
  rw [if_neg (by simpa using c2), if_neg (show ¬ (n < 0 ∨ 4096 < n) from fun h => h.elim c1 c2), Build_eq he hz, Option.bind_some]
  by_cases hb : (buildE g e).2.2 = 0
  case neg => rw [if_pos hb, if_pos trivial, if_pos (.inl hb)]
  rw [if_neg (by simpa using hb)]
  by_cases hs : (buildE g e).1.2.1 = 0
  case pos => rw [if_pos (decide_eq_true hs), if_pos (.inr hs)]
  rw [if_neg (show ¬ decide ((buildE g e).1.2.1 = 0) = true by simpa using hs), if_neg (show ¬ ((buildE g e).2.2 ≠ 0 ∨ (buildE g e).1.2.1 = 0) from fun h => h.elim (fun h => h hb) hs)]
  have hv := hz.1 h0
  have hne : g.2.1 ≠ 0 := fun h => by
    unfold buildE buildG at hs
    rw [if_neg (show ¬ e ≠ 0 from fun h => h h0), if_pos h] at hs
    exact hs rfl
  have hpos : 0 < g.2.1 := by have := hv.s0; omega
  have hbe : buildE g e = buildR g (upto g.2.1) := by
    unfold buildE buildG
    rw [if_neg (show ¬ e ≠ 0 from fun h => h h0), if_neg hne]
  rcases buildR_cases (upto_ok g) (upto_ne hpos) with h | ⟨E, L, hS, hrun, h⟩
  · rw [hbe, h] at hb; cases hb
  rw [hbe, h]
  dsimp only
  have hL := hS.s1
  have hE := hS.s2
  have hlp := hS.len_pos
  have hg : 0 ≤ (L.length : Int) ∧ (L.length : Int) ≤ (L.length : Int) ∧ (L.length : Int) * 24 ≤ 281474976710656 := by omega
  rw [if_pos hg, of_spec (by decide) (by decide), Option.bind_some, ix0 (by simp; omega), Option.bind_some]
  simp only [Int.toNat_natCast]
  rw [bz_zero]
  have hn40 : n.toNat ≤ 40 := by omega
  refine bindL (loop_is (fun k => ((crun E L.length k).map bz, (k : Int))) n.toNat ((crun E L.length n.toNat).map bz) (fun k hk => ?_) ?_ ?_) ?_
  · dsimp only
    rw [if_pos (by omega), if_pos hg]
    have hck := crun_le (n := L.length) hE k
    have hlen := crun_len E L.length k
    refine bindL (loop_is (fun m => ((m : Int), ((E.take m).foldl (addE (crun E L.length k)) (List.replicate L.length 0)).map bz)) E.length ((crun E L.length (k + 1)).map bz) (fun m hm => ?_) ?_ rfl) ?_
    · dsimp only
      obtain ⟨j, lab, hj, hlab, hnz, hx⟩ := hS.mem.1 (List.getElem_mem hm)
      have hto := hS.to_lt hj hlab hnz
      have e1 : E[m].1 = (j : Int) := by rw [hx]
      have e2 : E[m].2.2 = ((L.idxOf (stepL g (L.getD j []) (lab : Int)) : Nat) : Int) := by rw [hx]
      generalize hto' : L.idxOf (stepL g (L.getD j []) (lab : Int)) = t at hto e2
      have hN : ((E.take m).foldl (addE (crun E L.length k)) (List.replicate L.length 0)).length = L.length := by rw [foldE_len]; simp
      have hB := foldE_le hck (E.take m) (List.replicate L.length 0) 0 (fun y hy => by rw [(List.mem_replicate.1 hy).2]; exact Nat.le_refl _)
      have htk : E.take (m + 1) = E.take m ++ [E[m]] := by rw [List.take_add_one, List.getElem?_eq_getElem hm]; rfl
      rw [if_pos (lt_int hm), ix hm]
      simp only [Option.bind_some]
      rw [e1, e2, bz_at (by omega), bz_at (by omega)]
      simp only [Option.bind_some]
      have hml : (E.take m).length ≤ 1024 := by simp; omega
      have hmul : (E.take m).length * 1024 ^ k ≤ 1024 * 1024 ^ k := Nat.mul_le_mul_right _ hml
      have hb1 := hB _ (List.getElem_mem (show t < _ by omega))
      have hb2 := hck _ (List.getElem_mem (show j < _ by omega))
      rw [bz_add (k := k) (by omega) (by omega) (by omega)]
      simp only [Option.bind_some, Int.toNat_natCast]
      rw [bz_set, nx (by omega : E.length ≤ _) hm, htk, List.foldl_append]
      simp only [List.foldl_cons, List.foldl_nil]
      congr 4
      rw [show ∀ (c nx : List Nat) (x : Ed), addE c nx x = nx.set x.2.2.toNat (nx.getD x.2.2.toNat 0 + c.getD x.1.toNat 0) from fun _ _ _ => rfl, e1, e2]
      simp only [Int.toNat_natCast]
      congr 1
      rw [getD_lt (show t < _ by omega), getD_lt (show j < _ by omega)]
    · dsimp only
      rw [if_neg (not_lt_int _), List.take_length]
      rfl
    · rw [w64 (by omega) (by omega)]
      rfl
  · dsimp only
    rw [if_neg (by omega)]
  · show _ = ((cinit L.length).map bz, (0 : Int))
    unfold cinit
    rw [← bz_set]
    rfl
  · have hcn := crun_le (n := L.length) hE n.toNat
    have hlen := crun_len E L.length n.toNat
    generalize hcc : crun E L.length n.toNat = c at *
    refine bindL (loop_is (fun k => ((k : Int), (bz (csum (c.take k))).1, (bz (csum (c.take k))).2)) c.length (bz (csum c)) (fun k hk => ?_) ?_ (by simp [csum, bz, be0])) rfl
    · dsimp only
      rw [if_pos (by simp; omega), bz_at hk]
      simp only [Option.bind_some]
      have hs1 : csum (c.take k) ≤ 64 * 1024 ^ n.toNat := by
        have h1 := csum_le (c := c.take k) (M := 1024 ^ n.toNat) fun y hy => hcn y (List.mem_of_mem_take hy)
        have h2 : (c.take k).length ≤ 64 := by simp; omega
        have h3 : (c.take k).length * 1024 ^ n.toNat ≤ 64 * 1024 ^ n.toNat := Nat.mul_le_mul_right _ h2
        omega
      have hb2 := hcn _ (List.getElem_mem hk)
      have := bz_add (k := n.toNat) hn40 (a := csum (c.take k)) (b := c[k]) (by omega) (by omega)
      rw [show ((bz (csum (c.take k))).1, (bz (csum (c.take k))).2) = bz (csum (c.take k)) from rfl, this]
      simp only [Option.bind_some]
      rw [nx (by omega : c.length ≤ _) hk, show c.take (k + 1) = c.take k ++ [c[k]] by rw [List.take_add_one, List.getElem?_eq_getElem hk]; rfl, csum_snoc]
    · dsimp only
      rw [if_neg (by simp), List.take_length]
end
end Go.AW

/- The anchor of chapter 12; SubsetBuilds. -/
namespace Go.AW
open Go
set_option linter.unusedSimpArgs false
set_option linter.unusedVariables false

def even12 : Gr := (2, 2, [(0, 0, 1), (0, 1, 0), (1, 0, 0)])
theorem even12_ok : VG even12 where
  l1 := by decide
  l2 := by decide
  s0 := by decide
  s1 := by decide
  el := by decide
  ed := by decide
  ord := fun i h => match i, h with
    | 0, _ => show cmp3 (0, 0, 1) (0, 1, 0) < 0 by decide
    | 1, _ => show cmp3 (0, 1, 0) (1, 0, 0) < 0 by decide
    | _ + 2, h => absurd h (by simp [even12])

theorem be_7 : be 7 = [7] := by
  rw [be, if_neg (by decide), show 7 / 256 = 0 from rfl, be0]
  rfl

theorem awake12_eq : m_law12_awakeG = some true := by
  obtain ⟨e, he, hz⟩ := Check_tot even12
  have h0 := hz.2 even12_ok
  subst h0
  have hB := Build_eq he hz
  have hF := Focus_eq he hz
  have hC := Count_eq he hz (n := 3) (.inl (by decide))
  have b : buildE even12 0 = ((2, 3, [(0, 0, 0), (0, 1, 1), (1, 0, 2), (1, 1, 1), (2, 0, 1)]), [[0, 1], [0], [1]], 0) := by decide +kernel
  have f : focusE even12 0 = ([1], 0, true, 0) := by unfold focusE; rw [b]; decide +kernel
  have c : countE even12 0 3 = ((false, [7]), 0) := by
    unfold countE
    rw [b, if_neg (by decide), if_neg (by decide), if_neg (by decide)]
    have : csum (crun [(0, 0, 0), (0, 1, 1), (1, 0, 2), (1, 1, 1), (2, 0, 1)] 3 3) = 7 := by decide +kernel
    show (bz (csum (crun [(0, 0, 0), (0, 1, 1), (1, 0, 2), (1, 1, 1), (2, 0, 1)] 3 3)), (0 : Int)) = _
    rw [this]
    unfold bz
    rw [be_7]
  unfold m_law12_awakeG
  have h4 : m_law12_even = some even12 := rfl
  simp only [h4, Option.bind_some, hB, hF, hC, b, f, c, jp]
  have h7 : m_ref01_Of 7 = some (false, [7]) := by
    unfold m_ref01_Of m_ref01_mag
    rfl
  rw [SameSets_eq (by decide) (by decide), Same12_eq (by decide), h7]
  decide +kernel

section
variable {g : Gr} {e : Int}
theorem great12_tot (g : Gr) : ∃ b, m_law12_great g = some b := by
  unfold m_law12_great m_ref09_Great
  simp only [jp]
  by_cases h1 : (30 : Int) < (g.2.2.length : Int)
  · rw [if_pos h1]; exact ⟨_, rfl⟩
  · rw [if_neg h1]
    by_cases h2 : 10 < g.2.1
    · rw [if_pos h2]; exact ⟨_, rfl⟩
    · rw [if_neg h2]; exact ⟨_, rfl⟩
end
end Go.AW

/- The anchor of chapter 12. -/
namespace Go.AW
open Go Go.Proofs
theorem w_law12_awake {r : Bool} (h : m_law12_awake = some r) : Pure Tryz.prog 6 [] (· = HV.bool r) := by
  cases h
  exact w_law12_awakeG awake12_eq
end Go.AW

/- Entries of a map that a predicate names are deleted. -/
namespace Go.AW
open Go
end Go.AW

/- Models, printed by lk.py. -/
namespace Go.AW
open Go
set_option linter.unusedVariables false
/-- groove/language.From -/
noncomputable def m_language_From (p0 : TLabelsStatesEdges) (p1 : Int) (p2 : Int) : Option ((List (List UInt8)) × Int) :=
  (m_language_lengths p0 p2).bind fun x1 =>
  if x1 ≠ 0 then
    some ([], x1)
  else
    jp (fun (a3 : Bool) =>
      if a3 = true then
        some ([], 25)
      else
        (m_language_list p0 [p1] p2).bind fun x6 =>
        if x6.2 = true then
          some (sortS ((x6.1).map Prod.fst), 0)
        else
          some ([], 4))
      fun k5 =>
      if p1 < 0 then
        k5 true
      else
        k5 (decide (p0.2.1 ≤ p1))

/-- groove/grooveref11.From -/
noncomputable def m_ref11_From (p0 : TLabelsStatesEdges) (p1 : Int) (p2 : Int) : Option ((List (List UInt8)) × Int) :=
  (m_ref11_checkNumber p0 p2).bind fun x1 =>
  if x1 ≠ 0 then
    some ([], x1)
  else
    jp (fun (a3 : Bool) =>
      if a3 = true then
        some ([], 25)
      else
        (m_ref11_words p0 [p1] p2).bind fun x6 =>
        if x6.2 ≠ 0 then
          some ([], x6.2)
        else
          (m_ref11_texts x6.1).bind fun x8 =>
          some (x8, 0))
      fun k5 =>
      if p1 < 0 then
        k5 true
      else
        k5 (decide (p0.2.1 ≤ p1))

end Go.AW

/- Models, printed by lk.py. -/
namespace Go.AW
open Go
set_option linter.unusedVariables false
/-- groove/groovelaw12.SubsetWords -/
noncomputable def m_law12_SubsetWords (p0 : TLabelsStatesEdges) (p1 : Int) : Option (Bool) :=
 jp (fun (a1 : Bool) =>
   if a1 = true then
    (m_law12_awake).bind fun x4 =>
    some x4
   else
    (m_subset_Build p0).bind fun x6 =>
    if x6.2.2 ≠ 0 then
     (m_law12_awake).bind fun x9 =>
     some x9
    else
     (m_language_Words p0 (IntKind.wrap .i64 (Int.tmod p1 6))).bind fun x11 =>
     (m_language_From x6.1 0 (IntKind.wrap .i64 (Int.tmod p1 6))).bind fun x13 =>
     (m_subset_Count p0 (IntKind.wrap .i64 (Int.tmod p1 6))).bind fun x15 =>
     jp (fun (a18 : Bool) =>
       some a18)
       fun k20 =>
      if (max (max x11.2 x13.2) x15.2) = 0 then
       (m_slices_Equal_Lstring_string x11.1 x13.1).bind fun x21 =>
       if x21 = true then
        (m_integer_Of ((x11.1).length : Int)).bind fun x23 =>
        if x15.1 = x23 then
         (m_law12_awake).bind fun x25 =>
         k20 x25
        else
         k20 false
       else
        k20 false
      else
       k20 false)
   fun k3 =>
  (m_law12_great p0).bind fun x30 =>
  if x30 = true then
   k3 true
  else
   (m_graph_Check p0).bind fun x32 =>
   if x32 ≠ 0 then
    k3 true
   else
    if 3 < p0.1 then
     k3 true
    else
     k3 (decide (p0.2.1 = 0))

end Go.AW

namespace Go.AW
open Go Go.Proofs
set_option linter.unusedVariables false
set_option maxHeartbeats 1600000 in
set_option maxRecDepth 100000 in
theorem w_ref09_Great {p0 : TLabelsStatesEdges} {r : Bool} (h : m_ref09_Great p0 = some r) : Pure Tryz.prog 21 [HV.agg [HV.int .i64 p0.1, HV.int .i64 p0.2.1, slE eFromLabelTo p0.2.2]] (· = HV.bool r) := by
 unfold m_ref09_Great at h
 refine Pure.of_body Tryz.func21 rfl rfl (Nat.le_of_ble_eq_true rfl) fun hf => ?_
 unfold Tryz.f21
 dsimp only [enumS, Nat.reduceAdd]
 refine AW.rgs rfl fun K hK => ?_
 refine b_op rfl (o_box rfl rfl rfl ?_)
 refine mv rfl rfl ?_
 refine b_fin hK (s' := ⟨[(1, HV.fptr [HV.int .i64 p0.1, HV.int .i64 p0.2.1, slE eFromLabelTo p0.2.2] 0)], []⟩) (le_q rfl rfl) ?_
 clear hK K
 refine AW.seqJ h (S := Bool) (V := Unit) (fun a v => ⟨[(2, HV.bool a)], []⟩) (fun a1 w2 h => ?_) (fun k3 h => ?_)
 ·refine AW.ret ?_
  have h := Option.some.inj h
  subst h
  exact ret_pure (hs := [HV.bool a1]) (q := HV.bool a1) (.inr rfl) (resT rfl rfl) rfl trivial
 ·refine AW.rg rfl fun K hK => ?_
  refine bv rfl (v_fieldAddrF fo24_2 rfl) ?_
  refine bv rfl (v_loadF ty22 rfl (l_lit rfl rfl)) ?_
  refine bv rfl (v_lenF rfl rfl ty22 rfl) ?_
  refine bv rfl (v_bin rfl rfl b_gtr) ?_
  refine mv rfl rfl ?_
  by_cases hg5 : 30 < ((p0.2.2).length : Int)
  ·have h := ifT hg5 h
   refine b_F rfl rfl rfl rfl rfl (decide_eq_true hg5) ?_
   refine b_F rfl rfl rfl rfl rfl rfl ?_
   refine b_F rfl rfl rfl rfl rfl rfl ?_
   refine b_F rfl rfl rfl rfl rfl rfl ?_
   refine b_U rfl rfl rfl rfl rfl ?_
   refine b_U rfl rfl rfl rfl rfl ?_
   refine b_U rfl rfl rfl rfl rfl ?_
   refine b_F rfl rfl rfl rfl rfl rfl ?_
   refine bv rfl (v_pickT rfl rfl rfl) ?_
   refine mv rfl rfl ?_
   refine b_nil (hK _ ?_)
   clear hK K
   exact to_le (s' := ⟨[(2, HV.bool true)], []⟩) (AS.le_of ⟨rfl, trivial⟩ trivial) ⟨true, (), h, rfl⟩
  ·have h := ifF hg5 h
   refine b_T rfl rfl rfl rfl (decide_eq_false hg5) (o_val rfl (v_fieldAddrF fo24_1 rfl) ?_)
   refine b_T rfl rfl rfl rfl rfl (o_val rfl (v_loadF ty3 rfl (l_lit rfl rfl)) ?_)
   refine b_T rfl rfl rfl rfl rfl (o_val rfl (v_bin rfl rfl b_gtr) ?_)
   refine b_T rfl rfl rfl rfl rfl (o_val rfl (mv_val rfl rfl).2 ?_)
   by_cases hg4 : 10 < p0.2.1
   ·have h := ifT hg4 h
    refine b_T rfl rfl rfl rfl (decide_eq_true hg4) (o_val rfl (v_fieldAddrF fo24_1 rfl) ?_)
    refine b_T rfl rfl rfl rfl rfl (o_val rfl (v_loadF ty3 rfl (l_lit rfl rfl)) ?_)
    refine b_T rfl rfl rfl rfl rfl (o_val rfl (v_bin rfl rfl b_leq) ?_)
    refine b_T rfl rfl rfl rfl rfl (o_val rfl (v_pickT rfl rfl rfl) ?_)
    refine bv rfl (v_pickF rfl rfl rfl) ?_
    refine mv rfl rfl ?_
    refine b_nil (hK _ ?_)
    clear hK K
    exact to_le (s' := ⟨[(2, HV.bool (decide (p0.2.1 ≤ 64)))], []⟩) (AS.le_of ⟨rfl, trivial⟩ trivial) ⟨decide (p0.2.1 ≤ 64), (), h, rfl⟩
   ·have h := ifF hg4 h
    refine b_F rfl rfl rfl rfl rfl (decide_eq_false hg4) ?_
    refine b_F rfl rfl rfl rfl rfl rfl ?_
    refine b_F rfl rfl rfl rfl rfl rfl ?_
    refine b_T rfl rfl rfl rfl rfl (o_val rfl (v_pickF rfl rfl rfl) ?_)
    refine bv rfl (v_pickF rfl rfl rfl) ?_
    refine mv rfl rfl ?_
    refine b_nil (hK _ ?_)
    clear hK K
    exact to_le (s' := ⟨[(2, HV.bool false)], []⟩) (AS.le_of ⟨rfl, trivial⟩ trivial) ⟨false, (), h, rfl⟩

set_option maxHeartbeats 1600000 in
set_option maxRecDepth 100000 in
theorem w_law12_great {p0 : TLabelsStatesEdges} {r : Bool} (h : m_law12_great p0 = some r) : Pure Tryz.prog 5 [HV.agg [HV.int .i64 p0.1, HV.int .i64 p0.2.1, slE eFromLabelTo p0.2.2]] (· = HV.bool r) := by
 unfold m_law12_great at h
 refine Pure.of_body Tryz.func5 rfl rfl (Nat.le_of_ble_eq_true rfl) fun hf => ?_
 unfold Tryz.f5
 dsimp only [enumS, Nat.reduceAdd]
 refine AW.rgs rfl fun K hK => ?_
 refine b_op rfl (o_box rfl rfl rfl ?_)
 refine mv rfl rfl ?_
 refine b_fin hK (s' := ⟨[(1, HV.fptr [HV.int .i64 p0.1, HV.int .i64 p0.2.1, slE eFromLabelTo p0.2.2] 0)], []⟩) (le_q rfl rfl) ?_
 clear hK K
 refine AW.rgs rfl fun K hK => ?_
 refine bv rfl (v_loadF ty24 rfl (l_litA rfl (Nat.le_of_ble_eq_true rfl) rfl)) ?_
 obtain ⟨x1, h2, h⟩ := bS h
 refine b_op rfl (o_call rfl rfl rfl rfl (ACallD.pure0 (w_ref09_Great h2)) ?_)
 refine mv rfl rfl ?_
 refine b_fin hK (s' := ⟨[(2, HV.bool x1)], []⟩) (le_q rfl rfl) ?_
 clear hK K
 refine AW.ret ?_
 have h := Option.some.inj h
 subst h
 exact ret_pure (hs := [HV.bool x1]) (q := HV.bool x1) (.inr rfl) (resT rfl rfl) rfl trivial

set_option maxHeartbeats 1600000 in
set_option maxRecDepth 100000 in
theorem w_language_Words {p0 : TLabelsStatesEdges} {p1 : Int} {r : (List (List UInt8)) × Int} (h : m_language_Words p0 p1 = some r) : Pure Tryz.prog 17 [HV.agg [HV.int .i64 p0.1, HV.int .i64 p0.2.1, slE eFromLabelTo p0.2.2], HV.int .i64 p1] (· = HV.tup [slE eStr r.1, HV.int .i64 r.2]) := by
 unfold m_language_Words at h
 refine Pure.of_body Tryz.func17 rfl rfl (Nat.le_of_ble_eq_true rfl) fun hf => ?_
 unfold Tryz.f17
 dsimp only [enumS, Nat.reduceAdd]
 refine AW.rgs rfl fun K hK => ?_
 refine b_op rfl (o_box rfl rfl rfl ?_)
 refine mv rfl rfl ?_
 refine mv rfl rfl ?_
 refine b_fin hK (s' := ⟨[(1, HV.int .i64 p1), (2, HV.fptr [HV.int .i64 p0.1, HV.int .i64 p0.2.1, slE eFromLabelTo p0.2.2] 0)], []⟩) (le_q rfl rfl) ?_
 clear hK K
 refine AW.seq ?_
 refine AW.rgs rfl fun K hK => ?_
 refine bv rfl (v_loadF ty24 rfl (l_litA rfl (Nat.le_of_ble_eq_true rfl) rfl)) ?_
 refine mv rfl rfl ?_
 obtain ⟨x1, h2, h⟩ := bS h
 refine b_op rfl (o_call rfl rfl rfl rfl (ACallD.pure0 (w_language_lengths h2)) ?_)
 refine mv rfl rfl ?_
 refine b_fin hK (s' := ⟨[(1, HV.int .i64 p1), (2, HV.fptr [HV.int .i64 p0.1, HV.int .i64 p0.2.1, slE eFromLabelTo p0.2.2] 0), (6, HV.int .i64 x1)], []⟩) (le_q rfl rfl) ?_
 clear hK K
 refine AW.rgs rfl fun K hK => ?_
 refine mv rfl rfl ?_
 refine bv rfl (v_bin rfl rfl b_neq) ?_
 refine b_fin hK (s' := ⟨[(1, HV.int .i64 p1), (2, HV.fptr [HV.int .i64 p0.1, HV.int .i64 p0.2.1, slE eFromLabelTo p0.2.2] 0), (6, HV.int .i64 x1), (13, HV.bool (decide (x1 ≠ 0)))], []⟩) (le_q rfl rfl) ?_
 clear hK K
 refine AW.cond rfl (fun hc => ?_) (fun hc => ?_)
 ·have hc := of_decide_eq_true hc
  have h := ifT hc h
  refine AW.rgs rfl fun K hK => ?_
  refine mv rfl rfl ?_
  refine mv rfl rfl ?_
  refine mv rfl rfl ?_
  refine b_fin hK (s' := ⟨[(4, HV.v (.slice none 0 0)), (5, HV.int .i64 x1)], []⟩) (le_q rfl rfl) ?_
  clear hK K
  refine AW.to (to_weak ⟨[(4, slE eStr ([] : List (List UInt8))), (5, HV.int .i64 x1)], []⟩ ⟨⟨_, rfl, .nil _⟩, ⟨_, rfl, .refl _⟩, trivial⟩ trivial ?_)
  refine AW.ret ?_
  have h := Option.some.inj h
  subst h
  exact ret_pure (hs := [slE eStr ([] : List (List UInt8)), HV.int .i64 x1]) (q := HV.tup [slE eStr ([] : List (List UInt8)), HV.int .i64 x1]) (.inr rfl) (resT rfl (resT rfl rfl)) rfl ⟨(clean_slE fun _ _ => ⟨trivial, trivial⟩), trivial, trivial⟩
 ·have hc := of_decide_eq_false hc
  have h := ifF hc h
  refine AW.skip ?_
  refine AW.dys follows fun K hK => ?_
  refine y_st 4 rfl rfl ?_
  refine sv rfl (v_loadF ty24 rfl (l_litA rfl (Nat.le_of_ble_eq_true rfl) rfl)) ?_
  refine sv rfl (v_loadF ty24 rfl (l_litA rfl (Nat.le_of_ble_eq_true rfl) rfl)) ?_
  obtain ⟨x3, h4, h⟩ := bS h
  refine s_op rfl rfl (ops_call rfl rfl rfl rfl (ACallD.pure0 (w_language_states h4)) ?_)
  refine sm rfl rfl ?_
  refine s_nil ?_
  obtain ⟨x5, h6, h⟩ := bS h
  by_cases hg7 : x5.2 = true
  ·have h := ifT hg7 h
   refine y_op rfl rfl rfl rfl (o_callA rfl rfl rfl rfl (c_listT h6 hg7 fun i8 v9 es10 hes11 => ?_) )
   refine b_nil ?_
   refine y_st 10 rfl rfl ?_
   refine sm rfl rfl ?_
   refine sv rfl (v_extract rfl rfl) ?_
   refine sv rfl (v_extract rfl rfl) ?_
   refine sm rfl rfl ?_
   refine sm rfl rfl ?_
   refine s_nil ?_
   refine y_nil rfl (hK _ (AW.to (to_le (s' := ⟨[(7, HV.mp i8 v9), (8, HV.bool true)], [(i8, v9, .map es10)]⟩) (AS.le_of ⟨rfl, rfl, trivial⟩ ⟨hget_0, trivial⟩) ?_)))
   clear hK K
   refine AW.seq ?_
   refine AW.rgs rfl fun K hK => ?_
   refine mv rfl rfl ?_
   refine bv rfl (v_not rfl) ?_
   refine b_fin hK (s' := ⟨[(7, HV.mp i8 v9), (24, HV.bool false)], [(i8, v9, .map es10)]⟩) (AS.le_of ⟨rfl, rfl, trivial⟩ ⟨hget_0, trivial⟩) ?_
   clear hK K
   refine AW.cond rfl (fun hc => by cases hc) (fun _ => ?_)
   refine AW.skip ?_
   refine AW.rgs rfl fun K hK => ?_
   refine mv rfl rfl ?_
   refine b_op rfl (o_callK [(i8, v9, .map es10)] rfl rfl rfl rfl (fun K hK => w82 hK) ?_)
   refine b_op rfl (o_callK (q := slE eStr (sortS ((x5.1).map Prod.fst))) [] rfl rfl rfl rfl (fun K hK => c_sortedKeys hes11 hK) ?_)
   refine mv rfl rfl ?_
   refine mv rfl rfl ?_
   refine b_fin hK (s' := ⟨[(4, slE eStr (sortS ((x5.1).map Prod.fst))), (5, HV.int .i64 0)], []⟩) (le_q rfl rfl) ?_
   clear hK K
   refine AW.ret ?_
   have h := Option.some.inj h
   subst h
   exact ret_pure (hs := [slE eStr (sortS ((x5.1).map Prod.fst)), HV.int .i64 0]) (q := HV.tup [slE eStr (sortS ((x5.1).map Prod.fst)), HV.int .i64 0]) (.inr rfl) (resT rfl (resT rfl rfl)) rfl ⟨(clean_slE fun _ _ => ⟨trivial, trivial⟩), trivial, trivial⟩
  ·have h := ifF hg7 h
   refine y_op rfl rfl rfl rfl (o_callA rfl rfl rfl rfl (c_listF h6 hg7 ?_) )
   refine b_nil ?_
   refine y_st 10 rfl rfl ?_
   refine sm rfl rfl ?_
   refine sv rfl (v_extract rfl rfl) ?_
   refine sv rfl (v_extract rfl rfl) ?_
   refine sm rfl rfl ?_
   refine sm rfl rfl ?_
   refine s_nil ?_
   refine y_nil rfl (hK _ (AW.to (to_le (s' := ⟨[(7, HV.v (.map none)), (8, HV.bool false)], []⟩) (le_q rfl rfl) ?_)))
   clear hK K
   refine AW.seq ?_
   refine AW.rgs rfl fun K hK => ?_
   refine mv rfl rfl ?_
   refine bv rfl (v_not rfl) ?_
   refine b_fin hK (s' := ⟨[(7, HV.v (.map none)), (24, HV.bool true)], []⟩) (le_q rfl rfl) ?_
   clear hK K
   refine AW.cond rfl (fun _ => ?_) (fun hc => by cases hc)
   refine AW.rgs rfl fun K hK => ?_
   refine mv rfl rfl ?_
   refine mv rfl rfl ?_
   refine b_fin hK (s' := ⟨[(4, HV.v (.slice none 0 0)), (5, HV.int .i64 4)], []⟩) (le_q rfl rfl) ?_
   clear hK K
   refine AW.to (to_weak ⟨[(4, slE eStr ([] : List (List UInt8))), (5, HV.int .i64 4)], []⟩ ⟨⟨_, rfl, .nil _⟩, ⟨_, rfl, .refl _⟩, trivial⟩ trivial ?_)
   refine AW.ret ?_
   have h := Option.some.inj h
   subst h
   exact ret_pure (hs := [slE eStr ([] : List (List UInt8)), HV.int .i64 4]) (q := HV.tup [slE eStr ([] : List (List UInt8)), HV.int .i64 4]) (.inr rfl) (resT rfl (resT rfl rfl)) rfl ⟨(clean_slE fun _ _ => ⟨trivial, trivial⟩), trivial, trivial⟩

set_option maxHeartbeats 1600000 in
set_option maxRecDepth 100000 in
theorem w_language_From {p0 : TLabelsStatesEdges} {p1 : Int} {p2 : Int} {r : (List (List UInt8)) × Int} (h : m_language_From p0 p1 p2 = some r) : Pure Tryz.prog 18 [HV.agg [HV.int .i64 p0.1, HV.int .i64 p0.2.1, slE eFromLabelTo p0.2.2], HV.int .i64 p1, HV.int .i64 p2] (· = HV.tup [slE eStr r.1, HV.int .i64 r.2]) := by
 unfold m_language_From at h
 refine Pure.of_body Tryz.func18 rfl rfl (Nat.le_of_ble_eq_true rfl) fun hf => ?_
 unfold Tryz.f18
 dsimp only [enumS, Nat.reduceAdd]
 refine AW.rgs rfl fun K hK => ?_
 refine b_op rfl (o_box rfl rfl rfl ?_)
 refine mv rfl rfl ?_
 refine mv rfl rfl ?_
 refine b_fin hK (s' := ⟨[(1, HV.int .i64 p1), (2, HV.int .i64 p2), (3, HV.fptr [HV.int .i64 p0.1, HV.int .i64 p0.2.1, slE eFromLabelTo p0.2.2] 0)], []⟩) (le_q rfl rfl) ?_
 clear hK K
 refine AW.seq ?_
 refine AW.rgs rfl fun K hK => ?_
 refine bv rfl (v_loadF ty24 rfl (l_litA rfl (Nat.le_of_ble_eq_true rfl) rfl)) ?_
 refine mv rfl rfl ?_
 obtain ⟨x1, h2, h⟩ := bS h
 refine b_op rfl (o_call rfl rfl rfl rfl (ACallD.pure0 (w_language_lengths h2)) ?_)
 refine mv rfl rfl ?_
 refine b_fin hK (s' := ⟨[(1, HV.int .i64 p1), (2, HV.int .i64 p2), (3, HV.fptr [HV.int .i64 p0.1, HV.int .i64 p0.2.1, slE eFromLabelTo p0.2.2] 0), (8, HV.int .i64 x1)], []⟩) (le_q rfl rfl) ?_
 clear hK K
 refine AW.rgs rfl fun K hK => ?_
 refine mv rfl rfl ?_
 refine bv rfl (v_bin rfl rfl b_neq) ?_
 refine b_fin hK (s' := ⟨[(1, HV.int .i64 p1), (2, HV.int .i64 p2), (3, HV.fptr [HV.int .i64 p0.1, HV.int .i64 p0.2.1, slE eFromLabelTo p0.2.2] 0), (8, HV.int .i64 x1), (15, HV.bool (decide (x1 ≠ 0)))], []⟩) (le_q rfl rfl) ?_
 clear hK K
 refine AW.cond rfl (fun hc => ?_) (fun hc => ?_)
 ·have hc := of_decide_eq_true hc
  have h := ifT hc h
  refine AW.rgs rfl fun K hK => ?_
  refine mv rfl rfl ?_
  refine mv rfl rfl ?_
  refine mv rfl rfl ?_
  refine b_fin hK (s' := ⟨[(6, HV.v (.slice none 0 0)), (7, HV.int .i64 x1)], []⟩) (le_q rfl rfl) ?_
  clear hK K
  refine AW.to (to_weak ⟨[(6, slE eStr ([] : List (List UInt8))), (7, HV.int .i64 x1)], []⟩ ⟨⟨_, rfl, .nil _⟩, ⟨_, rfl, .refl _⟩, trivial⟩ trivial ?_)
  refine AW.ret ?_
  have h := Option.some.inj h
  subst h
  exact ret_pure (hs := [slE eStr ([] : List (List UInt8)), HV.int .i64 x1]) (q := HV.tup [slE eStr ([] : List (List UInt8)), HV.int .i64 x1]) (.inr rfl) (resT rfl (resT rfl rfl)) rfl ⟨(clean_slE fun _ _ => ⟨trivial, trivial⟩), trivial, trivial⟩
 ·have hc := of_decide_eq_false hc
  have h := ifF hc h
  refine AW.skip ?_
  refine AW.seq ?_
  refine AW.seqJ h (S := Bool) (V := Unit) (fun a v => ⟨[(1, HV.int .i64 p1), (2, HV.int .i64 p2), (3, HV.fptr [HV.int .i64 p0.1, HV.int .i64 p0.2.1, slE eFromLabelTo p0.2.2] 0), (24, HV.bool a)], []⟩) (fun a3 w4 h => ?_) (fun k5 h => ?_)
  ·refine AW.cond rfl (fun hc => ?_) (fun hc => ?_)
   ·have h := ifT hc h
    refine AW.rgs rfl fun K hK => ?_
    refine mv rfl rfl ?_
    refine mv rfl rfl ?_
    refine b_fin hK (s' := ⟨[(6, HV.v (.slice none 0 0)), (7, HV.int .i64 25)], []⟩) (le_q rfl rfl) ?_
    clear hK K
    refine AW.to (to_weak ⟨[(6, slE eStr ([] : List (List UInt8))), (7, HV.int .i64 25)], []⟩ ⟨⟨_, rfl, .nil _⟩, ⟨_, rfl, .refl _⟩, trivial⟩ trivial ?_)
    refine AW.ret ?_
    have h := Option.some.inj h
    subst h
    exact ret_pure (hs := [slE eStr ([] : List (List UInt8)), HV.int .i64 25]) (q := HV.tup [slE eStr ([] : List (List UInt8)), HV.int .i64 25]) (.inr rfl) (resT rfl (resT rfl rfl)) rfl ⟨(clean_slE fun _ _ => ⟨trivial, trivial⟩), trivial, trivial⟩
   ·have h := ifF (bF' hc) h
    refine AW.skip ?_
    refine AW.rgs rfl fun K hK => ?_
    refine bv rfl (v_loadF ty24 rfl (l_litA rfl (Nat.le_of_ble_eq_true rfl) rfl)) ?_
    refine mv rfl rfl ?_
    refine b_op rfl (o_bsl rfl rfl (as_of (cs := [HV.int .i64 p1]) ty27 ty3 rfl rfl rfl rfl rfl) ?_)
    refine mv rfl rfl ?_
    obtain ⟨x6, h7, h⟩ := bS h
    by_cases hg8 : x6.2 = true
    ·have h := ifT hg8 h
     refine b_op rfl (o_callA rfl rfl rfl rfl (c_listT h7 hg8 fun i9 v10 es11 hes12 => ?_) )
     refine mv rfl rfl ?_
     refine bv rfl (v_extract rfl rfl) ?_
     refine bv rfl (v_extract rfl rfl) ?_
     refine mv rfl rfl ?_
     refine mv rfl rfl ?_
     refine b_fin hK (s' := ⟨[(9, HV.mp i9 v10), (10, HV.bool true)], [(i9, v10, .map es11)]⟩) (AS.le_of ⟨rfl, rfl, trivial⟩ ⟨hget_0, trivial⟩) ?_
     clear hK K
     refine AW.seq ?_
     refine AW.rgs rfl fun K hK => ?_
     refine mv rfl rfl ?_
     refine bv rfl (v_not rfl) ?_
     refine b_fin hK (s' := ⟨[(9, HV.mp i9 v10), (34, HV.bool false)], [(i9, v10, .map es11)]⟩) (AS.le_of ⟨rfl, rfl, trivial⟩ ⟨hget_0, trivial⟩) ?_
     clear hK K
     refine AW.cond rfl (fun hc => by cases hc) (fun _ => ?_)
     refine AW.skip ?_
     refine AW.rgs rfl fun K hK => ?_
     refine mv rfl rfl ?_
     refine b_op rfl (o_callK [(i9, v10, .map es11)] rfl rfl rfl rfl (fun K hK => w82 hK) ?_)
     refine b_op rfl (o_callK (q := slE eStr (sortS ((x6.1).map Prod.fst))) [] rfl rfl rfl rfl (fun K hK => c_sortedKeys hes12 hK) ?_)
     refine mv rfl rfl ?_
     refine mv rfl rfl ?_
     refine b_fin hK (s' := ⟨[(6, slE eStr (sortS ((x6.1).map Prod.fst))), (7, HV.int .i64 0)], []⟩) (le_q rfl rfl) ?_
     clear hK K
     refine AW.ret ?_
     have h := Option.some.inj h
     subst h
     exact ret_pure (hs := [slE eStr (sortS ((x6.1).map Prod.fst)), HV.int .i64 0]) (q := HV.tup [slE eStr (sortS ((x6.1).map Prod.fst)), HV.int .i64 0]) (.inr rfl) (resT rfl (resT rfl rfl)) rfl ⟨(clean_slE fun _ _ => ⟨trivial, trivial⟩), trivial, trivial⟩
    ·have h := ifF hg8 h
     refine b_op rfl (o_callA rfl rfl rfl rfl (c_listF h7 hg8 ?_) )
     refine mv rfl rfl ?_
     refine bv rfl (v_extract rfl rfl) ?_
     refine bv rfl (v_extract rfl rfl) ?_
     refine mv rfl rfl ?_
     refine mv rfl rfl ?_
     refine b_fin hK (s' := ⟨[(9, HV.v (.map none)), (10, HV.bool false)], []⟩) (le_q rfl rfl) ?_
     clear hK K
     refine AW.seq ?_
     refine AW.rgs rfl fun K hK => ?_
     refine mv rfl rfl ?_
     refine bv rfl (v_not rfl) ?_
     refine b_fin hK (s' := ⟨[(9, HV.v (.map none)), (34, HV.bool true)], []⟩) (le_q rfl rfl) ?_
     clear hK K
     refine AW.cond rfl (fun _ => ?_) (fun hc => by cases hc)
     refine AW.rgs rfl fun K hK => ?_
     refine mv rfl rfl ?_
     refine mv rfl rfl ?_
     refine b_fin hK (s' := ⟨[(6, HV.v (.slice none 0 0)), (7, HV.int .i64 4)], []⟩) (le_q rfl rfl) ?_
     clear hK K
     refine AW.to (to_weak ⟨[(6, slE eStr ([] : List (List UInt8))), (7, HV.int .i64 4)], []⟩ ⟨⟨_, rfl, .nil _⟩, ⟨_, rfl, .refl _⟩, trivial⟩ trivial ?_)
     refine AW.ret ?_
     have h := Option.some.inj h
     subst h
     exact ret_pure (hs := [slE eStr ([] : List (List UInt8)), HV.int .i64 4]) (q := HV.tup [slE eStr ([] : List (List UInt8)), HV.int .i64 4]) (.inr rfl) (resT rfl (resT rfl rfl)) rfl ⟨(clean_slE fun _ _ => ⟨trivial, trivial⟩), trivial, trivial⟩
  ·refine AW.rg rfl fun K hK => ?_
   refine mv rfl rfl ?_
   refine bv rfl (v_bin rfl rfl b_lss) ?_
   refine mv rfl rfl ?_
   by_cases hg13 : p1 < 0
   ·have h := ifT hg13 h
    refine b_F rfl rfl rfl rfl rfl (decide_eq_true hg13) ?_
    refine b_F rfl rfl rfl rfl rfl rfl ?_
    refine b_F rfl rfl rfl rfl rfl rfl ?_
    refine b_F rfl rfl rfl rfl rfl rfl ?_
    refine bv rfl (v_pickT rfl rfl rfl) ?_
    refine b_nil (hK _ ?_)
    clear hK K
    exact to_le (s' := ⟨[(1, HV.int .i64 p1), (2, HV.int .i64 p2), (3, HV.fptr [HV.int .i64 p0.1, HV.int .i64 p0.2.1, slE eFromLabelTo p0.2.2] 0), (24, HV.bool true)], []⟩) (AS.le_of ⟨rfl, rfl, rfl, rfl, trivial⟩ trivial) ⟨true, (), h, rfl⟩
   ·have h := ifF hg13 h
    refine b_T rfl rfl rfl rfl (decide_eq_false hg13) (o_val rfl (mv_val rfl rfl).2 ?_)
    refine b_T rfl rfl rfl rfl rfl (o_val rfl (v_fieldAddrF fo24_1 rfl) ?_)
    refine b_T rfl rfl rfl rfl rfl (o_val rfl (v_loadF ty3 rfl (l_lit rfl rfl)) ?_)
    refine b_T rfl rfl rfl rfl rfl (o_val rfl (v_bin rfl rfl b_geq) ?_)
    refine bv rfl (v_pickF rfl rfl rfl) ?_
    refine b_nil (hK _ ?_)
    clear hK K
    exact to_le (s' := ⟨[(1, HV.int .i64 p1), (2, HV.int .i64 p2), (3, HV.fptr [HV.int .i64 p0.1, HV.int .i64 p0.2.1, slE eFromLabelTo p0.2.2] 0), (24, HV.bool (decide (p0.2.1 ≤ p1)))], []⟩) (AS.le_of ⟨rfl, rfl, rfl, rfl, trivial⟩ trivial) ⟨decide (p0.2.1 ≤ p1), (), h, rfl⟩

set_option maxHeartbeats 1600000 in
set_option maxRecDepth 100000 in
theorem w_slices_Equal_Lstring_string {p0 : List (List UInt8)} {p1 : List (List UInt8)} {r : Bool} (h : m_slices_Equal_Lstring_string p0 p1 = some r) : Pure Tryz.prog 19 [slE eStr p0, slE eStr p1] (· = HV.bool r) := by
 unfold m_slices_Equal_Lstring_string at h
 refine Pure.of_body Tryz.func19 rfl rfl (Nat.le_of_ble_eq_true rfl) fun hf => ?_
 unfold Tryz.f19
 dsimp only [enumS, Nat.reduceAdd]
 refine AW.rgs rfl fun K hK => ?_
 refine mv rfl rfl ?_
 refine b_fin hK (s' := ⟨[(0, slE eStr p0), (1, slE eStr p1)], []⟩) (le_q rfl rfl) ?_
 clear hK K
 refine AW.seq ?_
 refine AW.rgs rfl fun K hK => ?_
 refine mv rfl rfl ?_
 refine bv rfl (v_lenF rfl rfl ty46 rfl) ?_
 refine mv rfl rfl ?_
 refine bv rfl (v_lenF rfl rfl ty46 rfl) ?_
 refine bv rfl (v_bin rfl rfl b_neq) ?_
 refine b_fin hK (s' := ⟨[(0, slE eStr p0), (1, slE eStr p1), (10, HV.bool (decide (((p0).length : Int) ≠ ((p1).length : Int))))], []⟩) (le_q rfl rfl) ?_
 clear hK K
 refine AW.cond rfl (fun hc => ?_) (fun hc => ?_)
 ·have hc := of_decide_eq_true hc
  have h := ifT hc h
  refine AW.rgs rfl fun K hK => ?_
  refine mv rfl rfl ?_
  refine b_fin hK (s' := ⟨[(4, HV.bool false)], []⟩) (le_q rfl rfl) ?_
  clear hK K
  refine AW.ret ?_
  have h := Option.some.inj h
  subst h
  exact ret_pure (hs := [HV.bool false]) (q := HV.bool false) (.inr rfl) (resT rfl rfl) rfl trivial
 ·have hc := of_decide_eq_false hc
  have h := ifF hc h
  refine AW.skip ?_
  refine AW.seq ?_
  refine AW.rgs rfl fun K hK => ?_
  refine mv rfl rfl ?_
  refine bv rfl (v_lenF rfl rfl ty46 rfl) ?_
  refine mv rfl rfl ?_
  refine b_fin hK (s' := ⟨[(0, slE eStr p0), (1, slE eStr p1), (12, HV.int .i64 ((p0).length : Int)), (13, HV.int .i64 0)], []⟩) (le_q rfl rfl) ?_
  clear hK K
  refine AW.lpR h (by first | exact up_then | exact up_to) (S := Int) (V := Unit) (fun a v => ⟨[(0, slE eStr p0), (1, slE eStr p1), (12, HV.int .i64 ((p0).length : Int)), (13, HV.int .i64 a)], []⟩) ?_ (X := Unit) (W := Unit) (fun a v => ⟨[], []⟩) (fun a9 w10 h => ?_) (fun a1 w2 st3 h hr4=> ?_)
  ·exact to_le (s' := ⟨[(0, slE eStr p0), (1, slE eStr p1), (12, HV.int .i64 ((p0).length : Int)), (13, HV.int .i64 0)], []⟩) (AS.le_of ⟨rfl, rfl, rfl, rfl, trivial⟩ trivial) ⟨(), rfl⟩
  ·refine AW.rgs rfl fun K hK => ?_
   refine mv rfl rfl ?_
   refine b_fin hK (s' := ⟨[(4, HV.bool true)], []⟩) (le_q rfl rfl) ?_
   clear hK K
   refine AW.ret ?_
   have h := Option.some.inj h
   subst h
   exact ret_pure (hs := [HV.bool true]) (q := HV.bool true) (.inr rfl) (resT rfl rfl) rfl trivial
  ·refine AW.rgs rfl fun K hK => ?_
   refine bv rfl (v_bin rfl rfl b_lss) ?_
   refine b_fin hK (s' := ⟨[(0, slE eStr p0), (1, slE eStr p1), (12, HV.int .i64 ((p0).length : Int)), (13, HV.int .i64 a1), (14, HV.bool (decide (a1 < ((p0).length : Int))))], []⟩) (le_q rfl rfl) ?_
   clear hK K
   refine AW.cseq rfl (fun hc => ?_) (fun hc => ?_)
   ·have hc := of_decide_eq_true hc
    have h := ifT hc h
    refine AW.skip ?_
    refine AW.seq (AW.block ?_)
    refine AW.rgs rfl fun K hK => ?_
    refine mv rfl rfl ?_
    refine mv rfl rfl ?_
    refine b_fin hK (s' := ⟨[(0, slE eStr p0), (1, slE eStr p1), (5, HV.int .i64 a1), (12, HV.int .i64 ((p0).length : Int)), (13, HV.int .i64 a1)], []⟩) (le_q rfl rfl) ?_
    clear hK K
    refine AW.dgs 9 follows rfl rfl fun K hK => ?_
    refine sm rfl rfl ?_
    refine sm rfl rfl ?_
    obtain ⟨x5, h6, h⟩ := bS h
    refine sv rfl (v_idxF ty46 es46 rfl rfl (idx_lt h6)) ?_
    refine sv rfl (v_loadF ty9 rfl (l_cell eStr h6 (o := 0) rfl rfl)) ?_
    refine sm rfl rfl ?_
    refine sm rfl rfl ?_
    obtain ⟨x7, h8, h⟩ := bS h
    refine sv rfl (v_idxF ty46 es46 rfl rfl (idx_lt h8)) ?_
    refine sv rfl (v_loadF ty9 rfl (l_cell eStr h8 (o := 0) rfl rfl)) ?_
    refine sv rfl (v_bin rfl rfl b_sneq) ?_
    refine s_nil ?_
    refine b_fin hK (s' := ⟨[(0, slE eStr p0), (1, slE eStr p1), (12, HV.int .i64 ((p0).length : Int)), (13, HV.int .i64 a1), (24, HV.bool (decide (x5 ≠ x7)))], []⟩) (le_q rfl rfl) ?_
    clear hK K
    refine AW.cond rfl (fun hc => ?_) (fun hc => ?_)
    ·have hc := of_decide_eq_true hc
     have h := ifT hc h
     refine AW.rgs rfl fun K hK => ?_
     refine mv rfl rfl ?_
     refine b_fin hK (s' := ⟨[(4, HV.bool false)], []⟩) (le_q rfl rfl) ?_
     clear hK K
     have h := hr4 _ h
     refine AW.ret ?_
     have h := Option.some.inj h
     subst h
     exact ret_pure (hs := [HV.bool false]) (q := HV.bool false) (.inr rfl) (resT rfl rfl) rfl trivial
    ·have hc := of_decide_eq_false hc
     have h := ifF hc h
     refine AW.skip ?_
     refine AW.rg rfl fun K hK => ?_
     refine bv rfl (v_bin rfl rfl b_add) ?_
     refine mv rfl rfl ?_
     refine b_nil (hK _ ?_)
     clear hK K
     exact to_le (s' := ⟨[(0, slE eStr p0), (1, slE eStr p1), (12, HV.int .i64 ((p0).length : Int)), (13, HV.int .i64 (IntKind.wrap .i64 (a1 + 1)))], []⟩) (AS.le_of ⟨rfl, rfl, rfl, rfl, trivial⟩ trivial) ⟨IntKind.wrap .i64 (a1 + 1), (), h, rfl⟩
   ·have hc := of_decide_eq_false hc
    have h := ifF hc h
    refine AW.exit ?_
    exact to_le (s' := ⟨[], []⟩) (AS.le_of trivial trivial) ⟨(), (), h, rfl⟩

set_option maxHeartbeats 1600000 in
set_option maxRecDepth 100000 in
theorem w_law12_SubsetWords {p0 : TLabelsStatesEdges} {p1 : Int} {r : Bool} (h : m_law12_SubsetWords p0 p1 = some r) : Pure Tryz.prog 4 [HV.agg [HV.int .i64 p0.1, HV.int .i64 p0.2.1, slE eFromLabelTo p0.2.2], HV.int .u8 p1] (· = HV.bool r) := by
 unfold m_law12_SubsetWords at h
 refine Pure.of_body Tryz.func4 rfl rfl (Nat.le_of_ble_eq_true rfl) fun hf => ?_
 unfold Tryz.f4
 dsimp only [enumS, Nat.reduceAdd]
 refine AW.rgs rfl fun K hK => ?_
 refine b_op rfl (o_box rfl rfl rfl ?_)
 refine mv rfl rfl ?_
 refine b_fin hK (s' := ⟨[(1, HV.int .u8 p1), (2, HV.fptr [HV.int .i64 p0.1, HV.int .i64 p0.2.1, slE eFromLabelTo p0.2.2] 0)], []⟩) (le_q rfl rfl) ?_
 clear hK K
 refine AW.seq ?_
 refine AW.seqJ h (S := Bool) (V := Unit) (fun a v => ⟨[(1, HV.int .u8 p1), (2, HV.fptr [HV.int .i64 p0.1, HV.int .i64 p0.2.1, slE eFromLabelTo p0.2.2] 0), (31, HV.bool a)], []⟩) (fun a1 w2 h => ?_) (fun k3 h => ?_)
 ·refine AW.cond rfl (fun hc => ?_) (fun hc => ?_)
  ·have h := ifT hc h
   refine AW.rgs rfl fun K hK => ?_
   obtain ⟨x4, h5, h⟩ := bS h
   refine b_op rfl (o_call rfl rfl rfl rfl (ACallD.pure0 (w_law12_awake h5)) ?_)
   refine mv rfl rfl ?_
   refine b_fin hK (s' := ⟨[(4, HV.bool x4)], []⟩) (le_q rfl rfl) ?_
   clear hK K
   refine AW.ret ?_
   have h := Option.some.inj h
   subst h
   exact ret_pure (hs := [HV.bool x4]) (q := HV.bool x4) (.inr rfl) (resT rfl rfl) rfl trivial
  ·have h := ifF (bF' hc) h
   refine AW.skip ?_
   refine AW.rgs rfl fun K hK => ?_
   refine mv rfl rfl ?_
   refine bv rfl (v_bin rfl rfl (b_rem (by decide))) ?_
   refine bv rfl (v_convI ty5 ty3 rfl) ?_
   refine mv rfl rfl ?_
   refine b_fin hK (s' := ⟨[(2, HV.fptr [HV.int .i64 p0.1, HV.int .i64 p0.2.1, slE eFromLabelTo p0.2.2] 0), (5, HV.int .i64 (IntKind.wrap .i64 (Int.tmod p1 6)))], []⟩) (le_q rfl rfl) ?_
   clear hK K
   refine AW.rgs rfl fun K hK => ?_
   refine bv rfl (v_loadF ty24 rfl (l_litA rfl (Nat.le_of_ble_eq_true rfl) rfl)) ?_
   obtain ⟨x6, h7, h⟩ := bS h
   refine b_op rfl (o_call rfl rfl rfl rfl (ACallD.pure0 (w_subset_Build h7)) ?_)
   refine mv rfl rfl ?_
   refine bv rfl (v_extract rfl rfl) ?_
   refine bv rfl (v_extract rfl rfl) ?_
   refine bv rfl (v_extract rfl rfl) ?_
   refine b_op rfl (o_alloc (fid := 4) (zs := [HV.int .i64 0, HV.int .i64 0, HV.v (.slice none 0 0)]) 4006 rfl rfl ty24 rfl (fun v8 => ?_))
   refine b_op rfl (o_store (cs := [HV.int .i64 x6.1.1, HV.int .i64 x6.1.2.1, slE eFromLabelTo x6.1.2.2]) (zs := [HV.int .i64 x6.1.1, HV.int .i64 x6.1.2.1, slE eFromLabelTo x6.1.2.2]) rfl rfl rfl ty24 rfl rfl rfl rfl rfl ?_)
   refine mv rfl rfl ?_
   refine mv rfl rfl ?_
   refine b_fin hK (s' := ⟨[(2, HV.fptr [HV.int .i64 p0.1, HV.int .i64 p0.2.1, slE eFromLabelTo p0.2.2] 0), (5, HV.int .i64 (IntKind.wrap .i64 (Int.tmod p1 6))), (6, HV.ptr 4006 v8 0), (8, HV.int .i64 x6.2.2)], [(4006, v8, .arr 3 24 [HV.int .i64 x6.1.1, HV.int .i64 x6.1.2.1, slE eFromLabelTo x6.1.2.2])]⟩) (le_q rfl rfl) ?_
   clear hK K
   refine AW.seq ?_
   refine AW.rgs rfl fun K hK => ?_
   refine mv rfl rfl ?_
   refine bv rfl (v_bin rfl rfl b_neq) ?_
   refine b_fin hK (s' := ⟨[(2, HV.fptr [HV.int .i64 p0.1, HV.int .i64 p0.2.1, slE eFromLabelTo p0.2.2] 0), (5, HV.int .i64 (IntKind.wrap .i64 (Int.tmod p1 6))), (6, HV.ptr 4006 v8 0), (43, HV.bool (decide (x6.2.2 ≠ 0)))], [(4006, v8, .arr 3 24 [HV.int .i64 x6.1.1, HV.int .i64 x6.1.2.1, slE eFromLabelTo x6.1.2.2])]⟩) (le_q rfl rfl) ?_
   clear hK K
   refine AW.cond rfl (fun hc => ?_) (fun hc => ?_)
   ·have hc := of_decide_eq_true hc
    have h := ifT hc h
    refine AW.rgs rfl fun K hK => ?_
    obtain ⟨x9, h10, h⟩ := bS h
    refine b_op rfl (o_call rfl rfl rfl rfl (ACallD.pure0 (w_law12_awake h10)) ?_)
    refine mv rfl rfl ?_
    refine b_fin hK (s' := ⟨[(4, HV.bool x9)], []⟩) (le_q rfl rfl) ?_
    clear hK K
    refine AW.ret ?_
    have h := Option.some.inj h
    subst h
    exact ret_pure (hs := [HV.bool x9]) (q := HV.bool x9) (.inr rfl) (resT rfl rfl) rfl trivial
   ·have hc := of_decide_eq_false hc
    have h := ifF hc h
    refine AW.skip ?_
    refine AW.rgs rfl fun K hK => ?_
    refine bv rfl (v_loadF ty24 rfl (l_litA rfl (Nat.le_of_ble_eq_true rfl) rfl)) ?_
    refine mv rfl rfl ?_
    obtain ⟨x11, h12, h⟩ := bS h
    refine b_op rfl (o_call rfl rfl rfl rfl (ACallD.pure0 (w_language_Words h12)) ?_)
    refine mv rfl rfl ?_
    refine bv rfl (v_extract rfl rfl) ?_
    refine bv rfl (v_extract rfl rfl) ?_
    refine mv rfl rfl ?_
    refine mv rfl rfl ?_
    refine b_fin hK (s' := ⟨[(2, HV.fptr [HV.int .i64 p0.1, HV.int .i64 p0.2.1, slE eFromLabelTo p0.2.2] 0), (5, HV.int .i64 (IntKind.wrap .i64 (Int.tmod p1 6))), (6, HV.ptr 4006 v8 0), (9, slE eStr x11.1), (10, HV.int .i64 x11.2)], [(4006, v8, .arr 3 24 [HV.int .i64 x6.1.1, HV.int .i64 x6.1.2.1, slE eFromLabelTo x6.1.2.2])]⟩) (le_q rfl rfl) ?_
    clear hK K
    refine AW.rgs rfl fun K hK => ?_
    refine bv rfl (v_loadP ty24 rfl rfl (l_litA rfl (Nat.le_of_ble_eq_true rfl) rfl)) ?_
    refine mv rfl rfl ?_
    obtain ⟨x13, h14, h⟩ := bS h
    refine b_op rfl (o_call rfl rfl rfl rfl (ACallD.pure0 (w_language_From h14)) ?_)
    refine mv rfl rfl ?_
    refine bv rfl (v_extract rfl rfl) ?_
    refine bv rfl (v_extract rfl rfl) ?_
    refine mv rfl rfl ?_
    refine mv rfl rfl ?_
    refine b_fin hK (s' := ⟨[(2, HV.fptr [HV.int .i64 p0.1, HV.int .i64 p0.2.1, slE eFromLabelTo p0.2.2] 0), (5, HV.int .i64 (IntKind.wrap .i64 (Int.tmod p1 6))), (9, slE eStr x11.1), (10, HV.int .i64 x11.2), (11, slE eStr x13.1), (12, HV.int .i64 x13.2)], []⟩) (le_q rfl rfl) ?_
    clear hK K
    refine AW.rgs rfl fun K hK => ?_
    refine bv rfl (v_loadF ty24 rfl (l_litA rfl (Nat.le_of_ble_eq_true rfl) rfl)) ?_
    refine mv rfl rfl ?_
    obtain ⟨x15, h16, h⟩ := bS h
    refine b_op rfl (o_call rfl rfl rfl rfl (ACallD.pure0 (w_subset_Count h16)) ?_)
    refine mv rfl rfl ?_
    refine bv rfl (v_extract rfl rfl) ?_
    refine bv rfl (v_extract rfl rfl) ?_
    refine b_op rfl (o_alloc (fid := 4) (zs := [HV.bool false, HV.str ([] : List UInt8)]) 4013 rfl rfl ty32 rfl (fun v17 => ?_))
    refine b_op rfl (o_store (cs := [HV.bool x15.1.1, HV.str x15.1.2]) (zs := [HV.bool x15.1.1, HV.str x15.1.2]) rfl rfl rfl ty32 rfl rfl rfl rfl rfl ?_)
    refine mv rfl rfl ?_
    refine b_fin hK (s' := ⟨[(9, slE eStr x11.1), (10, HV.int .i64 x11.2), (11, slE eStr x13.1), (12, HV.int .i64 x13.2), (13, HV.ptr 4013 v17 0), (14, HV.int .i64 x15.2)], [(4013, v17, .arr 2 32 [HV.bool x15.1.1, HV.str x15.1.2])]⟩) (le_q rfl rfl) ?_
    clear hK K
    refine AW.seqJ h (S := Bool) (V := Unit) (fun a v => ⟨[(4, HV.bool a)], []⟩) (fun a18 w19 h => ?_) (fun k20 h => ?_)
    ·refine AW.ret ?_
     have h := Option.some.inj h
     subst h
     exact ret_pure (hs := [HV.bool a18]) (q := HV.bool a18) (.inr rfl) (resT rfl rfl) rfl trivial
    ·refine AW.dg 21 follows rfl rfl fun K hK => ?_
     refine sm rfl rfl ?_
     refine sm rfl rfl ?_
     refine sm rfl rfl ?_
     refine sv rfl (v_max3 rfl rfl rfl rfl) ?_
     refine sv rfl (v_bin rfl rfl b_eql) ?_
     refine sm rfl rfl ?_
     by_cases hg29 : (max (max x11.2 x13.2) x15.2) = 0
     ·have h := ifT hg29 h
      refine s_T rfl rfl rfl rfl rfl (decide_eq_true hg29) (ops_val rfl (mv_val rfl rfl).2 ?_)
      refine s_T rfl rfl rfl rfl rfl rfl (ops_val rfl (mv_val rfl rfl).2 ?_)
      obtain ⟨x21, h22, h⟩ := bS h
      refine s_T rfl rfl rfl rfl rfl rfl (ops_call rfl rfl rfl rfl (ACallD.pure0 (w_slices_Equal_Lstring_string h22)) ?_)
      refine sv rfl (v_pickT rfl rfl rfl) ?_
      refine sm rfl rfl ?_
      by_cases hg28 : x21 = true
      ·have h := ifT hg28 h
       refine s_T rfl rfl rfl rfl rfl hg28 (ops_val rfl (v_loadP ty32 rfl rfl (l_litA rfl (Nat.le_of_ble_eq_true rfl) rfl)) ?_)
       refine s_T rfl rfl rfl rfl rfl rfl (ops_val rfl (mv_val rfl rfl).2 ?_)
       refine s_T rfl rfl rfl rfl rfl rfl (ops_val rfl (v_lenF rfl rfl ty46 rfl) ?_)
       obtain ⟨x23, h24, h⟩ := bS h
       refine s_T rfl rfl rfl rfl rfl rfl (ops_call rfl rfl rfl rfl (ACallD.pure0 (w_integer_Of h24)) ?_)
       refine s_T rfl rfl rfl rfl rfl rfl (ops_val rfl (v_bin rfl rfl (b_aeql (hk32 _ _) (hk32 _ _) hc32 (hq32 _ _))) ?_)
       refine sv rfl (v_pickT rfl rfl rfl) ?_
       refine sm rfl rfl ?_
       by_cases hg27 : x15.1 = x23
       ·have h := ifT hg27 h
        obtain ⟨x25, h26, h⟩ := bS h
        refine s_T rfl rfl rfl rfl rfl (decide_eq_true hg27) (ops_call rfl rfl rfl rfl (ACallD.pure0 (w_law12_awake h26)) ?_)
        refine sv rfl (v_pickT rfl rfl rfl) ?_
        refine sm rfl rfl ?_
        refine s_nil ?_
        refine b_nil (hK _ ?_)
        clear hK K
        exact to_le (s' := ⟨[(4, HV.bool x25)], []⟩) (AS.le_of ⟨rfl, trivial⟩ trivial) ⟨x25, (), h, rfl⟩
       ·have h := ifF hg27 h
        refine s_F rfl rfl rfl rfl rfl (decide_eq_false hg27) ?_
        refine sv rfl (v_pickF rfl rfl rfl) ?_
        refine sm rfl rfl ?_
        refine s_nil ?_
        refine b_nil (hK _ ?_)
        clear hK K
        exact to_le (s' := ⟨[(4, HV.bool false)], []⟩) (AS.le_of ⟨rfl, trivial⟩ trivial) ⟨false, (), h, rfl⟩
      ·have h := ifF hg28 h
       refine s_F rfl rfl rfl rfl rfl (bF hg28) ?_
       refine s_F rfl rfl rfl rfl rfl rfl ?_
       refine s_F rfl rfl rfl rfl rfl rfl ?_
       refine s_F rfl rfl rfl rfl rfl rfl ?_
       refine s_F rfl rfl rfl rfl rfl rfl ?_
       refine sv rfl (v_pickF rfl rfl rfl) ?_
       refine sm rfl rfl ?_
       refine s_F rfl rfl rfl rfl rfl rfl ?_
       refine sv rfl (v_pickF rfl rfl rfl) ?_
       refine sm rfl rfl ?_
       refine s_nil ?_
       refine b_nil (hK _ ?_)
       clear hK K
       exact to_le (s' := ⟨[(4, HV.bool false)], []⟩) (AS.le_of ⟨rfl, trivial⟩ trivial) ⟨false, (), h, rfl⟩
     ·have h := ifF hg29 h
      refine s_F rfl rfl rfl rfl rfl (decide_eq_false hg29) ?_
      refine s_F rfl rfl rfl rfl rfl rfl ?_
      refine s_F rfl rfl rfl rfl rfl rfl ?_
      refine sv rfl (v_pickF rfl rfl rfl) ?_
      refine sm rfl rfl ?_
      refine s_F rfl rfl rfl rfl rfl rfl ?_
      refine s_F rfl rfl rfl rfl rfl rfl ?_
      refine s_F rfl rfl rfl rfl rfl rfl ?_
      refine s_F rfl rfl rfl rfl rfl rfl ?_
      refine s_F rfl rfl rfl rfl rfl rfl ?_
      refine sv rfl (v_pickF rfl rfl rfl) ?_
      refine sm rfl rfl ?_
      refine s_F rfl rfl rfl rfl rfl rfl ?_
      refine sv rfl (v_pickF rfl rfl rfl) ?_
      refine sm rfl rfl ?_
      refine s_nil ?_
      refine b_nil (hK _ ?_)
      clear hK K
      exact to_le (s' := ⟨[(4, HV.bool false)], []⟩) (AS.le_of ⟨rfl, trivial⟩ trivial) ⟨false, (), h, rfl⟩
 ·refine AW.rg rfl fun K hK => ?_
  refine bv rfl (v_loadF ty24 rfl (l_litA rfl (Nat.le_of_ble_eq_true rfl) rfl)) ?_
  obtain ⟨x30, h31, h⟩ := bS h
  refine b_op rfl (o_call rfl rfl rfl rfl (ACallD.pure0 (w_law12_great h31)) ?_)
  refine mv rfl rfl ?_
  by_cases hg36 : x30 = true
  ·have h := ifT hg36 h
   refine b_F rfl rfl rfl rfl rfl hg36 ?_
   refine b_F rfl rfl rfl rfl rfl rfl ?_
   refine b_F rfl rfl rfl rfl rfl rfl ?_
   refine bv rfl (v_pickT rfl rfl rfl) ?_
   refine mv rfl rfl ?_
   refine b_F rfl rfl rfl rfl rfl rfl ?_
   refine b_F rfl rfl rfl rfl rfl rfl ?_
   refine b_F rfl rfl rfl rfl rfl rfl ?_
   refine bv rfl (v_pickT rfl rfl rfl) ?_
   refine mv rfl rfl ?_
   refine b_F rfl rfl rfl rfl rfl rfl ?_
   refine b_F rfl rfl rfl rfl rfl rfl ?_
   refine b_F rfl rfl rfl rfl rfl rfl ?_
   refine bv rfl (v_pickT rfl rfl rfl) ?_
   refine b_nil (hK _ ?_)
   clear hK K
   exact to_le (s' := ⟨[(1, HV.int .u8 p1), (2, HV.fptr [HV.int .i64 p0.1, HV.int .i64 p0.2.1, slE eFromLabelTo p0.2.2] 0), (31, HV.bool true)], []⟩) (AS.le_of ⟨rfl, rfl, rfl, trivial⟩ trivial) ⟨true, (), h, rfl⟩
  ·have h := ifF hg36 h
   refine b_T rfl rfl rfl rfl (bF hg36) (o_val rfl (v_loadF ty24 rfl (l_litA rfl (Nat.le_of_ble_eq_true rfl) rfl)) ?_)
   obtain ⟨x32, h33, h⟩ := bS h
   refine b_T rfl rfl rfl rfl rfl (o_call rfl rfl rfl rfl (ACallD.pure0 (w_graph_Check h33)) ?_)
   refine b_T rfl rfl rfl rfl rfl (o_val rfl (v_bin rfl rfl b_neq) ?_)
   refine bv rfl (v_pickF rfl rfl rfl) ?_
   refine mv rfl rfl ?_
   by_cases hg35 : x32 ≠ 0
   ·have h := ifT hg35 h
    refine b_F rfl rfl rfl rfl rfl (decide_eq_true hg35) ?_
    refine b_F rfl rfl rfl rfl rfl rfl ?_
    refine b_F rfl rfl rfl rfl rfl rfl ?_
    refine bv rfl (v_pickT rfl rfl rfl) ?_
    refine mv rfl rfl ?_
    refine b_F rfl rfl rfl rfl rfl rfl ?_
    refine b_F rfl rfl rfl rfl rfl rfl ?_
    refine b_F rfl rfl rfl rfl rfl rfl ?_
    refine bv rfl (v_pickT rfl rfl rfl) ?_
    refine b_nil (hK _ ?_)
    clear hK K
    exact to_le (s' := ⟨[(1, HV.int .u8 p1), (2, HV.fptr [HV.int .i64 p0.1, HV.int .i64 p0.2.1, slE eFromLabelTo p0.2.2] 0), (31, HV.bool true)], []⟩) (AS.le_of ⟨rfl, rfl, rfl, trivial⟩ trivial) ⟨true, (), h, rfl⟩
   ·have h := ifF hg35 h
    refine b_T rfl rfl rfl rfl (decide_eq_false hg35) (o_val rfl (v_fieldAddrF fo24_0 rfl) ?_)
    refine b_T rfl rfl rfl rfl rfl (o_val rfl (v_loadF ty3 rfl (l_lit rfl rfl)) ?_)
    refine b_T rfl rfl rfl rfl rfl (o_val rfl (v_bin rfl rfl b_gtr) ?_)
    refine bv rfl (v_pickF rfl rfl rfl) ?_
    refine mv rfl rfl ?_
    by_cases hg34 : 3 < p0.1
    ·have h := ifT hg34 h
     refine b_F rfl rfl rfl rfl rfl (decide_eq_true hg34) ?_
     refine b_F rfl rfl rfl rfl rfl rfl ?_
     refine b_F rfl rfl rfl rfl rfl rfl ?_
     refine bv rfl (v_pickT rfl rfl rfl) ?_
     refine b_nil (hK _ ?_)
     clear hK K
     exact to_le (s' := ⟨[(1, HV.int .u8 p1), (2, HV.fptr [HV.int .i64 p0.1, HV.int .i64 p0.2.1, slE eFromLabelTo p0.2.2] 0), (31, HV.bool true)], []⟩) (AS.le_of ⟨rfl, rfl, rfl, trivial⟩ trivial) ⟨true, (), h, rfl⟩
    ·have h := ifF hg34 h
     refine b_T rfl rfl rfl rfl (decide_eq_false hg34) (o_val rfl (v_fieldAddrF fo24_1 rfl) ?_)
     refine b_T rfl rfl rfl rfl rfl (o_val rfl (v_loadF ty3 rfl (l_lit rfl rfl)) ?_)
     refine b_T rfl rfl rfl rfl rfl (o_val rfl (v_bin rfl rfl b_eql) ?_)
     refine bv rfl (v_pickF rfl rfl rfl) ?_
     refine b_nil (hK _ ?_)
     clear hK K
     exact to_le (s' := ⟨[(1, HV.int .u8 p1), (2, HV.fptr [HV.int .i64 p0.1, HV.int .i64 p0.2.1, slE eFromLabelTo p0.2.2] 0), (31, HV.bool (decide (p0.2.1 = 0)))], []⟩) (AS.le_of ⟨rfl, rfl, rfl, trivial⟩ trivial) ⟨decide (p0.2.1 = 0), (), h, rfl⟩

end Go.AW



/- SubsetSets. -/
namespace Go.AW
open Go
set_option linter.unusedSimpArgs false
set_option linter.unusedVariables false

theorem no0 : ¬ (0 : Int) ≠ 0 := fun h => h rfl

section
variable {g : Gr} {a : List Int} {E : List Ed} {L : List (List Int)}
theorem Sets.inj (h : Sets g a E L) {i k : Nat} (hi : i < L.length) (hk : k < L.length) (e : L[i] = L[k]) : i = k := by
  have h1 := h.idx_at hi
  have h2 := h.idx_at hk
  rw [getD_lt hi] at h1
  rw [getD_lt hk] at h2
  rw [← h1, ← h2, e]

end
end Go.AW

/- SubsetAgain. -/
namespace Go.AW
open Go
set_option linter.unusedSimpArgs false
set_option linter.unusedVariables false

section
variable {g : Gr}
/-- the edges of the first m sets -/
def partE (g : Gr) (m : Nat) (L : List (List Int)) : List Ed := (List.range m).flatMap fun j => rowE g j (L.getD j []) L g.1.toNat
/-- the sets of one number each -/
def oneL (n : Nat) : List (List Int) := (List.range n).map fun (j : Nat) => [(j : Int)]
theorem oneL_len (n : Nat) : (oneL n).length = n := by simp [oneL]
theorem oneL_succ (n : Nat) : oneL (n + 1) = oneL n ++ [[(n : Int)]] := by simp [oneL, List.range_succ]
theorem oneL_mem {n t : Nat} : [(t : Int)] ∈ oneL n ↔ t < n := by
  simp only [oneL, List.mem_map, List.mem_range]
  constructor
  · rintro ⟨j, hj, h⟩
    have : (j : Int) = (t : Int) := by simpa using h
    omega
  · intro h; exact ⟨t, h, rfl⟩
theorem oneL_at {n i : Nat} (h : i < (oneL n).length) : (oneL n)[i] = [(i : Int)] := by simp [oneL]
theorem oneL_idx {n t : Nat} (h : t < n) : (oneL n).idxOf [(t : Int)] = t := by
  refine idxOf_at (by rw [oneL_len]; exact h) (oneL_at _) fun hm => ?_
  obtain ⟨k, hk, he⟩ := List.getElem_of_mem hm
  rw [List.getElem_take, oneL_at] at he
  have : (k : Int) = (t : Int) := by simpa using he
  simp at hk
  omega

variable {a : List Int} {E : List Ed} {L : List (List Int)}
/-- a step in a graph of sets -/
theorem Sets.step (hv : VG g) (h : Sets g a E L) {j lab : Nat} (hj : j < L.length) (hlab : lab < g.1.toNat) :
    stepL (g.1, (L.length : Int), E) [(j : Int)] (lab : Int) = if stepL g (L.getD j []) (lab : Int) = [] then [] else [((L.idxOf (stepL g (L.getD j []) (lab : Int)) : Nat) : Int)] := by
  refine asc_uniq (stepL_ok _ _ _).1 (by split <;> simp) fun t => ?_
  rw [mem_stepL (h.vg hv)]
  constructor
  · rintro ⟨e, he, e1, e2, e3⟩
    obtain ⟨j', lab', hj', hlab', hz, rfl⟩ := h.mem.1 he
    have e3 := List.mem_singleton.1 e3
    dsimp only at e1 e2 e3
    have ej : j' = j := by omega
    have el : lab' = lab := by omega
    subst ej; subst el
    rw [if_neg hz, ← e1]
    simp
  · intro ht
    split at ht
    · cases ht
    · rename_i hz
      exact ⟨((j : Int), (lab : Int), t), h.mem.2 ⟨j, lab, hj, hlab, hz, by rw [List.mem_singleton.1 ht]⟩, rfl, rfl, by simp⟩

/-- the search in the graph of sets goes beside the search for it -/
theorem Sets.beside_step (hv : VG g) (h : Sets g a E L) {st : BS} {i lab : Nat} (hi : i < st.2.length) (hlab : lab < g.1.toNat) (hp : (bstep g i (L.getD i []) st lab).2 <+: L) (hp0 : st.2 <+: L) :
    bstep (g.1, (L.length : Int), E) i [(i : Int)] (st.1, oneL st.2.length) lab = ((bstep g i (L.getD i []) st lab).1, oneL (bstep g i (L.getD i []) st lab).2.length) := by
  have hle := hp0.length_le
  have hst := h.step hv (j := i) (lab := lab) (by omega) hlab
  unfold bstep at hp ⊢
  rw [hst]
  by_cases hz : stepL g (L.getD i []) (lab : Int) = []
  · rw [if_pos hz, if_pos rfl, if_pos hz]
  · rw [if_neg hz] at hp
    rw [if_neg hz, if_neg hz, if_neg (by simp)]
    dsimp only at hp ⊢
    by_cases hm : stepL g (L.getD i []) (lab : Int) ∈ st.2
    · have hlt := idxOf_lt hm
      rw [if_pos hm, idxOf_pre hp0 hm, if_pos (oneL_mem.2 hlt), oneL_idx hlt]
    · rw [if_neg hm] at hp
      have e : L.idxOf (stepL g (L.getD i []) (lab : Int)) = st.2.length := by
        rw [idxOf_pre hp (by simp), List.idxOf_append, if_neg hm, List.idxOf_cons_self]
        simp
      have hno : [((st.2.length : Nat) : Int)] ∉ oneL st.2.length := fun hx => Nat.lt_irrefl _ (oneL_mem.1 hx)
      rw [if_neg hm, e, if_neg hno, idxOf_no hno, idxOf_no hm, oneL_len, List.length_append, List.length_singleton, oneL_succ]
theorem Sets.beside_row (hv : VG g) (h : Sets g a E L) {st : BS} {i : Nat} (hi : i < st.2.length) : ∀ n, n ≤ g.1.toNat → (browN g i (L.getD i []) n st).2 <+: L → browN (g.1, (L.length : Int), E) i [(i : Int)] n (st.1, oneL st.2.length) = ((browN g i (L.getD i []) n st).1, oneL (browN g i (L.getD i []) n st).2.length)
  | 0, _, _ => rfl
  | n + 1, hn, hp => by
    rw [browN_succ] at hp
    rw [browN_succ, browN_succ]
    have hg1 := (bstep_grow (g := g) i (L.getD i []) (browN g i (L.getD i []) n st) n).2.1
    have hp0 := hg1.trans hp
    have hg2 := (browN_grow (g := g) i (L.getD i []) st n).2.1.length_le
    rw [h.beside_row hv hi n (by omega) hp0]
    exact h.beside_step hv (by omega) (by omega) hp hp0

theorem brun_pre : ∀ f i (st st' : BS), brun g f i st = some st' → st.2 <+: st'.2
  | 0, _, _, _, h => by cases h
  | f + 1, i, st, st', h => by
    unfold brun at h
    by_cases hlt : i < st.2.length
    · rw [if_pos hlt] at h
      by_cases hsm : small (brow g i st)
      · rw [if_pos hsm] at h
        exact (browN_grow (g := g) i (st.2.getD i []) st g.1.toNat).2.1.trans (brun_pre f (i + 1) _ _ h)
      · rw [if_neg hsm] at h; cases h
    · rw [if_neg hlt] at h
      cases h
      exact List.prefix_refl _
theorem Sets.beside (hv : VG g) (h : Sets g a E L) : ∀ f i (st : BS), brun g f i st = some (E, L) → brun (g.1, (L.length : Int), E) f i (st.1, oneL st.2.length) = some (E, oneL L.length)
  | 0, _, _, hr => by cases hr
  | f + 1, i, st, hr => by
    unfold brun at hr ⊢
    dsimp only
    rw [oneL_len]
    by_cases hlt : i < st.2.length
    · rw [if_pos hlt] at hr ⊢
      by_cases hsm : small (brow g i st)
      · rw [if_pos hsm] at hr
        have hp := brun_pre _ _ _ _ hr
        have hp2 := (browN_grow (g := g) i (st.2.getD i []) st g.1.toNat).2.1.trans hp
        have hgd := pre_getD hp2 hlt
        have hrow : brow (g.1, (L.length : Int), E) i (st.1, oneL st.2.length) = ((brow g i st).1, oneL (brow g i st).2.length) := by
          unfold brow at hp ⊢
          dsimp only
          rw [getD_lt (by rw [oneL_len]; exact hlt), oneL_at, ← hgd]
          rw [← hgd] at hp
          exact h.beside_row hv hlt _ (Nat.le_refl _) hp
        have hsm2 : small ((brow g i st).1, oneL (brow g i st).2.length) := ⟨by dsimp only; rw [oneL_len]; exact hsm.1, hsm.2⟩
        rw [hrow, if_pos hsm2]
        exact h.beside hv f (i + 1) _ hr
      · rw [if_neg hsm] at hr; cases hr
    · rw [if_neg hlt] at hr ⊢
      cases hr
      rfl

end
end Go.AW

/- The law of paths. -/
namespace Go.AW
open Go
set_option linter.unusedSimpArgs false
set_option linter.unusedVariables false
section
variable {g : Gr}

theorem one_ok {s : Int} (h0 : 0 ≤ s) (h1 : s < g.2.1) : SetOk g [s] := ⟨List.pairwise_singleton .., fun x hx => by simp at hx; subst hx; exact ⟨h0, h1⟩⟩

end
end Go.AW

/- The letters that can follow, and the least path, in the reference; the law of reading. -/
namespace Go.AW
open Go
set_option linter.unusedSimpArgs false
set_option linter.unusedVariables false

section
variable {g : Gr}
end

end Go.AW

/- Lists of words from a state, between states, and the first missing word: the program and the reference agree. -/
namespace Go.AW
open Go
set_option linter.unusedSimpArgs false
set_option linter.unusedVariables false

section
variable {g : Gr}
theorem LV_small {set : List Int} {n : Nat} (hok : OKL g set n = true) : (LV g set n).length ≤ 4096 := by
  by_cases h0 : n = 0
  · subst h0; have := LV_zero g set; omega
  · exact OKL_iff.1 hok n (by omega) (Nat.le_refl _)

theorem From_both (g : Gr) (s n : Int) : ∃ r, m_language_From g s n = some r ∧ m_ref11_From g s n = some r ∧ r.1.length ≤ 4096 ∧
    (VG g → g.1 ≤ 16 → 0 ≤ n → n ≤ 4096 → 0 ≤ s → s < g.2.1 → OKL g [s] n.toNat = true → r = ((LV g [s] n.toNat).map Prod.fst, 0)) := by
  obtain ⟨e, he, hz⟩ := checkNumber_tot g n
  unfold m_language_From m_ref11_From
  rw [lengths_ref, he]
  simp only [Option.bind_some, jp]
  by_cases h0 : e = 0
  case neg =>
    rw [if_pos h0, if_pos h0]
    exact ⟨_, rfl, rfl, by simp, fun h1 h2 h3 h4 _ _ _ => absurd (hz.2 ⟨h1, h2, h3, h4⟩) h0⟩
  obtain ⟨hv, h16, hn0, hn1⟩ := hz.1 h0
  rw [if_neg (by omega : ¬ e ≠ 0), if_neg (by omega : ¬ e ≠ 0)]
  by_cases h1 : s < 0
  · rw [if_pos h1, if_pos h1]
    exact ⟨_, rfl, rfl, by simp, fun _ _ _ _ h _ _ => by omega⟩
  rw [if_neg h1, if_neg h1]
  by_cases h2 : g.2.1 ≤ s
  · rw [if_pos (decide_eq_true h2), if_pos (decide_eq_true h2)]
    exact ⟨_, rfl, rfl, by simp, fun _ _ _ _ _ h _ => by omega⟩
  rw [if_neg (by simpa using h2), if_neg (by simpa using h2)]
  have hs := one_ok (g := g) (s := s) (by omega) (by omega)
  obtain ⟨m, hm⟩ := Int.eq_ofNat_of_zero_le hn0
  subst hm
  rw [list_eq hv h16 hs, refwords_eq hv h16 hs (by omega : m ≤ 4096)]
  by_cases hok : OKL g [s] m = true
  · have hl := LV_small hok
    simp only [if_pos hok, Option.bind_some, ne_eq, not_true_eq_false, if_false, if_true]
    rw [texts_eq (by omega), sortS_id (LV_asc g _ m)]
    exact ⟨_, rfl, rfl, by simpa using hl, fun _ _ _ _ _ _ _ => by simp⟩
  · simp only [if_neg hok, Option.bind_some, if_neg (show ¬ false = true by simp)]
    exact ⟨([], 4), rfl, (by simp), by simp, fun _ _ _ _ _ _ h => absurd (by simpa using h) hok⟩

end

end Go.AW

/- Compaction of lists of texts. -/
namespace Go.AW
open Go
end Go.AW

/- Models, printed by lk.py. -/
namespace Go.AW
open Go
set_option linter.unusedVariables false
end Go.AW

/- The law of parts: words from all states, between all pairs of states. -/
namespace Go.AW
open Go
set_option linter.unusedSimpArgs false
set_option linter.unusedVariables false

section
variable {g : Gr}
/-- the words from a set; those that end in a state -/
def wordsF (g : Gr) (set : List Int) (n : Nat) : List (List UInt8) := (allW (lets g) n).filter fun w => decide (endsL g set w ≠ [])
theorem wordsF_asc (set : List Int) (n : Nat) : (wordsF g set n).Pairwise (· < ·) := (allW_asc (lets_asc g) n).filter _
theorem LV_words (hv : VG g) {set : List Int} (hs : SetOk g set) (n : Nat) : (LV g set n).map Prod.fst = wordsF g set n := by
  refine ascW_uniq (LV_asc g _ n) (wordsF_asc _ _) fun w => ?_
  simp only [wordsF, List.mem_map, List.mem_filter, mem_allW, decide_eq_true_eq]
  constructor
  · rintro ⟨x, hx, rfl⟩
    obtain ⟨h1, h2, h3, h4⟩ := (mem_LV hv hs n x).1 hx
    exact ⟨⟨h1, h2⟩, by rw [← h3]; exact h4⟩
  · rintro ⟨⟨h1, h2⟩, h3⟩
    exact ⟨(w, endsL g set w), (mem_LV hv hs n _).2 ⟨h1, h2, rfl, h3⟩, rfl⟩
theorem LV_le (hv : VG g) {set : List Int} (hs : SetOk g set) (n : Nat) : (LV g set n).length ≤ (allW (lets g) n).length := by
  have : (LV g set n).length = ((LV g set n).map Prod.fst).length := by rw [List.length_map]
  rw [this, LV_words hv hs]
  exact List.length_filter_le _ _
end

end Go.AW

/- SubsetWords. -/
namespace Go.AW
open Go
set_option linter.unusedSimpArgs false
set_option linter.unusedVariables false

theorem lets_lab : ∀ m, m < 17 → (letters.take m).map lab = (List.range m).map Int.ofNat := by decide +kernel

/-- a sum with weights -/
def Sm (c : List Nat) (f : Nat → Nat) (m : Nat) : Nat := ((List.range m).map fun j => c.getD j 0 * f j).sum
theorem Sm_succ (c : List Nat) (f : Nat → Nat) (m : Nat) : Sm c f (m + 1) = Sm c f m + c.getD m 0 * f m := by simp [Sm, List.range_succ]
theorem getD_set {c : List Nat} {t m v : Nat} (h : t < c.length) : (c.set t v).getD m 0 = if t = m then v else c.getD m 0 := by
  simp only [List.getD, List.getElem?_set]
  by_cases e : t = m
  · rw [if_pos e, if_pos e, if_pos (by omega)]; rfl
  · rw [if_neg e, if_neg e]
theorem Sm_set {c : List Nat} {t : Nat} (d : Nat) (f : Nat → Nat) (h : t < c.length) : ∀ m, Sm (c.set t (c.getD t 0 + d)) f m = Sm c f m + if t < m then d * f t else 0
  | 0 => by simp [Sm]
  | m + 1 => by
    rw [Sm_succ, Sm_succ, Sm_set d f h m, getD_set h]
    by_cases e : t = m
    · subst e
      rw [if_pos rfl, if_neg (by omega), if_pos (by omega), Nat.add_mul]
      omega
    · rw [if_neg e]
      by_cases hlt : t < m
      · rw [if_pos hlt, if_pos (by omega)]; omega
      · rw [if_neg hlt, if_neg (by omega)]; omega
theorem Sm_zero (n : Nat) (f : Nat → Nat) : ∀ m, Sm (List.replicate n 0) f m = 0
  | 0 => by simp [Sm]
  | m + 1 => by
    rw [Sm_succ, Sm_zero n f m]
    have : (List.replicate n 0).getD m 0 = 0 := by
      simp only [List.getD, List.getElem?_replicate]
      split <;> rfl
    rw [this]
    simp
theorem Sm_fold (c : List Nat) (f : Nat → Nat) : ∀ (E : List Ed) (nxt : List Nat), (∀ x ∈ E, x.2.2.toNat < nxt.length) → Sm (E.foldl (addE c) nxt) f nxt.length = Sm nxt f nxt.length + (E.map fun x => c.getD x.1.toNat 0 * f x.2.2.toNat).sum
  | [], nxt, _ => by simp
  | x :: E, nxt, h => by
    have hx := h x (List.mem_cons_self ..)
    have ih := Sm_fold c f E (addE c nxt x) fun y hy => by rw [addE_len]; exact h y (List.mem_cons_of_mem _ hy)
    rw [addE_len] at ih
    rw [List.foldl_cons, ih, List.map_cons, List.sum_cons]
    unfold addE
    rw [Sm_set _ f hx, if_pos hx]
    omega
theorem sum_mul {α : Type} (a : Nat) (h : α → Nat) : ∀ l : List α, (l.map fun x => a * h x).sum = a * (l.map h).sum
  | [] => by simp
  | x :: l => by simp only [List.map_cons, List.sum_cons, sum_mul a h l, Nat.mul_add]
theorem csum_take (c : List Nat) : ∀ m, m ≤ c.length → csum (c.take m) = Sm c (fun _ => 1) m
  | 0, _ => by simp [csum, Sm]
  | m + 1, h => by
    rw [List.take_add_one, List.getElem?_eq_getElem (by omega), Sm_succ, ← csum_take c m (by omega), getD_lt (by omega : m < c.length)]
    simp only [Option.toList_some]
    rw [csum_snoc]
    omega
theorem csum_Sm (c : List Nat) : csum c = Sm c (fun _ => 1) c.length := by
  rw [← csum_take c c.length (Nat.le_refl _), List.take_length]

section
variable {g : Gr} {a : List Int} {E : List Ed} {L : List (List Int)}
theorem sum_rows (g : Gr) (L : List (List Int)) (c : List Nat) (f : Nat → Nat) : ∀ m, ((partE g m L).map fun x => c.getD x.1.toNat 0 * f x.2.2.toNat).sum = Sm c (fun j => ((rowE g j (L.getD j []) L g.1.toNat).map fun x => f x.2.2.toNat).sum) m
  | 0 => by simp [partE, Sm]
  | m + 1 => by
    unfold partE
    rw [List.range_succ, List.flatMap_append, List.map_append, List.sum_append, Sm_succ]
    have ih := sum_rows g L c f m
    unfold partE at ih
    rw [ih]
    simp only [List.flatMap_cons, List.flatMap_nil, List.append_nil]
    congr 1
    rw [← sum_mul]
    congr 1
    refine List.map_congr_left fun x hx => ?_
    rw [rowE_from hx]
    rfl

/-- the levels of words, with the numbers of their sets -/
def lvN (g : Gr) (L : List (List Int)) (a : List Int) (n : Nat) : List Nat := (lvl (stpL g) (lets g) a n).map fun x => L.idxOf x.2
theorem Sets.lvl_in (h : Sets g a E L) (hv : VG g) (h16 : g.1 ≤ 16) : ∀ n, ∀ x ∈ lvl (stpL g) (lets g) a n, x.2 ∈ L
  | 0, x, hx => by
    have h0 := h.hd.subset (List.mem_singleton_self a)
    simp only [lvl] at hx
    rw [if_neg (h.ne a h0)] at hx
    rw [List.mem_singleton.1 hx]
    exact h0
  | n + 1, x, hx => by
    simp only [lvl] at hx
    obtain ⟨y, hy, hxy⟩ := List.mem_flatMap.1 hx
    obtain ⟨c, hc, hcx⟩ := List.mem_filterMap.1 hxy
    have hyL := h.lvl_in hv h16 n y hy
    split at hcx
    · cases hcx
    · rename_i hz
      cases hcx
      obtain ⟨i, hi, hig, hil, hlab⟩ := lab_mem hc
      have hat := h.at_idx hyL
      have := h.clo _ (idxOf_lt hyL) i (by omega)
      rw [hat] at this
      unfold stpL at hz ⊢
      rw [hlab] at hz ⊢
      exact this.resolve_left hz
/-- a row of edges, and the letters that go on -/
theorem Sets.row_letters (h : Sets g a E L) (h16 : g.1 ≤ 16) (h1 : 1 ≤ g.1) {x : WS} (hx : x.2 ∈ L) : (ext1 (stpL g) (lets g) x).map (fun y => L.idxOf y.2) = (rowE g (L.idxOf x.2) (L.getD (L.idxOf x.2) []) L g.1.toNat).map fun e => e.2.2.toNat := by
  rw [h.at_idx hx]
  let G : Int → Option Nat := fun l => if stepL g x.2 l = [] then none else some (L.idxOf (stepL g x.2 l))
  have e1 : (ext1 (stpL g) (lets g) x).map (fun y => L.idxOf y.2) = ((lets g).map lab).filterMap G := by
    unfold ext1
    rw [List.map_filterMap, List.filterMap_map]
    congr 1
    funext c
    show Option.map _ (if stpL g x.2 c = [] then none else some (x.1 ++ [c], stpL g x.2 c)) = if stepL g x.2 (lab c) = [] then none else some (L.idxOf (stepL g x.2 (lab c)))
    by_cases hz : stepL g x.2 (lab c) = []
    · have hz2 : stpL g x.2 c = [] := hz
      rw [if_pos hz, if_pos hz2]; rfl
    · have hz2 : ¬ stpL g x.2 c = [] := hz
      rw [if_neg hz, if_neg hz2]; rfl
  have e2 : (rowE g (L.idxOf x.2) x.2 L g.1.toNat).map (fun e => e.2.2.toNat) = ((List.range g.1.toNat).map Int.ofNat).filterMap G := by
    unfold rowE
    rw [List.map_filterMap, List.filterMap_map]
    congr 1
    funext c
    simp only [Function.comp, G, Int.ofNat_eq_natCast]
    by_cases hz : stepL g x.2 (c : Int) = []
    · rw [if_pos hz, if_pos hz]; rfl
    · rw [if_neg hz, if_neg hz]; rfl
  rw [e1, e2]
  unfold lets
  rw [lets_lab _ (by omega)]

theorem Sets.sum_lvl (h : Sets g a E L) (hv : VG g) (h16 : g.1 ≤ 16) : ∀ n (f : Nat → Nat), Sm (crun E L.length n) f L.length = ((lvN g L a n).map f).sum
  | 0, f => by
    have h0 := h.hd.subset (List.mem_singleton_self a)
    have hz := h.idx_at h.len_pos
    rw [h.zero] at hz
    unfold lvN crun cinit
    simp only [lvl]
    rw [if_neg (h.ne a h0)]
    have hlp := h.len_pos
    have hs := Sm_set (c := List.replicate L.length 0) (t := 0) 1 f (by simpa using hlp) L.length
    have hg0 : (List.replicate L.length 0).getD 0 0 = 0 := by
      simp only [List.getD, List.getElem?_replicate]
      split <;> rfl
    rw [hg0, Sm_zero, if_pos hlp] at hs
    rw [hs]
    simp [hz]
  | n + 1, f => by
    have hto : ∀ x ∈ E, x.2.2.toNat < (List.replicate L.length 0).length := fun x hx => by
      obtain ⟨j, lab, hj, hlab, hnz, rfl⟩ := h.mem.1 hx
      have := h.to_lt hj hlab hnz
      simp only [List.length_replicate, Int.toNat_natCast]
      exact this
    unfold crun cstep
    have hf := Sm_fold (crun E L.length n) f E (List.replicate L.length 0) hto
    rw [List.length_replicate, Sm_zero, Nat.zero_add] at hf
    rw [hf]
    have hp : E = partE g L.length L := h.ed
    conv => lhs; rw [hp]
    rw [sum_rows, ← hp, h.sum_lvl hv h16 n]
    unfold lvN
    simp only [lvl]
    rw [List.map_map, List.map_map, List.map_flatMap]
    have hin := h.lvl_in hv h16 n
    generalize lvl (stpL g) (lets g) a n = l at hin
    induction l with
    | nil => rfl
    | cons x l ih =>
      rw [List.map_cons, List.sum_cons, List.flatMap_cons, List.sum_append, ih fun y hy => hin y (List.mem_cons_of_mem _ hy)]
      congr 1
      have hr := h.row_letters h16 hv.l1 (hin x (List.mem_cons_self ..))
      simp only [Function.comp]
      rw [show (ext1 (stpL g) (lets g) x).map (f ∘ fun y => L.idxOf y.2) = ((ext1 (stpL g) (lets g) x).map fun y => L.idxOf y.2).map f by rw [List.map_map], hr, List.map_map]
      rfl
theorem Sets.count (h : Sets g a E L) (hv : VG g) (h16 : g.1 ≤ 16) (n : Nat) : csum (crun E L.length n) = (lvl (stpL g) (lets g) a n).length := by
  rw [csum_Sm, crun_len, h.sum_lvl hv h16]
  unfold lvN
  rw [List.map_map]
  induction lvl (stpL g) (lets g) a n with
  | nil => rfl
  | cons x l ih => rw [List.map_cons, List.sum_cons, ih, List.length_cons]; simp only [Function.comp]; omega

/-- the levels in the graph of sets -/
theorem Sets.lvl_beside (h : Sets g a E L) (hv : VG g) (h16 : g.1 ≤ 16) : ∀ n, lvl (stpL (g.1, (L.length : Int), E)) (lets (g.1, (L.length : Int), E)) [0] n = (lvl (stpL g) (lets g) a n).map fun x => (x.1, [((L.idxOf x.2 : Nat) : Int)])
  | 0 => by
    have h0 := h.hd.subset (List.mem_singleton_self a)
    have hz := h.idx_at h.len_pos
    rw [h.zero] at hz
    simp only [lvl]
    rw [if_neg (h.ne a h0), if_neg (by simp)]
    simp [hz]
  | n + 1 => by
    simp only [lvl]
    rw [h.lvl_beside hv h16 n, List.flatMap_map, List.map_flatMap]
    have hin := h.lvl_in hv h16 n
    generalize lvl (stpL g) (lets g) a n = l at hin
    induction l with
    | nil => rfl
    | cons x l ih =>
      rw [List.flatMap_cons, List.flatMap_cons, ih fun y hy => hin y (List.mem_cons_of_mem _ hy)]
      congr 1
      have hxL := hin x (List.mem_cons_self ..)
      have hlt := idxOf_lt hxL
      have hat := h.at_idx hxL
      unfold ext1
      rw [List.map_filterMap]
      have hall : ∀ cs : List UInt8, (∀ c ∈ cs, c ∈ lets g) → cs.filterMap (fun c => if stpL (g.1, (L.length : Int), E) [((L.idxOf x.2 : Nat) : Int)] c = [] then none else some (x.1 ++ [c], stpL (g.1, (L.length : Int), E) [((L.idxOf x.2 : Nat) : Int)] c)) =
          cs.filterMap fun c => Option.map (fun x => (x.1, [((L.idxOf x.2 : Nat) : Int)])) (if stpL g x.2 c = [] then none else some (x.1 ++ [c], stpL g x.2 c)) := by
        intro cs
        induction cs with
        | nil => intro _; rfl
        | cons c cs ihc =>
          intro hcs
          obtain ⟨i, hi, hig, hil, hlab⟩ := lab_mem (hcs c (List.mem_cons_self ..))
          have hst := h.step hv (j := L.idxOf x.2) (lab := i) hlt (by omega)
          rw [hat] at hst
          have e1 : stpL (g.1, (L.length : Int), E) [((L.idxOf x.2 : Nat) : Int)] c = if stpL g x.2 c = [] then [] else [((L.idxOf (stpL g x.2 c) : Nat) : Int)] := by
            unfold stpL
            rw [hlab]
            exact hst
          rw [List.filterMap_cons, List.filterMap_cons, e1, ihc fun d hd => hcs d (List.mem_cons_of_mem _ hd)]
          by_cases hz : stpL g x.2 c = []
          · rw [if_pos hz, if_pos hz, if_pos rfl]; rfl
          · rw [if_neg hz, if_neg hz, if_neg (by simp)]; rfl
      exact hall _ fun c hc => hc

theorem law_words12 (g : Gr) (p : Int) (hp0 : 0 ≤ p) (hp1 : p < 256) : m_law12_SubsetWords g p = some true := by
  obtain ⟨b, hb⟩ := great12_tot g
  unfold m_law12_SubsetWords
  simp only [jp]
  rw [hb, Option.bind_some]
  cases b with
  | true => rfl
  | false =>
    rw [if_neg (show ¬ false = true by decide)]
    obtain ⟨e, he, hz⟩ := Check_tot g
    rw [Check_ref, he, Option.bind_some]
    by_cases h0 : e = 0
    case neg => rw [if_pos h0]; rfl
    rw [if_neg (show ¬ e ≠ 0 from fun h => h h0)]
    by_cases h3 : 3 < g.1
    · rw [if_pos h3]; rfl
    rw [if_neg h3]
    by_cases hn : g.2.1 = 0
    · rw [if_pos (decide_eq_true hn)]; rfl
    rw [if_neg (show ¬ decide (g.2.1 = 0) = true by simpa using hn), Build_eq he hz, Option.bind_some]
    have hv := hz.1 h0
    have hsn := hv.s0
    have hl1 := hv.l1
    have h16 : g.1 ≤ 16 := by omega
    have hbe : buildE g e = buildR g (upto g.2.1) := by
      unfold buildE buildG
      rw [if_neg (show ¬ e ≠ 0 from fun h => h h0), if_neg hn]
    rw [hbe]
    rcases buildR_cases (upto_ok g) (upto_ne (by omega)) with h | ⟨E, L, hS, hrun, h⟩
    · rw [h]; rfl
    rw [h]
    dsimp only
    rw [if_neg no0]
    have hv2 := hS.vg hv
    have hlp := hS.len_pos
    have ht0 : 0 ≤ Int.tmod p 6 := Int.tmod_nonneg _ hp0
    have ht1 : Int.tmod p 6 < 6 := Int.tmod_lt_of_pos _ (by decide)
    obtain ⟨n, hnn⟩ := Int.eq_ofNat_of_zero_le ht0
    rw [hnn] at ht1
    have hw : IntKind.wrap .i64 (Int.tmod p 6) = (n : Int) := by rw [hnn]; exact w64 (by omega) (by omega)
    rw [hw]
    -- the levels are small
    have hpow : ∀ (q : Gr), VG q → q.1 = g.1 → ∀ set, SetOk q set → ∀ j, j ≤ 5 → (LV q set j).length ≤ 243 := fun q hq hq1 set hset j hj => by
      have h16q : q.1 ≤ 16 := by omega
      refine Nat.le_trans (LV_le hq hset j) ?_
      rw [allW_len, lets_len hq h16q]
      have h3' : q.1.toNat ≤ 3 := by omega
      have a1 : q.1.toNat ^ j ≤ 3 ^ j := Nat.pow_le_pow_left h3' j
      have a2 : (3 : Nat) ^ j ≤ 3 ^ 5 := Nat.pow_le_pow_right (by decide) hj
      omega
    have hup := upto_ok g
    have hz0 : SetOk (g.1, (L.length : Int), E) [0] := one_ok (by decide) (by dsimp only; omega)
    have hok1 : OKL g (upto g.2.1) n = true := OKL_iff.2 fun j j1 j2 => by have := hpow g hv rfl _ hup j (by omega); omega
    have hok2 : OKL (g.1, (L.length : Int), E) [0] n = true := OKL_iff.2 fun j j1 j2 => by have := hpow _ hv2 rfl _ hz0 j (by omega); omega
    obtain ⟨r, hr, _, r1, r2⟩ := Words_both g (n : Int)
    have hr0 := r2 hv h16 (by omega) (by omega) (by simpa using hok1)
    have hr1 := (r1 hr0).2
    obtain ⟨q, hq, _, _, q1⟩ := From_both (g.1, (L.length : Int), E) 0 (n : Int)
    have hq1 := q1 hv2 h16 (by omega) (by omega) (by decide) (by dsimp only; omega) (by simpa using hok2)
    have hcnt : countE g e (n : Int) = (bz (lvl (stpL g) (lets g) (upto g.2.1) n).length, 0) := by
      unfold countE
      rw [if_neg (show ¬ e ≠ 0 from fun h => h h0), if_neg (by omega), hbe, h]
      dsimp only
      rw [if_neg (by omega), hS.count hv h16, Int.toNat_natCast]
    rw [hr, hq, Option.bind_some, Option.bind_some, Count_eq he hz (.inl (by omega)), Option.bind_some, hcnt, hq1]
    obtain ⟨ra, rb⟩ := r
    dsimp only at hr0 hr1 ⊢
    subst hr0; subst hr1
    have hL1 := LV_lab hv hup n
    have hL2 := LV_lab hv2 hz0 n
    have hlen := hpow g hv rfl _ hup n (by omega)
    unfold wordsE
    rw [Int.toNat_natCast, hL2, hL1, hS.lvl_beside hv h16 n, List.map_map]
    rw [hL1] at hlen
    rw [if_pos (by decide), EqS_eq (by simp; omega), Option.bind_some]
    have hcomp : (Prod.fst ∘ fun (x : WS) => (x.1, [((L.idxOf x.2 : Nat) : Int)])) = (Prod.fst : WS → List UInt8) := rfl
    rw [hcomp, decide_eq_true rfl, if_pos rfl, of_spec (by omega) (by simp; omega), Option.bind_some]
    have hb7 : bz (lvl (stpL g) (lets g) (upto g.2.1) n).length = (false, be (((lvl (stpL g) (lets g) (upto g.2.1) n).map Prod.fst).length : Int).toNat) := by
      rw [List.length_map]
      rfl
    rw [if_pos hb7]
    rfl
end
end Go.AW

namespace Go.AW
open Go Go.ChangeShapes Go.WideShapes Go.ChangeAt Go.RowKit

/-- of what was there nothing turns -/
def Kept (W W' : World) : Prop := W'.os = W.os ∧ W'.output = W.output ∧ W.heap.size ≤ W'.heap.size ∧ ∀ b : Nat, b < W.heap.size → W'.heap[b]? = W.heap[b]?

theorem Kept.frame {W W' : World} (h : Kept W W') (may : MemPlace → Prop) : W.keptBut W' may := by
  refine ⟨h.1, h.2.1, fun i hi => ?_⟩
  rw [h.2.2.2 i hi]
  cases W.heap[i]? with
  | none => rfl
  | some o => cases o with
    | cells c t fr => exact ⟨rfl, rfl, rfl, fun _ _ => rfl⟩
    | map es clock => exact .inr ⟨rfl, rfl⟩
    | _ => rfl

theorem Kept.frozen {W W' : World} (h : Kept W W') (a : Addr) (ha : a.block < W.heap.size) : W'.frozen? a = W.frozen? a := by
  simp only [World.frozen?, h.2.2.2 _ ha]

def Mu.zero : Mu := { nx := 0, loc := fun _ => none, held := fun _ => False }

theorem SR.zero (W : World) : SR W Mu.zero [] :=
  ⟨(fun _ _ _ h => by cases h), (fun _ _ _ h => by cases h), (fun _ _ h => by cases h), (fun _ _ _ _ _ h => by cases h), (fun _ h => h.elim)⟩

theorem calls_of_pure {P : Program} {f : FuncId} {args : List HV} {vs : List Value} {W : World} (hp : Pure P f args (· = .bool true)) (hr : RepL W Mu.zero args vs) :
    Calls P f vs.toArray W fun e W' => e = .returned (.bool true) ∧ Kept W W' := by
  refine (hp.2 Mu.zero W vs (SR.zero W) hr).mono ?_
  rintro e W' ⟨v, r, H', μ', rfl, ⟨rfl, _, _⟩, hs, hv, E⟩
  have hv' : v = .bool true := hv
  subst hv'
  exact ⟨rfl, E.os, E.output, E.size, fun b hb => E.keep b hb fun ⟨_, _, hl⟩ => by cases hl⟩

theorem post_of_kept {H : Type} {enc : TypeId × Value → H} {P : Program} {f : Func} {s : ChangeSpec} {apart fresh handsOn again : Bool} {W W' : World} {args : Array Value} {v : Value} {ds gs : List (DataW H)} {before pa pv : List MemPlace}
    (hW : DataW.Whole enc P f.params.toList s.vars apart W args.toList ds gs before)
    (hres : ∀ (b : Nat) (sp : Nat → Bool) (hd : Bool), DataW.TrodAll enc P W' b sp hd f.resultTypes.toList (v.resultList f.resultTypes.size) (s.fn H (ds ++ gs)).results [])
    (hargs : ∀ sp : Nat → Bool, (∀ p ∈ before, sp p.block = true) → DataW.TrodAll enc P W' 0 sp true f.params.toList args.toList (s.fn H (ds ++ gs)).args pa)
    (hvars : ∀ sp : Nat → Bool, (∀ p ∈ before, sp p.block = true) → DataW.TrodVars enc P W' sp s.vars (s.fn H (ds ++ gs)).vars pv)
    (hps : before = pa ++ pv) (hk : Kept W W')
    (hok : ∀ (j : Nat) (t : TypeId) (r : Value), f.resultTypes[j]? = some t → (v.resultList f.resultTypes.size)[j]? = some r → Value.okWide P W' .any 0 t r) :
    s.post enc P f apart fresh handsOn again W args v W' := by
  have hold : ∀ p ∈ before, (fun b => decide (b < W.heap.size)) p.block = true := fun p hp => by simpa using hW.lt p hp
  refine ⟨ds, gs, before, [], pa, pv, hW, hres _ _ _, hargs _ hold, hvars _ hold, World.keptBut_mono (fun p hp => ⟨hp, ?_⟩) (hk.frame (· ∈ before)), fun _ => ?_⟩
  · rw [hps, List.mem_append] at hp
    exact Or.inr hp
  · have hlt := hW.lt
    obtain ⟨_, _, _, _, _, hz, hn⟩ := hW
    refine ⟨hok, _, _, ([] ++ pa) ++ pv, ⟨[] ++ pa, pv, trodAll_append (hargs _ (fun _ _ => rfl)) (hres _ _ _), hvars _ (fun _ _ => rfl), rfl, ?_, ?_⟩, ?_⟩
    · intro b off hp
      have hp' : MemPlace.cell b off ∈ before := by rw [hps]; simpa using hp
      rw [hk.frozen _ (hlt _ hp')]
      exact hz b off hp'
    · intro ha
      have := hn ha
      rw [hps] at this
      simpa using this
    · intro p hp _
      rw [hps]
      simpa using hp
end Go.AW

/- Arguments: from what is read of them to what the layer says of them; and the law's end for any arguments. -/
namespace Go.AW
open Go Go.ChangeShapes Go.WideShapes Go.ChangeAt Go.RowKit

theorem rowAt_le {p : Program} {fits : TypeId → Bool} {d : Nat} {e : TypeId} {count off n : Nat} (h : rowAt p fits d e count off n = true) : off ≤ count * p.cellsOf e := by
  cases d with
  | zero => simp [rowAt] at h
  | succ d =>
    unfold rowAt at h
    simp only at h
    split at h
    · cases h
    · rename_i hs
      have hs' : 0 < p.cellsOf e := Nat.pos_of_ne_zero hs
      have hd := Nat.div_add_mod off (p.cellsOf e)
      rw [Nat.mul_comm] at hd
      simp only [Bool.or_eq_true, Bool.and_eq_true, beq_iff_eq, decide_eq_true_eq] at h
      rcases h with ⟨⟨h0, h1⟩, _⟩ | ⟨h1, _⟩
      · rw [← hd, h0, Nat.add_zero]
        exact Nat.mul_le_mul_right _ (by omega)
      · have hm := Nat.mod_lt off hs'
        have : (off / p.cellsOf e + 1) * p.cellsOf e ≤ count * p.cellsOf e := Nat.mul_le_mul_right _ h1
        rw [Nat.add_mul] at this
        omega

theorem liesAt_le {p : Program} {d : Nat} {e u : TypeId} {count off n : Nat} (h : liesAt p d e count off u n = true) : off ≤ count * p.cellsOf e := by
  induction d generalizing u n with
  | zero => simp [liesAt] at h
  | succ d ih =>
    unfold liesAt at h
    rw [Bool.or_eq_true] at h
    rcases h with h | h
    · exact rowAt_le h
    · split at h
      · exact ih h
      · cases h

/-- where an argument's slice lies -/
theorem has_seg {P : Program} {W : World} {r : Reach} {base : Nat} {a : Addr} {e : TypeId} {cap : Nat} (h : W.has P r base a e cap) {vs : List Value} (hc : ∀ i (hi : i < vs.length), W.cell? (a.add i) = some vs[i]) :
    ∃ b off, a = ⟨b, off, none⟩ ∧ Seg W b off vs := by
  obtain ⟨_, hsp, row, cells, hsh, hl⟩ := h
  obtain ⟨b, off, spot⟩ := a
  dsimp only at hsp hsh hl
  subst hsp
  refine ⟨b, off, rfl, ?_⟩
  unfold World.shape? at hsh
  split at hsh
  · rename_i cur e' fr hb
    simp only [Option.some.injEq, Prod.mk.injEq] at hsh
    obtain ⟨rfl, rfl⟩ := hsh
    have hoff : off ≤ cur.size := Nat.le_trans (liesAt_le hl) (Nat.div_mul_le_self _ _)
    have hget : ∀ i (hi : i < vs.length), cur.toList[off + i]? = some vs[i] := fun i hi => by
      have := hc i hi
      rw [add_plain] at this
      unfold World.cell? at this
      rw [hb] at this
      simpa using this
    refine ⟨cur, e', fr, cur.toList.take off, cur.toList.drop (off + vs.length), hb, ?_, by simp [hoff]⟩
    have hvs : vs = (cur.toList.drop off).take vs.length := by
      apply List.ext_getElem?
      intro i
      rcases Nat.lt_or_ge i vs.length with hi | hi
      · rw [List.getElem?_take_of_lt hi, List.getElem?_drop, hget i hi, List.getElem?_eq_getElem hi]
      · rw [List.getElem?_eq_none hi, List.getElem?_eq_none (by simp; omega)]
    have : vs ++ cur.toList.drop (off + vs.length) = cur.toList.drop off := by
      conv => lhs; arg 1; rw [hvs]
      rw [← List.drop_drop]
      exact List.take_append_drop _ _
    rw [List.append_assoc, this, List.take_append_drop]
  · cases hsh

theorem nown (b : Nat) : ¬ Mu.zero.owns b := fun h => h.elim (fun ⟨_, _, h⟩ => by cases h) id

/-- a number -/
theorem open_num {H : Type} {enc : TypeId × Value → H} {P : Program} {W : World} {base : Nat} {t : TypeId} {k : IntKind} {v : Value} {d : DataW H} {ps : List MemPlace} (ht : P.underlying t = some (.int k))
    (hval : Value.okWide P W .any base t v) (h : DataW.Trod enc P W 0 (fun _ => true) true t v d ps) : ∃ n : Int, (Lit.int k n).wf = true ∧ Rep W Mu.zero (.int k n) v := by
  obtain ⟨n, rfl, _, _, hw⟩ := open_int ht hval h
  exact ⟨n, hw, rfl, hw⟩

/-- a byte -/
theorem open_u8 {H : Type} {enc : TypeId × Value → H} {P : Program} {W : World} {base : Nat} {t : TypeId} {v : Value} {d : DataW H} {ps : List MemPlace} (ht : P.underlying t = some (.int .u8))
    (hval : Value.okWide P W .any base t v) (h : DataW.Trod enc P W 0 (fun _ => true) true t v d ps) : ∃ b : UInt8, Rep W Mu.zero (.int .u8 (b.toNat : Int)) v := by
  obtain ⟨n, hw, hr⟩ := open_num ht hval h
  have hw' : (0 : Int) ≤ n ∧ n ≤ 255 := by
    simp only [Lit.wf, Bool.and_eq_true, decide_eq_true_eq] at hw
    exact hw
  refine ⟨UInt8.ofNat n.toNat, ?_⟩
  have : ((UInt8.ofNat n.toNat).toNat : Int) = n := by
    rw [UInt8.toNat_ofNat']
    omega
  rw [this]
  exact hr

/-- the arguments read again -/
theorem trodAll_stays {H : Type} {enc : TypeId × Value → H} {P : Program} (hl : laidOutB P = true) {W W' : World} {sp : Nat → Bool} : ∀ {ts : List TypeId} {vs : List Value} {ds : List (DataW H)} {ps : List MemPlace},
    (ts.all fun t => P.readableRec t && decide (t < P.types.size)) = true → DataW.TrodAll enc P W 0 (fun _ => true) true ts vs ds ps → (∀ p ∈ ps, W.sameAt W' p) → (∀ p ∈ ps, sp p.block = true) → DataW.TrodAll enc P W' 0 sp true ts vs ds ps
  | [], vs, ds, ps, _, h, _, _ => by
    obtain ⟨rfl, rfl, rfl⟩ := trodAll_nil h
    exact trodAll_mk0
  | t :: ts, vs, ds, ps, ht, h, h1, h2 => by
    obtain ⟨v, vs', d, ds', p, q, rfl, rfl, rfl, h3, h4⟩ := trodAll_cons h
    simp only [List.all_cons, Bool.and_eq_true, decide_eq_true_eq] at ht
    exact trodAll_cons_mk (WideElems.Trod_stays hl ht.1.1 ht.1.2 h3 (fun x hx => h1 x (List.mem_append_left _ hx)) (fun x hx => h2 x (List.mem_append_left _ hx)))
      (trodAll_stays hl ht.2 h4 (fun x hx => h1 x (List.mem_append_right _ hx)) (fun x hx => h2 x (List.mem_append_right _ hx)))

theorem Kept.same {W W' : World} (h : Kept W W') (p : MemPlace) (hp : p.block < W.heap.size) : W.sameAt W' p := by
  cases p with
  | cell b off =>
    show W'.cell? ⟨b, off, none⟩ = W.cell? ⟨b, off, none⟩
    unfold World.cell?
    rw [h.2.2.2 b hp]
  | map b => exact h.2.2.2 b hp

/-- A LAW'S END: true, and the arguments read as they did. -/
theorem post_of_true {H : Type} {enc : TypeId × Value → H} {P : Program} {f : Func} {s : ChangeSpec} {apart fresh handsOn again : Bool} {W W' : World} {args : Array Value} {ds gs : List (DataW H)} {before : List MemPlace} {t : TypeId}
    (hl : laidOutB P = true) (hps : (f.params.toList.all fun t => P.readableRec t && decide (t < P.types.size)) = true) (hres : f.resultTypes = #[t]) (ht : P.underlying t = some .bool) (hv : s.vars = [])
    (hW : DataW.Whole enc P f.params.toList s.vars apart W args.toList ds gs before) (hk : Kept W W')
    (h1 : (s.fn H (ds ++ gs)).results = [.lit (.bool true)]) (h2 : (s.fn H (ds ++ gs)).args = ds) (h3 : (s.fn H (ds ++ gs)).vars = []) :
    s.post enc P f apart fresh handsOn again W args (.bool true) W' := by
  have hlt := hW.lt
  have hW' := hW
  obtain ⟨p, q, hA, hV, rfl, _, _⟩ := hW
  rw [hv] at hV
  obtain ⟨rfl, rfl⟩ := trodVars_none hV
  refine post_of_kept (pa := p) (pv := []) hW' (fun _ _ _ => ?_) (fun sp hsp => ?_) (fun _ _ => ?_) (by simp) hk (ok_one hres rfl (okWide_bool_mk ht _))
  · rw [hres, h1]
    exact trodAll_cons_mk (shut_bool ht _) trodAll_mk0
  · rw [h2]
    exact trodAll_stays hl hps hA (fun x hx => hk.same x (hlt x (by simpa using hx))) (fun x hx => hsp x (by simpa using hx))
  · rw [h3, hv]
    rfl
end Go.AW

/- Arguments that are graphs: what is read of them, and what the layer says of them. -/
namespace Go.AW
open Go Go.ChangeShapes Go.WideShapes Go.ChangeAt Go.RowKit

section
variable {H : Type} {enc : TypeId × Value → H} {P : Program} {W : World} {base : Nat}

theorem repL_app {μ : Mu} : ∀ {hs ks : List HV} {vs us : List Value}, RepL W μ hs vs → RepL W μ ks us → RepL W μ (hs ++ ks) (vs ++ us)
  | [], _, _, _, h, h' => by cases h; exact h'
  | _ :: _, _, _, _, ⟨x, xs, rfl, h1, h2⟩, h' => ⟨x, _, rfl, h1, repL_app h2 h'⟩

theorem add_adds (a : Addr) (i j : Nat) : (a.add i).add j = a.add (i + j) := by
  unfold Addr.add
  repeat' split
  all_goals simp_all [Nat.add_assoc]

theorem open_rows {α : Type} (c : EncL α) {fuel : Nat} {t e : TypeId} {cs : List Value} {x : DataW H × List MemPlace} (ht : P.underlying t = some (.slice e)) (hk : P.cellsOf e = c.k) (hone : ∀ x, ones (c.C x))
    (hel : ∀ n cs y, DataW.trod enc P W 0 (fun _ => true) true n e cs = some y → ∃ x : α, RepL W Mu.zero (c.C x) cs)
    (hhas : ∀ a len cap, cs = [.slice (some a) len cap] → W.has P .any base a e cap) (h : DataW.trod enc P W 0 (fun _ => true) true fuel t cs = some x) : ∃ l : List α, RepL W Mu.zero [slE c l] cs := by
  rcases DataW.trod_slice ht h with ⟨rfl, _⟩ | ⟨a, len, cap, elems, rest, n, _, rfl, _, _, hl, hm, hlen, hel', _, _⟩
  · refine ⟨[], _, _, rfl, ?_, rfl⟩
    show _ ∧ _
    exact ⟨(by rw [c.nil]; exact fun _ h => nomatch h), (by rw [c.nil]; simp), Nat.zero_le _, .inl ⟨rfl, rfl⟩⟩
  · have each : ∀ i, i < len → ∃ cs' x, W.cells? 0 (a.add (i * c.k)) c.k = some cs' ∧ RepL W Mu.zero (c.C x) cs' := fun i hi => by
      have h1 := hel' i hi
      rw [List.getElem?_eq_getElem (by omega), Option.bind_eq_some_iff, hk] at h1
      obtain ⟨cs', h2, h3⟩ := h1
      obtain ⟨x, hx⟩ := hel _ _ _ h3
      exact ⟨cs', x, h2, hx⟩
    have build : ∀ m, m ≤ len → ∃ (l : List α) (vs : List Value), l.length = m ∧ vs.length = m * c.k ∧ RepL W Mu.zero (c.E l) vs ∧ ∀ i (hi : i < vs.length), W.cell? (a.add i) = some vs[i] := by
      intro m
      induction m with
      | zero => exact fun _ => ⟨[], [], rfl, by simp, by rw [c.nil]; rfl, fun i hi => by simp at hi⟩
      | succ m ih =>
        intro hm
        obtain ⟨l, vs, h1, h2, h3, h4⟩ := ih (by omega)
        obtain ⟨cs', x, h5, h6⟩ := each m (by omega)
        obtain ⟨_, h7, h8⟩ := World.cells?_some h5
        refine ⟨l ++ [x], vs ++ cs', by simp [h1], by rw [List.length_append, h2, h7, Nat.succ_mul], by rw [c.append, c.one]; exact repL_app h3 h6, fun i hi => ?_⟩
        rcases Nat.lt_or_ge i vs.length with hi' | hi'
        · rw [List.getElem_append_left hi']; exact h4 i hi'
        · rw [List.getElem_append_right hi']
          rw [List.length_append] at hi
          have := h8 (i - vs.length) (by omega)
          rw [add_adds, h2, show m * c.k + (i - m * c.k) = i by omega] at this
          rw [this, List.getElem?_eq_getElem (by omega)]
          simp only [h2]
    obtain ⟨l, vs, h1, h2, h3, h4⟩ := build len (Nat.le_refl _)
    obtain ⟨b, off, rfl, hseg⟩ := has_seg (hhas _ _ _ rfl) h4
    refine ⟨l, _, _, rfl, ?_, rfl⟩
    show _ ∧ _
    refine ⟨fun d hd => ?_, c.len l, by omega, .inr ⟨b, off, cap, vs, by rw [h1], by omega, nown b, hseg, h3⟩⟩
    rw [c.hE] at hd
    obtain ⟨x, _, hdx⟩ := List.mem_flatMap.1 hd
    exact hone x d hdx

theorem open3 {t : TypeId} {f0 f1 f2 : Field} {fuel : Nat} {cs : List Value} {x : DataW H × List MemPlace} (ht : P.underlying t = some (.struct #[f0, f1, f2])) (o0 : f0.offset = 0) (o1 : f1.offset = 1) (o2 : f2.offset = 2) (c : P.cellsOf t = 3)
    (c0 : P.cellsOf f0.type = 1) (c1 : P.cellsOf f1.type = 1) (c2 : P.cellsOf f2.type = 1) (h : DataW.trod enc P W 0 (fun _ => true) true fuel t cs = some x) :
    ∃ v0 v1 v2 y0 y1 y2 n, cs = [v0, v1, v2] ∧ DataW.trod enc P W 0 (fun _ => true) true n f0.type [v0] = some y0 ∧ DataW.trod enc P W 0 (fun _ => true) true n f1.type [v1] = some y1 ∧ DataW.trod enc P W 0 (fun _ => true) true n f2.type [v2] = some y2 := by
  obtain ⟨xs, n, _, rfl, hl, hlen, hf⟩ := DataW.trod_struct ht h
  rw [c] at hl
  match cs, hl with
  | [v0, v1, v2], _ =>
    match xs, hlen with
    | [y0, y1, y2], _ =>
      refine ⟨v0, v1, v2, y0, y1, y2, n, rfl, ?_, ?_, ?_⟩
      · have := hf 0 f0 rfl; rw [o0, c0] at this; exact this
      · have := hf 1 f1 rfl; rw [o1, c1] at this; exact this
      · have := hf 2 f2 rfl; rw [o2, c2] at this; exact this

theorem rep_i64 {n : Int} {ti : TypeId} {m : Nat} {v : Value} {y : DataW H × List MemPlace} (hti : P.underlying ti = some (.int .i64)) (h : DataW.trod enc P W 0 (fun _ => true) true m ti [v] = some y) : ∃ n : Int, Rep W Mu.zero (.int .i64 n) v := by
  obtain ⟨n, hv, _, hw⟩ := DataW.trod_int hti h
  cases hv
  exact ⟨n, rfl, hw⟩

/-- a graph -/
theorem open_graph {t ti ts te : TypeId} {f0 f1 f2 e0 e1 e2 : Field} {v : Value} {d : DataW H} {ps : List MemPlace} (ht : P.underlying t = some (.struct #[f0, f1, f2])) (o : f0.offset = 0 ∧ f1.offset = 1 ∧ f2.offset = 2) (y : f0.type = ti ∧ f1.type = ti ∧ f2.type = ts)
    (c : P.cellsOf t = 3) (ci : P.cellsOf ti = 1) (cs : P.cellsOf ts = 1) (ct : P.cellTypes P.depth t = some [ti, ti, ts]) (hti : P.underlying ti = some (.int .i64)) (hts : P.underlying ts = some (.slice te))
    (hte : P.underlying te = some (.struct #[e0, e1, e2])) (oe : e0.offset = 0 ∧ e1.offset = 1 ∧ e2.offset = 2) (ye : e0.type = ti ∧ e1.type = ti ∧ e2.type = ti) (ce : P.cellsOf te = 3)
    (hval : Value.okWide P W .any base t v) (h : DataW.Trod enc P W 0 (fun _ => true) true t v d ps) : ∃ g : TLabelsStatesEdges, Rep W Mu.zero (.agg [.int .i64 g.1, .int .i64 g.2.1, slE eFromLabelTo g.2.2]) v := by
  obtain ⟨y0, y1, y2⟩ := y
  obtain ⟨z0, z1, z2⟩ := ye
  simp only [Value.okWide, ht] at hval
  obtain ⟨arr, rfl, _, hrow⟩ := hval
  obtain ⟨fuel, hf⟩ := h
  obtain ⟨v0, v1, v2, a0, a1, a2, n, hcs, h0, h1, h2⟩ := open3 ht o.1 o.2.1 o.2.2 c (by rw [y0]; exact ci) (by rw [y1]; exact ci) (by rw [y2]; exact cs) hf
  have harr : arr = #[v0, v1, v2] := by
    have : arr.toList = [v0, v1, v2] := hcs
    cases arr
    simp_all
  subst harr
  rw [y0] at h0
  rw [y1] at h1
  rw [y2] at h2
  obtain ⟨l, r0⟩ := rep_i64 (n := 0) hti h0
  obtain ⟨s, r1⟩ := rep_i64 (n := 0) hti h1
  obtain ⟨es, _, _, r2, r2', r2''⟩ := open_rows (base := base) eFromLabelTo hts ce (fun x d hd => by
      have hd : d ∈ [HV.int .i64 x.1, HV.int .i64 x.2.1, HV.int .i64 x.2.2] := hd
      simp only [List.mem_cons, List.not_mem_nil, or_false] at hd
      rcases hd with rfl | rfl | rfl <;> rfl) (fun m cs' y hy => by
      obtain ⟨w0, w1, w2, b0, b1, b2, n', rfl, k0, k1, k2⟩ := open3 hte oe.1 oe.2.1 oe.2.2 ce (by rw [z0]; exact ci) (by rw [z1]; exact ci) (by rw [z2]; exact ci) hy
      rw [z0] at k0
      rw [z1] at k1
      rw [z2] at k2
      obtain ⟨p0, q0⟩ := rep_i64 (n := 0) hti k0
      obtain ⟨p1, q1⟩ := rep_i64 (n := 0) hti k1
      obtain ⟨p2, q2⟩ := rep_i64 (n := 0) hti k2
      exact ⟨(p0, p1, p2), _, _, rfl, q0, _, _, rfl, q1, _, _, rfl, q2, rfl⟩) (fun a len cap e => by
      cases e
      obtain ⟨tys, ht1, _, hcell⟩ := hrow
      rw [ct] at ht1
      cases ht1
      obtain ⟨u, hu, hok⟩ := hcell 2 (.slice (some a) len cap) rfl
      cases hu
      simp only [Cell.okWide, hts, Cell.ok] at hok
      exact hok.2.2) h2
  cases r2
  refine ⟨(l, s, es), ?_⟩
  show _ ∧ _
  refine ⟨fun d hd => ?_, _, rfl, _, _, rfl, r0, _, _, rfl, r1, _, _, rfl, r2', rfl⟩
  simp only [List.mem_cons, List.not_mem_nil, or_false] at hd
  rcases hd with rfl | rfl | rfl <;> rfl
end
end Go.AW

/- Arguments that are lists of numbers. -/
namespace Go.AW
open Go Go.ChangeShapes Go.WideShapes Go.ChangeAt Go.RowKit
section
variable {H : Type} {enc : TypeId × Value → H} {P : Program} {W : World} {base : Nat}
end
end Go.AW

/- Arguments that are lists of bytes. -/
namespace Go.AW
open Go Go.ChangeShapes Go.WideShapes Go.ChangeAt Go.RowKit
section
variable {H : Type} {enc : TypeId × Value → H} {P : Program} {W : World} {base : Nat}
end
end Go.AW

namespace Go.Proofs.YtibfjjmglgabdaaGreatDoor
open Go Go.AW Go.ChangeShapes Go.WideShapes Go.ChangeAt Go.RowKit Go.ChangeMaps
set_option linter.unusedVariables false

theorem ownM : ownKnob Tryz.prog.godebug = none := by kernel_rfl
theorem laidB : laidOutB Tryz.prog = true := by kernel_rfl

theorem wLaw (a0 : TLabelsStatesEdges) (a1 : UInt8) : Pure Tryz.prog 4 [HV.agg [HV.int .i64 a0.1, HV.int .i64 a0.2.1, slE eFromLabelTo a0.2.2], .int .u8 a1.toNat] (· = .bool true) := w_law12_SubsetWords (law_words12 a0 a1.toNat (Int.natCast_nonneg _) (by have := a1.toNat_lt; omega))

set_option maxRecDepth 100000 in
theorem liftedL (os : Os) (started : os.Started) (H : Type) (enc : TypeId × Value → H) :
    ReturnsInHanded {} Tryz.checked os 4 .any (fun w args => (Rows.subsetWordsSpec.pre enc Tryz.prog Tryz.f4 [] false w args ∧ laidMetH Tryz.prog Rows.subsetWordsRow.laid w) ∧ sizedMet enc Tryz.prog Tryz.f4 (OpenSpec.ofChange Rows.subsetWordsSpec) false w args) (Rows.subsetWordsSpec.post enc Tryz.prog Tryz.f4 false true false false) := by
  refine returnsInHanded_of_change_and (C := Tryz.checked) (X := fun w _ => laidMetH Tryz.prog Rows.subsetWordsRow.laid w) (fun _ _ _ hh h => h.of_heap hh) ownM started (by kernel_rfl) Tryz.func4
    (ChangeSpec.witness_shaped (enc := enc) (C := Tryz.checked) (os := os) (X := fun w _ => laidMetH Tryz.prog Rows.subsetWordsRow.laid w) false (World.laidAll Tryz.prog os Rows.subsetWordsRow.laid) #[.agg #[.int .i64 0, .int .i64 0, .slice none 0 0], .int .u8 0] 8 (World.laidAll_os _ _ _)
      (World.shaped_of_ZipB (by kernel_rfl) (by kernel_rfl)) (by kernel_rfl) (by kernel_rfl) (by kernel_rfl)
      (by rw [MakeChecks.laidMetH_plain _ _ _ (by kernel_rfl)]; exact laidMet_laidAll _ (by kernel_rfl) (by kernel_rfl))) ?_
  intro W base args ds gs before hval0 hW hcnd _ _ _
  have hval : ∀ (j : Nat) t v, Tryz.f4.params[j]? = some t → args[j]? = some v → Value.okWide Tryz.prog W .any base t v := hval0
  have hW' := hW
  obtain ⟨p, q, hA0, hV, rfl, hfz, hnd⟩ := hW
  have hA : DataW.TrodAll enc Tryz.prog W 0 (fun _ => true) true Tryz.f4.params.toList args.toList ds p := hA0
  rw [Tryz.params4] at hA hval
  obtain ⟨v0, vs0, d0, ds0, p0, q0, hargs, rfl, rfl, h0, r0⟩ := trodAll_cons hA
  obtain ⟨v1, vs1, d1, ds1, p1, q1, rfl, rfl, rfl, h1, r1⟩ := trodAll_cons r0
  obtain ⟨rfl, rfl, rfl⟩ := trodAll_nil r1
  obtain rfl : args = #[v0, v1] := by cases args; simp_all
  obtain ⟨rfl, rfl⟩ := trodVars_none hV
  obtain ⟨a0, hr0⟩ := open_graph Tryz.underlying24 ⟨rfl, rfl, rfl⟩ ⟨rfl, rfl, rfl⟩ (by kernel_rfl) (by kernel_rfl) (by kernel_rfl) (by kernel_rfl) Tryz.underlying3 Tryz.underlying22 Tryz.underlying56 ⟨rfl, rfl, rfl⟩ ⟨rfl, rfl, rfl⟩ (by kernel_rfl) (hval 0 24 v0 rfl rfl) h0
  obtain ⟨a1, hr1⟩ := open_u8 Tryz.underlying5 (hval 1 5 v1 rfl rfl) h1
  refine (calls_of_pure (vs := [v0, v1]) (wLaw a0 a1) ⟨_, _, rfl, hr0, _, _, rfl, hr1, rfl⟩).mono fun e W' ⟨he, hk⟩ => ?_
  subst he
  exact ⟨_, rfl, post_of_true laidB (by kernel_rfl) rfl Tryz.underlying4 rfl hW' hk rfl rfl rfl⟩

theorem subsetWordsProved : Rows.SubsetWordsSaid :=
  OpenClaim.holds_of_wide 4 Tryz.f4 rfl rfl rfl rfl rfl rfl rfl ⟨rfl, rfl, rfl, rfl, rfl⟩ rfl rfl rfl rfl rfl (by kernel_rfl) Tryz.func4 (by kernel_rfl)
    (of_decide_eq_true (by kernel_rfl)) (by unfold Func.isWrapper; first | (rw [if_pos (by decide +kernel)]; kernel_rfl) | (rw [if_neg (by decide +kernel)]; exact ⟨rfl, rfl⟩))
    (fun os started H enc _ => liftedL os started H enc)
theorem subsetWordsCardProved : Rows.SubsetWordsCardSaid :=
  Claim7.holds_tied_plain_at .later [] [.data, .data, .data] true (true, "0931a4c4a1872fdc45bf4db92971afda887e61484944d66ea274adc120686b7b") false subsetWordsProved (fun _ h => by cases h) (by kernel_rfl) (fun _ h => by cases h) subsetWords_row_tie rfl ⟨rfl, rfl⟩ (by kernel_rfl) rfl
    (fun f fn hf hfn => by
      obtain rfl : f = 4 := Option.some.inj ((show Tryz.prog.funcNamed "groove/groovelaw12.SubsetWords" = some 4 by kernel_rfl).symm.trans hf) |>.symm
      obtain rfl : fn = Tryz.f4 := (Option.some.inj (Tryz.func4.symm.trans hfn)).symm
      exact ⟨by kernel_rfl, fun j t ht => by
        rw [Tryz.params4] at ht
        have hm : t ∈ [24, 5] := by simpa using Array.mem_of_getElem? ht
        have hall : ([24, 5].all fun u => !Tryz.prog.wantsStandIn u) = true := by kernel_rfl
        exact (show Tryz.prog.wantsStandIn t = false by simpa using List.all_eq_true.1 hall t hm)⟩)
    (by kernel_rfl)
#print axioms subsetWordsCardProved
end Go.Proofs.YtibfjjmglgabdaaGreatDoor
