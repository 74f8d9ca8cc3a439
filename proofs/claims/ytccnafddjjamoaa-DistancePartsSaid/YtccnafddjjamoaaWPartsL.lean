import Derived.Test.YtccnafddjjamoaaWLeast2
namespace Go.AW
open Go

theorem mem_pairs {l : List (List UInt8)} {x : Int} : x ∈ pairsL l ↔ ∃ i k, k < i ∧ i < l.length ∧ x = (ham (l.getD i []) (l.getD k []) : Int) := by
  simp only [pairsL, prows, prow, List.mem_flatMap, List.mem_map, List.mem_range]
  constructor
  · rintro ⟨i, hi, k, hk, rfl⟩
    exact ⟨i, k, hk, hi, rfl⟩
  · rintro ⟨i, k, hk, hi, rfl⟩
    exact ⟨i, hi, k, hk, rfl⟩

theorem foldl_min_le : ∀ (xs : List Int) (c : Int), xs.foldl min c ≤ c ∧ ∀ x ∈ xs, xs.foldl min c ≤ x
  | [], c => ⟨Int.le_refl _, fun x hx => by cases hx⟩
  | a :: xs, c => by
    obtain ⟨h1, h2⟩ := foldl_min_le xs (min c a)
    simp only [List.foldl_cons]
    refine ⟨Int.le_trans h1 (Int.min_le_left _ _), fun x hx => ?_⟩
    rcases List.mem_cons.1 hx with rfl | hx
    · exact Int.le_trans h1 (Int.min_le_right _ _)
    · exact h2 x hx

theorem foldl_min_mem : ∀ (xs : List Int) (c : Int), xs.foldl min c = c ∨ xs.foldl min c ∈ xs
  | [], c => .inl rfl
  | a :: xs, c => by
    simp only [List.foldl_cons]
    rcases foldl_min_mem xs (min c a) with h | h
    · rw [h]
      rcases Int.le_total c a with hca | hca
      · rw [Int.min_eq_left hca]; exact .inl rfl
      · rw [Int.min_eq_right hca]; exact .inr (List.mem_cons_self ..)
    · exact .inr (List.mem_cons_of_mem _ h)

/-- a list without one element -/
def cutL (l : List (List UInt8)) (k : Nat) : List (List UInt8) := l.take k ++ l.drop (k + 1)

theorem cutL_len {l : List (List UInt8)} {k : Nat} (hk : k < l.length) : (cutL l k).length = l.length - 1 := by
  simp [cutL]; omega

theorem cutL_get {l : List (List UInt8)} {k : Nat} (hk : k < l.length) (i : Nat) : (cutL l k).getD i [] = l.getD (if i < k then i else i + 1) [] := by
  simp only [cutL, List.getD_eq_getElem?_getD]
  by_cases hi : i < k
  · rw [if_pos hi, List.getElem?_append_left (by simp; omega), List.getElem?_take_of_lt hi]
  · rw [if_neg hi, List.getElem?_append_right (by simp; omega), List.getElem?_drop]
    have : k + 1 + (i - (l.take k).length) = i + 1 := by simp; omega
    rw [this]

theorem cutL_sub {l : List (List UInt8)} {k : Nat} : ∀ w ∈ cutL l k, w ∈ l := fun w hw => by
  rcases List.mem_append.1 hw with h | h
  · exact List.mem_of_mem_take h
  · exact List.mem_of_mem_drop h

theorem pairs_cut {l : List (List UInt8)} {k : Nat} (hk : k < l.length) {x : Int} (h : x ∈ pairsL (cutL l k)) : x ∈ pairsL l := by
  obtain ⟨i, j, hj, hi, rfl⟩ := mem_pairs.1 h
  rw [cutL_len hk] at hi
  rw [cutL_get hk, cutL_get hk]
  refine mem_pairs.2 ⟨if i < k then i else i + 1, if j < k then j else j + 1, ?_, ?_, rfl⟩
  · split <;> split <;> omega
  · split <;> omega

/-- without one of three or more texts -/
theorem least_cut {l : List (List UInt8)} {k : Nat} (hk : k < l.length) (h3 : 3 ≤ l.length) (hok : listedE l = 0) : (leastE (cutL l k)).2 = 0 ∧ (leastE l).1 ≤ (leastE (cutL l k)).1 ∧ (leastE l).2 = 0 := by
  have hs := same_len hok
  have hlen := cutL_len hk
  have h4 : l.length ≤ 4096 := by
    unfold listedE at hok
    split at hok
    · cases hok
    · omega
  have h0 : 0 < l.length := by omega
  have h0' : 0 < (cutL l k).length := by omega
  have hd : ∀ m : List (List UInt8), 0 < m.length → m.headD [] ∈ m := fun m hm => by
    cases m with
    | nil => simp at hm
    | cons a m => exact List.mem_cons_self ..
  have hok' : listedE (cutL l k) = 0 := by
    unfold listedE
    rw [if_neg (by omega), if_pos]
    intro w hw
    exact hs w (cutL_sub w hw) _ (cutL_sub _ (hd _ h0'))
  have e1 : leastE (cutL l k) = (leastN (cutL l k), 0) := by
    unfold leastE
    rw [if_neg (by rw [hok']; simp), if_neg (by omega)]
  have e2 : leastE l = (leastN l, 0) := by
    unfold leastE
    rw [if_neg (by rw [hok]; simp), if_neg (by omega)]
  rw [e1, e2]
  refine ⟨rfl, ?_, rfl⟩
  show leastN l ≤ leastN (cutL l k)
  have hh : ((cutL l k).headD []).length = (l.headD []).length := hs _ (cutL_sub _ (hd _ h0')) _ (hd _ h0)
  obtain ⟨hc, hx⟩ := foldl_min_le (pairsL l) ((l.headD []).length : Int)
  rcases foldl_min_mem (pairsL (cutL l k)) (((cutL l k).headD []).length : Int) with h | h
  · unfold leastN
    rw [h, hh]
    exact hc
  · exact hx _ (pairs_cut hk h)
end Go.AW
