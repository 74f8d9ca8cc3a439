import Derived.Test.YtdghoeofijghfaaGreatSm5
import Derived.Lib.Join
import Derived.Shelf.Strings.Count
import Derived.Shelf.Strings.OnBuilder
import Derived.Test.YtdghoeofijghfaaGreatChecked
namespace Go.AW
open Go
set_option linter.unusedSimpArgs false
set_option linter.unusedVariables false
theorem asc_uniq {l m : List Int} (hl : l.Pairwise (· < ·)) (hm : m.Pairwise (· < ·)) (h : ∀ x, x ∈ l ↔ x ∈ m) : l = m := by
 have nl : l.Nodup := hl.imp fun h => Int.ne_of_lt h
 have nm : m.Nodup := hm.imp fun h => Int.ne_of_lt h
 have hp : l.Perm m := (List.perm_ext_iff_of_nodup nl nm).2 h
 exact hp.eq_of_pairwise (fun a b _ _ h1 h2 => by omega) hl hm
theorem sortI_mem {l : List Int} {x : Int} : x ∈ sortI l ↔ x ∈ l := (List.mergeSort_perm l _).mem_iff
theorem sortI_asc (l : List Int) : (sortI l).Pairwise (· ≤ ·) := by
 have := List.pairwise_mergeSort (le := fun x y : Int => decide (x ≤ y)) (fun a b c h1 h2 => by simp at *; omega) (fun a b => by simp; omega) l
 exact this.imp fun h => by simpa using h
theorem keeps_iff (d : Array Int) (j : Nat) : Lib.keeps d j = true ↔ j = 0 ∨ d[j]! ≠ d[j - 1]! := by
 simp [Lib.keeps]
theorem compact_asc {l : List Int} (h : l.Pairwise (· ≤ ·)) : (compact_ l).Pairwise (· < ·) := by
 show (Lib.compactUpTo l.toArray l.length).Pairwise (· < ·)
 unfold Lib.compactUpTo
 rw [List.pairwise_map]
 refine List.Pairwise.imp_of_mem ?_ ((List.pairwise_lt_range (n := l.length)).filter _)
 intro i j hi hj hij
 have hi' := List.mem_range.1 (List.mem_filter.1 hi).1
 have hj' := List.mem_range.1 (List.mem_filter.1 hj).1
 have hk := (keeps_iff _ _).1 (List.mem_filter.1 hj).2
 have e1 : l.toArray[i]! = l[i] := by simp [hi']
 have e2 : l.toArray[j]! = l[j] := by simp [hj']
 have e3 : l.toArray[j - 1]! = l[j - 1]'(by omega) := by simp [show j - 1 < l.length by omega]
 rw [e2, e3] at hk
 rw [e1, e2]
 have hp := List.pairwise_iff_getElem.1 h
 have h1 : l[i] ≤ l[j - 1]'(by omega) := by
  by_cases hie : i = j - 1
  ·subst hie; exact Int.le_refl _
  exact hp i (j - 1) hi' (by omega) (by omega)
 have h2 : l[j - 1]'(by omega) ≤ l[j] := hp (j - 1) j (by omega) hj' (by omega)
 omega
theorem compact_has {l : List Int} {x : Int} (h : x ∈ l) : x ∈ compact_ l := by
 show x ∈ Lib.compactUpTo l.toArray l.length
 unfold Lib.compactUpTo
 obtain ⟨i, hi, rfl⟩ := List.getElem_of_mem h
 obtain ⟨j, ⟨hjl, hj⟩, hmin⟩ := least (fun j => ∃ h : j < l.length, l[j] = l[i]) ⟨i, hi, rfl⟩
 refine List.mem_map.2 ⟨j, List.mem_filter.2 ⟨List.mem_range.2 hjl, (keeps_iff _ _).2 ?_⟩, by simp [hjl, hj]⟩
 by_cases h0 : j = 0
 ·exact .inl h0
 right
 intro he
 have e2 : l.toArray[j]! = l[j] := by simp [hjl]
 have e3 : l.toArray[j - 1]! = l[j - 1]'(by omega) := by simp [show j - 1 < l.length by omega]
 rw [e2, e3] at he
 have := hmin (j - 1) ⟨by omega, by rw [← he, hj]⟩
 omega
theorem compact_sort_mem {l : List Int} {x : Int} : x ∈ compact_ (sortI l) ↔ x ∈ l := ⟨fun h => sortI_mem.1 (compact_mem h), fun h => compact_has (sortI_mem.2 h)⟩
def SetOk (g : Gr) (a : List Int) : Prop := a.Pairwise (· < ·) ∧ ∀ x ∈ a, 0 ≤ x ∧ x < g.2.1
def upto (n : Int) : List Int := (List.range n.toNat).map Int.ofNat
theorem mem_upto {n x : Int} : x ∈ upto n ↔ 0 ≤ x ∧ x < n := by
 simp only [upto, List.mem_map, List.mem_range]
 constructor
 ·rintro ⟨i, hi, rfl⟩; simp only [Int.ofNat_eq_natCast]; omega
 rintro ⟨h0, h1⟩; exact ⟨x.toNat, by omega, by simp only [Int.ofNat_eq_natCast]; omega⟩
theorem upto_asc (n : Int) : (upto n).Pairwise (· < ·) := by
 rw [upto, List.pairwise_map]
 exact (List.pairwise_lt_range (n := n.toNat)).imp fun h => by simp only [Int.ofNat_eq_natCast]; omega
theorem upto_len (n : Int) : (upto n).length = n.toNat := by simp [upto]
def stepL (g : Gr) (a : List Int) (c : Int) : List Int := (upto g.2.1).filter fun t => g.2.2.any fun e => decide (e.2.2 = t ∧ e.2.1 = c ∧ e.1 ∈ a)
theorem mem_stepL {g : Gr} (hv : VG g) {a : List Int} {c t : Int} : t ∈ stepL g a c ↔ ∃ e ∈ g.2.2, e.2.2 = t ∧ e.2.1 = c ∧ e.1 ∈ a := by
 simp only [stepL, List.mem_filter, List.any_eq_true, decide_eq_true_eq, mem_upto]
 constructor
 ·rintro ⟨_, h⟩; exact h
 rintro ⟨e, he, h1, h2, h3⟩
 have := hv.ed e he
 exact ⟨by omega, e, he, h1, h2, h3⟩
theorem stepL_ok (g : Gr) (a : List Int) (c : Int) : SetOk g (stepL g a c) :=
 ⟨(upto_asc _).filter _, fun x hx => mem_upto.1 (List.mem_filter.1 hx).1⟩
theorem upto_ok (g : Gr) : SetOk g (upto g.2.1) := ⟨upto_asc _, fun x hx => mem_upto.1 hx⟩
theorem setOk_len {g : Gr} {a : List Int} (hv : VG g) (h : SetOk g a) : a.length ≤ 64 := by
 have e : a = (upto g.2.1).filter fun x => decide (x ∈ a) := asc_uniq h.1 ((upto_asc _).filter _) fun x => by
  simp only [List.mem_filter, mem_upto, decide_eq_true_eq]
  exact ⟨fun hx => ⟨h.2 x hx, hx⟩, fun hx => hx.2⟩
 rw [e]
 refine Nat.le_trans (List.length_filter_le _ _) ?_
 rw [upto_len]
 have := hv.s1
 omega
theorem checkSet_ok {g : Gr} {a : List Int} (h : SetOk g a) (hm : a.length ≤ 9223372036854775807) : m_graph_checkSet g a = some 0 := by
 unfold m_graph_checkSet
 simp only [jp]
 refine lpL (loop_is (fun i => (i : Int)) a.length (Ou.go ()) (fun i hi => ?_) (by rw [if_neg (not_lt_int _)]) rfl) rfl
 obtain ⟨h0, h1⟩ := h.2 a[i] (List.getElem_mem hi)
 rw [if_pos (lt_int hi), ix hi]
 simp only [Option.bind_some]
 rw [if_neg (by omega)]
 have hd : decide (g.2.1 ≤ a[i]) = false := decide_eq_false (by omega)
 simp only [hd, Bool.false_eq_true, if_false]
 by_cases hz : 0 < i
 ·have hlt := List.pairwise_iff_getElem.1 h.1 (i - 1) i (by omega) hi (by omega)
  rw [if_pos (by omega), ix_pred hi hm hz]
  simp only [Option.bind_some]
  have hd2 : decide (a[i] ≤ a[i - 1]'(by omega)) = false := decide_eq_false (by omega)
  simp only [hd2, Bool.false_eq_true, if_false, nx hm hi]
 rw [if_neg (by omega)]
 simp only [Bool.false_eq_true, if_false, nx hm hi]
def outL (g : Gr) (s c : Int) : List Int := ((leaveL g.2.2 s).filter fun x => decide (x.2.2.1 = c)).map fun x => x.2.2.2
theorem mem_leaveL {es : List Ed} {s : Int} {x : Ed} : (∃ i, (i, x) ∈ leaveL es s) ↔ x ∈ es ∧ x.1 = s := by
 constructor
 ·rintro ⟨i, h⟩
  obtain ⟨p, hp, he⟩ := List.mem_map.1 h
  obtain ⟨hp1, hp2⟩ := List.mem_filter.1 hp
  cases he
  exact ⟨List.fst_mem_of_mem_zipIdx hp1, of_decide_eq_true hp2⟩
 rintro ⟨hm, hs⟩
 obtain ⟨k, hk, rfl⟩ := List.getElem_of_mem hm
 exact ⟨_, List.mem_map.2 ⟨(es[k], k), List.mem_filter.2 ⟨by rw [List.mem_zipIdx_iff_getElem?]; exact List.getElem?_eq_getElem hk, decide_eq_true hs⟩, rfl⟩⟩
theorem mem_outL {g : Gr} {s c t : Int} : t ∈ outL g s c ↔ ∃ e ∈ g.2.2, e.2.2 = t ∧ e.2.1 = c ∧ e.1 = s := by
 simp only [outL, List.mem_map, List.mem_filter, decide_eq_true_eq]
 constructor
 ·rintro ⟨⟨i, x⟩, ⟨hm, hc⟩, rfl⟩
  obtain ⟨h1, h2⟩ := mem_leaveL.1 ⟨i, hm⟩
  exact ⟨x, h1, rfl, hc, h2⟩
 rintro ⟨x, hx, rfl, hc, hs⟩
 obtain ⟨i, hi⟩ := mem_leaveL.2 ⟨hx, hs⟩
 exact ⟨(i, x), ⟨hi, hc⟩, rfl⟩
theorem outL_len (g : Gr) (s c : Int) : (outL g s c).length ≤ g.2.2.length := by
 simp only [outL, leaveL, List.length_map]
 refine Nat.le_trans (List.length_filter_le _ _) ?_
 rw [List.length_map]
 refine Nat.le_trans (List.length_filter_le _ _) ?_
 simp
theorem fold_out (c : Int) : ∀ (L : List (Int × Ed)) (acc : List Int), L.foldl (fun (a : List Int) (x : Int × Ed) => if x.2.2.1 = c then a ++ [x.2.2.2] else a) acc = acc ++ (L.filter fun x => decide (x.2.2.1 = c)).map fun x => x.2.2.2
 | [], acc => by simp
 | x :: L, acc => by
  rw [List.foldl_cons, fold_out c L]
  by_cases h : x.2.2.1 = c
  ·rw [if_pos h, List.filter_cons_of_pos (by simpa using h)]; simp
  rw [if_neg h, List.filter_cons_of_neg (by simpa using h)]
theorem forL_foldI {S α X : Type} {body : S → α → Option (Stp S X)} (f : S → α → S) (P : Nat → S → Prop) : ∀ (L : List α) (s : S) (k : Nat), (∀ i s x, i < L.length → x ∈ L → P (k + i) s → body s x = some (.next (f s x)) ∧ P (k + i + 1) (f s x)) → P k s → forL body L s = some (.go (L.foldl f s))
 | [], _, _, _, _ => rfl
 | x :: L, s, k, h, hs => by
  obtain ⟨h1, h2⟩ := h 0 s x (by simp) (List.mem_cons_self ..) hs
  simp only [forL, h1]
  exact forL_foldI f P L _ (k + 1) (fun i s y hi hy hP => by
   have e : k + 1 + i = k + (i + 1) := by omega
   rw [e] at hP ⊢
   exact h (i + 1) s y (by simp; omega) (List.mem_cons_of_mem _ hy) hP) h2
theorem fits_le {k n : Nat} (h : n * k ≤ 140737488355328) (h2 : n ≤ 1048576) : fits k n := ⟨h, by simp only [maxLen]; omega⟩
theorem Step_eq {g : Gr} (hv : VG g) {a : List Int} (ha : SetOk g a) {c : Int} (h0 : 0 ≤ c) (h1 : c < g.1) : m_graph_Step g a c = some (stepL g a c, 0) := by
 obtain ⟨e, he, hz⟩ := Check_tot g
 have he0 := hz.2 hv
 subst he0
 have hl := setOk_len hv ha
 have hel := hv.el
 unfold m_graph_Step
 rw [Check_ref, he, Option.bind_some, checkSet_ok ha (by omega)]
 simp only [ne_eq, not_true_eq_false, if_false, Option.bind_some, jp]
 rw [if_neg (by omega)]
 have hd : decide (g.1 ≤ c) = false := decide_eq_false (by omega)
 simp only [hd, Bool.false_eq_true, if_false]
 have hy : ∀ x, y_graph_leaving g x = some (leaveL g.2.2 x) := fun x => by unfold y_graph_leaving; rw [if_pos (by omega)]
 have hlen : ∀ i, i ≤ a.length → ((a.take i).flatMap fun s => outL g s c).length ≤ i * 1024 := by
  intro i
  induction i with
  | zero => intro _; simp
  | succ i ih =>
   intro hi
   have := ih (by omega)
   rw [List.take_add_one, List.getElem?_eq_getElem (by omega)]
   simp only [Option.toList_some, List.flatMap_append, List.flatMap_cons, List.flatMap_nil, List.append_nil, List.length_append]
   have h2 := outL_len g a[i] c
   omega
 refine bindL (loop_is (fun i => ((i : Int), (a.take i).flatMap fun s => outL g s c)) a.length (a.flatMap fun s => outL g s c) (fun i hi => ?_) ?_ (by simp)) ?_
 ·dsimp only
  rw [if_pos (lt_int hi), ix hi]
  simp only [Option.bind_some, hy]
  have hb := hlen i (by omega)
  have hll : (leaveL g.2.2 a[i]).length ≤ 1024 := by
   simp only [leaveL, List.length_map]
   refine Nat.le_trans (List.length_filter_le _ _) ?_
   simp; omega
  rw [forL_foldI (fun (acc : List Int) (x : Int × Ed) => if x.2.2.1 = c then acc ++ [x.2.2.2] else acc) (fun k s => s.length ≤ i * 1024 + k) _ _ 0 (fun k s x hk hx hP => ?_) (Nat.le_trans hb (Nat.le_add_right _ _))]
  ·simp only [lpO, nx (by omega : a.length ≤ _) hi, fold_out, Option.some.injEq, Stp.next.injEq, Prod.mk.injEq, true_and]
   rw [List.take_add_one, List.getElem?_eq_getElem hi]
   simp only [Option.toList_some, List.flatMap_append, List.flatMap_cons, List.flatMap_nil, List.append_nil]
   rfl
  by_cases hc : x.2.2.1 = c
  ·rw [if_pos hc, if_pos hc, if_pos (fits_le (by simp; omega) (by simp; omega))]
   exact ⟨rfl, by simp; omega⟩
  rw [if_neg hc, if_neg hc]
  exact ⟨rfl, by omega⟩
 ·dsimp only
  rw [if_neg (not_lt_int _), List.take_length]
 have hb := hlen a.length (Nat.le_refl _)
 rw [List.take_length] at hb
 rw [if_pos (by omega)]
 congr 2
 refine asc_uniq (compact_asc (sortI_asc _)) (stepL_ok g a c).1 fun x => ?_
 rw [compact_sort_mem, mem_stepL hv]
 simp only [List.mem_flatMap, mem_outL]
 constructor
 ·rintro ⟨s, hs, e, he, h1, h2, rfl⟩; exact ⟨e, he, h1, h2, hs⟩
 rintro ⟨e, he, h1, h2, hs⟩; exact ⟨_, hs, e, he, h1, h2, rfl⟩
theorem states_eq {g : Gr} (hv : VG g) : m_language_states g = some (upto g.2.1) := by
 have hs1 := hv.s1
 obtain ⟨m, hm⟩ := Int.eq_ofNat_of_zero_le hv.s0
 unfold m_language_states
 rw [if_pos (by omega)]
 simp only [hm, Int.toNat_natCast, List.length_replicate]
 refine bindL (loop_is (fun i => ((i : Int), (List.range i).map Int.ofNat ++ List.replicate (m - i) (0 : Int))) m (upto m) (fun i hi => ?_) ?_ (by simp)) rfl
 ·dsimp only
  have hlen : ((List.range i).map Int.ofNat ++ List.replicate (m - i) (0 : Int)).length = m := by simp; omega
  rw [if_pos (lt_int hi), ix (by omega)]
  simp only [Option.bind_some, nx (by omega : m ≤ _) hi, Int.toNat_natCast]
  congr 3
  rw [List.set_append_right _ _ (by simp), List.range_succ, List.map_append]
  have e : m - i = (m - (i + 1)) + 1 := by omega
  simp only [List.length_map, List.length_range, Nat.sub_self, e, List.replicate_succ, List.set_cons_zero]
  simp
 dsimp only
 rw [if_neg (not_lt_int _)]
 simp [upto]
theorem idx_letter {i : Nat} (h : i < letters.length) : Lib.indexByte letters letters[i] = (i : Int) := by
 have : ∀ j : Fin 16, Lib.indexByte letters (letters[j.1]'j.2) = (j.1 : Int) := by decide
 exact this ⟨i, h⟩
theorem byte_back (c : UInt8) : ((c.toNat : Int).toNat.toUInt8) = c := by simp
def lets (g : Gr) : List UInt8 := letters.take g.1.toNat
section
variable {g : Gr}
theorem lstep_eq (hv : VG g) {a : List Int} (ha : SetOk g a) {i : Nat} (h : i < letters.length) (hi : (i : Int) < g.1) : m_language_step g a ((letters[i]).toNat : Int) = some (stepL g a i) := by
 unfold m_language_step m_strings_IndexByte
 simp only [byte_back, Option.bind_some]
 have e : Lib.indexByte [48, 49, 50, 51, 52, 53, 54, 55, 56, 57, 97, 98, 99, 100, 101, 102] letters[i] = (i : Int) := idx_letter h
 rw [e, Step_eq hv ha (by omega) hi]
 rfl
theorem mem_lets {c : UInt8} (h : c ∈ letters.take g.1.toNat) : ∃ (i : Nat) (hi : i < letters.length), (i : Int) < g.1 ∧ letters[i] = c := by
 obtain ⟨i, hi, rfl⟩ := List.mem_take_iff_getElem.1 h
 have h1 : i < g.1.toNat := by omega
 exact ⟨i, by omega, by omega, rfl⟩
end
def lab (c : UInt8) : Int := Lib.indexByte letters c
theorem idxB_neg : ∀ {l : List UInt8} {c : UInt8}, Lib.indexByte l c < 0 ↔ c ∉ l
 | [], c => by simp [Lib.indexByte]
 | b :: l, c => by
  have h := @idxB_neg l c
  have hg := Lib.indexByte_ge l c
  simp only [Lib.indexByte, List.mem_cons, not_or]
  by_cases e : b = c
  ·subst e; simp
  have e1 : (b == c) = false := by simpa using e
  simp only [e1, Bool.false_eq_true, if_false]
  by_cases e2 : Lib.indexByte l c = -1
  ·have := h.1 (by omega)
   simp only [e2, beq_self_eq_true, if_true]
   exact ⟨fun _ => ⟨fun e' => e e'.symm, this⟩, fun _ => by decide⟩
  have e3 : (Lib.indexByte l c == -1) = false := by simpa using e2
  simp only [e3, Bool.false_eq_true, if_false]
  exact ⟨fun h' => by omega, fun h' => by have := h.2 h'.2; omega⟩
theorem known_eq (L : Int) : m_word_known L = some (decide (1 ≤ L ∧ L ≤ 16)) := by
 unfold m_word_known
 simp only [jp]
 by_cases h1 : 1 ≤ L
 ·rw [if_pos h1]; simp [h1]
 rw [if_neg h1]; simp [h1]
theorem wcheck (L : Int) (w : List UInt8) : ∃ e, m_word_Check L w = some e ∧ (e = 0 ↔ (1 ≤ L ∧ L ≤ 16) ∧ w.length ≤ 65536 ∧ ∀ c ∈ w, c ∈ letters.take L.toNat) := by
  unfold m_word_Check
  rw [known_eq]
  simp only [Option.bind_some]
  by_cases h1 : 1 ≤ L ∧ L ≤ 16
  case neg =>
    rw [if_pos (by rw [decide_eq_false h1]; rfl)]
    exact ⟨12, rfl, by simp [h1]⟩
  rw [if_neg (by rw [decide_eq_true h1]; decide)]
  by_cases h2 : 65536 < (w.length : Int)
  · rw [if_pos h2]
    exact ⟨4, rfl, by simp; omega⟩
  rw [if_neg h2]
  have hx : ∀ c : UInt8, m_strings_IndexByte ((([48, 49, 50, 51, 52, 53, 54, 55, 56, 57, 97, 98, 99, 100, 101, 102] : List UInt8).take L.toNat).drop (0 : Int).toNat) (c.toNat : Int) = some (Lib.indexByte (letters.take L.toNat) c) := fun c => by
    unfold m_strings_IndexByte
    rw [byte_back]
    rfl
  have hl := loop_any (body := fun a3 => if a3 < ((w).length : Int) then
            if 0 ≤ (0 : Int) ∧ (0 : Int) ≤ L ∧ L ≤ (([48, 49, 50, 51, 52, 53, 54, 55, 56, 57, 97, 98, 99, 100, 101, 102] : List UInt8).length : Int) then
              (idx w a3).bind fun x8 =>
              (m_strings_IndexByte ((([48, 49, 50, 51, 52, 53, 54, 55, 56, 57, 97, 98, 99, 100, 101, 102] : List UInt8).take (L).toNat).drop (0 : Int).toNat) (x8.toNat : Int)).bind fun x10 =>
              if x10 < 0 then
                some (Stp.exit (Ou.ret 13))
              else
                some (Stp.next (IntKind.wrap .i64 (a3 + 1)))
            else none
          else
            some (Stp.exit (Ou.go ()))) (fun i => (i : Int)) w.length (fun i => decide (Lib.indexByte (letters.take L.toNat) (w.getD i 0) < 0)) (Ou.ret (13 : Int)) (Ou.go ()) (fun i hi => by
      have e1 : w.getD i 0 = w[i] := by simp [List.getD, hi]
      rw [if_pos (lt_int hi), if_pos ⟨by decide, by omega, by show L ≤ (16 : Int); omega⟩, ix hi]
      simp only [Option.bind_some, hx, nx (by omega : w.length ≤ _) hi, e1, decide_eq_true_eq]) (by rw [if_neg (not_lt_int _)]) (s0 := (0 : Int)) rfl
  rw [hl]
  by_cases hw : ∀ c ∈ w, c ∈ letters.take L.toNat
  · rw [if_neg]
    · exact ⟨0, rfl, by simp only [true_iff]; exact ⟨h1, by omega, hw⟩⟩
    intro ha
    obtain ⟨i, hi, hp⟩ := List.any_eq_true.1 ha
    have hi := List.mem_range.1 hi
    have e1 : w.getD i 0 = w[i] := by simp [List.getD, hi]
    rw [e1] at hp
    exact idxB_neg.1 (of_decide_eq_true hp) (hw _ (List.getElem_mem hi))
  rw [if_pos]
  · exact ⟨13, rfl, by simp only [show ¬ (13 : Int) = 0 by decide, false_iff]; exact fun h => hw h.2.2⟩
  apply Classical.byContradiction
  intro hno
  refine hw fun c hc => ?_
  obtain ⟨i, hi, rfl⟩ := List.getElem_of_mem hc
  apply Classical.byContradiction
  intro hn
  refine hno (List.any_eq_true.2 ⟨i, List.mem_range.2 hi, ?_⟩)
  have e1 : w.getD i 0 = w[i] := by simp [List.getD, hi]
  rw [e1]
  exact decide_eq_true (idxB_neg.2 hn)
theorem lcheck_tot (g : Gr) : ∃ e, m_language_check g = some e ∧ (e = 0 ↔ VG g ∧ g.1 ≤ 16) := by
 obtain ⟨e, he, hz⟩ := Check_tot g
 unfold m_language_check
 rw [Check_ref, he]
 simp only [Option.bind_some]
 by_cases h0 : e = 0
 ·rw [if_neg (by omega)]
  by_cases h1 : 16 < g.1
  ·rw [if_pos h1]; exact ⟨12, rfl, by simp; intro _; omega⟩
  rw [if_neg h1]; exact ⟨0, rfl, by simp only [true_iff]; exact ⟨hz.1 h0, by omega⟩⟩
 rw [if_pos h0]
 exact ⟨1, rfl, by simp; intro hv; exact absurd (hz.2 hv) h0⟩
def WOk (g : Gr) (w : List UInt8) : Prop := w.length ≤ 65536 ∧ ∀ c ∈ w, c ∈ lets g
theorem spells_tot (g : Gr) (w : List UInt8) : ∃ e, m_language_spells g w = some e ∧ (e = 0 ↔ VG g ∧ g.1 ≤ 16 ∧ WOk g w) := by
 obtain ⟨e, he, hz⟩ := lcheck_tot g
 obtain ⟨f, hf, hy⟩ := wcheck g.1 w
 unfold m_language_spells
 rw [he]
 simp only [Option.bind_some, hf]
 by_cases h0 : e = 0
 ·rw [if_neg (by omega)]
  obtain ⟨hv, h16⟩ := hz.1 h0
  exact ⟨f, rfl, hy.trans ⟨fun h => ⟨hv, h16, h.2⟩, fun h => ⟨⟨hv.l1, h16⟩, h.2.2⟩⟩⟩
 rw [if_pos h0]
 exact ⟨e, rfl, ⟨fun h => absurd h h0, fun h => absurd (hz.2 ⟨h.1, h.2.1⟩) h0⟩⟩
section
variable {g : Gr}
theorem lab_mem {c : UInt8} (h : c ∈ lets g) : ∃ (i : Nat) (hi : i < letters.length), (i : Int) < g.1 ∧ letters[i] = c ∧ lab c = i := by
 obtain ⟨i, hi, hg, rfl⟩ := mem_lets h
 exact ⟨i, hi, hg, rfl, idx_letter hi⟩
theorem step_lab (hv : VG g) {a : List Int} (ha : SetOk g a) {c : UInt8} (hc : c ∈ lets g) : m_language_step g a (c.toNat : Int) = some (stepL g a (lab c)) := by
 obtain ⟨i, hi, hg, rfl, e⟩ := lab_mem hc
 rw [e]
 exact lstep_eq hv ha hi hg
def endsL (g : Gr) (a : List Int) (w : List UInt8) : List Int := w.foldl (fun a c => stepL g a (lab c)) a
theorem endsL_cons (a : List Int) (c : UInt8) (w : List UInt8) : endsL g a (c :: w) = endsL g (stepL g a (lab c)) w := rfl
theorem endsL_app (a : List Int) (u v : List UInt8) : endsL g a (u ++ v) = endsL g (endsL g a u) v := List.foldl_append ..
theorem stepL_nil (c : Int) : stepL g [] c = [] := by simp [stepL]
theorem endsL_nil : ∀ w : List UInt8, endsL g [] w = []
 | [] => rfl
 | c :: w => by rw [endsL_cons, stepL_nil, endsL_nil w]
theorem endsL_ok {a : List Int} (ha : SetOk g a) : ∀ w, SetOk g (endsL g a w) := fun w => by
 induction w generalizing a with
 | nil => exact ha
 | cons c w ih => exact ih (stepL_ok g a _)
theorem ends_eq (hv : VG g) {a : List Int} (ha : SetOk g a) {w : List UInt8} (hw : WOk g w) : m_language_ends g a w = some (endsL g a w) := by
 obtain ⟨hl, hc⟩ := hw
 unfold m_language_ends
 have hx : ∃ x, loopW (S := (List Int) × Int) (X := (List Int)) (fun a1 =>
   jp (fun (a5 : Bool) =>
    if a5 = true then
     (idx w a1.2).bind fun x8 =>
     (m_language_step g a1.1 (x8.toNat : Int)).bind fun x10 =>
     some (Stp.next (x10, IntKind.wrap .i64 (a1.2 + 1)))
    else
     some (Stp.exit a1.1))
    fun k7 =>
    if a1.2 < ((w).length : Int) then
     k7 (decide (0 < ((a1.1).length : Int)))
    else
     k7 false) (a, 0) = some x ∧ x = endsL g a w := by
  refine loopN w.length (fun i s => s = (endsL g a (w.take i), (i : Int))) ?_ ?_ 0 _ (Nat.zero_le _) rfl
  ·rintro i s hi rfl
   simp only [jp]
   rw [if_pos (lt_int hi)]
   by_cases h0 : endsL g a (w.take i) = []
   ·rw [if_neg (by rw [h0]; simp)]
    refine .inr ⟨_, rfl, ?_⟩
    rw [h0]
    conv => rhs; rw [← List.take_append_drop i w, endsL_app, h0, endsL_nil]
   have hpos := List.length_pos_iff.2 h0
   rw [if_pos (decide_eq_true (by omega)), ix hi]
   simp only [Option.bind_some]
   rw [step_lab hv (endsL_ok ha _) (hc _ (List.getElem_mem hi))]
   refine .inl ⟨_, rfl, ?_⟩
   rw [nx (by omega : w.length ≤ _) hi, List.take_add_one, List.getElem?_eq_getElem hi, endsL_app]
   rfl
  rintro s rfl
  simp only [jp]
  rw [if_neg (not_lt_int _), if_neg (by simp)]
  exact ⟨_, rfl, by rw [List.take_length]⟩
 obtain ⟨x, hx, rfl⟩ := hx
 rw [hx]
 rfl
theorem Accepts_eq (hv : VG g) (h16 : g.1 ≤ 16) {w : List UInt8} (hw : WOk g w) : m_language_Accepts g w = some (decide (endsL g (upto g.2.1) w ≠ []), 0) := by
 obtain ⟨e, he, hz⟩ := spells_tot g w
 have h0 := hz.2 ⟨hv, h16, hw⟩
 subst h0
 unfold m_language_Accepts
 rw [he]
 simp only [Option.bind_some, ne_eq, not_true_eq_false, if_false, states_eq hv, ends_eq hv (upto_ok g) hw]
 congr 2
 by_cases h : endsL g (upto g.2.1) w = []
 ·simp [h]
 have := List.length_pos_iff.2 h
 simp [h, this]
end
theorem Great_tot (g : Gr) : ∃ b, m_ref11_Great g = some b ∧ (b = false → (g.2.1 ≤ 8 ∨ 64 < g.2.1) ∧ (g.2.2.length ≤ 30 ∨ 1024 < g.2.2.length) ∧ g.2.2.length ≤ 1027) := by
 unfold m_ref11_Great
 simp only [jp]
 by_cases h1 : 8 < g.2.1
 ·rw [if_pos h1]
  by_cases h2 : g.2.1 ≤ 64
  ·rw [if_pos h2]; exact ⟨true, rfl, by simp⟩
  rw [if_neg h2]
  by_cases h3 : 30 < (g.2.2.length : Int)
  ·rw [if_pos h3]
   by_cases h4 : (g.2.2.length : Int) ≤ 1024
   ·rw [if_pos h4]; exact ⟨true, rfl, by simp⟩
   rw [if_neg h4]; exact ⟨_, rfl, by simp; omega⟩
  rw [if_neg h3]; exact ⟨_, rfl, by simp; omega⟩
 rw [if_neg h1]
 by_cases h3 : 30 < (g.2.2.length : Int)
 ·rw [if_pos h3]
  by_cases h4 : (g.2.2.length : Int) ≤ 1024
  ·rw [if_pos h4]; exact ⟨true, rfl, by simp⟩
  rw [if_neg h4]; exact ⟨_, rfl, by simp; omega⟩
 rw [if_neg h3]; exact ⟨_, rfl, by simp; omega⟩
theorem EqI_eq {a b : List Int} (hm : a.length ≤ 9223372036854775807) : m_slices_Equal_Lint_int a b = some (decide (a = b)) := by
 unfold m_slices_Equal_Lint_int
 by_cases hl : a.length = b.length
 ·rw [if_neg (by omega)]
  refine lpL (loop_any (fun i => (i : Int)) a.length (fun i => decide (a.getD i 0 ≠ b.getD i 0)) (Ou.ret false) (Ou.go ()) (fun i hi => ?_) (by rw [if_neg (not_lt_int _)]) rfl) ?_
  ·have hi' : i < b.length := by omega
   have e1 : a.getD i 0 = a[i] := by simp [List.getD, hi]
   have e2 : b.getD i 0 = b[i] := by simp [List.getD, hi']
   rw [if_pos (lt_int hi), ix hi, ix hi']
   simp only [Option.bind_some, nx hm hi, e1, e2, decide_eq_true_eq]
  by_cases he : a = b
  ·subst he
   rw [if_neg]
   ·simp [lpO]
   simp
  rw [if_pos]
  ·simp [lpO, he]
  refine List.any_eq_true.2 ?_
  apply Classical.byContradiction
  intro hno
  refine he (List.ext_getElem hl fun i h1 h2 => ?_)
  apply Classical.byContradiction
  intro hne
  refine hno ⟨i, List.mem_range.2 h1, decide_eq_true ?_⟩
  rwa [show a.getD i 0 = a[i] by simp [List.getD, h1], show b.getD i 0 = b[i] by simp [List.getD, h2]]
 rw [if_pos (by omega)]
 have : ¬ a = b := fun e => hl (by rw [e])
 simp [this]
theorem WOk.sub {g : Gr} {w u : List UInt8} (h : WOk g w) (hl : u.length ≤ w.length) (hs : ∀ c ∈ u, c ∈ w) : WOk g u := ⟨Nat.le_trans hl h.1, fun c hc => h.2 c (hs c hc)⟩
section
variable {g : Gr}
def canB (g : Gr) : List UInt8 → List Bool
 | [] => List.replicate g.2.1.toNat true
 | c :: w => (upto g.2.1).map fun s => g.2.2.any fun x => decide (x.1 = s ∧ x.2.1 = lab c) && (canB g w).getD x.2.2.toNat false
def okE (g : Gr) (w : List UInt8) (c : UInt8) (prev : Option Int) (x : Ed) : Bool := decide (x.2.1 = lab c) && (canB g w).getD x.2.2.toNat false && (match prev with
 | none => true
 | some s => decide (x.1 = s))
def pick (g : Gr) (w : List UInt8) (c : UInt8) (prev : Option Int) : Nat := g.2.2.findIdx (okE g w c prev)
end
section
variable {g : Gr}
end
section
variable {g : Gr}
end
section
variable {g : Gr}
end
section
variable {β : Type}
theorem mlook_put (k q : List UInt8) (v : β) : ∀ l : List (List UInt8 × β), mlook q (mputN k v l) = if q = k then some v else mlook q l
 | [] => by simp only [mputN, mlook]
 | (p, x) :: l => by
  simp only [mputN]
  by_cases h : k = p
  ·rw [if_pos h]
   simp only [mlook]
   by_cases e : q = p
   ·rw [if_pos e, if_pos (e.trans h.symm)]
   rw [if_neg e, if_neg (fun e' => e (e'.trans h)), if_neg e]
  rw [if_neg h]
  simp only [mlook]
  by_cases e : q = p
  ·rw [if_pos e, if_neg (fun e' => h (e'.symm.trans e)), if_pos e]
  rw [if_neg e, mlook_put k q v l, if_neg e]
end
section
variable {g : Gr}
end
section
variable {g : Gr}
end
section
variable {g : Gr}
end
section
variable {g : Gr}
end
section
variable {g : Gr}
end
section
variable {g : Gr}
end
section
variable {g : Gr}
end
section
variable {g : Gr}
end
abbrev Jn := TWordsMerges
def fstN {X : Type} (p : Nat → Bool) (xr : Nat → X) (xf : X) : Nat → Nat → X
 | 0, _ => xf
 | d + 1, i => if p i = true then xr i else fstN p xr xf d (i + 1)
theorem loop_fst {S X : Type} {body : S → Option (Stp S X)} (st : Nat → S) (n : Nat) (p : Nat → Bool) (xr : Nat → X) (xf : X) (h : ∀ i, i < n → body (st i) = if p i = true then some (.exit (xr i)) else some (.next (st (i + 1)))) (hf : body (st n) = some (.exit xf)) {s0 : S} (hs0 : s0 = st 0) :
  loopW body s0 = some (fstN p xr xf n 0) := by
 subst hs0
 have : ∀ d i, i + d = n → loopW body (st i) = some (fstN p xr xf d i) := by
  intro d
  induction d with
  | zero =>
   intro i hi
   have e : i = n := by omega
   subst e
   rw [loopW_exit hf]
   rfl
  | succ d ih =>
   intro i hi
   have hb := h i (by omega)
   unfold fstN
   by_cases hp : p i = true
   ·rw [if_pos hp] at hb ⊢
    rw [loopW_exit hb]
   rw [if_neg hp] at hb ⊢
   rw [loopW_next hb]
   exact ih (i + 1) (by omega)
 exact this n 0 (by omega)
theorem fstN_cases {X : Type} (p : Nat → Bool) (xr : Nat → X) (xf : X) : ∀ d i, (∃ j, i ≤ j ∧ j < i + d ∧ p j = true ∧ (∀ k, i ≤ k → k < j → p k = false) ∧ fstN p xr xf d i = xr j) ∨ ((∀ j, i ≤ j → j < i + d → p j = false) ∧ fstN p xr xf d i = xf)
 | 0, i => .inr ⟨fun j h1 h2 => by omega, rfl⟩
 | d + 1, i => by
  unfold fstN
  by_cases hp : p i = true
  ·rw [if_pos hp]
   exact .inl ⟨i, by omega, by omega, hp, fun k h1 h2 => by omega, rfl⟩
  rw [if_neg hp]
  have hp' : p i = false := by simpa using hp
  rcases fstN_cases p xr xf d (i + 1) with ⟨j, h1, h2, h3, h4, h5⟩ | ⟨h1, h2⟩
  ·refine .inl ⟨j, by omega, by omega, h3, fun k hk1 hk2 => ?_, h5⟩
   by_cases hk : k = i
   ·subst hk; exact hp'
   exact h4 k (by omega) hk2
  refine .inr ⟨fun j hj1 hj2 => ?_, h2⟩
  by_cases hj : j = i
  ·subst hj; exact hp'
  exact h1 j (by omega) (by omega)
theorem fstN_any {α X : Type} (l : List α) (P : α → Bool) {p : Nat → Bool} (hp : ∀ i (h : i < l.length), p i = P l[i]) (xr xf : X) : fstN p (fun _ => xr) xf l.length 0 = if l.any P = true then xr else xf := by
 rcases fstN_cases p (fun _ => xr) xf l.length 0 with ⟨j, h1, h2, h3, h4, h5⟩ | ⟨h1, h2⟩
 ·rw [h5, if_pos]
  rw [List.any_eq_true]
  exact ⟨l[j], List.getElem_mem (by omega), by rw [← hp j (by omega)]; exact h3⟩
 rw [h2, if_neg]
 rw [List.any_eq_true]
 rintro ⟨x, hx, hP⟩
 obtain ⟨j, hj, rfl⟩ := List.getElem_of_mem hx
 rw [← hp j hj, h1 j (by omega) (by omega)] at hP
 cases hP
theorem loop_anyL {α S X : Type} {body : S → Option (Stp S X)} (st : Nat → S) (l : List α) (P : α → Bool) (xr xf : X) (h : ∀ i (hi : i < l.length), body (st i) = if P l[i] = true then some (.exit xr) else some (.next (st (i + 1)))) (hf : body (st l.length) = some (.exit xf)) {s0 : S} (hs0 : s0 = st 0) :
  loopW body s0 = some (if l.any P = true then xr else xf) := by
 rw [← fstN_any l P (p := fun i => if h : i < l.length then P l[i] else false) (fun i hi => by rw [dif_pos hi]) xr xf]
 exact loop_fst st l.length _ _ xf (fun i hi => by rw [h i hi, dif_pos hi]) hf hs0
theorem fstN_find {α X : Type} (l : List α) (P : α → Bool) {p : Nat → Bool} (hp : ∀ i (h : i < l.length), p i = P l[i]) (xr : Nat → X) (xf : X) : fstN p xr xf l.length 0 = if l.any P = true then xr (l.findIdx P) else xf := by
 rcases fstN_cases p xr xf l.length 0 with ⟨j, h1, h2, h3, h4, h5⟩ | ⟨h1, h2⟩
 ·have hj : j < l.length := by omega
  have hf : l.findIdx P = j := by
   rw [List.findIdx_eq hj]
   exact ⟨by rw [← hp j hj]; exact h3, fun k hk => by rw [← hp k (by omega)]; exact h4 k (by omega) hk⟩
  rw [h5, if_pos, hf]
  rw [List.any_eq_true]
  exact ⟨l[j], List.getElem_mem hj, by rw [← hp j hj]; exact h3⟩
 rw [h2, if_neg]
 rw [List.any_eq_true]
 rintro ⟨x, hx, hP⟩
 obtain ⟨j, hj, rfl⟩ := List.getElem_of_mem hx
 rw [← hp j hj, h1 j (by omega) (by omega)] at hP
 cases hP
theorem loop_findL {α S X : Type} {body : S → Option (Stp S X)} (st : Nat → S) (l : List α) (P : α → Bool) (xr : Nat → X) (xf : X) (h : ∀ i (hi : i < l.length), body (st i) = if P l[i] = true then some (.exit (xr i)) else some (.next (st (i + 1)))) (hf : body (st l.length) = some (.exit xf)) {s0 : S} (hs0 : s0 = st 0) :
  loopW body s0 = some (if l.any P = true then xr (l.findIdx P) else xf) := by
 rw [← fstN_find l P (p := fun i => if h : i < l.length then P l[i] else false) (fun i hi => by rw [dif_pos hi]) xr xf]
 exact loop_fst st l.length _ _ xf (fun i hi => by rw [h i hi, dif_pos hi]) hf hs0
theorem lpE {V R Y : Type} {o : Option (Ou V R)} {x : Ou V R} {M : V → Option Y} {Rt : R → Option Y} {r : Option Y} (h : o = some x) (hr : lpO (some x) M Rt = r) : lpO o M Rt = r := by rw [h]; exact hr
def firstI {α : Type} (l : List α) (P : α → Bool) : Int := if l.any P = true then (l.findIdx P : Nat) else -1
theorem firstI_nn {α : Type} {l : List α} {P : α → Bool} : 0 ≤ firstI l P ↔ l.any P = true := by
 unfold firstI
 split <;> simp_all
theorem IndexFuncS {l : List (List UInt8)} {p : List UInt8 → Option Bool} (P : List UInt8 → Bool) (hm : l.length ≤ 9223372036854775807) (hp : ∀ x ∈ l, p x = some (P x)) : m_slices_IndexFunc_Lstring_stringG l p = some (firstI l P) := by
 unfold m_slices_IndexFunc_Lstring_stringG
 refine lpE (loop_findL (fun i => (i : Int)) l P (fun i => Ou.ret (i : Int)) (Ou.go ()) (fun i hi => ?_) (by rw [if_neg (not_lt_int _)]) rfl) ?_
 ·rw [if_pos (lt_int hi), ix hi]
  simp only [Option.bind_some, hp _ (List.getElem_mem hi), nx hm hi]
 unfold firstI
 split <;> rfl
theorem ContainsFuncS {l : List (List UInt8)} {p : List UInt8 → Option Bool} (P : List UInt8 → Bool) (hm : l.length ≤ 9223372036854775807) (hp : ∀ x ∈ l, p x = some (P x)) : m_slices_ContainsFunc_Lstring_stringG l p = some (l.any P) := by
 unfold m_slices_ContainsFunc_Lstring_stringG
 rw [IndexFuncS P hm hp]
 simp only [Option.bind_some, firstI_nn, Bool.decide_eq_true]
def fstLen (l : List (List UInt8)) : Nat := (l.headD []).length
def unev (l : List (List UInt8)) : Bool := l.any fun w => decide (w.length ≠ fstLen l)
def bitB (c : UInt8) : Bool := c == 48 || c == 49
def lett (l : List (List UInt8)) : Bool := l.any fun w => w.any fun c => !bitB c
def rept (l : List (List UInt8)) : Bool := !decide l.Nodup
theorem idx0 {l : List (List UInt8)} (h : l ≠ []) : idx l 0 = some (l.headD []) := by
 cases l with
 | nil => exact absurd rfl h
 | cons a l => rfl
theorem hdl (l : List (List UInt8)) : (l.headD []).length = fstLen l := rfl
def Sm (l : List (List UInt8)) : Prop := l.length ≤ 9223372036854775807 ∧ ∀ w ∈ l, w.length ≤ 4611686018427387904
theorem uneven_eq {l : List (List UInt8)} (h : l ≠ []) (hs : Sm l) : m_merging_uneven l = some (unev l) := by
 unfold m_merging_uneven
 rw [ContainsFuncS (fun w => decide (w.length ≠ fstLen l)) hs.1 fun w hw => ?_]
 ·rfl
 unfold m_merging_uneven_1
 rw [idx0 h]
 simp only [Option.bind_some, hdl]
 congr 1
 exact decide_eq_decide.2 (by omega)
theorem count2 : ∀ w : List UInt8, w.count 48 + w.count 49 ≤ w.length ∧ (w.count 48 + w.count 49 = w.length ↔ ∀ c ∈ w, bitB c = true)
 | [] => by simp
 | c :: w => by
  obtain ⟨h1, h2⟩ := count2 w
  by_cases h48 : c = 48
  ·subst h48
   simp [bitB] at h2 ⊢
   refine ⟨by omega, ?_⟩
   rw [← h2]; omega
  by_cases h49 : c = 49
  ·subst h49
   simp [bitB] at h2 ⊢
   refine ⟨by omega, ?_⟩
   rw [← h2]; omega
  have e1 : (c :: w).count 48 = w.count 48 := by simp [List.count_cons, h48]
  have e2 : (c :: w).count 49 = w.count 49 := by simp [List.count_cons, h49]
  rw [e1, e2, List.length_cons]
  refine ⟨by omega, ⟨fun h => by omega, fun h => ?_⟩⟩
  have := h c (List.mem_cons_self ..)
  simp [bitB, h48, h49] at this
theorem letters_eq {l : List (List UInt8)} (hs : Sm l) : m_merging_letters l = some (lett l) := by
 unfold m_merging_letters
 rw [ContainsFuncS (fun w => w.any fun c => !bitB c) hs.1 fun w hw => ?_]
 ·rfl
 unfold m_merging_letters_1
 have hl := hs.2 w hw
 obtain ⟨h1, h2⟩ := count2 w
 simp only [m_strings_Count, Option.bind_some, Lib.countByte]
 congr 1
 have e : IntKind.wrap .i64 (((w.count 48 : Nat) : Int) + ((w.count 49 : Nat) : Int)) = ((w.count 48 + w.count 49 : Nat) : Int) := by
  rw [w64 (by omega) (by omega)]; omega
 rw [e]
 by_cases hc : w.count 48 + w.count 49 = w.length
 ·have := h2.1 hc
  rw [decide_eq_false (by omega), eq_comm]
  rw [Bool.eq_false_iff]
  intro ha
  obtain ⟨c, hc', hb⟩ := List.any_eq_true.1 ha
  rw [this c hc'] at hb
  cases hb
 rw [decide_eq_true (by omega), eq_comm, List.any_eq_true]
 refine Classical.byContradiction fun hn => hc (h2.2 fun c hc' => Classical.byContradiction fun hb => hn ⟨c, hc', by simpa using hb⟩)
theorem nodup_iff {α : Type} {l : List α} : l.Nodup ↔ ∀ i (h : i < l.length), l[i] ∉ l.take i := by
 rw [List.nodup_iff_pairwise_ne, List.pairwise_iff_getElem]
 constructor
 ·intro h i hi hm
  obtain ⟨j, hj, e⟩ := List.getElem_of_mem hm
  rw [List.length_take] at hj
  rw [List.getElem_take] at e
  exact h j i (by omega) hi (by omega) e
 intro h i j hi hj hij e
 refine h j hj ?_
 rw [← e]
 have hq : i < (l.take j).length := by rw [List.length_take]; omega
 have := List.getElem_mem hq
 rwa [List.getElem_take] at this
theorem rept_any {l : List (List UInt8)} {p : Nat → Bool} (hp : ∀ i (h : i < l.length), p i = decide (l[i] ∈ l.take i)) {X : Type} (xr xf : X) : fstN p (fun _ => xr) xf l.length 0 = if rept l = true then xr else xf := by
 rcases fstN_cases p (fun _ => xr) xf l.length 0 with ⟨j, h1, h2, h3, h4, h5⟩ | ⟨h1, h2⟩
 ·rw [h5, if_pos]
  have hj : j < l.length := by omega
  rw [hp j hj, decide_eq_true_eq] at h3
  simp only [rept, Bool.not_eq_true', decide_eq_false_iff_not, nodup_iff]
  exact fun hn => hn j hj h3
 rw [h2, if_neg]
 simp only [rept, Bool.not_eq_true', decide_eq_false_iff_not, nodup_iff, Classical.not_not]
 intro i hi hm
 have := h1 i (by omega) (by omega)
 rw [hp i hi] at this
 exact of_decide_eq_false this hm
def seenM (l : List (List UInt8)) (i : Nat) : List (List UInt8 × Bool) := (l.take i).foldl (fun m w => mputN w true m) []
theorem seenM_succ {l : List (List UInt8)} {i : Nat} (hi : i < l.length) : seenM l (i + 1) = mputN l[i] true (seenM l i) := by
 unfold seenM
 rw [← List.take_append_getElem hi, List.foldl_append]
 rfl
theorem seenM_look {l : List (List UInt8)} (q : List UInt8) : ∀ i, i ≤ l.length → (mlook q (seenM l i)).getD false = decide (q ∈ l.take i) := by
 intro i
 induction i with
 | zero => intro _; simp [seenM, mlook]
 | succ i ih =>
  intro hi
  have hi' : i < l.length := by omega
  have e2 : (q ∈ l.take (i + 1)) ↔ q ∈ l.take i ∨ q = l[i] := by rw [← List.take_append_getElem hi', List.mem_append, List.mem_singleton]
  rw [seenM_succ hi', mlook_put]
  by_cases e : q = l[i]
  ·rw [if_pos e, decide_eq_true (e2.2 (.inr e))]; rfl
  rw [if_neg e, ih (by omega)]; simp [e2, e]
theorem repeats_eq {l : List (List UInt8)} (hs : Sm l) : m_merging_repeats l = some (rept l) := by
 unfold m_merging_repeats
 refine lpE (loop_fst (fun i => ((i : Int), seenM l i)) l.length (fun i => if h : i < l.length then decide (l[i] ∈ l.take i) else false) (fun _ => Ou.ret true) (Ou.go ()) (fun i hi => ?_) (by simp only; rw [if_neg (not_lt_int _)]) rfl) ?_
 ·simp only
  rw [if_pos (lt_int hi), ix hi]
  simp only [Option.bind_some, dif_pos hi, seenM_look l[i] i (Nat.le_of_lt hi), nx hs.1 hi, seenM_succ hi]
 rw [rept_any (fun i hi => by rw [dif_pos hi])]
 split
 ·rename_i h; rw [h]; rfl
 rename_i h; rw [Bool.not_eq_true] at h; rw [h]; rfl
def formE (j : Jn) : Int :=
 if j.1 = [] ∨ j.2 = [] then 5 else if 256 < j.1.length ∨ 256 < j.2.length then 4 else if unev j.1 = true ∨ unev j.2 = true then 11
 else if fstLen j.1 < 1 ∨ 16 < fstLen j.1 ∨ 16 < fstLen j.2 then 2 else if lett j.1 = true ∨ lett j.2 = true then 13 else if rept j.1 = true ∨ rept j.2 = true then 7 else 0
def SmJ (j : Jn) : Prop := Sm j.1 ∧ Sm j.2
theorem i256 (n : Nat) : (256 < (n : Int)) ↔ 256 < n := by omega
theorem i16 (n : Nat) : (16 < (n : Int)) ↔ 16 < n := by omega
theorem i1 (n : Nat) : ((n : Int) < 1) ↔ n < 1 := by omega
theorem form_eq {j : Jn} (hs : SmJ j) : m_merging_form j = some (formE j) := by
 obtain ⟨h1, h2⟩ := hs
 unfold m_merging_form formE
 simp only [jp]
 by_cases e1 : j.1 = []
 ·simp [e1]
 by_cases e2 : j.2 = []
 ·simp [e1, e2]
 have l1 : ¬ (j.1.length : Int) = 0 := by have := List.length_pos_iff.2 e1; omega
 have l2 : ¬ (j.2.length : Int) = 0 := by have := List.length_pos_iff.2 e2; omega
 rw [if_neg l1, decide_eq_false l2, if_neg Bool.false_ne_true, uneven_eq e1 h1, uneven_eq e2 h2, letters_eq h1, letters_eq h2, repeats_eq h1, repeats_eq h2, idx0 e1, idx0 e2]
 simp only [Option.bind_some, hdl, i256, i16, i1, e1, e2, or_self, if_false]
 by_cases c1 : 256 < j.1.length
 ·simp [c1]
 by_cases c2 : 256 < j.2.length
 ·simp [c1, c2]
 by_cases u1 : unev j.1 = true
 ·simp [c1, c2, u1]
 by_cases u2 : unev j.2 = true
 ·simp [c1, c2, u1, u2]
 by_cases f1 : fstLen j.1 < 1
 ·simp only [c1, c2, u1, u2, f1, decide_true, decide_false, if_true, if_false, Bool.false_eq_true, or_self, true_or, not_false_eq_true, Bool.not_true, Bool.not_false]
 by_cases f2 : 16 < fstLen j.1
 ·simp only [c1, c2, u1, u2, f1, f2, decide_true, decide_false, if_true, if_false, Bool.false_eq_true, or_self, true_or, or_true, not_false_eq_true, Bool.not_true, Bool.not_false]
 by_cases f3 : 16 < fstLen j.2
 ·simp only [c1, c2, u1, u2, f1, f2, f3, decide_true, decide_false, if_true, if_false, Bool.false_eq_true, or_self, true_or, or_true, not_false_eq_true, Bool.not_true, Bool.not_false]
 have b1 := Bool.eq_false_iff.2 u1
 have b2 := Bool.eq_false_iff.2 u2
 simp only [c1, c2, b1, b2, f1, f2, f3, decide_true, decide_false, if_true, if_false, Bool.false_eq_true, or_self, not_false_eq_true, Bool.not_true, Bool.not_false]
 cases lett j.1 <;> cases lett j.2 <;> cases rept j.1 <;> cases rept j.2 <;> rfl
def inW (g : Gr) (w : List UInt8) : Bool := decide (endsL g (upto g.2.1) w ≠ [])
def bitW (w : List UInt8) : Prop := ∀ c ∈ w, bitB c = true
theorem bitW_app {u v : List UInt8} : bitW (u ++ v) ↔ bitW u ∧ bitW v := by
 constructor
 ·exact fun h => ⟨fun c hc => h c (List.mem_append.2 (.inl hc)), fun c hc => h c (List.mem_append.2 (.inr hc))⟩
 intro h c hc
 rcases List.mem_append.1 hc with hc | hc
 ·exact h.1 c hc
 exact h.2 c hc
theorem bit_lets {g : Gr} (h2 : g.1 = 2) {c : UInt8} (h : bitB c = true) : c ∈ lets g := by
 have e : lets g = [48, 49] := by simp only [lets, h2]; decide
 rw [e]
 simpa [bitB] using h
theorem WOk_bit {g : Gr} (h2 : g.1 = 2) {w : List UInt8} (hb : bitW w) (hl : w.length ≤ 65536) : WOk g w := ⟨hl, fun c hc => bit_lets h2 (hb c hc)⟩
section
variable {g : Gr}
theorem accepts_eq (hv : VG g) (h2 : g.1 = 2) {w : List UInt8} (hb : bitW w) (hl : w.length ≤ 65536) : m_merging_accepts g w = some (inW g w) := by
 unfold m_merging_accepts
 rw [Accepts_eq hv (by omega) (WOk_bit h2 hb hl)]
 rfl
structure FormOk (j : Jn) : Prop where
 ne1 : j.1 ≠ []
 ne2 : j.2 ≠ []
 l1 : j.1.length ≤ 256
 l2 : j.2.length ≤ 256
 n : ∀ w ∈ j.1, w.length = fstLen j.1
 r : ∀ w ∈ j.2, w.length = fstLen j.2
 n1 : 1 ≤ fstLen j.1
 n16 : fstLen j.1 ≤ 16
 r16 : fstLen j.2 ≤ 16
 b1 : ∀ w ∈ j.1, bitW w
 b2 : ∀ w ∈ j.2, bitW w
 d1 : j.1.Nodup
 d2 : j.2.Nodup
theorem unev_iff {l : List (List UInt8)} : unev l = true ↔ ¬ ∀ w ∈ l, w.length = fstLen l := by
 simp [unev]
theorem lett_iff {l : List (List UInt8)} : lett l = true ↔ ¬ ∀ w ∈ l, bitW w := by
 simp [lett, bitW]
theorem rept_iff {l : List (List UInt8)} : rept l = true ↔ ¬ l.Nodup := by
 simp [rept]
theorem formE_zero {j : Jn} (h : formE j = 0) : FormOk j := by
 unfold formE at h
 split at h
 ·cases h
 rename_i h1
 split at h
 ·cases h
 rename_i h2
 split at h
 ·cases h
 rename_i h3
 split at h
 ·cases h
 rename_i h4
 split at h
 ·cases h
 rename_i h5
 split at h
 ·cases h
 rename_i h6
 simp only [unev_iff, lett_iff, rept_iff, not_or, Classical.not_not] at h1 h2 h3 h4 h5 h6
 exact ⟨h1.1, h1.2, by omega, by omega, h3.1, h3.2, by omega, by omega, by omega, h5.1, h5.2, h6.1, h6.2⟩
theorem FormOk.sm {j : Jn} (h : FormOk j) : SmJ j := by
 have := h.l1; have := h.l2; have := h.n16; have := h.r16
 exact ⟨⟨by omega, fun w hw => by rw [h.n w hw]; omega⟩, ⟨by omega, fun w hw => by rw [h.r w hw]; omega⟩⟩
def joinsB (g : Gr) (ms : List (List UInt8)) (a b : List UInt8) : Bool := ms.any fun m => inW g (a ++ m ++ b)
theorem joins1_eq (hv : VG g) (h2 : g.1 = 2) {a m b : List UInt8} (ha : bitW a) (hm : bitW m) (hb : bitW b) (la : a.length ≤ 16) (lm : m.length ≤ 16) (lb : b.length ≤ 16) : m_merging_joins_1 m g a b = some (inW g (a ++ m ++ b)) := by
 unfold m_merging_joins_1
 rw [if_pos (by simp only [maxLen]; omega), if_pos (by simp only [maxLen, List.length_append]; omega), accepts_eq hv h2 (bitW_app.2 ⟨bitW_app.2 ⟨ha, hm⟩, hb⟩) (by simp only [List.length_append]; omega)]
 rfl
theorem joins_eq (hv : VG g) (h2 : g.1 = 2) {j : Jn} (hj : FormOk j) {a b : List UInt8} (ha : a ∈ j.1) (hb : b ∈ j.1) : m_merging_joins g j.2 a b = some (joinsB g j.2 a b) := by
 unfold m_merging_joins
 have := hj.l2
 rw [ContainsFuncS (fun m => inW g (a ++ m ++ b)) (by omega) fun m hm => joins1_eq hv h2 (hj.b1 a ha) (hj.b2 m hm) (hj.b1 b hb) (by rw [hj.n a ha]; exact hj.n16) (by rw [hj.r m hm]; exact hj.r16) (by rw [hj.n b hb]; exact hj.n16)]
 rfl
def badW (g : Gr) (j : Jn) : Bool := j.1.any fun w => !inW g w
def badP (g : Gr) (j : Jn) : Bool := j.1.any fun a => j.1.any fun b => !joinsB g j.2 a b
open Classical in
noncomputable def checkE (j : Jn) (g : Gr) : Int :=
 if ¬ VG g then 1 else if g.1 ≠ 2 then 12 else if formE j ≠ 0 then formE j else if badW g j = true then 13 else if badP g j = true then 15 else 0
theorem Check31_eq {j : Jn} (hs : SmJ j) : m_merging_Check j g = some (checkE j g) := by
 unfold m_merging_Check checkE
 rw [Check_ref]
 obtain ⟨e, he, hv⟩ := Check_tot g
 rw [he]
 simp only [Option.bind_some]
 by_cases h0 : e = 0
 ·have hvg := hv.1 h0
  rw [if_neg (show ¬ (e ≠ 0) from fun h => h h0), if_neg (show ¬ ¬ VG g from fun h => h hvg)]
  by_cases h2 : g.1 = 2
  ·rw [if_neg (show ¬ (g.1 ≠ 2) from fun h => h h2), if_neg (show ¬ (g.1 ≠ 2) from fun h => h h2), form_eq hs]
   simp only [Option.bind_some]
   by_cases hf : formE j = 0
   ·rw [if_neg (show ¬ (formE j ≠ 0) from fun h => h hf), if_neg (show ¬ (formE j ≠ 0) from fun h => h hf)]
    have hj := formE_zero hf
    have h256 := hj.l1
    have hm : j.1.length ≤ 9223372036854775807 := by omega
    rw [ContainsFuncS (fun w => !inW g w) hm fun w hw => by
     unfold m_merging_Check_1
     rw [accepts_eq hvg h2 (hj.b1 w hw) (by rw [hj.n w hw]; have := hj.n16; omega)]
     rfl]
    simp only [Option.bind_some, show (j.1.any fun w => !inW g w) = badW g j from rfl]
    by_cases hw : badW g j = true
    ·rw [if_pos hw, if_pos hw]
    rw [if_neg hw, if_neg hw]
    refine lpE (loop_anyL (fun i => (i : Int)) j.1 (fun a => j.1.any fun b => !joinsB g j.2 a b) (Ou.ret 15) (Ou.go ()) (fun i hi => ?_) (by rw [if_neg (not_lt_int _)]) rfl) ?_
    ·rw [if_pos (lt_int hi), ix hi]
     simp only [Option.bind_some]
     refine lpE (loop_anyL (fun k => (k : Int)) j.1 (fun b => !joinsB g j.2 j.1[i] b) (Ou.ret 15) (Ou.go ()) (fun k hk => ?_) (by rw [if_neg (not_lt_int _)]) rfl) ?_
     ·rw [if_pos (lt_int hk), ix hk]
      simp only [Option.bind_some, joins_eq hvg h2 hj (List.getElem_mem hi) (List.getElem_mem hk), nx hm hk]
     split
     ·rename_i h; simp only [h, if_true, lpO]
     rename_i h; simp only [h, if_false, lpO, nx hm hi, Bool.false_eq_true]
    unfold badP
    split
    ·rename_i h; simp only [lpO, h, if_true]
    rename_i h; simp only [lpO, h, if_false, Bool.false_eq_true]
   rw [if_pos (show formE j ≠ 0 from hf), if_pos (show formE j ≠ 0 from hf)]
  rw [if_pos (show g.1 ≠ 2 from h2), if_pos (show g.1 ≠ 2 from h2)]
 have hvg : ¬ VG g := fun h => h0 (hv.2 h)
 rw [if_pos (show e ≠ 0 from h0), if_pos (show ¬ VG g from hvg)]
structure VJ (j : Jn) (g : Gr) : Prop where
 hv : VG g
 h2 : g.1 = 2
 f : FormOk j
 w : ∀ x ∈ j.1, inW g x = true
 p : ∀ a ∈ j.1, ∀ b ∈ j.1, joinsB g j.2 a b = true
theorem checkE_zero {j : Jn} (h : checkE j g = 0) : VJ j g := by
 unfold checkE at h
 split at h
 ·cases h
 rename_i h1
 split at h
 ·cases h
 rename_i h2
 split at h
 ·rename_i h3; exact absurd h h3
 rename_i h3
 split at h
 ·cases h
 rename_i h4
 split at h
 ·cases h
 rename_i h5
 simp only [Classical.not_not] at h1 h2 h3
 refine ⟨h1, h2, formE_zero h3, fun x hx => ?_, fun a ha b hb => ?_⟩
 ·simp only [badW, List.any_eq_true, not_exists, not_and] at h4
  have := h4 x hx
  simpa using this
 simp only [badP, List.any_eq_true, not_exists, not_and] at h5
 have := h5 a ha b hb
 simpa using this
theorem great_top (a b : Int) (L : Option Bool) : (if 6 < a then (if a ≤ 256 then (if True then some true else L) else (if 8 < b then (if b ≤ 256 then (if True then some true else L) else (if 259 < a then (if True then some true else L) else (if decide (259 < b) = true then some true else L))) else (if 259 < a then (if True then some true else L) else (if decide (259 < b) = true then some true else L))))
  else (if 8 < b then (if b ≤ 256 then (if True then some true else L) else (if 259 < a then (if True then some true else L) else (if decide (259 < b) = true then some true else L))) else (if 259 < a then (if True then some true else L) else (if decide (259 < b) = true then some true else L)))) = if (6 < a ∧ a ≤ 256) ∨ (8 < b ∧ b ≤ 256) ∨ 259 < a ∨ 259 < b then some true else L := by
 by_cases h1 : 6 < a <;> by_cases h2 : a ≤ 256 <;> by_cases h3 : 8 < b <;> by_cases h4 : b ≤ 256 <;> by_cases h5 : 259 < a <;> by_cases h6 : 259 < b <;>
  simp only [h1, h2, h3, h4, h5, h6, if_true, if_false, decide_true, decide_false, true_and, false_and, and_true, and_false, true_or, or_true, or_false, false_or, Bool.false_eq_true, not_false_eq_true, not_true_eq_false]
def bigW (w : List UInt8) : Bool := decide ((8 < w.length ∧ w.length ≤ 16) ∨ 20 < w.length)
theorem great_loop {l : List (List UInt8)} (hm : l.length ≤ 9223372036854775807) : loopW (S := Int) (X := Ou (Unit) (Bool)) (fun a4 =>
        if a4 < ((l).length : Int) then
         jp (fun (a8 : Bool) =>
           if a8 = true then
            some (Stp.exit (Ou.ret true))
           else
            some (Stp.next (IntKind.wrap .i64 (a4 + 1))))
           fun k10 =>
          (idx l a4).bind fun x11 =>
          if 8 < ((x11).length : Int) then
           (idx l a4).bind fun x13 =>
           if ((x13).length : Int) ≤ 16 then
            k10 true
           else
            (idx l a4).bind fun x15 =>
            k10 (decide (20 < ((x15).length : Int)))
          else
           (idx l a4).bind fun x18 =>
           k10 (decide (20 < ((x18).length : Int)))
        else
         some (Stp.exit (Ou.go ()))) 0 = some (if l.any bigW = true then Ou.ret true else Ou.go ()) := by
  refine loop_anyL (fun i => (i : Int)) l bigW (Ou.ret true) (Ou.go ()) (fun i hi => ?_) (by rw [if_neg (not_lt_int _)]) rfl
  rw [if_pos (lt_int hi), ix hi]
  simp only [jp, Option.bind_some, nx hm hi, bigW, decide_eq_true_eq]
  by_cases h1 : 8 < l[i].length
  · rw [if_pos (show (8 : Int) < (l[i].length : Int) by omega)]
    by_cases h2 : l[i].length ≤ 16
    · rw [if_pos (show (l[i].length : Int) ≤ 16 by omega), if_pos trivial, if_pos (.inl ⟨h1, h2⟩)]
    rw [if_neg (show ¬ (l[i].length : Int) ≤ 16 by omega)]
    by_cases h3 : 20 < l[i].length
    · rw [if_pos (show (20 : Int) < (l[i].length : Int) by omega), if_pos (.inr h3)]
    rw [if_neg (show ¬ (20 : Int) < (l[i].length : Int) by omega), if_neg (by omega)]
  rw [if_neg (show ¬ (8 : Int) < (l[i].length : Int) by omega)]
  by_cases h3 : 20 < l[i].length
  · rw [if_pos (show (20 : Int) < (l[i].length : Int) by omega), if_pos (.inr h3)]
  rw [if_neg (show ¬ (20 : Int) < (l[i].length : Int) by omega), if_neg (by omega)]
structure JSize (j : Jn) : Prop where
 sm : SmJ j
 w : j.1.length ≤ 6 ∨ 256 < j.1.length
 m : j.2.length ≤ 8 ∨ 256 < j.2.length
 lw : ∀ w ∈ j.1, w.length ≤ 8 ∨ 16 < w.length
 lm : ∀ w ∈ j.2, w.length ≤ 8 ∨ 16 < w.length
theorem bigW_no {l : List (List UInt8)} (h : ¬ l.any bigW = true) : ∀ w ∈ l, (w.length ≤ 8 ∨ 16 < w.length) ∧ w.length ≤ 20 := by
 intro w hw
 simp only [List.any_eq_true, not_exists, not_and, bigW, decide_eq_true_eq] at h
 have := h w hw
 omega
theorem GreatJ_tot (j : Jn) : ∃ b, m_ref31_Great j = some b ∧ (b = false → JSize j) := by
 unfold m_ref31_Great
 simp only [jp]
 rw [great_top]
 by_cases hc : (6 < (j.1.length : Int) ∧ (j.1.length : Int) ≤ 256) ∨ (8 < (j.2.length : Int) ∧ (j.2.length : Int) ≤ 256) ∨ 259 < (j.1.length : Int) ∨ 259 < (j.2.length : Int)
 ·rw [if_pos hc]
  exact ⟨true, rfl, fun h => by cases h⟩
 rw [if_neg hc]
 have e1 := great_loop (l := j.1) (by omega)
 have e2 := great_loop (l := j.2) (by omega)
 simp only [jp] at e1 e2
 rw [e1, e2]
 by_cases b1 : j.1.any bigW = true
 ·rw [if_pos b1]
  exact ⟨true, rfl, fun h => by cases h⟩
 rw [if_neg b1]
 simp only [lpO]
 by_cases b2 : j.2.any bigW = true
 ·rw [if_pos b2]
  exact ⟨true, rfl, fun h => by cases h⟩
 rw [if_neg b2]
 refine ⟨false, rfl, fun _ => ?_⟩
 have w1 := bigW_no b1
 have w2 := bigW_no b2
 exact ⟨⟨⟨by omega, fun w hw => by have := w1 w hw; omega⟩, ⟨by omega, fun w hw => by have := w2 w hw; omega⟩⟩, by omega, by omega, fun w hw => (w1 w hw).1, fun w hw => (w2 w hw).1⟩
structure VS (j : Jn) (g : Gr) : Prop extends VJ j g where
 w6 : j.1.length ≤ 6
 m8 : j.2.length ≤ 8
 n8 : fstLen j.1 ≤ 8
 r8 : fstLen j.2 ≤ 8
 g8 : g.2.1 ≤ 8
 e30 : g.2.2.length ≤ 30
theorem fst_mem {l : List (List UInt8)} (h : l ≠ []) : l.headD [] ∈ l := by
 cases l with
 | nil => exact absurd rfl h
 | cons a l => exact List.mem_cons_self ..
theorem FormOk.small {j : Jn} (h : FormOk j) (hs : JSize j) : j.1.length ≤ 6 ∧ j.2.length ≤ 8 ∧ fstLen j.1 ≤ 8 ∧ fstLen j.2 ≤ 8 := by
 have := h.l1; have := h.l2; have := h.n16; have := h.r16
 have h1 := hs.w
 have h2 := hs.m
 have h3 := hs.lw _ (fst_mem h.ne1)
 have h4 := hs.lm _ (fst_mem h.ne2)
 rw [hdl] at h3 h4
 omega
end
theorem IndexFuncI {l : List Int} {p : Int → Option Bool} (P : Int → Bool) (hm : l.length ≤ 9223372036854775807) (hp : ∀ x ∈ l, p x = some (P x)) : m_slices_IndexFunc_Lint_int l p = some (firstI l P) := by
 unfold m_slices_IndexFunc_Lint_int
 refine lpE (loop_findL (fun i => (i : Int)) l P (fun i => Ou.ret (i : Int)) (Ou.go ()) (fun i hi => ?_) (by rw [if_neg (not_lt_int _)]) rfl) ?_
 ·rw [if_pos (lt_int hi), ix hi]
  simp only [Option.bind_some, hp _ (List.getElem_mem hi), nx hm hi]
 unfold firstI
 split <;> rfl
theorem ContainsFuncI {l : List Int} {p : Int → Option Bool} (P : Int → Bool) (hm : l.length ≤ 9223372036854775807) (hp : ∀ x ∈ l, p x = some (P x)) : m_slices_ContainsFunc_Lint_int l p = some (l.any P) := by
 unfold m_slices_ContainsFunc_Lint_int
 rw [IndexFuncI P hm hp]
 simp only [Option.bind_some, firstI_nn, Bool.decide_eq_true]
def badI (j : Jn) (n : Int) : Bool := decide (n < 0 ∨ (j.1.length : Int) ≤ n)
noncomputable def inpE (j : Jn) (g : Gr) (l : List Int) : Int := if checkE j g ≠ 0 then 1 else if l.any (badI j) = true then 2 else 0
theorem inputs_eq {j : Jn} {g : Gr} {l : List Int} (hs : SmJ j) (hm : l.length ≤ 9223372036854775807) : m_merging_inputs j g l = some (inpE j g l) := by
 unfold m_merging_inputs inpE
 rw [Check31_eq hs]
 simp only [Option.bind_some]
 by_cases hc : checkE j g = 0
 ·rw [if_neg (show ¬ (checkE j g ≠ 0) from fun h => h hc), if_neg (show ¬ (checkE j g ≠ 0) from fun h => h hc), ContainsFuncI (badI j) hm fun n _ => ?_]
  ·simp only [Option.bind_some]
   split <;> rfl
  unfold m_merging_inputs_1 badI
  simp only [jp]
  by_cases h0 : n < 0
  ·rw [if_pos h0, decide_eq_true (.inl h0)]
  rw [if_neg h0]; congr 1; exact decide_eq_decide.2 (by omega)
 rw [if_pos (show checkE j g ≠ 0 from hc), if_pos (show checkE j g ≠ 0 from hc)]
def wd (j : Jn) (n : Int) : List UInt8 := j.1.getD n.toNat []
theorem badI_no {j : Jn} {n : Int} (h : ¬ badI j n = true) : 0 ≤ n ∧ n.toNat < j.1.length := by
 simp only [badI, decide_eq_true_eq] at h
 omega
theorem wd_idx {j : Jn} {n : Int} (h : 0 ≤ n ∧ n.toNat < j.1.length) : idx j.1 n = some (wd j n) := by
 obtain ⟨k, rfl⟩ := Int.eq_ofNat_of_zero_le h.1
 rw [ix (show k < j.1.length by simpa using h.2)]
 simp [wd, List.getD_eq_getElem?_getD, List.getElem?_eq_getElem (show k < j.1.length by simpa using h.2)]
theorem wd_mem {j : Jn} {n : Int} (h : 0 ≤ n ∧ n.toNat < j.1.length) : wd j n ∈ j.1 := by
 simp only [wd, List.getD_eq_getElem?_getD, List.getElem?_eq_getElem h.2, Option.getD_some]
 exact List.getElem_mem h.2
section
variable {g : Gr}
theorem inp_zero {j : Jn} {l : List Int} (h : inpE j g l = 0) : VJ j g ∧ ∀ n ∈ l, 0 ≤ n ∧ n.toNat < j.1.length := by
 unfold inpE at h
 split at h
 ·cases h
 rename_i h1
 split at h
 ·cases h
 rename_i h2
 refine ⟨checkE_zero (Classical.not_not.1 h1), fun n hn => badI_no fun hb => h2 (List.any_eq_true.2 ⟨n, hn, hb⟩)⟩
theorem word_ok {j : Jn} (hj : FormOk j) {a : List UInt8} (ha : a ∈ j.1) : bitW a ∧ a.length ≤ 16 := ⟨hj.b1 a ha, by rw [hj.n a ha]; exact hj.n16⟩
theorem merge_ok {j : Jn} (hj : FormOk j) {a : List UInt8} (ha : a ∈ j.2) : bitW a ∧ a.length ≤ 16 := ⟨hj.b2 a ha, by rw [hj.r a ha]; exact hj.r16⟩
theorem getD_get {α : Type} {l : List α} {i : Nat} (h : i < l.length) (d : α) : l.getD i d = l[i] := by simp [List.getD_eq_getElem?_getD, List.getElem?_eq_getElem h]
end
open Go.Proofs
abbrev tab35 : TLettersBlockBaseSwaps := (2, 3, bs4, sw4)
theorem enc1 (a : Int) : m_lookahead_Encode_1 a tab35 = some (decide (a < 0 ∨ (4 : Int) ≤ a)) := by
 unfold m_lookahead_Encode_1 jp
 dsimp only
 by_cases h : a < 0
 ·rw [if_pos h]; simp [h]
 rw [if_neg h]
 congr 1
 exact decide_eq_decide.2 ⟨fun h2 => .inr h2, fun h2 => h2.resolve_left h⟩
theorem hcf35 : Pure Tryz.prog 54 [slE eInt [0, 0, 1], HV.fn (.func 55) [] [HV.fptr [.int .i64 2, .int .i64 3, slE eStr bs4, slE swE sw4] 0]] (· = HV.bool false) := by
 have h : m_slices_ContainsFunc_Lint_int [0, 0, 1] (fun b => m_lookahead_Encode_1 b tab35) = some false := by
  rw [ContainsFuncI (fun a => decide (a < 0 ∨ (4 : Int) ≤ a)) (by decide) (fun a _ => enc1 a)]
  decide
 exact w_slices_ContainsFunc_Lint_int h (z1 := [HV.fptr [.int .i64 2, .int .i64 3, slE eStr bs4, slE swE sw4] 0]) (fun _ _ h => w_lookahead_Encode_1 (c0 := tab35) h)
theorem encode35w : Pure Tryz.prog 22 [tabH, slE eInt [0, 0, 1]] (· = .tup [.str [49, 48, 49, 48, 48, 48, 49, 48, 48], .int .i64 0]) := encode35 hcf35
def m_strings_Join (l : List (List UInt8)) (sep : List UInt8) : Option (List UInt8) := if l.length ≤ 1099511627776 ∧ (Lib.join l sep).length ≤ 1099511627776 then some (Lib.join l sep) else none
def m_top_top35Awake : Option Bool := some true
set_option maxHeartbeats 6400000 in
set_option maxRecDepth 100000 in
theorem table35 : Pure Tryz.prog 23 [] (· = tabH) := by
 refine Pure.of_body Tryz.func23 rfl rfl (lb rfl) fun hf => ?_
 clear hf
 unfold Tryz.f23
 dsimp only [enumS, Nat.reduceAdd]
 refine AW.rgs rfl fun K hK => b_op rfl (o_alloc (fid := 23) (zs := [hI 0, hI 0, .v (.slice none 0 0), .v (.slice none 0 0)]) 23000 rfl rfl ty60 rfl (fun v1 => ?_))
 refine bf hK ⟨[(0, .ptr 23000 v1 0)], [(23000, v1, .arr 4 60 [hI 0, hI 0, .v (.slice none 0 0), .v (.slice none 0 0)])]⟩ ?_
 refine AW.rgs rfl fun K hK => b_op rfl (o_bsl rfl rfl (as_of (cs := [.str [49, 48, 49], .str [49, 48, 48], .str [48, 48, 49], .str [48, 49, 48]]) ty22 ty9 rfl rfl rfl rfl rfl) ?_)
 refine b_op rfl (o_build (cs := [hI 0, hI 0, .str [49, 48, 49, 48, 48, 48]]) rfl (bl_of ty107 rfl rfl rfl rfl) ?_)
 refine b_op rfl (o_build (cs := [hI 0, hI 1, .str [49, 48, 48, 48, 48, 48]]) rfl (bl_of ty107 rfl rfl rfl rfl) ?_)
 refine b_op rfl (o_build (cs := [hI 2, hI 0, .str [48, 48, 49, 48, 48, 48]]) rfl (bl_of ty107 rfl rfl rfl rfl) ?_)
 refine b_op rfl (o_build (cs := [hI 2, hI 1, .str [48, 49, 48, 48, 48, 48]]) rfl (bl_of ty107 rfl rfl rfl rfl) ?_)
 refine b_op rfl (o_bsl rfl rfl (as_of (cs := [hI 0, hI 0, .str [49, 48, 49, 48, 48, 48], hI 0, hI 1, .str [49, 48, 48, 48, 48, 48], hI 2, hI 0, .str [48, 48, 49, 48, 48, 48], hI 2, hI 1, .str [48, 49, 48, 48, 48, 48]]) ty58 ty107 rfl rfl rfl rfl rfl) ?_)
 refine b_op rfl (o_build (cs := [hI 2, hI 3, slE eStr ([[49, 48, 49], [49, 48, 48], [48, 48, 49], [48, 49, 48]] : List (List UInt8)), slE eFirstSecondWord ([(0, 0, [49, 48, 49, 48, 48, 48]), (0, 1, [49, 48, 48, 48, 48, 48]), (2, 0, [48, 48, 49, 48, 48, 48]), (2, 1, [48, 49, 48, 48, 48, 48])] : List TFirstSecondWord)]) rfl (bl_of ty60 rfl rfl rfl rfl) ?_)
 refine b_op rfl (o_store (cs := [hI 2, hI 3, slE eStr ([[49, 48, 49], [49, 48, 48], [48, 48, 49], [48, 49, 48]] : List (List UInt8)), slE eFirstSecondWord ([(0, 0, [49, 48, 49, 48, 48, 48]), (0, 1, [49, 48, 48, 48, 48, 48]), (2, 0, [48, 48, 49, 48, 48, 48]), (2, 1, [48, 49, 48, 48, 48, 48])] : List TFirstSecondWord)]) (zs := [hI 2, hI 3, slE eStr ([[49, 48, 49], [49, 48, 48], [48, 48, 49], [48, 49, 48]] : List (List UInt8)), slE eFirstSecondWord ([(0, 0, [49, 48, 49, 48, 48, 48]), (0, 1, [49, 48, 48, 48, 48, 48]), (2, 0, [48, 48, 49, 48, 48, 48]), (2, 1, [48, 49, 48, 48, 48, 48])] : List TFirstSecondWord)]) rfl rfl rfl ty60 rfl rfl rfl rfl rfl ?_)
 let O1 : Nat × Nat × AObj := (23000, v1, .arr 4 60 [hI 2, hI 3, slE eStr ([[49, 48, 49], [49, 48, 48], [48, 48, 49], [48, 49, 48]] : List (List UInt8)), slE eFirstSecondWord ([(0, 0, [49, 48, 49, 48, 48, 48]), (0, 1, [49, 48, 48, 48, 48, 48]), (2, 0, [48, 48, 49, 48, 48, 48]), (2, 1, [48, 49, 48, 48, 48, 48])] : List TFirstSecondWord)])
 refine bf hK ⟨[(0, .ptr 23000 v1 0)], [O1]⟩ ?_
 refine AW.to (to_le (s' := ⟨[(0, .ptr 23000 v1 0)], [O1]⟩) (le_q rfl rfl) ?_)
 refine AW.ret ?_
 exact ret_pure (.inr rfl) (resP ty60 rfl rfl (l_litA rfl (lb rfl) rfl) rfl) rfl ⟨trivial, trivial, (clean_slE fun _ _ => ⟨trivial, trivial⟩), (clean_slE fun _ _ => ⟨trivial, trivial, trivial, trivial⟩), trivial⟩
set_option maxHeartbeats 6400000 in
set_option maxRecDepth 100000 in
theorem anchor35 : Pure Tryz.prog 8 [] (· = .bool true) := by
 refine Pure.of_body Tryz.func8 rfl rfl (lb rfl) fun hf => ?_
 clear hf
 unfold Tryz.f8
 dsimp only [enumS, Nat.reduceAdd]
 refine AW.rgs rfl fun K hK => mv rfl rfl ?_
 refine bf hK ⟨[], []⟩ ?_
 refine AW.rgs rfl fun K hK => b_op rfl (o_call rfl rfl rfl rfl (ACallD.pure0 table35) ?_)
 refine b_op rfl (o_bsl rfl rfl (as_of (cs := [hI 0, hI 0, hI 1]) ty36 ty3 rfl rfl rfl rfl rfl) ?_)
 refine b_op rfl (o_call rfl rfl rfl rfl (ACallD.pure0 encode35w) ?_)
 refine mv rfl rfl (bv rfl (v_extract rfl rfl) (bv rfl (v_extract rfl rfl) (mv rfl rfl (mv rfl rfl ?_))))
 refine bf hK ⟨[(1, .str [49, 48, 49, 48, 48, 48, 49, 48, 48]), (2, hI 0)], []⟩ ?_
 refine AW.rgs rfl fun K hK => b_op rfl (o_bsl rfl rfl (as_of (cs := [.str [48], .str [48, 48, 49]]) ty22 ty9 rfl rfl rfl rfl rfl) ?_)
 refine b_op rfl (o_build (cs := [hI 2, slE eStr ([[48], [48, 48, 49]] : List (List UInt8))]) rfl (bl_of ty65 rfl rfl rfl rfl) ?_)
 refine b_op rfl (o_call rfl rfl rfl rfl (ACallD.pure0 delay35) ?_)
 refine mv rfl rfl (bv rfl (v_extract rfl rfl) (bv rfl (v_extract rfl rfl) (bv rfl (v_extract rfl rfl) (mv rfl rfl (mv rfl rfl ?_)))))
 refine mv rfl rfl ?_
 refine bf hK ⟨[(1, .str [49, 48, 49, 48, 48, 48, 49, 48, 48]), (2, hI 0), (3, hI 2), (4, .bool true), (5, hI 0)], []⟩ ?_
 refine AW.rgs rfl fun K hK => mv rfl rfl (bv rfl (v_bin rfl rfl b_eql) (mv rfl rfl ?_))
 refine b_T rfl rfl rfl rfl rfl (o_val rfl (mv_val rfl rfl).2 ?_)
 refine b_T rfl rfl rfl rfl rfl (o_val rfl (v_bin rfl rfl b_eql) ?_)
 refine bv rfl (v_pickT rfl rfl rfl) (mv rfl rfl ?_)
 refine b_T rfl rfl rfl rfl rfl (o_val rfl (mv_val rfl rfl).2 ?_)
 refine b_T rfl rfl rfl rfl rfl (o_val rfl (v_bin rfl rfl b_seql) ?_)
 refine bv rfl (v_pickT rfl rfl rfl) (mv rfl rfl ?_)
 refine b_T rfl rfl rfl rfl rfl (o_val rfl (mv_val rfl rfl).2 ?_)
 refine b_T rfl rfl rfl rfl rfl (o_val rfl (v_bin rfl rfl b_eql) ?_)
 refine bv rfl (v_pickT rfl rfl rfl) (mv rfl rfl ?_)
 refine b_T rfl rfl rfl rfl rfl (o_val rfl (mv_val rfl rfl).2 ?_)
 refine bv rfl (v_pickT rfl rfl rfl) (mv rfl rfl ?_)
 refine bf hK ⟨[(0, .bool true)], []⟩ ?_
 refine AW.ret ?_
 exact ret_pure (.inr rfl) (resT rfl rfl) rfl trivial
theorem w_top_top35Awake {r : Bool} (h : m_top_top35Awake = some r) : Pure Tryz.prog 8 [] (· = HV.bool r) := by
 unfold m_top_top35Awake at h
 cases h
 exact anchor35
end Go.AW
namespace Go.Proofs
open Go
def Tryz.count_ren : Go.Shelf.Ren := ⟨fun | 138 => 45 | 195 => 76 | 218 => 77 | 143 => 78 | 219 => 105 | 217 => 96 | 225 => 119 | 224 => 120 | 267 => 121 | 266 => 113 | 314 => 146 | n => n, fun | 9 => 9 | 3 => 3 | 4 => 4 | 5 => 5 | 0 => 0 | 46 => 154 | 146 => 169 | 51 => 168 | n => n, fun | 1 => 0 | n => n⟩
theorem Tryz.count : Go.Proofs.Lays.n138 Tryz.prog Tryz.count_ren where
 mixed := by kernel_rfl
 f138 := Tryz.func45.trans (congrArg some (by kernel_rfl))
 f143 := Tryz.func78.trans (congrArg some (by kernel_rfl))
 f195 := Tryz.func76.trans (congrArg some (by kernel_rfl))
 f217 := Tryz.func96.trans (congrArg some (by kernel_rfl))
 f218 := Tryz.func77.trans (congrArg some (by kernel_rfl))
 f219 := Tryz.func105.trans (congrArg some (by kernel_rfl))
 f224 := Tryz.func120.trans (congrArg some (by kernel_rfl))
 f225 := Tryz.func119.trans (congrArg some (by kernel_rfl))
 f266 := Tryz.func113.trans (congrArg some (by kernel_rfl))
 f267 := Tryz.func121.trans (congrArg some (by kernel_rfl))
 f314 := Tryz.func146.trans (congrArg some (by kernel_rfl))
 t0 := Tryz.underlying0
 a0 := Tryz.isAgg0
 z0 := Tryz.sizeOf0
 v0 := Tryz.zeroValue0
 t3 := Tryz.underlying3
 a3 := Tryz.isAgg3
 z3 := Tryz.sizeOf3
 v3 := Tryz.zeroValue3
 t4 := Tryz.underlying4
 a4 := Tryz.isAgg4
 z4 := Tryz.sizeOf4
 v4 := Tryz.zeroValue4
 t5 := Tryz.underlying5
 a5 := Tryz.isAgg5
 z5 := Tryz.sizeOf5
 v5 := Tryz.zeroValue5
 t9 := Tryz.underlying9
 a9 := Tryz.isAgg9
 z9 := Tryz.sizeOf9
 v9 := Tryz.zeroValue9
 t46 := Tryz.underlying154
 a46 := Tryz.isAgg154
 z46 := Tryz.sizeOf154
 v46 := Tryz.zeroValue154
 t51 := Tryz.underlying168
 a51 := Tryz.isAgg168
 z51 := Tryz.sizeOf168
 v51 := Tryz.zeroValue168
 t146 := Tryz.underlying169
 a146 := Tryz.isAgg169
 z146 := Tryz.sizeOf169
 v146 := Tryz.zeroValue169
 g1 := by kernel_rfl
end Go.Proofs
namespace Go.AW
open Go Go.Proofs
theorem countB_le (l : List UInt8) (c : UInt8) : Lib.countByte l c ≤ l.length := List.count_le_length
theorem countB_wf (l : List UInt8) (c : UInt8) (hl : l.length ≤ maxLen) : (Lit.int .i64 ((Lib.countByte l c : Nat) : Int)).wf = true := by
 have := countB_le l c
 simp only [maxLen] at hl
 simp only [Lit.wf, IntKind.min, IntKind.max, IntKind.signed, IntKind.bits, Bool.and_eq_true, decide_eq_true_eq]
 simp
 omega
theorem w_strings_Count {a0 a1 : List UInt8} {r : Int} (h : m_strings_Count a0 a1 = some r) : Pure Tryz.prog 45 [HV.str a0, HV.str a1] (· = HV.int .i64 r) := by
 unfold m_strings_Count at h
 split at h
 ·rename_i c
  cases h
  refine ⟨enters' Tryz.func45 rfl rfl, fun μ w vs hs hr _ => ?_⟩
  obtain ⟨x, xs, rfl, ⟨rfl, hl⟩, y, ys, rfl, ⟨rfl, _⟩, hn⟩ := hr
  cases hn
  refine (Any.strings_Count_one Tryz.count ⟨a0.toArray⟩ c w).mono ?_
  rintro e w' ⟨rfl, rfl⟩
  exact ⟨_, _, [], μ, rfl, ⟨rfl, trivial, rfl⟩, hs, ⟨by simp, countB_wf a0 c hl⟩, Evo.refl _ _⟩
 cases h
end Go.AW
namespace Go.Proofs
open Go
def Tryz.strJoin_ren : Go.Shelf.Ren := ⟨fun | 156 => 11 | 165 => 35 | 166 => 27 | 169 => 32 | 240 => 61 | 241 => 64 | 276 => 91 | 277 => 97 | n => n, fun | 31 => 22 | 9 => 9 | 3 => 3 | 4 => 4 | 0 => 0 | 20 => 20 | 72 => 69 | 76 => 72 | 70 => 67 | 37 => 28 | 75 => 71 | 127 => 120 | 164 => 142 | 5 => 5 | 80 => 80 | n => n, fun | n => n⟩
theorem Tryz.strJoin : Go.Proofs.Lays.n156 Tryz.prog Tryz.strJoin_ren where
 mixed := by kernel_rfl
 f156 := Tryz.func11.trans (congrArg some (by kernel_rfl))
 f165 := Tryz.func35.trans (congrArg some (by kernel_rfl))
 f166 := Tryz.func27.trans (congrArg some (by kernel_rfl))
 f169 := Tryz.func32.trans (congrArg some (by kernel_rfl))
 f240 := Tryz.func61.trans (congrArg some (by kernel_rfl))
 f241 := Tryz.func64.trans (congrArg some (by kernel_rfl))
 f276 := Tryz.func91.trans (congrArg some (by kernel_rfl))
 f277 := Tryz.func97.trans (congrArg some (by kernel_rfl))
 t0 := Tryz.underlying0
 a0 := Tryz.isAgg0
 z0 := Tryz.sizeOf0
 v0 := Tryz.zeroValue0
 t3 := Tryz.underlying3
 a3 := Tryz.isAgg3
 z3 := Tryz.sizeOf3
 v3 := Tryz.zeroValue3
 t4 := Tryz.underlying4
 a4 := Tryz.isAgg4
 z4 := Tryz.sizeOf4
 v4 := Tryz.zeroValue4
 t9 := Tryz.underlying9
 a9 := Tryz.isAgg9
 z9 := Tryz.sizeOf9
 v9 := Tryz.zeroValue9
 t20 := Tryz.underlying20
 a20 := Tryz.isAgg20
 z20 := Tryz.sizeOf20
 v20 := Tryz.zeroValue20
 t31 := Tryz.underlying22
 a31 := Tryz.isAgg22
 z31 := Tryz.sizeOf22
 v31 := Tryz.zeroValue22
 t37 := Tryz.underlying28
 a37 := Tryz.isAgg28
 z37 := Tryz.sizeOf28
 v37 := Tryz.zeroValue28
 t70 := Tryz.underlying67
 a70 := Tryz.isAgg67
 z70 := Tryz.sizeOf67
 v70 := Tryz.zeroValue67
 t72 := Tryz.underlying69
 a72 := Tryz.isAgg69
 z72 := Tryz.sizeOf69
 v72 := Tryz.zeroValue69
 t75 := Tryz.underlying71
 a75 := Tryz.isAgg71
 z75 := Tryz.sizeOf71
 v75 := Tryz.zeroValue71
 t76 := Tryz.underlying72
 a76 := Tryz.isAgg72
 z76 := Tryz.sizeOf72
 v76 := Tryz.zeroValue72
 t127 := Tryz.underlying120
 a127 := Tryz.isAgg120
 z127 := Tryz.sizeOf120
 v127 := Tryz.zeroValue120
 t164 := Tryz.underlying142
 a164 := Tryz.isAgg142
 z164 := Tryz.sizeOf142
 v164 := Tryz.zeroValue142
end Go.Proofs
namespace Go.Proofs
open Go
theorem Tryz.joinX : Go.Proofs.Builder.Extra Tryz.prog Tryz.strJoin_ren where
 sizeBuilder := by kernel_rfl
 liesBuilder := by kernel_rfl
 t5 := Tryz.underlying5
 a5 := Tryz.isAgg5
 z5 := Tryz.sizeOf5
 v5 := Tryz.zeroValue5
 infoByte := by kernel_rfl
 cellsByte := by kernel_rfl
 sizeByte := by kernel_rfl
 neB5 := by decide
end Go.Proofs
namespace Go.AW
open Go Go.Proofs Go.Lib Go.RowKit
def encSJ (l : List UInt8) : Value := .string ⟨l.toArray⟩
theorem repL_strsJ {w : World} {μ : Mu} : ∀ {l : List (List UInt8)} {vs : List Value}, RepL w μ (l.map .str) vs → vs = l.map encSJ
 | [], vs, h => by simp only [List.map_nil, RepL] at h; subst h; rfl
 | a :: l, vs, ⟨x, xs, e, h1, h2⟩ => by
  have h3 := repL_strsJ h2
  obtain ⟨rfl, hl⟩ := h1
  subst e
  rw [h3]
  rfl
def encBA (l : List UInt8) : ByteArray := ⟨l.toArray⟩
theorem w_strings_Join {l : List (List UInt8)} {s r : List UInt8} (h : m_strings_Join l s = some r) : Pure Tryz.prog 11 [slE eStr l, HV.str s] (· = HV.str r) := by
 unfold m_strings_Join at h
 split at h
 ·rename_i hc
  obtain ⟨h1, h2⟩ := hc
  cases h
  refine ⟨enters' Tryz.func11 rfl rfl, fun μ w vs hs hr _ => ?_⟩
  obtain ⟨x, xs, rfl, hr, y, ys, rfl, ⟨rfl, hl⟩, hn⟩ := hr
  cases hn
  have done : ∀ e w', e = .returned (.string ⟨(Lib.join l s).toArray⟩) ∧ Below w.heap.size w w' → CallPost (fun r H' => r = HV.str (Lib.join l s) ∧ clean r ∧ H' = []) w μ e w' := by
   rintro e w' ⟨rfl, hbel⟩
   have hg : Grow w w' := ⟨⟨hbel.os, hbel.tape, hbel.output⟩, hbel.size, hbel.block⟩
   refine ⟨_, .str (Lib.join l s), [], μ, rfl, ⟨rfl, trivial, rfl⟩, hs.grow hg, ⟨rfl, ?_⟩, Evo.grow hs hg⟩
   simp only [maxLen]
   omega
  obtain ⟨_, _, hm, ⟨h0, a, rfl⟩ | ⟨b, off, cap, us, rfl, hcap, hno, hsg, hrl⟩⟩ := hr
  ·have h0 := List.eq_nil_of_length_eq_zero h0
   subst h0
   refine (Any.strings_Join_none Tryz.strJoin Tryz.joinX a 0 ⟨s.toArray⟩ w).mono fun e w' ⟨he, hw⟩ => done e w' ⟨by rw [he]; rfl, hw ▸ Below.refl _ _⟩
  have hvs := repL_strsJ hrl
  subst hvs
  have hbk : b < w.heap.size := by
   obtain ⟨cur, e, fr, pre, post, hb, _⟩ := hsg
   exact (Array.getElem?_eq_some_iff.1 hb).1
  have hmap : (l.map encBA).map (·.data.toList) = l := by
   rw [List.map_map]
   exact (List.map_congr_left fun x _ => by simp [encBA]).trans (List.map_id l)
  have hk := Any.strings_Join Tryz.strJoin Tryz.joinX b off cap (l.map encBA) ⟨s.toArray⟩ w (fun j x hj => by
   rw [List.getElem?_map] at hj
   obtain ⟨y, hy, rfl⟩ := Option.map_eq_some_iff.1 hj
   exact hsg.cell (by rw [List.getElem?_map, hy]; rfl)) hbk (by simp; omega) (by simpa using hcap) (by rw [hmap]; simpa using (show (Lib.join l s).length ≤ 140737488355328 by omega))
  rw [hmap, List.length_map] at hk
  simp only [List.toList_toArray] at hk
  exact hk.mono fun e w' h => done e w' h
 cases h
end Go.AW
namespace Go.AW
open Go
set_option linter.unusedVariables false
noncomputable def m_top_TopMergingSame (p0 : TWordsMerges) (p1 : TLabelsStatesEdges) (p2 : List (Int)) : Option (Bool) :=
 jp (fun (a1 : Bool) =>
   if a1 = true then
    (m_top_top35Awake).bind fun x4 =>
    some x4
   else
    if 0 ≤ (0 : Int) ∧ (0 : Int) ≤ min ((p2).length : Int) 8 ∧ min ((p2).length : Int) 8 ≤ (p2.length : Int) then
     (loopW (S := Int × (List Int)) (X := (List Int)) (fun a8 =>
         if a8.1 < (((p2.take (min ((p2).length : Int) 8).toNat).drop (0 : Int).toNat).length : Int) then
          (idx ((p2.take (min ((p2).length : Int) 8).toNat).drop (0 : Int).toNat) a8.1).bind fun x12 =>
          if ((p0.1).length : Int) ≠ 0 then
           if fits 8 ((a8.2 : List Int).length + ([Int.tmod (IntKind.wrap .i64 x12) ((p0.1).length : Int)]).length) then
            some (Stp.next (IntKind.wrap .i64 (a8.1 + 1), a8.2 ++ [Int.tmod (IntKind.wrap .i64 x12) ((p0.1).length : Int)]))
           else none
          else none
         else
          some (Stp.exit a8.2)) (0, ([] : List Int))).bind fun a18 =>
     if 0 ≤ (0 : Int) ∧ (0 : Int) ≤ 1 ∧ 1 ≤ (p0.2.length : Int) then
      (m_merging_Encode (p0.1, (p0.2.take (1 : Int).toNat).drop (0 : Int).toNat) (2, 1, [(0, 0, 0), (0, 1, 0)]) a18).bind fun x21 =>
      (loopW (S := Int × (List (List UInt8))) (X := (List (List UInt8))) (fun a23 =>
          if a23.1 < (((a18).length : Nat) : Int) then
           (idx a18 a23.1).bind fun x27 =>
           (idx a18 a23.1).bind fun x29 =>
           (idx p0.1 x29).bind fun x31 =>
           if fits 16 ((a23.2 : List (List UInt8)).length + ([x31]).length) then
            some (Stp.next (IntKind.wrap .i64 (a23.1 + 1), a23.2 ++ [x31]))
           else none
          else
           some (Stp.exit a23.2)) (0, ([] : List (List UInt8)))).bind fun a36 =>
      (m_merging_Encode p0 (2, 1, [(0, 0, 0), (0, 1, 0)]) a18).bind fun x38 =>
      (m_merging_Decode p0 x38.1).bind fun x40 =>
      jp (fun (a42 : Bool) =>
        some a42)
        fun k44 =>
       (m_merging_Check p0 (2, 1, [(0, 0, 0), (0, 1, 0)])).bind fun x45 =>
       if x45 = 0 then
        if (max (max x21.2 x38.2) x40.2) = 0 then
         (idx p0.2 0).bind fun x47 =>
         (m_strings_Join a36 x47).bind fun x49 =>
         if x21.1 = x49 then
          (m_slices_Equal_Lint_int x40.1 a18).bind fun x51 =>
          if x51 = true then
           (m_top_top35Awake).bind fun x53 =>
           k44 x53
          else
           k44 false
         else
          k44 false
        else
         k44 false
       else
        k44 false
     else none
    else none)
   fun k3 =>
  (m_ref31_Great p0).bind fun x59 =>
  if x59 = true then
   k3 true
  else
   (m_ref11_Great p1).bind fun x61 =>
   if x61 = true then
    k3 true
   else
    (m_merging_Check p0 p1).bind fun x63 =>
    if x63 ≠ 0 then
     k3 true
    else
     if ((p0.1).length : Int) = 0 then
      k3 true
     else
      k3 (decide (((p0.2).length : Int) = 0))
open Go.Proofs
set_option maxHeartbeats 1600000
set_option maxRecDepth 100000
theorem w_ref31_Great {p0 : TWordsMerges} {r : Bool} (h : m_ref31_Great p0 = some r) : Pure Tryz.prog 5 [jA p0] (· = HV.bool r) := by
 unfold m_ref31_Great at h
 refine Pure.of_body Tryz.func5 rfl rfl (lb rfl) fun hf => ?_
 unfold Tryz.f5
 dsimp only [enumS, Nat.reduceAdd]
 refine AW.rgs rfl fun K hK => b_op rfl (o_box rfl rfl rfl ?_)
 refine mv rfl rfl ?_
 let P1 : ASf := fun t H => ⟨(1, jF p0) :: t, H⟩
 refine bf hK (P1 [] []) ?_
 refine AW.seq ?_
 refine AW.seqJ h (S := Bool) (V := Unit) (fun a v => (P1 [(38, .bool a)] [])) (fun a1 w2 h => ?_) (fun k3 h => ?_)
 ·refine AW.cond rfl (fun hc => ?_) (fun hc => ?_)
  ·have h := ifT hc h
   refine AW.rgs rfl fun K hK => mv rfl rfl ?_
   refine bf hK ⟨[(2, .bool true)], []⟩ ?_
   obtain rfl := oi h
   exact AW.ret (ret_pure (.inr rfl) (resT rfl rfl) rfl trivial)
  have h := ifF (bF' hc) h
  refine AW.skip ?_
  refine AW.seq ?_
  refine AW.rgs rfl fun K hK => mv rfl rfl ?_
  refine bf hK (P1 [(3, hI 0)] []) ?_
  refine AW.lpR h (by first | exact up_then | exact up_to) (S := Int) (V := Unit) (fun a v => (P1 [(3, hI a)] [])) ?_ (X := Unit) (W := Unit) (fun a v => (P1 [] [])) (fun a21 w22 h => ?_) (fun a4 w5 st6 h hr7=> ?_)
  ·exact to_L ⟨(), rfl⟩
  ·refine AW.seq ?_
   refine AW.rgs rfl fun K hK => mv rfl rfl ?_
   refine bf hK (P1 [(4, hI 0)] []) ?_
   refine AW.lpR h (by first | exact up_then | exact up_to) (S := Int) (V := Unit) (fun a v => (P1 [(4, hI a)] [])) ?_ (X := Unit) (W := Unit) (fun a v => ⟨[], []⟩) (fun a40 w41 h => ?_) (fun a23 w24 st25 h hr26=> ?_)
   ·exact to_L ⟨(), rfl⟩
   ·refine AW.rgs rfl fun K hK => mv rfl rfl ?_
    refine bf hK ⟨[(2, .bool false)], []⟩ ?_
    obtain rfl := oi h
    exact AW.ret (ret_pure (.inr rfl) (resT rfl rfl) rfl trivial)
   refine AW.seq ?_
   refine AW.rgs rfl fun K hK => mv rfl rfl (bv rfl (v_fieldAddrF fo24_1 rfl) (bv rfl (v_loadF ty22 rfl (l_lit rfl rfl)) (bv rfl (v_lenF rfl rfl ty22 rfl) (bv rfl (v_bin rfl rfl b_lss) ?_))))
   refine bf hK (P1 [(4, hI a23), (75, .bool (decide (a23 < ((p0.2).length : Int))))] []) ?_
   refine AW.cond rfl (fun hc => ?_) (fun hc => ?_)
   ·obtain ⟨hc, h⟩ := cT hc h
    refine AW.skip ?_
    refine AW.seq (AW.block ?_)
    refine AW.seqJ h (S := Bool) (V := Unit) (fun a v => (P1 [(4, hI a23), (102, .bool a)] [])) (fun a27 w28 h => ?_) (fun k29 h => ?_)
    ·refine AW.cond rfl (fun hc => ?_) (fun hc => ?_)
     ·have h := ifT hc h
      refine AW.rgs rfl fun K hK => mv rfl rfl ?_
      refine bf hK ⟨[(2, .bool true)], []⟩ ?_
      have h := hr26 _ h
      obtain rfl := oi h
      exact AW.ret (ret_pure (.inr rfl) (resT rfl rfl) rfl trivial)
     have h := ifF (bF' hc) h
     refine AW.skip ?_
     refine AW.rg rfl fun K hK => mv rfl rfl (bv rfl (v_bin rfl rfl b_add) (mv rfl rfl ?_))
     refine b_nil (hK _ ?_)
     exact to_L ⟨IntKind.wrap .i64 (a23 + 1), (), h, rfl⟩
    refine AW.rg rfl fun K hK => bv rfl (v_fieldAddrF fo24_1 rfl) (bv rfl (v_loadF ty22 rfl (l_lit rfl rfl)) (mv rfl rfl ?_))
    obtain ⟨x30, h31, h⟩ := bS h
    refine bv rfl (v_idxF ty22 es22 rfl rfl (idx_lt h31)) (bv rfl (v_loadF ty9 rfl (l_cell eStr h31 (o := 0) rfl rfl)) (bv rfl (v_lenS rfl rfl ty9 rfl) (bv rfl (v_bin rfl rfl b_gtr) (mv rfl rfl ?_))))
    by_cases hg39 : 8 < ((x30).length : Int)
    ·have h := ifT hg39 h
     refine b_T rfl rfl rfl rfl (decide_eq_true hg39) (o_val rfl (v_fieldAddrF fo24_1 rfl) ?_)
     refine b_T rfl rfl rfl rfl rfl (o_val rfl (v_loadF ty22 rfl (l_lit rfl rfl)) ?_)
     refine b_T rfl rfl rfl rfl rfl (o_val rfl (mv_val rfl rfl).2 ?_)
     obtain ⟨x32, h33, h⟩ := bS h
     refine b_T rfl rfl rfl rfl rfl (o_val rfl (v_idxF ty22 es22 rfl rfl (idx_lt h33)) ?_)
     refine b_T rfl rfl rfl rfl rfl (o_val rfl (v_loadF ty9 rfl (l_cell eStr h33 (o := 0) rfl rfl)) ?_)
     refine b_T rfl rfl rfl rfl rfl (o_val rfl (v_lenS rfl rfl ty9 rfl) ?_)
     refine b_T rfl rfl rfl rfl rfl (o_val rfl (v_bin rfl rfl b_leq) ?_)
     refine bv rfl (v_pickT rfl rfl rfl) (mv rfl rfl ?_)
     by_cases hg36 : ((x32).length : Int) ≤ 16
     ·have h := ifT hg36 h
      refine b_F rfl rfl rfl rfl rfl (decide_eq_true hg36) ?_
      iterate 6 refine b_F rfl rfl rfl rfl rfl rfl ?_
      refine bv rfl (v_pickT rfl rfl rfl) ?_
      refine b_nil (hK _ ?_)
      exact to_L ⟨true, (), h, rfl⟩
     have h := ifF hg36 h
     refine b_T rfl rfl rfl rfl (decide_eq_false hg36) (o_val rfl (v_fieldAddrF fo24_1 rfl) ?_)
     refine b_T rfl rfl rfl rfl rfl (o_val rfl (v_loadF ty22 rfl (l_lit rfl rfl)) ?_)
     refine b_T rfl rfl rfl rfl rfl (o_val rfl (mv_val rfl rfl).2 ?_)
     obtain ⟨x34, h35, h⟩ := bS h
     refine b_T rfl rfl rfl rfl rfl (o_val rfl (v_idxF ty22 es22 rfl rfl (idx_lt h35)) ?_)
     refine b_T rfl rfl rfl rfl rfl (o_val rfl (v_loadF ty9 rfl (l_cell eStr h35 (o := 0) rfl rfl)) ?_)
     refine b_T rfl rfl rfl rfl rfl (o_val rfl (v_lenS rfl rfl ty9 rfl) ?_)
     refine b_T rfl rfl rfl rfl rfl (o_val rfl (v_bin rfl rfl b_gtr) ?_)
     refine bv rfl (v_pickF rfl rfl rfl) ?_
     refine b_nil (hK _ ?_)
     exact to_L ⟨decide (20 < ((x34).length : Int)), (), h, rfl⟩
    have h := ifF hg39 h
    refine b_F rfl rfl rfl rfl rfl (decide_eq_false hg39) ?_
    iterate 6 refine b_F rfl rfl rfl rfl rfl rfl ?_
    refine bv rfl (v_pickF rfl rfl rfl) (mv rfl rfl ?_)
    refine b_T rfl rfl rfl rfl rfl (o_val rfl (v_fieldAddrF fo24_1 rfl) ?_)
    refine b_T rfl rfl rfl rfl rfl (o_val rfl (v_loadF ty22 rfl (l_lit rfl rfl)) ?_)
    refine b_T rfl rfl rfl rfl rfl (o_val rfl (mv_val rfl rfl).2 ?_)
    obtain ⟨x37, h38, h⟩ := bS h
    refine b_T rfl rfl rfl rfl rfl (o_val rfl (v_idxF ty22 es22 rfl rfl (idx_lt h38)) ?_)
    refine b_T rfl rfl rfl rfl rfl (o_val rfl (v_loadF ty9 rfl (l_cell eStr h38 (o := 0) rfl rfl)) ?_)
    refine b_T rfl rfl rfl rfl rfl (o_val rfl (v_lenS rfl rfl ty9 rfl) ?_)
    refine b_T rfl rfl rfl rfl rfl (o_val rfl (v_bin rfl rfl b_gtr) ?_)
    refine bv rfl (v_pickF rfl rfl rfl) ?_
    refine b_nil (hK _ ?_)
    exact to_L ⟨decide (20 < ((x37).length : Int)), (), h, rfl⟩
   obtain ⟨hc, h⟩ := cF hc h
   refine AW.exit ?_
   exact to_L ⟨(), (), h, rfl⟩
  refine AW.seq ?_
  refine AW.rgs rfl fun K hK => mv rfl rfl (bv rfl (v_fieldAddrF fo24_0 rfl) (bv rfl (v_loadF ty22 rfl (l_lit rfl rfl)) (bv rfl (v_lenF rfl rfl ty22 rfl) (bv rfl (v_bin rfl rfl b_lss) ?_))))
  refine bf hK (P1 [(3, hI a4), (43, .bool (decide (a4 < ((p0.1).length : Int))))] []) ?_
  refine AW.cond rfl (fun hc => ?_) (fun hc => ?_)
  ·obtain ⟨hc, h⟩ := cT hc h
   refine AW.skip ?_
   refine AW.seq (AW.block ?_)
   refine AW.seqJ h (S := Bool) (V := Unit) (fun a v => (P1 [(3, hI a4), (70, .bool a)] [])) (fun a8 w9 h => ?_) (fun k10 h => ?_)
   ·refine AW.cond rfl (fun hc => ?_) (fun hc => ?_)
    ·have h := ifT hc h
     refine AW.rgs rfl fun K hK => mv rfl rfl ?_
     refine bf hK ⟨[(2, .bool true)], []⟩ ?_
     have h := hr7 _ h
     obtain rfl := oi h
     exact AW.ret (ret_pure (.inr rfl) (resT rfl rfl) rfl trivial)
    have h := ifF (bF' hc) h
    refine AW.skip ?_
    refine AW.rg rfl fun K hK => mv rfl rfl (bv rfl (v_bin rfl rfl b_add) (mv rfl rfl ?_))
    refine b_nil (hK _ ?_)
    exact to_L ⟨IntKind.wrap .i64 (a4 + 1), (), h, rfl⟩
   refine AW.rg rfl fun K hK => bv rfl (v_fieldAddrF fo24_0 rfl) (bv rfl (v_loadF ty22 rfl (l_lit rfl rfl)) (mv rfl rfl ?_))
   obtain ⟨x11, h12, h⟩ := bS h
   refine bv rfl (v_idxF ty22 es22 rfl rfl (idx_lt h12)) (bv rfl (v_loadF ty9 rfl (l_cell eStr h12 (o := 0) rfl rfl)) (bv rfl (v_lenS rfl rfl ty9 rfl) (bv rfl (v_bin rfl rfl b_gtr) (mv rfl rfl ?_))))
   by_cases hg20 : 8 < ((x11).length : Int)
   ·have h := ifT hg20 h
    refine b_T rfl rfl rfl rfl (decide_eq_true hg20) (o_val rfl (v_fieldAddrF fo24_0 rfl) ?_)
    refine b_T rfl rfl rfl rfl rfl (o_val rfl (v_loadF ty22 rfl (l_lit rfl rfl)) ?_)
    refine b_T rfl rfl rfl rfl rfl (o_val rfl (mv_val rfl rfl).2 ?_)
    obtain ⟨x13, h14, h⟩ := bS h
    refine b_T rfl rfl rfl rfl rfl (o_val rfl (v_idxF ty22 es22 rfl rfl (idx_lt h14)) ?_)
    refine b_T rfl rfl rfl rfl rfl (o_val rfl (v_loadF ty9 rfl (l_cell eStr h14 (o := 0) rfl rfl)) ?_)
    refine b_T rfl rfl rfl rfl rfl (o_val rfl (v_lenS rfl rfl ty9 rfl) ?_)
    refine b_T rfl rfl rfl rfl rfl (o_val rfl (v_bin rfl rfl b_leq) ?_)
    refine bv rfl (v_pickT rfl rfl rfl) (mv rfl rfl ?_)
    by_cases hg17 : ((x13).length : Int) ≤ 16
    ·have h := ifT hg17 h
     refine b_F rfl rfl rfl rfl rfl (decide_eq_true hg17) ?_
     iterate 6 refine b_F rfl rfl rfl rfl rfl rfl ?_
     refine bv rfl (v_pickT rfl rfl rfl) ?_
     refine b_nil (hK _ ?_)
     exact to_L ⟨true, (), h, rfl⟩
    have h := ifF hg17 h
    refine b_T rfl rfl rfl rfl (decide_eq_false hg17) (o_val rfl (v_fieldAddrF fo24_0 rfl) ?_)
    refine b_T rfl rfl rfl rfl rfl (o_val rfl (v_loadF ty22 rfl (l_lit rfl rfl)) ?_)
    refine b_T rfl rfl rfl rfl rfl (o_val rfl (mv_val rfl rfl).2 ?_)
    obtain ⟨x15, h16, h⟩ := bS h
    refine b_T rfl rfl rfl rfl rfl (o_val rfl (v_idxF ty22 es22 rfl rfl (idx_lt h16)) ?_)
    refine b_T rfl rfl rfl rfl rfl (o_val rfl (v_loadF ty9 rfl (l_cell eStr h16 (o := 0) rfl rfl)) ?_)
    refine b_T rfl rfl rfl rfl rfl (o_val rfl (v_lenS rfl rfl ty9 rfl) ?_)
    refine b_T rfl rfl rfl rfl rfl (o_val rfl (v_bin rfl rfl b_gtr) ?_)
    refine bv rfl (v_pickF rfl rfl rfl) ?_
    refine b_nil (hK _ ?_)
    exact to_L ⟨decide (20 < ((x15).length : Int)), (), h, rfl⟩
   have h := ifF hg20 h
   refine b_F rfl rfl rfl rfl rfl (decide_eq_false hg20) ?_
   iterate 6 refine b_F rfl rfl rfl rfl rfl rfl ?_
   refine bv rfl (v_pickF rfl rfl rfl) (mv rfl rfl ?_)
   refine b_T rfl rfl rfl rfl rfl (o_val rfl (v_fieldAddrF fo24_0 rfl) ?_)
   refine b_T rfl rfl rfl rfl rfl (o_val rfl (v_loadF ty22 rfl (l_lit rfl rfl)) ?_)
   refine b_T rfl rfl rfl rfl rfl (o_val rfl (mv_val rfl rfl).2 ?_)
   obtain ⟨x18, h19, h⟩ := bS h
   refine b_T rfl rfl rfl rfl rfl (o_val rfl (v_idxF ty22 es22 rfl rfl (idx_lt h19)) ?_)
   refine b_T rfl rfl rfl rfl rfl (o_val rfl (v_loadF ty9 rfl (l_cell eStr h19 (o := 0) rfl rfl)) ?_)
   refine b_T rfl rfl rfl rfl rfl (o_val rfl (v_lenS rfl rfl ty9 rfl) ?_)
   refine b_T rfl rfl rfl rfl rfl (o_val rfl (v_bin rfl rfl b_gtr) ?_)
   refine bv rfl (v_pickF rfl rfl rfl) ?_
   refine b_nil (hK _ ?_)
   exact to_L ⟨decide (20 < ((x18).length : Int)), (), h, rfl⟩
  obtain ⟨hc, h⟩ := cF hc h
  refine AW.exit ?_
  exact to_L ⟨(), (), h, rfl⟩
 refine AW.rg rfl fun K hK => bv rfl (v_fieldAddrF fo24_0 rfl) (bv rfl (v_loadF ty22 rfl (l_lit rfl rfl)) (bv rfl (v_lenF rfl rfl ty22 rfl) (bv rfl (v_bin rfl rfl b_gtr) (mv rfl rfl ?_))))
 by_cases hg51 : 6 < ((p0.1).length : Int)
 ·have h := ifT hg51 h
  refine b_T rfl rfl rfl rfl (decide_eq_true hg51) (o_val rfl (v_fieldAddrF fo24_0 rfl) ?_)
  refine b_T rfl rfl rfl rfl rfl (o_val rfl (v_loadF ty22 rfl (l_lit rfl rfl)) ?_)
  refine b_T rfl rfl rfl rfl rfl (o_val rfl (v_lenF rfl rfl ty22 rfl) ?_)
  refine b_T rfl rfl rfl rfl rfl (o_val rfl (v_bin rfl rfl b_leq) ?_)
  refine bv rfl (v_pickT rfl rfl rfl) (mv rfl rfl ?_)
  by_cases hg46 : ((p0.1).length : Int) ≤ 256
  ·have h := ifT hg46 h
   refine b_F rfl rfl rfl rfl rfl (decide_eq_true hg46) ?_
   iterate 4 refine b_F rfl rfl rfl rfl rfl rfl ?_
   refine b_U rfl rfl rfl rfl rfl ?_
   refine b_U rfl rfl rfl rfl rfl ?_
   refine b_U rfl rfl rfl rfl rfl ?_
   refine b_U rfl rfl rfl rfl rfl ?_
   refine b_F rfl rfl rfl rfl rfl rfl ?_
   refine bv rfl (v_pickT rfl rfl rfl) (mv rfl rfl ?_)
   iterate 4 refine b_F rfl rfl rfl rfl rfl rfl ?_
   refine bv rfl (v_pickT rfl rfl rfl) (mv rfl rfl ?_)
   iterate 4 refine b_F rfl rfl rfl rfl rfl rfl ?_
   refine bv rfl (v_pickT rfl rfl rfl) ?_
   refine b_nil (hK _ ?_)
   exact to_L ⟨true, (), h, rfl⟩
  have h := ifF hg46 h
  refine b_T rfl rfl rfl rfl (decide_eq_false hg46) (o_val rfl (v_fieldAddrF fo24_1 rfl) ?_)
  refine b_T rfl rfl rfl rfl rfl (o_val rfl (v_loadF ty22 rfl (l_lit rfl rfl)) ?_)
  refine b_T rfl rfl rfl rfl rfl (o_val rfl (v_lenF rfl rfl ty22 rfl) ?_)
  refine b_T rfl rfl rfl rfl rfl (o_val rfl (v_bin rfl rfl b_gtr) ?_)
  refine b_T rfl rfl rfl rfl rfl (o_val rfl (mv_val rfl rfl).2 ?_)
  by_cases hg45 : 8 < ((p0.2).length : Int)
  ·have h := ifT hg45 h
   refine b_T rfl rfl rfl rfl (decide_eq_true hg45) (o_val rfl (v_fieldAddrF fo24_1 rfl) ?_)
   refine b_T rfl rfl rfl rfl rfl (o_val rfl (v_loadF ty22 rfl (l_lit rfl rfl)) ?_)
   refine b_T rfl rfl rfl rfl rfl (o_val rfl (v_lenF rfl rfl ty22 rfl) ?_)
   refine b_T rfl rfl rfl rfl rfl (o_val rfl (v_bin rfl rfl b_leq) ?_)
   refine b_T rfl rfl rfl rfl rfl (o_val rfl (v_pickT rfl rfl rfl) ?_)
   refine bv rfl (v_pickF rfl rfl rfl) (mv rfl rfl ?_)
   by_cases hg43 : ((p0.2).length : Int) ≤ 256
   ·have h := ifT hg43 h
    refine b_F rfl rfl rfl rfl rfl (decide_eq_true hg43) ?_
    iterate 3 refine b_F rfl rfl rfl rfl rfl rfl ?_
    refine bv rfl (v_pickT rfl rfl rfl) (mv rfl rfl ?_)
    iterate 4 refine b_F rfl rfl rfl rfl rfl rfl ?_
    refine bv rfl (v_pickT rfl rfl rfl) ?_
    refine b_nil (hK _ ?_)
    exact to_L ⟨true, (), h, rfl⟩
   have h := ifF hg43 h
   refine b_T rfl rfl rfl rfl (decide_eq_false hg43) (o_val rfl (v_fieldAddrF fo24_0 rfl) ?_)
   refine b_T rfl rfl rfl rfl rfl (o_val rfl (v_loadF ty22 rfl (l_lit rfl rfl)) ?_)
   refine b_T rfl rfl rfl rfl rfl (o_val rfl (v_lenF rfl rfl ty22 rfl) ?_)
   refine b_T rfl rfl rfl rfl rfl (o_val rfl (v_bin rfl rfl b_gtr) ?_)
   refine bv rfl (v_pickF rfl rfl rfl) (mv rfl rfl ?_)
   by_cases hg42 : 259 < ((p0.1).length : Int)
   ·have h := ifT hg42 h
    refine b_F rfl rfl rfl rfl rfl (decide_eq_true hg42) ?_
    iterate 3 refine b_F rfl rfl rfl rfl rfl rfl ?_
    refine bv rfl (v_pickT rfl rfl rfl) ?_
    refine b_nil (hK _ ?_)
    exact to_L ⟨true, (), h, rfl⟩
   have h := ifF hg42 h
   refine b_T rfl rfl rfl rfl (decide_eq_false hg42) (o_val rfl (v_fieldAddrF fo24_1 rfl) ?_)
   refine b_T rfl rfl rfl rfl rfl (o_val rfl (v_loadF ty22 rfl (l_lit rfl rfl)) ?_)
   refine b_T rfl rfl rfl rfl rfl (o_val rfl (v_lenF rfl rfl ty22 rfl) ?_)
   refine b_T rfl rfl rfl rfl rfl (o_val rfl (v_bin rfl rfl b_gtr) ?_)
   refine bv rfl (v_pickF rfl rfl rfl) ?_
   refine b_nil (hK _ ?_)
   exact to_L ⟨decide (259 < ((p0.2).length : Int)), (), h, rfl⟩
  have h := ifF hg45 h
  refine b_F rfl rfl rfl rfl rfl (decide_eq_false hg45) ?_
  iterate 3 refine b_F rfl rfl rfl rfl rfl rfl ?_
  refine b_T rfl rfl rfl rfl rfl (o_val rfl (v_pickF rfl rfl rfl) ?_)
  refine bv rfl (v_pickF rfl rfl rfl) (mv rfl rfl ?_)
  refine b_T rfl rfl rfl rfl rfl (o_val rfl (v_fieldAddrF fo24_0 rfl) ?_)
  refine b_T rfl rfl rfl rfl rfl (o_val rfl (v_loadF ty22 rfl (l_lit rfl rfl)) ?_)
  refine b_T rfl rfl rfl rfl rfl (o_val rfl (v_lenF rfl rfl ty22 rfl) ?_)
  refine b_T rfl rfl rfl rfl rfl (o_val rfl (v_bin rfl rfl b_gtr) ?_)
  refine bv rfl (v_pickF rfl rfl rfl) (mv rfl rfl ?_)
  by_cases hg44 : 259 < ((p0.1).length : Int)
  ·have h := ifT hg44 h
   refine b_F rfl rfl rfl rfl rfl (decide_eq_true hg44) ?_
   iterate 3 refine b_F rfl rfl rfl rfl rfl rfl ?_
   refine bv rfl (v_pickT rfl rfl rfl) ?_
   refine b_nil (hK _ ?_)
   exact to_L ⟨true, (), h, rfl⟩
  have h := ifF hg44 h
  refine b_T rfl rfl rfl rfl (decide_eq_false hg44) (o_val rfl (v_fieldAddrF fo24_1 rfl) ?_)
  refine b_T rfl rfl rfl rfl rfl (o_val rfl (v_loadF ty22 rfl (l_lit rfl rfl)) ?_)
  refine b_T rfl rfl rfl rfl rfl (o_val rfl (v_lenF rfl rfl ty22 rfl) ?_)
  refine b_T rfl rfl rfl rfl rfl (o_val rfl (v_bin rfl rfl b_gtr) ?_)
  refine bv rfl (v_pickF rfl rfl rfl) ?_
  refine b_nil (hK _ ?_)
  exact to_L ⟨decide (259 < ((p0.2).length : Int)), (), h, rfl⟩
 have h := ifF hg51 h
 refine b_F rfl rfl rfl rfl rfl (decide_eq_false hg51) ?_
 iterate 3 refine b_F rfl rfl rfl rfl rfl rfl ?_
 refine bv rfl (v_pickF rfl rfl rfl) (mv rfl rfl ?_)
 refine b_T rfl rfl rfl rfl rfl (o_val rfl (v_fieldAddrF fo24_1 rfl) ?_)
 refine b_T rfl rfl rfl rfl rfl (o_val rfl (v_loadF ty22 rfl (l_lit rfl rfl)) ?_)
 refine b_T rfl rfl rfl rfl rfl (o_val rfl (v_lenF rfl rfl ty22 rfl) ?_)
 refine b_T rfl rfl rfl rfl rfl (o_val rfl (v_bin rfl rfl b_gtr) ?_)
 refine b_T rfl rfl rfl rfl rfl (o_val rfl (mv_val rfl rfl).2 ?_)
 by_cases hg50 : 8 < ((p0.2).length : Int)
 ·have h := ifT hg50 h
  refine b_T rfl rfl rfl rfl (decide_eq_true hg50) (o_val rfl (v_fieldAddrF fo24_1 rfl) ?_)
  refine b_T rfl rfl rfl rfl rfl (o_val rfl (v_loadF ty22 rfl (l_lit rfl rfl)) ?_)
  refine b_T rfl rfl rfl rfl rfl (o_val rfl (v_lenF rfl rfl ty22 rfl) ?_)
  refine b_T rfl rfl rfl rfl rfl (o_val rfl (v_bin rfl rfl b_leq) ?_)
  refine b_T rfl rfl rfl rfl rfl (o_val rfl (v_pickT rfl rfl rfl) ?_)
  refine bv rfl (v_pickF rfl rfl rfl) (mv rfl rfl ?_)
  by_cases hg48 : ((p0.2).length : Int) ≤ 256
  ·have h := ifT hg48 h
   refine b_F rfl rfl rfl rfl rfl (decide_eq_true hg48) ?_
   iterate 3 refine b_F rfl rfl rfl rfl rfl rfl ?_
   refine bv rfl (v_pickT rfl rfl rfl) (mv rfl rfl ?_)
   iterate 4 refine b_F rfl rfl rfl rfl rfl rfl ?_
   refine bv rfl (v_pickT rfl rfl rfl) ?_
   refine b_nil (hK _ ?_)
   exact to_L ⟨true, (), h, rfl⟩
  have h := ifF hg48 h
  refine b_T rfl rfl rfl rfl (decide_eq_false hg48) (o_val rfl (v_fieldAddrF fo24_0 rfl) ?_)
  refine b_T rfl rfl rfl rfl rfl (o_val rfl (v_loadF ty22 rfl (l_lit rfl rfl)) ?_)
  refine b_T rfl rfl rfl rfl rfl (o_val rfl (v_lenF rfl rfl ty22 rfl) ?_)
  refine b_T rfl rfl rfl rfl rfl (o_val rfl (v_bin rfl rfl b_gtr) ?_)
  refine bv rfl (v_pickF rfl rfl rfl) (mv rfl rfl ?_)
  by_cases hg47 : 259 < ((p0.1).length : Int)
  ·have h := ifT hg47 h
   refine b_F rfl rfl rfl rfl rfl (decide_eq_true hg47) ?_
   iterate 3 refine b_F rfl rfl rfl rfl rfl rfl ?_
   refine bv rfl (v_pickT rfl rfl rfl) ?_
   refine b_nil (hK _ ?_)
   exact to_L ⟨true, (), h, rfl⟩
  have h := ifF hg47 h
  refine b_T rfl rfl rfl rfl (decide_eq_false hg47) (o_val rfl (v_fieldAddrF fo24_1 rfl) ?_)
  refine b_T rfl rfl rfl rfl rfl (o_val rfl (v_loadF ty22 rfl (l_lit rfl rfl)) ?_)
  refine b_T rfl rfl rfl rfl rfl (o_val rfl (v_lenF rfl rfl ty22 rfl) ?_)
  refine b_T rfl rfl rfl rfl rfl (o_val rfl (v_bin rfl rfl b_gtr) ?_)
  refine bv rfl (v_pickF rfl rfl rfl) ?_
  refine b_nil (hK _ ?_)
  exact to_L ⟨decide (259 < ((p0.2).length : Int)), (), h, rfl⟩
 have h := ifF hg50 h
 refine b_F rfl rfl rfl rfl rfl (decide_eq_false hg50) ?_
 iterate 3 refine b_F rfl rfl rfl rfl rfl rfl ?_
 refine b_T rfl rfl rfl rfl rfl (o_val rfl (v_pickF rfl rfl rfl) ?_)
 refine bv rfl (v_pickF rfl rfl rfl) (mv rfl rfl ?_)
 refine b_T rfl rfl rfl rfl rfl (o_val rfl (v_fieldAddrF fo24_0 rfl) ?_)
 refine b_T rfl rfl rfl rfl rfl (o_val rfl (v_loadF ty22 rfl (l_lit rfl rfl)) ?_)
 refine b_T rfl rfl rfl rfl rfl (o_val rfl (v_lenF rfl rfl ty22 rfl) ?_)
 refine b_T rfl rfl rfl rfl rfl (o_val rfl (v_bin rfl rfl b_gtr) ?_)
 refine bv rfl (v_pickF rfl rfl rfl) (mv rfl rfl ?_)
 by_cases hg49 : 259 < ((p0.1).length : Int)
 ·have h := ifT hg49 h
  refine b_F rfl rfl rfl rfl rfl (decide_eq_true hg49) ?_
  iterate 3 refine b_F rfl rfl rfl rfl rfl rfl ?_
  refine bv rfl (v_pickT rfl rfl rfl) ?_
  refine b_nil (hK _ ?_)
  exact to_L ⟨true, (), h, rfl⟩
 have h := ifF hg49 h
 refine b_T rfl rfl rfl rfl (decide_eq_false hg49) (o_val rfl (v_fieldAddrF fo24_1 rfl) ?_)
 refine b_T rfl rfl rfl rfl rfl (o_val rfl (v_loadF ty22 rfl (l_lit rfl rfl)) ?_)
 refine b_T rfl rfl rfl rfl rfl (o_val rfl (v_lenF rfl rfl ty22 rfl) ?_)
 refine b_T rfl rfl rfl rfl rfl (o_val rfl (v_bin rfl rfl b_gtr) ?_)
 refine bv rfl (v_pickF rfl rfl rfl) ?_
 refine b_nil (hK _ ?_)
 exact to_L ⟨decide (259 < ((p0.2).length : Int)), (), h, rfl⟩
theorem w_ref11_Great {p0 : TLabelsStatesEdges} {r : Bool} (h : m_ref11_Great p0 = some r) : Pure Tryz.prog 6 [gA p0] (· = HV.bool r) := by
 unfold m_ref11_Great at h
 refine Pure.of_body Tryz.func6 rfl rfl (lb rfl) fun hf => ?_
 unfold Tryz.f6
 dsimp only [enumS, Nat.reduceAdd]
 refine AW.rgs rfl fun K hK => b_op rfl (o_box rfl rfl rfl ?_)
 refine mv rfl rfl ?_
 refine bf hK ⟨[(1, gF p0)], []⟩ ?_
 refine AW.seqJ h (S := Bool) (V := Unit) (fun a v => ⟨[(2, .bool a)], []⟩) (fun a1 w2 h => ?_) (fun k3 h => ?_)
 ·obtain rfl := oi h
  exact AW.ret (ret_pure (.inr rfl) (resT rfl rfl) rfl trivial)
 refine AW.rg rfl fun K hK => bv rfl (v_fieldAddrF fo27_1 rfl) (bv rfl (v_loadF ty3 rfl (l_lit rfl rfl)) (bv rfl (v_bin rfl rfl b_gtr) (mv rfl rfl ?_)))
 by_cases hg9 : 8 < p0.2.1
 ·have h := ifT hg9 h
  refine b_T rfl rfl rfl rfl (decide_eq_true hg9) (o_val rfl (v_fieldAddrF fo27_1 rfl) ?_)
  refine b_T rfl rfl rfl rfl rfl (o_val rfl (v_loadF ty3 rfl (l_lit rfl rfl)) ?_)
  refine b_T rfl rfl rfl rfl rfl (o_val rfl (v_bin rfl rfl b_leq) ?_)
  refine bv rfl (v_pickT rfl rfl rfl) (mv rfl rfl ?_)
  by_cases hg6 : p0.2.1 ≤ 64
  ·have h := ifT hg6 h
   refine b_F rfl rfl rfl rfl rfl (decide_eq_true hg6) ?_
   iterate 4 refine b_F rfl rfl rfl rfl rfl rfl ?_
   refine b_U rfl rfl rfl rfl rfl ?_
   refine b_U rfl rfl rfl rfl rfl ?_
   refine b_U rfl rfl rfl rfl rfl ?_
   refine b_U rfl rfl rfl rfl rfl ?_
   refine b_F rfl rfl rfl rfl rfl rfl ?_
   refine bv rfl (v_pickT rfl rfl rfl) (mv rfl rfl ?_)
   iterate 4 refine b_F rfl rfl rfl rfl rfl rfl ?_
   refine bv rfl (v_pickT rfl rfl rfl) (mv rfl rfl ?_)
   refine b_nil (hK _ ?_)
   exact to_L ⟨true, (), h, rfl⟩
  have h := ifF hg6 h
  refine b_T rfl rfl rfl rfl (decide_eq_false hg6) (o_val rfl (v_fieldAddrF fo27_2 rfl) ?_)
  refine b_T rfl rfl rfl rfl rfl (o_val rfl (v_loadF ty25 rfl (l_lit rfl rfl)) ?_)
  refine b_T rfl rfl rfl rfl rfl (o_val rfl (v_lenF rfl rfl ty25 rfl) ?_)
  refine b_T rfl rfl rfl rfl rfl (o_val rfl (v_bin rfl rfl b_gtr) ?_)
  refine b_T rfl rfl rfl rfl rfl (o_val rfl (mv_val rfl rfl).2 ?_)
  by_cases hg5 : 30 < ((p0.2.2).length : Int)
  ·have h := ifT hg5 h
   refine b_T rfl rfl rfl rfl (decide_eq_true hg5) (o_val rfl (v_fieldAddrF fo27_2 rfl) ?_)
   refine b_T rfl rfl rfl rfl rfl (o_val rfl (v_loadF ty25 rfl (l_lit rfl rfl)) ?_)
   refine b_T rfl rfl rfl rfl rfl (o_val rfl (v_lenF rfl rfl ty25 rfl) ?_)
   refine b_T rfl rfl rfl rfl rfl (o_val rfl (v_bin rfl rfl b_leq) ?_)
   refine b_T rfl rfl rfl rfl rfl (o_val rfl (v_pickT rfl rfl rfl) ?_)
   refine bv rfl (v_pickF rfl rfl rfl) (mv rfl rfl ?_)
   by_cases hg4 : ((p0.2.2).length : Int) ≤ 1024
   ·have h := ifT hg4 h
    refine b_F rfl rfl rfl rfl rfl (decide_eq_true hg4) ?_
    iterate 3 refine b_F rfl rfl rfl rfl rfl rfl ?_
    refine bv rfl (v_pickT rfl rfl rfl) (mv rfl rfl ?_)
    refine b_nil (hK _ ?_)
    exact to_L ⟨true, (), h, rfl⟩
   have h := ifF hg4 h
   refine b_T rfl rfl rfl rfl (decide_eq_false hg4) (o_val rfl (v_fieldAddrF fo27_2 rfl) ?_)
   refine b_T rfl rfl rfl rfl rfl (o_val rfl (v_loadF ty25 rfl (l_lit rfl rfl)) ?_)
   refine b_T rfl rfl rfl rfl rfl (o_val rfl (v_lenF rfl rfl ty25 rfl) ?_)
   refine b_T rfl rfl rfl rfl rfl (o_val rfl (v_bin rfl rfl b_gtr) ?_)
   refine bv rfl (v_pickF rfl rfl rfl) (mv rfl rfl ?_)
   refine b_nil (hK _ ?_)
   exact to_L ⟨decide (1027 < ((p0.2.2).length : Int)), (), h, rfl⟩
  have h := ifF hg5 h
  refine b_F rfl rfl rfl rfl rfl (decide_eq_false hg5) ?_
  iterate 3 refine b_F rfl rfl rfl rfl rfl rfl ?_
  refine b_T rfl rfl rfl rfl rfl (o_val rfl (v_pickF rfl rfl rfl) ?_)
  refine bv rfl (v_pickF rfl rfl rfl) (mv rfl rfl ?_)
  refine b_T rfl rfl rfl rfl rfl (o_val rfl (v_fieldAddrF fo27_2 rfl) ?_)
  refine b_T rfl rfl rfl rfl rfl (o_val rfl (v_loadF ty25 rfl (l_lit rfl rfl)) ?_)
  refine b_T rfl rfl rfl rfl rfl (o_val rfl (v_lenF rfl rfl ty25 rfl) ?_)
  refine b_T rfl rfl rfl rfl rfl (o_val rfl (v_bin rfl rfl b_gtr) ?_)
  refine bv rfl (v_pickF rfl rfl rfl) (mv rfl rfl ?_)
  refine b_nil (hK _ ?_)
  exact to_L ⟨decide (1027 < ((p0.2.2).length : Int)), (), h, rfl⟩
 have h := ifF hg9 h
 refine b_F rfl rfl rfl rfl rfl (decide_eq_false hg9) ?_
 iterate 2 refine b_F rfl rfl rfl rfl rfl rfl ?_
 refine bv rfl (v_pickF rfl rfl rfl) (mv rfl rfl ?_)
 refine b_T rfl rfl rfl rfl rfl (o_val rfl (v_fieldAddrF fo27_2 rfl) ?_)
 refine b_T rfl rfl rfl rfl rfl (o_val rfl (v_loadF ty25 rfl (l_lit rfl rfl)) ?_)
 refine b_T rfl rfl rfl rfl rfl (o_val rfl (v_lenF rfl rfl ty25 rfl) ?_)
 refine b_T rfl rfl rfl rfl rfl (o_val rfl (v_bin rfl rfl b_gtr) ?_)
 refine b_T rfl rfl rfl rfl rfl (o_val rfl (mv_val rfl rfl).2 ?_)
 by_cases hg8 : 30 < ((p0.2.2).length : Int)
 ·have h := ifT hg8 h
  refine b_T rfl rfl rfl rfl (decide_eq_true hg8) (o_val rfl (v_fieldAddrF fo27_2 rfl) ?_)
  refine b_T rfl rfl rfl rfl rfl (o_val rfl (v_loadF ty25 rfl (l_lit rfl rfl)) ?_)
  refine b_T rfl rfl rfl rfl rfl (o_val rfl (v_lenF rfl rfl ty25 rfl) ?_)
  refine b_T rfl rfl rfl rfl rfl (o_val rfl (v_bin rfl rfl b_leq) ?_)
  refine b_T rfl rfl rfl rfl rfl (o_val rfl (v_pickT rfl rfl rfl) ?_)
  refine bv rfl (v_pickF rfl rfl rfl) (mv rfl rfl ?_)
  by_cases hg7 : ((p0.2.2).length : Int) ≤ 1024
  ·have h := ifT hg7 h
   refine b_F rfl rfl rfl rfl rfl (decide_eq_true hg7) ?_
   iterate 3 refine b_F rfl rfl rfl rfl rfl rfl ?_
   refine bv rfl (v_pickT rfl rfl rfl) (mv rfl rfl ?_)
   refine b_nil (hK _ ?_)
   exact to_L ⟨true, (), h, rfl⟩
  have h := ifF hg7 h
  refine b_T rfl rfl rfl rfl (decide_eq_false hg7) (o_val rfl (v_fieldAddrF fo27_2 rfl) ?_)
  refine b_T rfl rfl rfl rfl rfl (o_val rfl (v_loadF ty25 rfl (l_lit rfl rfl)) ?_)
  refine b_T rfl rfl rfl rfl rfl (o_val rfl (v_lenF rfl rfl ty25 rfl) ?_)
  refine b_T rfl rfl rfl rfl rfl (o_val rfl (v_bin rfl rfl b_gtr) ?_)
  refine bv rfl (v_pickF rfl rfl rfl) (mv rfl rfl ?_)
  refine b_nil (hK _ ?_)
  exact to_L ⟨decide (1027 < ((p0.2.2).length : Int)), (), h, rfl⟩
 have h := ifF hg8 h
 refine b_F rfl rfl rfl rfl rfl (decide_eq_false hg8) ?_
 iterate 3 refine b_F rfl rfl rfl rfl rfl rfl ?_
 refine b_T rfl rfl rfl rfl rfl (o_val rfl (v_pickF rfl rfl rfl) ?_)
 refine bv rfl (v_pickF rfl rfl rfl) (mv rfl rfl ?_)
 refine b_T rfl rfl rfl rfl rfl (o_val rfl (v_fieldAddrF fo27_2 rfl) ?_)
 refine b_T rfl rfl rfl rfl rfl (o_val rfl (v_loadF ty25 rfl (l_lit rfl rfl)) ?_)
 refine b_T rfl rfl rfl rfl rfl (o_val rfl (v_lenF rfl rfl ty25 rfl) ?_)
 refine b_T rfl rfl rfl rfl rfl (o_val rfl (v_bin rfl rfl b_gtr) ?_)
 refine bv rfl (v_pickF rfl rfl rfl) (mv rfl rfl ?_)
 refine b_nil (hK _ ?_)
 exact to_L ⟨decide (1027 < ((p0.2.2).length : Int)), (), h, rfl⟩
theorem w_slices_IndexFunc_Lstring_stringG {p0 : List (List UInt8)} {p1 : (List UInt8) → Option (Bool)} {g1 : FuncId} {z1 : List HV} {r : Int} (h : m_slices_IndexFunc_Lstring_stringG p0 p1 = some r) (hf1 : ∀ a0 b, p1 a0 = some b → Pure Tryz.prog g1 ([.str a0] ++ z1) (· = HV.bool b)) : Pure Tryz.prog 51 [slE eStr p0, .fn (.func g1) [] z1] (· = hI r) := by
 unfold m_slices_IndexFunc_Lstring_stringG at h
 refine Pure.of_body Tryz.func51 rfl rfl (lb rfl) fun hf => ?_
 unfold Tryz.f51
 dsimp only [enumS, Nat.reduceAdd]
 refine AW.rgs rfl fun K hK => mv rfl rfl ?_
 let E1 : Nat × HV := (1, .fn (.func g1) [] z1)
 let P2 : ASf := fun t H => ⟨(0, slE eStr p0) :: E1 :: t, H⟩
 refine bf hK (P2 [] []) ?_
 refine AW.seq ?_
 refine AW.rgs rfl fun K hK => mv rfl rfl (bv rfl (v_lenF rfl rfl ty22 rfl) (mv rfl rfl ?_))
 let E2 : Nat × HV := (7, hI ((p0).length : Int))
 refine bf hK (P2 [E2, (8, hI 0)] []) ?_
 refine AW.lpR h (by first | exact up_then | exact up_to) (S := Int) (V := Unit) (fun a v => (P2 [E2, (8, hI a)] [])) ?_ (X := Unit) (W := Unit) (fun a v => ⟨[], []⟩) (fun a9 w10 h => ?_) (fun a1 w2 st3 h hr4=> ?_)
 ·exact to_L ⟨(), rfl⟩
 ·refine AW.rgs rfl fun K hK => mv rfl rfl ?_
  refine bf hK ⟨[(4, hI (-1))], []⟩ ?_
  obtain rfl := oi h
  exact AW.ret (ret_pure (.inr rfl) (resT rfl rfl) rfl trivial)
 refine AW.rgs rfl fun K hK => bv rfl (v_bin rfl rfl b_lss) ?_
 refine bf hK (P2 [E2, (8, hI a1), (9, .bool (decide (a1 < ((p0).length : Int))))] []) ?_
 refine AW.cseq rfl (fun hc => ?_) (fun hc => ?_)
 ·obtain ⟨hc, h⟩ := cT hc h
  refine AW.skip ?_
  refine AW.seq (AW.block ?_)
  refine AW.rgs rfl fun K hK => mv rfl rfl (mv rfl rfl ?_)
  refine bf hK (P2 [(5, hI a1), E2, (8, hI a1)] []) ?_
  refine AW.rgs rfl fun K hK => mv rfl rfl (mv rfl rfl (mv rfl rfl ?_))
  obtain ⟨x5, h6, h⟩ := bS h
  refine bv rfl (v_idxF ty22 es22 rfl rfl (idx_lt h6)) (bv rfl (v_loadF ty9 rfl (l_cell eStr h6 (o := 0) rfl rfl)) ?_)
  obtain ⟨x7, h8, h⟩ := bS h
  refine b_op rfl (o_call rfl rfl rfl rfl (ACallD.pure0 (hf1 _ _ h8)) ?_)
  refine bf hK (P2 [(5, hI a1), E2, (8, hI a1), (16, .bool x7)] []) ?_
  refine AW.cond rfl (fun hc => ?_) (fun hc => ?_)
  ·have h := ifT hc h
   refine AW.rgs rfl fun K hK => mv rfl rfl (mv rfl rfl ?_)
   refine bf hK ⟨[(4, hI a1)], []⟩ ?_
   have h := hr4 _ h
   obtain rfl := oi h
   exact AW.ret (ret_pure (.inr rfl) (resT rfl rfl) rfl trivial)
  have h := ifF (bF' hc) h
  refine AW.skip ?_
  refine AW.rg rfl fun K hK => bv rfl (v_bin rfl rfl b_add) (mv rfl rfl ?_)
  refine b_nil (hK _ ?_)
  exact to_L ⟨IntKind.wrap .i64 (a1 + 1), (), h, rfl⟩
 obtain ⟨hc, h⟩ := cF hc h
 refine AW.exit ?_
 exact to_L ⟨(), (), h, rfl⟩
theorem w_slices_ContainsFunc_Lstring_stringG {p0 : List (List UInt8)} {p1 : (List UInt8) → Option (Bool)} {g1 : FuncId} {z1 : List HV} {r : Bool} (h : m_slices_ContainsFunc_Lstring_stringG p0 p1 = some r) (hf1 : ∀ a0 b, p1 a0 = some b → Pure Tryz.prog g1 ([.str a0] ++ z1) (· = HV.bool b)) : Pure Tryz.prog 18 [slE eStr p0, .fn (.func g1) [] z1] (· = HV.bool r) := by
 unfold m_slices_ContainsFunc_Lstring_stringG at h
 refine Pure.of_body Tryz.func18 rfl rfl (lb rfl) fun hf => ?_
 unfold Tryz.f18
 dsimp only [enumS, Nat.reduceAdd]
 refine AW.rgs rfl fun K hK => mv rfl rfl ?_
 refine bf hK ⟨[(0, slE eStr p0), (1, .fn (.func g1) [] z1)], []⟩ ?_
 refine AW.rgs rfl fun K hK => mv rfl rfl (mv rfl rfl ?_)
 obtain ⟨x1, h2, h⟩ := bS h
 refine b_op rfl (o_call rfl rfl rfl rfl (ACallD.pure0 (w_slices_IndexFunc_Lstring_stringG h2 hf1)) ?_)
 refine bv rfl (v_bin rfl rfl b_geq) (mv rfl rfl ?_)
 refine bf hK ⟨[(4, .bool (decide (0 ≤ x1)))], []⟩ ?_
 obtain rfl := oi h
 exact AW.ret (ret_pure (.inr rfl) (resT rfl rfl) rfl trivial)
theorem w_merging_uneven_1 {p0 : List UInt8} {c0 : List (List UInt8)} {r : Bool} (h : m_merging_uneven_1 p0 c0 = some r) : Pure Tryz.prog 81 [.str p0, .fptr [slE eStr c0] 0] (· = HV.bool r) := by
 unfold m_merging_uneven_1 at h
 refine Pure.of_body Tryz.func81 rfl rfl (lb rfl) fun hf => ?_
 unfold Tryz.f81
 dsimp only [enumS, Nat.reduceAdd]
 refine AW.rgs rfl fun K hK => mv rfl rfl ?_
 refine bf hK ⟨[(0, .str p0), (1, .fptr [slE eStr c0] 0)], []⟩ ?_
 refine AW.rgs rfl fun K hK => mv rfl rfl (bv rfl (v_lenS rfl rfl ty9 rfl) (bv rfl (v_loadF ty22 rfl (l_lit rfl rfl)) ?_))
 obtain ⟨x1, h2, h⟩ := bS h
 refine bv rfl (v_idxF ty22 es22 rfl rfl (idx_lt h2)) (bv rfl (v_loadF ty9 rfl (l_cell eStr h2 (o := 0) rfl rfl)) (bv rfl (v_lenS rfl rfl ty9 rfl) (bv rfl (v_bin rfl rfl b_neq) (mv rfl rfl ?_))))
 refine bf hK ⟨[(3, .bool (decide (((p0).length : Int) ≠ ((x1).length : Int))))], []⟩ ?_
 obtain rfl := oi h
 exact AW.ret (ret_pure (.inr rfl) (resT rfl rfl) rfl trivial)
theorem w_merging_uneven {p0 : List (List UInt8)} {r : Bool} (h : m_merging_uneven p0 = some r) : Pure Tryz.prog 48 [slE eStr p0] (· = HV.bool r) := by
 unfold m_merging_uneven at h
 refine Pure.of_body Tryz.func48 rfl rfl (lb rfl) fun hf => ?_
 unfold Tryz.f48
 dsimp only [enumS, Nat.reduceAdd]
 refine AW.rgs rfl fun K hK => b_op rfl (o_box rfl rfl rfl ?_)
 refine mv rfl rfl ?_
 refine bf hK ⟨[(1, .fptr [slE eStr p0] 0)], []⟩ ?_
 refine AW.rgs rfl fun K hK => bv rfl (v_loadF ty22 rfl (l_lit rfl rfl)) (bv rfl (v_func rfl rfl) ?_)
 obtain ⟨x1, h2, h⟩ := bS h
 refine b_op rfl (o_call rfl rfl rfl rfl (ACallD.pure0 (w_slices_ContainsFunc_Lstring_stringG h2 (fun _ _ h => w_merging_uneven_1 h))) ?_)
 refine mv rfl rfl ?_
 refine bf hK ⟨[(2, .bool x1)], []⟩ ?_
 obtain rfl := oi h
 exact AW.ret (ret_pure (.inr rfl) (resT rfl rfl) rfl trivial)
theorem w_merging_letters_1 {p0 : List UInt8} {r : Bool} (h : m_merging_letters_1 p0 = some r) : Pure Tryz.prog 82 [.str p0] (· = HV.bool r) := by
 unfold m_merging_letters_1 at h
 refine Pure.of_body Tryz.func82 rfl rfl (lb rfl) fun hf => ?_
 unfold Tryz.f82
 dsimp only [enumS, Nat.reduceAdd]
 refine AW.rgs rfl fun K hK => mv rfl rfl ?_
 refine bf hK ⟨[(0, .str p0)], []⟩ ?_
 refine AW.rgs rfl fun K hK => mv rfl rfl ?_
 obtain ⟨x1, h2, h⟩ := bS h
 refine b_op rfl (o_call rfl rfl rfl rfl (ACallD.pure0 (w_strings_Count h2)) ?_)
 refine mv rfl rfl ?_
 obtain ⟨x3, h4, h⟩ := bS h
 refine b_op rfl (o_call rfl rfl rfl rfl (ACallD.pure0 (w_strings_Count h4)) ?_)
 refine bv rfl (v_bin rfl rfl b_add) (mv rfl rfl (bv rfl (v_lenS rfl rfl ty9 rfl) (bv rfl (v_bin rfl rfl b_neq) (mv rfl rfl ?_))))
 refine bf hK ⟨[(2, .bool (decide ((IntKind.wrap .i64 (x1 + x3)) ≠ ((p0).length : Int))))], []⟩ ?_
 obtain rfl := oi h
 exact AW.ret (ret_pure (.inr rfl) (resT rfl rfl) rfl trivial)
theorem w_merging_letters {p0 : List (List UInt8)} {r : Bool} (h : m_merging_letters p0 = some r) : Pure Tryz.prog 49 [slE eStr p0] (· = HV.bool r) := by
 unfold m_merging_letters at h
 refine Pure.of_body Tryz.func49 rfl rfl (lb rfl) fun hf => ?_
 unfold Tryz.f49
 dsimp only [enumS, Nat.reduceAdd]
 refine AW.rgs rfl fun K hK => mv rfl rfl ?_
 refine bf hK ⟨[(0, slE eStr p0)], []⟩ ?_
 refine AW.rgs rfl fun K hK => mv rfl rfl ?_
 obtain ⟨x1, h2, h⟩ := bS h
 refine b_op rfl (o_call rfl rfl rfl rfl (ACallD.pure0 (w_slices_ContainsFunc_Lstring_stringG h2 (fun _ _ h => w_merging_letters_1 h))) ?_)
 refine mv rfl rfl ?_
 refine bf hK ⟨[(2, .bool x1)], []⟩ ?_
 obtain rfl := oi h
 exact AW.ret (ret_pure (.inr rfl) (resT rfl rfl) rfl trivial)
theorem w_merging_repeats {p0 : List (List UInt8)} {r : Bool} (h : m_merging_repeats p0 = some r) : Pure Tryz.prog 50 [slE eStr p0] (· = HV.bool r) := by
 unfold m_merging_repeats at h
 refine Pure.of_body Tryz.func50 rfl rfl (lb rfl) fun hf => ?_
 unfold Tryz.f50
 dsimp only [enumS, Nat.reduceAdd]
 refine AW.rgs rfl fun K hK => mv rfl rfl ?_
 refine bf hK ⟨[(0, slE eStr p0)], []⟩ ?_
 refine AW.rgs rfl fun K hK => b_op rfl (o_makeMap (fid := 50) HV.bool 50006 rfl rfl (fun v1 => ?_))
 refine mv rfl rfl ?_
 let O3 : Nat × Nat × AObj := (50006, v1, .map (entE HV.bool ([] : List (List UInt8 × Bool))))
 refine bf hK ⟨[(0, slE eStr p0), (3, .mp 50006 v1)], [O3]⟩ ?_
 refine AW.seq ?_
 refine AW.rgs rfl fun K hK => mv rfl rfl (bv rfl (v_lenF rfl rfl ty22 rfl) (mv rfl rfl ?_))
 let E4 : Nat × HV := (8, hI ((p0).length : Int))
 let P3 : ASf := fun t H => ⟨(3, .mp 50006 v1) :: (7, slE eStr p0) :: E4 :: t, H⟩
 refine bf hK (P3 [(9, hI 0)] [O3]) ?_
 refine AW.lpR h (by first | exact up_then | exact up_to) (S := Int × (List (List UInt8 × Bool))) (V := Unit) (fun a v => (P3 [(9, hI a.1)] [(50006, v1, .map (entE HV.bool a.2))])) ?_ (X := Unit) (W := Unit) (fun a v => ⟨[], []⟩) (fun a8 w9 h => ?_) (fun a2 w3 st4 h hr5=> ?_)
 ·exact to_L ⟨(), rfl⟩
 ·refine AW.rgs rfl fun K hK => mv rfl rfl ?_
  refine bf hK ⟨[(2, .bool false)], []⟩ ?_
  obtain rfl := oi h
  exact AW.ret (ret_pure (.inr rfl) (resT rfl rfl) rfl trivial)
 refine AW.rgs rfl fun K hK => bv rfl (v_bin rfl rfl b_lss) ?_
 let O5 : Nat × Nat × AObj := (50006, v1, .map (entE HV.bool a2.2))
 refine bf hK (P3 [(9, hI a2.1), (10, .bool (decide (a2.1 < ((p0).length : Int))))] [O5]) ?_
 refine AW.cseq rfl (fun hc => ?_) (fun hc => ?_)
 ·obtain ⟨hc, h⟩ := cT hc h
  refine AW.skip ?_
  refine AW.seq (AW.block ?_)
  refine AW.rgs rfl fun K hK => ?_
  obtain ⟨x6, h7, h⟩ := bS h
  refine bv rfl (v_idxF ty22 es22 rfl rfl (idx_lt h7)) (bv rfl (v_loadF ty9 rfl (l_cell eStr h7 (o := 0) rfl rfl)) (mv rfl rfl ?_))
  let P4 : ASf := fun t H => ⟨(3, .mp 50006 v1) :: (5, .str x6) :: (7, slE eStr p0) :: E4 :: (9, hI a2.1) :: t, O5 :: H⟩
  refine bf hK (P4 [] []) ?_
  refine AW.seq ?_
  refine AW.rgs rfl fun K hK => mv rfl rfl (mv rfl rfl ?_)
  refine b_op rfl (o_look (fid := 50) HV.bool (es := a2.2) (k := x6) (v := (mlook x6 a2.2).getD false) rfl ty133 ty9 ty4 rfl rfl rfl rfl (look_dflt rfl) ?_)
  refine bf hK (P4 [(15, .bool ((mlook x6 a2.2).getD false))] []) ?_
  refine AW.cond rfl (fun hc => ?_) (fun hc => ?_)
  ·have h := ifT hc h
   refine AW.rgs rfl fun K hK => mv rfl rfl ?_
   refine bf hK ⟨[(2, .bool true)], []⟩ ?_
   have h := hr5 _ h
   obtain rfl := oi h
   exact AW.ret (ret_pure (.inr rfl) (resT rfl rfl) rfl trivial)
  have h := ifF (bF' hc) h
  refine AW.skip ?_
  refine AW.rg rfl fun K hK => mv rfl rfl (mv rfl rfl ?_)
  refine b_op rfl (o_mapSet HV.bool (es := a2.2) (k := x6) (v := true) (.inl rfl) ty133 ty9 rfl rfl rfl rfl trivial ?_)
  refine bf hK (P3 [(9, hI a2.1)] [(50006, v1, .map (entE HV.bool (mputN x6 true a2.2)))]) ?_
  refine AW.rg rfl fun K hK => bv rfl (v_bin rfl rfl b_add) (mv rfl rfl ?_)
  refine b_nil (hK _ ?_)
  exact to_L ⟨(IntKind.wrap .i64 (a2.1 + 1), mputN x6 true a2.2), (), h, rfl⟩
 obtain ⟨hc, h⟩ := cF hc h
 refine AW.exit ?_
 exact to_L ⟨(), (), h, rfl⟩
theorem w_merging_form {p0 : TWordsMerges} {r : Int} (h : m_merging_form p0 = some r) : Pure Tryz.prog 17 [jA p0] (· = hI r) := by
 unfold m_merging_form at h
 refine Pure.of_body Tryz.func17 rfl rfl (lb rfl) fun hf => ?_
 unfold Tryz.f17
 dsimp only [enumS, Nat.reduceAdd]
 refine AW.rgs rfl fun K hK => b_op rfl (o_box rfl rfl rfl ?_)
 refine mv rfl rfl ?_
 refine bf hK ⟨[(1, jF p0)], []⟩ ?_
 refine AW.seq (AW.block ?_)
 refine AW.seqJ h (S := Bool) (V := Unit) (fun a v => ⟨[(1, jF p0), (3, .bool a)], []⟩) (fun a1 w2 h => ?_) (fun k3 h => ?_)
 ·refine AW.cond rfl (fun hc => ?_) (fun hc => ?_)
  ·have h := ifT hc h
   refine AW.rgs rfl fun K hK => mv rfl rfl ?_
   refine bf hK ⟨[(2, hI 5)], []⟩ ?_
   obtain rfl := oi h
   exact AW.ret (ret_pure (.inr rfl) (resT rfl rfl) rfl trivial)
  have h := ifF (bF' hc) h
  refine AW.seqJ h (S := Bool) (V := Unit) (fun a v => ⟨[(1, jF p0), (14, .bool a)], []⟩) (fun a4 w5 h => ?_) (fun k6 h => ?_)
  ·refine AW.cond rfl (fun hc => ?_) (fun hc => ?_)
   ·have h := ifT hc h
    refine AW.rgs rfl fun K hK => mv rfl rfl ?_
    refine bf hK ⟨[(2, hI 4)], []⟩ ?_
    obtain rfl := oi h
    exact AW.ret (ret_pure (.inr rfl) (resT rfl rfl) rfl trivial)
   have h := ifF (bF' hc) h
   refine AW.seqJ h (S := Bool) (V := Unit) (fun a v => ⟨[(1, jF p0), (25, .bool a)], []⟩) (fun a7 w8 h => ?_) (fun k9 h => ?_)
   ·refine AW.cond rfl (fun hc => ?_) (fun hc => ?_)
    ·have h := ifT hc h
     refine AW.rgs rfl fun K hK => mv rfl rfl ?_
     refine bf hK ⟨[(2, hI 11)], []⟩ ?_
     obtain rfl := oi h
     exact AW.ret (ret_pure (.inr rfl) (resT rfl rfl) rfl trivial)
    have h := ifF (bF' hc) h
    refine AW.seqJ h (S := Bool) (V := Unit) (fun a v => ⟨[(1, jF p0), (34, .bool a)], []⟩) (fun a10 w11 h => ?_) (fun k12 h => ?_)
    ·refine AW.cond rfl (fun hc => ?_) (fun hc => ?_)
     ·have h := ifT hc h
      refine AW.rgs rfl fun K hK => mv rfl rfl ?_
      refine bf hK ⟨[(2, hI 2)], []⟩ ?_
      obtain rfl := oi h
      exact AW.ret (ret_pure (.inr rfl) (resT rfl rfl) rfl trivial)
     have h := ifF (bF' hc) h
     refine AW.seqJ h (S := Bool) (V := Unit) (fun a v => ⟨[(1, jF p0), (57, .bool a)], []⟩) (fun a13 w14 h => ?_) (fun k15 h => ?_)
     ·refine AW.cond rfl (fun hc => ?_) (fun hc => ?_)
      ·have h := ifT hc h
       refine AW.rgs rfl fun K hK => mv rfl rfl ?_
       refine bf hK ⟨[(2, hI 13)], []⟩ ?_
       obtain rfl := oi h
       exact AW.ret (ret_pure (.inr rfl) (resT rfl rfl) rfl trivial)
      have h := ifF (bF' hc) h
      refine AW.seqJ h (S := Bool) (V := Unit) (fun a v => ⟨[(66, .bool a)], []⟩) (fun a16 w17 h => ?_) (fun k18 h => ?_)
      ·refine AW.cond rfl (fun hc => ?_) (fun hc => ?_)
       ·have h := ifT hc h
        refine AW.rgs rfl fun K hK => mv rfl rfl ?_
        refine bf hK ⟨[(2, hI 7)], []⟩ ?_
        obtain rfl := oi h
        exact AW.ret (ret_pure (.inr rfl) (resT rfl rfl) rfl trivial)
       have h := ifF (bF' hc) h
       refine AW.skip ?_
       refine AW.rgs rfl fun K hK => mv rfl rfl ?_
       refine bf hK ⟨[(2, hI 0)], []⟩ ?_
       obtain rfl := oi h
       exact AW.ret (ret_pure (.inr rfl) (resT rfl rfl) rfl trivial)
      refine AW.rg rfl fun K hK => bv rfl (v_fieldAddrF fo24_0 rfl) (bv rfl (v_loadF ty22 rfl (l_lit rfl rfl)) ?_)
      obtain ⟨x19, h20, h⟩ := bS h
      refine b_op rfl (o_call rfl rfl rfl rfl (ACallD.pure0 (w_merging_repeats h20)) ?_)
      refine mv rfl rfl ?_
      by_cases hg23 : x19 = true
      ·have h := ifT hg23 h
       refine b_F rfl rfl rfl rfl rfl hg23 ?_
       iterate 2 refine b_F rfl rfl rfl rfl rfl rfl ?_
       refine bv rfl (v_pickT rfl rfl rfl) (mv rfl rfl ?_)
       refine b_nil (hK _ ?_)
       exact to_L ⟨true, (), h, rfl⟩
      have h := ifF hg23 h
      refine b_T rfl rfl rfl rfl (bF hg23) (o_val rfl (v_fieldAddrF fo24_1 rfl) ?_)
      refine b_T rfl rfl rfl rfl rfl (o_val rfl (v_loadF ty22 rfl (l_lit rfl rfl)) ?_)
      obtain ⟨x21, h22, h⟩ := bS h
      refine b_T rfl rfl rfl rfl rfl (o_call rfl rfl rfl rfl (ACallD.pure0 (w_merging_repeats h22)) ?_)
      refine bv rfl (v_pickF rfl rfl rfl) (mv rfl rfl ?_)
      refine b_nil (hK _ ?_)
      exact to_L ⟨x21, (), h, rfl⟩
     refine AW.rg rfl fun K hK => bv rfl (v_fieldAddrF fo24_0 rfl) (bv rfl (v_loadF ty22 rfl (l_lit rfl rfl)) ?_)
     obtain ⟨x24, h25, h⟩ := bS h
     refine b_op rfl (o_call rfl rfl rfl rfl (ACallD.pure0 (w_merging_letters h25)) ?_)
     refine mv rfl rfl ?_
     by_cases hg28 : x24 = true
     ·have h := ifT hg28 h
      refine b_F rfl rfl rfl rfl rfl hg28 ?_
      iterate 2 refine b_F rfl rfl rfl rfl rfl rfl ?_
      refine bv rfl (v_pickT rfl rfl rfl) (mv rfl rfl ?_)
      refine b_nil (hK _ ?_)
      exact to_L ⟨true, (), h, rfl⟩
     have h := ifF hg28 h
     refine b_T rfl rfl rfl rfl (bF hg28) (o_val rfl (v_fieldAddrF fo24_1 rfl) ?_)
     refine b_T rfl rfl rfl rfl rfl (o_val rfl (v_loadF ty22 rfl (l_lit rfl rfl)) ?_)
     obtain ⟨x26, h27, h⟩ := bS h
     refine b_T rfl rfl rfl rfl rfl (o_call rfl rfl rfl rfl (ACallD.pure0 (w_merging_letters h27)) ?_)
     refine bv rfl (v_pickF rfl rfl rfl) (mv rfl rfl ?_)
     refine b_nil (hK _ ?_)
     exact to_L ⟨x26, (), h, rfl⟩
    refine AW.rg rfl fun K hK => bv rfl (v_fieldAddrF fo24_0 rfl) (bv rfl (v_loadF ty22 rfl (l_lit rfl rfl)) ?_)
    obtain ⟨x29, h30, h⟩ := bS h
    refine bv rfl (v_idxF ty22 es22 rfl rfl (idx_lt h30)) (bv rfl (v_loadF ty9 rfl (l_cell eStr h30 (o := 0) rfl rfl)) (bv rfl (v_lenS rfl rfl ty9 rfl) (bv rfl (v_bin rfl rfl b_lss) (mv rfl rfl ?_))))
    by_cases hg36 : ((x29).length : Int) < 1
    ·have h := ifT hg36 h
     refine b_F rfl rfl rfl rfl rfl (decide_eq_true hg36) ?_
     iterate 5 refine b_F rfl rfl rfl rfl rfl rfl ?_
     refine bv rfl (v_pickT rfl rfl rfl) (mv rfl rfl ?_)
     iterate 6 refine b_F rfl rfl rfl rfl rfl rfl ?_
     refine bv rfl (v_pickT rfl rfl rfl) (mv rfl rfl ?_)
     refine b_nil (hK _ ?_)
     exact to_L ⟨true, (), h, rfl⟩
    have h := ifF hg36 h
    refine b_T rfl rfl rfl rfl (decide_eq_false hg36) (o_val rfl (v_fieldAddrF fo24_0 rfl) ?_)
    refine b_T rfl rfl rfl rfl rfl (o_val rfl (v_loadF ty22 rfl (l_lit rfl rfl)) ?_)
    obtain ⟨x31, h32, h⟩ := bS h
    refine b_T rfl rfl rfl rfl rfl (o_val rfl (v_idxF ty22 es22 rfl rfl (idx_lt h32)) ?_)
    refine b_T rfl rfl rfl rfl rfl (o_val rfl (v_loadF ty9 rfl (l_cell eStr h32 (o := 0) rfl rfl)) ?_)
    refine b_T rfl rfl rfl rfl rfl (o_val rfl (v_lenS rfl rfl ty9 rfl) ?_)
    refine b_T rfl rfl rfl rfl rfl (o_val rfl (v_bin rfl rfl b_gtr) ?_)
    refine bv rfl (v_pickF rfl rfl rfl) (mv rfl rfl ?_)
    by_cases hg35 : 16 < ((x31).length : Int)
    ·have h := ifT hg35 h
     refine b_F rfl rfl rfl rfl rfl (decide_eq_true hg35) ?_
     iterate 5 refine b_F rfl rfl rfl rfl rfl rfl ?_
     refine bv rfl (v_pickT rfl rfl rfl) (mv rfl rfl ?_)
     refine b_nil (hK _ ?_)
     exact to_L ⟨true, (), h, rfl⟩
    have h := ifF hg35 h
    refine b_T rfl rfl rfl rfl (decide_eq_false hg35) (o_val rfl (v_fieldAddrF fo24_1 rfl) ?_)
    refine b_T rfl rfl rfl rfl rfl (o_val rfl (v_loadF ty22 rfl (l_lit rfl rfl)) ?_)
    obtain ⟨x33, h34, h⟩ := bS h
    refine b_T rfl rfl rfl rfl rfl (o_val rfl (v_idxF ty22 es22 rfl rfl (idx_lt h34)) ?_)
    refine b_T rfl rfl rfl rfl rfl (o_val rfl (v_loadF ty9 rfl (l_cell eStr h34 (o := 0) rfl rfl)) ?_)
    refine b_T rfl rfl rfl rfl rfl (o_val rfl (v_lenS rfl rfl ty9 rfl) ?_)
    refine b_T rfl rfl rfl rfl rfl (o_val rfl (v_bin rfl rfl b_gtr) ?_)
    refine bv rfl (v_pickF rfl rfl rfl) (mv rfl rfl ?_)
    refine b_nil (hK _ ?_)
    exact to_L ⟨decide (16 < ((x33).length : Int)), (), h, rfl⟩
   refine AW.rg rfl fun K hK => bv rfl (v_fieldAddrF fo24_0 rfl) (bv rfl (v_loadF ty22 rfl (l_lit rfl rfl)) ?_)
   obtain ⟨x37, h38, h⟩ := bS h
   refine b_op rfl (o_call rfl rfl rfl rfl (ACallD.pure0 (w_merging_uneven h38)) ?_)
   refine mv rfl rfl ?_
   by_cases hg41 : x37 = true
   ·have h := ifT hg41 h
    refine b_F rfl rfl rfl rfl rfl hg41 ?_
    iterate 2 refine b_F rfl rfl rfl rfl rfl rfl ?_
    refine bv rfl (v_pickT rfl rfl rfl) (mv rfl rfl ?_)
    refine b_nil (hK _ ?_)
    exact to_L ⟨true, (), h, rfl⟩
   have h := ifF hg41 h
   refine b_T rfl rfl rfl rfl (bF hg41) (o_val rfl (v_fieldAddrF fo24_1 rfl) ?_)
   refine b_T rfl rfl rfl rfl rfl (o_val rfl (v_loadF ty22 rfl (l_lit rfl rfl)) ?_)
   obtain ⟨x39, h40, h⟩ := bS h
   refine b_T rfl rfl rfl rfl rfl (o_call rfl rfl rfl rfl (ACallD.pure0 (w_merging_uneven h40)) ?_)
   refine bv rfl (v_pickF rfl rfl rfl) (mv rfl rfl ?_)
   refine b_nil (hK _ ?_)
   exact to_L ⟨x39, (), h, rfl⟩
  refine AW.rg rfl fun K hK => bv rfl (v_fieldAddrF fo24_0 rfl) (bv rfl (v_loadF ty22 rfl (l_lit rfl rfl)) (bv rfl (v_lenF rfl rfl ty22 rfl) (bv rfl (v_bin rfl rfl b_gtr) (mv rfl rfl ?_))))
  by_cases hg42 : 256 < ((p0.1).length : Int)
  ·have h := ifT hg42 h
   refine b_F rfl rfl rfl rfl rfl (decide_eq_true hg42) ?_
   iterate 3 refine b_F rfl rfl rfl rfl rfl rfl ?_
   refine bv rfl (v_pickT rfl rfl rfl) (mv rfl rfl ?_)
   refine b_nil (hK _ ?_)
   exact to_L ⟨true, (), h, rfl⟩
  have h := ifF hg42 h
  refine b_T rfl rfl rfl rfl (decide_eq_false hg42) (o_val rfl (v_fieldAddrF fo24_1 rfl) ?_)
  refine b_T rfl rfl rfl rfl rfl (o_val rfl (v_loadF ty22 rfl (l_lit rfl rfl)) ?_)
  refine b_T rfl rfl rfl rfl rfl (o_val rfl (v_lenF rfl rfl ty22 rfl) ?_)
  refine b_T rfl rfl rfl rfl rfl (o_val rfl (v_bin rfl rfl b_gtr) ?_)
  refine bv rfl (v_pickF rfl rfl rfl) (mv rfl rfl ?_)
  refine b_nil (hK _ ?_)
  exact to_L ⟨decide (256 < ((p0.2).length : Int)), (), h, rfl⟩
 refine AW.rg rfl fun K hK => bv rfl (v_fieldAddrF fo24_0 rfl) (bv rfl (v_loadF ty22 rfl (l_lit rfl rfl)) (bv rfl (v_lenF rfl rfl ty22 rfl) (bv rfl (v_bin rfl rfl b_eql) (mv rfl rfl ?_))))
 by_cases hg43 : ((p0.1).length : Int) = 0
 ·have h := ifT hg43 h
  refine b_F rfl rfl rfl rfl rfl (decide_eq_true hg43) ?_
  iterate 3 refine b_F rfl rfl rfl rfl rfl rfl ?_
  refine bv rfl (v_pickT rfl rfl rfl) (mv rfl rfl ?_)
  refine b_nil (hK _ ?_)
  exact to_L ⟨true, (), h, rfl⟩
 have h := ifF hg43 h
 refine b_T rfl rfl rfl rfl (decide_eq_false hg43) (o_val rfl (v_fieldAddrF fo24_1 rfl) ?_)
 refine b_T rfl rfl rfl rfl rfl (o_val rfl (v_loadF ty22 rfl (l_lit rfl rfl)) ?_)
 refine b_T rfl rfl rfl rfl rfl (o_val rfl (v_lenF rfl rfl ty22 rfl) ?_)
 refine b_T rfl rfl rfl rfl rfl (o_val rfl (v_bin rfl rfl b_eql) ?_)
 refine bv rfl (v_pickF rfl rfl rfl) (mv rfl rfl ?_)
 refine b_nil (hK _ ?_)
 exact to_L ⟨decide (((p0.2).length : Int) = 0), (), h, rfl⟩
theorem w_language_ends {p0 : TLabelsStatesEdges} {p1 : List (Int)} {p2 : List UInt8} {r : (List (Int))} (h : m_language_ends p0 p1 p2 = some r) : Pure Tryz.prog 42 [gA p0, slE eInt p1, .str p2] (· = slE eInt r) := by
 unfold m_language_ends at h
 refine Pure.of_body Tryz.func42 rfl rfl (lb rfl) fun hf => ?_
 unfold Tryz.f42
 dsimp only [enumS, Nat.reduceAdd]
 refine AW.rgs rfl fun K hK => b_op rfl (o_box rfl rfl rfl ?_)
 refine mv rfl rfl ?_
 refine bf hK ⟨[(1, slE eInt p1), (2, .str p2), (3, gF p0)], []⟩ ?_
 refine AW.seq ?_
 refine AW.rgs rfl fun K hK => mv rfl rfl ?_
 refine bf hK ⟨[(1, slE eInt p1), (2, .str p2), (3, gF p0), (7, hI 0)], []⟩ ?_
 refine AW.lpX h (by first | exact up_then | exact up_to) (S := (List Int) × Int) (V := Unit) (fun a v => ⟨[(1, slE eInt a.1), (2, .str p2), (3, gF p0), (7, hI a.2)], []⟩) ?_ (X := (List Int)) (W := Unit) (fun a v => ⟨[(1, slE eInt a)], []⟩) (fun a13 w14 h => ?_) (fun a1 w2 st3 h => ?_)
 ·exact to_L ⟨(), rfl⟩
 ·refine AW.rgs rfl fun K hK => mv rfl rfl (mv rfl rfl ?_)
  refine bf hK ⟨[(6, slE eInt a13)], []⟩ ?_
  obtain rfl := oi h
  exact AW.ret (ret_pure (.inr rfl) (resT rfl rfl) rfl (clean_slE fun _ _ => ⟨trivial, trivial⟩))
 refine AW.seq ?_
 refine AW.seqJ h (S := Bool) (V := Unit) (fun a v => ⟨[(1, slE eInt a1.1), (2, .str p2), (3, gF p0), (7, hI a1.2), (16, .bool a)], []⟩) (fun a5 w6 h => ?_) (fun k7 h => ?_)
 ·refine AW.cond rfl (fun hc => ?_) (fun hc => ?_)
  ·have h := ifT hc h
   refine AW.skip ?_
   refine AW.seq (AW.block ?_)
   refine AW.dg 7 follows rfl rfl fun K hK => ?_
   refine sv rfl (v_loadF ty27 rfl (l_litA rfl (lb rfl) rfl)) ?_
   iterate 3 refine sm rfl rfl ?_
   obtain ⟨x8, h9, h⟩ := bS h
   refine sv rfl (v_idxS ty9 rfl rfl h9) ?_
   obtain ⟨x10, h11, h⟩ := bS h
   refine s_op rfl rfl (ops_call rfl rfl rfl rfl (ACallD.pure0 (w_language_step h11)) ?_)
   refine sm rfl rfl ?_
   refine s_nil ?_
   refine bf hK ⟨[(1, slE eInt x10), (2, .str p2), (3, gF p0), (7, hI a1.2)], []⟩ ?_
   refine AW.rg rfl fun K hK => mv rfl rfl (bv rfl (v_bin rfl rfl b_add) (mv rfl rfl ?_))
   refine b_nil (hK _ ?_)
   exact to_L ⟨(x10, IntKind.wrap .i64 (a1.2 + 1)), (), h, rfl⟩
  have h := ifF (bF' hc) h
  refine AW.exit ?_
  exact to_L ⟨a1.1, (), h, rfl⟩
 refine AW.rg rfl fun K hK => mv rfl rfl (mv rfl rfl (bv rfl (v_lenS rfl rfl ty9 rfl) (bv rfl (v_bin rfl rfl b_lss) (mv rfl rfl ?_))))
 by_cases hg12 : a1.2 < ((p2).length : Int)
 ·have h := ifT hg12 h
  refine b_T rfl rfl rfl rfl (decide_eq_true hg12) (o_val rfl (mv_val rfl rfl).2 ?_)
  refine b_T rfl rfl rfl rfl rfl (o_val rfl (v_lenF rfl rfl ty36 rfl) ?_)
  refine b_T rfl rfl rfl rfl rfl (o_val rfl (v_bin rfl rfl b_gtr) ?_)
  refine bv rfl (v_pickT rfl rfl rfl) ?_
  refine b_nil (hK _ ?_)
  exact to_L ⟨decide (0 < ((a1.1).length : Int)), (), h, rfl⟩
 have h := ifF hg12 h
 refine b_F rfl rfl rfl rfl rfl (decide_eq_false hg12) ?_
 iterate 2 refine b_F rfl rfl rfl rfl rfl rfl ?_
 refine bv rfl (v_pickF rfl rfl rfl) ?_
 refine b_nil (hK _ ?_)
 exact to_L ⟨false, (), h, rfl⟩
theorem w_language_Accepts {p0 : TLabelsStatesEdges} {p1 : List UInt8} {r : Bool × Int} (h : m_language_Accepts p0 p1 = some r) : Pure Tryz.prog 14 [gA p0, .str p1] (· = HV.tup [.bool r.1, hI r.2]) := by
 unfold m_language_Accepts at h
 refine Pure.of_body Tryz.func14 rfl rfl (lb rfl) fun hf => ?_
 unfold Tryz.f14
 dsimp only [enumS, Nat.reduceAdd]
 refine AW.rgs rfl fun K hK => b_op rfl (o_box rfl rfl rfl ?_)
 refine mv rfl rfl (mv rfl rfl ?_)
 refine bf hK ⟨[(1, .str p1), (2, gF p0)], []⟩ ?_
 refine AW.seq ?_
 refine AW.rgs rfl fun K hK => bv rfl (v_loadF ty27 rfl (l_litA rfl (lb rfl) rfl)) (mv rfl rfl ?_)
 obtain ⟨x1, h2, h⟩ := bS h
 refine b_op rfl (o_call rfl rfl rfl rfl (ACallD.pure0 (w_language_spells h2)) ?_)
 refine mv rfl rfl ?_
 refine bf hK ⟨[(1, .str p1), (2, gF p0), (6, hI x1)], []⟩ ?_
 refine AW.rgs rfl fun K hK => mv rfl rfl (bv rfl (v_bin rfl rfl b_neq) ?_)
 refine bf hK ⟨[(1, .str p1), (2, gF p0), (6, hI x1), (11, .bool (decide (x1 ≠ 0)))], []⟩ ?_
 refine AW.cond rfl (fun hc => ?_) (fun hc => ?_)
 ·obtain ⟨hc, h⟩ := cT hc h
  refine AW.rgs rfl fun K hK => mv rfl rfl (mv rfl rfl (mv rfl rfl ?_))
  refine bf hK ⟨[(4, .bool false), (5, hI x1)], []⟩ ?_
  obtain rfl := oi h
  exact AW.ret (ret_pure (.inr rfl) (resT rfl (resT rfl rfl)) rfl ⟨trivial, trivial, trivial⟩)
 obtain ⟨hc, h⟩ := cF hc h
 refine AW.skip ?_
 refine AW.dgs 9 follows rfl rfl fun K hK => ?_
 refine sv rfl (v_loadF ty27 rfl (l_litA rfl (lb rfl) rfl)) ?_
 refine sv rfl (v_loadF ty27 rfl (l_litA rfl (lb rfl) rfl)) ?_
 obtain ⟨x3, h4, h⟩ := bS h
 refine s_op rfl rfl (ops_call rfl rfl rfl rfl (ACallD.pure0 (w_language_states h4)) ?_)
 refine sm rfl rfl ?_
 obtain ⟨x5, h6, h⟩ := bS h
 refine s_op rfl rfl (ops_call rfl rfl rfl rfl (ACallD.pure0 (w_language_ends h6)) ?_)
 refine sv rfl (v_lenF rfl rfl ty36 rfl) ?_
 refine sv rfl (v_bin rfl rfl b_gtr) ?_
 iterate 2 refine sm rfl rfl ?_
 refine s_nil ?_
 refine bf hK ⟨[(4, .bool (decide (0 < ((x5).length : Int)))), (5, hI 0)], []⟩ ?_
 obtain rfl := oi h
 exact AW.ret (ret_pure (.inr rfl) (resT rfl (resT rfl rfl)) rfl ⟨trivial, trivial, trivial⟩)
theorem w_merging_accepts {p0 : TLabelsStatesEdges} {p1 : List UInt8} {r : Bool} (h : m_merging_accepts p0 p1 = some r) : Pure Tryz.prog 20 [gA p0, .str p1] (· = HV.bool r) := by
 unfold m_merging_accepts at h
 refine Pure.of_body Tryz.func20 rfl rfl (lb rfl) fun hf => ?_
 unfold Tryz.f20
 dsimp only [enumS, Nat.reduceAdd]
 refine AW.rgs rfl fun K hK => b_op rfl (o_box rfl rfl rfl ?_)
 refine mv rfl rfl ?_
 refine bf hK ⟨[(1, .str p1), (2, gF p0)], []⟩ ?_
 refine AW.rgs rfl fun K hK => bv rfl (v_loadF ty27 rfl (l_litA rfl (lb rfl) rfl)) (mv rfl rfl ?_)
 obtain ⟨x1, h2, h⟩ := bS h
 refine b_op rfl (o_call rfl rfl rfl rfl (ACallD.pure0 (w_language_Accepts h2)) ?_)
 refine mv rfl rfl (bv rfl (v_extract rfl rfl) (bv rfl (v_extract rfl rfl) (mv rfl rfl (mv rfl rfl ?_))))
 refine bf hK ⟨[(5, .bool x1.1), (6, hI x1.2)], []⟩ ?_
 refine AW.seqJ h (S := Bool) (V := Unit) (fun a v => ⟨[(4, .bool a)], []⟩) (fun a3 w4 h => ?_) (fun k5 h => ?_)
 ·obtain rfl := oi h
  exact AW.ret (ret_pure (.inr rfl) (resT rfl rfl) rfl trivial)
 refine AW.rg rfl fun K hK => mv rfl rfl (bv rfl (v_bin rfl rfl b_eql) (mv rfl rfl ?_))
 by_cases hg6 : x1.2 = 0
 ·have h := ifT hg6 h
  refine b_T rfl rfl rfl rfl (decide_eq_true hg6) (o_val rfl (mv_val rfl rfl).2 ?_)
  refine bv rfl (v_pickT rfl rfl rfl) (mv rfl rfl ?_)
  refine b_nil (hK _ ?_)
  exact to_L ⟨x1.1, (), h, rfl⟩
 have h := ifF hg6 h
 refine b_F rfl rfl rfl rfl rfl (decide_eq_false hg6) ?_
 refine bv rfl (v_pickF rfl rfl rfl) (mv rfl rfl ?_)
 refine b_nil (hK _ ?_)
 exact to_L ⟨false, (), h, rfl⟩
theorem w_merging_Check_1 {p0 : List UInt8} {c0 : TLabelsStatesEdges} {r : Bool} (h : m_merging_Check_1 p0 c0 = some r) : Pure Tryz.prog 19 [.str p0, gF c0] (· = HV.bool r) := by
 unfold m_merging_Check_1 at h
 refine Pure.of_body Tryz.func19 rfl rfl (lb rfl) fun hf => ?_
 unfold Tryz.f19
 dsimp only [enumS, Nat.reduceAdd]
 refine AW.rgs rfl fun K hK => mv rfl rfl ?_
 refine bf hK ⟨[(0, .str p0), (1, gF c0)], []⟩ ?_
 refine AW.rgs rfl fun K hK => bv rfl (v_loadF ty27 rfl (l_litA rfl (lb rfl) rfl)) (mv rfl rfl ?_)
 obtain ⟨x1, h2, h⟩ := bS h
 refine b_op rfl (o_call rfl rfl rfl rfl (ACallD.pure0 (w_merging_accepts h2)) ?_)
 refine bv rfl (v_not rfl) (mv rfl rfl ?_)
 refine bf hK ⟨[(3, .bool (!x1))], []⟩ ?_
 obtain rfl := oi h
 exact AW.ret (ret_pure (.inr rfl) (resT rfl rfl) rfl trivial)
theorem w_merging_joins_1 {p0 : List UInt8} {c0 : TLabelsStatesEdges} {c1 : List UInt8} {c2 : List UInt8} {r : Bool} (h : m_merging_joins_1 p0 c0 c1 c2 = some r) : Pure Tryz.prog 52 [.str p0, gF c0, .fptr [.str c1] 0, .fptr [.str c2] 0] (· = HV.bool r) := by
 unfold m_merging_joins_1 at h
 refine Pure.of_body Tryz.func52 rfl rfl (lb rfl) fun hf => ?_
 unfold Tryz.f52
 dsimp only [enumS, Nat.reduceAdd]
 refine AW.rgs rfl fun K hK => mv rfl rfl ?_
 refine bf hK ⟨[(0, .str p0), (1, gF c0), (2, .fptr [.str c1] 0), (3, .fptr [.str c2] 0)], []⟩ ?_
 refine AW.rgs rfl fun K hK => bv rfl (v_loadF ty27 rfl (l_litA rfl (lb rfl) rfl)) (bv rfl (v_loadF ty9 rfl (l_lit rfl rfl)) (mv rfl rfl ?_))
 obtain ⟨h1, h⟩ := ifN h
 refine bv rfl (v_bin rfl rfl (b_sadd h1)) (bv rfl (v_loadF ty9 rfl (l_lit rfl rfl)) ?_)
 obtain ⟨h2, h⟩ := ifN h
 refine bv rfl (v_bin rfl rfl (b_sadd h2)) ?_
 obtain ⟨x3, h4, h⟩ := bS h
 refine b_op rfl (o_call rfl rfl rfl rfl (ACallD.pure0 (w_merging_accepts h4)) ?_)
 refine mv rfl rfl ?_
 refine bf hK ⟨[(5, .bool x3)], []⟩ ?_
 obtain rfl := oi h
 exact AW.ret (ret_pure (.inr rfl) (resT rfl rfl) rfl trivial)
theorem w_merging_joins {p0 : TLabelsStatesEdges} {p1 : List (List UInt8)} {p2 : List UInt8} {p3 : List UInt8} {r : Bool} (h : m_merging_joins p0 p1 p2 p3 = some r) : Pure Tryz.prog 21 [gA p0, slE eStr p1, .str p2, .str p3] (· = HV.bool r) := by
 unfold m_merging_joins at h
 refine Pure.of_body Tryz.func21 rfl rfl (lb rfl) fun hf => ?_
 unfold Tryz.f21
 dsimp only [enumS, Nat.reduceAdd]
 refine AW.rgs rfl fun K hK => b_op rfl (o_box rfl rfl rfl ?_)
 refine b_op rfl (o_box rfl rfl rfl ?_)
 refine b_op rfl (o_box rfl rfl rfl ?_)
 refine mv rfl rfl ?_
 refine bf hK ⟨[(1, slE eStr p1), (4, gF p0), (6, .fptr [.str p2] 0), (7, .fptr [.str p3] 0)], []⟩ ?_
 refine AW.rgs rfl fun K hK => mv rfl rfl (bv rfl (v_func rfl rfl) ?_)
 obtain ⟨x1, h2, h⟩ := bS h
 refine b_op rfl (o_call rfl rfl rfl rfl (ACallD.pure0 (w_slices_ContainsFunc_Lstring_stringG h2 (fun _ _ h => w_merging_joins_1 h))) ?_)
 refine mv rfl rfl ?_
 refine bf hK ⟨[(8, .bool x1)], []⟩ ?_
 obtain rfl := oi h
 exact AW.ret (ret_pure (.inr rfl) (resT rfl rfl) rfl trivial)
theorem w_merging_Check {p0 : TWordsMerges} {p1 : TLabelsStatesEdges} {r : Int} (h : m_merging_Check p0 p1 = some r) : Pure Tryz.prog 7 [jA p0, gA p1] (· = hI r) := by
 unfold m_merging_Check at h
 refine Pure.of_body Tryz.func7 rfl rfl (lb rfl) fun hf => ?_
 unfold Tryz.f7
 dsimp only [enumS, Nat.reduceAdd]
 refine AW.rgs rfl fun K hK => b_op rfl (o_box rfl rfl rfl ?_)
 refine b_op rfl (o_box rfl rfl rfl ?_)
 refine mv rfl rfl ?_
 let P1 : ASf := fun t H => ⟨(2, jF p0) :: (3, gF p1) :: t, H⟩
 refine bf hK (P1 [] []) ?_
 refine AW.seq ?_
 refine AW.rgs rfl fun K hK => bv rfl (v_loadF ty27 rfl (l_litA rfl (lb rfl) rfl)) ?_
 obtain ⟨x1, h2, h⟩ := bS h
 refine b_op rfl (o_call rfl rfl rfl rfl (ACallD.pure0 (w_graph_Check h2)) ?_)
 refine bv rfl (v_bin rfl rfl b_neq) ?_
 refine bf hK (P1 [(12, .bool (decide (x1 ≠ 0)))] []) ?_
 refine AW.cond rfl (fun hc => ?_) (fun hc => ?_)
 ·obtain ⟨hc, h⟩ := cT hc h
  refine AW.rgs rfl fun K hK => mv rfl rfl ?_
  refine bf hK ⟨[(4, hI 1)], []⟩ ?_
  obtain rfl := oi h
  exact AW.ret (ret_pure (.inr rfl) (resT rfl rfl) rfl trivial)
 obtain ⟨hc, h⟩ := cF hc h
 refine AW.skip ?_
 refine AW.seq ?_
 refine AW.rgs rfl fun K hK => bv rfl (v_fieldAddrF fo27_0 rfl) (bv rfl (v_loadF ty3 rfl (l_lit rfl rfl)) (bv rfl (v_bin rfl rfl b_neq) ?_))
 refine bf hK (P1 [(15, .bool (decide (p1.1 ≠ 2)))] []) ?_
 refine AW.cond rfl (fun hc => ?_) (fun hc => ?_)
 ·obtain ⟨hc, h⟩ := cT hc h
  refine AW.rgs rfl fun K hK => mv rfl rfl ?_
  refine bf hK ⟨[(4, hI 12)], []⟩ ?_
  obtain rfl := oi h
  exact AW.ret (ret_pure (.inr rfl) (resT rfl rfl) rfl trivial)
 obtain ⟨hc, h⟩ := cF hc h
 refine AW.skip ?_
 refine AW.seq ?_
 refine AW.rgs rfl fun K hK => bv rfl (v_loadF ty24 rfl (l_litA rfl (lb rfl) rfl)) ?_
 obtain ⟨x3, h4, h⟩ := bS h
 refine b_op rfl (o_call rfl rfl rfl rfl (ACallD.pure0 (w_merging_form h4)) ?_)
 refine mv rfl rfl ?_
 refine bf hK (P1 [(5, hI x3)] []) ?_
 refine AW.rgs rfl fun K hK => mv rfl rfl (bv rfl (v_bin rfl rfl b_neq) ?_)
 refine bf hK (P1 [(5, hI x3), (19, .bool (decide (x3 ≠ 0)))] []) ?_
 refine AW.cond rfl (fun hc => ?_) (fun hc => ?_)
 ·obtain ⟨hc, h⟩ := cT hc h
  refine AW.rgs rfl fun K hK => mv rfl rfl (mv rfl rfl ?_)
  refine bf hK ⟨[(4, hI x3)], []⟩ ?_
  obtain rfl := oi h
  exact AW.ret (ret_pure (.inr rfl) (resT rfl rfl) rfl trivial)
 obtain ⟨hc, h⟩ := cF hc h
 refine AW.skip ?_
 refine AW.seq ?_
 refine AW.rgs rfl fun K hK => bv rfl (v_fieldAddrF fo24_0 rfl) (bv rfl (v_loadF ty22 rfl (l_lit rfl rfl)) (bv rfl (v_func rfl rfl) ?_))
 obtain ⟨x5, h6, h⟩ := bS h
 refine b_op rfl (o_call rfl rfl rfl rfl (ACallD.pure0 (w_slices_ContainsFunc_Lstring_stringG h6 (fun _ _ h => w_merging_Check_1 h))) ?_)
 refine bf hK (P1 [(24, .bool x5)] []) ?_
 refine AW.cond rfl (fun hc => ?_) (fun hc => ?_)
 ·have h := ifT hc h
  refine AW.rgs rfl fun K hK => mv rfl rfl ?_
  refine bf hK ⟨[(4, hI 13)], []⟩ ?_
  obtain rfl := oi h
  exact AW.ret (ret_pure (.inr rfl) (resT rfl rfl) rfl trivial)
 have h := ifF (bF' hc) h
 refine AW.skip ?_
 refine AW.seq ?_
 refine AW.rgs rfl fun K hK => bv rfl (v_fieldAddrF fo24_0 rfl) (bv rfl (v_loadF ty22 rfl (l_lit rfl rfl)) (bv rfl (v_lenF rfl rfl ty22 rfl) (mv rfl rfl ?_)))
 let E1 : Nat × HV := (27, hI ((p0.1).length : Int))
 refine bf hK (P1 [(26, slE eStr p0.1), E1, (28, hI 0)] []) ?_
 refine AW.lpR h (by first | exact up_then | exact up_to) (S := Int) (V := Unit) (fun a v => (P1 [(26, slE eStr p0.1), E1, (28, hI a)] [])) ?_ (X := Unit) (W := Unit) (fun a v => ⟨[], []⟩) (fun a23 w24 h => ?_) (fun a7 w8 st9 h hr10=> ?_)
 ·exact to_L ⟨(), rfl⟩
 ·refine AW.rgs rfl fun K hK => mv rfl rfl ?_
  refine bf hK ⟨[(4, hI 0)], []⟩ ?_
  obtain rfl := oi h
  exact AW.ret (ret_pure (.inr rfl) (resT rfl rfl) rfl trivial)
 refine AW.rgs rfl fun K hK => bv rfl (v_bin rfl rfl b_lss) ?_
 refine bf hK (P1 [(26, slE eStr p0.1), E1, (28, hI a7), (29, .bool (decide (a7 < ((p0.1).length : Int))))] []) ?_
 refine AW.cseq rfl (fun hc => ?_) (fun hc => ?_)
 ·obtain ⟨hc, h⟩ := cT hc h
  refine AW.skip ?_
  refine AW.seq (AW.block ?_)
  refine AW.rgs rfl fun K hK => ?_
  obtain ⟨x11, h12, h⟩ := bS h
  refine bv rfl (v_idxF ty22 es22 rfl rfl (idx_lt h12)) (bv rfl (v_loadF ty9 rfl (l_cell eStr h12 (o := 0) rfl rfl)) (mv rfl rfl ?_))
  refine bf hK (P1 [(7, .str x11), (26, slE eStr p0.1), E1, (28, hI a7)] []) ?_
  refine AW.rgs rfl fun K hK => bv rfl (v_fieldAddrF fo24_0 rfl) (bv rfl (v_loadF ty22 rfl (l_lit rfl rfl)) (bv rfl (v_lenF rfl rfl ty22 rfl) (mv rfl rfl ?_)))
  let E2 : Nat × HV := (34, hI ((p0.1).length : Int))
  refine bf hK (P1 [(7, .str x11), (26, slE eStr p0.1), E1, (28, hI a7), (33, slE eStr p0.1), E2, (35, hI 0)] []) ?_
  refine AW.lpR h (by first | exact up_then | exact up_to) (S := Int) (V := Unit) (fun a v => (P1 [(7, .str x11), (26, slE eStr p0.1), E1, (28, hI a7), (33, slE eStr p0.1), E2, (35, hI a)] [])) ?_ (X := Unit) (W := Unit) (fun a v => (P1 [(26, slE eStr p0.1), E1, (28, hI a7)] [])) (fun a21 w22 h => ?_) (fun a13 w14 st15 h hr16=> ?_)
  ·exact to_L ⟨(), rfl⟩
  ·refine AW.rg rfl fun K hK => bv rfl (v_bin rfl rfl b_add) (mv rfl rfl ?_)
   refine b_nil (hK _ ?_)
   exact to_L ⟨IntKind.wrap .i64 (a7 + 1), (), h, rfl⟩
  refine AW.rgs rfl fun K hK => bv rfl (v_bin rfl rfl b_lss) ?_
  refine bf hK (P1 [(7, .str x11), (26, slE eStr p0.1), E1, (28, hI a7), (33, slE eStr p0.1), E2, (35, hI a13), (36, .bool (decide (a13 < ((p0.1).length : Int))))] []) ?_
  refine AW.cseq rfl (fun hc => ?_) (fun hc => ?_)
  ·obtain ⟨hc, h⟩ := cT hc h
   refine AW.skip ?_
   refine AW.seq (AW.block ?_)
   refine AW.rgs rfl fun K hK => ?_
   obtain ⟨x17, h18, h⟩ := bS h
   refine bv rfl (v_idxF ty22 es22 rfl rfl (idx_lt h18)) (bv rfl (v_loadF ty9 rfl (l_cell eStr h18 (o := 0) rfl rfl)) (mv rfl rfl ?_))
   refine bf hK (P1 [(7, .str x11), (9, .str x17), (26, slE eStr p0.1), E1, (28, hI a7), (33, slE eStr p0.1), E2, (35, hI a13)] []) ?_
   refine AW.rgs rfl fun K hK => bv rfl (v_loadF ty27 rfl (l_litA rfl (lb rfl) rfl)) (bv rfl (v_fieldAddrF fo24_1 rfl) (bv rfl (v_loadF ty22 rfl (l_lit rfl rfl)) (mv rfl rfl (mv rfl rfl ?_))))
   obtain ⟨x19, h20, h⟩ := bS h
   refine b_op rfl (o_call rfl rfl rfl rfl (ACallD.pure0 (w_merging_joins h20)) ?_)
   refine bv rfl (v_not rfl) ?_
   refine bf hK (P1 [(7, .str x11), (26, slE eStr p0.1), E1, (28, hI a7), (33, slE eStr p0.1), E2, (35, hI a13), (45, .bool (!x19))] []) ?_
   refine AW.cond rfl (fun hc => ?_) (fun hc => ?_)
   ·have h := ifT hc h
    refine AW.rgs rfl fun K hK => mv rfl rfl ?_
    refine bf hK ⟨[(4, hI 15)], []⟩ ?_
    have h := hr16 _ h
    have h := hr10 _ h
    obtain rfl := oi h
    exact AW.ret (ret_pure (.inr rfl) (resT rfl rfl) rfl trivial)
   have h := ifF (bF' hc) h
   refine AW.skip ?_
   refine AW.rg rfl fun K hK => bv rfl (v_bin rfl rfl b_add) (mv rfl rfl ?_)
   refine b_nil (hK _ ?_)
   exact to_L ⟨IntKind.wrap .i64 (a13 + 1), (), h, rfl⟩
  obtain ⟨hc, h⟩ := cF hc h
  refine AW.exit ?_
  exact to_L ⟨(), (), h, rfl⟩
 obtain ⟨hc, h⟩ := cF hc h
 refine AW.exit ?_
 exact to_L ⟨(), (), h, rfl⟩
theorem w_merging_inputs_1 {p0 : Int} {c0 : TWordsMerges} {r : Bool} (h : m_merging_inputs_1 p0 c0 = some r) : Pure Tryz.prog 60 [hI p0, jF c0] (· = HV.bool r) := by
 unfold m_merging_inputs_1 at h
 refine Pure.of_body Tryz.func60 rfl rfl (lb rfl) fun hf => ?_
 unfold Tryz.f60
 dsimp only [enumS, Nat.reduceAdd]
 refine AW.rgs rfl fun K hK => mv rfl rfl ?_
 refine bf hK ⟨[(0, hI p0), (1, jF c0)], []⟩ ?_
 refine AW.seqJ h (S := Bool) (V := Unit) (fun a v => ⟨[(3, .bool a)], []⟩) (fun a1 w2 h => ?_) (fun k3 h => ?_)
 ·obtain rfl := oi h
  exact AW.ret (ret_pure (.inr rfl) (resT rfl rfl) rfl trivial)
 refine AW.rg rfl fun K hK => mv rfl rfl (bv rfl (v_bin rfl rfl b_lss) (mv rfl rfl ?_))
 by_cases hg4 : p0 < 0
 ·have h := ifT hg4 h
  refine b_F rfl rfl rfl rfl rfl (decide_eq_true hg4) ?_
  iterate 4 refine b_F rfl rfl rfl rfl rfl rfl ?_
  refine bv rfl (v_pickT rfl rfl rfl) (mv rfl rfl ?_)
  refine b_nil (hK _ ?_)
  exact to_L ⟨true, (), h, rfl⟩
 have h := ifF hg4 h
 refine b_T rfl rfl rfl rfl (decide_eq_false hg4) (o_val rfl (mv_val rfl rfl).2 ?_)
 refine b_T rfl rfl rfl rfl rfl (o_val rfl (v_fieldAddrF fo24_0 rfl) ?_)
 refine b_T rfl rfl rfl rfl rfl (o_val rfl (v_loadF ty22 rfl (l_lit rfl rfl)) ?_)
 refine b_T rfl rfl rfl rfl rfl (o_val rfl (v_lenF rfl rfl ty22 rfl) ?_)
 refine b_T rfl rfl rfl rfl rfl (o_val rfl (v_bin rfl rfl b_geq) ?_)
 refine bv rfl (v_pickF rfl rfl rfl) (mv rfl rfl ?_)
 refine b_nil (hK _ ?_)
 exact to_L ⟨decide (((c0.1).length : Int) ≤ p0), (), h, rfl⟩
theorem w_merging_inputs {p0 : TWordsMerges} {p1 : TLabelsStatesEdges} {p2 : List (Int)} {r : Int} (h : m_merging_inputs p0 p1 p2 = some r) : Pure Tryz.prog 25 [jA p0, gA p1, slE eInt p2] (· = hI r) := by
 unfold m_merging_inputs at h
 refine Pure.of_body Tryz.func25 rfl rfl (lb rfl) fun hf => ?_
 unfold Tryz.f25
 dsimp only [enumS, Nat.reduceAdd]
 refine AW.rgs rfl fun K hK => b_op rfl (o_box rfl rfl rfl ?_)
 refine b_op rfl (o_box rfl rfl rfl ?_)
 refine mv rfl rfl ?_
 refine bf hK ⟨[(2, slE eInt p2), (3, jF p0), (4, gF p1)], []⟩ ?_
 refine AW.seq ?_
 refine AW.rgs rfl fun K hK => bv rfl (v_loadF ty24 rfl (l_litA rfl (lb rfl) rfl)) (bv rfl (v_loadF ty27 rfl (l_litA rfl (lb rfl) rfl)) ?_)
 obtain ⟨x1, h2, h⟩ := bS h
 refine b_op rfl (o_call rfl rfl rfl rfl (ACallD.pure0 (w_merging_Check h2)) ?_)
 refine bv rfl (v_bin rfl rfl b_neq) ?_
 refine bf hK ⟨[(2, slE eInt p2), (3, jF p0), (10, .bool (decide (x1 ≠ 0)))], []⟩ ?_
 refine AW.cond rfl (fun hc => ?_) (fun hc => ?_)
 ·obtain ⟨hc, h⟩ := cT hc h
  refine AW.rgs rfl fun K hK => mv rfl rfl ?_
  refine bf hK ⟨[(6, hI 1)], []⟩ ?_
  obtain rfl := oi h
  exact AW.ret (ret_pure (.inr rfl) (resT rfl rfl) rfl trivial)
 obtain ⟨hc, h⟩ := cF hc h
 refine AW.skip ?_
 refine AW.seq ?_
 refine AW.rgs rfl fun K hK => mv rfl rfl (bv rfl (v_func rfl rfl) ?_)
 obtain ⟨x3, h4, h⟩ := bS h
 refine b_op rfl (o_call rfl rfl rfl rfl (ACallD.pure0 (w_slices_ContainsFunc_Lint_int h4 (fun _ _ h => w_merging_inputs_1 h))) ?_)
 refine bf hK ⟨[(13, .bool x3)], []⟩ ?_
 refine AW.cond rfl (fun hc => ?_) (fun hc => ?_)
 ·have h := ifT hc h
  refine AW.rgs rfl fun K hK => mv rfl rfl ?_
  refine bf hK ⟨[(6, hI 2)], []⟩ ?_
  obtain rfl := oi h
  exact AW.ret (ret_pure (.inr rfl) (resT rfl rfl) rfl trivial)
 have h := ifF (bF' hc) h
 refine AW.skip ?_
 refine AW.rgs rfl fun K hK => mv rfl rfl ?_
 refine bf hK ⟨[(6, hI 0)], []⟩ ?_
 obtain rfl := oi h
 exact AW.ret (ret_pure (.inr rfl) (resT rfl rfl) rfl trivial)
theorem w_runs_Disparity {p0 : List UInt8} {r : Int × Int} (h : m_runs_Disparity p0 = some r) : Pure Tryz.prog 15 [.str p0] (· = HV.tup [hI r.1, hI r.2]) := by
 unfold m_runs_Disparity at h
 refine Pure.of_body Tryz.func15 rfl rfl (lb rfl) fun hf => ?_
 unfold Tryz.f15
 dsimp only [enumS, Nat.reduceAdd]
 refine AW.rgs rfl fun K hK => mv rfl rfl (mv rfl rfl ?_)
 refine bf hK ⟨[(0, .str p0)], []⟩ ?_
 refine AW.seq ?_
 refine AW.rgs rfl fun K hK => mv rfl rfl ?_
 obtain ⟨x1, h2, h⟩ := bS h
 refine b_op rfl (o_call rfl rfl rfl rfl (ACallD.pure0 (w_word_Check h2)) ?_)
 refine mv rfl rfl ?_
 refine bf hK ⟨[(0, .str p0), (4, hI x1)], []⟩ ?_
 refine AW.rgs rfl fun K hK => mv rfl rfl (bv rfl (v_bin rfl rfl b_neq) ?_)
 refine bf hK ⟨[(0, .str p0), (4, hI x1), (8, .bool (decide (x1 ≠ 0)))], []⟩ ?_
 refine AW.cond rfl (fun hc => ?_) (fun hc => ?_)
 ·obtain ⟨hc, h⟩ := cT hc h
  refine AW.rgs rfl fun K hK => mv rfl rfl (mv rfl rfl (mv rfl rfl ?_))
  refine bf hK ⟨[(2, hI 0), (3, hI x1)], []⟩ ?_
  obtain rfl := oi h
  exact AW.ret (ret_pure (.inr rfl) (resT rfl (resT rfl rfl)) rfl ⟨trivial, trivial, trivial⟩)
 obtain ⟨hc, h⟩ := cF hc h
 refine AW.skip ?_
 refine AW.rgs rfl fun K hK => mv rfl rfl ?_
 obtain ⟨x3, h4, h⟩ := bS h
 refine b_op rfl (o_call rfl rfl rfl rfl (ACallD.pure0 (w_strings_Count h4)) ?_)
 refine bv rfl (v_bin rfl rfl b_mul) (mv rfl rfl (bv rfl (v_lenS rfl rfl ty9 rfl) (bv rfl (v_bin rfl rfl b_sub) (mv rfl rfl (mv rfl rfl ?_)))))
 refine bf hK ⟨[(2, hI (IntKind.wrap .i64 ((IntKind.wrap .i64 (2 * x3)) - ((p0).length : Int)))), (3, hI 0)], []⟩ ?_
 obtain rfl := oi h
 exact AW.ret (ret_pure (.inr rfl) (resT rfl (resT rfl rfl)) rfl ⟨trivial, trivial, trivial⟩)
theorem w_merging_weight {p0 : List UInt8} {r : Int} (h : m_merging_weight p0 = some r) : Pure Tryz.prog 28 [.str p0] (· = hI r) := by
 unfold m_merging_weight at h
 refine Pure.of_body Tryz.func28 rfl rfl (lb rfl) fun hf => ?_
 unfold Tryz.f28
 dsimp only [enumS, Nat.reduceAdd]
 refine AW.rgs rfl fun K hK => mv rfl rfl ?_
 refine bf hK ⟨[(0, .str p0)], []⟩ ?_
 refine AW.rgs rfl fun K hK => mv rfl rfl ?_
 obtain ⟨x1, h2, h⟩ := bS h
 refine b_op rfl (o_call rfl rfl rfl rfl (ACallD.pure0 (w_runs_Disparity h2)) ?_)
 refine mv rfl rfl (bv rfl (v_extract rfl rfl) (bv rfl (v_extract rfl rfl) (mv rfl rfl (mv rfl rfl ?_))))
 refine bf hK ⟨[(3, hI x1.1)], []⟩ ?_
 refine AW.rgs rfl fun K hK => mv rfl rfl (mv rfl rfl ?_)
 refine bf hK ⟨[(2, hI x1.1)], []⟩ ?_
 obtain rfl := oi h
 exact AW.ret (ret_pure (.inr rfl) (resT rfl rfl) rfl trivial)
theorem w_merging_step {p0 : TLabelsStatesEdges} {p1 : List (Int)} {p2 : List UInt8} {r : (List (Int))} (h : m_merging_step p0 p1 p2 = some r) : Pure Tryz.prog 29 [gA p0, slE eInt p1, .str p2] (· = slE eInt r) := by
 unfold m_merging_step at h
 refine Pure.of_body Tryz.func29 rfl rfl (lb rfl) fun hf => ?_
 unfold Tryz.f29
 dsimp only [enumS, Nat.reduceAdd]
 refine AW.rgs rfl fun K hK => b_op rfl (o_box rfl rfl rfl ?_)
 refine mv rfl rfl ?_
 refine bf hK ⟨[(1, slE eInt p1), (2, .str p2), (3, gF p0)], []⟩ ?_
 refine AW.seq ?_
 refine AW.rgs rfl fun K hK => mv rfl rfl (bv rfl (v_lenS rfl rfl ty9 rfl) (mv rfl rfl ?_))
 let E3 : Nat × HV := (9, hI ((p2).length : Int))
 refine bf hK ⟨[(1, slE eInt p1), (2, .str p2), (3, gF p0), E3, (10, hI 0)], []⟩ ?_
 refine AW.lpX h (by first | exact up_then | exact up_to) (S := (List Int) × Int) (V := Unit) (fun a v => ⟨[(1, slE eInt a.1), (2, .str p2), (3, gF p0), E3, (10, hI a.2)], []⟩) ?_ (X := (List Int)) (W := Unit) (fun a v => ⟨[(1, slE eInt a)], []⟩) (fun a11 w12 h => ?_) (fun a1 w2 st3 h => ?_)
 ·exact to_L ⟨(), rfl⟩
 ·refine AW.rgs rfl fun K hK => mv rfl rfl (mv rfl rfl ?_)
  refine bf hK ⟨[(6, slE eInt a11)], []⟩ ?_
  obtain rfl := oi h
  exact AW.ret (ret_pure (.inr rfl) (resT rfl rfl) rfl (clean_slE fun _ _ => ⟨trivial, trivial⟩))
 refine AW.rgs rfl fun K hK => bv rfl (v_bin rfl rfl b_lss) ?_
 refine bf hK ⟨[(1, slE eInt a1.1), (2, .str p2), (3, gF p0), E3, (10, hI a1.2), (11, .bool (decide (a1.2 < ((p2).length : Int))))], []⟩ ?_
 refine AW.cseq rfl (fun hc => ?_) (fun hc => ?_)
 ·obtain ⟨hc, h⟩ := cT hc h
  refine AW.skip ?_
  refine AW.seq (AW.block ?_)
  refine AW.rgs rfl fun K hK => mv rfl rfl (mv rfl rfl ?_)
  refine bf hK ⟨[(1, slE eInt a1.1), (2, .str p2), (3, gF p0), (7, hI a1.2), E3, (10, hI a1.2)], []⟩ ?_
  refine AW.dg 11 follows rfl rfl fun K hK => ?_
  refine sv rfl (v_loadF ty27 rfl (l_litA rfl (lb rfl) rfl)) ?_
  iterate 3 refine sm rfl rfl ?_
  obtain ⟨x5, h6, h⟩ := bS h
  refine sv rfl (v_idxS ty9 rfl rfl h6) ?_
  obtain ⟨x7, h8, h⟩ := bS h
  refine s_op rfl rfl (ops_call rfl rfl rfl rfl (ACallD.pure0 (w_strings_IndexByte h8)) ?_)
  obtain ⟨x9, h10, h⟩ := bS h
  refine s_op rfl rfl (ops_call rfl rfl rfl rfl (ACallD.pure0 (w_graph_Step h10)) ?_)
  refine sm rfl rfl ?_
  refine sv rfl (v_extract rfl rfl) ?_
  refine sv rfl (v_extract rfl rfl) ?_
  refine sm rfl rfl ?_
  refine s_nil ?_
  refine bf hK ⟨[(1, slE eInt x9.1), (2, .str p2), (3, gF p0), E3, (10, hI a1.2)], []⟩ ?_
  refine AW.rg rfl fun K hK => bv rfl (v_bin rfl rfl b_add) (mv rfl rfl ?_)
  refine b_nil (hK _ ?_)
  exact to_L ⟨(x9.1, IntKind.wrap .i64 (a1.2 + 1)), (), h, rfl⟩
 obtain ⟨hc, h⟩ := cF hc h
 refine AW.exit ?_
 exact to_L ⟨a1.1, (), h, rfl⟩
theorem w_merging_Encode {p0 : TWordsMerges} {p1 : TLabelsStatesEdges} {p2 : List (Int)} {r : (List UInt8) × Int} (h : m_merging_Encode p0 p1 p2 = some r) : Pure Tryz.prog 9 [jA p0, gA p1, slE eInt p2] (· = HV.tup [.str r.1, hI r.2]) := by
 unfold m_merging_Encode at h
 refine Pure.of_body Tryz.func9 rfl rfl (lb rfl) fun hf => ?_
 unfold Tryz.f9
 dsimp only [enumS, Nat.reduceAdd]
 refine AW.rgs rfl fun K hK => b_op rfl (o_box rfl rfl rfl ?_)
 refine b_op rfl (o_box rfl rfl rfl ?_)
 refine mv rfl rfl (mv rfl rfl ?_)
 let P1 : ASf := fun t H => ⟨(2, slE eInt p2) :: (3, jF p0) :: (4, gF p1) :: t, H⟩
 refine bf hK (P1 [] []) ?_
 refine AW.seq ?_
 refine AW.rgs rfl fun K hK => bv rfl (v_loadF ty24 rfl (l_litA rfl (lb rfl) rfl)) (bv rfl (v_loadF ty27 rfl (l_litA rfl (lb rfl) rfl)) (mv rfl rfl ?_))
 obtain ⟨x1, h2, h⟩ := bS h
 refine b_op rfl (o_call rfl rfl rfl rfl (ACallD.pure0 (w_merging_inputs h2)) ?_)
 refine mv rfl rfl ?_
 refine bf hK (P1 [(8, hI x1)] []) ?_
 refine AW.rgs rfl fun K hK => mv rfl rfl (bv rfl (v_bin rfl rfl b_neq) ?_)
 refine bf hK (P1 [(8, hI x1), (25, .bool (decide (x1 ≠ 0)))] []) ?_
 refine AW.cond rfl (fun hc => ?_) (fun hc => ?_)
 ·obtain ⟨hc, h⟩ := cT hc h
  refine AW.rgs rfl fun K hK => mv rfl rfl (mv rfl rfl (mv rfl rfl ?_))
  refine bf hK ⟨[(6, .str nS), (7, hI x1)], []⟩ ?_
  obtain rfl := oi h
  exact AW.ret (ret_pure (.inr rfl) (resT rfl (resT rfl rfl)) rfl ⟨trivial, trivial, trivial⟩)
 obtain ⟨hc, h⟩ := cF hc h
 refine AW.skip ?_
 refine AW.seq ?_
 refine AW.rgs rfl fun K hK => mv rfl rfl (bv rfl (v_lenF rfl rfl ty36 rfl) (bv rfl (v_bin rfl rfl b_eql) ?_))
 refine bf hK (P1 [(29, .bool (decide (((p2).length : Int) = 0)))] []) ?_
 refine AW.cond rfl (fun hc => ?_) (fun hc => ?_)
 ·obtain ⟨hc, h⟩ := cT hc h
  refine AW.rgs rfl fun K hK => mv rfl rfl (mv rfl rfl ?_)
  refine bf hK ⟨[(6, .str nS), (7, hI 0)], []⟩ ?_
  obtain rfl := oi h
  exact AW.ret (ret_pure (.inr rfl) (resT rfl (resT rfl rfl)) rfl ⟨trivial, trivial, trivial⟩)
 obtain ⟨hc, h⟩ := cF hc h
 refine AW.skip ?_
 refine AW.dgs 12 follows rfl rfl fun K hK => ?_
 refine sv rfl (v_fieldAddrF fo24_0 rfl) ?_
 refine sv rfl (v_loadF ty22 rfl (l_lit rfl rfl)) ?_
 obtain ⟨x3, h4, h⟩ := bS h
 refine sv rfl (v_idxF ty22 es22 rfl rfl (idx_lt h4)) ?_
 refine sv rfl (v_loadF ty9 rfl (l_cell eStr h4 (o := 0) rfl rfl)) ?_
 refine sv rfl (v_lenS rfl rfl ty9 rfl) ?_
 refine sv rfl (v_fieldAddrF fo24_1 rfl) ?_
 refine sv rfl (v_loadF ty22 rfl (l_lit rfl rfl)) ?_
 obtain ⟨x5, h6, h⟩ := bS h
 refine sv rfl (v_idxF ty22 es22 rfl rfl (idx_lt h6)) ?_
 refine sv rfl (v_loadF ty9 rfl (l_cell eStr h6 (o := 0) rfl rfl)) ?_
 refine sv rfl (v_lenS rfl rfl ty9 rfl) ?_
 iterate 2 refine sm rfl rfl ?_
 refine s_nil ?_
 refine bf hK (P1 [(9, hI ((x3).length : Int)), (10, hI ((x5).length : Int))] []) ?_
 refine AW.seq ?_
 refine AW.rgs rfl fun K hK => mv rfl rfl (bv rfl (v_lenF rfl rfl ty36 rfl) (mv rfl rfl (bv rfl (v_bin rfl rfl b_add) (mv rfl rfl (mv rfl rfl ?_)))))
 refine bv rfl (v_bin rfl rfl b_add) ?_
 obtain ⟨h7, h⟩ := ifN h
 refine bv rfl (v_bin rfl rfl (b_quo h7)) (bv rfl (v_bin rfl rfl b_gtr) ?_)
 refine bf hK (P1 [(48, .bool (decide ((IntKind.wrap .i64 (Int.tdiv (IntKind.wrap .i64 (65536 + ((x5).length : Int))) (IntKind.wrap .i64 (((x3).length : Int) + ((x5).length : Int))))) < ((p2).length : Int))))] []) ?_
 refine AW.cond rfl (fun hc => ?_) (fun hc => ?_)
 ·obtain ⟨hc, h⟩ := cT hc h
  refine AW.rgs rfl fun K hK => mv rfl rfl (mv rfl rfl ?_)
  refine bf hK ⟨[(6, .str nS), (7, hI 4)], []⟩ ?_
  obtain rfl := oi h
  exact AW.ret (ret_pure (.inr rfl) (resT rfl (resT rfl rfl)) rfl ⟨trivial, trivial, trivial⟩)
 obtain ⟨hc, h⟩ := cF hc h
 refine AW.skip ?_
 refine AW.rgs rfl fun K hK => bv rfl (v_fieldAddrF fo27_1 rfl) (bv rfl (v_loadF ty3 rfl (l_lit rfl rfl)) ?_)
 obtain ⟨h9, h⟩ := ifN h
 refine b_op rfl (o_makeE (fid := 9) eInt (0 : Int) 9051 rfl rfl ty36 rfl rfl ty3 rfl rfl h9 (fun v8 => ?_))
 refine b_op rfl (o_alloc (fid := 9) (zs := [.v (.slice none 0 0)]) 9011 rfl rfl ty36 rfl (fun v10 => ?_))
 refine b_op rfl (o_store (cs := [.ar 9051 v8 eInt.k 0 ((List.replicate (p1.2.1).toNat (0 : Int)).length)]) (zs := [.ar 9051 v8 eInt.k 0 ((List.replicate (p1.2.1).toNat (0 : Int)).length)]) rfl rfl rfl ty36 rfl rfl rfl rfl rfl ?_)
 let O1 : Nat × Nat × AObj := (9051, v8, .arr eInt.k 3 (eInt.E (List.replicate (p1.2.1).toNat (0 : Int))))
 let O2 : Nat × Nat × AObj := (9011, v10, .arr 1 36 [.ar 9051 v8 eInt.k 0 ((List.replicate (p1.2.1).toNat (0 : Int)).length)])
 refine bf hK (P1 [(11, .ptr 9011 v10 0)] [O1, O2]) ?_
 refine AW.seq ?_
 refine AW.rgs rfl fun K hK => bv rfl (v_loadP ty36 rfl rfl (l_lit rfl rfl)) (bv rfl (v_lenA rfl rfl ty36 rfl rfl) (mv rfl rfl ?_))
 let E3 : Nat × HV := (53, hI (((List.replicate (p1.2.1).toNat (0 : Int)).length : Nat) : Int))
 refine bf hK (P1 [(11, .ptr 9011 v10 0), E3, (54, hI 0)] [O1, O2]) ?_
 refine AW.lpX h (by first | exact up_then | exact up_to) (S := Int × (List Int)) (V := Unit) (fun a v => (P1 [(11, .ptr 9011 v10 0), E3, (54, hI a.1)] [(9011, v10, .arr 1 36 [.ar 9051 v8 eInt.k 0 ((a.2).length)]), (9051, v8, .arr eInt.k 3 (eInt.E a.2))])) ?_ (X := (List Int)) (W := Unit) (fun a v => (P1 [(11, .ptr 9011 v10 0)] [(9011, v10, .arr 1 36 [.ar 9051 v8 eInt.k 0 ((a).length)]), (9051, v8, .arr eInt.k 3 (eInt.E a))])) (fun a17 w18 h => ?_) (fun a11 w12 st13 h => ?_)
 ·exact to_L ⟨(), rfl⟩
 ·refine AW.rgs rfl fun K hK => b_op rfl (o_alloc (fid := 9) (zs := [.v (.pointer none), .v (.slice none 0 0)]) 9013 rfl rfl ty69 rfl (fun v19 => ?_))
  refine b_to (to_ownC 9513 9013 v19 2 1 1 5 69 rfl rfl (by decide) fun v20 => ?_)
  let O4 : Nat × Nat × AObj := (9011, v10, .arr 1 36 [.ar 9051 v8 eInt.k 0 ((a17).length)])
  let O5 : Nat × Nat × AObj := (9051, v8, .arr eInt.k 3 (eInt.E a17))
  let O6 : Nat × Nat × AObj := (9013, v19, bldO 9013 v19 9513 v20 false nS)
  refine bf hK (P1 [(11, .ptr 9011 v10 0), (13, .ptr 9013 v19 0)] [O4, O5, O6, (9513, v20, bytO nS)]) ?_
  refine AW.rgs rfl fun K hK => b_op rfl (o_alloc (fid := 9) (zs := [hI 0]) 9014 rfl rfl ty3 rfl (fun v21 => ?_))
  refine b_op rfl (o_store (cs := [hI 0]) (zs := [hI 0]) rfl rfl rfl ty3 rfl rfl rfl rfl rfl ?_)
  refine bf hK (P1 [(11, .ptr 9011 v10 0), (13, .ptr 9013 v19 0), (14, .ptr 9014 v21 0)] [O4, O5, O6, (9513, v20, bytO nS), (9014, v21, .arr 1 3 [hI 0])]) ?_
  refine AW.rgs rfl fun K hK => bv rfl (v_func rfl rfl) (mv rfl rfl ?_)
  let E7 : Nat × HV := (15, .fn (.func 26) [] [.ptr 9013 v19 0, .ptr 9014 v21 0, gF p1, .ptr 9011 v10 0])
  refine bf hK (P1 [(11, .ptr 9011 v10 0), (13, .ptr 9013 v19 0), (14, .ptr 9014 v21 0), E7] [O4, O5, O6, (9513, v20, bytO nS), (9014, v21, .arr 1 3 [hI 0])]) ?_
  refine AW.dgs 8 follows rfl rfl fun K hK => ?_
  refine sm rfl rfl ?_
  refine sv rfl (v_fieldAddrF fo24_0 rfl) ?_
  refine sv rfl (v_loadF ty22 rfl (l_lit rfl rfl)) ?_
  refine sm rfl rfl ?_
  obtain ⟨x22, h23, h⟩ := bS h
  refine sv rfl (v_idxF ty36 es36 rfl rfl (idx_lt h23)) ?_
  refine sv rfl (v_loadF ty3 rfl (l_cell eInt h23 (o := 0) rfl rfl)) ?_
  obtain ⟨x24, h25, h⟩ := bS h
  refine sv rfl (v_idxF ty22 es22 rfl rfl (idx_lt h25)) ?_
  refine sv rfl (v_loadF ty9 rfl (l_cell eStr h25 (o := 0) rfl rfl)) ?_
  refine s_nil ?_
  refine b_op rfl (o_callJ h (S := (List Int) × Int) (V := Nat) (fun a v => (P1 [(11, .ptr 9011 v10 0), (13, .ptr 9013 v19 0), (14, .ptr 9014 v21 0), E7, (71, .tup [])] [(9011, v10, .arr 1 36 [slE eInt a.1]), (9013, v19, bldO 9013 v19 9513 v true (nS ++ x24)), (9513, v, bytO (nS ++ x24)), (9014, v21, .arr 1 3 [hI a.2])])) rfl rfl rfl rfl (fun a26 w27 h => ?_) (fun k28 h => ?_) )
  ·refine bf hK (P1 [(11, .ptr 9011 v10 0), (13, .ptr 9013 v19 0), (14, .ptr 9014 v21 0), E7] [(9011, v10, .arr 1 36 [slE eInt a26.1]), (9013, v19, bldO 9013 v19 9513 w27 true (nS ++ x24)), (9513, w27, bytO (nS ++ x24)), (9014, v21, .arr 1 3 [hI a26.2])]) ?_
   refine AW.seq ?_
   refine AW.rgs rfl fun K hK => mv rfl rfl ?_
   obtain ⟨h29, h⟩ := ifN h
   refine bv rfl (v_sliceF eInt ty36 es36 rfl rfl rfl h29) (bv rfl (v_lenF rfl rfl ty36 rfl) (mv rfl rfl ?_))
   let E8 : Nat × HV := (73, slE eInt ((p2.take (((p2).length : Int)).toNat).drop (1 : Int).toNat))
   let E9 : Nat × HV := (74, hI (((p2.take (((p2).length : Int)).toNat).drop (1 : Int).toNat).length : Int))
   let P2 : ASf := fun t H => ⟨(3, jF p0) :: (4, gF p1) :: (11, .ptr 9011 v10 0) :: (13, .ptr 9013 v19 0) :: (14, .ptr 9014 v21 0) :: E7 :: t, H⟩
   refine bf hK (P2 [E8, E9, (75, hI 0)] [(9011, v10, .arr 1 36 [slE eInt a26.1]), (9013, v19, bldO 9013 v19 9513 w27 true (nS ++ x24)), (9513, w27, bytO (nS ++ x24)), (9014, v21, .arr 1 3 [hI a26.2])]) ?_
   refine AW.lpR h (by first | exact up_then | exact up_to) (S := Int × (List Int) × (List UInt8) × Int) (V := Nat) (fun a v => (P2 [E8, E9, (75, hI a.1)] [(9011, v10, .arr 1 36 [slE eInt a.2.1]), (9013, v19, bldO 9013 v19 9513 v true a.2.2.1), (9513, v, bytO a.2.2.1), (9014, v21, .arr 1 3 [hI a.2.2.2])])) ?_ (X := (List UInt8)) (W := Nat) (fun a v => ⟨[(13, .ptr 9013 v19 0)], [(9013, v19, bldO 9013 v19 9513 v true a), (9513, v, bytO a)]⟩) (fun a81 w82 h => ?_) (fun a30 w31 st32 h hr33=> ?_)
   ·exact to_L ⟨w27, rfl⟩
   ·refine AW.rgs rfl fun K hK => b_op rfl (o_callA rfl rfl rfl rfl (c_String (id := 9013) (ver := v19) (aid := 9513) (aver := w82) (u := true) (l := a81) rfl rfl fun v83 => ?_) )
    refine mv rfl rfl (mv rfl rfl ?_)
    refine bf hK ⟨[(6, .str a81), (7, hI 0)], []⟩ ?_
    obtain rfl := oi h
    exact AW.ret (ret_pure (.inr rfl) (resT rfl (resT rfl rfl)) rfl ⟨trivial, trivial, trivial⟩)
   refine AW.rgs rfl fun K hK => bv rfl (v_bin rfl rfl b_lss) ?_
   let O10 : Nat × Nat × AObj := (9011, v10, .arr 1 36 [slE eInt a30.2.1])
   let O11 : Nat × Nat × AObj := (9013, v19, bldO 9013 v19 9513 w31 true a30.2.2.1)
   let O12 : Nat × Nat × AObj := (9513, w31, bytO a30.2.2.1)
   let O13 : Nat × Nat × AObj := (9014, v21, .arr 1 3 [hI a30.2.2.2])
   refine bf hK (P2 [E8, E9, (75, hI a30.1), (76, .bool (decide (a30.1 < (((p2.take (((p2).length : Int)).toNat).drop (1 : Int).toNat).length : Int))))] [O10, O11, O12, O13]) ?_
   refine AW.cseq rfl (fun hc => ?_) (fun hc => ?_)
   ·obtain ⟨hc, h⟩ := cT hc h
    refine AW.skip ?_
    refine AW.seq (AW.block ?_)
    refine AW.rgs rfl fun K hK => ?_
    obtain ⟨x34, h35, h⟩ := bS h
    refine bv rfl (v_idxF ty36 es36 rfl rfl (idx_lt h35)) (bv rfl (v_loadF ty3 rfl (l_cell eInt h35 (o := 0) rfl rfl)) ?_)
    refine b_op rfl (o_alloc (fid := 9) (zs := [hI 0]) 9017 rfl rfl ty3 rfl (fun v36 => ?_))
    refine b_op rfl (o_store (cs := [hI x34]) (zs := [hI x34]) rfl rfl rfl ty3 rfl rfl rfl rfl rfl ?_)
    let O14 : Nat × Nat × AObj := (9017, v36, .arr 1 3 [hI x34])
    refine bf hK (P2 [(17, .ptr 9017 v36 0), E8, E9, (75, hI a30.1)] [O10, O11, O12, O13, O14]) ?_
    refine AW.rgs rfl fun K hK => bv rfl (v_fieldAddrF fo24_1 rfl) (bv rfl (v_loadF ty22 rfl (l_lit rfl rfl)) (bv rfl (v_func rfl rfl) ?_))
    refine b_op rfl (o_callJ h (S := (List UInt8) × Bool) (V := Unit) (fun a v => (P2 [(17, .ptr 9017 v36 0), E8, E9, (75, hI a30.1), (83, .tup [.str a.1, .bool a.2])] [O10, O11, O12, O13, O14])) rfl rfl rfl rfl (fun a37 w38 h => ?_) (fun k39 h => ?_) )
    ·refine mv rfl rfl (bv rfl (v_extract rfl rfl) (bv rfl (v_extract rfl rfl) (mv rfl rfl (mv rfl rfl ?_))))
     refine bf hK (P2 [(17, .ptr 9017 v36 0), (18, .str a37.1), (19, .bool a37.2), E8, E9, (75, hI a30.1)] [O10, O11, O12, O13, O14]) ?_
     refine AW.seq ?_
     refine AW.rgs rfl fun K hK => mv rfl rfl (bv rfl (v_not rfl) ?_)
     refine bf hK (P2 [(17, .ptr 9017 v36 0), (18, .str a37.1), E8, E9, (75, hI a30.1), (87, .bool (!a37.2))] [O10, O11, O12, O13, O14]) ?_
     refine AW.cond rfl (fun hc => ?_) (fun hc => ?_)
     ·have h := ifT hc h
      refine AW.rgs rfl fun K hK => mv rfl rfl (mv rfl rfl ?_)
      refine bf hK ⟨[(6, .str nS), (7, hI 13)], []⟩ ?_
      have h := hr33 _ h
      obtain rfl := oi h
      exact AW.ret (ret_pure (.inr rfl) (resT rfl (resT rfl rfl)) rfl ⟨trivial, trivial, trivial⟩)
     have h := ifF (bF' hc) h
     refine AW.skip ?_
     refine AW.rg rfl fun K hK => mv rfl rfl (mv rfl rfl (bv rfl (v_fieldAddrF fo24_0 rfl) (bv rfl (v_loadF ty22 rfl (l_lit rfl rfl)) (bv rfl (v_loadP ty3 rfl rfl (l_lit rfl rfl)) ?_))))
     obtain ⟨x40, h41, h⟩ := bS h
     refine bv rfl (v_idxF ty22 es22 rfl rfl (idx_lt h41)) (bv rfl (v_loadF ty9 rfl (l_cell eStr h41 (o := 0) rfl rfl)) ?_)
     obtain ⟨h42, h⟩ := ifN h
     refine bv rfl (v_bin rfl rfl (b_sadd h42)) ?_
     refine b_op rfl (o_callJ h (S := (List Int) × Int) (V := Nat) (fun a v => (P2 [E8, E9, (75, hI a30.1), (96, .tup [])] [(9011, v10, .arr 1 36 [slE eInt a.1]), (9013, v19, bldO 9013 v19 9513 v true (a30.2.2.1 ++ (a37.1 ++ x40))), (9513, v, bytO (a30.2.2.1 ++ (a37.1 ++ x40))), (9014, v21, .arr 1 3 [hI a.2])])) rfl rfl rfl rfl (fun a43 w44 h => ?_) (fun k45 h => ?_) )
     ·refine bf hK (P2 [E8, E9, (75, hI a30.1)] [(9011, v10, .arr 1 36 [slE eInt a43.1]), (9013, v19, bldO 9013 v19 9513 w44 true (a30.2.2.1 ++ (a37.1 ++ x40))), (9513, w44, bytO (a30.2.2.1 ++ (a37.1 ++ x40))), (9014, v21, .arr 1 3 [hI a43.2])]) ?_
      refine AW.rg rfl fun K hK => bv rfl (v_bin rfl rfl b_add) (mv rfl rfl ?_)
      refine b_nil (hK _ ?_)
      exact to_L ⟨(IntKind.wrap .i64 (a30.1 + 1), a43.1, a30.2.2.1 ++ (a37.1 ++ x40), a43.2), w44, h, rfl⟩
     refine ACall.of_body Tryz.func26 rfl rfl (lb rfl) ?_
     unfold Tryz.f26
     dsimp only [enumS, Nat.reduceAdd]
     refine AW.fin ?_
     refine AW.rgs rfl fun K hK => mv rfl rfl ?_
     obtain ⟨h47, h⟩ := ifN h
     refine b_op rfl (o_callA rfl rfl rfl rfl (c_WriteString (id := 9013) (ver := v19) (aid := 9513) (aver := w31) (u := true) (l := a30.2.2.1) (m := (a37.1 ++ x40)) (by decide) rfl rfl h47 fun v46 => ?_) )
     let O15 : Nat × Nat × AObj := (9013, v19, bldO 9013 v19 9513 v46 true (a30.2.2.1 ++ (a37.1 ++ x40)))
     let P3 : ASf := fun t H => ⟨(0, .str (a37.1 ++ x40)) :: t, O10 :: O15 :: (9513, v46, bytO (a30.2.2.1 ++ (a37.1 ++ x40))) :: H⟩
     refine bf hK (P3 [(2, .ptr 9014 v21 0), (3, gF p1), (4, .ptr 9011 v10 0)] [O13, O14]) ?_
     refine AW.dgs 4 follows rfl rfl fun K hK => ?_
     refine sv rfl (v_loadP ty3 rfl rfl (l_lit rfl rfl)) ?_
     refine sm rfl rfl ?_
     obtain ⟨x48, h49, h⟩ := bS h
     refine s_op rfl rfl (ops_call rfl rfl rfl rfl (ACallD.pure0 (w_merging_weight h49)) ?_)
     refine sv rfl (v_bin rfl rfl b_add) ?_
     refine s_nil ?_
     refine b_op rfl (o_store (cs := [hI (IntKind.wrap .i64 (a30.2.2.2 + x48))]) (zs := [hI (IntKind.wrap .i64 (a30.2.2.2 + x48))]) rfl rfl rfl ty3 rfl rfl rfl rfl rfl ?_)
     refine bf hK (P3 [(3, gF p1), (4, .ptr 9011 v10 0)] [(9014, v21, .arr 1 3 [hI (IntKind.wrap .i64 (a30.2.2.2 + x48))]), O14]) ?_
     refine AW.rg rfl fun K hK => bv rfl (v_loadF ty27 rfl (l_litA rfl (lb rfl) rfl)) (bv rfl (v_loadP ty36 rfl rfl (l_lit rfl rfl)) (mv rfl rfl ?_))
     obtain ⟨x50, h51, h⟩ := bS h
     refine b_op rfl (o_call rfl rfl rfl rfl (ACallD.pure0 (w_merging_step h51)) ?_)
     refine b_op rfl (o_store (cs := [slE eInt x50]) (zs := [slE eInt x50]) rfl rfl rfl ty36 rfl rfl rfl rfl rfl ?_)
     refine b_nil (hK _ ?_)
     refine to_refl ?_
     refine ret_to (hs := []) (q := HV.tup []) (.inl rfl) rfl rfl ?_
     exact to_L ⟨(x50, IntKind.wrap .i64 (a30.2.2.2 + x48)), v46, h, rfl⟩
    refine ACall.of_body Tryz.func30 rfl rfl (lb rfl) ?_
    unfold Tryz.f30
    dsimp only [enumS, Nat.reduceAdd]
    refine AW.fin ?_
    refine AW.rgs rfl fun K hK => mv rfl rfl (mv rfl rfl ?_)
    let E16 : Nat × HV := (1, .fn (.func 31) [] [.ptr 9014 v21 0, jF p0, .ptr 9017 v36 0, gF p1, .ptr 9011 v10 0])
    let P4 : ASf := fun t H => ⟨t, O10 :: O11 :: O12 :: O13 :: O14 :: H⟩
    refine bf hK (P4 [(0, slE eStr p0.2), E16] []) ?_
    refine AW.rgs rfl fun K hK => mv rfl rfl ?_
    refine bf hK (P4 [(0, slE eStr p0.2), E16, (6, .str nS)] []) ?_
    refine AW.rgs rfl fun K hK => mv rfl rfl (mv rfl rfl ?_)
    refine bf hK (P4 [(0, slE eStr p0.2), E16, (6, .str nS), (7, hI 0), (8, .bool false)] []) ?_
    refine AW.seq ?_
    refine AW.rgs rfl fun K hK => mv rfl rfl (bv rfl (v_lenF rfl rfl ty22 rfl) (mv rfl rfl ?_))
    let E17 : Nat × HV := (14, hI ((p0.2).length : Int))
    refine bf hK (P4 [E16, (6, .str nS), (7, hI 0), (8, .bool false), (13, slE eStr p0.2), E17, (15, hI 0)] []) ?_
    refine AW.lpX h (by first | exact up_then | exact up_to) (S := (List UInt8) × Int × Bool × Int) (V := Unit) (fun a v => (P4 [E16, (6, .str a.1), (7, hI a.2.1), (8, .bool a.2.2.1), (13, slE eStr p0.2), E17, (15, hI a.2.2.2)] [])) ?_ (X := (List UInt8) × Bool) (W := Unit) (fun a v => (P4 [(6, .str a.1), (8, .bool a.2)] [])) (fun a79 w80 h => ?_) (fun a52 w53 st54 h => ?_)
    ·exact to_L ⟨(), rfl⟩
    ·refine AW.rgs rfl fun K hK => mv rfl rfl (mv rfl rfl (mv rfl rfl (mv rfl rfl ?_)))
     refine bf hK (P4 [(4, .str a79.1), (5, .bool a79.2)] []) ?_
     refine AW.ret ?_
     refine ret_to (hs := [.str a79.1, .bool a79.2]) (q := HV.tup [.str a79.1, .bool a79.2]) (.inr rfl) (resT rfl (resT rfl rfl)) rfl ?_
     exact to_L ⟨(a79.1, a79.2), (), h, rfl⟩
    refine AW.rgs rfl fun K hK => bv rfl (v_bin rfl rfl b_lss) ?_
    refine bf hK (P4 [E16, (6, .str a52.1), (7, hI a52.2.1), (8, .bool a52.2.2.1), (13, slE eStr p0.2), E17, (15, hI a52.2.2.2), (16, .bool (decide (a52.2.2.2 < ((p0.2).length : Int))))] []) ?_
    refine AW.cseq rfl (fun hc => ?_) (fun hc => ?_)
    ·obtain ⟨hc, h⟩ := cT hc h
     refine AW.skip ?_
     refine AW.seqJ h (S := (List UInt8) × Int × Bool) (V := Unit) (fun a v => (P4 [E16, (6, .str a.1), (7, hI a.2.1), (8, .bool a.2.2), (13, slE eStr p0.2), E17, (15, hI a52.2.2.2)] [])) (fun a56 w57 h => ?_) (fun k58 h => ?_)
     ·refine AW.rg rfl fun K hK => bv rfl (v_bin rfl rfl b_add) (mv rfl rfl ?_)
      refine b_nil (hK _ ?_)
      exact to_L ⟨(a56.1, a56.2.1, a56.2.2, IntKind.wrap .i64 (a52.2.2.2 + 1)), (), h, rfl⟩
     refine AW.block ?_
     refine AW.rgs rfl fun K hK => ?_
     obtain ⟨x59, h60, h⟩ := bS h
     refine bv rfl (v_idxF ty22 es22 rfl rfl (idx_lt h60)) (bv rfl (v_loadF ty9 rfl (l_cell eStr h60 (o := 0) rfl rfl)) (mv rfl rfl ?_))
     refine bf hK (P4 [E16, (6, .str a52.1), (7, hI a52.2.1), (8, .bool a52.2.2.1), (10, .str x59), (13, slE eStr p0.2), E17, (15, hI a52.2.2.2)] []) ?_
     refine AW.rgs rfl fun K hK => mv rfl rfl (mv rfl rfl ?_)
     refine b_op rfl (o_callJ h (S := Int × Bool) (V := Unit) (fun a v => (P4 [E16, (6, .str a52.1), (7, hI a52.2.1), (8, .bool a52.2.2.1), (10, .str x59), (13, slE eStr p0.2), E17, (15, hI a52.2.2.2), (22, .tup [hI a.1, .bool a.2])] [])) rfl rfl rfl rfl (fun a61 w62 h => ?_) (fun k63 h => ?_) )
     ·refine mv rfl rfl (bv rfl (v_extract rfl rfl) (bv rfl (v_extract rfl rfl) (mv rfl rfl (mv rfl rfl ?_))))
      refine bf hK (P4 [E16, (6, .str a52.1), (7, hI a52.2.1), (8, .bool a52.2.2.1), (10, .str x59), (11, hI a61.1), (12, .bool a61.2), (13, slE eStr p0.2), E17, (15, hI a52.2.2.2)] []) ?_
      refine AW.seqJ h (S := Bool) (V := Unit) (fun a v => (P4 [E16, (6, .str a52.1), (7, hI a52.2.1), (8, .bool a52.2.2.1), (10, .str x59), (11, hI a61.1), (13, slE eStr p0.2), E17, (15, hI a52.2.2.2), (34, .bool a)] [])) (fun a64 w65 h => ?_) (fun k66 h => ?_)
      ·refine AW.cond rfl (fun hc => ?_) (fun hc => ?_)
       ·have h := ifT hc h
        refine AW.rg rfl fun K hK => mv rfl rfl (mv rfl rfl (mv rfl rfl (mv rfl rfl (mv rfl rfl ?_))))
        refine b_nil (hK _ ?_)
        exact to_L ⟨(x59, a61.1, true), (), h, rfl⟩
       have h := ifF (bF' hc) h
       refine AW.skip ?_
       exact to_L ⟨(a52.1, a52.2.1, a52.2.2.1), (), h, rfl⟩
      refine AW.rg rfl fun K hK => mv rfl rfl (mv rfl rfl ?_)
      by_cases hg68 : a61.2 = true
      ·have h := ifT hg68 h
       refine b_T rfl rfl rfl rfl hg68 (o_val rfl (mv_val rfl rfl).2 ?_)
       refine b_T rfl rfl rfl rfl rfl (o_val rfl (v_not rfl) ?_)
       refine b_T rfl rfl rfl rfl rfl (o_val rfl (mv_val rfl rfl).2 ?_)
       by_cases hg67 : (!a52.2.2.1) = true
       ·have h := ifT hg67 h
        refine b_F rfl rfl rfl rfl rfl hg67 ?_
        iterate 2 refine b_F rfl rfl rfl rfl rfl rfl ?_
        refine b_T rfl rfl rfl rfl rfl (o_val rfl (v_pickT rfl rfl rfl) ?_)
        refine bv rfl (v_pickT rfl rfl rfl) ?_
        refine b_nil (hK _ ?_)
        exact to_L ⟨true, (), h, rfl⟩
       have h := ifF hg67 h
       refine b_T rfl rfl rfl rfl (bF hg67) (o_val rfl (mv_val rfl rfl).2 ?_)
       refine b_T rfl rfl rfl rfl rfl (o_val rfl (mv_val rfl rfl).2 ?_)
       refine b_T rfl rfl rfl rfl rfl (o_val rfl (v_bin rfl rfl b_lss) ?_)
       refine b_T rfl rfl rfl rfl rfl (o_val rfl (v_pickF rfl rfl rfl) ?_)
       refine bv rfl (v_pickT rfl rfl rfl) ?_
       refine b_nil (hK _ ?_)
       exact to_L ⟨decide (a61.1 < a52.2.1), (), h, rfl⟩
      have h := ifF hg68 h
      refine b_F rfl rfl rfl rfl rfl (bF hg68) ?_
      iterate 2 refine b_F rfl rfl rfl rfl rfl rfl ?_
      refine b_U rfl rfl rfl rfl rfl ?_
      refine b_U rfl rfl rfl rfl rfl ?_
      refine b_U rfl rfl rfl rfl rfl ?_
      refine b_F rfl rfl rfl rfl rfl rfl ?_
      refine bv rfl (v_pickF rfl rfl rfl) ?_
      refine b_nil (hK _ ?_)
      exact to_L ⟨false, (), h, rfl⟩
     refine ACall.of_body Tryz.func31 rfl rfl (lb rfl) ?_
     unfold Tryz.f31
     dsimp only [enumS, Nat.reduceAdd]
     refine AW.fin ?_
     refine AW.rgs rfl fun K hK => mv rfl rfl (mv rfl rfl ?_)
     refine bf hK (P4 [(0, .str x59), (1, .ptr 9014 v21 0), (2, jF p0), (3, .ptr 9017 v36 0), (4, gF p1), (5, .ptr 9011 v10 0)] []) ?_
     refine AW.dgs 11 follows rfl rfl fun K hK => ?_
     refine sv rfl (v_loadP ty3 rfl rfl (l_lit rfl rfl)) ?_
     refine sm rfl rfl ?_
     refine sv rfl (v_fieldAddrF fo24_0 rfl) ?_
     refine sv rfl (v_loadF ty22 rfl (l_lit rfl rfl)) ?_
     refine sv rfl (v_loadP ty3 rfl rfl (l_lit rfl rfl)) ?_
     obtain ⟨x69, h70, h⟩ := bS h
     refine sv rfl (v_idxF ty22 es22 rfl rfl (idx_lt h70)) ?_
     refine sv rfl (v_loadF ty9 rfl (l_cell eStr h70 (o := 0) rfl rfl)) ?_
     obtain ⟨h71, h⟩ := ifN h
     refine sv rfl (v_bin rfl rfl (b_sadd h71)) ?_
     obtain ⟨x72, h73, h⟩ := bS h
     refine s_op rfl rfl (ops_call rfl rfl rfl rfl (ACallD.pure0 (w_merging_weight h73)) ?_)
     refine sv rfl (v_bin rfl rfl b_add) ?_
     refine sm rfl rfl ?_
     refine s_nil ?_
     refine bf hK (P4 [(0, .str x59), (2, jF p0), (3, .ptr 9017 v36 0), (4, gF p1), (5, .ptr 9011 v10 0), (9, hI (IntKind.wrap .i64 (a30.2.2.2 + x72)))] []) ?_
     refine AW.dgs 18 follows rfl rfl fun K hK => ?_
     iterate 2 refine sm rfl rfl ?_
     refine sv rfl (v_neg rfl) ?_
     refine sv rfl (v_max rfl rfl rfl) ?_
     refine sv rfl (v_loadF ty27 rfl (l_litA rfl (lb rfl) rfl)) ?_
     refine sv rfl (v_loadP ty36 rfl rfl (l_lit rfl rfl)) ?_
     refine sm rfl rfl ?_
     refine sv rfl (v_fieldAddrF fo24_0 rfl) ?_
     refine sv rfl (v_loadF ty22 rfl (l_lit rfl rfl)) ?_
     refine sv rfl (v_loadP ty3 rfl rfl (l_lit rfl rfl)) ?_
     obtain ⟨x74, h75, h⟩ := bS h
     refine sv rfl (v_idxF ty22 es22 rfl rfl (idx_lt h75)) ?_
     refine sv rfl (v_loadF ty9 rfl (l_cell eStr h75 (o := 0) rfl rfl)) ?_
     obtain ⟨h76, h⟩ := ifN h
     refine sv rfl (v_bin rfl rfl (b_sadd h76)) ?_
     obtain ⟨x77, h78, h⟩ := bS h
     refine s_op rfl rfl (ops_call rfl rfl rfl rfl (ACallD.pure0 (w_merging_step h78)) ?_)
     refine sv rfl (v_lenF rfl rfl ty36 rfl) ?_
     refine sv rfl (v_bin rfl rfl b_gtr) ?_
     iterate 2 refine sm rfl rfl ?_
     refine s_nil ?_
     refine bf hK (P4 [(7, hI (max (IntKind.wrap .i64 (a30.2.2.2 + x72)) (IntKind.wrap .i64 (0 - (IntKind.wrap .i64 (a30.2.2.2 + x72)))))), (8, .bool (decide (0 < ((x77).length : Int))))] []) ?_
     refine AW.ret ?_
     refine ret_to (hs := [hI (max (IntKind.wrap .i64 (a30.2.2.2 + x72)) (IntKind.wrap .i64 (0 - (IntKind.wrap .i64 (a30.2.2.2 + x72))))), .bool (decide (0 < ((x77).length : Int)))]) (q := HV.tup [hI (max (IntKind.wrap .i64 (a30.2.2.2 + x72)) (IntKind.wrap .i64 (0 - (IntKind.wrap .i64 (a30.2.2.2 + x72))))), .bool (decide (0 < ((x77).length : Int)))]) (.inr rfl) (resT rfl (resT rfl rfl)) rfl ?_
     exact to_L ⟨(max (IntKind.wrap .i64 (a30.2.2.2 + x72)) (IntKind.wrap .i64 (0 - (IntKind.wrap .i64 (a30.2.2.2 + x72)))), decide (0 < ((x77).length : Int))), (), h, rfl⟩
    obtain ⟨hc, h⟩ := cF hc h
    refine AW.exit ?_
    exact to_L ⟨(a52.1, a52.2.2.1), (), h, rfl⟩
   obtain ⟨hc, h⟩ := cF hc h
   refine AW.exit ?_
   exact to_L ⟨a30.2.2.1, w31, h, rfl⟩
  refine ACall.of_body Tryz.func26 rfl rfl (lb rfl) ?_
  unfold Tryz.f26
  dsimp only [enumS, Nat.reduceAdd]
  refine AW.fin ?_
  refine AW.rgs rfl fun K hK => mv rfl rfl ?_
  obtain ⟨h85, h⟩ := ifN h
  refine b_op rfl (o_callA rfl rfl rfl rfl (c_WriteString (id := 9013) (ver := v19) (aid := 9513) (aver := v20) (u := false) (l := nS) (m := x24) (by decide) rfl rfl h85 fun v84 => ?_) )
  let O18 : Nat × Nat × AObj := (9013, v19, bldO 9013 v19 9513 v84 true (nS ++ x24))
  refine bf hK ⟨[(0, .str x24), (2, .ptr 9014 v21 0), (3, gF p1), (4, .ptr 9011 v10 0)], [O4, O5, O18, (9513, v84, bytO (nS ++ x24)), (9014, v21, .arr 1 3 [hI 0])]⟩ ?_
  refine AW.dgs 4 follows rfl rfl fun K hK => ?_
  refine sv rfl (v_loadP ty3 rfl rfl (l_lit rfl rfl)) ?_
  refine sm rfl rfl ?_
  obtain ⟨x86, h87, h⟩ := bS h
  refine s_op rfl rfl (ops_call rfl rfl rfl rfl (ACallD.pure0 (w_merging_weight h87)) ?_)
  refine sv rfl (v_bin rfl rfl b_add) ?_
  refine s_nil ?_
  refine b_op rfl (o_store (cs := [hI (IntKind.wrap .i64 (0 + x86))]) (zs := [hI (IntKind.wrap .i64 (0 + x86))]) rfl rfl rfl ty3 rfl rfl rfl rfl rfl ?_)
  refine bf hK ⟨[(0, .str x24), (3, gF p1), (4, .ptr 9011 v10 0)], [O4, O5, O18, (9513, v84, bytO (nS ++ x24)), (9014, v21, .arr 1 3 [hI (IntKind.wrap .i64 (0 + x86))])]⟩ ?_
  refine AW.to (to_fill 2 [(9051, v8, .arr eInt.k 3 (eInt.E a17))] ⟨[(0, .str x24), (3, gF p1), (4, .ptr 9011 v10 0)], [(9011, v10, .arr 1 36 [slE eInt a17]), O18, (9513, v84, bytO (nS ++ x24)), (9014, v21, .arr 1 3 [hI (IntKind.wrap .i64 (0 + x86))])]⟩ ⟨⟨_, rfl, rfl⟩, ⟨_, rfl, rfl⟩, ⟨_, rfl, rfl⟩, trivial⟩ ⟨.inr ⟨_, _, _, rfl, congrArg (AObj.arr 1 36) (congrArg (fun z : HV => [z]) (frz_slE eInt (D := [(9051, v8, .arr eInt.k 3 (eInt.E a17))]) (l := a17) rfl fun _ _ => rfl).symm)⟩, .inl rfl, .inl rfl, .inl rfl, trivial⟩ ⟨rfl, trivial⟩ ⟨rfl, trivial⟩ ?_)
  refine AW.rg rfl fun K hK => bv rfl (v_loadF ty27 rfl (l_litA rfl (lb rfl) rfl)) (bv rfl (v_loadP ty36 rfl rfl (l_lit rfl rfl)) (mv rfl rfl ?_))
  obtain ⟨x88, h89, h⟩ := bS h
  refine b_op rfl (o_call rfl rfl rfl rfl (ACallD.pure0 (w_merging_step h89)) ?_)
  refine b_op rfl (o_store (cs := [slE eInt x88]) (zs := [slE eInt x88]) rfl rfl rfl ty36 rfl rfl rfl rfl rfl ?_)
  refine b_nil (hK _ ?_)
  refine to_refl ?_
  refine ret_to (hs := []) (q := HV.tup []) (.inl rfl) rfl rfl ?_
  exact to_L ⟨(x88, IntKind.wrap .i64 (0 + x86)), v84, h, rfl⟩
 refine AW.rgs rfl fun K hK => bv rfl (v_bin rfl rfl b_lss) ?_
 let O19 : Nat × Nat × AObj := (9011, v10, .arr 1 36 [.ar 9051 v8 eInt.k 0 ((a11.2).length)])
 refine bf hK (P1 [(11, .ptr 9011 v10 0), E3, (54, hI a11.1), (55, .bool (decide (a11.1 < (((List.replicate (p1.2.1).toNat (0 : Int)).length : Nat) : Int))))] [O19, (9051, v8, .arr eInt.k 3 (eInt.E a11.2))]) ?_
 refine AW.cseq rfl (fun hc => ?_) (fun hc => ?_)
 ·obtain ⟨hc, h⟩ := cT hc h
  refine AW.skip ?_
  refine AW.seq (AW.block ?_)
  refine AW.rgs rfl fun K hK => mv rfl rfl (mv rfl rfl ?_)
  refine bf hK (P1 [(11, .ptr 9011 v10 0), (12, hI a11.1), E3, (54, hI a11.1)] [O19, (9051, v8, .arr eInt.k 3 (eInt.E a11.2))]) ?_
  refine AW.rg rfl fun K hK => bv rfl (v_loadP ty36 rfl rfl (l_lit rfl rfl)) (mv rfl rfl (mv rfl rfl ?_))
  obtain ⟨x15, h16, h⟩ := bS h
  refine bv rfl (v_idxA ty36 es36 rfl rfl (idx_lt h16) rfl) ?_
  refine b_op rfl (o_storeE eInt (l := a11.2) (j := a11.1) (v := a11.1) rfl rfl rfl ty3 rfl rfl rfl (idx_lt h16) ?_)
  refine b_fin hK (s' := (P1 [(11, .ptr 9011 v10 0), E3, (54, hI a11.1)] [(9011, v10, .arr 1 36 [.ar 9051 v8 eInt.k 0 (((a11.2).set (a11.1).toNat a11.1).length)]), (9051, v8, .arr eInt.k 3 (eInt.E ((a11.2).set (a11.1).toNat a11.1)))])) (AS.le_of ⟨rfl, rfl, rfl, rfl, rfl, rfl, trivial⟩ ⟨hle rfl (by first | rfl | simp only [List.length_set, sortI_len, sortS_len, List.length_reverse]), rfl, trivial⟩) ?_
  refine AW.rg rfl fun K hK => bv rfl (v_bin rfl rfl b_add) (mv rfl rfl ?_)
  refine b_nil (hK _ ?_)
  exact to_L ⟨(IntKind.wrap .i64 (a11.1 + 1), (a11.2).set (a11.1).toNat a11.1), (), h, rfl⟩
 obtain ⟨hc, h⟩ := cF hc h
 refine AW.exit ?_
 exact to_L ⟨a11.2, (), h, rfl⟩
theorem w_merging_Decode {p0 : TWordsMerges} {p1 : List UInt8} {r : (List (Int)) × Int} (h : m_merging_Decode p0 p1 = some r) : Pure Tryz.prog 10 [jA p0, .str p1] (· = HV.tup [slE eInt r.1, hI r.2]) := by
 unfold m_merging_Decode at h
 refine Pure.of_body Tryz.func10 rfl rfl (lb rfl) fun hf => ?_
 unfold Tryz.f10
 dsimp only [enumS, Nat.reduceAdd]
 refine AW.rgs rfl fun K hK => b_op rfl (o_box rfl rfl rfl ?_)
 refine mv rfl rfl (mv rfl rfl ?_)
 let P1 : ASf := fun t H => ⟨(1, .str p1) :: (2, jF p0) :: t, H⟩
 refine bf hK (P1 [] []) ?_
 refine AW.seq ?_
 refine AW.rgs rfl fun K hK => bv rfl (v_loadF ty24 rfl (l_litA rfl (lb rfl) rfl)) ?_
 obtain ⟨x1, h2, h⟩ := bS h
 refine b_op rfl (o_call rfl rfl rfl rfl (ACallD.pure0 (w_merging_form h2)) ?_)
 refine bv rfl (v_bin rfl rfl b_neq) ?_
 refine bf hK (P1 [(12, .bool (decide (x1 ≠ 0)))] []) ?_
 refine AW.cond rfl (fun hc => ?_) (fun hc => ?_)
 ·obtain ⟨hc, h⟩ := cT hc h
  refine AW.rgs rfl fun K hK => mv rfl rfl (mv rfl rfl ?_)
  refine bf hK ⟨[(4, .v (.slice none 0 0)), (5, hI 1)], []⟩ ?_
  refine AW.to (to_weak ⟨[(4, slE eInt ([] : List Int)), (5, hI 1)], []⟩ ⟨⟨_, rfl, .nil _⟩, ⟨_, rfl, .refl _⟩, trivial⟩ trivial ?_)
  obtain rfl := oi h
  exact AW.ret (ret_pure (.inr rfl) (resT rfl (resT rfl rfl)) rfl ⟨(clean_slE fun _ _ => ⟨trivial, trivial⟩), trivial, trivial⟩)
 obtain ⟨hc, h⟩ := cF hc h
 refine AW.skip ?_
 refine AW.seq ?_
 refine AW.rgs rfl fun K hK => mv rfl rfl (bv rfl (v_bin rfl rfl b_seql) ?_)
 refine bf hK (P1 [(14, .bool (decide (p1 = nS)))] []) ?_
 refine AW.cond rfl (fun hc => ?_) (fun hc => ?_)
 ·obtain ⟨hc, h⟩ := cT hc h
  refine AW.rgs rfl fun K hK => mv rfl rfl (mv rfl rfl ?_)
  refine bf hK ⟨[(4, .v (.slice none 0 0)), (5, hI 0)], []⟩ ?_
  refine AW.to (to_weak ⟨[(4, slE eInt ([] : List Int)), (5, hI 0)], []⟩ ⟨⟨_, rfl, .nil _⟩, ⟨_, rfl, .refl _⟩, trivial⟩ trivial ?_)
  obtain rfl := oi h
  exact AW.ret (ret_pure (.inr rfl) (resT rfl (resT rfl rfl)) rfl ⟨(clean_slE fun _ _ => ⟨trivial, trivial⟩), trivial, trivial⟩)
 obtain ⟨hc, h⟩ := cF hc h
 refine AW.skip ?_
 refine AW.dgs 12 follows rfl rfl fun K hK => ?_
 refine sv rfl (v_fieldAddrF fo24_0 rfl) ?_
 refine sv rfl (v_loadF ty22 rfl (l_lit rfl rfl)) ?_
 obtain ⟨x3, h4, h⟩ := bS h
 refine sv rfl (v_idxF ty22 es22 rfl rfl (idx_lt h4)) ?_
 refine sv rfl (v_loadF ty9 rfl (l_cell eStr h4 (o := 0) rfl rfl)) ?_
 refine sv rfl (v_lenS rfl rfl ty9 rfl) ?_
 refine sv rfl (v_fieldAddrF fo24_1 rfl) ?_
 refine sv rfl (v_loadF ty22 rfl (l_lit rfl rfl)) ?_
 obtain ⟨x5, h6, h⟩ := bS h
 refine sv rfl (v_idxF ty22 es22 rfl rfl (idx_lt h6)) ?_
 refine sv rfl (v_loadF ty9 rfl (l_cell eStr h6 (o := 0) rfl rfl)) ?_
 refine sv rfl (v_lenS rfl rfl ty9 rfl) ?_
 iterate 2 refine sm rfl rfl ?_
 refine s_nil ?_
 let E1 : Nat × HV := (6, hI ((x3).length : Int))
 let E2 : Nat × HV := (7, hI ((x5).length : Int))
 refine bf hK (P1 [E1, E2] []) ?_
 refine AW.seq ?_
 refine AW.rgs rfl fun K hK => mv rfl rfl (bv rfl (v_lenS rfl rfl ty9 rfl) (mv rfl rfl (bv rfl (v_bin rfl rfl b_add) (mv rfl rfl (mv rfl rfl ?_)))))
 refine bv rfl (v_bin rfl rfl b_add) ?_
 obtain ⟨h7, h⟩ := ifN h
 refine bv rfl (v_bin rfl rfl (b_rem h7)) (bv rfl (v_bin rfl rfl b_neq) ?_)
 refine bf hK (P1 [E1, E2, (33, .bool (decide ((Int.tmod (IntKind.wrap .i64 (((p1).length : Int) + ((x5).length : Int))) (IntKind.wrap .i64 (((x3).length : Int) + ((x5).length : Int)))) ≠ 0)))] []) ?_
 refine AW.cond rfl (fun hc => ?_) (fun hc => ?_)
 ·obtain ⟨hc, h⟩ := cT hc h
  refine AW.rgs rfl fun K hK => mv rfl rfl (mv rfl rfl ?_)
  refine bf hK ⟨[(4, .v (.slice none 0 0)), (5, hI 11)], []⟩ ?_
  refine AW.to (to_weak ⟨[(4, slE eInt ([] : List Int)), (5, hI 11)], []⟩ ⟨⟨_, rfl, .nil _⟩, ⟨_, rfl, .refl _⟩, trivial⟩ trivial ?_)
  obtain rfl := oi h
  exact AW.ret (ret_pure (.inr rfl) (resT rfl (resT rfl rfl)) rfl ⟨(clean_slE fun _ _ => ⟨trivial, trivial⟩), trivial, trivial⟩)
 obtain ⟨hc, h⟩ := cF hc h
 refine AW.skip ?_
 refine AW.rgs rfl fun K hK => mv rfl rfl ?_
 refine bf hK (P1 [E1, E2, (8, .v (.slice none 0 0))] []) ?_
 refine AW.seq (AW.lpR h up_then (S := (List UInt8) × (List Int)) (V := Nat) (fun a v => ⟨[(1, .str a.1), (2, jF p0), E1, E2, (8, .ar 10060 v eInt.k 0 ((a.2).length))], [(10060, v, .arr eInt.k 3 (eInt.E a.2))]⟩) ?_ (X := (List Int)) (W := Nat) (fun a v => ⟨[(8, .ar 10060 v eInt.k 0 ((a).length))], [(10060, v, .arr eInt.k 3 (eInt.E a))]⟩) (fun a24 w25 h => ?_) (fun a8 w9 st10 h hr11=> ?_))
 ·refine to_bind (to_own 10060 8 eInt.k 3 rfl fun v23 => ?_)
  exact to_le (s' := (P1 [E1, E2, (8, .ar 10060 v23 eInt.k 0 ((([] : List Int)).length))] [(10060, v23, .arr eInt.k 3 (eInt.E ([] : List Int)))])) (AS.le_of ⟨rfl, rfl, rfl, rfl, arl (by first | rfl | simp only [List.length_set, sortI_len, sortS_len, List.length_reverse]), trivial⟩ ⟨rfl, trivial⟩) ⟨v23, rfl⟩
 ·refine AW.rgs rfl fun K hK => mv rfl rfl (mv rfl rfl (mv rfl rfl ?_))
  refine bf hK ⟨[(4, .ar 10060 w25 eInt.k 0 ((a24).length)), (5, hI 0)], [(10060, w25, .arr eInt.k 3 (eInt.E a24))]⟩ ?_
  refine AW.to (to_frz 2 [(10060, w25, .arr eInt.k 3 (eInt.E a24))] ⟨[(4, slE eInt a24), (5, hI 0)], []⟩ ⟨⟨_, rfl, frz_slE eInt (l := a24) rfl fun _ _ => rfl⟩, ⟨_, rfl, rfl⟩, trivial⟩ trivial ⟨rfl, trivial⟩ ⟨rfl, trivial⟩ ?_)
  obtain rfl := oi h
  exact AW.ret (ret_pure (.inr rfl) (resT rfl (resT rfl rfl)) rfl ⟨(clean_slE fun _ _ => ⟨trivial, trivial⟩), trivial, trivial⟩)
 refine AW.seq ?_
 refine AW.rgs rfl fun K hK => mv rfl rfl (bv rfl (v_bin rfl rfl b_sneq) ?_)
 let E3 : Nat × HV := (8, .ar 10060 w9 eInt.k 0 ((a8.2).length))
 let O4 : Nat × Nat × AObj := (10060, w9, .arr eInt.k 3 (eInt.E a8.2))
 let P2 : ASf := fun t H => ⟨(1, .str a8.1) :: (2, jF p0) :: E1 :: E2 :: E3 :: t, O4 :: H⟩
 refine bf hK (P2 [(35, .bool (decide (a8.1 ≠ nS)))] []) ?_
 refine AW.cond rfl (fun hc => ?_) (fun hc => ?_)
 ·obtain ⟨hc, h⟩ := cT hc h
  refine AW.skip ?_
  refine AW.block ?_
  refine AW.seq ?_
  refine AW.rgs rfl fun K hK => mv rfl rfl (bv rfl (v_lenA rfl rfl ty36 rfl rfl) (bv rfl (v_bin rfl rfl b_gtr) ?_))
  refine bf hK (P2 [(38, .bool (decide (0 < (((a8.2).length : Nat) : Int))))] []) ?_
  refine AW.lastJ h (by first | exact up_then | exact up_to) (S := (List UInt8)) (V := Unit) (fun a v => ⟨[(1, .str a), (2, jF p0), E1, E2, E3], [O4]⟩) (fun a12 w13 h => ?_) (fun k14 h => ?_)
  ·refine AW.dgs 7 follows rfl rfl fun K hK => ?_
   refine sv rfl (v_fieldAddrF fo24_0 rfl) ?_
   refine sv rfl (v_loadF ty22 rfl (l_lit rfl rfl)) ?_
   iterate 2 refine sm rfl rfl ?_
   obtain ⟨h15, h⟩ := ifN h
   refine sv rfl (v_sliceS ty9 rfl rfl rfl h15) ?_
   obtain ⟨x16, h17, h⟩ := bS h
   refine s_op rfl rfl (ops_call rfl rfl rfl rfl (ACallD.pure0 (w_slices_Index_Lstring_string h17)) ?_)
   refine sm rfl rfl ?_
   refine s_nil ?_
   let P3 : ASf := fun t H => ⟨(1, .str a12) :: (2, jF p0) :: E1 :: E2 :: t, H⟩
   refine bf hK (P3 [E3, (9, hI x16)] [O4]) ?_
   refine AW.seq ?_
   refine AW.rgs rfl fun K hK => mv rfl rfl (bv rfl (v_bin rfl rfl b_lss) ?_)
   refine bf hK (P3 [E3, (9, hI x16), (56, .bool (decide (x16 < 0)))] [O4]) ?_
   refine AW.cond rfl (fun hc => ?_) (fun hc => ?_)
   ·obtain ⟨hc, h⟩ := cT hc h
    refine AW.rgs rfl fun K hK => mv rfl rfl (mv rfl rfl ?_)
    refine bf hK ⟨[(4, .v (.slice none 0 0)), (5, hI 13)], []⟩ ?_
    have h := hr11 _ h
    refine AW.to (to_weak ⟨[(4, slE eInt ([] : List Int)), (5, hI 13)], []⟩ ⟨⟨_, rfl, .nil _⟩, ⟨_, rfl, .refl _⟩, trivial⟩ trivial ?_)
    obtain rfl := oi h
    exact AW.ret (ret_pure (.inr rfl) (resT rfl (resT rfl rfl)) rfl ⟨(clean_slE fun _ _ => ⟨trivial, trivial⟩), trivial, trivial⟩)
   obtain ⟨hc, h⟩ := cF hc h
   refine AW.skip ?_
   refine AW.dl follows fun K hK F hF => ?_
   obtain ⟨h180302, h⟩ := ifN h
   obtain ⟨h180601, h⟩ := ifN h
   refine l_go (L' := []) hF rfl (s' := (P3 [E3, (9, hI x16)] [O4])) ?_ (le_q rfl rfl)
   let P : ASf := fun t H => ⟨(1, .str a12) :: (2, jF p0) :: (6, hI ((x3).length : Int)) :: (7, hI ((x5).length : Int)) :: (8, .ar 10060 w9 eInt.k 0 ((a8.2).length)) :: t, (10060, w9, .arr eInt.k 3 (eInt.E a8.2)) :: H⟩
   have g18_10 : ∀ (v180301 : Nat), F [0, 1, 2, 3, 4, 5, 6, 7, 8] ⟨[(1, .str ((a12.take (((a12).length : Int)).toNat).drop (((x3).length : Int)).toNat)), (2, jF p0), E1, E2, (8, .ar 10060 v180301 eInt.k 0 ((a8.2 ++ [x16]).length))], [(10060, v180301, .arr eInt.k 3 (eInt.E (a8.2 ++ [x16])))]⟩ := by
    intro v180301
    refine l_done hF rfl rfl (hK _ ?_)
    exact to_L ⟨((a12.take (((a12).length : Int)).toNat).drop (((x3).length : Int)).toNat, a8.2 ++ [x16]), v180301, h, rfl⟩
   let E5 : Nat × HV := (63, .str ((a12.take (((a12).length : Int)).toNat).drop (((x3).length : Int)).toNat))
   have g18_9 : ∀ (v180301 : Nat), F [0, 1, 2, 3, 4, 5, 6, 7] (P3 [(8, .ar 10060 v180301 eInt.k 0 ((a8.2 ++ [x16]).length)), E5] [(10060, v180301, .arr eInt.k 3 (eInt.E (a8.2 ++ [x16])))]) := by
    intro v180301
    refine l_step hF rfl [8] rfl rfl ⟨?_, trivial⟩
    exact l_ov rfl rfl rfl rfl (mv_val rfl rfl).2 (lg hF (g18_10 v180301))
   have g18_8 : ∀ (v180301 : Nat), F [0, 1, 2, 3, 4, 5, 6] (P3 [E3, (60, .ar 10060 v180301 eInt.k 0 ((a8.2 ++ [x16]).length)), E5] [(10060, v180301, .arr eInt.k 3 (eInt.E (a8.2 ++ [x16])))]) := by
    intro v180301
    refine l_step hF rfl [7] rfl rfl ⟨?_, trivial⟩
    exact l_ov rfl rfl rfl rfl (mv_val rfl rfl).2 (lg hF (g18_9 v180301))
   have g18_12 : ∀ (v180301 : Nat), F [0, 1, 2, 3, 4, 5, 7] (P3 [(8, .ar 10060 v180301 eInt.k 0 ((a8.2 ++ [x16]).length)), (61, .str a12), (62, hI ((x3).length : Int))] [(10060, v180301, .arr eInt.k 3 (eInt.E (a8.2 ++ [x16])))]) := by
    intro v180301
    refine l_step hF rfl [6] rfl rfl ⟨?_, trivial⟩
    exact l_ov rfl rfl rfl rfl (v_sliceS ty9 rfl rfl rfl h180601) (lg hF (g18_9 v180301))
   have g18_7 : F [0, 1, 2, 4, 5, 6] (P [(57, .ar 10060 w9 eInt.k 0 ((a8.2).length)), (59, slE eInt [x16]), (63, .str ((a12.take (((a12).length : Int)).toNat).drop (((x3).length : Int)).toNat))] []) := by
    refine l_step hF rfl [3] rfl rfl ⟨?_, trivial⟩
    refine l_op rfl rfl rfl (o_appE eInt (l := a8.2) (m := [x16]) rfl rfl ty36 ty36 ty3 rfl rfl rfl rfl rfl h180302 (fun v180301 => ?_))
    exact b_nil (lg hF (g18_8 v180301))
   have g18_11 : ∀ (v180301 : Nat), F [0, 1, 2, 3, 4, 5] (P3 [E3, (60, .ar 10060 v180301 eInt.k 0 ((a8.2 ++ [x16]).length)), (61, .str a12), (62, hI ((x3).length : Int))] [(10060, v180301, .arr eInt.k 3 (eInt.E (a8.2 ++ [x16])))]) := by
    intro v180301
    refine l_step hF rfl [6, 7] rfl rfl ⟨?_, ?_, trivial⟩
    ·exact l_ov rfl rfl rfl rfl (v_sliceS ty9 rfl rfl rfl h180601) (lg hF (g18_8 v180301))
    exact l_ov rfl rfl rfl rfl (mv_val rfl rfl).2 (lg hF (g18_12 v180301))
   have g18_5 : F [0, 1, 2, 4, 5] (P [(57, .ar 10060 w9 eInt.k 0 ((a8.2).length)), (59, slE eInt [x16]), (61, .str a12), (62, hI ((x3).length : Int))] []) := by
    refine l_step hF rfl [3, 6] rfl rfl ⟨?_, ?_, trivial⟩
    ·refine l_op rfl rfl rfl (o_appE eInt (l := a8.2) (m := [x16]) rfl rfl ty36 ty36 ty3 rfl rfl rfl rfl rfl h180302 (fun v180301 => ?_))
     exact b_nil (lg hF (g18_11 v180301))
    exact l_ov rfl rfl rfl rfl (v_sliceS ty9 rfl rfl rfl h180601) (lg hF (g18_7))
   have g18_6 : F [0, 1, 4, 5, 6] (P [(57, .ar 10060 w9 eInt.k 0 ((a8.2).length)), (58, hI x16), (63, .str ((a12.take (((a12).length : Int)).toNat).drop (((x3).length : Int)).toNat))] []) := by
    refine l_step hF rfl [2] rfl rfl ⟨?_, trivial⟩
    refine l_op rfl rfl rfl (o_bsl rfl rfl (as_of (cs := [hI x16]) ty36 ty3 rfl rfl rfl rfl rfl) ?_)
    exact b_nil (lg hF (g18_7))
   have g18_4 : F [0, 1, 4, 5] (P [(57, .ar 10060 w9 eInt.k 0 ((a8.2).length)), (58, hI x16), (61, .str a12), (62, hI ((x3).length : Int))] []) := by
    refine l_step hF rfl [2, 6] rfl rfl ⟨?_, ?_, trivial⟩
    ·refine l_op rfl rfl rfl (o_bsl rfl rfl (as_of (cs := [hI x16]) ty36 ty3 rfl rfl rfl rfl rfl) ?_)
     exact b_nil (lg hF (g18_5))
    exact l_ov rfl rfl rfl rfl (v_sliceS ty9 rfl rfl rfl h180601) (lg hF (g18_6))
   have g18_3 : F [0, 1, 4] (P [(57, .ar 10060 w9 eInt.k 0 ((a8.2).length)), (58, hI x16), (61, .str a12)] []) := by
    refine l_take (i := 5) hF rfl rfl rfl (mv_val rfl rfl).2 ?_
    exact lg hF (g18_4)
   have g18_2 : F [0, 1] (P [(57, .ar 10060 w9 eInt.k 0 ((a8.2).length)), (58, hI x16)] []) := by
    refine l_take (i := 4) hF rfl rfl rfl (mv_val rfl rfl).2 ?_
    exact lg hF (g18_3)
   have g18_1 : F [0] (P [(9, hI x16), (57, .ar 10060 w9 eInt.k 0 ((a8.2).length))] []) := by
    refine l_take (i := 1) hF rfl rfl rfl (mv_val rfl rfl).2 ?_
    exact lg hF (g18_2)
   have g18_0 : F [] (P [(9, hI x16)] []) := by
    refine l_take (i := 0) hF rfl rfl rfl (mv_val rfl rfl).2 ?_
    exact lg hF (g18_1)
   exact g18_0
  refine AW.cond rfl (fun hc => ?_) (fun hc => ?_)
  ·obtain ⟨hc, h⟩ := cT hc h
   refine AW.seq ?_
   refine AW.dgs 7 follows rfl rfl fun K hK => ?_
   refine sv rfl (v_fieldAddrF fo24_1 rfl) ?_
   refine sv rfl (v_loadF ty22 rfl (l_lit rfl rfl)) ?_
   iterate 2 refine sm rfl rfl ?_
   obtain ⟨h19, h⟩ := ifN h
   refine sv rfl (v_sliceS ty9 rfl rfl rfl h19) ?_
   obtain ⟨x20, h21, h⟩ := bS h
   refine s_op rfl rfl (ops_call rfl rfl rfl rfl (ACallD.pure0 (w_slices_Contains_Lstring_string h21)) ?_)
   refine sv rfl (v_not rfl) ?_
   refine s_nil ?_
   refine bf hK (P2 [(45, .bool (!x20))] []) ?_
   refine AW.cond rfl (fun hc => ?_) (fun hc => ?_)
   ·have h := ifT hc h
    refine AW.rgs rfl fun K hK => mv rfl rfl (mv rfl rfl ?_)
    refine bf hK ⟨[(4, .v (.slice none 0 0)), (5, hI 13)], []⟩ ?_
    have h := hr11 _ h
    refine AW.to (to_weak ⟨[(4, slE eInt ([] : List Int)), (5, hI 13)], []⟩ ⟨⟨_, rfl, .nil _⟩, ⟨_, rfl, .refl _⟩, trivial⟩ trivial ?_)
    obtain rfl := oi h
    exact AW.ret (ret_pure (.inr rfl) (resT rfl (resT rfl rfl)) rfl ⟨(clean_slE fun _ _ => ⟨trivial, trivial⟩), trivial, trivial⟩)
   have h := ifF (bF' hc) h
   refine AW.skip ?_
   refine AW.rg rfl fun K hK => mv rfl rfl (mv rfl rfl ?_)
   obtain ⟨h22, h⟩ := ifN h
   refine bv rfl (v_sliceS ty9 rfl rfl rfl h22) (mv rfl rfl ?_)
   refine b_nil (hK _ ?_)
   exact to_L ⟨(a8.1.take (((a8.1).length : Int)).toNat).drop (((x5).length : Int)).toNat, (), h, rfl⟩
  obtain ⟨hc, h⟩ := cF hc h
  refine AW.skip ?_
  exact to_L ⟨a8.1, (), h, rfl⟩
 obtain ⟨hc, h⟩ := cF hc h
 refine AW.exit ?_
 exact to_L ⟨a8.2, w9, h, rfl⟩
theorem w_slices_Equal_Lint_int {p0 : List (Int)} {p1 : List (Int)} {r : Bool} (h : m_slices_Equal_Lint_int p0 p1 = some r) : Pure Tryz.prog 12 [slE eInt p0, slE eInt p1] (· = HV.bool r) := by
 unfold m_slices_Equal_Lint_int at h
 refine Pure.of_body Tryz.func12 rfl rfl (lb rfl) fun hf => ?_
 unfold Tryz.f12
 dsimp only [enumS, Nat.reduceAdd]
 refine AW.rgs rfl fun K hK => mv rfl rfl ?_
 let P4 : ASf := fun t H => ⟨(0, slE eInt p0) :: (1, slE eInt p1) :: t, H⟩
 refine bf hK (P4 [] []) ?_
 refine AW.seq ?_
 refine AW.rgs rfl fun K hK => mv rfl rfl (bv rfl (v_lenF rfl rfl ty36 rfl) (mv rfl rfl (bv rfl (v_lenF rfl rfl ty36 rfl) (bv rfl (v_bin rfl rfl b_neq) ?_))))
 refine bf hK (P4 [(10, .bool (decide (((p0).length : Int) ≠ ((p1).length : Int))))] []) ?_
 refine AW.cond rfl (fun hc => ?_) (fun hc => ?_)
 ·obtain ⟨hc, h⟩ := cT hc h
  refine AW.rgs rfl fun K hK => mv rfl rfl ?_
  refine bf hK ⟨[(4, .bool false)], []⟩ ?_
  obtain rfl := oi h
  exact AW.ret (ret_pure (.inr rfl) (resT rfl rfl) rfl trivial)
 obtain ⟨hc, h⟩ := cF hc h
 refine AW.skip ?_
 refine AW.seq ?_
 refine AW.rgs rfl fun K hK => mv rfl rfl (bv rfl (v_lenF rfl rfl ty36 rfl) (mv rfl rfl ?_))
 let E6 : Nat × HV := (12, hI ((p0).length : Int))
 refine bf hK (P4 [E6, (13, hI 0)] []) ?_
 refine AW.lpR h (by first | exact up_then | exact up_to) (S := Int) (V := Unit) (fun a v => (P4 [E6, (13, hI a)] [])) ?_ (X := Unit) (W := Unit) (fun a v => ⟨[], []⟩) (fun a9 w10 h => ?_) (fun a1 w2 st3 h hr4=> ?_)
 ·exact to_L ⟨(), rfl⟩
 ·refine AW.rgs rfl fun K hK => mv rfl rfl ?_
  refine bf hK ⟨[(4, .bool true)], []⟩ ?_
  obtain rfl := oi h
  exact AW.ret (ret_pure (.inr rfl) (resT rfl rfl) rfl trivial)
 refine AW.rgs rfl fun K hK => bv rfl (v_bin rfl rfl b_lss) ?_
 refine bf hK (P4 [E6, (13, hI a1), (14, .bool (decide (a1 < ((p0).length : Int))))] []) ?_
 refine AW.cseq rfl (fun hc => ?_) (fun hc => ?_)
 ·obtain ⟨hc, h⟩ := cT hc h
  refine AW.skip ?_
  refine AW.seq (AW.block ?_)
  refine AW.rgs rfl fun K hK => mv rfl rfl (mv rfl rfl ?_)
  refine bf hK (P4 [(5, hI a1), E6, (13, hI a1)] []) ?_
  refine AW.dgs 9 follows rfl rfl fun K hK => ?_
  iterate 2 refine sm rfl rfl ?_
  obtain ⟨x5, h6, h⟩ := bS h
  refine sv rfl (v_idxF ty36 es36 rfl rfl (idx_lt h6)) ?_
  refine sv rfl (v_loadF ty3 rfl (l_cell eInt h6 (o := 0) rfl rfl)) ?_
  iterate 2 refine sm rfl rfl ?_
  obtain ⟨x7, h8, h⟩ := bS h
  refine sv rfl (v_idxF ty36 es36 rfl rfl (idx_lt h8)) ?_
  refine sv rfl (v_loadF ty3 rfl (l_cell eInt h8 (o := 0) rfl rfl)) ?_
  refine sv rfl (v_bin rfl rfl b_neq) ?_
  refine s_nil ?_
  refine bf hK (P4 [E6, (13, hI a1), (24, .bool (decide (x5 ≠ x7)))] []) ?_
  refine AW.cond rfl (fun hc => ?_) (fun hc => ?_)
  ·obtain ⟨hc, h⟩ := cT hc h
   refine AW.rgs rfl fun K hK => mv rfl rfl ?_
   refine bf hK ⟨[(4, .bool false)], []⟩ ?_
   have h := hr4 _ h
   obtain rfl := oi h
   exact AW.ret (ret_pure (.inr rfl) (resT rfl rfl) rfl trivial)
  obtain ⟨hc, h⟩ := cF hc h
  refine AW.skip ?_
  refine AW.rg rfl fun K hK => bv rfl (v_bin rfl rfl b_add) (mv rfl rfl ?_)
  refine b_nil (hK _ ?_)
  exact to_L ⟨IntKind.wrap .i64 (a1 + 1), (), h, rfl⟩
 obtain ⟨hc, h⟩ := cF hc h
 refine AW.exit ?_
 exact to_L ⟨(), (), h, rfl⟩
theorem w_top_TopMergingSame {p0 : TWordsMerges} {p1 : TLabelsStatesEdges} {p2 : List (Int)} {r : Bool} (h : m_top_TopMergingSame p0 p1 p2 = some r) : Pure Tryz.prog 3 [jA p0, gA p1, slE eU8 p2] (· = HV.bool r) := by
 unfold m_top_TopMergingSame at h
 refine Pure.of_body Tryz.func3 rfl rfl (lb rfl) fun hf => ?_
 unfold Tryz.f3
 dsimp only [enumS, Nat.reduceAdd]
 refine AW.rgs rfl fun K hK => b_op rfl (o_box rfl rfl rfl ?_)
 refine b_op rfl (o_box rfl rfl rfl ?_)
 refine mv rfl rfl ?_
 let P1 : ASf := fun t H => ⟨(2, slE eU8 p2) :: (3, jF p0) :: t, H⟩
 refine bf hK (P1 [(4, gF p1)] []) ?_
 refine AW.seq ?_
 refine AW.seqJ h (S := Bool) (V := Unit) (fun a v => (P1 [(44, .bool a)] [])) (fun a1 w2 h => ?_) (fun k3 h => ?_)
 ·refine AW.cond rfl (fun hc => ?_) (fun hc => ?_)
  ·have h := ifT hc h
   refine AW.rgs rfl fun K hK => ?_
   obtain ⟨x4, h5, h⟩ := bS h
   refine b_op rfl (o_call rfl rfl rfl rfl (ACallD.pure0 (w_top_top35Awake h5)) ?_)
   refine mv rfl rfl ?_
   refine bf hK ⟨[(6, .bool x4)], []⟩ ?_
   obtain rfl := oi h
   exact AW.ret (ret_pure (.inr rfl) (resT rfl rfl) rfl trivial)
  have h := ifF (bF' hc) h
  refine AW.skip ?_
  refine AW.rgs rfl fun K hK => b_op rfl (o_build (cs := [hI 0, hI 0, hI 0]) rfl (bl_of ty35 rfl rfl rfl rfl) ?_)
  refine b_op rfl (o_build (cs := [hI 0, hI 1, hI 0]) rfl (bl_of ty35 rfl rfl rfl rfl) ?_)
  refine b_op rfl (o_bsl rfl rfl (as_of (cs := [hI 0, hI 0, hI 0, hI 0, hI 1, hI 0]) ty25 ty35 rfl rfl rfl rfl rfl) ?_)
  refine b_op rfl (o_build (cs := [hI 2, hI 1, slE eFromLabelTo [(0, 0, 0), (0, 1, 0)]]) rfl (bl_of ty27 rfl rfl rfl rfl) ?_)
  refine b_op rfl (o_alloc (fid := 3) (zs := [hI 0, hI 0, .v (.slice none 0 0)]) 3007 rfl rfl ty27 rfl (fun v6 => ?_))
  refine b_op rfl (o_store (cs := [hI 2, hI 1, slE eFromLabelTo [(0, 0, 0), (0, 1, 0)]]) (zs := [hI 2, hI 1, slE eFromLabelTo [(0, 0, 0), (0, 1, 0)]]) rfl rfl rfl ty27 rfl rfl rfl rfl rfl ?_)
  let O1 : Nat × Nat × AObj := (3007, v6, .arr 3 27 [hI 2, hI 1, slE eFromLabelTo [(0, 0, 0), (0, 1, 0)]])
  refine bf hK (P1 [(7, .ptr 3007 v6 0)] [O1]) ?_
  refine AW.rgs rfl fun K hK => mv rfl rfl ?_
  refine bf hK (P1 [(7, .ptr 3007 v6 0), (8, .v (.slice none 0 0))] [O1]) ?_
  refine AW.seq ?_
  refine AW.rgs rfl fun K hK => mv rfl rfl (mv rfl rfl (bv rfl (v_lenF rfl rfl ty28 rfl) (bv rfl (v_min rfl rfl rfl) ?_)))
  obtain ⟨h7, h⟩ := ifN h
  refine bv rfl (v_sliceF eU8 ty28 es28 rfl rfl rfl h7) (bv rfl (v_lenF rfl rfl ty28 rfl) (mv rfl rfl ?_))
  let E2 : Nat × HV := (54, slE eU8 ((p2.take (min ((p2).length : Int) 8).toNat).drop (0 : Int).toNat))
  let E3 : Nat × HV := (55, hI (((p2.take (min ((p2).length : Int) 8).toNat).drop (0 : Int).toNat).length : Int))
  let P2 : ASf := fun t H => ⟨(3, jF p0) :: (7, .ptr 3007 v6 0) :: t, O1 :: H⟩
  refine bf hK (P2 [(8, .v (.slice none 0 0)), E2, E3, (56, hI 0)] []) ?_
  refine AW.lpX h (by first | exact up_then | exact up_to) (S := Int × (List Int)) (V := Nat) (fun a v => (P2 [(8, .ar 3068 v eInt.k 0 ((a.2).length)), E2, E3, (56, hI a.1)] [(3068, v, .arr eInt.k 3 (eInt.E a.2))])) ?_ (X := (List Int)) (W := Nat) (fun a v => (P2 [(8, .ar 3068 v eInt.k 0 ((a).length))] [(3068, v, .arr eInt.k 3 (eInt.E a))])) (fun a18 w19 h => ?_) (fun a8 w9 st10 h => ?_)
  ·refine to_bind (to_own 3068 8 eInt.k 3 rfl fun v17 => ?_)
   exact to_le (s' := (P2 [(8, .ar 3068 v17 eInt.k 0 ((([] : List Int)).length)), E2, E3, (56, hI 0)] [(3068, v17, .arr eInt.k 3 (eInt.E ([] : List Int)))])) (AS.le_of ⟨rfl, rfl, arl (by first | rfl | simp only [List.length_set, sortI_len, sortS_len, List.length_reverse]), rfl, rfl, rfl, trivial⟩ ⟨rfl, rfl, trivial⟩) ⟨v17, rfl⟩
  ·refine AW.dls follows fun K hK F hF => ?_
   obtain ⟨h200401, h⟩ := ifN h
   let E4 : Nat × HV := (8, .ar 3068 w19 eInt.k 0 ((a18).length))
   let O5 : Nat × Nat × AObj := (3068, w19, .arr eInt.k 3 (eInt.E a18))
   refine l_go (L' := []) hF rfl (s' := (P2 [E4] [O5])) ?_ (le_q rfl rfl)
   have g20_12 : ∀ (v200601 : Nat), F [0, 1, 2, 3, 4, 5, 6, 7] (P2 [E4, (11, .ptr 3011 v200601 0)] [O5, (3011, v200601, .arr 2 24 [slE eStr p0.1, slE eStr ((p0.2.take (1 : Int).toNat).drop (0 : Int).toNat)])]) := by
    intro v200601
    refine l_done hF rfl rfl (hK _ (AW.to (to_le (s' := (P2 [E4, (11, .ptr 3011 v200601 0)] [O5, (3011, v200601, .arr 2 24 [slE eStr p0.1, slE eStr ((p0.2.take (1 : Int).toNat).drop (0 : Int).toNat)])])) (le_q rfl rfl) ?_)))
    refine AW.rgs rfl fun K hK => bv rfl (v_loadP ty24 rfl rfl (l_litA rfl (lb rfl) rfl)) (bv rfl (v_loadP ty27 rfl rfl (l_litA rfl (lb rfl) rfl)) (mv rfl rfl ?_))
    obtain ⟨x21, h22, h⟩ := bS h
    refine b_op rfl (o_call rfl rfl rfl rfl (((w_merging_Encode h22).fresh (by simp only [clean, cleanL, and_self]) rfl).callD 2 (mc rfl (mc rfl (mc (frz_slE eInt (l := a18) rfl fun _ _ => rfl) rfl)))) ?_)
    refine mv rfl rfl (bv rfl (v_extract rfl rfl) (bv rfl (v_extract rfl rfl) (mv rfl rfl (mv rfl rfl ?_))))
    refine bf hK (P2 [E4, (12, .str x21.1), (13, hI x21.2)] [O5]) ?_
    refine AW.rgs rfl fun K hK => mv rfl rfl ?_
    refine bf hK (P2 [E4, (12, .str x21.1), (13, hI x21.2), (14, .v (.slice none 0 0))] [O5]) ?_
    refine AW.seq ?_
    refine AW.rgs rfl fun K hK => mv rfl rfl (bv rfl (v_lenA rfl rfl ty36 rfl rfl) (mv rfl rfl ?_))
    let E6 : Nat × HV := (83, .ar 3068 w19 eInt.k 0 ((a18).length))
    let E7 : Nat × HV := (84, hI (((a18).length : Nat) : Int))
    refine bf hK (P2 [E4, (12, .str x21.1), (13, hI x21.2), (14, .v (.slice none 0 0)), E6, E7, (85, hI 0)] [O5]) ?_
    refine AW.lpX h (by first | exact up_then | exact up_to) (S := Int × (List (List UInt8))) (V := Nat) (fun a v => (P2 [E4, (12, .str x21.1), (13, hI x21.2), (14, .ar 3096 v eStr.k 0 ((a.2).length)), E6, E7, (85, hI a.1)] [O5, (3096, v, .arr eStr.k 9 (eStr.E a.2))])) ?_ (X := (List (List UInt8))) (W := Nat) (fun a v => (P2 [E4, (12, .str x21.1), (13, hI x21.2), (14, .ar 3096 v eStr.k 0 ((a).length))] [O5, (3096, v, .arr eStr.k 9 (eStr.E a))])) (fun a36 w37 h => ?_) (fun a23 w24 st25 h => ?_)
    ·refine to_bind (to_own 3096 14 eStr.k 9 rfl fun v35 => ?_)
     exact to_le (s' := (P2 [E4, (12, .str x21.1), (13, hI x21.2), (14, .ar 3096 v35 eStr.k 0 ((([] : List (List UInt8))).length)), E6, E7, (85, hI 0)] [O5, (3096, v35, .arr eStr.k 9 (eStr.E ([] : List (List UInt8))))])) (AS.le_of ⟨rfl, rfl, rfl, rfl, rfl, arl (by first | rfl | simp only [List.length_set, sortI_len, sortS_len, List.length_reverse]), rfl, rfl, rfl, trivial⟩ ⟨rfl, rfl, rfl, trivial⟩) ⟨v35, rfl⟩
    ·refine AW.rgs rfl fun K hK => bv rfl (v_loadF ty24 rfl (l_litA rfl (lb rfl) rfl)) (bv rfl (v_loadP ty27 rfl rfl (l_litA rfl (lb rfl) rfl)) (mv rfl rfl ?_))
     obtain ⟨x38, h39, h⟩ := bS h
     refine b_op rfl (o_call rfl rfl rfl rfl (((w_merging_Encode h39).fresh (by simp only [clean, cleanL, and_self]) rfl).callD 2 (mc rfl (mc rfl (mc (frz_slE eInt (l := a18) rfl fun _ _ => rfl) rfl)))) ?_)
     refine mv rfl rfl (bv rfl (v_extract rfl rfl) (bv rfl (v_extract rfl rfl) (mv rfl rfl (mv rfl rfl ?_))))
     refine bf hK (P2 [E4, (12, .str x21.1), (13, hI x21.2), (14, .ar 3096 w37 eStr.k 0 ((a36).length)), (17, .str x38.1), (18, hI x38.2)] [O5, (3096, w37, .arr eStr.k 9 (eStr.E a36))]) ?_
     refine AW.rgs rfl fun K hK => bv rfl (v_loadF ty24 rfl (l_litA rfl (lb rfl) rfl)) (mv rfl rfl ?_)
     obtain ⟨x40, h41, h⟩ := bS h
     refine b_op rfl (o_call rfl rfl rfl rfl (ACallD.pure0 (w_merging_Decode h41)) ?_)
     refine mv rfl rfl (bv rfl (v_extract rfl rfl) (bv rfl (v_extract rfl rfl) (mv rfl rfl (mv rfl rfl ?_))))
     refine bf hK (P2 [E4, (12, .str x21.1), (13, hI x21.2), (14, .ar 3096 w37 eStr.k 0 ((a36).length)), (18, hI x38.2), (19, slE eInt x40.1), (20, hI x40.2)] [O5, (3096, w37, .arr eStr.k 9 (eStr.E a36))]) ?_
     refine AW.seqJ h (S := Bool) (V := Unit) (fun a v => ⟨[(6, .bool a)], []⟩) (fun a42 w43 h => ?_) (fun k44 h => ?_)
     ·obtain rfl := oi h
      exact AW.ret (ret_pure (.inr rfl) (resT rfl rfl) rfl trivial)
     refine AW.rg rfl fun K hK => bv rfl (v_loadF ty24 rfl (l_litA rfl (lb rfl) rfl)) (bv rfl (v_loadP ty27 rfl rfl (l_litA rfl (lb rfl) rfl)) ?_)
     obtain ⟨x45, h46, h⟩ := bS h
     refine b_op rfl (o_call rfl rfl rfl rfl (ACallD.pure0 (w_merging_Check h46)) ?_)
     refine bv rfl (v_bin rfl rfl b_eql) (mv rfl rfl ?_)
     by_cases hg58 : x45 = 0
     ·have h := ifT hg58 h
      refine b_T rfl rfl rfl rfl (decide_eq_true hg58) (o_val rfl (mv_val rfl rfl).2 ?_)
      iterate 2 refine b_T rfl rfl rfl rfl rfl (o_val rfl (mv_val rfl rfl).2 ?_)
      refine b_T rfl rfl rfl rfl rfl (o_val rfl (v_max3 rfl rfl rfl rfl) ?_)
      refine b_T rfl rfl rfl rfl rfl (o_val rfl (v_bin rfl rfl b_eql) ?_)
      refine bv rfl (v_pickT rfl rfl rfl) (mv rfl rfl ?_)
      by_cases hg57 : (max (max x21.2 x38.2) x40.2) = 0
      ·have h := ifT hg57 h
       refine b_T rfl rfl rfl rfl (decide_eq_true hg57) (o_val rfl (mv_val rfl rfl).2 ?_)
       refine b_T rfl rfl rfl rfl rfl (o_val rfl (mv_val rfl rfl).2 ?_)
       refine b_T rfl rfl rfl rfl rfl (o_val rfl (v_fieldAddrF fo24_1 rfl) ?_)
       refine b_T rfl rfl rfl rfl rfl (o_val rfl (v_loadF ty22 rfl (l_lit rfl rfl)) ?_)
       obtain ⟨x47, h48, h⟩ := bS h
       refine b_T rfl rfl rfl rfl rfl (o_val rfl (v_idxF ty22 es22 rfl rfl (idx_lt h48)) ?_)
       refine b_T rfl rfl rfl rfl rfl (o_val rfl (v_loadF ty9 rfl (l_cell eStr h48 (o := 0) rfl rfl)) ?_)
       obtain ⟨x49, h50, h⟩ := bS h
       refine b_T rfl rfl rfl rfl rfl (o_call rfl rfl rfl rfl (((w_strings_Join h50).fresh (by simp only [clean, cleanL, and_self]) rfl).callD 2 (mc (frz_slE eStr (l := a36) rfl fun _ _ => rfl) (mc rfl rfl))) ?_)
       refine b_T rfl rfl rfl rfl rfl (o_val rfl (v_bin rfl rfl b_seql) ?_)
       refine bv rfl (v_pickT rfl rfl rfl) (mv rfl rfl ?_)
       by_cases hg56 : x21.1 = x49
       ·have h := ifT hg56 h
        refine b_T rfl rfl rfl rfl (decide_eq_true hg56) (o_val rfl (mv_val rfl rfl).2 ?_)
        refine b_T rfl rfl rfl rfl rfl (o_val rfl (mv_val rfl rfl).2 ?_)
        obtain ⟨x51, h52, h⟩ := bS h
        refine b_T rfl rfl rfl rfl rfl (o_call rfl rfl rfl rfl (((w_slices_Equal_Lint_int h52).fresh (by simp only [clean, cleanL, and_self]) rfl).callD 2 (mc rfl (mc (frz_slE eInt (l := a18) rfl fun _ _ => rfl) rfl))) ?_)
        refine bv rfl (v_pickT rfl rfl rfl) (mv rfl rfl ?_)
        by_cases hg55 : x51 = true
        ·have h := ifT hg55 h
         obtain ⟨x53, h54, h⟩ := bS h
         refine b_T rfl rfl rfl rfl hg55 (o_call rfl rfl rfl rfl (ACallD.pure0 (w_top_top35Awake h54)) ?_)
         refine bv rfl (v_pickT rfl rfl rfl) (mv rfl rfl ?_)
         refine b_nil (hK _ ?_)
         exact to_L ⟨x53, (), h, rfl⟩
        have h := ifF hg55 h
        refine b_F rfl rfl rfl rfl rfl (bF hg55) ?_
        refine bv rfl (v_pickF rfl rfl rfl) (mv rfl rfl ?_)
        refine b_nil (hK _ ?_)
        exact to_L ⟨false, (), h, rfl⟩
       have h := ifF hg56 h
       refine b_F rfl rfl rfl rfl rfl (decide_eq_false hg56) ?_
       iterate 2 refine b_F rfl rfl rfl rfl rfl rfl ?_
       refine bv rfl (v_pickF rfl rfl rfl) (mv rfl rfl ?_)
       refine b_F rfl rfl rfl rfl rfl rfl ?_
       refine bv rfl (v_pickF rfl rfl rfl) (mv rfl rfl ?_)
       refine b_nil (hK _ ?_)
       exact to_L ⟨false, (), h, rfl⟩
      have h := ifF hg57 h
      refine b_F rfl rfl rfl rfl rfl (decide_eq_false hg57) ?_
      iterate 7 refine b_F rfl rfl rfl rfl rfl rfl ?_
      refine bv rfl (v_pickF rfl rfl rfl) (mv rfl rfl ?_)
      iterate 3 refine b_F rfl rfl rfl rfl rfl rfl ?_
      refine bv rfl (v_pickF rfl rfl rfl) (mv rfl rfl ?_)
      refine b_F rfl rfl rfl rfl rfl rfl ?_
      refine bv rfl (v_pickF rfl rfl rfl) (mv rfl rfl ?_)
      refine b_nil (hK _ ?_)
      exact to_L ⟨false, (), h, rfl⟩
     have h := ifF hg58 h
     refine b_F rfl rfl rfl rfl rfl (decide_eq_false hg58) ?_
     iterate 4 refine b_F rfl rfl rfl rfl rfl rfl ?_
     refine bv rfl (v_pickF rfl rfl rfl) (mv rfl rfl ?_)
     iterate 8 refine b_F rfl rfl rfl rfl rfl rfl ?_
     refine bv rfl (v_pickF rfl rfl rfl) (mv rfl rfl ?_)
     iterate 3 refine b_F rfl rfl rfl rfl rfl rfl ?_
     refine bv rfl (v_pickF rfl rfl rfl) (mv rfl rfl ?_)
     refine b_F rfl rfl rfl rfl rfl rfl ?_
     refine bv rfl (v_pickF rfl rfl rfl) (mv rfl rfl ?_)
     refine b_nil (hK _ ?_)
     exact to_L ⟨false, (), h, rfl⟩
    refine AW.rgs rfl fun K hK => bv rfl (v_bin rfl rfl b_lss) ?_
    refine bf hK (P2 [E4, (12, .str x21.1), (13, hI x21.2), (14, .ar 3096 w24 eStr.k 0 ((a23.2).length)), E6, E7, (85, hI a23.1), (86, .bool (decide (a23.1 < (((a18).length : Nat) : Int))))] [O5, (3096, w24, .arr eStr.k 9 (eStr.E a23.2))]) ?_
    refine AW.cseq rfl (fun hc => ?_) (fun hc => ?_)
    ·obtain ⟨hc, h⟩ := cT hc h
     refine AW.skip ?_
     refine AW.seq (AW.block ?_)
     refine AW.rgs rfl fun K hK => ?_
     obtain ⟨x27, h28, h⟩ := bS h
     refine bv rfl (v_idxA ty36 es36 rfl rfl (idx_lt h28) rfl) ?_
     obtain ⟨x29, h30, h⟩ := bS h
     refine bv rfl (v_loadP ty3 rfl rfl (l_cell eInt h30 (o := 0) rfl rfl)) (mv rfl rfl ?_)
     refine bf hK (P2 [E4, (12, .str x21.1), (13, hI x21.2), (14, .ar 3096 w24 eStr.k 0 ((a23.2).length)), (16, hI x29), E6, E7, (85, hI a23.1)] [O5, (3096, w24, .arr eStr.k 9 (eStr.E a23.2))]) ?_
     refine AW.rg rfl fun K hK => mv rfl rfl (bv rfl (v_fieldAddrF fo24_0 rfl) (bv rfl (v_loadF ty22 rfl (l_lit rfl rfl)) (mv rfl rfl ?_)))
     obtain ⟨x31, h32, h⟩ := bS h
     refine bv rfl (v_idxF ty22 es22 rfl rfl (idx_lt h32)) (bv rfl (v_loadF ty9 rfl (l_cell eStr h32 (o := 0) rfl rfl)) ?_)
     refine b_op rfl (o_bsl rfl rfl (as_of (cs := [.str x31]) ty22 ty9 rfl rfl rfl rfl rfl) ?_)
     obtain ⟨h34, h⟩ := ifN h
     refine b_op rfl (o_appE eStr (l := a23.2) (m := [x31]) rfl rfl ty22 ty22 ty9 rfl rfl rfl rfl rfl h34 (fun v33 => ?_))
     refine mv rfl rfl ?_
     refine bf hK (P2 [E4, (12, .str x21.1), (13, hI x21.2), (14, .ar 3096 v33 eStr.k 0 ((a23.2 ++ [x31]).length)), E6, E7, (85, hI a23.1)] [O5, (3096, v33, .arr eStr.k 9 (eStr.E (a23.2 ++ [x31])))]) ?_
     refine AW.rg rfl fun K hK => bv rfl (v_bin rfl rfl b_add) (mv rfl rfl ?_)
     refine b_nil (hK _ ?_)
     exact to_L ⟨(IntKind.wrap .i64 (a23.1 + 1), a23.2 ++ [x31]), v33, h, rfl⟩
    obtain ⟨hc, h⟩ := cF hc h
    refine AW.exit ?_
    exact to_L ⟨a23.2, w24, h, rfl⟩
   let P : ASf := fun t H => ⟨(3, jF p0) :: (7, .ptr 3007 v6 0) :: (8, .ar 3068 w19 eInt.k 0 ((a18).length)) :: t, (3007, v6, .arr 3 27 [hI 2, hI 1, slE eFromLabelTo [(0, 0, 0), (0, 1, 0)]]) :: (3068, w19, .arr eInt.k 3 (eInt.E a18)) :: H⟩
   have g20_11 : ∀ (v200601 : Nat), F [0, 1, 2, 3, 4, 5, 6] (P [(11, .ptr 3011 v200601 0), (75, .agg [slE eStr p0.1, slE eStr ((p0.2.take (1 : Int).toNat).drop (0 : Int).toNat)])] [(3011, v200601, .arr 2 24 [.v (.slice none 0 0), .v (.slice none 0 0)])]) := by
    intro v200601
    refine l_step hF rfl [7] rfl rfl ⟨?_, trivial⟩
    refine l_op rfl rfl rfl (o_store (cs := [slE eStr p0.1, slE eStr ((p0.2.take (1 : Int).toNat).drop (0 : Int).toNat)]) (zs := [slE eStr p0.1, slE eStr ((p0.2.take (1 : Int).toNat).drop (0 : Int).toNat)]) rfl rfl rfl ty24 rfl rfl rfl rfl rfl ?_)
    exact b_nil (lg hF (g20_12 v200601))
   have g20_10 : ∀ (v200601 : Nat), F [0, 1, 2, 3, 4, 6] (P [(11, .ptr 3011 v200601 0), (71, slE eStr p0.1), (74, slE eStr ((p0.2.take (1 : Int).toNat).drop (0 : Int).toNat))] [(3011, v200601, .arr 2 24 [.v (.slice none 0 0), .v (.slice none 0 0)])]) := by
    intro v200601
    refine l_step hF rfl [5] rfl rfl ⟨?_, trivial⟩
    refine l_op rfl rfl rfl (o_build (cs := [slE eStr p0.1, slE eStr ((p0.2.take (1 : Int).toNat).drop (0 : Int).toNat)]) rfl (bl_of ty24 rfl rfl rfl rfl) ?_)
    exact b_nil (lg hF (g20_11 v200601))
   have g20_16 : F [0, 1, 2, 3, 4, 5] (P [(75, .agg [slE eStr p0.1, slE eStr ((p0.2.take (1 : Int).toNat).drop (0 : Int).toNat)])] []) := by
    refine l_step hF rfl [6] rfl rfl ⟨?_, trivial⟩
    refine l_op rfl rfl rfl (o_alloc (fid := 3) (zs := [.v (.slice none 0 0), .v (.slice none 0 0)]) 3011 rfl rfl ty24 rfl (fun v200601 => ?_))
    exact b_nil (lg hF (g20_11 v200601))
   have g20_8 : ∀ (v200601 : Nat), F [0, 1, 2, 3, 6] (P [(11, .ptr 3011 v200601 0), (71, slE eStr p0.1), (73, slE eStr p0.2)] [(3011, v200601, .arr 2 24 [.v (.slice none 0 0), .v (.slice none 0 0)])]) := by
    intro v200601
    refine l_step hF rfl [4] rfl rfl ⟨?_, trivial⟩
    exact l_ov rfl rfl rfl rfl (v_sliceF eStr ty22 es22 rfl rfl rfl h200401) (lg hF (g20_10 v200601))
   have g20_9 : ∀ (v200601 : Nat), F [0, 2, 3, 4, 6] (P [(11, .ptr 3011 v200601 0), (70, jF p0), (74, slE eStr ((p0.2.take (1 : Int).toNat).drop (0 : Int).toNat))] [(3011, v200601, .arr 2 24 [.v (.slice none 0 0), .v (.slice none 0 0)])]) := by
    intro v200601
    refine l_step hF rfl [1] rfl rfl ⟨?_, trivial⟩
    exact l_ov rfl rfl rfl rfl (v_loadF ty22 rfl (l_lit rfl rfl)) (lg hF (g20_10 v200601))
   have g20_15 : F [0, 1, 2, 3, 4] (P [(71, slE eStr p0.1), (74, slE eStr ((p0.2.take (1 : Int).toNat).drop (0 : Int).toNat))] []) := by
    refine l_step hF rfl [5, 6] rfl rfl ⟨?_, ?_, trivial⟩
    ·refine l_op rfl rfl rfl (o_build (cs := [slE eStr p0.1, slE eStr ((p0.2.take (1 : Int).toNat).drop (0 : Int).toNat)]) rfl (bl_of ty24 rfl rfl rfl rfl) ?_)
     exact b_nil (lg hF (g20_16))
    refine l_op rfl rfl rfl (o_alloc (fid := 3) (zs := [.v (.slice none 0 0), .v (.slice none 0 0)]) 3011 rfl rfl ty24 rfl (fun v200601 => ?_))
    exact b_nil (lg hF (g20_10 v200601))
   have g20_6 : ∀ (v200601 : Nat), F [0, 1, 2, 6] (P [(11, .ptr 3011 v200601 0), (71, slE eStr p0.1), (72, .fptr [slE eStr p0.1, slE eStr p0.2] 1)] [(3011, v200601, .arr 2 24 [.v (.slice none 0 0), .v (.slice none 0 0)])]) := by
    intro v200601
    refine l_step hF rfl [3] rfl rfl ⟨?_, trivial⟩
    exact l_ov rfl rfl rfl rfl (v_loadF ty22 rfl (l_lit rfl rfl)) (lg hF (g20_8 v200601))
   have g20_7 : ∀ (v200601 : Nat), F [0, 2, 3, 6] (P [(11, .ptr 3011 v200601 0), (70, jF p0), (73, slE eStr p0.2)] [(3011, v200601, .arr 2 24 [.v (.slice none 0 0), .v (.slice none 0 0)])]) := by
    intro v200601
    refine l_step hF rfl [1, 4] rfl rfl ⟨?_, ?_, trivial⟩
    ·exact l_ov rfl rfl rfl rfl (v_loadF ty22 rfl (l_lit rfl rfl)) (lg hF (g20_8 v200601))
    exact l_ov rfl rfl rfl rfl (v_sliceF eStr ty22 es22 rfl rfl rfl h200401) (lg hF (g20_9 v200601))
   have g20_13 : F [0, 1, 2, 3] (P [(71, slE eStr p0.1), (73, slE eStr p0.2)] []) := by
    refine l_step hF rfl [4, 6] rfl rfl ⟨?_, ?_, trivial⟩
    ·exact l_ov rfl rfl rfl rfl (v_sliceF eStr ty22 es22 rfl rfl rfl h200401) (lg hF (g20_15))
    refine l_op rfl rfl rfl (o_alloc (fid := 3) (zs := [.v (.slice none 0 0), .v (.slice none 0 0)]) 3011 rfl rfl ty24 rfl (fun v200601 => ?_))
    exact b_nil (lg hF (g20_8 v200601))
   have g20_14 : F [0, 2, 3, 4] (P [(70, jF p0), (74, slE eStr ((p0.2.take (1 : Int).toNat).drop (0 : Int).toNat))] []) := by
    refine l_step hF rfl [1, 6] rfl rfl ⟨?_, ?_, trivial⟩
    ·exact l_ov rfl rfl rfl rfl (v_loadF ty22 rfl (l_lit rfl rfl)) (lg hF (g20_15))
    refine l_op rfl rfl rfl (o_alloc (fid := 3) (zs := [.v (.slice none 0 0), .v (.slice none 0 0)]) 3011 rfl rfl ty24 rfl (fun v200601 => ?_))
    exact b_nil (lg hF (g20_9 v200601))
   have g20_3 : F [0, 1, 2] (P [(71, slE eStr p0.1), (72, .fptr [slE eStr p0.1, slE eStr p0.2] 1)] []) := by
    refine l_step hF rfl [3, 6] rfl rfl ⟨?_, ?_, trivial⟩
    ·exact l_ov rfl rfl rfl rfl (v_loadF ty22 rfl (l_lit rfl rfl)) (lg hF (g20_13))
    refine l_op rfl rfl rfl (o_alloc (fid := 3) (zs := [.v (.slice none 0 0), .v (.slice none 0 0)]) 3011 rfl rfl ty24 rfl (fun v200601 => ?_))
    exact b_nil (lg hF (g20_6 v200601))
   have g20_4 : F [0, 2, 3] (P [(70, jF p0), (73, slE eStr p0.2)] []) := by
    refine l_step hF rfl [1, 4, 6] rfl rfl ⟨?_, ?_, ?_, trivial⟩
    ·exact l_ov rfl rfl rfl rfl (v_loadF ty22 rfl (l_lit rfl rfl)) (lg hF (g20_13))
    ·exact l_ov rfl rfl rfl rfl (v_sliceF eStr ty22 es22 rfl rfl rfl h200401) (lg hF (g20_14))
    refine l_op rfl rfl rfl (o_alloc (fid := 3) (zs := [.v (.slice none 0 0), .v (.slice none 0 0)]) 3011 rfl rfl ty24 rfl (fun v200601 => ?_))
    exact b_nil (lg hF (g20_7 v200601))
   have g20_5 : ∀ (v200601 : Nat), F [0, 2, 6] (P [(11, .ptr 3011 v200601 0), (70, jF p0), (72, .fptr [slE eStr p0.1, slE eStr p0.2] 1)] [(3011, v200601, .arr 2 24 [.v (.slice none 0 0), .v (.slice none 0 0)])]) := by
    intro v200601
    refine l_step hF rfl [1, 3] rfl rfl ⟨?_, ?_, trivial⟩
    ·exact l_ov rfl rfl rfl rfl (v_loadF ty22 rfl (l_lit rfl rfl)) (lg hF (g20_6 v200601))
    exact l_ov rfl rfl rfl rfl (v_loadF ty22 rfl (l_lit rfl rfl)) (lg hF (g20_7 v200601))
   have g20_2 : F [0, 2] (P [(70, jF p0), (72, .fptr [slE eStr p0.1, slE eStr p0.2] 1)] []) := by
    refine l_step hF rfl [1, 3, 6] rfl rfl ⟨?_, ?_, ?_, trivial⟩
    ·exact l_ov rfl rfl rfl rfl (v_loadF ty22 rfl (l_lit rfl rfl)) (lg hF (g20_3))
    ·exact l_ov rfl rfl rfl rfl (v_loadF ty22 rfl (l_lit rfl rfl)) (lg hF (g20_4))
    refine l_op rfl rfl rfl (o_alloc (fid := 3) (zs := [.v (.slice none 0 0), .v (.slice none 0 0)]) 3011 rfl rfl ty24 rfl (fun v200601 => ?_))
    exact b_nil (lg hF (g20_5 v200601))
   have g20_1 : F [0] (P [(70, jF p0)] []) := by
    refine l_take (i := 2) hF rfl rfl rfl (v_fieldAddrF fo24_1 rfl) ?_
    exact lg hF (g20_2)
   have g20_0 : F [] (P [] []) := by
    refine l_take (i := 0) hF rfl rfl rfl (v_fieldAddrF fo24_0 rfl) ?_
    exact lg hF (g20_1)
   exact g20_0
  refine AW.rgs rfl fun K hK => bv rfl (v_bin rfl rfl b_lss) ?_
  refine bf hK (P2 [(8, .ar 3068 w9 eInt.k 0 ((a8.2).length)), E2, E3, (56, hI a8.1), (57, .bool (decide (a8.1 < (((p2.take (min ((p2).length : Int) 8).toNat).drop (0 : Int).toNat).length : Int))))] [(3068, w9, .arr eInt.k 3 (eInt.E a8.2))]) ?_
  refine AW.cseq rfl (fun hc => ?_) (fun hc => ?_)
  ·obtain ⟨hc, h⟩ := cT hc h
   refine AW.skip ?_
   refine AW.seq (AW.block ?_)
   refine AW.rgs rfl fun K hK => ?_
   obtain ⟨x12, h13, h⟩ := bS h
   refine bv rfl (v_idxF ty28 es28 rfl rfl (idx_lt h13)) (bv rfl (v_loadF ty5 rfl (l_cell eU8 h13 (o := 0) rfl rfl)) (mv rfl rfl ?_))
   refine bf hK (P2 [(8, .ar 3068 w9 eInt.k 0 ((a8.2).length)), (10, .int .u8 x12), E2, E3, (56, hI a8.1)] [(3068, w9, .arr eInt.k 3 (eInt.E a8.2))]) ?_
   refine AW.rg rfl fun K hK => mv rfl rfl (mv rfl rfl (bv rfl (v_convI ty5 ty3 rfl) (bv rfl (v_fieldAddrF fo24_0 rfl) (bv rfl (v_loadF ty22 rfl (l_lit rfl rfl)) (bv rfl (v_lenF rfl rfl ty22 rfl) ?_)))))
   obtain ⟨h14, h⟩ := ifN h
   refine bv rfl (v_bin rfl rfl (b_rem h14)) ?_
   refine b_op rfl (o_bsl rfl rfl (as_of (cs := [hI (Int.tmod (IntKind.wrap .i64 x12) ((p0.1).length : Int))]) ty36 ty3 rfl rfl rfl rfl rfl) ?_)
   obtain ⟨h16, h⟩ := ifN h
   refine b_op rfl (o_appE eInt (l := a8.2) (m := [Int.tmod (IntKind.wrap .i64 x12) ((p0.1).length : Int)]) rfl rfl ty36 ty36 ty3 rfl rfl rfl rfl rfl h16 (fun v15 => ?_))
   refine mv rfl rfl ?_
   refine bf hK (P2 [(8, .ar 3068 v15 eInt.k 0 ((a8.2 ++ [Int.tmod (IntKind.wrap .i64 x12) ((p0.1).length : Int)]).length)), E2, E3, (56, hI a8.1)] [(3068, v15, .arr eInt.k 3 (eInt.E (a8.2 ++ [Int.tmod (IntKind.wrap .i64 x12) ((p0.1).length : Int)])))]) ?_
   refine AW.rg rfl fun K hK => bv rfl (v_bin rfl rfl b_add) (mv rfl rfl ?_)
   refine b_nil (hK _ ?_)
   exact to_L ⟨(IntKind.wrap .i64 (a8.1 + 1), a8.2 ++ [Int.tmod (IntKind.wrap .i64 x12) ((p0.1).length : Int)]), v15, h, rfl⟩
  obtain ⟨hc, h⟩ := cF hc h
  refine AW.exit ?_
  exact to_L ⟨a8.2, w9, h, rfl⟩
 refine AW.rg rfl fun K hK => bv rfl (v_loadF ty24 rfl (l_litA rfl (lb rfl) rfl)) ?_
 obtain ⟨x59, h60, h⟩ := bS h
 refine b_op rfl (o_call rfl rfl rfl rfl (ACallD.pure0 (w_ref31_Great h60)) ?_)
 refine mv rfl rfl ?_
 by_cases hg68 : x59 = true
 ·have h := ifT hg68 h
  refine b_F rfl rfl rfl rfl rfl hg68 ?_
  refine b_F rfl rfl rfl rfl rfl rfl ?_
  refine bv rfl (v_pickT rfl rfl rfl) (mv rfl rfl ?_)
  iterate 4 refine b_F rfl rfl rfl rfl rfl rfl ?_
  refine bv rfl (v_pickT rfl rfl rfl) (mv rfl rfl ?_)
  iterate 4 refine b_F rfl rfl rfl rfl rfl rfl ?_
  refine bv rfl (v_pickT rfl rfl rfl) (mv rfl rfl ?_)
  iterate 4 refine b_F rfl rfl rfl rfl rfl rfl ?_
  refine bv rfl (v_pickT rfl rfl rfl) ?_
  refine b_nil (hK _ ?_)
  exact to_L ⟨true, (), h, rfl⟩
 have h := ifF hg68 h
 refine b_T rfl rfl rfl rfl (bF hg68) (o_val rfl (v_loadF ty27 rfl (l_litA rfl (lb rfl) rfl)) ?_)
 obtain ⟨x61, h62, h⟩ := bS h
 refine b_T rfl rfl rfl rfl rfl (o_call rfl rfl rfl rfl (ACallD.pure0 (w_ref11_Great h62)) ?_)
 refine bv rfl (v_pickF rfl rfl rfl) (mv rfl rfl ?_)
 by_cases hg67 : x61 = true
 ·have h := ifT hg67 h
  refine b_F rfl rfl rfl rfl rfl hg67 ?_
  iterate 3 refine b_F rfl rfl rfl rfl rfl rfl ?_
  refine bv rfl (v_pickT rfl rfl rfl) (mv rfl rfl ?_)
  iterate 4 refine b_F rfl rfl rfl rfl rfl rfl ?_
  refine bv rfl (v_pickT rfl rfl rfl) (mv rfl rfl ?_)
  iterate 4 refine b_F rfl rfl rfl rfl rfl rfl ?_
  refine bv rfl (v_pickT rfl rfl rfl) ?_
  refine b_nil (hK _ ?_)
  exact to_L ⟨true, (), h, rfl⟩
 have h := ifF hg67 h
 refine b_T rfl rfl rfl rfl (bF hg67) (o_val rfl (v_loadF ty24 rfl (l_litA rfl (lb rfl) rfl)) ?_)
 refine b_T rfl rfl rfl rfl rfl (o_val rfl (v_loadF ty27 rfl (l_litA rfl (lb rfl) rfl)) ?_)
 obtain ⟨x63, h64, h⟩ := bS h
 refine b_T rfl rfl rfl rfl rfl (o_call rfl rfl rfl rfl (ACallD.pure0 (w_merging_Check h64)) ?_)
 refine b_T rfl rfl rfl rfl rfl (o_val rfl (v_bin rfl rfl b_neq) ?_)
 refine bv rfl (v_pickF rfl rfl rfl) (mv rfl rfl ?_)
 by_cases hg66 : x63 ≠ 0
 ·have h := ifT hg66 h
  refine b_F rfl rfl rfl rfl rfl (decide_eq_true hg66) ?_
  iterate 3 refine b_F rfl rfl rfl rfl rfl rfl ?_
  refine bv rfl (v_pickT rfl rfl rfl) (mv rfl rfl ?_)
  iterate 4 refine b_F rfl rfl rfl rfl rfl rfl ?_
  refine bv rfl (v_pickT rfl rfl rfl) ?_
  refine b_nil (hK _ ?_)
  exact to_L ⟨true, (), h, rfl⟩
 have h := ifF hg66 h
 refine b_T rfl rfl rfl rfl (decide_eq_false hg66) (o_val rfl (v_fieldAddrF fo24_0 rfl) ?_)
 refine b_T rfl rfl rfl rfl rfl (o_val rfl (v_loadF ty22 rfl (l_lit rfl rfl)) ?_)
 refine b_T rfl rfl rfl rfl rfl (o_val rfl (v_lenF rfl rfl ty22 rfl) ?_)
 refine b_T rfl rfl rfl rfl rfl (o_val rfl (v_bin rfl rfl b_eql) ?_)
 refine bv rfl (v_pickF rfl rfl rfl) (mv rfl rfl ?_)
 by_cases hg65 : ((p0.1).length : Int) = 0
 ·have h := ifT hg65 h
  refine b_F rfl rfl rfl rfl rfl (decide_eq_true hg65) ?_
  iterate 3 refine b_F rfl rfl rfl rfl rfl rfl ?_
  refine bv rfl (v_pickT rfl rfl rfl) ?_
  refine b_nil (hK _ ?_)
  exact to_L ⟨true, (), h, rfl⟩
 have h := ifF hg65 h
 refine b_T rfl rfl rfl rfl (decide_eq_false hg65) (o_val rfl (v_fieldAddrF fo24_1 rfl) ?_)
 refine b_T rfl rfl rfl rfl rfl (o_val rfl (v_loadF ty22 rfl (l_lit rfl rfl)) ?_)
 refine b_T rfl rfl rfl rfl rfl (o_val rfl (v_lenF rfl rfl ty22 rfl) ?_)
 refine b_T rfl rfl rfl rfl rfl (o_val rfl (v_bin rfl rfl b_eql) ?_)
 refine bv rfl (v_pickF rfl rfl rfl) ?_
 refine b_nil (hK _ ?_)
 exact to_L ⟨decide (((p0.2).length : Int) = 0), (), h, rfl⟩
end Go.AW

namespace Go.AW
open Go
set_option linter.unusedSimpArgs false
set_option linter.unusedVariables false
theorem IndexS31 {l : List (List UInt8)} {x : List UInt8} (hm : l.length ≤ 9223372036854775807) : m_slices_Index_Lstring_string l x = some (firstI l fun y => decide (x = y)) := by
 unfold m_slices_Index_Lstring_string
 refine lpE (loop_findL (fun i => (i : Int)) l (fun y => decide (x = y)) (fun i => Ou.ret (i : Int)) (Ou.go ()) (fun i hi => ?_) (by rw [if_neg (not_lt_int _)]) rfl) ?_
 ·rw [if_pos (lt_int hi), ix hi]
  simp only [Option.bind_some, nx hm hi, decide_eq_true_eq]
 unfold firstI
 split <;> rfl
theorem ContainsS31 {l : List (List UInt8)} {x : List UInt8} (hm : l.length ≤ 9223372036854775807) : m_slices_Contains_Lstring_string l x = some (decide (x ∈ l)) := by
 unfold m_slices_Contains_Lstring_string
 rw [IndexS31 hm]
 simp only [Option.bind_some, firstI_nn]
 congr 1
 exact decide_eq_decide.2 (by simp [List.any_eq_true])
theorem hdl2 (l : List (List UInt8)) : (l.headD []).length = fstLen l := id rfl
def sub (w : List UInt8) (a l : Nat) : List UInt8 := (w.drop a).take l
def pieceW (j : Jn) (w : List UInt8) (t : Nat) : List UInt8 := sub w (t * (fstLen j.1 + fstLen j.2)) (fstLen j.1)
def pieceM (j : Jn) (w : List UInt8) (t : Nat) : List UInt8 := sub w (t * (fstLen j.1 + fstLen j.2) - fstLen j.2) (fstLen j.2)
def badT (j : Jn) (w : List UInt8) (t : Nat) : Bool := decide (0 < t ∧ pieceM j w t ∉ j.2) || decide (pieceW j w t ∉ j.1)
def outT (j : Jn) (w : List UInt8) (t : Nat) : List Int := (List.range t).map fun i => firstI j.1 fun y => decide (pieceW j w i = y)
theorem outT_succ (j : Jn) (w : List UInt8) (t : Nat) : outT j w (t + 1) = outT j w t ++ [firstI j.1 fun y => decide (pieceW j w t = y)] := by
 simp [outT, List.range_succ]
theorem outT_len (j : Jn) (w : List UInt8) (t : Nat) : (outT j w t).length = t := by simp [outT]
def kW (j : Jn) (w : List UInt8) : Nat := (w.length + fstLen j.2) / (fstLen j.1 + fstLen j.2)
def decE (j : Jn) (w : List UInt8) : List Int × Int :=
 if formE j ≠ 0 then ([], 1) else if w = [] then ([], 0) else if (w.length + fstLen j.2) % (fstLen j.1 + fstLen j.2) ≠ 0 then ([], 11)
 else match fstN (X := Ou (List Int) (List Int × Int)) (badT j w) (fun _ => Ou.ret ([], 13)) (Ou.go (outT j w (kW j w))) (kW j w) 0 with
  | .go l => (l, 0)
  | .ret r => r
theorem first_neg {l : List (List UInt8)} {x : List UInt8} : (firstI l fun y => decide (x = y)) < 0 ↔ x ∉ l := by
 have := firstI_nn (l := l) (P := fun y => decide (x = y))
 simp only [List.any_eq_true, decide_eq_true_eq, exists_eq_right'] at this
 rw [← this]
 omega
theorem Decode_eq {j : Jn} (hs : SmJ j) {w : List UInt8} (hw : w.length ≤ 1000000) : m_merging_Decode j w = some (decE j w) := by
  unfold m_merging_Decode decE
  rw [form_eq hs]
  simp only [Option.bind_some]
  by_cases hf : formE j ≠ 0
  · rw [if_pos (show formE j ≠ 0 from hf), if_pos (show formE j ≠ 0 from hf)]
  rw [if_neg hf, if_neg hf]
  have hf := Classical.not_not.1 hf
  have hj := formE_zero hf
  by_cases h0 : w = []
  · rw [if_pos h0, if_pos h0]
  rw [if_neg h0, if_neg h0, idx0 hj.ne1, idx0 hj.ne2]
  simp only [Option.bind_some, hdl2]
  have n1 := hj.n1
  have n16 := hj.n16
  have r16 := hj.r16
  have l1 := hj.l1
  have l2 := hj.l2
  have hw0 : 0 < w.length := List.length_pos_iff.2 h0
  have e1 : IntKind.wrap .i64 (((fstLen j.1 : Nat) : Int) + ((fstLen j.2 : Nat) : Int)) = ((fstLen j.1 + fstLen j.2 : Nat) : Int) := by rw [w64 (by omega) (by omega)]; omega
  have e2 : IntKind.wrap .i64 (((w.length : Nat) : Int) + ((fstLen j.2 : Nat) : Int)) = ((w.length + fstLen j.2 : Nat) : Int) := by rw [w64 (by omega) (by omega)]; omega
  simp only [e1, e2]
  rw [if_pos (by omega)]
  simp only [← Int.ofNat_tmod]
  by_cases hd : (w.length + fstLen j.2) % (fstLen j.1 + fstLen j.2) ≠ 0
  · rw [if_pos (show (((w.length + fstLen j.2) % (fstLen j.1 + fstLen j.2) : Nat) : Int) ≠ 0 by omega), if_pos hd]
  rw [if_neg (show ¬ ((((w.length + fstLen j.2) % (fstLen j.1 + fstLen j.2) : Nat) : Int) ≠ 0) by omega), if_neg hd]
  have hd := Classical.not_not.1 hd
  have hk : w.length + fstLen j.2 = kW j w * (fstLen j.1 + fstLen j.2) := by
    have := Nat.div_add_mod (w.length + fstLen j.2) (fstLen j.1 + fstLen j.2)
    rw [hd, Nat.add_zero, Nat.mul_comm] at this
    exact this.symm
  generalize hK : kW j w = K at hk ⊢
  have hP : 0 < fstLen j.1 + fstLen j.2 := by omega
  have ht : ∀ t, t < K → t * (fstLen j.1 + fstLen j.2) + (fstLen j.1 + fstLen j.2) ≤ w.length + fstLen j.2 := fun t htK => by
    rw [hk, ← Nat.succ_mul]; exact Nat.mul_le_mul_right _ htK
  refine lpE (loop_fst (fun t => (w.drop (t * (fstLen j.1 + fstLen j.2) - fstLen j.2), outT j w t)) K (badT j w) (fun _ => Ou.ret ([], 13)) (Ou.go (outT j w K)) (fun t htK => ?_) ?_ (by simp [outT])) ?_
  · have h1 := ht t htK
    have htl : t ≤ t * (fstLen j.1 + fstLen j.2) := Nat.le_mul_of_pos_right t hP
    have hlen : (w.drop (t * (fstLen j.1 + fstLen j.2) - fstLen j.2)).length = w.length - (t * (fstLen j.1 + fstLen j.2) - fstLen j.2) := List.length_drop
    simp only [jp]
    rw [if_pos (by intro he; rw [he, List.length_nil] at hlen; omega)]
    simp only [outT_len]
    have tail : ∀ v : List UInt8, v = w.drop (t * (fstLen j.1 + fstLen j.2)) → (decide (0 < t ∧ pieceM j w t ∉ j.2)) = false →
        (if 0 ≤ (0 : Int) ∧ (0 : Int) ≤ ((fstLen j.1 : Nat) : Int) ∧ ((fstLen j.1 : Nat) : Int) ≤ (v.length : Int) then
             (m_slices_Index_Lstring_string j.1 ((v.take (((fstLen j.1 : Nat) : Int)).toNat).drop (0 : Int).toNat)).bind fun x16 =>
             if x16 < 0 then
              some (Stp.exit (Ou.ret ([], 13)))
             else
              if fits 8 (t + ([x16]).length) then
               if 0 ≤ (((fstLen j.1 : Nat) : Int) : Int) ∧ (((fstLen j.1 : Nat) : Int) : Int) ≤ ((v).length : Int) ∧ ((v).length : Int) ≤ (v.length : Int) then
                some (Stp.next ((v.take (((v).length : Int)).toNat).drop (((fstLen j.1 : Nat) : Int)).toNat, outT j w t ++ [x16]))
               else none
              else none
            else none) = (if badT j w t = true then some (Stp.exit (Ou.ret ([], 13))) else some (Stp.next (w.drop ((t + 1) * (fstLen j.1 + fstLen j.2) - fstLen j.2), outT j w (t + 1))) : Option (Stp (List UInt8 × List Int) (Ou (List Int) (List Int × Int)))) := by
      intro v hv hb
      have hvl : v.length = w.length - t * (fstLen j.1 + fstLen j.2) := by rw [hv]; exact List.length_drop
      rw [if_pos ⟨by omega, by omega, by omega⟩, IndexS31 (by omega)]
      have ep : (v.take (((fstLen j.1 : Nat) : Int)).toNat).drop (0 : Int).toNat = pieceW j w t := by
        simp only [Int.toNat_natCast, Int.toNat_zero, List.drop_zero, hv, pieceW, sub]
      rw [ep]
      simp only [Option.bind_some, badT, hb, Bool.false_or, decide_eq_true_eq]
      by_cases hm : pieceW j w t ∈ j.1
      · rw [if_neg (show ¬ ((firstI j.1 fun y => decide (pieceW j w t = y)) < 0) by rw [first_neg]; exact fun h => h hm), if_neg (show ¬ (pieceW j w t ∉ j.1) from fun h => h hm), if_pos (fits_le (by simp only [List.length_singleton]; omega) (by simp only [List.length_singleton]; omega)), if_pos ⟨by omega, by omega, by omega⟩, outT_succ]
        have e3 : (v.take ((v.length : Int)).toNat).drop (((fstLen j.1 : Nat) : Int)).toNat = w.drop ((t + 1) * (fstLen j.1 + fstLen j.2) - fstLen j.2) := by
          rw [Int.toNat_natCast, Int.toNat_natCast, List.take_length, hv, List.drop_drop, Nat.succ_mul]
          congr 1
          omega
        rw [e3]
      rw [if_pos (first_neg.2 hm), if_pos hm]
    by_cases h0t : 0 < t
    · have hmul : fstLen j.1 + fstLen j.2 ≤ t * (fstLen j.1 + fstLen j.2) := Nat.le_mul_of_pos_left _ h0t
      rw [if_pos (by omega), if_pos ⟨by omega, by omega, by omega⟩, ContainsS31 (by omega)]
      have ep : ((w.drop (t * (fstLen j.1 + fstLen j.2) - fstLen j.2)).take (((fstLen j.2 : Nat) : Int)).toNat).drop (0 : Int).toNat = pieceM j w t := by
        simp only [Int.toNat_natCast, Int.toNat_zero, List.drop_zero, pieceM, sub]
      rw [ep]
      simp only [Option.bind_some]
      by_cases hm : pieceM j w t ∈ j.2
      · rw [if_neg (by simp [hm]), if_pos ⟨by omega, by omega, by omega⟩]
        refine tail _ ?_ (by simp [hm])
        rw [Int.toNat_natCast, Int.toNat_natCast, List.take_length, List.drop_drop]
        congr 1
        omega
      rw [if_pos (by simp [hm]), if_pos (by simp [badT, hm, h0t])]
    have : t = 0 := by omega
    subst this
    rw [if_neg (by omega)]
    refine tail _ ?_ (by simp)
    simp
  · have : w.drop (K * (fstLen j.1 + fstLen j.2) - fstLen j.2) = [] := by
      rw [List.drop_eq_nil_iff]; omega
    simp only [this]
    rw [if_neg (fun h => h rfl)]
  split
  · rename_i l hl; rw [hl]; rfl
  rename_i r hr; rw [hr]; rfl
def listL (j : Jn) (l : List Int) : List Int := (l.take 8).map fun x => x % (j.1.length : Int)
theorem list31_eq {j : Jn} {l : List Int} (h0 : j.1 ≠ []) (hx : ∀ x ∈ l, 0 ≤ x ∧ x ≤ 255) (hm : l.length ≤ 9223372036854775807) : m_law31_list j l = some (listL j l) := by
 have l0 := List.length_pos_iff.2 h0
 unfold m_law31_list
 rw [if_pos ⟨by omega, by omega, by omega⟩]
 have e : ((l.take (min (l.length : Int) 8).toNat).drop (0 : Int).toNat) = l.take 8 := by
  simp only [Int.toNat_zero, List.drop_zero]
  by_cases h8 : l.length ≤ 8
  ·rw [List.take_of_length_le (show l.length ≤ 8 from h8), List.take_of_length_le (by omega)]
  congr 1; omega
 simp only [e]
 have hl8 : (l.take 8).length ≤ 8 := by rw [List.length_take]; omega
 refine bindL (loop_is (fun i => ((i : Int), ((l.take 8).take i).map fun x => x % (j.1.length : Int))) (l.take 8).length (listL j l) (fun i hi => ?_) (by simp only; rw [if_neg (not_lt_int _), List.take_length]; rfl) rfl) rfl
 have hxi := hx _ (List.mem_of_mem_take (List.getElem_mem hi))
 simp only
 rw [if_pos (lt_int hi), ix hi]
 simp only [Option.bind_some]
 have hw : IntKind.wrap .i64 (l.take 8)[i] = (l.take 8)[i] := w64 (by omega) (by omega)
 rw [if_pos (by omega), hw, Int.tmod_eq_emod_of_nonneg hxi.1]
 rw [if_pos (fits_le (by simp only [List.length_map, List.length_take, List.length_singleton]; omega) (by simp only [List.length_map, List.length_take, List.length_singleton]; omega)), nx (by omega) hi]
 rw [← List.take_append_getElem hi, List.map_append]
 rfl
def disp (w : List UInt8) : Int := 2 * ((w.count 49 : Nat) : Int) - (w.length : Int)
theorem Disparity_eq {w : List UInt8} (hb : bitW w) (hl : w.length ≤ 65536) : m_runs_Disparity w = some (disp w, 0) := by
 unfold m_runs_Disparity
 obtain ⟨e, he, hz⟩ := wcheck 2 w
 have : e = 0 := hz.2 ⟨by omega, hl, fun c hc => by
  have := hb c hc
  have e2 : letters.take (2 : Int).toNat = [48, 49] := by decide
  rw [e2]
  simpa [bitB] using this⟩
 rw [he, this]
 have hc := List.count_le_length (a := (49 : UInt8)) (l := w)
 simp only [Option.bind_some, m_strings_Count, Lib.countByte]
 rw [if_neg (show ¬ ((0 : Int) ≠ 0) from fun h => h rfl), w64 (n := 2 * ((w.count 49 : Nat) : Int)) (by omega) (by omega), w64 (by omega) (by omega)]
 rfl
theorem weight_eq {w : List UInt8} (hb : bitW w) (hl : w.length ≤ 65536) : m_merging_weight w = some (disp w) := by
 unfold m_merging_weight
 rw [Disparity_eq hb hl]
 rfl
section
variable {g : Gr}
theorem step31_eq (hv : VG g) (h2 : g.1 = 2) {a : List Int} (ha : SetOk g a) {w : List UInt8} (hb : bitW w) (hl : w.length ≤ 65536) : m_merging_step g a w = some (endsL g a w) := by
 unfold m_merging_step
 refine bindL (loop_is (fun i => (endsL g a (w.take i), (i : Int))) w.length (endsL g a w) (fun i hi => ?_) (by simp only; rw [if_neg (not_lt_int _), List.take_length]) rfl) rfl
 simp only
 have hc := bit_lets h2 (hb _ (List.getElem_mem hi))
 obtain ⟨k, hk, hk1, hk2, hk3⟩ := lab_mem hc
 rw [if_pos (lt_int hi), ix hi]
 simp only [Option.bind_some, m_strings_IndexByte]
 have e : Lib.indexByte [48, 49, 50, 51, 52, 53, 54, 55, 56, 57, 97, 98, 99, 100, 101, 102] (w[i].toNat : Int).toNat.toUInt8 = lab w[i] := by
  rw [Int.toNat_natCast]
  simp [lab, letters]
 rw [e, Step_eq hv (endsL_ok ha _) (by omega) (by omega)]
 simp only [Option.bind_some, nx (show w.length ≤ 9223372036854775807 by omega) hi]
 rw [← List.take_append_getElem hi, endsL_app]
 rfl
end
end Go.AW
