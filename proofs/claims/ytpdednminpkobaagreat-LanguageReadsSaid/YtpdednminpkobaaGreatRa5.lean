import Derived.Test.YtpdednminpkobaaGreatRa4
import Derived.Laws.Externs
import Derived.Lib.Builder
import Derived.Lib.UnsafeStr
import Derived.Shelf.RegionOpenPlain
import Derived.Shelf.SlicesE.Clone
import Derived.WalkKit
/- The first missing word. -/
namespace Go.AW
open Go
set_option linter.unusedSimpArgs false
set_option linter.unusedVariables false

theorem enc_letters : ∀ c ∈ letters, (Utf8.encode (c.toNat : Int)).data.toList = [c] := by decide +kernel
theorem enc_letter {c : UInt8} (h : c ∈ letters) : (Utf8.encode (c.toNat : Int)).data.toList = [c] := enc_letters c h

section
variable {β : Type}
theorem mlook_put (k q : List UInt8) (v : β) : ∀ l : List (List UInt8 × β), mlook q (mputN k v l) = if q = k then some v else mlook q l
  | [] => by simp only [mputN, mlook]
  | (p, x) :: l => by
    simp only [mputN]
    by_cases h : k = p
    · rw [if_pos h]
      simp only [mlook]
      by_cases e : q = p
      · rw [if_pos e, if_pos (e.trans h.symm)]
      · rw [if_neg e, if_neg (fun e' => e (e'.trans h)), if_neg e]
    · rw [if_neg h]
      simp only [mlook]
      by_cases e : q = p
      · rw [if_pos e, if_neg (fun e' => h (e'.symm.trans e)), if_pos e]
      · rw [if_neg e, mlook_put k q v l, if_neg e]
end

section
variable {g : Gr}
def missL (g : Gr) (j : Nat) : Option (List UInt8) := (allW (lets g) j).find? fun w => !accB g w
/-- the first missing word behind the words of j letters, of at most n letters more -/
def missR (g : Gr) : Nat → Nat → List UInt8 × Bool × Int
  | _, 0 => ([], false, 0)
  | j, n + 1 => match missL g (j + 1) with
    | some w => (w, true, 0)
    | none => if 4096 < (allW (lets g) (j + 1)).length then ([], false, 4) else missR g (j + 1) n

theorem lengths_zero (hv : VG g) (h16 : g.1 ≤ 16) {n : Nat} (hn : n ≤ 4096) : m_language_lengths g (n : Int) = some 0 := by
  obtain ⟨e, he, hz⟩ := checkNumber_tot g n
  have := hz.2 ⟨hv, h16, by omega, by omega⟩
  subst this
  rw [lengths_ref, he]

/-- the words of the next length, as far as they have been seen -/
def nextW (g : Gr) (i a b : Nat) : List (List UInt8) := (((allW (lets g) i).take a).flatMap fun w => (lets g).map fun c => w ++ [c]) ++ ((lets g).take b).map fun c => ((allW (lets g) i).getD a []) ++ [c]
theorem nextW_pre {i a b : Nat} (ha : a < (allW (lets g) i).length) (hb : b < (lets g).length) : ∃ rest, allW (lets g) (i + 1) = nextW g i a b ++ (((allW (lets g) i).getD a [] ++ [(lets g)[b]]) :: rest) := by
  have e : (allW (lets g) i) = (allW (lets g) i).take a ++ (allW (lets g) i)[a] :: (allW (lets g) i).drop (a + 1) := by rw [← List.drop_eq_getElem_cons ha, List.take_append_drop]
  have e2 : ∀ f : UInt8 → List UInt8, (lets g).map f = ((lets g).take b).map f ++ f (lets g)[b] :: ((lets g).drop (b + 1)).map f := fun f => by
    rw [← List.map_cons, ← List.map_append, ← List.drop_eq_getElem_cons hb, List.take_append_drop]
  have eg : (allW (lets g) i).getD a [] = (allW (lets g) i)[a] := by simp [List.getD, ha]
  refine ⟨(((lets g).drop (b + 1)).map fun c => (allW (lets g) i)[a] ++ [c]) ++ ((allW (lets g) i).drop (a + 1)).flatMap fun w => (lets g).map fun c => w ++ [c], ?_⟩
  have e3 : allW (lets g) (i + 1) = (((allW (lets g) i).take a).flatMap fun w => (lets g).map fun c => w ++ [c]) ++ (((lets g).map fun c => (allW (lets g) i)[a] ++ [c]) ++ ((allW (lets g) i).drop (a + 1)).flatMap fun w => (lets g).map fun c => w ++ [c]) := by
    show (allW (lets g) i).flatMap (fun w => (lets g).map fun c => w ++ [c]) = _
    conv => lhs; rw [e]
    rw [List.flatMap_append, List.flatMap_cons]
  rw [e3, e2 fun c => (allW (lets g) i)[a] ++ [c]]
  simp only [nextW, eg, List.append_assoc, List.cons_append]
theorem nextW_b {i a b : Nat} (hb : b < (lets g).length) : nextW g i a (b + 1) = nextW g i a b ++ [(allW (lets g) i).getD a [] ++ [(lets g)[b]]] := by
  simp only [nextW]
  rw [List.take_add_one, List.getElem?_eq_getElem hb, List.map_append, List.append_assoc]
  rfl
theorem nextW_a {i a : Nat} (ha : a < (allW (lets g) i).length) : nextW g i a (lets g).length = nextW g i (a + 1) 0 := by
  have eg : (allW (lets g) i).getD a [] = (allW (lets g) i)[a] := by simp [List.getD, ha]
  simp only [nextW, eg, List.take_length, List.take_zero, List.map_nil, List.append_nil]
  have e : (allW (lets g) i).take (a + 1) = (allW (lets g) i).take a ++ [(allW (lets g) i)[a]] := by rw [List.take_add_one, List.getElem?_eq_getElem ha]; rfl
  rw [e, List.flatMap_append, List.flatMap_cons, List.flatMap_nil, List.append_nil]
theorem nextW_all {i : Nat} : nextW g i (allW (lets g) i).length 0 = allW (lets g) (i + 1) := by
  simp [nextW, allW]
theorem nextW_zero {i : Nat} : nextW g i 0 0 = [] := by simp [nextW]
theorem nextW_len {i a b : Nat} (hl : (lets g).length ≤ 16) (ha : a ≤ (allW (lets g) i).length) : (nextW g i a b).length ≤ (allW (lets g) i).length * 16 + 16 := by
  have h : ∀ l : List (List UInt8), (l.flatMap fun w => (lets g).map fun c => w ++ [c]).length ≤ l.length * 16 := by
    intro l
    induction l with
    | nil => simp
    | cons x l ih => rw [List.flatMap_cons, List.length_append, List.length_map, List.length_cons, Nat.succ_mul]; omega
  have h1 := h ((allW (lets g) i).take a)
  have h2 : ((allW (lets g) i).take a).length ≤ (allW (lets g) i).length := by rw [List.length_take]; omega
  have h3 : ((lets g).take b).length ≤ 16 := by rw [List.length_take]; omega
  simp only [nextW, List.length_append, List.length_map]
  have := Nat.mul_le_mul_right 16 h2
  omega

def MapOk (g : Gr) (M : List (List UInt8 × List Int)) (l : List (List UInt8)) : Prop := ∀ w ∈ l, mlook w M = some (endsL g (upto g.2.1) w)

/-- one word: its letters -/
theorem miss_inner (hv : VG g) (h16 : g.1 ≤ 16) {i a : Nat} (hi : i ≤ 4096) (ha : a < (allW (lets g) i).length) (hl : (allW (lets g) i).length ≤ 4096) {M0 : List (List UInt8 × List Int)} (hM : MapOk g M0 (allW (lets g) i)) (hM2 : MapOk g M0 (nextW g i a 0)) (hacc : ∀ w ∈ nextW g i a 0, accB g w = true) :
    ∃ x, loopW (S := Int × (List (List UInt8 × (List (Int)))) × (List (List UInt8))) (X := Ou ((List (List UInt8 × (List (Int)))) × (List (List UInt8))) ((List UInt8) × Bool × Int)) (fun a16 =>
                      if a16.1 < g.1 then
                        (idx ([48, 49, 50, 51, 52, 53, 54, 55, 56, 57, 97, 98, 99, 100, 101, 102] : List UInt8) a16.1).bind fun x20 =>
                        (mlook (allW (lets g) i)[a] a16.2.1).bind fun x22 =>
                        (m_language_step g x22 (x20.toNat : Int)).bind fun x24 =>
                        if ((x24).length : Int) = 0 then
                          if (allW (lets g) i)[a].length + ((Utf8.encode (x20.toNat : Int)).data.toList).length ≤ maxLen then
                            some (Stp.exit (Ou.ret ((allW (lets g) i)[a] ++ ((Utf8.encode (x20.toNat : Int)).data.toList), true, 0)))
                          else none
                        else
                          if (allW (lets g) i)[a].length + ((Utf8.encode (x20.toNat : Int)).data.toList).length ≤ maxLen then
                            if fits 16 ((a16.2.2 : List (List UInt8)).length + ([(allW (lets g) i)[a] ++ ((Utf8.encode (x20.toNat : Int)).data.toList)]).length) then
                              some (Stp.next (IntKind.wrap .i64 (a16.1 + 1), mputN ((allW (lets g) i)[a] ++ ((Utf8.encode (x20.toNat : Int)).data.toList)) x24 a16.2.1, a16.2.2 ++ [(allW (lets g) i)[a] ++ ((Utf8.encode (x20.toNat : Int)).data.toList)]))
                            else none
                          else none
                      else
                        some (Stp.exit (Ou.go (a16.2.1, a16.2.2)))) (0, M0, nextW g i a 0) = some x ∧
      ((∃ w, x = .ret (w, true, 0) ∧ missL g (i + 1) = some w) ∨ ∃ M, x = .go (M, nextW g i (a + 1) 0) ∧ MapOk g M (allW (lets g) i) ∧ MapOk g M (nextW g i (a + 1) 0) ∧ ∀ w ∈ nextW g i (a + 1) 0, accB g w = true) := by
  have hl1 := hv.l1
  obtain ⟨L, hL⟩ := Int.eq_ofNat_of_zero_le (show 0 ≤ g.1 by omega)
  have hll : (lets g).length = L := by rw [lets_len hv h16]; omega
  have hL16 : L ≤ letters.length := by rw [letters_len]; omega
  have hwm := mem_allW.1 (List.getElem_mem ha)
  have eg : (allW (lets g) i).getD a [] = (allW (lets g) i)[a] := by simp [List.getD, ha]
  have hwo : WOk g (allW (lets g) i)[a] := ⟨by omega, hwm.2⟩
  refine loopN L (fun b s => ∃ M, s = ((b : Int), M, nextW g i a b) ∧ MapOk g M (allW (lets g) i) ∧ MapOk g M (nextW g i a b) ∧ ∀ w ∈ nextW g i a b, accB g w = true) ?_ ?_ 0 _ (Nat.zero_le _) ⟨M0, rfl, hM, hM2, hacc⟩
  · rintro b s hb ⟨M, rfl, hMa, hMb, hac⟩
    dsimp only
    have hbl : b < letters.length := by omega
    have hbg : b < (lets g).length := by omega
    have hgb : (lets g)[b] = letters[b] := by simp [lets]
    have hmem : letters[b] ∈ lets g := hgb ▸ List.getElem_mem hbg
    rw [if_pos (by omega)]
    have hx : idx ([48, 49, 50, 51, 52, 53, 54, 55, 56, 57, 97, 98, 99, 100, 101, 102] : List UInt8) (b : Int) = some letters[b] := ix (l := letters) hbl
    rw [hx, hMa _ (List.getElem_mem ha)]
    simp only [Option.bind_some]
    rw [step_lab hv (endsL_ok (upto_ok g) _) hmem]
    have henc : (Utf8.encode ((letters[b]).toNat : Int)).data.toList = [letters[b]] := enc_letter (List.getElem_mem hbl)
    simp only [Option.bind_some, henc]
    have hend : stepL g (endsL g (upto g.2.1) (allW (lets g) i)[a]) (lab letters[b]) = endsL g (upto g.2.1) ((allW (lets g) i)[a] ++ [letters[b]]) := by rw [endsL_app]; rfl
    rw [hend]
    have hml : (allW (lets g) i)[a].length + [letters[b]].length ≤ maxLen := by simp only [hwm.1, List.length_cons, List.length_nil, maxLen]; omega
    by_cases h0 : endsL g (upto g.2.1) ((allW (lets g) i)[a] ++ [letters[b]]) = []
    · rw [if_pos (by rw [h0]; rfl), if_pos hml]
      refine .inr ⟨_, rfl, .inl ⟨_, rfl, ?_⟩⟩
      obtain ⟨rest, hr⟩ := nextW_pre (g := g) (i := i) ha hbg
      unfold missL
      rw [hr, List.find?_append, List.find?_eq_none.2 (fun w hw => by simp [hac w hw]), eg, hgb, List.find?_cons_of_pos]
      · rfl
      · simp [accB, h0]
    · have hpos := List.length_pos_iff.2 h0
      rw [if_neg (by omega), if_pos hml]
      have hnl := nextW_len (g := g) (i := i) (a := a) (b := b) (by rw [hll]; exact hL16) (by omega)
      rw [if_pos (fits_le (by simp only [List.length_cons, List.length_nil]; omega) (by simp only [List.length_cons, List.length_nil]; omega))]
      refine .inl ⟨_, rfl, mputN ((allW (lets g) i)[a] ++ [letters[b]]) (endsL g (upto g.2.1) ((allW (lets g) i)[a] ++ [letters[b]])) M, ?_, ?_, ?_, ?_⟩
      · rw [nx (by omega : L ≤ _) hb, nextW_b hbg, eg, hgb]
      · intro w hw
        rw [mlook_put, if_neg (fun e => ?_)]
        · exact hMa w hw
        · have h1 := (mem_allW.1 hw).1
          rw [e, List.length_append, hwm.1] at h1
          simp at h1
      · intro w hw
        rw [mlook_put]
        by_cases e : w = (allW (lets g) i)[a] ++ [letters[b]]
        · rw [if_pos e, e]
        · rw [if_neg e]
          rw [nextW_b hbg, eg, hgb] at hw
          rcases List.mem_append.1 hw with hw | hw
          · exact hMb w hw
          · exact absurd (List.mem_singleton.1 hw) e
      · intro w hw
        rw [nextW_b hbg, eg, hgb] at hw
        rcases List.mem_append.1 hw with hw | hw
        · exact hac w hw
        · rw [List.mem_singleton.1 hw]
          simp [accB, h0]
  · rintro s ⟨M, rfl, hMa, hMb, hac⟩
    dsimp only
    rw [if_neg (by omega)]
    have e : nextW g i a L = nextW g i (a + 1) 0 := by rw [← hll]; exact nextW_a ha
    exact ⟨_, rfl, .inr ⟨M, by rw [e], hMa, by rw [← e]; exact hMb, by rw [← e]; exact hac⟩⟩

/-- one length -/
theorem miss_level (hv : VG g) (h16 : g.1 ≤ 16) {i : Nat} (hi : i ≤ 4096) (hl : (allW (lets g) i).length ≤ 4096) {M0 : List (List UInt8 × List Int)} (hM : MapOk g M0 (allW (lets g) i)) :
    ∃ x, loopW (S := Int × (List (List UInt8 × (List (Int)))) × (List (List UInt8))) (X := Ou ((List (List UInt8 × (List (Int)))) × (List (List UInt8))) ((List UInt8) × Bool × Int)) (fun a10 =>
                if a10.1 < ((allW (lets g) i).length : Int) then
                  (idx (allW (lets g) i) a10.1).bind fun x14 =>
                  lpO (loopW (S := Int × (List (List UInt8 × (List (Int)))) × (List (List UInt8))) (X := Ou ((List (List UInt8 × (List (Int)))) × (List (List UInt8))) ((List UInt8) × Bool × Int)) (fun a16 =>
                      if a16.1 < g.1 then
                        (idx ([48, 49, 50, 51, 52, 53, 54, 55, 56, 57, 97, 98, 99, 100, 101, 102] : List UInt8) a16.1).bind fun x20 =>
                        (mlook x14 a16.2.1).bind fun x22 =>
                        (m_language_step g x22 (x20.toNat : Int)).bind fun x24 =>
                        if ((x24).length : Int) = 0 then
                          if x14.length + ((Utf8.encode (x20.toNat : Int)).data.toList).length ≤ maxLen then
                            some (Stp.exit (Ou.ret (x14 ++ ((Utf8.encode (x20.toNat : Int)).data.toList), true, 0)))
                          else none
                        else
                          if x14.length + ((Utf8.encode (x20.toNat : Int)).data.toList).length ≤ maxLen then
                            if fits 16 ((a16.2.2 : List (List UInt8)).length + ([x14 ++ ((Utf8.encode (x20.toNat : Int)).data.toList)]).length) then
                              some (Stp.next (IntKind.wrap .i64 (a16.1 + 1), mputN (x14 ++ ((Utf8.encode (x20.toNat : Int)).data.toList)) x24 a16.2.1, a16.2.2 ++ [x14 ++ ((Utf8.encode (x20.toNat : Int)).data.toList)]))
                            else none
                          else none
                      else
                        some (Stp.exit (Ou.go (a16.2.1, a16.2.2)))) (0, a10.2.1, a10.2.2)) (fun a30 =>
                      some (Stp.next (IntKind.wrap .i64 (a10.1 + 1), a30.1, a30.2))) (fun r => some (Stp.exit (Ou.ret r)))
                else
                  some (Stp.exit (Ou.go (a10.2.1, a10.2.2)))) (0, M0, ([] : List (List UInt8))) = some x ∧
      ((∃ w, x = .ret (w, true, 0) ∧ missL g (i + 1) = some w) ∨ ∃ M, x = .go (M, allW (lets g) (i + 1)) ∧ MapOk g M (allW (lets g) (i + 1)) ∧ ∀ w ∈ allW (lets g) (i + 1), accB g w = true) := by
  refine loopN (allW (lets g) i).length (fun a s => ∃ M, s = ((a : Int), M, nextW g i a 0) ∧ MapOk g M (allW (lets g) i) ∧ MapOk g M (nextW g i a 0) ∧ ∀ w ∈ nextW g i a 0, accB g w = true) ?_ ?_ 0 _ (Nat.zero_le _) ⟨M0, by rw [nextW_zero]; rfl, hM, (fun w hw => by rw [nextW_zero] at hw; cases hw), (fun w hw => by rw [nextW_zero] at hw; cases hw)⟩
  · rintro a s ha ⟨M, rfl, hMa, hMb, hac⟩
    dsimp only
    rw [if_pos (lt_int ha), ix ha]
    simp only [Option.bind_some]
    obtain ⟨x, hx, ⟨w, rfl, hw⟩ | ⟨M', rfl, h1, h2, h3⟩⟩ := miss_inner hv h16 hi ha hl hMa hMb hac
    · rw [hx]
      exact .inr ⟨_, rfl, .inl ⟨w, rfl, hw⟩⟩
    · rw [hx]
      exact .inl ⟨_, rfl, M', by rw [nx (by omega : (allW (lets g) i).length ≤ _) ha], h1, h2, h3⟩
  · rintro s ⟨M, rfl, hMa, hMb, hac⟩
    dsimp only
    rw [if_neg (not_lt_int _)]
    exact ⟨_, rfl, .inr ⟨M, by rw [nextW_all], by rw [← nextW_all]; exact hMb, by rw [← nextW_all]; exact hac⟩⟩

theorem Missing_eq (hv : VG g) (h16 : g.1 ≤ 16) {n : Nat} (hn : n ≤ 4096) : m_language_Missing g (n : Int) = some (if upto g.2.1 = [] then ([], true, 0) else missR g 0 n) := by
  unfold m_language_Missing
  rw [lengths_zero hv h16 hn, states_eq hv]
  simp only [Option.bind_some, ne_eq, not_true_eq_false, if_false]
  by_cases h0 : upto g.2.1 = []
  · rw [if_pos (by rw [h0]; rfl), if_pos h0]
  have hpos := List.length_pos_iff.2 h0
  rw [if_neg (by omega), if_neg h0]
  refine Eq.trans (congrArg (fun o => lpO o _ _) (loopN_eq (if (missR g 0 n).2.1 = true ∨ (missR g 0 n).2.2 ≠ 0 then .ret (missR g 0 n) else .go ()) n (fun i s => ∃ M, s = (allW (lets g) i, (i : Int), M) ∧ MapOk g M (allW (lets g) i) ∧ (∀ w ∈ allW (lets g) i, accB g w = true) ∧ (allW (lets g) i).length ≤ 4096 ∧ missR g 0 n = missR g i (n - i)) ?_ ?_ ⟨_, rfl, ?_, ?_, by simp [allW], rfl⟩)) ?_
  · rintro i s hi ⟨M, rfl, hMa, hac, hl, hr⟩
    dsimp only
    rw [if_pos (lt_int hi)]
    have hni : n - i = (n - (i + 1)) + 1 := by omega
    rw [hni] at hr
    simp only [missR] at hr
    obtain ⟨x, hx, ⟨w, rfl, hw⟩ | ⟨M', rfl, h1, h2⟩⟩ := miss_level hv h16 (by omega) hl hMa
    · rw [hx]
      rw [hw] at hr
      refine .inr ⟨_, rfl, ?_⟩
      rw [hr]
      simp
    · rw [hx]
      have hnone : missL g (i + 1) = none := List.find?_eq_none.2 fun w hw => by simp [h2 w hw]
      rw [hnone] at hr
      dsimp only at hr
      by_cases h4 : 4096 < (allW (lets g) (i + 1)).length
      · rw [if_pos h4] at hr
        refine .inr ⟨.ret ([], false, 4), ?_, ?_⟩
        · show (if (4096 : Int) < ((allW (lets g) (i + 1)).length : Int) then _ else _) = _
          rw [if_pos (by omega)]
        · rw [hr]; simp
      · rw [if_neg h4] at hr
        refine .inl ⟨(allW (lets g) (i + 1), ((i + 1 : Nat) : Int), M'), ?_, M', rfl, h1, h2, by omega, hr⟩
        show (if (4096 : Int) < ((allW (lets g) (i + 1)).length : Int) then _ else _) = _
        rw [if_neg (by omega), nx (by omega : n ≤ _) hi]
  · rintro s ⟨M, rfl, hMa, hac, hl, hr⟩
    dsimp only
    rw [if_neg (not_lt_int _)]
    refine ⟨_, rfl, ?_⟩
    rw [Nat.sub_self] at hr
    simp only [missR] at hr
    rw [hr]
    simp
  · intro w hw
    simp only [allW, List.mem_singleton] at hw
    subst hw
    rfl
  · intro w hw
    simp only [allW, List.mem_singleton] at hw
    subst hw
    simp only [accB, decide_eq_true_eq]
    exact h0
  · by_cases hc : (missR g 0 n).2.1 = true ∨ (missR g 0 n).2.2 ≠ 0
    · rw [if_pos hc]; rfl
    · rw [if_neg hc]
      have : ∀ (m j : Nat), ¬ ((missR g j m).2.1 = true ∨ (missR g j m).2.2 ≠ 0) → missR g j m = ([], false, 0) := by
        intro m
        induction m with
        | zero => intro j _; rfl
        | succ m ih =>
          intro j hj
          simp only [missR] at hj ⊢
          cases hm : missL g (j + 1) with
          | some w => rw [hm] at hj; simp at hj
          | none =>
            rw [hm] at hj
            dsimp only at hj ⊢
            by_cases h4 : 4096 < (allW (lets g) (j + 1)).length
            · rw [if_pos h4] at hj; simp at hj
            · rw [if_neg h4] at hj ⊢; exact ih _ hj
      rw [this n 0 hc]
      rfl
end
end Go.AW

/- The words of a length, by reading; the anchor of chapter 11. -/
namespace Go.AW
open Go
set_option linter.unusedSimpArgs false
set_option linter.unusedVariables false

theorem lvl_congr {f h : List Int → UInt8 → List Int} {cs : List UInt8} {A : List Int → Prop} {set : List Int} (hs : A set) (hA : ∀ a c, A a → c ∈ cs → A (f a c)) (he : ∀ a c, A a → c ∈ cs → f a c = h a c) : ∀ n, lvl f cs set n = lvl h cs set n
  | 0 => rfl
  | n + 1 => by
    simp only [lvl]
    rw [← lvl_congr hs hA he n]
    have hall : ∀ x ∈ lvl f cs set n, A x.2 := lvl_all hs hA n
    have hcs : ∀ (cs' : List UInt8), (∀ c ∈ cs', c ∈ cs) → ∀ x ∈ lvl f cs set n, ext1 f cs' x = ext1 h cs' x := by
      intro cs' hsub x hx
      unfold ext1
      induction cs' with
      | nil => rfl
      | cons c cs' ih =>
        rw [List.filterMap_cons, List.filterMap_cons, he x.2 c (hall x hx) (hsub c (List.mem_cons_self ..)), ih fun d hd => hsub d (List.mem_cons_of_mem _ hd)]
    have : ∀ l : List WS, (∀ x ∈ l, ext1 f cs x = ext1 h cs x) → l.flatMap (ext1 f cs) = l.flatMap (ext1 h cs) := by
      intro l hl
      induction l with
      | nil => rfl
      | cons x l ih => rw [List.flatMap_cons, List.flatMap_cons, hl x (List.mem_cons_self ..), ih fun y hy => hl y (List.mem_cons_of_mem _ hy)]
    exact this _ (hcs cs fun _ h => h)

section
variable {g : Gr}
def stpL (g : Gr) (a : List Int) (c : UInt8) : List Int := stepL g a (lab c)
theorem LV_lab (hv : VG g) {set : List Int} (hs : SetOk g set) (n : Nat) : LV g set n = lvl (stpL g) (lets g) set n := by
  refine lvl_congr (A := SetOk g) hs (fun a c ha hc => stpM_ok hv ha hc) (fun a c ha hc => ?_) n
  unfold stpM
  rw [step_lab hv ha hc]
  rfl

end

theorem EqS_eq {a b : List (List UInt8)} (hm : a.length ≤ 9223372036854775807) : m_slices_Equal_Lstring_string a b = some (decide (a = b)) := by
  unfold m_slices_Equal_Lstring_string
  by_cases hl : a.length = b.length
  · rw [if_neg (by omega)]
    refine lpL (loop_any (fun i => (i : Int)) a.length (fun i => decide (a.getD i [] ≠ b.getD i [])) (Ou.ret false) (Ou.go ()) (fun i hi => ?_) (by rw [if_neg (not_lt_int _)]) rfl) ?_
    · have hi' : i < b.length := by omega
      have e1 : a.getD i [] = a[i] := by simp [List.getD, hi]
      have e2 : b.getD i [] = b[i] := by simp [List.getD, hi']
      rw [if_pos (lt_int hi), ix hi, ix hi']
      simp only [Option.bind_some, nx hm hi, e1, e2, decide_eq_true_eq]
    · by_cases he : a = b
      · subst he
        rw [if_neg]
        · simp [lpO]
        · simp
      · rw [if_pos]
        · simp [lpO, he]
        · refine List.any_eq_true.2 ?_
          apply Classical.byContradiction
          intro hno
          refine he (List.ext_getElem hl fun i h1 h2 => ?_)
          apply Classical.byContradiction
          intro hne
          refine hno ⟨i, List.mem_range.2 h1, decide_eq_true ?_⟩
          rwa [show a.getD i [] = a[i] by simp [List.getD, h1], show b.getD i [] = b[i] by simp [List.getD, h2]]
  · rw [if_pos (by omega)]
    have : ¬ a = b := fun e => hl (by rw [e])
    simp [this]

theorem gT_ok : VG gT where
  l1 := by decide
  l2 := by decide
  s0 := by decide
  s1 := by decide
  el := by decide
  ed := by decide
  ord := fun i h => match i, h with
    | 0, _ => show cmp3 (0, 0, 0) (0, 1, 1) < 0 by decide
    | 1, _ => show cmp3 (0, 1, 1) (1, 0, 0) < 0 by decide
    | _ + 2, h => absurd h (by simp [gT])

theorem awake11_eq : m_law11_awakeG = some true := by
  have h1 : m_language_Words gT 2 = some ([[48, 48], [48, 49], [49, 48]], 0) := by
    obtain ⟨r, hr, _, h2, h3⟩ := Words_both gT 2
    have hs := upto_ok gT
    have e0 : ∀ n, LV gT (upto gT.2.1) n = lvl (stpL gT) (lets gT) (upto gT.2.1) n := LV_lab gT_ok hs
    have h0 := h3 gT_ok (by decide) (by decide) (by decide) (OKL_iff.2 fun j j1 j2 => by
      rw [e0]
      have : j = 1 ∨ j = 2 := by have : (2 : Int).toNat = 2 := rfl; omega
      rcases this with rfl | rfl <;> decide)
    obtain ⟨_, hw⟩ := h2 h0
    have e1 : wordsE gT 2 = [[48, 48], [48, 49], [49, 48]] := by
      unfold wordsE
      rw [e0]
      decide
    rw [hr]
    obtain ⟨r1, r2⟩ := r
    dsimp only at h0 hw
    rw [h0, hw, e1]
  have h2 : m_language_Path gT [48, 49, 48] = some ([0, 1, 2], 0) := by
    have h := (Path_eq gT_ok (by decide) (w := [48, 49, 48]) ⟨by decide, by decide⟩).1 (can_mem.1 (by decide))
    have e : pathR gT none [48, 49, 48] = [0, 1, 2] := by decide
    rw [e] at h
    exact h
  have h3 : m_language_Missing gT 3 = some ([49, 49], true, 0) := by
    have h := Missing_eq gT_ok (by decide) (n := 3) (by decide)
    rw [if_neg (by decide)] at h
    have e : missR gT 0 3 = ([49, 49], true, 0) := by decide
    rw [e] at h
    exact h
  have h4 : m_law11_golden = some gT := rfl
  unfold m_law11_awakeG
  simp only [h4, Option.bind_some, h1, h2, h3, jp]
  rw [EqS_eq (by decide), EqI_eq (by decide)]
  decide
end Go.AW

namespace Go.AW
open Go Go.Proofs
set_option linter.unusedVariables false
set_option maxHeartbeats 1600000 in
set_option maxRecDepth 100000 in
theorem w_slices_Index_Lbool_bool {p0 : List (Bool)} {p1 : Bool} {r : Int} (h : m_slices_Index_Lbool_bool p0 p1 = some r) : Pure Tryz.prog 51 [slE eBool p0, HV.bool p1] (· = HV.int .i64 r) := by
  unfold m_slices_Index_Lbool_bool at h
  refine Pure.of_body Tryz.func51 rfl rfl (Nat.le_of_ble_eq_true rfl) fun hf => ?_
  unfold Tryz.f51
  dsimp only [enumS, Nat.reduceAdd]
  refine AW.rgs rfl fun K hK => ?_
  refine mv rfl rfl ?_
  refine b_nil (hK _ (AW.to (to_le (s' := ⟨[(0, slE eBool p0), (1, HV.bool p1)], []⟩) (AS.le_of ⟨rfl, rfl, trivial⟩ trivial) ?_)))
  clear hK K
  refine AW.seq ?_
  refine AW.rgs rfl fun K hK => ?_
  refine mv rfl rfl ?_
  refine bv rfl (v_lenF rfl rfl ty65 rfl) ?_
  refine mv rfl rfl ?_
  refine b_nil (hK _ (AW.to (to_le (s' := ⟨[(0, slE eBool p0), (1, HV.bool p1), (7, HV.int .i64 ((p0).length : Int)), (8, HV.int .i64 0)], []⟩) (AS.le_of ⟨rfl, rfl, rfl, rfl, trivial⟩ trivial) ?_)))
  clear hK K
  refine AW.lpR h (by first | exact up_then | exact up_to) (S := Int) (V := Unit) (fun a v => ⟨[(0, slE eBool p0), (1, HV.bool p1), (7, HV.int .i64 ((p0).length : Int)), (8, HV.int .i64 a)], []⟩) ?_ (X := Unit) (W := Unit) (fun a v => ⟨[], []⟩) (fun a7 w8 h => ?_) (fun a1 w2 st3 h hr4=> ?_)
  · exact to_le (s' := ⟨[(0, slE eBool p0), (1, HV.bool p1), (7, HV.int .i64 ((p0).length : Int)), (8, HV.int .i64 0)], []⟩) (AS.le_of ⟨rfl, rfl, rfl, rfl, trivial⟩ trivial) ⟨(), rfl⟩
  · refine AW.rgs rfl fun K hK => ?_
    refine mv rfl rfl ?_
    refine b_nil (hK _ (AW.to (to_le (s' := ⟨[(4, HV.int .i64 (-1))], []⟩) (AS.le_of ⟨rfl, trivial⟩ trivial) ?_)))
    clear hK K
    refine AW.ret ?_
    have h := Option.some.inj h
    subst h
    exact ret_pure (hs := [HV.int .i64 (-1)]) (q := HV.int .i64 (-1)) (.inr rfl) (resT rfl rfl) rfl trivial
  · refine AW.rgs rfl fun K hK => ?_
    refine bv rfl (v_bin rfl rfl b_lss) ?_
    refine b_nil (hK _ (AW.to (to_le (s' := ⟨[(0, slE eBool p0), (1, HV.bool p1), (7, HV.int .i64 ((p0).length : Int)), (8, HV.int .i64 a1), (9, HV.bool (decide (a1 < ((p0).length : Int))))], []⟩) (AS.le_of ⟨rfl, rfl, rfl, rfl, rfl, trivial⟩ trivial) ?_)))
    clear hK K
    refine AW.cseq rfl (fun hc => ?_) (fun hc => ?_)
    · have hc := of_decide_eq_true hc
      have h := ifT hc h
      refine AW.skip ?_
      refine AW.seq (AW.block ?_)
      refine AW.rgs rfl fun K hK => ?_
      refine mv rfl rfl ?_
      refine mv rfl rfl ?_
      refine b_nil (hK _ (AW.to (to_le (s' := ⟨[(0, slE eBool p0), (1, HV.bool p1), (5, HV.int .i64 a1), (7, HV.int .i64 ((p0).length : Int)), (8, HV.int .i64 a1)], []⟩) (AS.le_of ⟨rfl, rfl, rfl, rfl, rfl, trivial⟩ trivial) ?_)))
      clear hK K
      refine AW.rgs rfl fun K hK => ?_
      refine mv rfl rfl ?_
      refine mv rfl rfl ?_
      refine mv rfl rfl ?_
      obtain ⟨x5, h6, h⟩ := bS h
      refine bv rfl (v_idxF ty65 es65 rfl rfl (idx_lt h6)) ?_
      refine bv rfl (v_loadF ty4 rfl (l_cell eBool h6 (o := 0) rfl rfl)) ?_
      refine bv rfl (v_bin rfl rfl (b_eqB ty4)) ?_
      refine b_nil (hK _ (AW.to (to_le (s' := ⟨[(0, slE eBool p0), (1, HV.bool p1), (5, HV.int .i64 a1), (7, HV.int .i64 ((p0).length : Int)), (8, HV.int .i64 a1), (16, HV.bool (p1 == x5))], []⟩) (AS.le_of ⟨rfl, rfl, rfl, rfl, rfl, rfl, trivial⟩ trivial) ?_)))
      clear hK K
      refine AW.cond rfl (fun hc => ?_) (fun hc => ?_)
      · have h := ifT hc h
        refine AW.rgs rfl fun K hK => ?_
        refine mv rfl rfl ?_
        refine mv rfl rfl ?_
        refine b_nil (hK _ (AW.to (to_le (s' := ⟨[(4, HV.int .i64 a1)], []⟩) (AS.le_of ⟨rfl, trivial⟩ trivial) ?_)))
        clear hK K
        have h := hr4 _ h
        refine AW.ret ?_
        have h := Option.some.inj h
        subst h
        exact ret_pure (hs := [HV.int .i64 a1]) (q := HV.int .i64 a1) (.inr rfl) (resT rfl rfl) rfl trivial
      · have h := ifF (bF' hc) h
        refine AW.skip ?_
        refine AW.rg rfl fun K hK => ?_
        refine bv rfl (v_bin rfl rfl b_add) ?_
        refine mv rfl rfl ?_
        refine b_nil (hK _ ?_)
        clear hK K
        exact to_le (s' := ⟨[(0, slE eBool p0), (1, HV.bool p1), (7, HV.int .i64 ((p0).length : Int)), (8, HV.int .i64 (IntKind.wrap .i64 (a1 + 1)))], []⟩) (AS.le_of ⟨rfl, rfl, rfl, rfl, trivial⟩ trivial) ⟨IntKind.wrap .i64 (a1 + 1), (), h, rfl⟩
    · have hc := of_decide_eq_false hc
      have h := ifF hc h
      refine AW.exit ?_
      exact to_le (s' := ⟨[], []⟩) (AS.le_of trivial trivial) ⟨(), (), h, rfl⟩

set_option maxHeartbeats 1600000 in
set_option maxRecDepth 100000 in
theorem w_slices_Contains_Lbool_bool {p0 : List (Bool)} {p1 : Bool} {r : Bool} (h : m_slices_Contains_Lbool_bool p0 p1 = some r) : Pure Tryz.prog 36 [slE eBool p0, HV.bool p1] (· = HV.bool r) := by
  unfold m_slices_Contains_Lbool_bool at h
  refine Pure.of_body Tryz.func36 rfl rfl (Nat.le_of_ble_eq_true rfl) fun hf => ?_
  unfold Tryz.f36
  dsimp only [enumS, Nat.reduceAdd]
  refine AW.rgs rfl fun K hK => ?_
  refine mv rfl rfl ?_
  refine b_nil (hK _ (AW.to (to_le (s' := ⟨[(0, slE eBool p0), (1, HV.bool p1)], []⟩) (AS.le_of ⟨rfl, rfl, trivial⟩ trivial) ?_)))
  clear hK K
  refine AW.rgs rfl fun K hK => ?_
  refine mv rfl rfl ?_
  refine mv rfl rfl ?_
  obtain ⟨x1, h2, h⟩ := bS h
  refine b_op rfl (o_call rfl rfl rfl rfl (ACallD.pure0 (w_slices_Index_Lbool_bool h2)) ?_)
  refine bv rfl (v_bin rfl rfl b_geq) ?_
  refine mv rfl rfl ?_
  refine b_nil (hK _ (AW.to (to_le (s' := ⟨[(4, HV.bool (decide (0 ≤ x1)))], []⟩) (AS.le_of ⟨rfl, trivial⟩ trivial) ?_)))
  clear hK K
  refine AW.ret ?_
  have h := Option.some.inj h
  subst h
  exact ret_pure (hs := [HV.bool (decide (0 ≤ x1))]) (q := HV.bool (decide (0 ≤ x1))) (.inr rfl) (resT rfl rfl) rfl trivial

set_option maxHeartbeats 1600000 in
set_option maxRecDepth 100000 in
theorem w_language_Path {p0 : TLabelsStatesEdges} {p1 : List UInt8} {r : (List (Int)) × Int} (h : m_language_Path p0 p1 = some r) : Pure Tryz.prog 12 [HV.agg [HV.int .i64 p0.1, HV.int .i64 p0.2.1, slE eFromLabelTo p0.2.2], HV.str p1] (· = HV.tup [slE eInt r.1, HV.int .i64 r.2]) := by
  unfold m_language_Path at h
  refine Pure.of_body Tryz.func12 rfl rfl (Nat.le_of_ble_eq_true rfl) fun hf => ?_
  unfold Tryz.f12
  dsimp only [enumS, Nat.reduceAdd]
  refine AW.rgs rfl fun K hK => ?_
  refine b_op rfl (o_box rfl rfl rfl ?_)
  refine mv rfl rfl ?_
  refine mv rfl rfl ?_
  refine b_nil (hK _ (AW.to (to_le (s' := ⟨[(1, HV.str p1), (2, HV.fptr [HV.int .i64 p0.1, HV.int .i64 p0.2.1, slE eFromLabelTo p0.2.2] 0)], []⟩) (AS.le_of ⟨rfl, rfl, trivial⟩ trivial) ?_)))
  clear hK K
  refine AW.seq ?_
  refine AW.rgs rfl fun K hK => ?_
  refine bv rfl (v_loadF ty24 rfl (l_litA rfl (Nat.le_of_ble_eq_true rfl) rfl)) ?_
  refine mv rfl rfl ?_
  obtain ⟨x1, h2, h⟩ := bS h
  refine b_op rfl (o_call rfl rfl rfl rfl (ACallD.pure0 (w_language_spells h2)) ?_)
  refine mv rfl rfl ?_
  refine b_nil (hK _ (AW.to (to_le (s' := ⟨[(1, HV.str p1), (2, HV.fptr [HV.int .i64 p0.1, HV.int .i64 p0.2.1, slE eFromLabelTo p0.2.2] 0), (6, HV.int .i64 x1)], []⟩) (AS.le_of ⟨rfl, rfl, rfl, trivial⟩ trivial) ?_)))
  clear hK K
  refine AW.rgs rfl fun K hK => ?_
  refine mv rfl rfl ?_
  refine bv rfl (v_bin rfl rfl b_neq) ?_
  refine b_nil (hK _ (AW.to (to_le (s' := ⟨[(1, HV.str p1), (2, HV.fptr [HV.int .i64 p0.1, HV.int .i64 p0.2.1, slE eFromLabelTo p0.2.2] 0), (6, HV.int .i64 x1), (19, HV.bool (decide (x1 ≠ 0)))], []⟩) (AS.le_of ⟨rfl, rfl, rfl, rfl, trivial⟩ trivial) ?_)))
  clear hK K
  refine AW.cond rfl (fun hc => ?_) (fun hc => ?_)
  · have hc := of_decide_eq_true hc
    have h := ifT hc h
    refine AW.rgs rfl fun K hK => ?_
    refine mv rfl rfl ?_
    refine mv rfl rfl ?_
    refine mv rfl rfl ?_
    refine b_nil (hK _ (AW.to (to_le (s' := ⟨[(4, HV.v (.slice none 0 0)), (5, HV.int .i64 x1)], []⟩) (AS.le_of ⟨rfl, rfl, trivial⟩ trivial) ?_)))
    clear hK K
    refine AW.to (to_weak ⟨[(4, slE eInt ([] : List Int)), (5, HV.int .i64 x1)], []⟩ ⟨⟨_, rfl, .nil _⟩, ⟨_, rfl, .refl _⟩, trivial⟩ trivial ?_)
    refine AW.ret ?_
    have h := Option.some.inj h
    subst h
    exact ret_pure (hs := [slE eInt ([] : List Int), HV.int .i64 x1]) (q := HV.tup [slE eInt ([] : List Int), HV.int .i64 x1]) (.inr rfl) (resT rfl (resT rfl rfl)) rfl ⟨(clean_slE fun _ _ => ⟨trivial, trivial⟩), trivial, trivial⟩
  · have hc := of_decide_eq_false hc
    have h := ifF hc h
    refine AW.skip ?_
    refine AW.rgs rfl fun K hK => ?_
    refine mv rfl rfl ?_
    refine bv rfl (v_lenS rfl rfl ty9 rfl) ?_
    refine bv rfl (v_bin rfl rfl b_add) ?_
    obtain ⟨h4, h⟩ := ifN h
    refine b_op rfl (o_makeN (fid := 12) eBool 12024 rfl rfl ty64 rfl rfl ty65 rfl rfl h4 (fun v3 => ?_))
    refine mv rfl rfl ?_
    refine b_nil (hK _ (AW.to (to_le (s' := ⟨[(1, HV.str p1), (2, HV.fptr [HV.int .i64 p0.1, HV.int .i64 p0.2.1, slE eFromLabelTo p0.2.2] 0), (7, HV.ar 12024 v3 (eSl eBool).k 0 ((List.replicate (IntKind.wrap .i64 (((p1).length : Int) + 1)).toNat ([] : List (Bool))).length))], [(12024, v3, .arr (eSl eBool).k 65 ((eSl eBool).E (List.replicate (IntKind.wrap .i64 (((p1).length : Int) + 1)).toNat ([] : List (Bool)))))]⟩) (AS.le_of ⟨rfl, rfl, rfl, trivial⟩ ⟨rfl, trivial⟩) ?_)))
    clear hK K
    refine AW.rgs rfl fun K hK => ?_
    refine mv rfl rfl ?_
    refine mv rfl rfl ?_
    refine bv rfl (v_lenS rfl rfl ty9 rfl) ?_
    refine b_op rfl (o_bsl rfl rfl (as_of (cs := [HV.bool true]) ty65 ty4 rfl rfl rfl rfl rfl) ?_)
    refine bv rfl (v_fieldAddrF fo24_1 rfl) ?_
    refine bv rfl (v_loadF ty3 rfl (l_lit rfl rfl)) ?_
    obtain ⟨x5, h6, h⟩ := bS h
    refine b_op rfl (o_call rfl rfl rfl rfl (ACallD.pure0 (w_slices_Repeat_Lbool_bool h6)) ?_)
    obtain ⟨x7, h8, h⟩ := bS h
    refine bv rfl (v_idxA ty64 es64 rfl rfl (idx_lt h8) rfl) ?_
    refine b_op rfl (o_storeE (eSl eBool) (l := (List.replicate (IntKind.wrap .i64 (((p1).length : Int) + 1)).toNat ([] : List (Bool)))) (j := ((p1).length : Int)) (v := x5) rfl rfl rfl ty65 rfl rfl rfl (idx_lt h8) ?_)
    refine b_nil (hK _ (AW.to (to_le (s' := ⟨[(1, HV.str p1), (2, HV.fptr [HV.int .i64 p0.1, HV.int .i64 p0.2.1, slE eFromLabelTo p0.2.2] 0), (7, HV.ar 12024 v3 (eSl eBool).k 0 (((List.replicate (IntKind.wrap .i64 (((p1).length : Int) + 1)).toNat ([] : List (Bool))).set (((p1).length : Int)).toNat x5).length))], [(12024, v3, .arr (eSl eBool).k 65 ((eSl eBool).E ((List.replicate (IntKind.wrap .i64 (((p1).length : Int) + 1)).toNat ([] : List (Bool))).set (((p1).length : Int)).toNat x5)))]⟩) (AS.le_of ⟨rfl, rfl, arl (by first | rfl | simp only [List.length_set, sortI_len, sortS_len]), trivial⟩ ⟨rfl, trivial⟩) ?_)))
    clear hK K
    refine AW.seq ?_
    refine AW.rgs rfl fun K hK => ?_
    refine mv rfl rfl ?_
    refine bv rfl (v_lenS rfl rfl ty9 rfl) ?_
    refine bv rfl (v_bin rfl rfl b_sub) ?_
    refine mv rfl rfl ?_
    refine b_nil (hK _ (AW.to (to_le (s' := ⟨[(1, HV.str p1), (2, HV.fptr [HV.int .i64 p0.1, HV.int .i64 p0.2.1, slE eFromLabelTo p0.2.2] 0), (7, HV.ar 12024 v3 (eSl eBool).k 0 (((List.replicate (IntKind.wrap .i64 (((p1).length : Int) + 1)).toNat ([] : List (Bool))).set (((p1).length : Int)).toNat x5).length)), (8, HV.int .i64 (IntKind.wrap .i64 (((p1).length : Int) - 1)))], [(12024, v3, .arr (eSl eBool).k 65 ((eSl eBool).E ((List.replicate (IntKind.wrap .i64 (((p1).length : Int) + 1)).toNat ([] : List (Bool))).set (((p1).length : Int)).toNat x5)))]⟩) (AS.le_of ⟨rfl, rfl, rfl, rfl, trivial⟩ ⟨rfl, trivial⟩) ?_)))
    clear hK K
    refine AW.lpX h (by first | exact up_then | exact up_to) (S := Int × (List (List (Bool)))) (V := Unit) (fun a v => ⟨[(1, HV.str p1), (2, HV.fptr [HV.int .i64 p0.1, HV.int .i64 p0.2.1, slE eFromLabelTo p0.2.2] 0), (7, HV.ar 12024 v3 (eSl eBool).k 0 ((a.2).length)), (8, HV.int .i64 a.1)], [(12024, v3, .arr (eSl eBool).k 65 ((eSl eBool).E a.2))]⟩) ?_ (X := (List (List (Bool)))) (W := Unit) (fun a v => ⟨[(1, HV.str p1), (2, HV.fptr [HV.int .i64 p0.1, HV.int .i64 p0.2.1, slE eFromLabelTo p0.2.2] 0), (7, HV.ar 12024 v3 (eSl eBool).k 0 ((a).length))], [(12024, v3, .arr (eSl eBool).k 65 ((eSl eBool).E a))]⟩) (fun a48 w49 h => ?_) (fun a9 w10 st11 h => ?_)
    · exact to_le (s' := ⟨[(1, HV.str p1), (2, HV.fptr [HV.int .i64 p0.1, HV.int .i64 p0.2.1, slE eFromLabelTo p0.2.2] 0), (7, HV.ar 12024 v3 (eSl eBool).k 0 (((List.replicate (IntKind.wrap .i64 (((p1).length : Int) + 1)).toNat ([] : List (Bool))).set (((p1).length : Int)).toNat x5).length)), (8, HV.int .i64 (IntKind.wrap .i64 (((p1).length : Int) - 1)))], [(12024, v3, .arr (eSl eBool).k 65 ((eSl eBool).E ((List.replicate (IntKind.wrap .i64 (((p1).length : Int) + 1)).toNat ([] : List (Bool))).set (((p1).length : Int)).toNat x5)))]⟩) (AS.le_of ⟨rfl, rfl, rfl, rfl, trivial⟩ ⟨rfl, trivial⟩) ⟨(), rfl⟩
    · refine AW.seq ?_
      refine AW.rgs rfl fun K hK => ?_
      refine mv rfl rfl ?_
      obtain ⟨x50, h51, h⟩ := bS h
      refine bv rfl (v_idxA ty64 es64 rfl rfl (idx_lt h51) rfl) ?_
      obtain ⟨x52, h53, h⟩ := bS h
      refine bv rfl (v_loadP ty65 rfl rfl (l_cell (eSl eBool) h53 (o := 0) rfl rfl)) ?_
      obtain ⟨x54, h55, h⟩ := bS h
      refine b_op rfl (o_call rfl rfl rfl rfl (ACallD.pure0 (w_slices_Contains_Lbool_bool h55)) ?_)
      refine bv rfl (v_not rfl) ?_
      refine b_nil (hK _ (AW.to (to_le (s' := ⟨[(1, HV.str p1), (2, HV.fptr [HV.int .i64 p0.1, HV.int .i64 p0.2.1, slE eFromLabelTo p0.2.2] 0), (7, HV.ar 12024 v3 (eSl eBool).k 0 ((a48).length)), (83, HV.bool (!x54))], [(12024, v3, .arr (eSl eBool).k 65 ((eSl eBool).E a48))]⟩) (AS.le_of ⟨rfl, rfl, rfl, rfl, trivial⟩ ⟨rfl, trivial⟩) ?_)))
      clear hK K
      refine AW.cond rfl (fun hc => ?_) (fun hc => ?_)
      · have h := ifT hc h
        refine AW.rgs rfl fun K hK => ?_
        refine mv rfl rfl ?_
        refine mv rfl rfl ?_
        refine b_nil (hK _ (AW.to (to_le (s' := ⟨[(4, HV.v (.slice none 0 0)), (5, HV.int .i64 13)], []⟩) (AS.le_of ⟨rfl, rfl, trivial⟩ trivial) ?_)))
        clear hK K
        refine AW.to (to_weak ⟨[(4, slE eInt ([] : List Int)), (5, HV.int .i64 13)], []⟩ ⟨⟨_, rfl, .nil _⟩, ⟨_, rfl, .refl _⟩, trivial⟩ trivial ?_)
        refine AW.ret ?_
        have h := Option.some.inj h
        subst h
        exact ret_pure (hs := [slE eInt ([] : List Int), HV.int .i64 13]) (q := HV.tup [slE eInt ([] : List Int), HV.int .i64 13]) (.inr rfl) (resT rfl (resT rfl rfl)) rfl ⟨(clean_slE fun _ _ => ⟨trivial, trivial⟩), trivial, trivial⟩
      · have h := ifF (bF' hc) h
        refine AW.skip ?_
        refine AW.rgs rfl fun K hK => ?_
        refine mv rfl rfl ?_
        refine b_nil (hK _ (AW.to (to_le (s' := ⟨[(1, HV.str p1), (2, HV.fptr [HV.int .i64 p0.1, HV.int .i64 p0.2.1, slE eFromLabelTo p0.2.2] 0), (7, HV.ar 12024 v3 (eSl eBool).k 0 ((a48).length)), (11, HV.v (.slice none 0 0))], [(12024, v3, .arr (eSl eBool).k 65 ((eSl eBool).E a48))]⟩) (AS.le_of ⟨rfl, rfl, rfl, rfl, trivial⟩ ⟨rfl, trivial⟩) ?_)))
        clear hK K
        refine AW.seq ?_
        refine AW.rgs rfl fun K hK => ?_
        refine mv rfl rfl ?_
        refine bv rfl (v_lenS rfl rfl ty9 rfl) ?_
        refine mv rfl rfl ?_
        refine b_nil (hK _ (AW.to (to_le (s' := ⟨[(1, HV.str p1), (2, HV.fptr [HV.int .i64 p0.1, HV.int .i64 p0.2.1, slE eFromLabelTo p0.2.2] 0), (7, HV.ar 12024 v3 (eSl eBool).k 0 ((a48).length)), (11, HV.v (.slice none 0 0)), (85, HV.int .i64 ((p1).length : Int)), (86, HV.int .i64 0)], [(12024, v3, .arr (eSl eBool).k 65 ((eSl eBool).E a48))]⟩) (AS.le_of ⟨rfl, rfl, rfl, rfl, rfl, rfl, trivial⟩ ⟨rfl, trivial⟩) ?_)))
        clear hK K
        refine AW.lpX h (by first | exact up_then | exact up_to) (S := Int × (List Int)) (V := Nat) (fun a v => ⟨[(1, HV.str p1), (2, HV.fptr [HV.int .i64 p0.1, HV.int .i64 p0.2.1, slE eFromLabelTo p0.2.2] 0), (7, HV.ar 12024 v3 (eSl eBool).k 0 ((a48).length)), (11, HV.ar 12137 v eInt.k 0 ((a.2).length)), (85, HV.int .i64 ((p1).length : Int)), (86, HV.int .i64 a.1)], [(12024, v3, .arr (eSl eBool).k 65 ((eSl eBool).E a48)), (12137, v, .arr eInt.k 3 (eInt.E a.2))]⟩) ?_ (X := (List Int)) (W := Nat) (fun a v => ⟨[(11, HV.ar 12137 v eInt.k 0 ((a).length))], [(12137, v, .arr eInt.k 3 (eInt.E a))]⟩) (fun a94 w95 h => ?_) (fun a56 w57 st58 h => ?_)
        · refine to_bind (to_own 12137 11 eInt.k 3 rfl fun v93 => ?_)
          exact to_le (s' := ⟨[(1, HV.str p1), (2, HV.fptr [HV.int .i64 p0.1, HV.int .i64 p0.2.1, slE eFromLabelTo p0.2.2] 0), (7, HV.ar 12024 v3 (eSl eBool).k 0 ((a48).length)), (11, HV.ar 12137 v93 eInt.k 0 ((([] : List Int)).length)), (85, HV.int .i64 ((p1).length : Int)), (86, HV.int .i64 0)], [(12024, v3, .arr (eSl eBool).k 65 ((eSl eBool).E a48)), (12137, v93, .arr eInt.k 3 (eInt.E ([] : List Int)))]⟩) (AS.le_of ⟨rfl, rfl, rfl, arl (by first | rfl | simp only [List.length_set, sortI_len, sortS_len]), rfl, rfl, trivial⟩ ⟨rfl, rfl, trivial⟩) ⟨v93, rfl⟩
        · refine AW.rgs rfl fun K hK => ?_
          refine mv rfl rfl ?_
          refine mv rfl rfl ?_
          refine mv rfl rfl ?_
          refine b_nil (hK _ (AW.to (to_le (s' := ⟨[(4, HV.ar 12137 w95 eInt.k 0 ((a94).length)), (5, HV.int .i64 0)], [(12137, w95, .arr eInt.k 3 (eInt.E a94))]⟩) (AS.le_of ⟨rfl, rfl, trivial⟩ ⟨rfl, trivial⟩) ?_)))
          clear hK K
          refine AW.to (to_frz 2 [(12137, w95, .arr eInt.k 3 (eInt.E a94))] ⟨[(4, slE eInt a94), (5, HV.int .i64 0)], []⟩ ⟨⟨_, rfl, frz_slE eInt (l := a94) rfl fun _ _ => rfl⟩, ⟨_, rfl, rfl⟩, trivial⟩ trivial ⟨rfl, trivial⟩ ⟨rfl, trivial⟩ ?_)
          refine AW.ret ?_
          have h := Option.some.inj h
          subst h
          exact ret_pure (hs := [slE eInt a94, HV.int .i64 0]) (q := HV.tup [slE eInt a94, HV.int .i64 0]) (.inr rfl) (resT rfl (resT rfl rfl)) rfl ⟨(clean_slE fun _ _ => ⟨trivial, trivial⟩), trivial, trivial⟩
        · refine AW.rgs rfl fun K hK => ?_
          refine bv rfl (v_bin rfl rfl b_lss) ?_
          refine b_nil (hK _ (AW.to (to_le (s' := ⟨[(1, HV.str p1), (2, HV.fptr [HV.int .i64 p0.1, HV.int .i64 p0.2.1, slE eFromLabelTo p0.2.2] 0), (7, HV.ar 12024 v3 (eSl eBool).k 0 ((a48).length)), (11, HV.ar 12137 w57 eInt.k 0 ((a56.2).length)), (85, HV.int .i64 ((p1).length : Int)), (86, HV.int .i64 a56.1), (87, HV.bool (decide (a56.1 < ((p1).length : Int))))], [(12024, v3, .arr (eSl eBool).k 65 ((eSl eBool).E a48)), (12137, w57, .arr eInt.k 3 (eInt.E a56.2))]⟩) (AS.le_of ⟨rfl, rfl, rfl, rfl, rfl, rfl, rfl, trivial⟩ ⟨rfl, rfl, trivial⟩) ?_)))
          clear hK K
          refine AW.cseq rfl (fun hc => ?_) (fun hc => ?_)
          · have hc := of_decide_eq_true hc
            have h := ifT hc h
            refine AW.skip ?_
            refine AW.seq (AW.block ?_)
            refine AW.rgs rfl fun K hK => ?_
            refine mv rfl rfl ?_
            refine mv rfl rfl ?_
            refine b_nil (hK _ (AW.to (to_le (s' := ⟨[(1, HV.str p1), (2, HV.fptr [HV.int .i64 p0.1, HV.int .i64 p0.2.1, slE eFromLabelTo p0.2.2] 0), (7, HV.ar 12024 v3 (eSl eBool).k 0 ((a48).length)), (11, HV.ar 12137 w57 eInt.k 0 ((a56.2).length)), (12, HV.int .i64 a56.1), (85, HV.int .i64 ((p1).length : Int)), (86, HV.int .i64 a56.1)], [(12024, v3, .arr (eSl eBool).k 65 ((eSl eBool).E a48)), (12137, w57, .arr eInt.k 3 (eInt.E a56.2))]⟩) (AS.le_of ⟨rfl, rfl, rfl, rfl, rfl, rfl, rfl, trivial⟩ ⟨rfl, rfl, trivial⟩) ?_)))
            clear hK K
            refine AW.rgs rfl fun K hK => ?_
            refine bv rfl (v_fieldAddrF fo24_2 rfl) ?_
            refine bv rfl (v_loadF ty22 rfl (l_lit rfl rfl)) ?_
            refine bv rfl (v_lenF rfl rfl ty22 rfl) ?_
            refine mv rfl rfl ?_
            refine b_nil (hK _ (AW.to (to_le (s' := ⟨[(1, HV.str p1), (2, HV.fptr [HV.int .i64 p0.1, HV.int .i64 p0.2.1, slE eFromLabelTo p0.2.2] 0), (7, HV.ar 12024 v3 (eSl eBool).k 0 ((a48).length)), (11, HV.ar 12137 w57 eInt.k 0 ((a56.2).length)), (12, HV.int .i64 a56.1), (85, HV.int .i64 ((p1).length : Int)), (86, HV.int .i64 a56.1), (90, slE eFromLabelTo p0.2.2), (91, HV.int .i64 ((p0.2.2).length : Int)), (92, HV.int .i64 0)], [(12024, v3, .arr (eSl eBool).k 65 ((eSl eBool).E a48)), (12137, w57, .arr eInt.k 3 (eInt.E a56.2))]⟩) (AS.le_of ⟨rfl, rfl, rfl, rfl, rfl, rfl, rfl, rfl, rfl, rfl, trivial⟩ ⟨rfl, rfl, trivial⟩) ?_)))
            clear hK K
            refine AW.lpX h (by first | exact up_then | exact up_to) (S := Int) (V := Unit) (fun a v => ⟨[(1, HV.str p1), (2, HV.fptr [HV.int .i64 p0.1, HV.int .i64 p0.2.1, slE eFromLabelTo p0.2.2] 0), (7, HV.ar 12024 v3 (eSl eBool).k 0 ((a48).length)), (11, HV.ar 12137 w57 eInt.k 0 ((a56.2).length)), (12, HV.int .i64 a56.1), (85, HV.int .i64 ((p1).length : Int)), (86, HV.int .i64 a56.1), (90, slE eFromLabelTo p0.2.2), (91, HV.int .i64 ((p0.2.2).length : Int)), (92, HV.int .i64 a)], [(12024, v3, .arr (eSl eBool).k 65 ((eSl eBool).E a48)), (12137, w57, .arr eInt.k 3 (eInt.E a56.2))]⟩) ?_ (X := (List Int)) (W := Nat) (fun a v => ⟨[(1, HV.str p1), (2, HV.fptr [HV.int .i64 p0.1, HV.int .i64 p0.2.1, slE eFromLabelTo p0.2.2] 0), (7, HV.ar 12024 v3 (eSl eBool).k 0 ((a48).length)), (11, HV.ar 12137 v eInt.k 0 ((a).length)), (85, HV.int .i64 ((p1).length : Int)), (86, HV.int .i64 a56.1)], [(12024, v3, .arr (eSl eBool).k 65 ((eSl eBool).E a48)), (12137, v, .arr eInt.k 3 (eInt.E a))]⟩) (fun a91 w92 h => ?_) (fun a60 w61 st62 h => ?_)
            · exact to_le (s' := ⟨[(1, HV.str p1), (2, HV.fptr [HV.int .i64 p0.1, HV.int .i64 p0.2.1, slE eFromLabelTo p0.2.2] 0), (7, HV.ar 12024 v3 (eSl eBool).k 0 ((a48).length)), (11, HV.ar 12137 w57 eInt.k 0 ((a56.2).length)), (12, HV.int .i64 a56.1), (85, HV.int .i64 ((p1).length : Int)), (86, HV.int .i64 a56.1), (90, slE eFromLabelTo p0.2.2), (91, HV.int .i64 ((p0.2.2).length : Int)), (92, HV.int .i64 0)], [(12024, v3, .arr (eSl eBool).k 65 ((eSl eBool).E a48)), (12137, w57, .arr eInt.k 3 (eInt.E a56.2))]⟩) (AS.le_of ⟨rfl, rfl, rfl, rfl, rfl, rfl, rfl, rfl, rfl, rfl, trivial⟩ ⟨rfl, rfl, trivial⟩) ⟨(), rfl⟩
            · refine AW.rg rfl fun K hK => ?_
              refine bv rfl (v_bin rfl rfl b_add) ?_
              refine mv rfl rfl ?_
              refine b_nil (hK _ ?_)
              clear hK K
              exact to_le (s' := ⟨[(1, HV.str p1), (2, HV.fptr [HV.int .i64 p0.1, HV.int .i64 p0.2.1, slE eFromLabelTo p0.2.2] 0), (7, HV.ar 12024 v3 (eSl eBool).k 0 ((a48).length)), (11, HV.ar 12137 w92 eInt.k 0 ((a91).length)), (85, HV.int .i64 ((p1).length : Int)), (86, HV.int .i64 (IntKind.wrap .i64 (a56.1 + 1)))], [(12024, v3, .arr (eSl eBool).k 65 ((eSl eBool).E a48)), (12137, w92, .arr eInt.k 3 (eInt.E a91))]⟩) (AS.le_of ⟨rfl, rfl, rfl, rfl, rfl, rfl, trivial⟩ ⟨rfl, rfl, trivial⟩) ⟨(IntKind.wrap .i64 (a56.1 + 1), a91), w92, h, rfl⟩
            · refine AW.rgs rfl fun K hK => ?_
              refine bv rfl (v_bin rfl rfl b_lss) ?_
              refine b_nil (hK _ (AW.to (to_le (s' := ⟨[(1, HV.str p1), (2, HV.fptr [HV.int .i64 p0.1, HV.int .i64 p0.2.1, slE eFromLabelTo p0.2.2] 0), (7, HV.ar 12024 v3 (eSl eBool).k 0 ((a48).length)), (11, HV.ar 12137 w57 eInt.k 0 ((a56.2).length)), (12, HV.int .i64 a56.1), (85, HV.int .i64 ((p1).length : Int)), (86, HV.int .i64 a56.1), (90, slE eFromLabelTo p0.2.2), (91, HV.int .i64 ((p0.2.2).length : Int)), (92, HV.int .i64 a60), (93, HV.bool (decide (a60 < ((p0.2.2).length : Int))))], [(12024, v3, .arr (eSl eBool).k 65 ((eSl eBool).E a48)), (12137, w57, .arr eInt.k 3 (eInt.E a56.2))]⟩) (AS.le_of ⟨rfl, rfl, rfl, rfl, rfl, rfl, rfl, rfl, rfl, rfl, rfl, trivial⟩ ⟨rfl, rfl, trivial⟩) ?_)))
              clear hK K
              refine AW.cseq rfl (fun hc => ?_) (fun hc => ?_)
              · have hc := of_decide_eq_true hc
                have h := ifT hc h
                refine AW.skip ?_
                refine AW.seq (AW.block ?_)
                refine AW.rgs rfl fun K hK => ?_
                refine mv rfl rfl ?_
                obtain ⟨x64, h65, h⟩ := bS h
                refine bv rfl (v_idxF ty22 es22 rfl rfl (idx_lt h65)) ?_
                refine bv rfl (v_loadF ty68 rfl (l_agg eFromLabelTo h65 rfl rfl)) ?_
                refine b_op rfl (o_alloc (fid := 12) (zs := [HV.int .i64 0, HV.int .i64 0, HV.int .i64 0]) 12014 rfl rfl ty68 rfl (fun v66 => ?_))
                refine mv rfl rfl ?_
                refine b_op rfl (o_store (cs := [HV.int .i64 x64.1, HV.int .i64 x64.2.1, HV.int .i64 x64.2.2]) (zs := [HV.int .i64 x64.1, HV.int .i64 x64.2.1, HV.int .i64 x64.2.2]) rfl rfl rfl ty68 rfl rfl rfl rfl rfl ?_)
                refine b_nil (hK _ (AW.to (to_le (s' := ⟨[(1, HV.str p1), (2, HV.fptr [HV.int .i64 p0.1, HV.int .i64 p0.2.1, slE eFromLabelTo p0.2.2] 0), (7, HV.ar 12024 v3 (eSl eBool).k 0 ((a48).length)), (11, HV.ar 12137 w57 eInt.k 0 ((a56.2).length)), (12, HV.int .i64 a56.1), (13, HV.int .i64 a60), (14, HV.ptr 12014 v66 0), (85, HV.int .i64 ((p1).length : Int)), (86, HV.int .i64 a56.1), (90, slE eFromLabelTo p0.2.2), (91, HV.int .i64 ((p0.2.2).length : Int)), (92, HV.int .i64 a60)], [(12024, v3, .arr (eSl eBool).k 65 ((eSl eBool).E a48)), (12137, w57, .arr eInt.k 3 (eInt.E a56.2)), (12014, v66, .arr 3 68 [HV.int .i64 x64.1, HV.int .i64 x64.2.1, HV.int .i64 x64.2.2])]⟩) (AS.le_of ⟨rfl, rfl, rfl, rfl, rfl, rfl, rfl, rfl, rfl, rfl, rfl, rfl, trivial⟩ ⟨rfl, rfl, rfl, trivial⟩) ?_)))
                clear hK K
                refine AW.seqJ h (S := Bool) (V := Unit) (fun a v => ⟨[(1, HV.str p1), (2, HV.fptr [HV.int .i64 p0.1, HV.int .i64 p0.2.1, slE eFromLabelTo p0.2.2] 0), (7, HV.ar 12024 v3 (eSl eBool).k 0 ((a48).length)), (11, HV.ar 12137 w57 eInt.k 0 ((a56.2).length)), (12, HV.int .i64 a56.1), (13, HV.int .i64 a60), (85, HV.int .i64 ((p1).length : Int)), (86, HV.int .i64 a56.1), (90, slE eFromLabelTo p0.2.2), (91, HV.int .i64 ((p0.2.2).length : Int)), (92, HV.int .i64 a60), (133, HV.bool a)], [(12024, v3, .arr (eSl eBool).k 65 ((eSl eBool).E a48)), (12137, w57, .arr eInt.k 3 (eInt.E a56.2))]⟩) (fun a67 w68 h => ?_) (fun k69 h => ?_)
                · refine AW.cond rfl (fun hc => ?_) (fun hc => ?_)
                  · have h := ifT hc h
                    refine AW.rgs rfl fun K hK => ?_
                    refine mv rfl rfl ?_
                    refine mv rfl rfl ?_
                    refine b_op rfl (o_bsl rfl rfl (as_of (cs := [HV.int .i64 a60]) ty25 ty3 rfl rfl rfl rfl rfl) ?_)
                    obtain ⟨h71, h⟩ := ifN h
                    refine b_op rfl (o_appE eInt (l := a56.2) (m := [a60]) rfl rfl ty25 ty25 ty3 rfl rfl rfl rfl rfl h71 (fun v70 => ?_))
                    refine mv rfl rfl ?_
                    refine b_nil (hK _ (AW.to (to_le (s' := ⟨[(1, HV.str p1), (2, HV.fptr [HV.int .i64 p0.1, HV.int .i64 p0.2.1, slE eFromLabelTo p0.2.2] 0), (7, HV.ar 12024 v3 (eSl eBool).k 0 ((a48).length)), (11, HV.ar 12137 v70 eInt.k 0 ((a56.2 ++ [a60]).length)), (85, HV.int .i64 ((p1).length : Int)), (86, HV.int .i64 a56.1)], [(12024, v3, .arr (eSl eBool).k 65 ((eSl eBool).E a48)), (12137, v70, .arr eInt.k 3 (eInt.E (a56.2 ++ [a60])))]⟩) (AS.le_of ⟨rfl, rfl, rfl, rfl, rfl, rfl, trivial⟩ ⟨rfl, rfl, trivial⟩) ?_)))
                    clear hK K
                    refine AW.exit ?_
                    exact to_le (s' := ⟨[(1, HV.str p1), (2, HV.fptr [HV.int .i64 p0.1, HV.int .i64 p0.2.1, slE eFromLabelTo p0.2.2] 0), (7, HV.ar 12024 v3 (eSl eBool).k 0 ((a48).length)), (11, HV.ar 12137 v70 eInt.k 0 ((a56.2 ++ [a60]).length)), (85, HV.int .i64 ((p1).length : Int)), (86, HV.int .i64 a56.1)], [(12024, v3, .arr (eSl eBool).k 65 ((eSl eBool).E a48)), (12137, v70, .arr eInt.k 3 (eInt.E (a56.2 ++ [a60])))]⟩) (AS.le_of ⟨rfl, rfl, rfl, rfl, rfl, rfl, trivial⟩ ⟨rfl, rfl, trivial⟩) ⟨a56.2 ++ [a60], v70, h, rfl⟩
                  · have h := ifF (bF' hc) h
                    refine AW.skip ?_
                    refine AW.rg rfl fun K hK => ?_
                    refine bv rfl (v_bin rfl rfl b_add) ?_
                    refine mv rfl rfl ?_
                    refine b_nil (hK _ ?_)
                    clear hK K
                    exact to_le (s' := ⟨[(1, HV.str p1), (2, HV.fptr [HV.int .i64 p0.1, HV.int .i64 p0.2.1, slE eFromLabelTo p0.2.2] 0), (7, HV.ar 12024 v3 (eSl eBool).k 0 ((a48).length)), (11, HV.ar 12137 w57 eInt.k 0 ((a56.2).length)), (12, HV.int .i64 a56.1), (85, HV.int .i64 ((p1).length : Int)), (86, HV.int .i64 a56.1), (90, slE eFromLabelTo p0.2.2), (91, HV.int .i64 ((p0.2.2).length : Int)), (92, HV.int .i64 (IntKind.wrap .i64 (a60 + 1)))], [(12024, v3, .arr (eSl eBool).k 65 ((eSl eBool).E a48)), (12137, w57, .arr eInt.k 3 (eInt.E a56.2))]⟩) (AS.le_of ⟨rfl, rfl, rfl, rfl, rfl, rfl, rfl, rfl, rfl, rfl, trivial⟩ ⟨rfl, rfl, trivial⟩) ⟨IntKind.wrap .i64 (a60 + 1), (), h, rfl⟩
                · refine AW.dg 37 follows rfl rfl fun K hK => ?_
                  refine sv rfl (v_fieldAddrP fo68_1 rfl rfl) ?_
                  refine sv rfl (v_loadP ty3 rfl rfl (l_lit rfl rfl)) ?_
                  obtain ⟨x72, h73, h⟩ := bS h
                  refine sv rfl (v_idxS ty9 rfl rfl h73) ?_
                  refine sm rfl rfl ?_
                  refine sm rfl rfl ?_
                  obtain ⟨x74, h75, h⟩ := bS h
                  refine sv rfl (v_idxS ty9 rfl rfl h75) ?_
                  refine sv rfl (v_bin rfl rfl b_eql) ?_
                  refine sm rfl rfl ?_
                  by_cases hg90 : (x72.toNat : Int) = (x74.toNat : Int)
                  · have h := ifT hg90 h
                    refine s_T rfl rfl rfl rfl rfl (decide_eq_true hg90) (ops_val rfl (mv_val rfl rfl).2 ?_)
                    refine s_T rfl rfl rfl rfl rfl rfl (ops_val rfl (mv_val rfl rfl).2 ?_)
                    refine s_T rfl rfl rfl rfl rfl rfl (ops_val rfl (v_bin rfl rfl b_add) ?_)
                    obtain ⟨x76, h77, h⟩ := bS h
                    refine s_T rfl rfl rfl rfl rfl rfl (ops_val rfl (v_idxA ty64 es64 rfl rfl (idx_lt h77) rfl) ?_)
                    obtain ⟨x78, h79, h⟩ := bS h
                    refine s_T rfl rfl rfl rfl rfl rfl (ops_val rfl (v_loadP ty65 rfl rfl (l_cell (eSl eBool) h79 (o := 0) rfl rfl)) ?_)
                    refine s_T rfl rfl rfl rfl rfl rfl (ops_val rfl (v_fieldAddrP fo68_2 rfl rfl) ?_)
                    refine s_T rfl rfl rfl rfl rfl rfl (ops_val rfl (v_loadP ty3 rfl rfl (l_lit rfl rfl)) ?_)
                    obtain ⟨x80, h81, h⟩ := bS h
                    refine s_T rfl rfl rfl rfl rfl rfl (ops_val rfl (v_idxF ty65 es65 rfl rfl (idx_lt h81)) ?_)
                    refine s_T rfl rfl rfl rfl rfl rfl (ops_val rfl (v_loadF ty4 rfl (l_cell eBool h81 (o := 0) rfl rfl)) ?_)
                    refine sv rfl (v_pickT rfl rfl rfl) ?_
                    refine sm rfl rfl ?_
                    by_cases hg89 : x80 = true
                    · have h := ifT hg89 h
                      refine s_T rfl rfl rfl rfl rfl hg89 (ops_val rfl (mv_val rfl rfl).2 ?_)
                      refine s_T rfl rfl rfl rfl rfl rfl (ops_val rfl (v_bin rfl rfl b_eql) ?_)
                      refine s_T rfl rfl rfl rfl rfl rfl (ops_val rfl (mv_val rfl rfl).2 ?_)
                      by_cases hg88 : a56.1 = 0
                      · have h := ifT hg88 h
                        refine s_F rfl rfl rfl rfl rfl (decide_eq_true hg88) ?_
                        refine s_F rfl rfl rfl rfl rfl rfl ?_
                        refine s_F rfl rfl rfl rfl rfl rfl ?_
                        refine s_F rfl rfl rfl rfl rfl rfl ?_
                        refine s_F rfl rfl rfl rfl rfl rfl ?_
                        refine s_F rfl rfl rfl rfl rfl rfl ?_
                        refine s_F rfl rfl rfl rfl rfl rfl ?_
                        refine s_F rfl rfl rfl rfl rfl rfl ?_
                        refine s_F rfl rfl rfl rfl rfl rfl ?_
                        refine s_F rfl rfl rfl rfl rfl rfl ?_
                        refine s_F rfl rfl rfl rfl rfl rfl ?_
                        refine s_F rfl rfl rfl rfl rfl rfl ?_
                        refine s_F rfl rfl rfl rfl rfl rfl ?_
                        refine s_T rfl rfl rfl rfl rfl rfl (ops_val rfl (v_pickT rfl rfl rfl) ?_)
                        refine sv rfl (v_pickT rfl rfl rfl) ?_
                        refine s_nil ?_
                        refine b_nil (hK _ ?_)
                        clear hK K
                        exact to_le (s' := ⟨[(1, HV.str p1), (2, HV.fptr [HV.int .i64 p0.1, HV.int .i64 p0.2.1, slE eFromLabelTo p0.2.2] 0), (7, HV.ar 12024 v3 (eSl eBool).k 0 ((a48).length)), (11, HV.ar 12137 w57 eInt.k 0 ((a56.2).length)), (12, HV.int .i64 a56.1), (13, HV.int .i64 a60), (85, HV.int .i64 ((p1).length : Int)), (86, HV.int .i64 a56.1), (90, slE eFromLabelTo p0.2.2), (91, HV.int .i64 ((p0.2.2).length : Int)), (92, HV.int .i64 a60), (133, HV.bool true)], [(12024, v3, .arr (eSl eBool).k 65 ((eSl eBool).E a48)), (12137, w57, .arr eInt.k 3 (eInt.E a56.2))]⟩) (AS.le_of ⟨rfl, rfl, rfl, rfl, rfl, rfl, rfl, rfl, rfl, rfl, rfl, rfl, trivial⟩ ⟨rfl, rfl, trivial⟩) ⟨true, (), h, rfl⟩
                      · have h := ifF hg88 h
                        refine s_T rfl rfl rfl rfl rfl (decide_eq_false hg88) (ops_val rfl (v_fieldAddrP fo68_0 rfl rfl) ?_)
                        refine s_T rfl rfl rfl rfl rfl rfl (ops_val rfl (v_loadP ty3 rfl rfl (l_lit rfl rfl)) ?_)
                        refine s_T rfl rfl rfl rfl rfl rfl (ops_val rfl (v_fieldAddrF fo24_2 rfl) ?_)
                        refine s_T rfl rfl rfl rfl rfl rfl (ops_val rfl (v_loadF ty22 rfl (l_lit rfl rfl)) ?_)
                        refine s_T rfl rfl rfl rfl rfl rfl (ops_val rfl (mv_val rfl rfl).2 ?_)
                        refine s_T rfl rfl rfl rfl rfl rfl (ops_val rfl (mv_val rfl rfl).2 ?_)
                        refine s_T rfl rfl rfl rfl rfl rfl (ops_val rfl (v_bin rfl rfl b_sub) ?_)
                        obtain ⟨x82, h83, h⟩ := bS h
                        refine s_T rfl rfl rfl rfl rfl rfl (ops_val rfl (v_idxA ty25 es25 rfl rfl (idx_lt h83) rfl) ?_)
                        obtain ⟨x84, h85, h⟩ := bS h
                        refine s_T rfl rfl rfl rfl rfl rfl (ops_val rfl (v_loadP ty3 rfl rfl (l_cell eInt h85 (o := 0) rfl rfl)) ?_)
                        obtain ⟨x86, h87, h⟩ := bS h
                        refine s_T rfl rfl rfl rfl rfl rfl (ops_val rfl (v_idxF ty22 es22 rfl rfl (idx_lt h87)) ?_)
                        refine s_T rfl rfl rfl rfl rfl rfl (ops_val rfl (v_fieldAddrF fo68_2 rfl) ?_)
                        refine s_T rfl rfl rfl rfl rfl rfl (ops_val rfl (v_loadF ty3 rfl (l_cell eFromLabelTo h87 (o := 2) rfl rfl)) ?_)
                        refine s_T rfl rfl rfl rfl rfl rfl (ops_val rfl (v_bin rfl rfl b_eql) ?_)
                        refine s_T rfl rfl rfl rfl rfl rfl (ops_val rfl (v_pickF rfl rfl rfl) ?_)
                        refine sv rfl (v_pickT rfl rfl rfl) ?_
                        refine s_nil ?_
                        refine b_nil (hK _ ?_)
                        clear hK K
                        exact to_le (s' := ⟨[(1, HV.str p1), (2, HV.fptr [HV.int .i64 p0.1, HV.int .i64 p0.2.1, slE eFromLabelTo p0.2.2] 0), (7, HV.ar 12024 v3 (eSl eBool).k 0 ((a48).length)), (11, HV.ar 12137 w57 eInt.k 0 ((a56.2).length)), (12, HV.int .i64 a56.1), (13, HV.int .i64 a60), (85, HV.int .i64 ((p1).length : Int)), (86, HV.int .i64 a56.1), (90, slE eFromLabelTo p0.2.2), (91, HV.int .i64 ((p0.2.2).length : Int)), (92, HV.int .i64 a60), (133, HV.bool (decide (x64.1 = x86.2.2)))], [(12024, v3, .arr (eSl eBool).k 65 ((eSl eBool).E a48)), (12137, w57, .arr eInt.k 3 (eInt.E a56.2))]⟩) (AS.le_of ⟨rfl, rfl, rfl, rfl, rfl, rfl, rfl, rfl, rfl, rfl, rfl, rfl, trivial⟩ ⟨rfl, rfl, trivial⟩) ⟨decide (x64.1 = x86.2.2), (), h, rfl⟩
                    · have h := ifF hg89 h
                      refine s_F rfl rfl rfl rfl rfl (bF hg89) ?_
                      refine s_F rfl rfl rfl rfl rfl rfl ?_
                      refine s_F rfl rfl rfl rfl rfl rfl ?_
                      refine s_U rfl rfl rfl rfl rfl ?_
                      refine s_U rfl rfl rfl rfl rfl ?_
                      refine s_U rfl rfl rfl rfl rfl ?_
                      refine s_U rfl rfl rfl rfl rfl ?_
                      refine s_U rfl rfl rfl rfl rfl ?_
                      refine s_U rfl rfl rfl rfl rfl ?_
                      refine s_U rfl rfl rfl rfl rfl ?_
                      refine s_U rfl rfl rfl rfl rfl ?_
                      refine s_U rfl rfl rfl rfl rfl ?_
                      refine s_U rfl rfl rfl rfl rfl ?_
                      refine s_U rfl rfl rfl rfl rfl ?_
                      refine s_U rfl rfl rfl rfl rfl ?_
                      refine s_U rfl rfl rfl rfl rfl ?_
                      refine s_F rfl rfl rfl rfl rfl rfl ?_
                      refine sv rfl (v_pickF rfl rfl rfl) ?_
                      refine s_nil ?_
                      refine b_nil (hK _ ?_)
                      clear hK K
                      exact to_le (s' := ⟨[(1, HV.str p1), (2, HV.fptr [HV.int .i64 p0.1, HV.int .i64 p0.2.1, slE eFromLabelTo p0.2.2] 0), (7, HV.ar 12024 v3 (eSl eBool).k 0 ((a48).length)), (11, HV.ar 12137 w57 eInt.k 0 ((a56.2).length)), (12, HV.int .i64 a56.1), (13, HV.int .i64 a60), (85, HV.int .i64 ((p1).length : Int)), (86, HV.int .i64 a56.1), (90, slE eFromLabelTo p0.2.2), (91, HV.int .i64 ((p0.2.2).length : Int)), (92, HV.int .i64 a60), (133, HV.bool false)], [(12024, v3, .arr (eSl eBool).k 65 ((eSl eBool).E a48)), (12137, w57, .arr eInt.k 3 (eInt.E a56.2))]⟩) (AS.le_of ⟨rfl, rfl, rfl, rfl, rfl, rfl, rfl, rfl, rfl, rfl, rfl, rfl, trivial⟩ ⟨rfl, rfl, trivial⟩) ⟨false, (), h, rfl⟩
                  · have h := ifF hg90 h
                    refine s_F rfl rfl rfl rfl rfl (decide_eq_false hg90) ?_
                    refine s_F rfl rfl rfl rfl rfl rfl ?_
                    refine s_F rfl rfl rfl rfl rfl rfl ?_
                    refine s_F rfl rfl rfl rfl rfl rfl ?_
                    refine s_F rfl rfl rfl rfl rfl rfl ?_
                    refine s_F rfl rfl rfl rfl rfl rfl ?_
                    refine s_F rfl rfl rfl rfl rfl rfl ?_
                    refine s_F rfl rfl rfl rfl rfl rfl ?_
                    refine s_F rfl rfl rfl rfl rfl rfl ?_
                    refine sv rfl (v_pickF rfl rfl rfl) ?_
                    refine sm rfl rfl ?_
                    refine s_F rfl rfl rfl rfl rfl rfl ?_
                    refine s_F rfl rfl rfl rfl rfl rfl ?_
                    refine s_F rfl rfl rfl rfl rfl rfl ?_
                    refine s_U rfl rfl rfl rfl rfl ?_
                    refine s_U rfl rfl rfl rfl rfl ?_
                    refine s_U rfl rfl rfl rfl rfl ?_
                    refine s_U rfl rfl rfl rfl rfl ?_
                    refine s_U rfl rfl rfl rfl rfl ?_
                    refine s_U rfl rfl rfl rfl rfl ?_
                    refine s_U rfl rfl rfl rfl rfl ?_
                    refine s_U rfl rfl rfl rfl rfl ?_
                    refine s_U rfl rfl rfl rfl rfl ?_
                    refine s_U rfl rfl rfl rfl rfl ?_
                    refine s_U rfl rfl rfl rfl rfl ?_
                    refine s_U rfl rfl rfl rfl rfl ?_
                    refine s_U rfl rfl rfl rfl rfl ?_
                    refine s_F rfl rfl rfl rfl rfl rfl ?_
                    refine sv rfl (v_pickF rfl rfl rfl) ?_
                    refine s_nil ?_
                    refine b_nil (hK _ ?_)
                    clear hK K
                    exact to_le (s' := ⟨[(1, HV.str p1), (2, HV.fptr [HV.int .i64 p0.1, HV.int .i64 p0.2.1, slE eFromLabelTo p0.2.2] 0), (7, HV.ar 12024 v3 (eSl eBool).k 0 ((a48).length)), (11, HV.ar 12137 w57 eInt.k 0 ((a56.2).length)), (12, HV.int .i64 a56.1), (13, HV.int .i64 a60), (85, HV.int .i64 ((p1).length : Int)), (86, HV.int .i64 a56.1), (90, slE eFromLabelTo p0.2.2), (91, HV.int .i64 ((p0.2.2).length : Int)), (92, HV.int .i64 a60), (133, HV.bool false)], [(12024, v3, .arr (eSl eBool).k 65 ((eSl eBool).E a48)), (12137, w57, .arr eInt.k 3 (eInt.E a56.2))]⟩) (AS.le_of ⟨rfl, rfl, rfl, rfl, rfl, rfl, rfl, rfl, rfl, rfl, rfl, rfl, trivial⟩ ⟨rfl, rfl, trivial⟩) ⟨false, (), h, rfl⟩
              · have hc := of_decide_eq_false hc
                have h := ifF hc h
                refine AW.exit ?_
                exact to_le (s' := ⟨[(1, HV.str p1), (2, HV.fptr [HV.int .i64 p0.1, HV.int .i64 p0.2.1, slE eFromLabelTo p0.2.2] 0), (7, HV.ar 12024 v3 (eSl eBool).k 0 ((a48).length)), (11, HV.ar 12137 w57 eInt.k 0 ((a56.2).length)), (85, HV.int .i64 ((p1).length : Int)), (86, HV.int .i64 a56.1)], [(12024, v3, .arr (eSl eBool).k 65 ((eSl eBool).E a48)), (12137, w57, .arr eInt.k 3 (eInt.E a56.2))]⟩) (AS.le_of ⟨rfl, rfl, rfl, rfl, rfl, rfl, trivial⟩ ⟨rfl, rfl, trivial⟩) ⟨a56.2, w57, h, rfl⟩
          · have hc := of_decide_eq_false hc
            have h := ifF hc h
            refine AW.exit ?_
            exact to_le (s' := ⟨[(11, HV.ar 12137 w57 eInt.k 0 ((a56.2).length))], [(12137, w57, .arr eInt.k 3 (eInt.E a56.2))]⟩) (AS.le_of ⟨rfl, trivial⟩ ⟨rfl, trivial⟩) ⟨a56.2, w57, h, rfl⟩
    · refine AW.seq ?_
      refine AW.rgs rfl fun K hK => ?_
      refine mv rfl rfl ?_
      refine bv rfl (v_bin rfl rfl b_geq) ?_
      refine b_nil (hK _ (AW.to (to_le (s' := ⟨[(1, HV.str p1), (2, HV.fptr [HV.int .i64 p0.1, HV.int .i64 p0.2.1, slE eFromLabelTo p0.2.2] 0), (7, HV.ar 12024 v3 (eSl eBool).k 0 ((a9.2).length)), (8, HV.int .i64 a9.1), (37, HV.bool (decide (0 ≤ a9.1)))], [(12024, v3, .arr (eSl eBool).k 65 ((eSl eBool).E a9.2))]⟩) (AS.le_of ⟨rfl, rfl, rfl, rfl, rfl, trivial⟩ ⟨rfl, trivial⟩) ?_)))
      clear hK K
      refine AW.cond rfl (fun hc => ?_) (fun hc => ?_)
      · have hc := of_decide_eq_true hc
        have h := ifT hc h
        refine AW.skip ?_
        refine AW.seq (AW.block ?_)
        refine AW.rgs rfl fun K hK => ?_
        refine mv rfl rfl ?_
        refine mv rfl rfl ?_
        refine bv rfl (v_fieldAddrF fo24_1 rfl) ?_
        refine bv rfl (v_loadF ty3 rfl (l_lit rfl rfl)) ?_
        obtain ⟨h14, h⟩ := ifN h
        refine b_op rfl (o_makeE (fid := 12) eBool (false : Bool) 12044 rfl rfl ty65 rfl rfl ty4 rfl rfl h14 (fun v13 => ?_))
        obtain ⟨x15, h16, h⟩ := bS h
        refine bv rfl (v_idxA ty64 es64 rfl rfl (idx_lt h16) rfl) ?_
        refine b_op rfl (o_storeH eBool (L := a9.2) (j := a9.1) rfl rfl rfl ty65 rfl rfl rfl (idx_lt h16) ?_)
        refine b_nil (hK _ (AW.to (to_le (s' := ⟨[(1, HV.str p1), (2, HV.fptr [HV.int .i64 p0.1, HV.int .i64 p0.2.1, slE eFromLabelTo p0.2.2] 0), (7, HV.ar 12024 v3 (eSl eBool).k 0 ((a9.2).length)), (8, HV.int .i64 a9.1)], [(12024, v3, .arr (eSl eBool).k 65 (((eSl eBool).E a9.2).set (a9.1).toNat (HV.ar 12044 v13 eBool.k 0 ((List.replicate (p0.2.1).toNat (false : Bool)).length)))), (12044, v13, .arr eBool.k 4 (eBool.E (List.replicate (p0.2.1).toNat (false : Bool))))]⟩) (AS.le_of ⟨rfl, rfl, rfl, rfl, trivial⟩ ⟨rfl, rfl, trivial⟩) ?_)))
        clear hK K
        refine AW.rgs rfl fun K hK => ?_
        refine bv rfl (v_fieldAddrF fo24_2 rfl) ?_
        refine bv rfl (v_loadF ty22 rfl (l_lit rfl rfl)) ?_
        refine bv rfl (v_lenF rfl rfl ty22 rfl) ?_
        refine mv rfl rfl ?_
        refine b_nil (hK _ (AW.to (to_le (s' := ⟨[(1, HV.str p1), (2, HV.fptr [HV.int .i64 p0.1, HV.int .i64 p0.2.1, slE eFromLabelTo p0.2.2] 0), (7, HV.ar 12024 v3 (eSl eBool).k 0 ((a9.2).length)), (8, HV.int .i64 a9.1), (47, slE eFromLabelTo p0.2.2), (48, HV.int .i64 ((p0.2.2).length : Int)), (49, HV.int .i64 0)], [(12024, v3, .arr (eSl eBool).k 65 (((eSl eBool).E a9.2).set (a9.1).toNat (HV.ar 12044 v13 eBool.k 0 ((List.replicate (p0.2.1).toNat (false : Bool)).length)))), (12044, v13, .arr eBool.k 4 (eBool.E (List.replicate (p0.2.1).toNat (false : Bool))))]⟩) (AS.le_of ⟨rfl, rfl, rfl, rfl, rfl, rfl, rfl, trivial⟩ ⟨rfl, rfl, trivial⟩) ?_)))
        clear hK K
        refine AW.lpX h (by first | exact up_then | exact up_to) (S := Int × (List Bool)) (V := Unit) (fun a v => ⟨[(1, HV.str p1), (2, HV.fptr [HV.int .i64 p0.1, HV.int .i64 p0.2.1, slE eFromLabelTo p0.2.2] 0), (7, HV.ar 12024 v3 (eSl eBool).k 0 ((a9.2).length)), (8, HV.int .i64 a9.1), (47, slE eFromLabelTo p0.2.2), (48, HV.int .i64 ((p0.2.2).length : Int)), (49, HV.int .i64 a.1)], [(12024, v3, .arr (eSl eBool).k 65 (((eSl eBool).E a9.2).set (a9.1).toNat (HV.ar 12044 v13 eBool.k 0 ((a.2).length)))), (12044, v13, .arr eBool.k 4 (eBool.E a.2))]⟩) ?_ (X := (List Bool)) (W := Unit) (fun a v => ⟨[(1, HV.str p1), (2, HV.fptr [HV.int .i64 p0.1, HV.int .i64 p0.2.1, slE eFromLabelTo p0.2.2] 0), (7, HV.ar 12024 v3 (eSl eBool).k 0 ((a9.2).length)), (8, HV.int .i64 a9.1)], [(12024, v3, .arr (eSl eBool).k 65 (((eSl eBool).E a9.2).set (a9.1).toNat (HV.ar 12044 v13 eBool.k 0 ((a).length)))), (12044, v13, .arr eBool.k 4 (eBool.E a))]⟩) (fun a46 w47 h => ?_) (fun a17 w18 st19 h => ?_)
        · exact to_le (s' := ⟨[(1, HV.str p1), (2, HV.fptr [HV.int .i64 p0.1, HV.int .i64 p0.2.1, slE eFromLabelTo p0.2.2] 0), (7, HV.ar 12024 v3 (eSl eBool).k 0 ((a9.2).length)), (8, HV.int .i64 a9.1), (47, slE eFromLabelTo p0.2.2), (48, HV.int .i64 ((p0.2.2).length : Int)), (49, HV.int .i64 0)], [(12024, v3, .arr (eSl eBool).k 65 (((eSl eBool).E a9.2).set (a9.1).toNat (HV.ar 12044 v13 eBool.k 0 ((List.replicate (p0.2.1).toNat (false : Bool)).length)))), (12044, v13, .arr eBool.k 4 (eBool.E (List.replicate (p0.2.1).toNat (false : Bool))))]⟩) (AS.le_of ⟨rfl, rfl, rfl, rfl, rfl, rfl, rfl, trivial⟩ ⟨rfl, rfl, trivial⟩) ⟨(), rfl⟩
        · refine AW.rg rfl fun K hK => ?_
          refine mv rfl rfl ?_
          refine bv rfl (v_bin rfl rfl b_sub) ?_
          refine mv rfl rfl ?_
          refine b_nil (hK _ ?_)
          clear hK K
          refine to_bind (to_fill 2 [(12044, v13, .arr eBool.k 4 (eBool.E a46))] ⟨[(1, HV.str p1), (2, HV.fptr [HV.int .i64 p0.1, HV.int .i64 p0.2.1, slE eFromLabelTo p0.2.2] 0), (7, HV.ar 12024 v3 (eSl eBool).k 0 ((a9.2).length)), (8, HV.int .i64 (IntKind.wrap .i64 (a9.1 - 1)))], [(12024, v3, .arr (eSl eBool).k 65 ((eSl eBool).E ((a9.2).set (a9.1).toNat a46)))]⟩ ⟨⟨_, rfl, rfl⟩, ⟨_, rfl, rfl⟩, ⟨_, rfl, rfl⟩, ⟨_, rfl, rfl⟩, trivial⟩ ⟨.inr ⟨_, _, _, rfl, fill_obj (c := eBool) rfl rfl fun _ => rfl⟩, trivial⟩ ⟨rfl, trivial⟩ ⟨rfl, trivial⟩ ?_)
          exact to_le (s' := ⟨[(1, HV.str p1), (2, HV.fptr [HV.int .i64 p0.1, HV.int .i64 p0.2.1, slE eFromLabelTo p0.2.2] 0), (7, HV.ar 12024 v3 (eSl eBool).k 0 (((a9.2).set (a9.1).toNat a46).length)), (8, HV.int .i64 (IntKind.wrap .i64 (a9.1 - 1)))], [(12024, v3, .arr (eSl eBool).k 65 ((eSl eBool).E ((a9.2).set (a9.1).toNat a46)))]⟩) (AS.le_of ⟨rfl, rfl, arl (by first | rfl | simp only [List.length_set, sortI_len, sortS_len]), rfl, trivial⟩ ⟨rfl, trivial⟩) ⟨(IntKind.wrap .i64 (a9.1 - 1), (a9.2).set (a9.1).toNat a46), (), h, rfl⟩
        · refine AW.rgs rfl fun K hK => ?_
          refine bv rfl (v_bin rfl rfl b_lss) ?_
          refine b_nil (hK _ (AW.to (to_le (s' := ⟨[(1, HV.str p1), (2, HV.fptr [HV.int .i64 p0.1, HV.int .i64 p0.2.1, slE eFromLabelTo p0.2.2] 0), (7, HV.ar 12024 v3 (eSl eBool).k 0 ((a9.2).length)), (8, HV.int .i64 a9.1), (47, slE eFromLabelTo p0.2.2), (48, HV.int .i64 ((p0.2.2).length : Int)), (49, HV.int .i64 a17.1), (50, HV.bool (decide (a17.1 < ((p0.2.2).length : Int))))], [(12024, v3, .arr (eSl eBool).k 65 (((eSl eBool).E a9.2).set (a9.1).toNat (HV.ar 12044 v13 eBool.k 0 ((a17.2).length)))), (12044, v13, .arr eBool.k 4 (eBool.E a17.2))]⟩) (AS.le_of ⟨rfl, rfl, rfl, rfl, rfl, rfl, rfl, rfl, trivial⟩ ⟨rfl, rfl, trivial⟩) ?_)))
          clear hK K
          refine AW.cseq rfl (fun hc => ?_) (fun hc => ?_)
          · have hc := of_decide_eq_true hc
            have h := ifT hc h
            refine AW.skip ?_
            refine AW.seqJ h (S := (List Bool)) (V := Unit) (fun a v => ⟨[(1, HV.str p1), (2, HV.fptr [HV.int .i64 p0.1, HV.int .i64 p0.2.1, slE eFromLabelTo p0.2.2] 0), (7, HV.ar 12024 v3 (eSl eBool).k 0 ((a9.2).length)), (8, HV.int .i64 a9.1), (47, slE eFromLabelTo p0.2.2), (48, HV.int .i64 ((p0.2.2).length : Int)), (49, HV.int .i64 a17.1)], [(12024, v3, .arr (eSl eBool).k 65 (((eSl eBool).E a9.2).set (a9.1).toNat (HV.ar 12044 v13 eBool.k 0 ((a).length)))), (12044, v13, .arr eBool.k 4 (eBool.E a))]⟩) (fun a21 w22 h => ?_) (fun k23 h => ?_)
            · refine AW.rg rfl fun K hK => ?_
              refine bv rfl (v_bin rfl rfl b_add) ?_
              refine mv rfl rfl ?_
              refine b_nil (hK _ ?_)
              clear hK K
              exact to_le (s' := ⟨[(1, HV.str p1), (2, HV.fptr [HV.int .i64 p0.1, HV.int .i64 p0.2.1, slE eFromLabelTo p0.2.2] 0), (7, HV.ar 12024 v3 (eSl eBool).k 0 ((a9.2).length)), (8, HV.int .i64 a9.1), (47, slE eFromLabelTo p0.2.2), (48, HV.int .i64 ((p0.2.2).length : Int)), (49, HV.int .i64 (IntKind.wrap .i64 (a17.1 + 1)))], [(12024, v3, .arr (eSl eBool).k 65 (((eSl eBool).E a9.2).set (a9.1).toNat (HV.ar 12044 v13 eBool.k 0 ((a21).length)))), (12044, v13, .arr eBool.k 4 (eBool.E a21))]⟩) (AS.le_of ⟨rfl, rfl, rfl, rfl, rfl, rfl, rfl, trivial⟩ ⟨rfl, rfl, trivial⟩) ⟨(IntKind.wrap .i64 (a17.1 + 1), a21), (), h, rfl⟩
            · refine AW.block ?_
              refine AW.rgs rfl fun K hK => ?_
              obtain ⟨x24, h25, h⟩ := bS h
              refine bv rfl (v_idxF ty22 es22 rfl rfl (idx_lt h25)) ?_
              refine bv rfl (v_loadF ty68 rfl (l_agg eFromLabelTo h25 rfl rfl)) ?_
              refine b_op rfl (o_alloc (fid := 12) (zs := [HV.int .i64 0, HV.int .i64 0, HV.int .i64 0]) 12010 rfl rfl ty68 rfl (fun v26 => ?_))
              refine b_op rfl (o_store (cs := [HV.int .i64 x24.1, HV.int .i64 x24.2.1, HV.int .i64 x24.2.2]) (zs := [HV.int .i64 x24.1, HV.int .i64 x24.2.1, HV.int .i64 x24.2.2]) rfl rfl rfl ty68 rfl rfl rfl rfl rfl ?_)
              refine b_nil (hK _ (AW.to (to_le (s' := ⟨[(1, HV.str p1), (2, HV.fptr [HV.int .i64 p0.1, HV.int .i64 p0.2.1, slE eFromLabelTo p0.2.2] 0), (7, HV.ar 12024 v3 (eSl eBool).k 0 ((a9.2).length)), (8, HV.int .i64 a9.1), (10, HV.ptr 12010 v26 0), (47, slE eFromLabelTo p0.2.2), (48, HV.int .i64 ((p0.2.2).length : Int)), (49, HV.int .i64 a17.1)], [(12024, v3, .arr (eSl eBool).k 65 (((eSl eBool).E a9.2).set (a9.1).toNat (HV.ar 12044 v13 eBool.k 0 ((a17.2).length)))), (12044, v13, .arr eBool.k 4 (eBool.E a17.2)), (12010, v26, .arr 3 68 [HV.int .i64 x24.1, HV.int .i64 x24.2.1, HV.int .i64 x24.2.2])]⟩) (AS.le_of ⟨rfl, rfl, rfl, rfl, rfl, rfl, rfl, rfl, trivial⟩ ⟨rfl, rfl, rfl, trivial⟩) ?_)))
              clear hK K
              refine AW.seqJ h (S := Bool) (V := Unit) (fun a v => ⟨[(1, HV.str p1), (2, HV.fptr [HV.int .i64 p0.1, HV.int .i64 p0.2.1, slE eFromLabelTo p0.2.2] 0), (7, HV.ar 12024 v3 (eSl eBool).k 0 ((a9.2).length)), (8, HV.int .i64 a9.1), (10, HV.ptr 12010 v26 0), (47, slE eFromLabelTo p0.2.2), (48, HV.int .i64 ((p0.2.2).length : Int)), (49, HV.int .i64 a17.1), (70, HV.bool a)], [(12010, v26, .arr 3 68 [HV.int .i64 x24.1, HV.int .i64 x24.2.1, HV.int .i64 x24.2.2]), (12024, v3, .arr (eSl eBool).k 65 (((eSl eBool).E a9.2).set (a9.1).toNat (HV.ar 12044 v13 eBool.k 0 ((a17.2).length)))), (12044, v13, .arr eBool.k 4 (eBool.E a17.2))]⟩) (fun a27 w28 h => ?_) (fun k29 h => ?_)
              · refine AW.cond rfl (fun hc => ?_) (fun hc => ?_)
                · have h := ifT hc h
                  refine AW.dg 7 follows rfl rfl fun K hK => ?_
                  refine sm rfl rfl ?_
                  refine sm rfl rfl ?_
                  obtain ⟨x30, h31, h⟩ := bS h
                  refine sv rfl (v_idxA ty64 es64 rfl rfl (idx_lt h31) rfl) ?_
                  refine sv rfl (v_loadP ty65 rfl rfl (l_hole eBool _ h31 rfl)) ?_
                  refine sv rfl (v_fieldAddrP fo68_0 rfl rfl) ?_
                  refine sv rfl (v_loadP ty3 rfl rfl (l_lit rfl rfl)) ?_
                  obtain ⟨x32, h33, h⟩ := bS h
                  refine sv rfl (v_idxA ty65 es65 rfl rfl (idx_lt h33) rfl) ?_
                  refine s_nil ?_
                  refine b_op rfl (o_storeE eBool (l := a17.2) (j := x24.1) (v := true) rfl rfl rfl ty4 rfl rfl rfl (idx_lt h33) ?_)
                  refine b_nil (hK _ ?_)
                  clear hK K
                  exact to_le (s' := ⟨[(1, HV.str p1), (2, HV.fptr [HV.int .i64 p0.1, HV.int .i64 p0.2.1, slE eFromLabelTo p0.2.2] 0), (7, HV.ar 12024 v3 (eSl eBool).k 0 ((a9.2).length)), (8, HV.int .i64 a9.1), (47, slE eFromLabelTo p0.2.2), (48, HV.int .i64 ((p0.2.2).length : Int)), (49, HV.int .i64 a17.1)], [(12024, v3, .arr (eSl eBool).k 65 (((eSl eBool).E a9.2).set (a9.1).toNat (HV.ar 12044 v13 eBool.k 0 (((a17.2).set (x24.1).toNat true).length)))), (12044, v13, .arr eBool.k 4 (eBool.E ((a17.2).set (x24.1).toNat true)))]⟩) (AS.le_of ⟨rfl, rfl, rfl, rfl, rfl, rfl, rfl, trivial⟩ ⟨hle rfl (by first | rfl | simp only [List.length_set, sortI_len, sortS_len]), rfl, trivial⟩) ⟨(a17.2).set (x24.1).toNat true, (), h, rfl⟩
                · have h := ifF (bF' hc) h
                  refine AW.skip ?_
                  exact to_le (s' := ⟨[(1, HV.str p1), (2, HV.fptr [HV.int .i64 p0.1, HV.int .i64 p0.2.1, slE eFromLabelTo p0.2.2] 0), (7, HV.ar 12024 v3 (eSl eBool).k 0 ((a9.2).length)), (8, HV.int .i64 a9.1), (47, slE eFromLabelTo p0.2.2), (48, HV.int .i64 ((p0.2.2).length : Int)), (49, HV.int .i64 a17.1)], [(12024, v3, .arr (eSl eBool).k 65 (((eSl eBool).E a9.2).set (a9.1).toNat (HV.ar 12044 v13 eBool.k 0 ((a17.2).length)))), (12044, v13, .arr eBool.k 4 (eBool.E a17.2))]⟩) (AS.le_of ⟨rfl, rfl, rfl, rfl, rfl, rfl, rfl, trivial⟩ ⟨rfl, rfl, trivial⟩) ⟨a17.2, (), h, rfl⟩
              · refine AW.dg 18 follows rfl rfl fun K hK => ?_
                refine sv rfl (v_fieldAddrP fo68_1 rfl rfl) ?_
                refine sv rfl (v_loadP ty3 rfl rfl (l_lit rfl rfl)) ?_
                obtain ⟨x34, h35, h⟩ := bS h
                refine sv rfl (v_idxS ty9 rfl rfl h35) ?_
                refine sm rfl rfl ?_
                refine sm rfl rfl ?_
                obtain ⟨x36, h37, h⟩ := bS h
                refine sv rfl (v_idxS ty9 rfl rfl h37) ?_
                refine sv rfl (v_bin rfl rfl b_eql) ?_
                refine sm rfl rfl ?_
                by_cases hg45 : (x34.toNat : Int) = (x36.toNat : Int)
                · have h := ifT hg45 h
                  refine s_T rfl rfl rfl rfl rfl (decide_eq_true hg45) (ops_val rfl (mv_val rfl rfl).2 ?_)
                  refine s_T rfl rfl rfl rfl rfl rfl (ops_val rfl (mv_val rfl rfl).2 ?_)
                  refine s_T rfl rfl rfl rfl rfl rfl (ops_val rfl (v_bin rfl rfl b_add) ?_)
                  obtain ⟨x38, h39, h⟩ := bS h
                  refine s_T rfl rfl rfl rfl rfl rfl (ops_val rfl (v_idxA ty64 es64 rfl rfl (idx_lt h39) rfl) ?_)
                  obtain ⟨h42, h⟩ := ifN h
                  obtain ⟨x40, h41, h⟩ := bS h
                  refine s_T rfl rfl rfl rfl rfl rfl (ops_val rfl (v_loadP ty65 rfl rfl (l_holeN eBool _ h41 h42 rfl)) ?_)
                  refine s_T rfl rfl rfl rfl rfl rfl (ops_val rfl (v_fieldAddrP fo68_2 rfl rfl) ?_)
                  refine s_T rfl rfl rfl rfl rfl rfl (ops_val rfl (v_loadP ty3 rfl rfl (l_lit rfl rfl)) ?_)
                  obtain ⟨x43, h44, h⟩ := bS h
                  refine s_T rfl rfl rfl rfl rfl rfl (ops_val rfl (v_idxF ty65 es65 rfl rfl (idx_lt h44)) ?_)
                  refine s_T rfl rfl rfl rfl rfl rfl (ops_val rfl (v_loadF ty4 rfl (l_cell eBool h44 (o := 0) rfl rfl)) ?_)
                  refine sv rfl (v_pickT rfl rfl rfl) ?_
                  refine s_nil ?_
                  refine b_nil (hK _ ?_)
                  clear hK K
                  exact to_le (s' := ⟨[(1, HV.str p1), (2, HV.fptr [HV.int .i64 p0.1, HV.int .i64 p0.2.1, slE eFromLabelTo p0.2.2] 0), (7, HV.ar 12024 v3 (eSl eBool).k 0 ((a9.2).length)), (8, HV.int .i64 a9.1), (10, HV.ptr 12010 v26 0), (47, slE eFromLabelTo p0.2.2), (48, HV.int .i64 ((p0.2.2).length : Int)), (49, HV.int .i64 a17.1), (70, HV.bool x43)], [(12010, v26, .arr 3 68 [HV.int .i64 x24.1, HV.int .i64 x24.2.1, HV.int .i64 x24.2.2]), (12024, v3, .arr (eSl eBool).k 65 (((eSl eBool).E a9.2).set (a9.1).toNat (HV.ar 12044 v13 eBool.k 0 ((a17.2).length)))), (12044, v13, .arr eBool.k 4 (eBool.E a17.2))]⟩) (AS.le_of ⟨rfl, rfl, rfl, rfl, rfl, rfl, rfl, rfl, rfl, trivial⟩ ⟨rfl, rfl, rfl, trivial⟩) ⟨x43, (), h, rfl⟩
                · have h := ifF hg45 h
                  refine s_F rfl rfl rfl rfl rfl (decide_eq_false hg45) ?_
                  refine s_F rfl rfl rfl rfl rfl rfl ?_
                  refine s_F rfl rfl rfl rfl rfl rfl ?_
                  refine s_F rfl rfl rfl rfl rfl rfl ?_
                  refine s_F rfl rfl rfl rfl rfl rfl ?_
                  refine s_F rfl rfl rfl rfl rfl rfl ?_
                  refine s_F rfl rfl rfl rfl rfl rfl ?_
                  refine s_F rfl rfl rfl rfl rfl rfl ?_
                  refine s_F rfl rfl rfl rfl rfl rfl ?_
                  refine sv rfl (v_pickF rfl rfl rfl) ?_
                  refine s_nil ?_
                  refine b_nil (hK _ ?_)
                  clear hK K
                  exact to_le (s' := ⟨[(1, HV.str p1), (2, HV.fptr [HV.int .i64 p0.1, HV.int .i64 p0.2.1, slE eFromLabelTo p0.2.2] 0), (7, HV.ar 12024 v3 (eSl eBool).k 0 ((a9.2).length)), (8, HV.int .i64 a9.1), (10, HV.ptr 12010 v26 0), (47, slE eFromLabelTo p0.2.2), (48, HV.int .i64 ((p0.2.2).length : Int)), (49, HV.int .i64 a17.1), (70, HV.bool false)], [(12010, v26, .arr 3 68 [HV.int .i64 x24.1, HV.int .i64 x24.2.1, HV.int .i64 x24.2.2]), (12024, v3, .arr (eSl eBool).k 65 (((eSl eBool).E a9.2).set (a9.1).toNat (HV.ar 12044 v13 eBool.k 0 ((a17.2).length)))), (12044, v13, .arr eBool.k 4 (eBool.E a17.2))]⟩) (AS.le_of ⟨rfl, rfl, rfl, rfl, rfl, rfl, rfl, rfl, rfl, trivial⟩ ⟨rfl, rfl, rfl, trivial⟩) ⟨false, (), h, rfl⟩
          · have hc := of_decide_eq_false hc
            have h := ifF hc h
            refine AW.exit ?_
            exact to_le (s' := ⟨[(1, HV.str p1), (2, HV.fptr [HV.int .i64 p0.1, HV.int .i64 p0.2.1, slE eFromLabelTo p0.2.2] 0), (7, HV.ar 12024 v3 (eSl eBool).k 0 ((a9.2).length)), (8, HV.int .i64 a9.1)], [(12024, v3, .arr (eSl eBool).k 65 (((eSl eBool).E a9.2).set (a9.1).toNat (HV.ar 12044 v13 eBool.k 0 ((a17.2).length)))), (12044, v13, .arr eBool.k 4 (eBool.E a17.2))]⟩) (AS.le_of ⟨rfl, rfl, rfl, rfl, trivial⟩ ⟨rfl, rfl, trivial⟩) ⟨a17.2, (), h, rfl⟩
      · have hc := of_decide_eq_false hc
        have h := ifF hc h
        refine AW.exit ?_
        exact to_le (s' := ⟨[(1, HV.str p1), (2, HV.fptr [HV.int .i64 p0.1, HV.int .i64 p0.2.1, slE eFromLabelTo p0.2.2] 0), (7, HV.ar 12024 v3 (eSl eBool).k 0 ((a9.2).length))], [(12024, v3, .arr (eSl eBool).k 65 ((eSl eBool).E a9.2))]⟩) (AS.le_of ⟨rfl, rfl, rfl, trivial⟩ ⟨rfl, trivial⟩) ⟨a9.2, (), h, rfl⟩

end Go.AW

namespace Go.AW
open Go Go.Proofs
set_option linter.unusedVariables false
set_option maxHeartbeats 1600000 in
set_option maxRecDepth 100000 in
theorem w_slices_Equal_Lint_int {p0 : List (Int)} {p1 : List (Int)} {r : Bool} (h : m_slices_Equal_Lint_int p0 p1 = some r) : Pure Tryz.prog 14 [slE eInt p0, slE eInt p1] (· = HV.bool r) := by
  unfold m_slices_Equal_Lint_int at h
  refine Pure.of_body Tryz.func14 rfl rfl (Nat.le_of_ble_eq_true rfl) fun hf => ?_
  unfold Tryz.f14
  dsimp only [enumS, Nat.reduceAdd]
  refine AW.rgs rfl fun K hK => ?_
  refine mv rfl rfl ?_
  refine b_nil (hK _ (AW.to (to_le (s' := ⟨[(0, slE eInt p0), (1, slE eInt p1)], []⟩) (AS.le_of ⟨rfl, rfl, trivial⟩ trivial) ?_)))
  clear hK K
  refine AW.seq ?_
  refine AW.rgs rfl fun K hK => ?_
  refine mv rfl rfl ?_
  refine bv rfl (v_lenF rfl rfl ty25 rfl) ?_
  refine mv rfl rfl ?_
  refine bv rfl (v_lenF rfl rfl ty25 rfl) ?_
  refine bv rfl (v_bin rfl rfl b_neq) ?_
  refine b_nil (hK _ (AW.to (to_le (s' := ⟨[(0, slE eInt p0), (1, slE eInt p1), (10, HV.bool (decide (((p0).length : Int) ≠ ((p1).length : Int))))], []⟩) (AS.le_of ⟨rfl, rfl, rfl, trivial⟩ trivial) ?_)))
  clear hK K
  refine AW.cond rfl (fun hc => ?_) (fun hc => ?_)
  · have hc := of_decide_eq_true hc
    have h := ifT hc h
    refine AW.rgs rfl fun K hK => ?_
    refine mv rfl rfl ?_
    refine b_nil (hK _ (AW.to (to_le (s' := ⟨[(4, HV.bool false)], []⟩) (AS.le_of ⟨rfl, trivial⟩ trivial) ?_)))
    clear hK K
    refine AW.ret ?_
    have h := Option.some.inj h
    subst h
    exact ret_pure (hs := [HV.bool false]) (q := HV.bool false) (.inr rfl) (resT rfl rfl) rfl trivial
  · have hc := of_decide_eq_false hc
    have h := ifF hc h
    refine AW.skip ?_
    refine AW.seq ?_
    refine AW.rgs rfl fun K hK => ?_
    refine mv rfl rfl ?_
    refine bv rfl (v_lenF rfl rfl ty25 rfl) ?_
    refine mv rfl rfl ?_
    refine b_nil (hK _ (AW.to (to_le (s' := ⟨[(0, slE eInt p0), (1, slE eInt p1), (12, HV.int .i64 ((p0).length : Int)), (13, HV.int .i64 0)], []⟩) (AS.le_of ⟨rfl, rfl, rfl, rfl, trivial⟩ trivial) ?_)))
    clear hK K
    refine AW.lpR h (by first | exact up_then | exact up_to) (S := Int) (V := Unit) (fun a v => ⟨[(0, slE eInt p0), (1, slE eInt p1), (12, HV.int .i64 ((p0).length : Int)), (13, HV.int .i64 a)], []⟩) ?_ (X := Unit) (W := Unit) (fun a v => ⟨[], []⟩) (fun a9 w10 h => ?_) (fun a1 w2 st3 h hr4=> ?_)
    · exact to_le (s' := ⟨[(0, slE eInt p0), (1, slE eInt p1), (12, HV.int .i64 ((p0).length : Int)), (13, HV.int .i64 0)], []⟩) (AS.le_of ⟨rfl, rfl, rfl, rfl, trivial⟩ trivial) ⟨(), rfl⟩
    · refine AW.rgs rfl fun K hK => ?_
      refine mv rfl rfl ?_
      refine b_nil (hK _ (AW.to (to_le (s' := ⟨[(4, HV.bool true)], []⟩) (AS.le_of ⟨rfl, trivial⟩ trivial) ?_)))
      clear hK K
      refine AW.ret ?_
      have h := Option.some.inj h
      subst h
      exact ret_pure (hs := [HV.bool true]) (q := HV.bool true) (.inr rfl) (resT rfl rfl) rfl trivial
    · refine AW.rgs rfl fun K hK => ?_
      refine bv rfl (v_bin rfl rfl b_lss) ?_
      refine b_nil (hK _ (AW.to (to_le (s' := ⟨[(0, slE eInt p0), (1, slE eInt p1), (12, HV.int .i64 ((p0).length : Int)), (13, HV.int .i64 a1), (14, HV.bool (decide (a1 < ((p0).length : Int))))], []⟩) (AS.le_of ⟨rfl, rfl, rfl, rfl, rfl, trivial⟩ trivial) ?_)))
      clear hK K
      refine AW.cseq rfl (fun hc => ?_) (fun hc => ?_)
      · have hc := of_decide_eq_true hc
        have h := ifT hc h
        refine AW.skip ?_
        refine AW.seq (AW.block ?_)
        refine AW.rgs rfl fun K hK => ?_
        refine mv rfl rfl ?_
        refine mv rfl rfl ?_
        refine b_nil (hK _ (AW.to (to_le (s' := ⟨[(0, slE eInt p0), (1, slE eInt p1), (5, HV.int .i64 a1), (12, HV.int .i64 ((p0).length : Int)), (13, HV.int .i64 a1)], []⟩) (AS.le_of ⟨rfl, rfl, rfl, rfl, rfl, trivial⟩ trivial) ?_)))
        clear hK K
        refine AW.dgs 9 follows rfl rfl fun K hK => ?_
        refine sm rfl rfl ?_
        refine sm rfl rfl ?_
        obtain ⟨x5, h6, h⟩ := bS h
        refine sv rfl (v_idxF ty25 es25 rfl rfl (idx_lt h6)) ?_
        refine sv rfl (v_loadF ty3 rfl (l_cell eInt h6 (o := 0) rfl rfl)) ?_
        refine sm rfl rfl ?_
        refine sm rfl rfl ?_
        obtain ⟨x7, h8, h⟩ := bS h
        refine sv rfl (v_idxF ty25 es25 rfl rfl (idx_lt h8)) ?_
        refine sv rfl (v_loadF ty3 rfl (l_cell eInt h8 (o := 0) rfl rfl)) ?_
        refine sv rfl (v_bin rfl rfl b_neq) ?_
        refine s_nil ?_
        refine b_nil (hK _ (AW.to (to_le (s' := ⟨[(0, slE eInt p0), (1, slE eInt p1), (12, HV.int .i64 ((p0).length : Int)), (13, HV.int .i64 a1), (24, HV.bool (decide (x5 ≠ x7)))], []⟩) (AS.le_of ⟨rfl, rfl, rfl, rfl, rfl, trivial⟩ trivial) ?_)))
        clear hK K
        refine AW.cond rfl (fun hc => ?_) (fun hc => ?_)
        · have hc := of_decide_eq_true hc
          have h := ifT hc h
          refine AW.rgs rfl fun K hK => ?_
          refine mv rfl rfl ?_
          refine b_nil (hK _ (AW.to (to_le (s' := ⟨[(4, HV.bool false)], []⟩) (AS.le_of ⟨rfl, trivial⟩ trivial) ?_)))
          clear hK K
          have h := hr4 _ h
          refine AW.ret ?_
          have h := Option.some.inj h
          subst h
          exact ret_pure (hs := [HV.bool false]) (q := HV.bool false) (.inr rfl) (resT rfl rfl) rfl trivial
        · have hc := of_decide_eq_false hc
          have h := ifF hc h
          refine AW.skip ?_
          refine AW.rg rfl fun K hK => ?_
          refine bv rfl (v_bin rfl rfl b_add) ?_
          refine mv rfl rfl ?_
          refine b_nil (hK _ ?_)
          clear hK K
          exact to_le (s' := ⟨[(0, slE eInt p0), (1, slE eInt p1), (12, HV.int .i64 ((p0).length : Int)), (13, HV.int .i64 (IntKind.wrap .i64 (a1 + 1)))], []⟩) (AS.le_of ⟨rfl, rfl, rfl, rfl, trivial⟩ trivial) ⟨IntKind.wrap .i64 (a1 + 1), (), h, rfl⟩
      · have hc := of_decide_eq_false hc
        have h := ifF hc h
        refine AW.exit ?_
        exact to_le (s' := ⟨[], []⟩) (AS.le_of trivial trivial) ⟨(), (), h, rfl⟩

set_option maxHeartbeats 1600000 in
set_option maxRecDepth 100000 in
theorem w_language_Words {p0 : TLabelsStatesEdges} {p1 : Int} {r : (List (List UInt8)) × Int} (h : m_language_Words p0 p1 = some r) : Pure Tryz.prog 19 [HV.agg [HV.int .i64 p0.1, HV.int .i64 p0.2.1, slE eFromLabelTo p0.2.2], HV.int .i64 p1] (· = HV.tup [slE eStr r.1, HV.int .i64 r.2]) := by
  unfold m_language_Words at h
  refine Pure.of_body Tryz.func19 rfl rfl (Nat.le_of_ble_eq_true rfl) fun hf => ?_
  unfold Tryz.f19
  dsimp only [enumS, Nat.reduceAdd]
  refine AW.rgs rfl fun K hK => ?_
  refine b_op rfl (o_box rfl rfl rfl ?_)
  refine mv rfl rfl ?_
  refine mv rfl rfl ?_
  refine b_nil (hK _ (AW.to (to_le (s' := ⟨[(1, HV.int .i64 p1), (2, HV.fptr [HV.int .i64 p0.1, HV.int .i64 p0.2.1, slE eFromLabelTo p0.2.2] 0)], []⟩) (AS.le_of ⟨rfl, rfl, trivial⟩ trivial) ?_)))
  clear hK K
  refine AW.seq ?_
  refine AW.rgs rfl fun K hK => ?_
  refine bv rfl (v_loadF ty24 rfl (l_litA rfl (Nat.le_of_ble_eq_true rfl) rfl)) ?_
  refine mv rfl rfl ?_
  obtain ⟨x1, h2, h⟩ := bS h
  refine b_op rfl (o_call rfl rfl rfl rfl (ACallD.pure0 (w_language_lengths h2)) ?_)
  refine mv rfl rfl ?_
  refine b_nil (hK _ (AW.to (to_le (s' := ⟨[(1, HV.int .i64 p1), (2, HV.fptr [HV.int .i64 p0.1, HV.int .i64 p0.2.1, slE eFromLabelTo p0.2.2] 0), (6, HV.int .i64 x1)], []⟩) (AS.le_of ⟨rfl, rfl, rfl, trivial⟩ trivial) ?_)))
  clear hK K
  refine AW.rgs rfl fun K hK => ?_
  refine mv rfl rfl ?_
  refine bv rfl (v_bin rfl rfl b_neq) ?_
  refine b_nil (hK _ (AW.to (to_le (s' := ⟨[(1, HV.int .i64 p1), (2, HV.fptr [HV.int .i64 p0.1, HV.int .i64 p0.2.1, slE eFromLabelTo p0.2.2] 0), (6, HV.int .i64 x1), (13, HV.bool (decide (x1 ≠ 0)))], []⟩) (AS.le_of ⟨rfl, rfl, rfl, rfl, trivial⟩ trivial) ?_)))
  clear hK K
  refine AW.cond rfl (fun hc => ?_) (fun hc => ?_)
  · have hc := of_decide_eq_true hc
    have h := ifT hc h
    refine AW.rgs rfl fun K hK => ?_
    refine mv rfl rfl ?_
    refine mv rfl rfl ?_
    refine mv rfl rfl ?_
    refine b_nil (hK _ (AW.to (to_le (s' := ⟨[(4, HV.v (.slice none 0 0)), (5, HV.int .i64 x1)], []⟩) (AS.le_of ⟨rfl, rfl, trivial⟩ trivial) ?_)))
    clear hK K
    refine AW.to (to_weak ⟨[(4, slE eStr ([] : List (List UInt8))), (5, HV.int .i64 x1)], []⟩ ⟨⟨_, rfl, .nil _⟩, ⟨_, rfl, .refl _⟩, trivial⟩ trivial ?_)
    refine AW.ret ?_
    have h := Option.some.inj h
    subst h
    exact ret_pure (hs := [slE eStr ([] : List (List UInt8)), HV.int .i64 x1]) (q := HV.tup [slE eStr ([] : List (List UInt8)), HV.int .i64 x1]) (.inr rfl) (resT rfl (resT rfl rfl)) rfl ⟨(clean_slE fun _ _ => ⟨trivial, trivial⟩), trivial, trivial⟩
  · have hc := of_decide_eq_false hc
    have h := ifF hc h
    refine AW.skip ?_
    refine AW.dys follows fun K hK => ?_
    refine y_st 4 rfl rfl ?_
    refine sv rfl (v_loadF ty24 rfl (l_litA rfl (Nat.le_of_ble_eq_true rfl) rfl)) ?_
    refine sv rfl (v_loadF ty24 rfl (l_litA rfl (Nat.le_of_ble_eq_true rfl) rfl)) ?_
    obtain ⟨x3, h4, h⟩ := bS h
    refine s_op rfl rfl (ops_call rfl rfl rfl rfl (ACallD.pure0 (w_language_states h4)) ?_)
    refine sm rfl rfl ?_
    refine s_nil ?_
    obtain ⟨x5, h6, h⟩ := bS h
    by_cases hg7 : x5.2 = true
    · have h := ifT hg7 h
      refine y_op rfl rfl rfl rfl (o_callA rfl rfl rfl rfl (c_listT h6 hg7 fun i8 v9 es10 hes11 => ?_) )
      refine b_nil ?_
      refine y_st 10 rfl rfl ?_
      refine sm rfl rfl ?_
      refine sv rfl (v_extract rfl rfl) ?_
      refine sv rfl (v_extract rfl rfl) ?_
      refine sm rfl rfl ?_
      refine sm rfl rfl ?_
      refine s_nil ?_
      refine y_nil rfl (hK _ (AW.to (to_le (s' := ⟨[(7, HV.mp i8 v9), (8, HV.bool true)], [(i8, v9, .map es10)]⟩) (AS.le_of ⟨rfl, rfl, trivial⟩ ⟨hget_0, trivial⟩) ?_)))
      clear hK K
      refine AW.seq ?_
      refine AW.rgs rfl fun K hK => ?_
      refine mv rfl rfl ?_
      refine bv rfl (v_not rfl) ?_
      refine b_nil (hK _ (AW.to (to_le (s' := ⟨[(7, HV.mp i8 v9), (24, HV.bool false)], [(i8, v9, .map es10)]⟩) (AS.le_of ⟨rfl, rfl, trivial⟩ ⟨hget_0, trivial⟩) ?_)))
      clear hK K
      refine AW.cond rfl (fun hc => by cases hc) (fun _ => ?_)
      refine AW.skip ?_
      refine AW.rgs rfl fun K hK => ?_
      refine mv rfl rfl ?_
      refine b_op rfl (o_callK [(i8, v9, .map es10)] rfl rfl rfl rfl (fun K hK => w82 hK) ?_)
      refine b_op rfl (o_callK (q := slE eStr (sortS ((x5.1).map Prod.fst))) [] rfl rfl rfl rfl (fun K hK => c_sortedKeys hes11 hK) ?_)
      refine mv rfl rfl ?_
      refine mv rfl rfl ?_
      refine b_nil (hK _ (AW.to (to_le (s' := ⟨[(4, slE eStr (sortS ((x5.1).map Prod.fst))), (5, HV.int .i64 0)], []⟩) (AS.le_of ⟨rfl, rfl, trivial⟩ trivial) ?_)))
      clear hK K
      refine AW.ret ?_
      have h := Option.some.inj h
      subst h
      exact ret_pure (hs := [slE eStr (sortS ((x5.1).map Prod.fst)), HV.int .i64 0]) (q := HV.tup [slE eStr (sortS ((x5.1).map Prod.fst)), HV.int .i64 0]) (.inr rfl) (resT rfl (resT rfl rfl)) rfl ⟨(clean_slE fun _ _ => ⟨trivial, trivial⟩), trivial, trivial⟩
    · have h := ifF hg7 h
      refine y_op rfl rfl rfl rfl (o_callA rfl rfl rfl rfl (c_listF h6 hg7 ?_) )
      refine b_nil ?_
      refine y_st 10 rfl rfl ?_
      refine sm rfl rfl ?_
      refine sv rfl (v_extract rfl rfl) ?_
      refine sv rfl (v_extract rfl rfl) ?_
      refine sm rfl rfl ?_
      refine sm rfl rfl ?_
      refine s_nil ?_
      refine y_nil rfl (hK _ (AW.to (to_le (s' := ⟨[(7, HV.v (.map none)), (8, HV.bool false)], []⟩) (AS.le_of ⟨rfl, rfl, trivial⟩ trivial) ?_)))
      clear hK K
      refine AW.seq ?_
      refine AW.rgs rfl fun K hK => ?_
      refine mv rfl rfl ?_
      refine bv rfl (v_not rfl) ?_
      refine b_nil (hK _ (AW.to (to_le (s' := ⟨[(7, HV.v (.map none)), (24, HV.bool true)], []⟩) (AS.le_of ⟨rfl, rfl, trivial⟩ trivial) ?_)))
      clear hK K
      refine AW.cond rfl (fun _ => ?_) (fun hc => by cases hc)
      refine AW.rgs rfl fun K hK => ?_
      refine mv rfl rfl ?_
      refine mv rfl rfl ?_
      refine b_nil (hK _ (AW.to (to_le (s' := ⟨[(4, HV.v (.slice none 0 0)), (5, HV.int .i64 4)], []⟩) (AS.le_of ⟨rfl, rfl, trivial⟩ trivial) ?_)))
      clear hK K
      refine AW.to (to_weak ⟨[(4, slE eStr ([] : List (List UInt8))), (5, HV.int .i64 4)], []⟩ ⟨⟨_, rfl, .nil _⟩, ⟨_, rfl, .refl _⟩, trivial⟩ trivial ?_)
      refine AW.ret ?_
      have h := Option.some.inj h
      subst h
      exact ret_pure (hs := [slE eStr ([] : List (List UInt8)), HV.int .i64 4]) (q := HV.tup [slE eStr ([] : List (List UInt8)), HV.int .i64 4]) (.inr rfl) (resT rfl (resT rfl rfl)) rfl ⟨(clean_slE fun _ _ => ⟨trivial, trivial⟩), trivial, trivial⟩

set_option maxHeartbeats 1600000 in
set_option maxRecDepth 100000 in
theorem w_law11_golden  {r : TLabelsStatesEdges} (h : m_law11_golden  = some r) : Pure Tryz.prog 20 [] (· = HV.agg [HV.int .i64 r.1, HV.int .i64 r.2.1, slE eFromLabelTo r.2.2]) := by
  unfold m_law11_golden at h
  refine Pure.of_body Tryz.func20 rfl rfl (Nat.le_of_ble_eq_true rfl) fun hf => ?_
  unfold Tryz.f20
  dsimp only [enumS, Nat.reduceAdd]
  refine AW.rgs rfl fun K hK => ?_
  refine b_op rfl (o_alloc (fid := 20) (zs := [HV.int .i64 0, HV.int .i64 0, HV.v (.slice none 0 0)]) 20000 rfl rfl ty24 rfl (fun v1 => ?_))
  refine b_nil (hK _ (AW.to (to_le (s' := ⟨[(0, HV.ptr 20000 v1 0)], [(20000, v1, .arr 3 24 [HV.int .i64 0, HV.int .i64 0, HV.v (.slice none 0 0)])]⟩) (AS.le_of ⟨rfl, trivial⟩ ⟨rfl, trivial⟩) ?_)))
  clear hK K
  refine AW.rgs rfl fun K hK => ?_
  refine b_op rfl (o_build (cs := [HV.int .i64 0, HV.int .i64 0, HV.int .i64 0]) rfl (bl_of ty68 rfl rfl rfl rfl) ?_)
  refine b_op rfl (o_build (cs := [HV.int .i64 0, HV.int .i64 1, HV.int .i64 1]) rfl (bl_of ty68 rfl rfl rfl rfl) ?_)
  refine b_op rfl (o_build (cs := [HV.int .i64 1, HV.int .i64 0, HV.int .i64 0]) rfl (bl_of ty68 rfl rfl rfl rfl) ?_)
  refine b_op rfl (o_bsl rfl rfl (as_of (cs := [HV.int .i64 0, HV.int .i64 0, HV.int .i64 0, HV.int .i64 0, HV.int .i64 1, HV.int .i64 1, HV.int .i64 1, HV.int .i64 0, HV.int .i64 0]) ty22 ty68 rfl rfl rfl rfl rfl) ?_)
  refine b_op rfl (o_build (cs := [HV.int .i64 2, HV.int .i64 2, slE eFromLabelTo [(0, 0, 0), (0, 1, 1), (1, 0, 0)]]) rfl (bl_of ty24 rfl rfl rfl rfl) ?_)
  refine b_op rfl (o_store (cs := [HV.int .i64 2, HV.int .i64 2, slE eFromLabelTo [(0, 0, 0), (0, 1, 1), (1, 0, 0)]]) (zs := [HV.int .i64 2, HV.int .i64 2, slE eFromLabelTo [(0, 0, 0), (0, 1, 1), (1, 0, 0)]]) rfl rfl rfl ty24 rfl rfl rfl rfl rfl ?_)
  refine b_nil (hK _ (AW.to (to_le (s' := ⟨[(0, HV.ptr 20000 v1 0)], [(20000, v1, .arr 3 24 [HV.int .i64 2, HV.int .i64 2, slE eFromLabelTo [(0, 0, 0), (0, 1, 1), (1, 0, 0)]])]⟩) (AS.le_of ⟨rfl, trivial⟩ ⟨rfl, trivial⟩) ?_)))
  clear hK K
  refine AW.ret ?_
  have h := Option.some.inj h
  subst h
  exact ret_pure (hs := [HV.agg [HV.int .i64 2, HV.int .i64 2, slE eFromLabelTo [(0, 0, 0), (0, 1, 1), (1, 0, 0)]]]) (q := HV.agg [HV.int .i64 2, HV.int .i64 2, slE eFromLabelTo [(0, 0, 0), (0, 1, 1), (1, 0, 0)]]) (.inr rfl) (resP ty24 rfl rfl (l_litA rfl (Nat.le_of_ble_eq_true rfl) rfl) rfl) rfl ⟨trivial, trivial, (clean_slE fun _ _ => ⟨trivial, trivial, trivial, trivial⟩), trivial⟩

set_option maxHeartbeats 1600000 in
set_option maxRecDepth 100000 in
theorem w_language_Missing {p0 : TLabelsStatesEdges} {p1 : Int} {r : (List UInt8) × Bool × Int} (h : m_language_Missing p0 p1 = some r) : Pure Tryz.prog 21 [HV.agg [HV.int .i64 p0.1, HV.int .i64 p0.2.1, slE eFromLabelTo p0.2.2], HV.int .i64 p1] (· = HV.tup [HV.str r.1, HV.bool r.2.1, HV.int .i64 r.2.2]) := by
  unfold m_language_Missing at h
  refine Pure.of_body Tryz.func21 rfl rfl (Nat.le_of_ble_eq_true rfl) fun hf => ?_
  unfold Tryz.f21
  dsimp only [enumS, Nat.reduceAdd]
  refine AW.rgs rfl fun K hK => ?_
  refine b_op rfl (o_box rfl rfl rfl ?_)
  refine mv rfl rfl ?_
  refine mv rfl rfl ?_
  refine mv rfl rfl ?_
  refine b_nil (hK _ (AW.to (to_le (s' := ⟨[(1, HV.int .i64 p1), (2, HV.fptr [HV.int .i64 p0.1, HV.int .i64 p0.2.1, slE eFromLabelTo p0.2.2] 0)], []⟩) (AS.le_of ⟨rfl, rfl, trivial⟩ trivial) ?_)))
  clear hK K
  refine AW.seq ?_
  refine AW.rgs rfl fun K hK => ?_
  refine bv rfl (v_loadF ty24 rfl (l_litA rfl (Nat.le_of_ble_eq_true rfl) rfl)) ?_
  refine mv rfl rfl ?_
  obtain ⟨x1, h2, h⟩ := bS h
  refine b_op rfl (o_call rfl rfl rfl rfl (ACallD.pure0 (w_language_lengths h2)) ?_)
  refine mv rfl rfl ?_
  refine b_nil (hK _ (AW.to (to_le (s' := ⟨[(1, HV.int .i64 p1), (2, HV.fptr [HV.int .i64 p0.1, HV.int .i64 p0.2.1, slE eFromLabelTo p0.2.2] 0), (7, HV.int .i64 x1)], []⟩) (AS.le_of ⟨rfl, rfl, rfl, trivial⟩ trivial) ?_)))
  clear hK K
  refine AW.rgs rfl fun K hK => ?_
  refine mv rfl rfl ?_
  refine bv rfl (v_bin rfl rfl b_neq) ?_
  refine b_nil (hK _ (AW.to (to_le (s' := ⟨[(1, HV.int .i64 p1), (2, HV.fptr [HV.int .i64 p0.1, HV.int .i64 p0.2.1, slE eFromLabelTo p0.2.2] 0), (7, HV.int .i64 x1), (22, HV.bool (decide (x1 ≠ 0)))], []⟩) (AS.le_of ⟨rfl, rfl, rfl, rfl, trivial⟩ trivial) ?_)))
  clear hK K
  refine AW.cond rfl (fun hc => ?_) (fun hc => ?_)
  · have hc := of_decide_eq_true hc
    have h := ifT hc h
    refine AW.rgs rfl fun K hK => ?_
    refine mv rfl rfl ?_
    refine mv rfl rfl ?_
    refine mv rfl rfl ?_
    refine mv rfl rfl ?_
    refine b_nil (hK _ (AW.to (to_le (s' := ⟨[(4, HV.str ([] : List UInt8)), (5, HV.bool false), (6, HV.int .i64 x1)], []⟩) (AS.le_of ⟨rfl, rfl, rfl, trivial⟩ trivial) ?_)))
    clear hK K
    refine AW.ret ?_
    have h := Option.some.inj h
    subst h
    exact ret_pure (hs := [HV.str ([] : List UInt8), HV.bool false, HV.int .i64 x1]) (q := HV.tup [HV.str ([] : List UInt8), HV.bool false, HV.int .i64 x1]) (.inr rfl) (resT rfl (resT rfl (resT rfl rfl))) rfl ⟨trivial, trivial, trivial, trivial⟩
  · have hc := of_decide_eq_false hc
    have h := ifF hc h
    refine AW.skip ?_
    refine AW.rgs rfl fun K hK => ?_
    refine bv rfl (v_loadF ty24 rfl (l_litA rfl (Nat.le_of_ble_eq_true rfl) rfl)) ?_
    obtain ⟨x3, h4, h⟩ := bS h
    refine b_op rfl (o_call rfl rfl rfl rfl (ACallD.pure0 (w_language_states h4)) ?_)
    refine mv rfl rfl ?_
    refine b_nil (hK _ (AW.to (to_le (s' := ⟨[(1, HV.int .i64 p1), (2, HV.fptr [HV.int .i64 p0.1, HV.int .i64 p0.2.1, slE eFromLabelTo p0.2.2] 0), (8, slE eInt x3)], []⟩) (AS.le_of ⟨rfl, rfl, rfl, trivial⟩ trivial) ?_)))
    clear hK K
    refine AW.seq ?_
    refine AW.rgs rfl fun K hK => ?_
    refine mv rfl rfl ?_
    refine bv rfl (v_lenF rfl rfl ty25 rfl) ?_
    refine bv rfl (v_bin rfl rfl b_eql) ?_
    refine b_nil (hK _ (AW.to (to_le (s' := ⟨[(1, HV.int .i64 p1), (2, HV.fptr [HV.int .i64 p0.1, HV.int .i64 p0.2.1, slE eFromLabelTo p0.2.2] 0), (8, slE eInt x3), (28, HV.bool (decide (((x3).length : Int) = 0)))], []⟩) (AS.le_of ⟨rfl, rfl, rfl, rfl, trivial⟩ trivial) ?_)))
    clear hK K
    refine AW.cond rfl (fun hc => ?_) (fun hc => ?_)
    · have hc := of_decide_eq_true hc
      have h := ifT hc h
      refine AW.rgs rfl fun K hK => ?_
      refine mv rfl rfl ?_
      refine mv rfl rfl ?_
      refine mv rfl rfl ?_
      refine b_nil (hK _ (AW.to (to_le (s' := ⟨[(4, HV.str ([] : List UInt8)), (5, HV.bool true), (6, HV.int .i64 0)], []⟩) (AS.le_of ⟨rfl, rfl, rfl, trivial⟩ trivial) ?_)))
      clear hK K
      refine AW.ret ?_
      have h := Option.some.inj h
      subst h
      exact ret_pure (hs := [HV.str ([] : List UInt8), HV.bool true, HV.int .i64 0]) (q := HV.tup [HV.str ([] : List UInt8), HV.bool true, HV.int .i64 0]) (.inr rfl) (resT rfl (resT rfl (resT rfl rfl))) rfl ⟨trivial, trivial, trivial, trivial⟩
    · have hc := of_decide_eq_false hc
      have h := ifF hc h
      refine AW.skip ?_
      refine AW.rgs rfl fun K hK => ?_
      refine b_op rfl (o_bsl rfl rfl (as_of (cs := [HV.str ([] : List UInt8)]) ty38 ty9 rfl rfl rfl rfl rfl) ?_)
      refine mv rfl rfl ?_
      refine b_nil (hK _ (AW.to (to_le (s' := ⟨[(1, HV.int .i64 p1), (2, HV.fptr [HV.int .i64 p0.1, HV.int .i64 p0.2.1, slE eFromLabelTo p0.2.2] 0), (8, slE eInt x3), (9, slE eStr [([] : List UInt8)])], []⟩) (AS.le_of ⟨rfl, rfl, rfl, rfl, trivial⟩ trivial) ?_)))
      clear hK K
      refine AW.rgs rfl fun K hK => ?_
      refine b_op rfl (o_makeMap (fid := 21) (slE eInt) 21030 rfl rfl (fun v5 => ?_))
      refine mv rfl rfl ?_
      refine b_op rfl (o_mapSet (slE eInt) (es := ([] : List (List UInt8 × (List (Int))))) (k := ([] : List UInt8)) (v := x3) (.inr rfl) ty74 ty9 rfl rfl rfl rfl trivial ?_)
      refine mv rfl rfl ?_
      refine mv rfl rfl ?_
      refine b_nil (hK _ (AW.to (to_le (s' := ⟨[(1, HV.int .i64 p1), (2, HV.fptr [HV.int .i64 p0.1, HV.int .i64 p0.2.1, slE eFromLabelTo p0.2.2] 0), (9, slE eStr [([] : List UInt8)]), (10, HV.mp 21030 v5)], [(21030, v5, .map (entE (slE eInt) (mputN ([] : List UInt8) x3 ([] : List (List UInt8 × (List (Int)))))))]⟩) (AS.le_of ⟨rfl, rfl, rfl, rfl, trivial⟩ ⟨rfl, trivial⟩) ?_)))
      clear hK K
      refine AW.seq ?_
      refine AW.rgs rfl fun K hK => ?_
      refine mv rfl rfl ?_
      refine mv rfl rfl ?_
      refine b_nil (hK _ (AW.to (to_le (s' := ⟨[(2, HV.fptr [HV.int .i64 p0.1, HV.int .i64 p0.2.1, slE eFromLabelTo p0.2.2] 0), (9, slE eStr [([] : List UInt8)]), (10, HV.mp 21030 v5), (33, HV.int .i64 p1), (34, HV.int .i64 0)], [(21030, v5, .map (entE (slE eInt) (mputN ([] : List UInt8) x3 ([] : List (List UInt8 × (List (Int)))))))]⟩) (AS.le_of ⟨rfl, rfl, rfl, rfl, rfl, trivial⟩ ⟨rfl, trivial⟩) ?_)))
      clear hK K
      refine AW.lpR h (by first | exact up_then | exact up_to) (S := (List (List UInt8)) × Int × (List (List UInt8 × (List (Int))))) (V := Unit) (fun a v => ⟨[(2, HV.fptr [HV.int .i64 p0.1, HV.int .i64 p0.2.1, slE eFromLabelTo p0.2.2] 0), (9, slE eStr a.1), (10, HV.mp 21030 v5), (33, HV.int .i64 p1), (34, HV.int .i64 a.2.1)], [(21030, v5, .map (entE (slE eInt) a.2.2))]⟩) ?_ (X := Unit) (W := Unit) (fun a v => ⟨[], []⟩) (fun a35 w36 h => ?_) (fun a6 w7 st8 h hr9=> ?_)
      · exact to_le (s' := ⟨[(2, HV.fptr [HV.int .i64 p0.1, HV.int .i64 p0.2.1, slE eFromLabelTo p0.2.2] 0), (9, slE eStr [([] : List UInt8)]), (10, HV.mp 21030 v5), (33, HV.int .i64 p1), (34, HV.int .i64 0)], [(21030, v5, .map (entE (slE eInt) (mputN ([] : List UInt8) x3 ([] : List (List UInt8 × (List (Int)))))))]⟩) (AS.le_of ⟨rfl, rfl, rfl, rfl, rfl, trivial⟩ ⟨rfl, trivial⟩) ⟨(), rfl⟩
      · refine AW.rgs rfl fun K hK => ?_
        refine mv rfl rfl ?_
        refine mv rfl rfl ?_
        refine mv rfl rfl ?_
        refine b_nil (hK _ (AW.to (to_le (s' := ⟨[(4, HV.str ([] : List UInt8)), (5, HV.bool false), (6, HV.int .i64 0)], []⟩) (AS.le_of ⟨rfl, rfl, rfl, trivial⟩ trivial) ?_)))
        clear hK K
        refine AW.ret ?_
        have h := Option.some.inj h
        subst h
        exact ret_pure (hs := [HV.str ([] : List UInt8), HV.bool false, HV.int .i64 0]) (q := HV.tup [HV.str ([] : List UInt8), HV.bool false, HV.int .i64 0]) (.inr rfl) (resT rfl (resT rfl (resT rfl rfl))) rfl ⟨trivial, trivial, trivial, trivial⟩
      · refine AW.rgs rfl fun K hK => ?_
        refine bv rfl (v_bin rfl rfl b_lss) ?_
        refine b_nil (hK _ (AW.to (to_le (s' := ⟨[(2, HV.fptr [HV.int .i64 p0.1, HV.int .i64 p0.2.1, slE eFromLabelTo p0.2.2] 0), (9, slE eStr a6.1), (10, HV.mp 21030 v5), (33, HV.int .i64 p1), (34, HV.int .i64 a6.2.1), (35, HV.bool (decide (a6.2.1 < p1)))], [(21030, v5, .map (entE (slE eInt) a6.2.2))]⟩) (AS.le_of ⟨rfl, rfl, rfl, rfl, rfl, rfl, trivial⟩ ⟨rfl, trivial⟩) ?_)))
        clear hK K
        refine AW.cseq rfl (fun hc => ?_) (fun hc => ?_)
        · have hc := of_decide_eq_true hc
          have h := ifT hc h
          refine AW.skip ?_
          refine AW.seq (AW.block ?_)
          refine AW.rgs rfl fun K hK => ?_
          refine mv rfl rfl ?_
          refine b_nil (hK _ (AW.to (to_le (s' := ⟨[(2, HV.fptr [HV.int .i64 p0.1, HV.int .i64 p0.2.1, slE eFromLabelTo p0.2.2] 0), (9, slE eStr a6.1), (10, HV.mp 21030 v5), (11, HV.v (.slice none 0 0)), (33, HV.int .i64 p1), (34, HV.int .i64 a6.2.1)], [(21030, v5, .map (entE (slE eInt) a6.2.2))]⟩) (AS.le_of ⟨rfl, rfl, rfl, rfl, rfl, rfl, trivial⟩ ⟨rfl, trivial⟩) ?_)))
          clear hK K
          refine AW.seq ?_
          refine AW.rgs rfl fun K hK => ?_
          refine mv rfl rfl ?_
          refine bv rfl (v_lenF rfl rfl ty38 rfl) ?_
          refine mv rfl rfl ?_
          refine b_nil (hK _ (AW.to (to_le (s' := ⟨[(2, HV.fptr [HV.int .i64 p0.1, HV.int .i64 p0.2.1, slE eFromLabelTo p0.2.2] 0), (10, HV.mp 21030 v5), (11, HV.v (.slice none 0 0)), (33, HV.int .i64 p1), (34, HV.int .i64 a6.2.1), (36, slE eStr a6.1), (37, HV.int .i64 ((a6.1).length : Int)), (38, HV.int .i64 0)], [(21030, v5, .map (entE (slE eInt) a6.2.2))]⟩) (AS.le_of ⟨rfl, rfl, rfl, rfl, rfl, rfl, rfl, rfl, trivial⟩ ⟨rfl, trivial⟩) ?_)))
          clear hK K
          refine AW.lpR h (by first | exact up_then | exact up_to) (S := Int × (List (List UInt8 × (List (Int)))) × (List (List UInt8))) (V := Nat) (fun a v => ⟨[(2, HV.fptr [HV.int .i64 p0.1, HV.int .i64 p0.2.1, slE eFromLabelTo p0.2.2] 0), (10, HV.mp 21030 v5), (11, HV.ar 21071 v eStr.k 0 ((a.2.2).length)), (33, HV.int .i64 p1), (34, HV.int .i64 a6.2.1), (36, slE eStr a6.1), (37, HV.int .i64 ((a6.1).length : Int)), (38, HV.int .i64 a.1)], [(21030, v5, .map (entE (slE eInt) a.2.1)), (21071, v, .arr eStr.k 9 (eStr.E a.2.2))]⟩) ?_ (X := (List (List UInt8 × (List (Int)))) × (List (List UInt8))) (W := Nat) (fun a v => ⟨[(2, HV.fptr [HV.int .i64 p0.1, HV.int .i64 p0.2.1, slE eFromLabelTo p0.2.2] 0), (10, HV.mp 21030 v5), (11, HV.ar 21071 v eStr.k 0 ((a.2).length)), (33, HV.int .i64 p1), (34, HV.int .i64 a6.2.1)], [(21030, v5, .map (entE (slE eInt) a.1)), (21071, v, .arr eStr.k 9 (eStr.E a.2))]⟩) (fun a33 w34 h => ?_) (fun a10 w11 st12 h hr13=> ?_)
          · refine to_bind (to_own 21071 11 eStr.k 9 rfl fun v32 => ?_)
            exact to_le (s' := ⟨[(2, HV.fptr [HV.int .i64 p0.1, HV.int .i64 p0.2.1, slE eFromLabelTo p0.2.2] 0), (10, HV.mp 21030 v5), (11, HV.ar 21071 v32 eStr.k 0 ((([] : List (List UInt8))).length)), (33, HV.int .i64 p1), (34, HV.int .i64 a6.2.1), (36, slE eStr a6.1), (37, HV.int .i64 ((a6.1).length : Int)), (38, HV.int .i64 0)], [(21030, v5, .map (entE (slE eInt) a6.2.2)), (21071, v32, .arr eStr.k 9 (eStr.E ([] : List (List UInt8))))]⟩) (AS.le_of ⟨rfl, rfl, arl (by first | rfl | simp only [List.length_set, sortI_len, sortS_len]), rfl, rfl, rfl, rfl, rfl, trivial⟩ ⟨rfl, rfl, trivial⟩) ⟨v32, rfl⟩
          · refine AW.seq ?_
            refine AW.rgs rfl fun K hK => ?_
            refine mv rfl rfl ?_
            refine bv rfl (v_lenA rfl rfl ty38 rfl rfl) ?_
            refine bv rfl (v_bin rfl rfl b_gtr) ?_
            refine b_nil (hK _ (AW.to (to_le (s' := ⟨[(2, HV.fptr [HV.int .i64 p0.1, HV.int .i64 p0.2.1, slE eFromLabelTo p0.2.2] 0), (10, HV.mp 21030 v5), (11, HV.ar 21071 w34 eStr.k 0 ((a33.2).length)), (33, HV.int .i64 p1), (34, HV.int .i64 a6.2.1), (77, HV.bool (decide (4096 < (((a33.2).length : Nat) : Int))))], [(21030, v5, .map (entE (slE eInt) a33.1)), (21071, w34, .arr eStr.k 9 (eStr.E a33.2))]⟩) (AS.le_of ⟨rfl, rfl, rfl, rfl, rfl, rfl, trivial⟩ ⟨rfl, rfl, trivial⟩) ?_)))
            clear hK K
            refine AW.cond rfl (fun hc => ?_) (fun hc => ?_)
            · have hc := of_decide_eq_true hc
              have h := ifT hc h
              refine AW.rgs rfl fun K hK => ?_
              refine mv rfl rfl ?_
              refine mv rfl rfl ?_
              refine mv rfl rfl ?_
              refine b_nil (hK _ (AW.to (to_le (s' := ⟨[(4, HV.str ([] : List UInt8)), (5, HV.bool false), (6, HV.int .i64 4)], []⟩) (AS.le_of ⟨rfl, rfl, rfl, trivial⟩ trivial) ?_)))
              clear hK K
              have h := hr9 _ h
              refine AW.ret ?_
              have h := Option.some.inj h
              subst h
              exact ret_pure (hs := [HV.str ([] : List UInt8), HV.bool false, HV.int .i64 4]) (q := HV.tup [HV.str ([] : List UInt8), HV.bool false, HV.int .i64 4]) (.inr rfl) (resT rfl (resT rfl (resT rfl rfl))) rfl ⟨trivial, trivial, trivial, trivial⟩
            · have hc := of_decide_eq_false hc
              have h := ifF hc h
              refine AW.skip ?_
              refine AW.rg rfl fun K hK => ?_
              refine mv rfl rfl ?_
              refine mv rfl rfl ?_
              refine b_nil (hK _ (AW.to (to_le (s' := ⟨[(2, HV.fptr [HV.int .i64 p0.1, HV.int .i64 p0.2.1, slE eFromLabelTo p0.2.2] 0), (9, HV.ar 21071 w34 eStr.k 0 ((a33.2).length)), (10, HV.mp 21030 v5), (33, HV.int .i64 p1), (34, HV.int .i64 a6.2.1)], [(21030, v5, .map (entE (slE eInt) a33.1)), (21071, w34, .arr eStr.k 9 (eStr.E a33.2))]⟩) (AS.le_of ⟨rfl, rfl, rfl, rfl, rfl, trivial⟩ ⟨rfl, rfl, trivial⟩) ?_)))
              clear hK K
              refine AW.rg rfl fun K hK => ?_
              refine bv rfl (v_bin rfl rfl b_add) ?_
              refine mv rfl rfl ?_
              refine b_nil (hK _ ?_)
              clear hK K
              refine to_bind (to_frz 2 [(21071, w34, .arr eStr.k 9 (eStr.E a33.2))] ⟨[(2, HV.fptr [HV.int .i64 p0.1, HV.int .i64 p0.2.1, slE eFromLabelTo p0.2.2] 0), (9, slE eStr a33.2), (10, HV.mp 21030 v5), (33, HV.int .i64 p1), (34, HV.int .i64 (IntKind.wrap .i64 (a6.2.1 + 1)))], [(21030, v5, .map (entE (slE eInt) a33.1))]⟩ ⟨⟨_, rfl, rfl⟩, ⟨_, rfl, frz_slE eStr (l := a33.2) rfl fun _ _ => rfl⟩, ⟨_, rfl, rfl⟩, ⟨_, rfl, rfl⟩, ⟨_, rfl, rfl⟩, trivial⟩ ⟨rfl, trivial⟩ ⟨rfl, trivial⟩ ⟨rfl, trivial⟩ ?_)
              exact to_le (s' := ⟨[(2, HV.fptr [HV.int .i64 p0.1, HV.int .i64 p0.2.1, slE eFromLabelTo p0.2.2] 0), (9, slE eStr a33.2), (10, HV.mp 21030 v5), (33, HV.int .i64 p1), (34, HV.int .i64 (IntKind.wrap .i64 (a6.2.1 + 1)))], [(21030, v5, .map (entE (slE eInt) a33.1))]⟩) (AS.le_of ⟨rfl, rfl, rfl, rfl, rfl, trivial⟩ ⟨rfl, trivial⟩) ⟨(a33.2, IntKind.wrap .i64 (a6.2.1 + 1), a33.1), (), h, rfl⟩
          · refine AW.rgs rfl fun K hK => ?_
            refine bv rfl (v_bin rfl rfl b_lss) ?_
            refine b_nil (hK _ (AW.to (to_le (s' := ⟨[(2, HV.fptr [HV.int .i64 p0.1, HV.int .i64 p0.2.1, slE eFromLabelTo p0.2.2] 0), (10, HV.mp 21030 v5), (11, HV.ar 21071 w11 eStr.k 0 ((a10.2.2).length)), (33, HV.int .i64 p1), (34, HV.int .i64 a6.2.1), (36, slE eStr a6.1), (37, HV.int .i64 ((a6.1).length : Int)), (38, HV.int .i64 a10.1), (39, HV.bool (decide (a10.1 < ((a6.1).length : Int))))], [(21030, v5, .map (entE (slE eInt) a10.2.1)), (21071, w11, .arr eStr.k 9 (eStr.E a10.2.2))]⟩) (AS.le_of ⟨rfl, rfl, rfl, rfl, rfl, rfl, rfl, rfl, rfl, trivial⟩ ⟨rfl, rfl, trivial⟩) ?_)))
            clear hK K
            refine AW.cseq rfl (fun hc => ?_) (fun hc => ?_)
            · have hc := of_decide_eq_true hc
              have h := ifT hc h
              refine AW.skip ?_
              refine AW.seq (AW.block ?_)
              refine AW.rgs rfl fun K hK => ?_
              obtain ⟨x14, h15, h⟩ := bS h
              refine bv rfl (v_idxF ty38 es38 rfl rfl (idx_lt h15)) ?_
              refine bv rfl (v_loadF ty9 rfl (l_cell eStr h15 (o := 0) rfl rfl)) ?_
              refine mv rfl rfl ?_
              refine b_nil (hK _ (AW.to (to_le (s' := ⟨[(2, HV.fptr [HV.int .i64 p0.1, HV.int .i64 p0.2.1, slE eFromLabelTo p0.2.2] 0), (10, HV.mp 21030 v5), (11, HV.ar 21071 w11 eStr.k 0 ((a10.2.2).length)), (13, HV.str x14), (33, HV.int .i64 p1), (34, HV.int .i64 a6.2.1), (36, slE eStr a6.1), (37, HV.int .i64 ((a6.1).length : Int)), (38, HV.int .i64 a10.1)], [(21030, v5, .map (entE (slE eInt) a10.2.1)), (21071, w11, .arr eStr.k 9 (eStr.E a10.2.2))]⟩) (AS.le_of ⟨rfl, rfl, rfl, rfl, rfl, rfl, rfl, rfl, rfl, trivial⟩ ⟨rfl, rfl, trivial⟩) ?_)))
              clear hK K
              refine AW.rgs rfl fun K hK => ?_
              refine bv rfl (v_fieldAddrF fo24_0 rfl) ?_
              refine bv rfl (v_loadF ty3 rfl (l_lit rfl rfl)) ?_
              refine mv rfl rfl ?_
              refine b_nil (hK _ (AW.to (to_le (s' := ⟨[(2, HV.fptr [HV.int .i64 p0.1, HV.int .i64 p0.2.1, slE eFromLabelTo p0.2.2] 0), (10, HV.mp 21030 v5), (11, HV.ar 21071 w11 eStr.k 0 ((a10.2.2).length)), (13, HV.str x14), (33, HV.int .i64 p1), (34, HV.int .i64 a6.2.1), (36, slE eStr a6.1), (37, HV.int .i64 ((a6.1).length : Int)), (38, HV.int .i64 a10.1), (43, HV.int .i64 p0.1), (44, HV.int .i64 0)], [(21030, v5, .map (entE (slE eInt) a10.2.1)), (21071, w11, .arr eStr.k 9 (eStr.E a10.2.2))]⟩) (AS.le_of ⟨rfl, rfl, rfl, rfl, rfl, rfl, rfl, rfl, rfl, rfl, rfl, trivial⟩ ⟨rfl, rfl, trivial⟩) ?_)))
              clear hK K
              refine AW.lpR h (by first | exact up_then | exact up_to) (S := Int × (List (List UInt8 × (List (Int)))) × (List (List UInt8))) (V := Nat) (fun a v => ⟨[(2, HV.fptr [HV.int .i64 p0.1, HV.int .i64 p0.2.1, slE eFromLabelTo p0.2.2] 0), (10, HV.mp 21030 v5), (11, HV.ar 21071 v eStr.k 0 ((a.2.2).length)), (13, HV.str x14), (33, HV.int .i64 p1), (34, HV.int .i64 a6.2.1), (36, slE eStr a6.1), (37, HV.int .i64 ((a6.1).length : Int)), (38, HV.int .i64 a10.1), (43, HV.int .i64 p0.1), (44, HV.int .i64 a.1)], [(21030, v5, .map (entE (slE eInt) a.2.1)), (21071, v, .arr eStr.k 9 (eStr.E a.2.2))]⟩) ?_ (X := (List (List UInt8 × (List (Int)))) × (List (List UInt8))) (W := Nat) (fun a v => ⟨[(2, HV.fptr [HV.int .i64 p0.1, HV.int .i64 p0.2.1, slE eFromLabelTo p0.2.2] 0), (10, HV.mp 21030 v5), (11, HV.ar 21071 v eStr.k 0 ((a.2).length)), (33, HV.int .i64 p1), (34, HV.int .i64 a6.2.1), (36, slE eStr a6.1), (37, HV.int .i64 ((a6.1).length : Int)), (38, HV.int .i64 a10.1)], [(21030, v5, .map (entE (slE eInt) a.1)), (21071, v, .arr eStr.k 9 (eStr.E a.2))]⟩) (fun a30 w31 h => ?_) (fun a16 w17 st18 h hr19=> ?_)
              · exact to_le (s' := ⟨[(2, HV.fptr [HV.int .i64 p0.1, HV.int .i64 p0.2.1, slE eFromLabelTo p0.2.2] 0), (10, HV.mp 21030 v5), (11, HV.ar 21071 w11 eStr.k 0 ((a10.2.2).length)), (13, HV.str x14), (33, HV.int .i64 p1), (34, HV.int .i64 a6.2.1), (36, slE eStr a6.1), (37, HV.int .i64 ((a6.1).length : Int)), (38, HV.int .i64 a10.1), (43, HV.int .i64 p0.1), (44, HV.int .i64 0)], [(21030, v5, .map (entE (slE eInt) a10.2.1)), (21071, w11, .arr eStr.k 9 (eStr.E a10.2.2))]⟩) (AS.le_of ⟨rfl, rfl, rfl, rfl, rfl, rfl, rfl, rfl, rfl, rfl, rfl, trivial⟩ ⟨rfl, rfl, trivial⟩) ⟨w11, rfl⟩
              · refine AW.rg rfl fun K hK => ?_
                refine bv rfl (v_bin rfl rfl b_add) ?_
                refine mv rfl rfl ?_
                refine b_nil (hK _ ?_)
                clear hK K
                exact to_le (s' := ⟨[(2, HV.fptr [HV.int .i64 p0.1, HV.int .i64 p0.2.1, slE eFromLabelTo p0.2.2] 0), (10, HV.mp 21030 v5), (11, HV.ar 21071 w31 eStr.k 0 ((a30.2).length)), (33, HV.int .i64 p1), (34, HV.int .i64 a6.2.1), (36, slE eStr a6.1), (37, HV.int .i64 ((a6.1).length : Int)), (38, HV.int .i64 (IntKind.wrap .i64 (a10.1 + 1)))], [(21030, v5, .map (entE (slE eInt) a30.1)), (21071, w31, .arr eStr.k 9 (eStr.E a30.2))]⟩) (AS.le_of ⟨rfl, rfl, rfl, rfl, rfl, rfl, rfl, rfl, trivial⟩ ⟨rfl, rfl, trivial⟩) ⟨(IntKind.wrap .i64 (a10.1 + 1), a30.1, a30.2), w31, h, rfl⟩
              · refine AW.rgs rfl fun K hK => ?_
                refine bv rfl (v_bin rfl rfl b_lss) ?_
                refine b_nil (hK _ (AW.to (to_le (s' := ⟨[(2, HV.fptr [HV.int .i64 p0.1, HV.int .i64 p0.2.1, slE eFromLabelTo p0.2.2] 0), (10, HV.mp 21030 v5), (11, HV.ar 21071 w17 eStr.k 0 ((a16.2.2).length)), (13, HV.str x14), (33, HV.int .i64 p1), (34, HV.int .i64 a6.2.1), (36, slE eStr a6.1), (37, HV.int .i64 ((a6.1).length : Int)), (38, HV.int .i64 a10.1), (43, HV.int .i64 p0.1), (44, HV.int .i64 a16.1), (45, HV.bool (decide (a16.1 < p0.1)))], [(21030, v5, .map (entE (slE eInt) a16.2.1)), (21071, w17, .arr eStr.k 9 (eStr.E a16.2.2))]⟩) (AS.le_of ⟨rfl, rfl, rfl, rfl, rfl, rfl, rfl, rfl, rfl, rfl, rfl, rfl, trivial⟩ ⟨rfl, rfl, trivial⟩) ?_)))
                clear hK K
                refine AW.cseq rfl (fun hc => ?_) (fun hc => ?_)
                · have hc := of_decide_eq_true hc
                  have h := ifT hc h
                  refine AW.skip ?_
                  refine AW.seq (AW.block ?_)
                  refine AW.rgs rfl fun K hK => ?_
                  refine mv rfl rfl ?_
                  refine mv rfl rfl ?_
                  refine b_nil (hK _ (AW.to (to_le (s' := ⟨[(2, HV.fptr [HV.int .i64 p0.1, HV.int .i64 p0.2.1, slE eFromLabelTo p0.2.2] 0), (10, HV.mp 21030 v5), (11, HV.ar 21071 w17 eStr.k 0 ((a16.2.2).length)), (13, HV.str x14), (14, HV.int .i64 a16.1), (33, HV.int .i64 p1), (34, HV.int .i64 a6.2.1), (36, slE eStr a6.1), (37, HV.int .i64 ((a6.1).length : Int)), (38, HV.int .i64 a10.1), (43, HV.int .i64 p0.1), (44, HV.int .i64 a16.1)], [(21030, v5, .map (entE (slE eInt) a16.2.1)), (21071, w17, .arr eStr.k 9 (eStr.E a16.2.2))]⟩) (AS.le_of ⟨rfl, rfl, rfl, rfl, rfl, rfl, rfl, rfl, rfl, rfl, rfl, rfl, trivial⟩ ⟨rfl, rfl, trivial⟩) ?_)))
                  clear hK K
                  refine AW.rgs rfl fun K hK => ?_
                  refine mv rfl rfl ?_
                  obtain ⟨x20, h21, h⟩ := bS h
                  refine bv rfl (v_idxS ty9 rfl rfl h21) ?_
                  refine mv rfl rfl ?_
                  refine b_nil (hK _ (AW.to (to_le (s' := ⟨[(2, HV.fptr [HV.int .i64 p0.1, HV.int .i64 p0.2.1, slE eFromLabelTo p0.2.2] 0), (10, HV.mp 21030 v5), (11, HV.ar 21071 w17 eStr.k 0 ((a16.2.2).length)), (13, HV.str x14), (15, HV.int .u8 (x20.toNat : Int)), (33, HV.int .i64 p1), (34, HV.int .i64 a6.2.1), (36, slE eStr a6.1), (37, HV.int .i64 ((a6.1).length : Int)), (38, HV.int .i64 a10.1), (43, HV.int .i64 p0.1), (44, HV.int .i64 a16.1)], [(21030, v5, .map (entE (slE eInt) a16.2.1)), (21071, w17, .arr eStr.k 9 (eStr.E a16.2.2))]⟩) (AS.le_of ⟨rfl, rfl, rfl, rfl, rfl, rfl, rfl, rfl, rfl, rfl, rfl, rfl, trivial⟩ ⟨rfl, rfl, trivial⟩) ?_)))
                  clear hK K
                  refine AW.rgs rfl fun K hK => ?_
                  refine bv rfl (v_loadF ty24 rfl (l_litA rfl (Nat.le_of_ble_eq_true rfl) rfl)) ?_
                  refine mv rfl rfl ?_
                  refine mv rfl rfl ?_
                  obtain ⟨x22, h23, h⟩ := bS h
                  refine b_op rfl (o_look (fid := 21) (slE eInt) (es := a16.2.1) (k := x14) (v := x22) rfl ty74 ty9 ty25 rfl rfl rfl rfl (look_some h23) ?_)
                  refine mv rfl rfl ?_
                  obtain ⟨x24, h25, h⟩ := bS h
                  refine b_op rfl (o_call rfl rfl rfl rfl (ACallD.pure0 (w_language_step h25)) ?_)
                  refine mv rfl rfl ?_
                  refine b_nil (hK _ (AW.to (to_le (s' := ⟨[(2, HV.fptr [HV.int .i64 p0.1, HV.int .i64 p0.2.1, slE eFromLabelTo p0.2.2] 0), (10, HV.mp 21030 v5), (11, HV.ar 21071 w17 eStr.k 0 ((a16.2.2).length)), (13, HV.str x14), (15, HV.int .u8 (x20.toNat : Int)), (16, slE eInt x24), (33, HV.int .i64 p1), (34, HV.int .i64 a6.2.1), (36, slE eStr a6.1), (37, HV.int .i64 ((a6.1).length : Int)), (38, HV.int .i64 a10.1), (43, HV.int .i64 p0.1), (44, HV.int .i64 a16.1)], [(21030, v5, .map (entE (slE eInt) a16.2.1)), (21071, w17, .arr eStr.k 9 (eStr.E a16.2.2))]⟩) (AS.le_of ⟨rfl, rfl, rfl, rfl, rfl, rfl, rfl, rfl, rfl, rfl, rfl, rfl, rfl, trivial⟩ ⟨rfl, rfl, trivial⟩) ?_)))
                  clear hK K
                  refine AW.seq ?_
                  refine AW.rgs rfl fun K hK => ?_
                  refine mv rfl rfl ?_
                  refine bv rfl (v_lenF rfl rfl ty25 rfl) ?_
                  refine bv rfl (v_bin rfl rfl b_eql) ?_
                  refine b_nil (hK _ (AW.to (to_le (s' := ⟨[(2, HV.fptr [HV.int .i64 p0.1, HV.int .i64 p0.2.1, slE eFromLabelTo p0.2.2] 0), (10, HV.mp 21030 v5), (11, HV.ar 21071 w17 eStr.k 0 ((a16.2.2).length)), (13, HV.str x14), (15, HV.int .u8 (x20.toNat : Int)), (16, slE eInt x24), (33, HV.int .i64 p1), (34, HV.int .i64 a6.2.1), (36, slE eStr a6.1), (37, HV.int .i64 ((a6.1).length : Int)), (38, HV.int .i64 a10.1), (43, HV.int .i64 p0.1), (44, HV.int .i64 a16.1), (57, HV.bool (decide (((x24).length : Int) = 0)))], [(21030, v5, .map (entE (slE eInt) a16.2.1)), (21071, w17, .arr eStr.k 9 (eStr.E a16.2.2))]⟩) (AS.le_of ⟨rfl, rfl, rfl, rfl, rfl, rfl, rfl, rfl, rfl, rfl, rfl, rfl, rfl, rfl, trivial⟩ ⟨rfl, rfl, trivial⟩) ?_)))
                  clear hK K
                  refine AW.cond rfl (fun hc => ?_) (fun hc => ?_)
                  · have hc := of_decide_eq_true hc
                    have h := ifT hc h
                    refine AW.rgs rfl fun K hK => ?_
                    refine mv rfl rfl ?_
                    refine mv rfl rfl ?_
                    refine bv rfl (v_convR ty5 ty9 rfl) ?_
                    obtain ⟨h26, h⟩ := ifN h
                    refine bv rfl (v_bin rfl rfl (b_sadd h26)) ?_
                    refine mv rfl rfl ?_
                    refine mv rfl rfl ?_
                    refine mv rfl rfl ?_
                    refine b_nil (hK _ (AW.to (to_le (s' := ⟨[(4, HV.str (x14 ++ ((Utf8.encode (x20.toNat : Int)).data.toList))), (5, HV.bool true), (6, HV.int .i64 0)], []⟩) (AS.le_of ⟨rfl, rfl, rfl, trivial⟩ trivial) ?_)))
                    clear hK K
                    have h := hr19 _ h
                    have h := hr13 _ h
                    have h := hr9 _ h
                    refine AW.ret ?_
                    have h := Option.some.inj h
                    subst h
                    exact ret_pure (hs := [HV.str (x14 ++ ((Utf8.encode (x20.toNat : Int)).data.toList)), HV.bool true, HV.int .i64 0]) (q := HV.tup [HV.str (x14 ++ ((Utf8.encode (x20.toNat : Int)).data.toList)), HV.bool true, HV.int .i64 0]) (.inr rfl) (resT rfl (resT rfl (resT rfl rfl))) rfl ⟨trivial, trivial, trivial, trivial⟩
                  · have hc := of_decide_eq_false hc
                    have h := ifF hc h
                    refine AW.skip ?_
                    refine AW.rgs rfl fun K hK => ?_
                    refine mv rfl rfl ?_
                    refine mv rfl rfl ?_
                    refine bv rfl (v_convR ty5 ty9 rfl) ?_
                    obtain ⟨h27, h⟩ := ifN h
                    refine bv rfl (v_bin rfl rfl (b_sadd h27)) ?_
                    refine mv rfl rfl ?_
                    refine b_nil (hK _ (AW.to (to_le (s' := ⟨[(2, HV.fptr [HV.int .i64 p0.1, HV.int .i64 p0.2.1, slE eFromLabelTo p0.2.2] 0), (10, HV.mp 21030 v5), (11, HV.ar 21071 w17 eStr.k 0 ((a16.2.2).length)), (13, HV.str x14), (16, slE eInt x24), (17, HV.str (x14 ++ ((Utf8.encode (x20.toNat : Int)).data.toList))), (33, HV.int .i64 p1), (34, HV.int .i64 a6.2.1), (36, slE eStr a6.1), (37, HV.int .i64 ((a6.1).length : Int)), (38, HV.int .i64 a10.1), (43, HV.int .i64 p0.1), (44, HV.int .i64 a16.1)], [(21030, v5, .map (entE (slE eInt) a16.2.1)), (21071, w17, .arr eStr.k 9 (eStr.E a16.2.2))]⟩) (AS.le_of ⟨rfl, rfl, rfl, rfl, rfl, rfl, rfl, rfl, rfl, rfl, rfl, rfl, rfl, trivial⟩ ⟨rfl, rfl, trivial⟩) ?_)))
                    clear hK K
                    refine AW.rg rfl fun K hK => ?_
                    refine mv rfl rfl ?_
                    refine mv rfl rfl ?_
                    refine mv rfl rfl ?_
                    refine mv rfl rfl ?_
                    refine b_op rfl (o_bsl rfl rfl (as_of (cs := [HV.str (x14 ++ ((Utf8.encode (x20.toNat : Int)).data.toList))]) ty38 ty9 rfl rfl rfl rfl rfl) ?_)
                    obtain ⟨h29, h⟩ := ifN h
                    refine b_op rfl (o_appE eStr (l := a16.2.2) (m := [x14 ++ ((Utf8.encode (x20.toNat : Int)).data.toList)]) rfl rfl ty38 ty38 ty9 rfl rfl rfl rfl rfl h29 (fun v28 => ?_))
                    refine mv rfl rfl ?_
                    refine mv rfl rfl ?_
                    refine b_op rfl (o_mapSet (slE eInt) (es := a16.2.1) (k := (x14 ++ ((Utf8.encode (x20.toNat : Int)).data.toList))) (v := x24) (.inl rfl) ty74 ty9 rfl rfl rfl rfl trivial ?_)
                    refine b_nil (hK _ (AW.to (to_le (s' := ⟨[(2, HV.fptr [HV.int .i64 p0.1, HV.int .i64 p0.2.1, slE eFromLabelTo p0.2.2] 0), (10, HV.mp 21030 v5), (11, HV.ar 21071 v28 eStr.k 0 ((a16.2.2 ++ [x14 ++ ((Utf8.encode (x20.toNat : Int)).data.toList)]).length)), (13, HV.str x14), (33, HV.int .i64 p1), (34, HV.int .i64 a6.2.1), (36, slE eStr a6.1), (37, HV.int .i64 ((a6.1).length : Int)), (38, HV.int .i64 a10.1), (43, HV.int .i64 p0.1), (44, HV.int .i64 a16.1)], [(21030, v5, .map (entE (slE eInt) (mputN (x14 ++ ((Utf8.encode (x20.toNat : Int)).data.toList)) x24 a16.2.1))), (21071, v28, .arr eStr.k 9 (eStr.E (a16.2.2 ++ [x14 ++ ((Utf8.encode (x20.toNat : Int)).data.toList)])))]⟩) (AS.le_of ⟨rfl, rfl, rfl, rfl, rfl, rfl, rfl, rfl, rfl, rfl, rfl, trivial⟩ ⟨rfl, rfl, trivial⟩) ?_)))
                    clear hK K
                    refine AW.rg rfl fun K hK => ?_
                    refine bv rfl (v_bin rfl rfl b_add) ?_
                    refine mv rfl rfl ?_
                    refine b_nil (hK _ ?_)
                    clear hK K
                    exact to_le (s' := ⟨[(2, HV.fptr [HV.int .i64 p0.1, HV.int .i64 p0.2.1, slE eFromLabelTo p0.2.2] 0), (10, HV.mp 21030 v5), (11, HV.ar 21071 v28 eStr.k 0 ((a16.2.2 ++ [x14 ++ ((Utf8.encode (x20.toNat : Int)).data.toList)]).length)), (13, HV.str x14), (33, HV.int .i64 p1), (34, HV.int .i64 a6.2.1), (36, slE eStr a6.1), (37, HV.int .i64 ((a6.1).length : Int)), (38, HV.int .i64 a10.1), (43, HV.int .i64 p0.1), (44, HV.int .i64 (IntKind.wrap .i64 (a16.1 + 1)))], [(21030, v5, .map (entE (slE eInt) (mputN (x14 ++ ((Utf8.encode (x20.toNat : Int)).data.toList)) x24 a16.2.1))), (21071, v28, .arr eStr.k 9 (eStr.E (a16.2.2 ++ [x14 ++ ((Utf8.encode (x20.toNat : Int)).data.toList)])))]⟩) (AS.le_of ⟨rfl, rfl, rfl, rfl, rfl, rfl, rfl, rfl, rfl, rfl, rfl, trivial⟩ ⟨rfl, rfl, trivial⟩) ⟨(IntKind.wrap .i64 (a16.1 + 1), mputN (x14 ++ ((Utf8.encode (x20.toNat : Int)).data.toList)) x24 a16.2.1, a16.2.2 ++ [x14 ++ ((Utf8.encode (x20.toNat : Int)).data.toList)]), v28, h, rfl⟩
                · have hc := of_decide_eq_false hc
                  have h := ifF hc h
                  refine AW.exit ?_
                  exact to_le (s' := ⟨[(2, HV.fptr [HV.int .i64 p0.1, HV.int .i64 p0.2.1, slE eFromLabelTo p0.2.2] 0), (10, HV.mp 21030 v5), (11, HV.ar 21071 w17 eStr.k 0 ((a16.2.2).length)), (33, HV.int .i64 p1), (34, HV.int .i64 a6.2.1), (36, slE eStr a6.1), (37, HV.int .i64 ((a6.1).length : Int)), (38, HV.int .i64 a10.1)], [(21030, v5, .map (entE (slE eInt) a16.2.1)), (21071, w17, .arr eStr.k 9 (eStr.E a16.2.2))]⟩) (AS.le_of ⟨rfl, rfl, rfl, rfl, rfl, rfl, rfl, rfl, trivial⟩ ⟨rfl, rfl, trivial⟩) ⟨(a16.2.1, a16.2.2), w17, h, rfl⟩
            · have hc := of_decide_eq_false hc
              have h := ifF hc h
              refine AW.exit ?_
              exact to_le (s' := ⟨[(2, HV.fptr [HV.int .i64 p0.1, HV.int .i64 p0.2.1, slE eFromLabelTo p0.2.2] 0), (10, HV.mp 21030 v5), (11, HV.ar 21071 w11 eStr.k 0 ((a10.2.2).length)), (33, HV.int .i64 p1), (34, HV.int .i64 a6.2.1)], [(21030, v5, .map (entE (slE eInt) a10.2.1)), (21071, w11, .arr eStr.k 9 (eStr.E a10.2.2))]⟩) (AS.le_of ⟨rfl, rfl, rfl, rfl, rfl, trivial⟩ ⟨rfl, rfl, trivial⟩) ⟨(a10.2.1, a10.2.2), w11, h, rfl⟩
        · have hc := of_decide_eq_false hc
          have h := ifF hc h
          refine AW.exit ?_
          exact to_le (s' := ⟨[], []⟩) (AS.le_of trivial trivial) ⟨(), (), h, rfl⟩

set_option maxHeartbeats 1600000 in
set_option maxRecDepth 100000 in
theorem w_slices_Equal_Lstring_string {p0 : List (List UInt8)} {p1 : List (List UInt8)} {r : Bool} (h : m_slices_Equal_Lstring_string p0 p1 = some r) : Pure Tryz.prog 22 [slE eStr p0, slE eStr p1] (· = HV.bool r) := by
  unfold m_slices_Equal_Lstring_string at h
  refine Pure.of_body Tryz.func22 rfl rfl (Nat.le_of_ble_eq_true rfl) fun hf => ?_
  unfold Tryz.f22
  dsimp only [enumS, Nat.reduceAdd]
  refine AW.rgs rfl fun K hK => ?_
  refine mv rfl rfl ?_
  refine b_nil (hK _ (AW.to (to_le (s' := ⟨[(0, slE eStr p0), (1, slE eStr p1)], []⟩) (AS.le_of ⟨rfl, rfl, trivial⟩ trivial) ?_)))
  clear hK K
  refine AW.seq ?_
  refine AW.rgs rfl fun K hK => ?_
  refine mv rfl rfl ?_
  refine bv rfl (v_lenF rfl rfl ty38 rfl) ?_
  refine mv rfl rfl ?_
  refine bv rfl (v_lenF rfl rfl ty38 rfl) ?_
  refine bv rfl (v_bin rfl rfl b_neq) ?_
  refine b_nil (hK _ (AW.to (to_le (s' := ⟨[(0, slE eStr p0), (1, slE eStr p1), (10, HV.bool (decide (((p0).length : Int) ≠ ((p1).length : Int))))], []⟩) (AS.le_of ⟨rfl, rfl, rfl, trivial⟩ trivial) ?_)))
  clear hK K
  refine AW.cond rfl (fun hc => ?_) (fun hc => ?_)
  · have hc := of_decide_eq_true hc
    have h := ifT hc h
    refine AW.rgs rfl fun K hK => ?_
    refine mv rfl rfl ?_
    refine b_nil (hK _ (AW.to (to_le (s' := ⟨[(4, HV.bool false)], []⟩) (AS.le_of ⟨rfl, trivial⟩ trivial) ?_)))
    clear hK K
    refine AW.ret ?_
    have h := Option.some.inj h
    subst h
    exact ret_pure (hs := [HV.bool false]) (q := HV.bool false) (.inr rfl) (resT rfl rfl) rfl trivial
  · have hc := of_decide_eq_false hc
    have h := ifF hc h
    refine AW.skip ?_
    refine AW.seq ?_
    refine AW.rgs rfl fun K hK => ?_
    refine mv rfl rfl ?_
    refine bv rfl (v_lenF rfl rfl ty38 rfl) ?_
    refine mv rfl rfl ?_
    refine b_nil (hK _ (AW.to (to_le (s' := ⟨[(0, slE eStr p0), (1, slE eStr p1), (12, HV.int .i64 ((p0).length : Int)), (13, HV.int .i64 0)], []⟩) (AS.le_of ⟨rfl, rfl, rfl, rfl, trivial⟩ trivial) ?_)))
    clear hK K
    refine AW.lpR h (by first | exact up_then | exact up_to) (S := Int) (V := Unit) (fun a v => ⟨[(0, slE eStr p0), (1, slE eStr p1), (12, HV.int .i64 ((p0).length : Int)), (13, HV.int .i64 a)], []⟩) ?_ (X := Unit) (W := Unit) (fun a v => ⟨[], []⟩) (fun a9 w10 h => ?_) (fun a1 w2 st3 h hr4=> ?_)
    · exact to_le (s' := ⟨[(0, slE eStr p0), (1, slE eStr p1), (12, HV.int .i64 ((p0).length : Int)), (13, HV.int .i64 0)], []⟩) (AS.le_of ⟨rfl, rfl, rfl, rfl, trivial⟩ trivial) ⟨(), rfl⟩
    · refine AW.rgs rfl fun K hK => ?_
      refine mv rfl rfl ?_
      refine b_nil (hK _ (AW.to (to_le (s' := ⟨[(4, HV.bool true)], []⟩) (AS.le_of ⟨rfl, trivial⟩ trivial) ?_)))
      clear hK K
      refine AW.ret ?_
      have h := Option.some.inj h
      subst h
      exact ret_pure (hs := [HV.bool true]) (q := HV.bool true) (.inr rfl) (resT rfl rfl) rfl trivial
    · refine AW.rgs rfl fun K hK => ?_
      refine bv rfl (v_bin rfl rfl b_lss) ?_
      refine b_nil (hK _ (AW.to (to_le (s' := ⟨[(0, slE eStr p0), (1, slE eStr p1), (12, HV.int .i64 ((p0).length : Int)), (13, HV.int .i64 a1), (14, HV.bool (decide (a1 < ((p0).length : Int))))], []⟩) (AS.le_of ⟨rfl, rfl, rfl, rfl, rfl, trivial⟩ trivial) ?_)))
      clear hK K
      refine AW.cseq rfl (fun hc => ?_) (fun hc => ?_)
      · have hc := of_decide_eq_true hc
        have h := ifT hc h
        refine AW.skip ?_
        refine AW.seq (AW.block ?_)
        refine AW.rgs rfl fun K hK => ?_
        refine mv rfl rfl ?_
        refine mv rfl rfl ?_
        refine b_nil (hK _ (AW.to (to_le (s' := ⟨[(0, slE eStr p0), (1, slE eStr p1), (5, HV.int .i64 a1), (12, HV.int .i64 ((p0).length : Int)), (13, HV.int .i64 a1)], []⟩) (AS.le_of ⟨rfl, rfl, rfl, rfl, rfl, trivial⟩ trivial) ?_)))
        clear hK K
        refine AW.dgs 9 follows rfl rfl fun K hK => ?_
        refine sm rfl rfl ?_
        refine sm rfl rfl ?_
        obtain ⟨x5, h6, h⟩ := bS h
        refine sv rfl (v_idxF ty38 es38 rfl rfl (idx_lt h6)) ?_
        refine sv rfl (v_loadF ty9 rfl (l_cell eStr h6 (o := 0) rfl rfl)) ?_
        refine sm rfl rfl ?_
        refine sm rfl rfl ?_
        obtain ⟨x7, h8, h⟩ := bS h
        refine sv rfl (v_idxF ty38 es38 rfl rfl (idx_lt h8)) ?_
        refine sv rfl (v_loadF ty9 rfl (l_cell eStr h8 (o := 0) rfl rfl)) ?_
        refine sv rfl (v_bin rfl rfl b_sneq) ?_
        refine s_nil ?_
        refine b_nil (hK _ (AW.to (to_le (s' := ⟨[(0, slE eStr p0), (1, slE eStr p1), (12, HV.int .i64 ((p0).length : Int)), (13, HV.int .i64 a1), (24, HV.bool (decide (x5 ≠ x7)))], []⟩) (AS.le_of ⟨rfl, rfl, rfl, rfl, rfl, trivial⟩ trivial) ?_)))
        clear hK K
        refine AW.cond rfl (fun hc => ?_) (fun hc => ?_)
        · have hc := of_decide_eq_true hc
          have h := ifT hc h
          refine AW.rgs rfl fun K hK => ?_
          refine mv rfl rfl ?_
          refine b_nil (hK _ (AW.to (to_le (s' := ⟨[(4, HV.bool false)], []⟩) (AS.le_of ⟨rfl, trivial⟩ trivial) ?_)))
          clear hK K
          have h := hr4 _ h
          refine AW.ret ?_
          have h := Option.some.inj h
          subst h
          exact ret_pure (hs := [HV.bool false]) (q := HV.bool false) (.inr rfl) (resT rfl rfl) rfl trivial
        · have hc := of_decide_eq_false hc
          have h := ifF hc h
          refine AW.skip ?_
          refine AW.rg rfl fun K hK => ?_
          refine bv rfl (v_bin rfl rfl b_add) ?_
          refine mv rfl rfl ?_
          refine b_nil (hK _ ?_)
          clear hK K
          exact to_le (s' := ⟨[(0, slE eStr p0), (1, slE eStr p1), (12, HV.int .i64 ((p0).length : Int)), (13, HV.int .i64 (IntKind.wrap .i64 (a1 + 1)))], []⟩) (AS.le_of ⟨rfl, rfl, rfl, rfl, trivial⟩ trivial) ⟨IntKind.wrap .i64 (a1 + 1), (), h, rfl⟩
      · have hc := of_decide_eq_false hc
        have h := ifF hc h
        refine AW.exit ?_
        exact to_le (s' := ⟨[], []⟩) (AS.le_of trivial trivial) ⟨(), (), h, rfl⟩

set_option maxHeartbeats 1600000 in
set_option maxRecDepth 100000 in
theorem w_law11_awakeG  {r : Bool} (h : m_law11_awakeG  = some r) : Pure Tryz.prog 5 [] (· = HV.bool r) := by
  unfold m_law11_awakeG at h
  refine Pure.of_body Tryz.func5 rfl rfl (Nat.le_of_ble_eq_true rfl) fun hf => ?_
  unfold Tryz.f5
  dsimp only [enumS, Nat.reduceAdd]
  refine AW.rgs rfl fun K hK => ?_
  refine mv rfl rfl ?_
  refine b_nil (hK _ (AW.to (to_le (s' := ⟨[], []⟩) (AS.le_of trivial trivial) ?_)))
  clear hK K
  refine AW.rgs rfl fun K hK => ?_
  obtain ⟨x1, h2, h⟩ := bS h
  refine b_op rfl (o_call rfl rfl rfl rfl (ACallD.pure0 (w_law11_golden h2)) ?_)
  obtain ⟨x3, h4, h⟩ := bS h
  refine b_op rfl (o_call rfl rfl rfl rfl (ACallD.pure0 (w_language_Words h4)) ?_)
  refine mv rfl rfl ?_
  refine bv rfl (v_extract rfl rfl) ?_
  refine bv rfl (v_extract rfl rfl) ?_
  refine mv rfl rfl ?_
  refine mv rfl rfl ?_
  refine b_nil (hK _ (AW.to (to_le (s' := ⟨[(1, slE eStr x3.1), (2, HV.int .i64 x3.2)], []⟩) (AS.le_of ⟨rfl, rfl, trivial⟩ trivial) ?_)))
  clear hK K
  refine AW.rgs rfl fun K hK => ?_
  obtain ⟨x5, h6, h⟩ := bS h
  refine b_op rfl (o_call rfl rfl rfl rfl (ACallD.pure0 (w_law11_golden h6)) ?_)
  obtain ⟨x7, h8, h⟩ := bS h
  refine b_op rfl (o_call rfl rfl rfl rfl (ACallD.pure0 (w_language_Missing h8)) ?_)
  refine mv rfl rfl ?_
  refine bv rfl (v_extract rfl rfl) ?_
  refine bv rfl (v_extract rfl rfl) ?_
  refine bv rfl (v_extract rfl rfl) ?_
  refine mv rfl rfl ?_
  refine mv rfl rfl ?_
  refine mv rfl rfl ?_
  refine b_nil (hK _ (AW.to (to_le (s' := ⟨[(1, slE eStr x3.1), (2, HV.int .i64 x3.2), (3, HV.str x7.1), (4, HV.bool x7.2.1), (5, HV.int .i64 x7.2.2)], []⟩) (AS.le_of ⟨rfl, rfl, rfl, rfl, rfl, trivial⟩ trivial) ?_)))
  clear hK K
  refine AW.rgs rfl fun K hK => ?_
  obtain ⟨x9, h10, h⟩ := bS h
  refine b_op rfl (o_call rfl rfl rfl rfl (ACallD.pure0 (w_law11_golden h10)) ?_)
  obtain ⟨x11, h12, h⟩ := bS h
  refine b_op rfl (o_call rfl rfl rfl rfl (ACallD.pure0 (w_language_Path h12)) ?_)
  refine mv rfl rfl ?_
  refine bv rfl (v_extract rfl rfl) ?_
  refine bv rfl (v_extract rfl rfl) ?_
  refine mv rfl rfl ?_
  refine mv rfl rfl ?_
  refine b_nil (hK _ (AW.to (to_le (s' := ⟨[(1, slE eStr x3.1), (2, HV.int .i64 x3.2), (3, HV.str x7.1), (4, HV.bool x7.2.1), (5, HV.int .i64 x7.2.2), (6, slE eInt x11.1), (7, HV.int .i64 x11.2)], []⟩) (AS.le_of ⟨rfl, rfl, rfl, rfl, rfl, rfl, rfl, trivial⟩ trivial) ?_)))
  clear hK K
  refine AW.seqJ h (S := Bool) (V := Unit) (fun a v => ⟨[(0, HV.bool a)], []⟩) (fun a13 w14 h => ?_) (fun k15 h => ?_)
  · refine AW.ret ?_
    have h := Option.some.inj h
    subst h
    exact ret_pure (hs := [HV.bool a13]) (q := HV.bool a13) (.inr rfl) (resT rfl rfl) rfl trivial
  · refine AW.rg rfl fun K hK => ?_
    refine mv rfl rfl ?_
    refine mv rfl rfl ?_
    refine mv rfl rfl ?_
    refine bv rfl (v_max3 rfl rfl rfl rfl) ?_
    refine bv rfl (v_bin rfl rfl b_eql) ?_
    refine mv rfl rfl ?_
    by_cases hg23 : (max (max x3.2 x7.2.2) x11.2) = 0
    · have h := ifT hg23 h
      refine b_T rfl rfl rfl rfl (decide_eq_true hg23) (o_val rfl (mv_val rfl rfl).2 ?_)
      refine b_T rfl rfl rfl rfl rfl (o_bsl rfl rfl (as_of (cs := [HV.str [48, 48], HV.str [48, 49], HV.str [49, 48]]) ty38 ty9 rfl rfl rfl rfl rfl) ?_)
      obtain ⟨x16, h17, h⟩ := bS h
      refine b_T rfl rfl rfl rfl rfl (o_call rfl rfl rfl rfl (ACallD.pure0 (w_slices_Equal_Lstring_string h17)) ?_)
      refine bv rfl (v_pickT rfl rfl rfl) ?_
      refine mv rfl rfl ?_
      by_cases hg22 : x16 = true
      · have h := ifT hg22 h
        refine b_T rfl rfl rfl rfl hg22 (o_val rfl (mv_val rfl rfl).2 ?_)
        refine b_T rfl rfl rfl rfl rfl (o_val rfl (v_bin rfl rfl b_seql) ?_)
        refine bv rfl (v_pickT rfl rfl rfl) ?_
        refine mv rfl rfl ?_
        by_cases hg21 : x7.1 = [49, 49]
        · have h := ifT hg21 h
          refine b_T rfl rfl rfl rfl (decide_eq_true hg21) (o_val rfl (mv_val rfl rfl).2 ?_)
          refine bv rfl (v_pickT rfl rfl rfl) ?_
          refine mv rfl rfl ?_
          by_cases hg20 : x7.2.1 = true
          · have h := ifT hg20 h
            refine b_T rfl rfl rfl rfl hg20 (o_val rfl (mv_val rfl rfl).2 ?_)
            refine b_T rfl rfl rfl rfl rfl (o_bsl rfl rfl (as_of (cs := [HV.int .i64 0, HV.int .i64 1, HV.int .i64 2]) ty25 ty3 rfl rfl rfl rfl rfl) ?_)
            obtain ⟨x18, h19, h⟩ := bS h
            refine b_T rfl rfl rfl rfl rfl (o_call rfl rfl rfl rfl (ACallD.pure0 (w_slices_Equal_Lint_int h19)) ?_)
            refine bv rfl (v_pickT rfl rfl rfl) ?_
            refine mv rfl rfl ?_
            refine b_nil (hK _ ?_)
            clear hK K
            exact to_le (s' := ⟨[(0, HV.bool x18)], []⟩) (AS.le_of ⟨rfl, trivial⟩ trivial) ⟨x18, (), h, rfl⟩
          · have h := ifF hg20 h
            refine b_F rfl rfl rfl rfl rfl (bF hg20) ?_
            refine b_F rfl rfl rfl rfl rfl rfl ?_
            refine b_F rfl rfl rfl rfl rfl rfl ?_
            refine bv rfl (v_pickF rfl rfl rfl) ?_
            refine mv rfl rfl ?_
            refine b_nil (hK _ ?_)
            clear hK K
            exact to_le (s' := ⟨[(0, HV.bool false)], []⟩) (AS.le_of ⟨rfl, trivial⟩ trivial) ⟨false, (), h, rfl⟩
        · have h := ifF hg21 h
          refine b_F rfl rfl rfl rfl rfl (decide_eq_false hg21) ?_
          refine bv rfl (v_pickF rfl rfl rfl) ?_
          refine mv rfl rfl ?_
          refine b_F rfl rfl rfl rfl rfl rfl ?_
          refine b_F rfl rfl rfl rfl rfl rfl ?_
          refine b_F rfl rfl rfl rfl rfl rfl ?_
          refine bv rfl (v_pickF rfl rfl rfl) ?_
          refine mv rfl rfl ?_
          refine b_nil (hK _ ?_)
          clear hK K
          exact to_le (s' := ⟨[(0, HV.bool false)], []⟩) (AS.le_of ⟨rfl, trivial⟩ trivial) ⟨false, (), h, rfl⟩
      · have h := ifF hg22 h
        refine b_F rfl rfl rfl rfl rfl (bF hg22) ?_
        refine b_F rfl rfl rfl rfl rfl rfl ?_
        refine bv rfl (v_pickF rfl rfl rfl) ?_
        refine mv rfl rfl ?_
        refine b_F rfl rfl rfl rfl rfl rfl ?_
        refine bv rfl (v_pickF rfl rfl rfl) ?_
        refine mv rfl rfl ?_
        refine b_F rfl rfl rfl rfl rfl rfl ?_
        refine b_F rfl rfl rfl rfl rfl rfl ?_
        refine b_F rfl rfl rfl rfl rfl rfl ?_
        refine bv rfl (v_pickF rfl rfl rfl) ?_
        refine mv rfl rfl ?_
        refine b_nil (hK _ ?_)
        clear hK K
        exact to_le (s' := ⟨[(0, HV.bool false)], []⟩) (AS.le_of ⟨rfl, trivial⟩ trivial) ⟨false, (), h, rfl⟩
    · have h := ifF hg23 h
      refine b_F rfl rfl rfl rfl rfl (decide_eq_false hg23) ?_
      refine b_F rfl rfl rfl rfl rfl rfl ?_
      refine b_F rfl rfl rfl rfl rfl rfl ?_
      refine bv rfl (v_pickF rfl rfl rfl) ?_
      refine mv rfl rfl ?_
      refine b_F rfl rfl rfl rfl rfl rfl ?_
      refine b_F rfl rfl rfl rfl rfl rfl ?_
      refine bv rfl (v_pickF rfl rfl rfl) ?_
      refine mv rfl rfl ?_
      refine b_F rfl rfl rfl rfl rfl rfl ?_
      refine bv rfl (v_pickF rfl rfl rfl) ?_
      refine mv rfl rfl ?_
      refine b_F rfl rfl rfl rfl rfl rfl ?_
      refine b_F rfl rfl rfl rfl rfl rfl ?_
      refine b_F rfl rfl rfl rfl rfl rfl ?_
      refine bv rfl (v_pickF rfl rfl rfl) ?_
      refine mv rfl rfl ?_
      refine b_nil (hK _ ?_)
      clear hK K
      exact to_le (s' := ⟨[(0, HV.bool false)], []⟩) (AS.le_of ⟨rfl, trivial⟩ trivial) ⟨false, (), h, rfl⟩

end Go.AW



/- The anchor of chapter 11. -/
namespace Go.AW
open Go Go.Proofs
theorem w_law11_awake {r : Bool} (h : m_law11_awake = some r) : Pure Tryz.prog 5 [] (· = HV.bool r) := by
  cases h
  exact w_law11_awakeG awake11_eq
end Go.AW

/- strings.Builder: the check for copies. -/
namespace Go.Proofs
open Go

/-- a variable lies at the head of its row -/
theorem Tryz.bld_lies (n : Nat) (hn : 2 ≤ n) : liesAt Tryz.prog Tryz.prog.depth 56 (n / Tryz.prog.cellsOf 56) 0 56 1 = true := by
  have hc : Tryz.prog.cellsOf 56 = 2 := by kernel_rfl
  have hd : Tryz.prog.depth = (2 * (Tryz.prog.types.size + Made.depth) + 1) + 1 := rfl
  rw [hd]
  simp only [liesAt, Bool.or_eq_true]
  left
  rw [hd]
  have : 1 ≤ n / 2 := by omega
  simp [rowAt, hc, sameLayout, this]

set_option maxHeartbeats 1000000 in
set_option maxRecDepth 100000 in
theorem Tryz.copyCheck_fresh (b n : Nat) (w : World) (h0 : w.cell? ⟨b, 0, none⟩ = some (.pointer none)) (hsh : w.shape? b = some (56, n)) (hn : 2 ≤ n) (hfz : w.frozen? ⟨b, 0, none⟩ = false) :
    Calls Tryz.prog 49 #[.pointer (some ⟨b, 0, none⟩)] w fun e w' => e = .returned (.tuple #[]) ∧ w' = w.setCell ⟨b, 0, none⟩ (.pointer (some ⟨b, 0, none⟩)) := by
  obtain ⟨j, hj, hjs⟩ := Option.map_eq_some_iff.1 (show (Tryz.prog.info? 56).map (·.size) = some 2 by kernel_rfl)
  have hlies := Tryz.bld_lies n hn
  go_enter Tryz.func49, Tryz.ntmps49
  go_wp2
  rw [Lib.run_to_unsafe w ⟨b, 0, none⟩ Tryz.underlying53 Tryz.underlying93 hj (by rw [hjs]; decide) hsh (by show 0 < n; omega)]
  simp only [Result.andThen]
  rw [Oper.upon_value]
  go_wp2
  rw [run_callFunc_extern Tryz.func60 (by kernel_rfl) (by kernel_rfl) (by kernel_rfl) (e := Extern.AbiNoEscape.same) (by kernel_rfl), Lib.run_noEscape]
  simp only [Result.andThen]
  rw [Oper.upon_value]
  go_wp2
  rw [Lib.run_from_unsafe w ⟨b, 0, none⟩ Tryz.underlying93 Tryz.underlying53 hj hsh hlies]
  simp only [Result.andThen]
  rw [Oper.upon_value]
  go_wp2
  go_end0
  exact ⟨rfl, rfl⟩

set_option maxHeartbeats 1000000 in
set_option maxRecDepth 100000 in
theorem Tryz.copyCheck_used (b : Nat) (w : World) (h0 : w.cell? ⟨b, 0, none⟩ = some (.pointer (some ⟨b, 0, none⟩))) :
    Calls Tryz.prog 49 #[.pointer (some ⟨b, 0, none⟩)] w fun e w' => e = .returned (.tuple #[]) ∧ w' = w := by
  obtain ⟨j, hj, _⟩ := Option.map_eq_some_iff.1 (show (Tryz.prog.info? 56).map (·.size) = some 2 by kernel_rfl)
  go_enter Tryz.func49, Tryz.ntmps49
  go_wp2
  rw [Lib.run_neq_ptr_same w _ Tryz.underlying53 hj]
  go_wp2
  go_end0
  exact ⟨rfl, rfl⟩
end Go.Proofs

namespace Go.AW
open Go Go.Proofs Go.Lib

/-- the first cell of a builder -/
def bldP (u : Bool) (id ver : Nat) : HV := if u then .ptr id ver 0 else .v (.pointer none)

theorem c_copyCheck {H : Heap} {K : HV → Heap → Prop} {id ver : Nat} {u : Bool} {s : HV} (hg : hget H id = some (ver, .arr 2 56 [bldP u id ver, s])) (hK : K (.tup []) ((id, ver, .arr 2 56 [.ptr id ver 0, s]) :: H)) :
    ACall Tryz.prog 49 [.ptr id ver 0] H K := by
  refine ⟨enters' Tryz.func49 rfl rfl, fun μ w vs hs hr => ?_⟩
  obtain ⟨x, xs, rfl, hr, hn⟩ := hr
  cases hn
  obtain ⟨lo, hl, hor⟩ := hs.has _ _ _ hg
  have hle : ∀ ob j (y : Nat × AObj), hget ((id, ver, ob) :: H) j = some y ↔ hget (hset H id ver ob) j = some y := fun ob j y => by simp only [hget, hget_hset]
  rcases hr with ⟨b, hl', rfl⟩ | ⟨hd, _⟩
  · rw [hl] at hl'
    cases hl'
    obtain ⟨h1, cur, vs', rest, hrow, hcl, hrl⟩ := hor
    obtain ⟨v0, vs1, rfl, r0, v1, vs2, rfl, r1, hn⟩ := hrl
    cases hn
    have hrow2 := hrow
    obtain ⟨lo', hi', hbk, hfr⟩ := hrow2
    have hsz : 2 ≤ cur.size := by rw [← Array.length_toList, hcl]; simp
    have hc0 : cur[0]? = some v0 := by rw [← Array.getElem?_toList, hcl]; rfl
    have hcell : w.cell? ⟨b, 0, none⟩ = some v0 := by rw [Lib.cell_of_heap hbk]; exact hc0
    cases u with
    | false =>
      obtain rfl : v0 = .pointer none := r0
      refine (Tryz.copyCheck_fresh b cur.size w hcell (by simp [World.shape?, hbk]) hsz (hrow.free (by omega))).mono ?_
      rintro e w' ⟨rfl, rfl⟩
      have hbk' : (w.setCell ⟨b, 0, none⟩ (.pointer (some ⟨b, 0, none⟩))).heap[b]? = some (.cells (cur.setIfInBounds 0 (.pointer (some ⟨b, 0, none⟩))) 56 (lo', hi')) := by
        show (w.heap.modify b _)[b]? = _
        rw [Array.getElem?_modify, if_pos rfl, hbk]
        rfl
      obtain ⟨hsr, hE⟩ := hs.updArr (w' := w.setCell ⟨b, 0, none⟩ (.pointer (some ⟨b, 0, none⟩))) (cs' := [.ptr id ver 0, s]) hg hl ⟨rfl, rfl, rfl⟩ (by show (w.heap.modify b _).size = _; simp) (fun b' hne => by
        show (w.heap.modify b _)[b']? = _
        rw [Array.getElem?_modify, if_neg (fun e => hne e.symm)]) hrow ⟨lo', hi', hbk', by simpa using hfr⟩ (by simp) fun E => by
          refine ⟨fun c hc => ?_, _, [.pointer (some ⟨b, 0, none⟩), v1], rest, ⟨lo', hi', hbk', by simpa using hfr⟩, ?_, ?_⟩
          · rcases List.mem_cons.1 hc with rfl | hc
            · rfl
            · exact h1 c (List.mem_cons_of_mem _ hc)
          · rw [Array.toList_setIfInBounds, hcl]; rfl
          · exact ⟨_, _, rfl, .inl ⟨b, hl, rfl⟩, _, _, rfl, Rep.evo E hs.ok _ _ r1, rfl⟩
      exact ⟨_, .tup [], _, μ, rfl, hK, hsr.le (hle _), ⟨[], rfl, rfl⟩, hE⟩
    | true =>
      rcases r0 with ⟨b', hl2, rfl⟩ | ⟨hd, _⟩
      · rw [hl] at hl2
        cases hl2
        refine (Tryz.copyCheck_used b w hcell).mono ?_
        rintro e w' ⟨rfl, rfl⟩
        exact ⟨_, .tup [], _, μ, rfl, hK, (hs.same hg).le (hle _), ⟨[], rfl, rfl⟩, Evo.refl _ _⟩
      · exact absurd hl (hd.2 _)
  · exact absurd hl (hd.2 _)
end Go.AW

/- Bytes in owned arrays: append of a text. -/
namespace Go.AW
open Go
abbrev eByte : EncL UInt8 := encM fun b => HV.int .u8 (b.toNat : Int)
section
variable {P : Program} {ro : Option Nat} {N : Nat} {s : AS} {o : Oper} {sl : List (Nat × HV)} {H : Heap} {all : Array Oper} {rest : List Oper} {K : AS → Prop}
end
end Go.AW

/- strings.Builder: writing. -/
namespace Go.AW
open Go Go.Proofs

/-- a builder: its cells, its bytes -/
def bldO (id ver aid aver : Nat) (u : Bool) (l : List UInt8) : AObj := .arr 2 56 [bldP u id ver, .ar aid aver 1 0 l.length]
def bytO (l : List UInt8) : AObj := .arr 1 5 (eByte.E l)

theorem hget_1 {id v j w : Nat} {o p : AObj} {H : Heap} (h : j ≠ id) (hj : hget H j = some (w, p)) : hget ((id, v, o) :: H) j = some (w, p) := by
  simp only [hget]
  rw [if_neg (by omega)]
  exact hj

set_option maxRecDepth 100000 in
theorem c_WriteByte {H : Heap} {K : HV → Heap → Prop} {id ver aid aver : Nat} {u : Bool} {l : List UInt8} {c : UInt8} (hid : aid ≠ id) (hg : hget H id = some (ver, bldO id ver aid aver u l)) (ha : hget H aid = some (aver, bytO l)) (hfit : fits 1 (l.length + 1))
    (hK : ∀ av, K (.v .nilIface) ((id, ver, bldO id ver aid av true (l ++ [c])) :: (aid, av, bytO (l ++ [c])) :: H)) : ACall Tryz.prog 32 [.ptr id ver 0, .int .u8 (c.toNat : Int)] H K := by
  refine ACall.of_body Tryz.func32 rfl rfl (Nat.le_of_ble_eq_true rfl) ?_
  unfold Tryz.f32
  dsimp only [enumS, Nat.reduceAdd]
  refine AW.rgs rfl fun K1 hK1 => ?_
  refine mv rfl rfl ?_
  refine b_nil (hK1 _ (AW.to (to_le (s' := ⟨[(0, .ptr id ver 0), (1, .int .u8 (c.toNat : Int))], H⟩) (le_slH ⟨rfl, rfl, trivial⟩) ?_)))
  clear hK1 K1
  refine AW.rgs rfl fun K1 hK1 => ?_
  refine mv rfl rfl ?_
  refine b_op rfl (o_callA rfl rfl rfl rfl (c_copyCheck hg ?_))
  refine b_nil (hK1 _ (AW.to (to_le (s' := ⟨[(0, .ptr id ver 0), (1, .int .u8 (c.toNat : Int))], (id, ver, .arr 2 56 [.ptr id ver 0, .ar aid aver 1 0 l.length]) :: H⟩) (le_slH ⟨rfl, rfl, trivial⟩) ?_)))
  clear hK1 K1
  have ha1 : hget ((id, ver, AObj.arr 2 56 [.ptr id ver 0, .ar aid aver 1 0 l.length]) :: H) aid = some (aver, .arr eByte.k 5 (eByte.E l)) := hget_1 hid ha
  refine AW.rgs rfl fun K1 hK1 => ?_
  refine mv rfl rfl ?_
  refine mv rfl rfl ?_
  refine bv rfl (v_nilP rfl hget_0) ?_
  refine bv rfl (v_fieldAddrP fo56_1 rfl hget_0) ?_
  refine bv rfl (v_loadP ty54 rfl hget_0 (l_lit rfl rfl)) ?_
  refine mv rfl rfl ?_
  refine b_op rfl (o_bsl rfl rfl (as_of (cs := [HV.int .u8 (c.toNat : Int)]) ty54 ty5 rfl rfl rfl rfl rfl) ?_)
  refine b_op rfl (o_appE eByte (l := l) (m := [c]) rfl rfl ty54 ty54 ty5 rfl ha1 rfl rfl rfl hfit (fun av => ?_))
  refine bv rfl (v_nilP rfl (hget_1 (fun e => hid e.symm) hget_0)) ?_
  refine bv rfl (v_fieldAddrP fo56_1 rfl (hget_1 (fun e => hid e.symm) hget_0)) ?_
  refine b_op rfl (o_store (cs := [.ar aid av 1 0 (l ++ [c]).length]) (zs := [.ptr id ver 0, .ar aid av 1 0 (l ++ [c]).length]) rfl rfl rfl ty54 rfl (hget_1 (fun e => hid e.symm) hget_0) rfl rfl rfl ?_)
  refine b_nil (hK1 _ (AW.to (to_le (s' := ⟨[], (id, ver, .arr 2 56 [.ptr id ver 0, .ar aid av 1 0 (l ++ [c]).length]) :: (aid, av, .arr 1 5 (eByte.E (l ++ [c]))) :: H⟩) ⟨leS_get trivial, fun j x hx => ?_⟩ ?_)))
  · simp only [hget] at hx ⊢
    by_cases h1 : j = id
    · subst h1; simpa using hx
    · rw [if_neg h1] at hx ⊢
      by_cases h2 : j = aid
      · rw [if_pos h2] at hx ⊢; exact hx
      · rw [if_neg h2] at hx
        rw [if_neg h2, if_neg h1]
        exact hx
  clear hK1 K1
  refine AW.rgs rfl fun K1 hK1 => ?_
  refine mv rfl rfl ?_
  refine b_nil (hK1 _ (AW.to (to_le (s' := ⟨[(4, .v .nilIface)], (id, ver, .arr 2 56 [.ptr id ver 0, .ar aid av 1 0 (l ++ [c]).length]) :: (aid, av, .arr 1 5 (eByte.E (l ++ [c]))) :: H⟩) (le_slH ⟨rfl, trivial⟩) ?_)))
  clear hK1 K1
  refine AW.ret ⟨.inr rfl, ?_⟩
  simp only [go_sem]
  exact ⟨_, _, Conv.refl _ _, hK av⟩
end Go.AW

/- strings.Builder: the text. -/
namespace Go.Proofs
open Go

/-- what a call may have changed: block g, and new ones -/
def But (g : Nat) (w w' : World) : Prop := Go.AW.Same w w' ∧ w.heap.size ≤ w'.heap.size ∧ ∀ k, k < w.heap.size → k ≠ g → w'.heap[k]? = w.heap[k]?

set_option maxHeartbeats 2000000 in
set_option maxRecDepth 100000 in
theorem Tryz.bldS_nil (b g : Nat) (w : World) (c0 : w.cell? ⟨b, 1, none⟩ = some (.slice none 0 0)) :
    Calls Tryz.prog 33 #[.pointer (some ⟨b, 0, none⟩)] w fun e w' => e = .returned (.string ⟨#[]⟩) ∧ But g w w' := by
  have hUS : ∀ (W : World) (q : Option Addr), (Builtin.unsafeString_ #[84, 3] 9 #[.pointer q, .int .i64 0]).run Tryz.prog W = .ok (.string .empty) W := fun W q => Lib.run_unsafeString_none W _ _ _ q
  have c1 : w.drew.cell? ⟨b, 1, none⟩ = some (.slice none 0 0) := c0
  have hSD : (Builtin.unsafeSliceData_ #[54] 84 #[.slice none 0 0]).run Tryz.prog w.drew = .ok (.pointer none) w.drew := rfl
  have mixed : Tryz.prog.follows .mixedOrders = true := by kernel_rfl
  go_enter Tryz.func33, Tryz.ntmps33
  go_wp2
  go_region_o
  all_goals (go_wp2; go_ret; exact ⟨rfl, ⟨rfl, rfl, rfl⟩, Nat.le_refl _, fun _ _ _ => rfl⟩)

set_option maxHeartbeats 2000000 in
set_option maxRecDepth 100000 in
theorem Tryz.bldS_room (b g cap : Nat) (w : World) (hc0 : cap ≠ 0) (c0 : w.cell? ⟨b, 1, none⟩ = some (.slice (some ⟨g, 0, none⟩) 0 cap)) :
    Calls Tryz.prog 33 #[.pointer (some ⟨b, 0, none⟩)] w fun e w' => e = .returned (.string ⟨#[]⟩) ∧ But g w w' := by
  have hUS : ∀ (W : World) (q : Option Addr), (Builtin.unsafeString_ #[84, 3] 9 #[.pointer q, .int .i64 0]).run Tryz.prog W = .ok (.string .empty) W := fun W q => Lib.run_unsafeString_none W _ _ _ q
  have c1 : w.drew.cell? ⟨b, 1, none⟩ = some (.slice (some ⟨g, 0, none⟩) 0 cap) := c0
  have hSD : (Builtin.unsafeSliceData_ #[54] 84 #[.slice (some ⟨g, 0, none⟩) 0 cap]).run Tryz.prog w.drew = .ok (.pointer (some ⟨g, 0, none⟩)) w.drew := Lib.run_unsafeSliceData_row _ _ _ _ _ _ hc0
  clear hc0
  have mixed : Tryz.prog.follows .mixedOrders = true := by kernel_rfl
  go_enter Tryz.func33, Tryz.ntmps33
  go_wp2
  go_region_o
  all_goals (go_wp2; go_ret; exact ⟨rfl, ⟨rfl, rfl, rfl⟩, Nat.le_refl _, fun _ _ _ => rfl⟩)

set_option maxHeartbeats 2000000 in
set_option maxRecDepth 100000 in
theorem Tryz.bldS_noroom (b g : Nat) (cur : Array Value) (fr : Nat × Nat) (w : World) (hlt : b < w.heap.size) (c0 : w.cell? ⟨b, 1, none⟩ = some (.slice (some ⟨g, 0, none⟩) 0 0)) (hg : w.heap[g]? = some (.cells cur 5 fr)) :
    Calls Tryz.prog 33 #[.pointer (some ⟨b, 0, none⟩)] w fun e w' => e = .returned (.string ⟨#[]⟩) ∧ But g w w' := by
  have hUS : ∀ (W : World) (q : Option Addr), (Builtin.unsafeString_ #[84, 3] 9 #[.pointer q, .int .i64 0]).run Tryz.prog W = .ok (.string .empty) W := fun W q => Lib.run_unsafeString_none W _ _ _ q
  have c1 : w.drew.cell? ⟨b, 1, none⟩ = some (.slice (some ⟨g, 0, none⟩) 0 0) := c0
  have hSD : (Builtin.unsafeSliceData_ #[54] 84 #[.slice (some ⟨g, 0, none⟩) 0 0]).run Tryz.prog w.drew = .ok (.pointer (some ⟨w.drew.heap.size, 0, none⟩)) (w.drew.alloc (.view ⟨g, 0, none⟩ 5)) :=
    Lib.run_unsafeSliceData_zero w.drew _ _ 5 Tryz.underlying84 ⟨g, 0, none⟩ 0 (5, cur.size) (by have hg' : w.drew.heap[g]? = some (.cells cur 5 fr) := hg; simp [World.shape?, hg'])
  have c2 : (w.drew.alloc (.view ⟨g, 0, none⟩ 5)).cell? ⟨b, 1, none⟩ = some (.slice (some ⟨g, 0, none⟩) 0 0) := by
    have e : (w.drew.alloc (.view ⟨g, 0, none⟩ 5)).heap[b]? = w.heap[b]? := Lib.alloc_old w.drew _ b hlt
    have h1 : (w.drew.alloc (.view ⟨g, 0, none⟩ 5)).cell? ⟨b, 1, none⟩ = w.cell? ⟨b, 1, none⟩ := by simp only [World.cell?, e]
    rw [h1]; exact c0
  have c3 : (w.alloc (.view ⟨g, 0, none⟩ 5)).drew.cell? ⟨b, 1, none⟩ = some (.slice (some ⟨g, 0, none⟩) 0 0) := c2
  have mixed : Tryz.prog.follows .mixedOrders = true := by kernel_rfl
  go_enter Tryz.func33, Tryz.ntmps33
  go_wp2
  go_region_o
  all_goals (go_wp2; go_ret; exact ⟨rfl, ⟨rfl, rfl, rfl⟩, by show w.heap.size ≤ (w.heap.push _).size; rw [Array.size_push]; omega, fun k hk _ => Lib.alloc_old w.drew _ k hk⟩)

set_option maxHeartbeats 2000000 in
set_option maxRecDepth 100000 in
theorem Tryz.bldS_some (b g cap : Nat) (cur : Array Value) (fr : Nat × Nat) (l : List UInt8) (w : World) (h0 : l ≠ []) (c0 : w.cell? ⟨b, 1, none⟩ = some (.slice (some ⟨g, 0, none⟩) l.length cap)) (hg : w.heap[g]? = some (.cells cur 5 fr)) (hcap : l.length ≤ cap) (hsz : cur.size = cap) (hcm : cap ≤ maxLen)
    (hcell : ∀ (j : Nat) (x : UInt8), l[j]? = some x → cur[j]? = some (.int .u8 x.toNat)) :
    Calls Tryz.prog 33 #[.pointer (some ⟨b, 0, none⟩)] w fun e w' => e = .returned (.string ⟨l.toArray⟩) ∧ But g w w' := by
  have hl0 : l.length ≠ 0 := by simpa using h0
  have c1 : w.drew.cell? ⟨b, 1, none⟩ = some (.slice (some ⟨g, 0, none⟩) l.length cap) := c0
  have hSD : (Builtin.unsafeSliceData_ #[54] 84 #[.slice (some ⟨g, 0, none⟩) l.length cap]).run Tryz.prog w.drew = .ok (.pointer (some ⟨g, 0, none⟩)) w.drew := Lib.run_unsafeSliceData_row _ _ _ _ _ _ (by omega)
  have hUS : (Builtin.unsafeString_ #[84, 3] 9 #[.pointer (some ⟨g, 0, none⟩), .int .i64 l.length]).run Tryz.prog w.drew = .ok (.string ⟨l.toArray⟩) (w.drew.freeze ⟨g, 0, none⟩ l.length) := by
    refine Lib.run_unsafeString_row w.drew 84 3 9 5 Tryz.underlying84 (by kernel_rfl) g cur.size (by have hg' : w.drew.heap[g]? = some (.cells cur 5 fr) := hg; simp [World.shape?, hg']) l h0 (by omega) (by unfold maxLen at hcm; omega) ?_
    intro j x hx
    have hg' : w.drew.heap[g]? = some (.cells cur 5 fr) := hg
    rw [Addr.add_lit, Nat.zero_add, Lib.cell_of_heap hg']
    exact hcell j x hx
  have hfz : But g w (w.drew.freeze ⟨g, 0, none⟩ l.length) := by
    unfold World.freeze
    rw [if_neg hl0]
    refine ⟨⟨rfl, rfl, rfl⟩, by show w.heap.size ≤ (w.heap.modify g _).size; simp, fun k hk hne => ?_⟩
    show (w.heap.modify g _)[k]? = _
    rw [Array.getElem?_modify, if_neg (fun e => hne e.symm)]
  clear hcell hsz hcap hcm h0 hl0 hg
  have mixed : Tryz.prog.follows .mixedOrders = true := by kernel_rfl
  go_enter Tryz.func33, Tryz.ntmps33
  go_wp2
  go_region_o
  all_goals (go_wp2; go_ret; exact ⟨rfl, hfz⟩)
end Go.Proofs

/- strings.Builder: the text, and the writing of texts, as contracts. -/
namespace Go.AW
open Go Go.Proofs Go.Lib

theorem repL_byt {w : World} {μ : Mu} : ∀ {l : List UInt8} {vs : List Value}, RepL w μ (l.map fun b => HV.int .u8 (b.toNat : Int)) vs → vs = l.map fun b => Value.int .u8 (b.toNat : Int)
  | [], vs, h => h
  | x :: l, vs, h => by
    obtain ⟨v, vs', rfl, hx, hr⟩ := h
    obtain ⟨rfl, _⟩ := hx
    rw [repL_byt hr]
    rfl

theorem c_String {H : Heap} {K : HV → Heap → Prop} {id ver aid aver : Nat} {u : Bool} {l : List UInt8} (hg : hget H id = some (ver, bldO id ver aid aver u l)) (ha : hget H aid = some (aver, bytO l)) (hK : ∀ av, K (.str l) ((aid, av, .arr 1 5 []) :: H)) :
    ACall Tryz.prog 33 [.ptr id ver 0] H K := by
  refine ⟨enters' Tryz.func33 rfl rfl, fun μ w vs hs hr => ?_⟩
  obtain ⟨x, xs, rfl, hr, hn⟩ := hr
  cases hn
  obtain ⟨lo, hl, hor⟩ := hs.has _ _ _ hg
  obtain ⟨la, hla, hora⟩ := hs.has _ _ _ ha
  have hle : ∀ v ob j (y : Nat × AObj), hget ((aid, v, ob) :: H) j = some y ↔ hget (hset H aid v ob) j = some y := fun v ob j y => by simp only [hget, hget_hset]
  have fin : ∀ (g : Nat) (w' : World), (∀ b, μ.loc aid = some (aver, some b) → b = g) → (la = none → w.heap.size ≤ g) → l.length ≤ maxLen → But g w w' → ∃ v r H' μ', Ending.returned (.string ⟨l.toArray⟩) = .returned v ∧ K r H' ∧ SR w' μ' H' ∧ Rep w' μ' r v ∧ Evo w μ w' μ' := by
    intro g w' hb hgn hlen ⟨h1, h2, h3⟩
    have hold : ∀ b, b < w.heap.size → (∀ ver, μ.loc aid ≠ some (ver, some b)) → w'.heap[b]? = w.heap[b]? := fun b hb1 hb2 => by
      by_cases e : b = g
      · cases la with
        | none => exact absurd (hgn rfl) (by omega)
        | some b0 =>
          have := hb b0 hla
          subst this
          subst e
          exact absurd hla (hb2 _)
      · exact h3 b hb1 e
    have hsr := hs.repl aid none (.arr 1 5 []) h1 h2 hold (fun b hb => by cases hb) rfl
    have hE := Evo.repl hs aid none h1 h2 hold (fun b hb => by cases hb)
    exact ⟨_, .str l, _, μ.set aid none, rfl, hK μ.nx, hsr.le (hle _ _), ⟨rfl, hlen⟩, hE⟩
  rcases hr with ⟨b, hl', rfl⟩ | ⟨hd, _⟩
  · rw [hl] at hl'
    cases hl'
    obtain ⟨h1, cur, vs', rest, hrow, hcl, hrl⟩ := hor
    obtain ⟨v0, vs1, rfl, r0, v1, vs2, rfl, r1, hn⟩ := hrl
    cases hn
    have hrow2 := hrow
    obtain ⟨lo', hi', hbk, hfr⟩ := hrow2
    have hc1 : cur[1]? = some v1 := by rw [← Array.getElem?_toList, hcl]; rfl
    have hcell : w.cell? ⟨b, 1, none⟩ = some v1 := by rw [Lib.cell_of_heap hbk]; exact hc1
    have hlt : b < w.heap.size := by
      rcases Nat.lt_or_ge b w.heap.size with h' | h'
      · exact h'
      · simp [Array.getElem?_eq_none h'] at hbk
    rcases r1 with ⟨la', hla', ⟨rfl, rfl, h0, _⟩ | ⟨g, cap, curg, e, rfl, rfl, hnc, hcm, hrowg, hszg⟩⟩ | ⟨hd, _⟩
    · have hln := List.eq_nil_of_length_eq_zero h0
      subst hln
      refine (Tryz.bldS_nil b w.heap.size w hcell).mono ?_
      rintro e w' ⟨rfl, hb⟩
      exact fin _ w' (fun b hb => by rw [hla'] at hb; cases hb) (fun _ => Nat.le_refl _) (Nat.zero_le _) hb
    · rw [hla] at hla'
      cases hla'
      obtain ⟨_, cur2, vs2, rest2, hrow2, hcl2, hrl2⟩ := hora
      obtain ⟨lo2, hi2, hbg, hfr2⟩ := hrow2
      obtain ⟨lo3, hi3, hbg3, hfr3⟩ := hrowg
      rw [hbg] at hbg3
      cases hbg3
      have hvs := repL_byt hrl2
      subst hvs
      have hb1 : ∀ b, μ.loc aid = some (aver, some b) → b = g := fun b hb => by rw [hla] at hb; cases hb; rfl
      by_cases h0 : l = []
      · subst h0
        by_cases hc0 : cap = 0
        · subst hc0
          refine (Tryz.bldS_noroom b g curg _ w hlt hcell hbg).mono ?_
          rintro e w' ⟨rfl, hb⟩
          exact fin g w' hb1 (fun e => by cases e) (Nat.zero_le _) hb
        · refine (Tryz.bldS_room b g cap w hc0 hcell).mono ?_
          rintro e w' ⟨rfl, hb⟩
          exact fin g w' hb1 (fun e => by cases e) (Nat.zero_le _) hb
      · refine (Tryz.bldS_some b g cap curg _ l w h0 hcell hbg hnc (by omega) hcm fun j x hj => ?_).mono ?_
        · rw [← Array.getElem?_toList, hcl2, List.getElem?_append_left (by
            have := (List.getElem?_eq_some_iff.1 hj).1
            simpa using this), List.getElem?_map, hj]
          rfl
        · rintro e w' ⟨rfl, hb⟩
          exact fin g w' hb1 (fun e => by cases e) (by omega) hb
    · exact absurd hla (hd.2 _)
  · exact absurd hl (hd.2 _)
end Go.AW

/- The letters that can follow in a set of states. -/
namespace Go.AW
open Go
open Classical in
noncomputable def m_language_collect (g : TLabelsStatesEdges) (set : List Int) : Option (List UInt8) :=
  if 0 ≤ g.1 ∧ g.1 ≤ 16 ∧ ∀ c ∈ letters.take g.1.toNat, ∃ b, m_language_step g set (c.toNat : Int) = some b then
    some ((letters.take g.1.toNat).filter fun c => decide (stpM g set c ≠ []))
  else none
end Go.AW

/- language.collect with the function that writes into a strings.Builder. -/
namespace Go.AW
open Go Go.Proofs
set_option linter.unusedVariables false

set_option maxRecDepth 100000 in
theorem c_letters1 {H : Heap} {K : HV → Heap → Prop} {id ver aid aver : Nat} {u : Bool} {l : List UInt8} {c : UInt8} (hid : aid ≠ id) (hg : hget H id = some (ver, bldO id ver aid aver u l)) (ha : hget H aid = some (aver, bytO l)) (hfit : fits 1 (l.length + 1))
    (hK : ∀ av, K (.tup []) ((id, ver, bldO id ver aid av true (l ++ [c])) :: (aid, av, bytO (l ++ [c])) :: H)) : ACall Tryz.prog 31 [.int .u8 (c.toNat : Int), .ptr id ver 0] H K := by
  refine ACall.of_body Tryz.func31 rfl rfl (Nat.le_of_ble_eq_true rfl) ?_
  unfold Tryz.f31
  dsimp only [enumS, Nat.reduceAdd]
  refine AW.rg rfl fun K1 hK1 => ?_
  refine mv rfl rfl ?_
  refine b_op rfl (o_callA rfl rfl rfl rfl (c_WriteByte hid hg ha hfit fun av => ?_))
  refine b_nil (hK1 _ ?_)
  refine ⟨.inl rfl, ?_⟩
  simp only [go_sem]
  exact ⟨_, _, Conv.refl _ _, hK av⟩

set_option maxRecDepth 100000 in
theorem c_collect {g : TLabelsStatesEdges} {set : List Int} {r : List UInt8} {H : Heap} {K : HV → Heap → Prop} {id ver aid aver : Nat} {u : Bool} {l : List UInt8} (hid : aid ≠ id) (hg : hget H id = some (ver, bldO id ver aid aver u l)) (ha : hget H aid = some (aver, bytO l))
    (h : m_language_collect g set = some r) (hl : (l ++ r).length ≤ 1048576) (hK : ∀ u' av, K (.tup []) ((id, ver, bldO id ver aid av u' (l ++ r)) :: (aid, av, bytO (l ++ r)) :: H)) :
    ACall Tryz.prog 30 [HV.agg [HV.int .i64 g.1, HV.int .i64 g.2.1, slE eFromLabelTo g.2.2], slE eInt set, .fn (.func 31) [] [.ptr id ver 0]] H K := by
  unfold m_language_collect at h
  split at h
  · rename_i hc
    cases h
    obtain ⟨h0, h16, hst⟩ := hc
    obtain ⟨gl, gs, es⟩ := g
    dsimp only at h0 h16 hst hl hK ⊢
    obtain ⟨L, rfl⟩ := Int.eq_ofNat_of_zero_le h0
    simp only [Int.toNat_natCast] at hst hl hK
    have hL : L ≤ letters.length := by show L ≤ 16; omega
    let p : UInt8 → Bool := fun c => decide (stpM ((L : Int), gs, es) set c ≠ [])
    have hpre : ∀ i, i ≤ L → (l ++ (letters.take i).filter p).length ≤ 1048576 := fun i hi => by
      refine Nat.le_trans ?_ hl
      simp only [List.length_append]
      have : ((letters.take i).filter p).length ≤ ((letters.take L).filter p).length := by
        refine (List.Sublist.filter p ?_).length_le
        have e : letters.take i = (letters.take L).take i := by rw [List.take_take, Nat.min_eq_left hi]
        rw [e]
        exact List.take_sublist _ _
      exact Nat.add_le_add_left this _
    refine ACall.of_body Tryz.func30 rfl rfl (Nat.le_of_ble_eq_true rfl) ?_
    unfold Tryz.f30
    dsimp only [enumS, Nat.reduceAdd]
    refine AW.rgs rfl fun K1 hK1 => ?_
    refine b_op rfl (o_box rfl rfl rfl ?_)
    refine b_nil (hK1 _ (AW.to (to_le (s' := ⟨[(1, slE eInt set), (2, .fn (.func 31) [] [.ptr id ver 0]), (3, HV.fptr [HV.int .i64 (L : Int), HV.int .i64 gs, slE eFromLabelTo es] 0)], H⟩) (le_slH ⟨rfl, rfl, rfl, trivial⟩) ?_)))
    clear hK1 K1
    refine AW.rgs rfl fun K1 hK1 => ?_
    refine bv rfl (v_fieldAddrF fo24_0 rfl) ?_
    refine bv rfl (v_loadF ty3 rfl (l_lit rfl rfl)) ?_
    refine mv rfl rfl ?_
    refine b_nil (hK1 _ (AW.to (to_le (s' := ⟨[(1, slE eInt set), (2, .fn (.func 31) [] [.ptr id ver 0]), (3, HV.fptr [HV.int .i64 (L : Int), HV.int .i64 gs, slE eFromLabelTo es] 0), (9, .int .i64 (L : Int)), (10, .int .i64 ((0 : Nat) : Int))], H⟩) (le_slH ⟨rfl, rfl, rfl, rfl, rfl, trivial⟩) ?_)))
    clear hK1 K1
    refine AW.block ?_
    refine AW.loopS (fun q : Nat × Bool × Nat × Heap => ⟨[(1, slE eInt set), (2, .fn (.func 31) [] [.ptr id ver 0]), (3, HV.fptr [HV.int .i64 (L : Int), HV.int .i64 gs, slE eFromLabelTo es] 0), (9, .int .i64 (L : Int)), (10, .int .i64 (q.1 : Int))], q.2.2.2⟩)
      (fun q => q.1 ≤ L ∧ hget q.2.2.2 id = some (ver, bldO id ver aid q.2.2.1 q.2.1 (l ++ (letters.take q.1).filter p)) ∧ hget q.2.2.2 aid = some (q.2.2.1, bytO (l ++ (letters.take q.1).filter p)) ∧ ∀ j, j ≠ id → j ≠ aid → hget q.2.2.2 j = hget H j) (fun q => L - q.1) (0, u, aver, H) (AS.le_refl _) ⟨Nat.zero_le _, by simpa using hg, by simpa using ha, fun _ _ _ => rfl⟩ ?_
    rintro ⟨i, u1, av1, H1⟩ ⟨hi, hg1, ha1, ho1⟩
    dsimp only at hi hg1 ha1 ho1 ⊢
    refine AW.rgs rfl fun K1 hK1 => ?_
    refine bv rfl (v_bin rfl rfl b_lss) ?_
    refine b_nil (hK1 _ ?_)
    clear hK1 K1
    refine AW.cseq rfl (fun hc => ?_) (fun hc => ?_)
    · have hi' : i < L := by have := of_decide_eq_true hc; omega
      have hil : i < letters.length := by omega
      have hx : idx ([48, 49, 50, 51, 52, 53, 54, 55, 56, 57, 97, 98, 99, 100, 101, 102] : List UInt8) (i : Int) = some letters[i] := ix (l := letters) hil
      obtain ⟨b, hb⟩ := hst letters[i] (List.mem_take_iff_getElem.2 ⟨i, by omega, rfl⟩)
      have hsb : stpM ((L : Int), gs, es) set letters[i] = b := by unfold stpM; rw [hb]; rfl
      have htk : (letters.take (i + 1)).filter p = (letters.take i).filter p ++ if b = [] then [] else [letters[i]] := by
        rw [List.take_add_one, List.getElem?_eq_getElem hil, List.filter_append]
        congr 1
        show ([letters[i]] : List UInt8).filter p = _
        by_cases h : b = []
        · rw [if_pos h]
          simp [p, hsb, h]
        · rw [if_neg h]
          simp [p, hsb, h]
      refine AW.skip ?_
      refine AW.seq (AW.block ?_)
      refine AW.rgs rfl fun K1 hK1 => ?_
      refine mv rfl rfl ?_
      refine mv rfl rfl ?_
      refine b_nil (hK1 _ (AW.to (to_le (s' := ⟨[(1, slE eInt set), (2, .fn (.func 31) [] [.ptr id ver 0]), (3, HV.fptr [HV.int .i64 (L : Int), HV.int .i64 gs, slE eFromLabelTo es] 0), (6, .int .i64 (i : Int)), (9, .int .i64 (L : Int)), (10, .int .i64 (i : Int))], H1⟩) (le_slH ⟨rfl, rfl, rfl, rfl, rfl, rfl, trivial⟩) ?_)))
      clear hK1 K1
      refine AW.rgs rfl fun K1 hK1 => ?_
      refine mv rfl rfl ?_
      refine bv rfl (v_idxS ty9 rfl rfl hx) ?_
      refine mv rfl rfl ?_
      refine b_nil (hK1 _ (AW.to (to_le (s' := ⟨[(1, slE eInt set), (2, .fn (.func 31) [] [.ptr id ver 0]), (3, HV.fptr [HV.int .i64 (L : Int), HV.int .i64 gs, slE eFromLabelTo es] 0), (7, .int .u8 (letters[i].toNat : Int)), (9, .int .i64 (L : Int)), (10, .int .i64 (i : Int))], H1⟩) (le_slH ⟨rfl, rfl, rfl, rfl, rfl, rfl, trivial⟩) ?_)))
      clear hK1 K1
      refine AW.rgs rfl fun K1 hK1 => ?_
      refine bv rfl (v_loadF ty24 rfl (l_litA rfl (Nat.le_of_ble_eq_true rfl) rfl)) ?_
      refine mv rfl rfl ?_
      refine mv rfl rfl ?_
      refine b_op rfl (o_call rfl rfl rfl rfl (ACallD.pure0 (w_language_step hb)) ?_)
      refine bv rfl (v_lenF rfl rfl ty25 rfl) ?_
      refine bv rfl (v_bin rfl rfl b_gtr) ?_
      refine b_nil (hK1 _ (AW.to (to_le (s' := ⟨[(1, slE eInt set), (2, .fn (.func 31) [] [.ptr id ver 0]), (3, HV.fptr [HV.int .i64 (L : Int), HV.int .i64 gs, slE eFromLabelTo es] 0), (7, .int .u8 (letters[i].toNat : Int)), (9, .int .i64 (L : Int)), (10, .int .i64 (i : Int)), (20, .bool (decide ((0 : Int) < (b.length : Int))))], H1⟩) (le_slH ⟨rfl, rfl, rfl, rfl, rfl, rfl, rfl, trivial⟩) ?_)))
      clear hK1 K1
      refine AW.cond rfl (fun hc => ?_) (fun hc => ?_)
      · have hb0 : b ≠ [] := fun e => by rw [e] at hc; simp at hc
        rw [if_neg hb0] at htk
        have hlen := hpre i hi
        refine AW.rg rfl fun K1 hK1 => ?_
        refine mv rfl rfl ?_
        refine mv rfl rfl ?_
        refine b_op rfl (o_callA rfl rfl rfl rfl (c_letters1 hid hg1 ha1 ⟨by omega, by simp only [maxLen]; omega⟩ fun av => ?_))
        refine b_nil (hK1 _ ?_)
        clear hK1 K1
        refine AW.rg rfl fun K2 hK2 => ?_
        refine bv rfl (v_bin rfl rfl b_add) ?_
        refine mv rfl rfl ?_
        refine b_nil (hK2 _ ?_)
        clear hK2 K2
        rw [cnt_next (by omega : L ≤ 9223372036854775807) hi']
        refine ⟨(i + 1, true, av, (id, ver, bldO id ver aid av true (l ++ (letters.take i).filter p ++ [letters[i]])) :: (aid, av, bytO (l ++ (letters.take i).filter p ++ [letters[i]])) :: H1), ⟨by dsimp only; omega, ?_, ?_, fun j j1 j2 => ?_⟩, by dsimp only; omega, le_slH ⟨rfl, rfl, rfl, rfl, rfl, trivial⟩⟩
        · dsimp only
          rw [htk, ← List.append_assoc]
          exact hget_0
        · dsimp only
          rw [htk, ← List.append_assoc]
          exact hget_1 hid hget_0
        · dsimp only
          simp only [hget]
          rw [if_neg (by omega), if_neg (by omega)]
          exact ho1 j j1 j2
      · have hb0 : b = [] := by
          have := of_decide_eq_false hc
          exact List.eq_nil_of_length_eq_zero (by omega)
        rw [if_pos hb0, List.append_nil] at htk
        refine AW.skip ?_
        refine AW.rg rfl fun K2 hK2 => ?_
        refine bv rfl (v_bin rfl rfl b_add) ?_
        refine mv rfl rfl ?_
        refine b_nil (hK2 _ ?_)
        clear hK2 K2
        rw [cnt_next (by omega : L ≤ 9223372036854775807) hi']
        refine ⟨(i + 1, u1, av1, H1), ⟨by dsimp only; omega, ?_, ?_, ho1⟩, by dsimp only; omega, le_slH ⟨rfl, rfl, rfl, rfl, rfl, trivial⟩⟩
        · dsimp only
          rw [htk]
          exact hg1
        · dsimp only
          rw [htk]
          exact ha1
    · have hie : i = L := by have := of_decide_eq_false hc; omega
      subst hie
      refine AW.exit ?_
      refine ⟨.inl rfl, ?_⟩
      simp only [go_sem, reduceIte, Nat.reduceEqDiff]
      refine ⟨_, (id, ver, bldO id ver aid av1 u1 (l ++ (letters.take i).filter p)) :: (aid, av1, bytO (l ++ (letters.take i).filter p)) :: H, Conv.drop fun j x hx => ?_, hK u1 av1⟩
      simp only [hget] at hx
      by_cases j1 : j = id
      · subst j1
        rw [if_pos rfl] at hx
        rw [← hx]
        exact hg1
      · rw [if_neg j1] at hx
        by_cases j2 : j = aid
        · subst j2
          rw [if_pos rfl] at hx
          rw [← hx]
          exact ha1
        · rw [if_neg j2] at hx
          show hget H1 j = _
          rw [ho1 j j1 j2]
          exact hx
  · cases h
end Go.AW

/- slices.Clone of numbers (laid as the kit's contract asks). -/
namespace Go.Proofs
open Go
def Tryz.cloneI_ren : Go.Shelf.Ren := ⟨fun | 41 => 29 | n => n, fun | 22 => 25 | 23 => 3 | 4 => 4 | n => n, fun | n => n⟩
theorem Tryz.cloneI : Go.Proofs.SlLaysE0.n41 Tryz.prog Tryz.cloneI_ren where
  mixed := by kernel_rfl
  f41 := ⟨"slices.Clone[[]int,int]", by decide, Tryz.func29.trans (congrArg some (by kernel_rfl))⟩
  t4 := Tryz.underlying4
  a4 := Tryz.isAgg4
  z4 := Tryz.sizeOf4
  v4 := Tryz.zeroValue4
  t22 := Tryz.underlying25
  a22 := Tryz.isAgg25
  z22 := Tryz.sizeOf25
  v22 := Tryz.zeroValue25
end Go.Proofs

namespace Go.AW
open Go Go.Proofs Go.Sort Go.Lib

theorem clone_step {l : List Int} (h : l.length ≤ 1099511627776) {H : Heap} {K : HV → Heap → Prop} (id : Nat) (hnil : l = [] → K (.v (.slice none 0 0)) H) (hK : ∀ ver, K (.ar id ver 1 0 l.length) (hset H id ver (.arr 1 3 (l.map (HV.int .i64))))) : ACall Tryz.prog 29 [.sl 1 l.length (l.map (HV.int .i64))] H K := by
  refine ⟨enters' Tryz.func29 rfl rfl, fun μ w vs hs hr => ?_⟩
  obtain ⟨x, xs, rfl, hr, hn⟩ := hr
  cases hn
  obtain ⟨_, _, hm, ⟨h0, rfl⟩ | ⟨b, off, cap, vs, rfl, hcap, hno, hsg, hrl⟩⟩ := hr
  · refine (AnyE.slices_Clone_nil Tryz.cloneI _ _ w).mono ?_
    rintro e w' ⟨rfl, rfl⟩
    exact ⟨_, _, _, μ, rfl, hnil (List.eq_nil_of_length_eq_zero h0), hs, rfl, Evo.refl _ _⟩
  · obtain ⟨hvs, hreps⟩ := repL_ints hrl
    subst hvs
    obtain ⟨_, i0, hi0, hz1, hz2, hz0⟩ := ty_spec ty3
    refine (AnyE.slices_Clone Tryz.cloneI i0 _ 1 8 hi0 hz0 hz1 hz2 rfl (by decide) (fun w => Tryz.sizeOf3 w) b off l.length cap (l.map (Value.int .i64)) w (by simp) hm (by omega) (fun j u hj => hsg.cell hj) (fun u hu => by
      obtain ⟨x, _, rfl⟩ := List.mem_map.1 hu; rfl)).mono ?_
    rintro e w' ⟨v', rfl, ⟨_, ⟨rfl, _⟩ | ⟨g, cap', cur, rfl, hg1, hg2, hc1, hc2, hc3, hc4⟩⟩, hnn, hbel⟩
    · exact absurd rfl hnn
    · have hsame : Same w w' := ⟨hbel.os, hbel.tape, hbel.output⟩
      have hold : ∀ k, k < w.heap.size → w'.heap[k]? = w.heap[k]? := hbel.block
      have hE := Evo.repl (w' := w') hs id (some g) hsame hbel.size (fun b hb _ => hold b hb) (fun b hb => by cases hb; exact .inl hg1)
      have hrowg : Row w' g cur 3 := ⟨0, 0, hg2, .inl (Nat.le_refl _)⟩
      have hsr := hs.repl (w' := w') id (some g) (.arr 1 3 (l.map (HV.int .i64))) hsame hbel.size (fun b hb _ => hold b hb) (fun b hb => by cases hb; exact .inl hg1)
        ⟨fun c hc => by obtain ⟨x, _, rfl⟩ := List.mem_map.1 hc; rfl, cur, l.map (Value.int .i64), cur.toList.drop (l.length * 1), hrowg, by rw [← hc4, List.take_append_drop], repL_map.2 fun x hx => Rep.evo hE hs.ok _ _ (hreps x hx)⟩
      refine ⟨_, .ar id μ.nx 1 0 l.length, _, μ.set id (some g), rfl, hK μ.nx, hsr, .inl ⟨some g, by simp [Mu.set], .inr ⟨g, cap', cur, 3, rfl, rfl, hc1, hc2, hrowg, by omega⟩⟩, hE⟩

theorem w_slices_Clone_Lint_int {l r : List Int} (h : m_slices_Clone_Lint_int l = some r) : Pure Tryz.prog 29 [slE eInt l] (· = slE eInt r) := by
  unfold m_slices_Clone_Lint_int at h
  split at h
  · rename_i hl
    cases h
    refine ACall.conv' (K := fun r H' => (l = [] ∧ r = .v (.slice none 0 0) ∧ H' = []) ∨ ∃ ver, r = .ar 0 ver 1 0 l.length ∧ H' = hset [] 0 ver (.arr 1 3 (l.map (HV.int .i64)))) (clone_step hl 0 (fun e => .inl ⟨e, rfl, rfl⟩) fun ver => .inr ⟨ver, rfl, rfl⟩) ?_
    rintro r H' (⟨rfl, rfl, rfl⟩ | ⟨ver, rfl, rfl⟩)
    · have hcl : clean (slE eInt []) := clean_slE (c := eInt) fun _ _ => ⟨trivial, trivial⟩
      exact ⟨_, _, Conv.le (Le.nil 1), rfl, hcl, rfl⟩
    · refine ⟨_, [], Conv.all 2, ?_⟩
      have hf := frz_slE eInt (D := [(0, ver, .arr 1 3 (l.map (HV.int .i64)))]) (l := l) hget_0 (fun _ _ => rfl)
      have hcl : clean (slE eInt l) := clean_slE (c := eInt) fun _ _ => ⟨trivial, trivial⟩
      have h2 := hcl
      rw [← hf] at h2
      exact ⟨hf, h2, rfl⟩
  · cases h
end Go.AW

/- Lockstep walks: a call whose body is walked in its place, with what the caller owns. -/
namespace Go.AW
open Go
section
variable {P : Program} {ro : Option Nat} {N : Nat} {s : AS} {o : Oper} {sl : List (Nat × HV)} {H : Heap} {all : Array Oper} {rest l : List Oper} {K : AS → Prop} {Q : Exit → AS → Prop}

/-- what falls off the end of a body -/
theorem AW.fin {c : Code} (h : AW P ro N c (thenQ (fun s' => s'.to (Q .normal)) Q) s) : AW P ro N c Q s := by
  intro w0 μ0 μ a w hs hE
  refine wpIn_mono (h w0 μ0 μ a w hs hE) ?_
  rintro e a' w' ⟨h1, h2, μ', s', h3, h4, h5⟩
  cases e with
  | normal =>
    obtain ⟨μ2, t, ht, hs2, E2⟩ := h3 ro N w0.heap.size μ' a' w' h4
    exact ⟨h1, h2, μ2, t, ht, hs2, h5.trans E2⟩
  | exit id => exact ⟨h1, h2, μ', s', h3, h4, h5⟩
  | goto l => exact ⟨h1, h2, μ', s', h3, h4, h5⟩
  | ret => exact ⟨h1, h2, μ', s', h3, h4, h5⟩
  | panic ch => exact absurd rfl (h1 ch)
  | outgrown => exact absurd rfl h2

end
end Go.AW

/- Maps: looking up with an answer whether there is an entry; deleting while the map is ranged over. -/
namespace Go.AW
open Go Go.MapKept
section
variable {P : Program} {ro : Option Nat} {N : Nat} {s : AS} {w w' : World} {μ : Mu} {H : Heap}

/-- no iterator over the map stands at an entry that it has just handed out -/
def calmIter (id : Nat) (H : Heap) : Prop := ∀ j v mv seen cur, hget H j = some (v, .iter id mv seen cur) → cur = false

section
variable {o : Oper} {sl : List (Nat × HV)} {H : Heap} {all : Array Oper} {rest : List Oper} {K : AS → Prop} {β : Type}
end
end
end Go.AW

/- Regions that draw their order, by the sets of the operations that are done. -/
namespace Go.AW
open Go
section
variable {P : Program} {ro : Option Nat} {N : Nat} {s : AS} {ops : Array Oper} {o : Oper} {K : AS → Prop} {G : AS → Prop} {F : List Nat → AS → Prop} {L : List Nat}

/-- the operations of L are done -/
def AnyL (P : Program) (ro : Option Nat) (N : Nat) (ops : Array Oper) (K : AS → Prop) (L : List Nat) (s : AS) : Prop :=
  ∀ (w0 : World) (μ0 : Mu) (fuel : Nat) (listed : Array Bool) (μ1 : Mu) (a1 : Act) (w1 : World), listed.size = ops.size → cnt listed ≤ fuel → (∀ i, i < ops.size → listed.getD i false = L.contains i) →
    SRel ro N w0.heap.size μ1 s a1 w1 → Evo w0 μ0 w1 μ1 → wpAnyIn (fence ro) 0 P .any ops (Post ro N (fun e s' => e = .normal ∧ K s') w0 μ0) fuel listed a1 w1

def readyL (ops : Array Oper) (L : List Nat) : List Nat := (List.range ops.size).filter fun i => !L.contains i && (da ops i).all L.contains
def allR : List Nat → (Nat → Prop) → Prop
  | [], _ => True
  | i :: l, f => f i ∧ allR l f
theorem allR_mem {f : Nat → Prop} : ∀ {l : List Nat}, allR l f → ∀ i ∈ l, f i
  | [], _, _, h => by cases h
  | j :: l, h, i, hi => by
    rcases List.mem_cons.1 hi with rfl | hi
    · exact h.1
    · exact allR_mem h.2 i hi

theorem l_step (hF : F = AnyL P ro N ops K) (hda : daOk ops = true) (rs : List Nat) (hr : readyL ops L = rs) (hne : rs.isEmpty = false) (h : allR rs fun i => AOpI P ro N ops i (F (i :: L)) s) : F L s := by
  subst hF
  intro w0 μ0 fuel listed μ1 a1 w1 hl hc hlist hs hE
  have hda' := daOk_spec hda
  obtain ⟨q, hq⟩ : ∃ q, q ∈ rs := by
    cases rs with
    | nil => cases hne
    | cons q l => exact ⟨q, List.mem_cons_self ..⟩
  have hq' := hq
  rw [← hr] at hq'
  simp only [readyL, List.mem_filter, List.mem_range, Bool.and_eq_true, Bool.not_eq_true', List.all_eq_true] at hq'
  obtain ⟨hqs, hqL, hqd⟩ := hq'
  have hqn : listed.getD q false = false := by rw [hlist q hqs]; exact hqL
  cases fuel with
  | zero =>
    have := cnt_pos (listed := listed) (i := q) (by rw [getD_tf (by omega)]; exact hqn)
    omega
  | succ fuel =>
    refine ⟨fun hr0 => ?_, fun i hi => ?_⟩
    · exfalso
      have : q ∈ Region.ready .any ops listed := by
        refine mem_ready.2 ⟨by rw [getD_tf (by omega)]; exact hqn, ops[q], by simp [hqs], fun e he hb => ?_⟩
        have hk : e.on ∈ da ops q := by
          simp only [da, Array.getElem?_eq_getElem hqs, List.mem_map, List.mem_filter]
          exact ⟨e, ⟨by simpa using he, hb⟩, rfl⟩
        rw [hlist _ (Nat.lt_trans (hda' q hqs _ hk) hqs)]
        exact hqd _ hk
      rw [hr0] at this
      cases this
    · have hdone := deps_done hi
      obtain ⟨h0, o, ho, _⟩ := mem_ready.1 hi
      have his := (Array.getElem?_eq_some_iff.1 ho).1
      have h0' := h0
      rw [getD_tf (by omega), hlist i his] at h0'
      have hir : i ∈ rs := by
        rw [← hr]
        simp only [readyL, List.mem_filter, List.mem_range, Bool.and_eq_true, Bool.not_eq_true', List.all_eq_true]
        refine ⟨his, h0', fun k hk => ?_⟩
        rw [← hlist k (Nat.lt_trans (hda' i his k hk) his)]
        exact hdone k hk
      refine allR_mem h i hir w0 μ0 μ1 a1 w1 _ _ hs hE fun μ2 s2 a2 w2 hk hs2 hE2 => hk w0 μ0 fuel _ μ2 a2 w2 (by simp [hl]) ?_ (fun k hk => ?_) hs2 hE2
      · have := cnt_set (listed := listed) (i := i) h0
        omega
      · by_cases hki : i = k
        · subst hki
          have : i < listed.size := by omega
          simp [this]
        · rw [getD_set_ne false hki, hlist k hk]
          simp only [List.contains_cons]
          have : (k == i) = false := by simpa using fun e => hki e.symm
          rw [this, Bool.false_or]

theorem l_done (hF : F = AnyL P ro N ops K) (hda : daOk ops = true) (hall : (List.range ops.size).all L.contains = true) (h : K s) : F L s := by
  subst hF
  intro w0 μ0 fuel listed μ1 a1 w1 hl hc hlist hs hE
  have ha : AnyAt P ro N ops (fun e s' => e = .normal ∧ K s') ops.size s := AnyAt.done hda ⟨rfl, h⟩
  refine ha w0 μ0 fuel listed μ1 a1 w1 hl hc (fun i hi => ?_) hs hE
  rw [hlist i hi, decide_eq_true hi]
  exact List.all_eq_true.1 hall i (List.mem_range.2 hi)

theorem l_go {L' : List Nat} {s' : AS} (hF : F = AnyL P ro N ops K) (hsame : (List.range ops.size).all (fun i => L.contains i == L'.contains i) = true) (h : F L' s') (hle : s.le s') : F L s := by
  subst hF
  intro w0 μ0 fuel listed μ1 a1 w1 hl hc hlist hs hE
  refine h w0 μ0 fuel listed (μ1.cut s'.heap) a1 w1 hl hc (fun i hi => ?_) (hs.weaken hle) (hE.trans (Evo.cut w1 μ1 s'.heap))
  rw [hlist i hi]
  exact eq_of_beq (List.all_eq_true.1 hsame i (List.mem_range.2 hi))

theorem l_one {fid : Nat} {mt : List Nat} (hN : okd N o.dst = true) (h : aop P fid mt o (fun s' => bops P ro N #[] [] G s') s) : AOp P ro N o G s := by
  have hk : AOp P ro N o _ s := aop_sound hN h
  intro w0 μ0 μ a w next Q hs hE hK
  refine hk w0 μ0 μ a w next Q hs hE fun μ' s' a' w' h' hs' hE' => ?_
  have hb := h' (by simp) 0 (fun k => by simp)
  have := hb w0 μ0 μ' a' w' (fun _ a w => next a w) hs' hE' (fun μ2 s2 a2 w2 hk2 hs2 hE2 => hK μ2 s2 a2 w2 hk2 hs2 hE2)
  simpa only [List.length_nil, List.range'_zero, wpOpsIn] using this
theorem aopI_to {i : Nat} (h : s.to (AOpI P ro N ops i G)) : AOpI P ro N ops i G s := fun w0 μ0 μ a w next Q hs hE hK => by
  obtain ⟨μ1, t, ht, hs1, E1⟩ := h ro N w0.heap.size μ a w hs
  exact ht w0 μ0 μ1 a w next Q hs1 (hE.trans E1) hK
theorem l_op {i : Nat} {fid : Nat} {mt : List Nat} (ho : ops[i]? = some o) (hg : o.guard = none) (hN : okd N o.dst = true) (h : aop P fid mt o (fun s' => bops P ro N #[] [] G s') s) : AOpI P ro N ops i G s := AOpI.plain ho hg (l_one hN h)
/-- the region -/
theorem AW.dl {id : Nat} {Q : Exit → AS → Prop} (hm : P.follows .mixedOrders = true) (h : ∀ K : AS → Prop, (∀ s', Q .normal s' → K s') → ∀ F : List Nat → AS → Prop, F = AnyL P ro N ops K → F [] s) : AW P ro N (.region id ops true) Q s := by
  refine AW.conseq (Q' := fun e s' => e = .normal ∧ Q .normal s') (AW.any hm ?_) fun e s1 ⟨he, h⟩ => he ▸ ⟨s1, AS.le_refl s1, h⟩
  intro w0 μ0 fuel listed μ1 a1 w1 hl hc hlist hs hE
  exact h (Q .normal) (fun _ h => h) _ rfl w0 μ0 fuel listed μ1 a1 w1 hl hc (fun i hi => by rw [hlist i hi]; simp) hs hE
theorem AW.dls {id : Nat} {y : Code} {Q : Exit → AS → Prop} (hm : P.follows .mixedOrders = true) (h : ∀ K : AS → Prop, (∀ s', AW P ro N y Q s' → K s') → ∀ F : List Nat → AS → Prop, F = AnyL P ro N ops K → F [] s) : AW P ro N (.seq (.region id ops true) y) Q s :=
  AW.seq (AW.dl hm h)
end
end Go.AW

/- Models, printed by lk.py. -/
namespace Go.AW
open Go
set_option linter.unusedVariables false
/-- groove/grooveref11.Many -/
noncomputable def m_ref11_Many (p0 : TLabelsStatesEdges) (p1 : Int) (p2 : Int) : Option (Bool) :=
  lpO (loopW (S := Int × Int) (X := Ou (Unit) (Bool)) (fun a1 =>
      jp (fun (a5 : Bool) =>
        if a5 = true then
          if p2 < (IntKind.wrap .i64 (a1.1 * (max 1 (min p0.1 256)))) then
            some (Stp.exit (Ou.ret true))
          else
            some (Stp.next (IntKind.wrap .i64 (a1.1 * (max 1 (min p0.1 256))), IntKind.wrap .i64 (a1.2 + 1)))
        else
          some (Stp.exit (Ou.go ())))
        fun k7 =>
        if a1.2 < p1 then
          k7 (decide (a1.2 < 4096))
        else
          k7 false) (1, 0)) (fun a9 =>
      jp (fun (a11 : Bool) =>
        some a11)
        fun k13 =>
        if 24 < p1 then
          k13 (decide (p1 ≤ 4096))
        else
          k13 false) some

/-- groove/word.All -/
noncomputable def m_word_All (p0 : Int) (p1 : Int) : Option ((List (List UInt8)) × Int) :=
  (m_word_known p0).bind fun x1 =>
  if (!x1) = true then
    some ([], 12)
  else
    if p1 < 0 then
      some ([], 2)
    else
      if 65536 < p1 then
        some ([], 4)
      else
        if p0 = 1 then
          (m_strings_Repeat [48] p1).bind fun x3 =>
          some ([x3], 0)
        else
          lpO (loopW (S := (List (List UInt8)) × Int) (X := Ou ((List (List UInt8))) ((List (List UInt8)) × Int)) (fun a5 =>
              if a5.2 < p1 then
                if 4096 < (IntKind.wrap .i64 (((a5.1).length : Int) * p0)) then
                  some (Stp.exit (Ou.ret ([], 4)))
                else
                  if 0 ≤ (0 : Int) ∧ (0 : Int) ≤ IntKind.wrap .i64 (((a5.1).length : Int) * p0) ∧ (IntKind.wrap .i64 (((a5.1).length : Int) * p0) : Int) * 16 ≤ 281474976710656 then
                    (loopW (S := Int × (List (List UInt8))) (X := (List (List UInt8))) (fun a11 =>
                        if a11.1 < ((a5.1).length : Int) then
                          (idx a5.1 a11.1).bind fun x15 =>
                          (loopW (S := Int × (List (List UInt8))) (X := (List (List UInt8))) (fun a17 =>
                              if a17.1 < p0 then
                                if 0 ≤ (a17.1 : Int) ∧ (a17.1 : Int) ≤ IntKind.wrap .i64 (a17.1 + 1) ∧ IntKind.wrap .i64 (a17.1 + 1) ≤ (([48, 49, 50, 51, 52, 53, 54, 55, 56, 57, 97, 98, 99, 100, 101, 102] : List UInt8).length : Int) then
                                  if x15.length + ((([48, 49, 50, 51, 52, 53, 54, 55, 56, 57, 97, 98, 99, 100, 101, 102] : List UInt8).take (IntKind.wrap .i64 (a17.1 + 1)).toNat).drop (a17.1).toNat).length ≤ maxLen then
                                    if fits 16 ((a17.2 : List (List UInt8)).length + ([x15 ++ ((([48, 49, 50, 51, 52, 53, 54, 55, 56, 57, 97, 98, 99, 100, 101, 102] : List UInt8).take (IntKind.wrap .i64 (a17.1 + 1)).toNat).drop (a17.1).toNat)]).length) then
                                      some (Stp.next (IntKind.wrap .i64 (a17.1 + 1), a17.2 ++ [x15 ++ ((([48, 49, 50, 51, 52, 53, 54, 55, 56, 57, 97, 98, 99, 100, 101, 102] : List UInt8).take (IntKind.wrap .i64 (a17.1 + 1)).toNat).drop (a17.1).toNat)]))
                                    else none
                                  else none
                                else none
                              else
                                some (Stp.exit a17.2)) (0, a11.2)).bind fun a25 =>
                          some (Stp.next (IntKind.wrap .i64 (a11.1 + 1), a25))
                        else
                          some (Stp.exit a11.2)) (0, List.replicate (0 : Int).toNat (([] : List UInt8) : List UInt8))).bind fun a27 =>
                    some (Stp.next (a27, IntKind.wrap .i64 (a5.2 + 1)))
                  else none
              else
                some (Stp.exit (Ou.go a5.1))) ([([] : List UInt8)], 0)) (fun a29 =>
              some (a29, 0)) some

/-- slices.Index[[]string,string] -/
noncomputable def m_slices_Index_Lstring_string (p0 : List (List UInt8)) (p1 : List UInt8) : Option (Int) :=
  lpO (loopW (S := Int) (X := Ou (Unit) (Int)) (fun a1 =>
      if a1 < ((p0).length : Int) then
        (idx p0 a1).bind fun x5 =>
        if p1 = x5 then
          some (Stp.exit (Ou.ret a1))
        else
          some (Stp.next (IntKind.wrap .i64 (a1 + 1)))
      else
        some (Stp.exit (Ou.go ()))) 0) (fun a7 =>
      some (-1)) some

/-- slices.Contains[[]string,string] -/
noncomputable def m_slices_Contains_Lstring_string (p0 : List (List UInt8)) (p1 : List UInt8) : Option (Bool) :=
  (m_slices_Index_Lstring_string p0 p1).bind fun x1 =>
  some (decide (0 ≤ x1))

/-- groove/groovelaw11.LanguageWords -/
noncomputable def m_law11_LanguageWords (p0 : TLabelsStatesEdges) (p1 : Int) : Option (Bool) :=
  jp (fun (a1 : Bool) =>
    if a1 = true then
      (m_law11_awake).bind fun x4 =>
      some x4
    else
      (m_language_Words p0 (Int.tmod (IntKind.wrap .i64 p1) 8)).bind fun x6 =>
      (m_word_All p0.1 (Int.tmod (IntKind.wrap .i64 p1) 8)).bind fun x8 =>
      jp (fun (a10 : Bool) =>
        if a10 = true then
          some false
        else
          lpO (loopW (S := Int × Int) (X := Ou (Int) (Bool)) (fun a13 =>
              if a13.2 < ((x8.1).length : Int) then
                jp (fun (a17 : Int) =>
                  some (Stp.next (a17, IntKind.wrap .i64 (a13.2 + 1))))
                  fun k19 =>
                  (idx x8.1 a13.2).bind fun x20 =>
                  (m_language_Accepts p0 x20).bind fun x22 =>
                  jp (fun (a24 : Bool) =>
                    if a24 = true then
                      some (Stp.exit (Ou.ret false))
                    else
                      if (!x22.1) = true then
                        k19 a13.1
                      else
                        (m_language_Words p0 (max 0 (IntKind.wrap .i64 ((Int.tmod (IntKind.wrap .i64 p1) 8) - 1)))).bind fun x27 =>
                        jp (fun (a29 : Bool) =>
                          if a29 = true then
                            some (Stp.exit (Ou.ret false))
                          else
                            k19 (IntKind.wrap .i64 (a13.1 + 1)))
                          fun k31 =>
                          if 0 < (Int.tmod (IntKind.wrap .i64 p1) 8) then
                            if x27.2 ≠ 0 then
                              k31 true
                            else
                              if 0 ≤ (0 : Int) ∧ (0 : Int) ≤ IntKind.wrap .i64 ((Int.tmod (IntKind.wrap .i64 p1) 8) - 1) ∧ IntKind.wrap .i64 ((Int.tmod (IntKind.wrap .i64 p1) 8) - 1) ≤ (x20.length : Int) then
                                (m_slices_Contains_Lstring_string x27.1 ((x20.take (IntKind.wrap .i64 ((Int.tmod (IntKind.wrap .i64 p1) 8) - 1)).toNat).drop (0 : Int).toNat)).bind fun x33 =>
                                k31 (!x33)
                              else none
                          else
                            k31 false)
                    fun k26 =>
                    if x22.2 ≠ 0 then
                      k26 true
                    else
                      if a13.1 < ((x6.1).length : Int) then
                        (idx x6.1 a13.1).bind fun x37 =>
                        k26 (!(x22.1 == (decide (x37 = x20))))
                      else
                        k26 (!(x22.1 == false))
              else
                some (Stp.exit (Ou.go a13.1))) (0, 0)) (fun a41 =>
              jp (fun (a43 : Bool) =>
                some a43)
                fun k45 =>
                if a41 = ((x6.1).length : Int) then
                  (m_law11_awake).bind fun x46 =>
                  k45 x46
                else
                  k45 false) some)
        fun k12 =>
        if x6.2 ≠ 0 then
          k12 true
        else
          k12 (decide (x8.2 ≠ 0)))
    fun k3 =>
    (m_law11_fine p0).bind fun x50 =>
    if (!x50) = true then
      k3 true
    else
      (m_ref11_Many p0 (Int.tmod (IntKind.wrap .i64 p1) 8) 300).bind fun x52 =>
      k3 x52

end Go.AW

/- The law of words. -/
namespace Go.AW
open Go
set_option linter.unusedSimpArgs false
set_option linter.unusedVariables false

section
variable {g : Gr}
end

end Go.AW

/- word.All; the law of words. -/
namespace Go.AW
open Go
set_option linter.unusedSimpArgs false
set_option linter.unusedVariables false

end Go.AW

/- Models, printed by lk.py. -/
namespace Go.AW
open Go
set_option linter.unusedVariables false
/-- groove/groovelaw11.LanguageMissing -/
noncomputable def m_law11_LanguageMissing (p0 : TLabelsStatesEdges) (p1 : Int) : Option (Bool) :=
  jp (fun (a1 : Bool) =>
    if a1 = true then
      (m_law11_awake).bind fun x4 =>
      some x4
    else
      (m_language_Missing p0 (Int.tmod (IntKind.wrap .i64 p1) 8)).bind fun x6 =>
      jp (fun (a8 : Bool) =>
        if a8 = true then
          some false
        else
          lpO (loopW (S := Int) (X := Ou (Unit) (Bool)) (fun a11 =>
              if a11 < (IntKind.wrap .i64 ((Int.tmod (IntKind.wrap .i64 p1) 8) + 1)) then
                (m_word_All p0.1 a11).bind fun x15 =>
                if x15.2 ≠ 0 then
                  some (Stp.exit (Ou.ret false))
                else
                  lpO (loopW (S := Int) (X := Ou (Unit) (Bool)) (fun a17 =>
                      if a17 < ((x15.1).length : Int) then
                        (idx x15.1 a17).bind fun x21 =>
                        (m_language_Accepts p0 x21).bind fun x23 =>
                        if x23.2 ≠ 0 then
                          some (Stp.exit (Ou.ret false))
                        else
                          jp (fun (a25 : Bool) =>
                            if a25 = true then
                              jp (fun (a28 : Bool) =>
                                some (Stp.exit (Ou.ret a28)))
                                fun k30 =>
                                if (!x23.1) = true then
                                  (m_law11_awake).bind fun x31 =>
                                  k30 x31
                                else
                                  k30 false
                            else
                              if (!x23.1) = true then
                                some (Stp.exit (Ou.ret false))
                              else
                                some (Stp.next (IntKind.wrap .i64 (a17 + 1))))
                            fun k27 =>
                            if x6.2.1 = true then
                              k27 (decide (x21 = x6.1))
                            else
                              k27 false
                      else
                        some (Stp.exit (Ou.go ()))) 0) (fun a35 =>
                      some (Stp.next (IntKind.wrap .i64 (a11 + 1)))) (fun r => some (Stp.exit (Ou.ret r)))
              else
                some (Stp.exit (Ou.go ()))) 0) (fun a37 =>
              jp (fun (a39 : Bool) =>
                some a39)
                fun k41 =>
                if (!x6.2.1) = true then
                  (m_law11_awake).bind fun x42 =>
                  k41 x42
                else
                  k41 false) some)
        fun k10 =>
        if x6.2.2 ≠ 0 then
          k10 true
        else
          if (Int.tmod (IntKind.wrap .i64 p1) 8) < ((x6.1).length : Int) then
            k10 true
          else
            if (!x6.2.1) = true then
              k10 (decide (x6.1 ≠ ([] : List UInt8)))
            else
              k10 false)
    fun k3 =>
    (m_law11_fine p0).bind fun x48 =>
    if (!x48) = true then
      k3 true
    else
      (m_ref11_Many p0 (Int.tmod (IntKind.wrap .i64 p1) 8) 300).bind fun x50 =>
      k3 x50

end Go.AW

/- The law of the first missing word. -/
namespace Go.AW
open Go
set_option linter.unusedSimpArgs false
set_option linter.unusedVariables false
section
variable {g : Gr}

end

end Go.AW

/- Models, printed by lk.py. -/
namespace Go.AW
open Go
set_option linter.unusedVariables false
/-- groove/language.Letters -/
noncomputable def m_language_Letters (p0 : TLabelsStatesEdges) (p1 : List UInt8) : Option ((List UInt8) × Int) :=
  (m_language_spells p0 p1).bind fun x1 =>
  if x1 ≠ 0 then
    some (([] : List UInt8), x1)
  else
    (m_language_states p0).bind fun x5 =>
    (m_language_ends p0 x5 p1).bind fun x7 =>
    (m_language_collect p0 x7).bind fun x10 =>
    if (([] : List UInt8) ++ x10).length ≤ 1048576 then
      some (([] : List UInt8) ++ x10, 0)
    else none

/-- groove/groovelaw11.LanguageLetters -/
noncomputable def m_law11_LanguageLetters (p0 : TLabelsStatesEdges) (p1 : List UInt8) : Option (Bool) :=
  jp (fun (a1 : Bool) =>
    if a1 = true then
      (m_law11_awake).bind fun x4 =>
      some x4
    else
      (m_language_Letters p0 p1).bind fun x6 =>
      lpO (loopW (S := (List UInt8) × Int) (X := Ou ((List UInt8)) (Bool)) (fun a8 =>
          if a8.2 < p0.1 then
            jp (fun (a12 : (List UInt8)) =>
              some (Stp.next (a12, IntKind.wrap .i64 (a8.2 + 1))))
              fun k14 =>
              if 0 ≤ (a8.2 : Int) ∧ (a8.2 : Int) ≤ IntKind.wrap .i64 (a8.2 + 1) ∧ IntKind.wrap .i64 (a8.2 + 1) ≤ (([48, 49, 50, 51, 52, 53, 54, 55, 56, 57, 97, 98, 99, 100, 101, 102] : List UInt8).length : Int) then
                if p1.length + ((([48, 49, 50, 51, 52, 53, 54, 55, 56, 57, 97, 98, 99, 100, 101, 102] : List UInt8).take (IntKind.wrap .i64 (a8.2 + 1)).toNat).drop (a8.2).toNat).length ≤ maxLen then
                  (m_language_Accepts p0 (p1 ++ ((([48, 49, 50, 51, 52, 53, 54, 55, 56, 57, 97, 98, 99, 100, 101, 102] : List UInt8).take (IntKind.wrap .i64 (a8.2 + 1)).toNat).drop (a8.2).toNat))).bind fun x17 =>
                  if x17.2 ≠ 0 then
                    some (Stp.exit (Ou.ret false))
                  else
                    if x17.1 = true then
                      if 0 ≤ (a8.2 : Int) ∧ (a8.2 : Int) ≤ IntKind.wrap .i64 (a8.2 + 1) ∧ IntKind.wrap .i64 (a8.2 + 1) ≤ (([48, 49, 50, 51, 52, 53, 54, 55, 56, 57, 97, 98, 99, 100, 101, 102] : List UInt8).length : Int) then
                        if a8.1.length + ((([48, 49, 50, 51, 52, 53, 54, 55, 56, 57, 97, 98, 99, 100, 101, 102] : List UInt8).take (IntKind.wrap .i64 (a8.2 + 1)).toNat).drop (a8.2).toNat).length ≤ maxLen then
                          k14 (a8.1 ++ ((([48, 49, 50, 51, 52, 53, 54, 55, 56, 57, 97, 98, 99, 100, 101, 102] : List UInt8).take (IntKind.wrap .i64 (a8.2 + 1)).toNat).drop (a8.2).toNat))
                        else none
                      else none
                    else
                      k14 a8.1
                else none
              else none
          else
            some (Stp.exit (Ou.go a8.1))) (([] : List UInt8), 0)) (fun a21 =>
          jp (fun (a23 : Bool) =>
            some a23)
            fun k25 =>
            if x6.2 = 0 then
              if x6.1 = a21 then
                (m_law11_awake).bind fun x26 =>
                k25 x26
              else
                k25 false
            else
              k25 false) some)
    fun k3 =>
    (m_law11_fine p0).bind fun x30 =>
    if (!x30) = true then
      k3 true
    else
      if 12 < ((p1).length : Int) then
        k3 true
      else
        (m_word_Check p0.1 p1).bind fun x32 =>
        k3 (decide (x32 ≠ 0))

end Go.AW

/- The law of letters. -/
namespace Go.AW
open Go
set_option linter.unusedSimpArgs false
set_option linter.unusedVariables false

theorem Letters_eq {g : Gr} (hv : VG g) (h16 : g.1 ≤ 16) {w : List UInt8} (hw : WOk g w) : m_language_Letters g w = some ((lets g).filter fun c => decide (stepL g (endsL g (upto g.2.1) w) (lab c) ≠ []), 0) := by
  obtain ⟨e, he, hz⟩ := spells_tot g w
  have h0 := hz.2 ⟨hv, h16, hw⟩
  subst h0
  have hl1 := hv.l1
  have hok := endsL_ok (upto_ok g) w
  unfold m_language_Letters
  rw [he]
  simp only [Option.bind_some, ne_eq, not_true_eq_false, if_false, states_eq hv, ends_eq hv (upto_ok g) hw]
  have hc : m_language_collect g (endsL g (upto g.2.1) w) = some ((lets g).filter fun c => decide (stepL g (endsL g (upto g.2.1) w) (lab c) ≠ [])) := by
    unfold m_language_collect
    rw [if_pos ⟨by omega, h16, fun c hc => ⟨_, step_lab hv hok hc⟩⟩]
    congr 1
    refine List.filter_congr fun c hc => ?_
    unfold stpM
    rw [step_lab hv hok hc]
    rfl
  rw [hc]
  simp only [Option.bind_some]
  have hlen : ((lets g).filter fun c => decide (stepL g (endsL g (upto g.2.1) w) (lab c) ≠ [])).length ≤ 16 := by
    refine Nat.le_trans (List.length_filter_le _ _) ?_
    rw [lets_len hv h16]; omega
  rw [if_pos (by rw [List.nil_append]; omega), List.nil_append]

end Go.AW

/- Models, printed by lk.py. -/
namespace Go.AW
open Go
set_option linter.unusedVariables false
/-- groove/grooveref07.Long -/
noncomputable def m_ref07_Long (p0 : List UInt8) (p1 : Int) : Option (Bool) :=
  jp (fun (a1 : Bool) =>
    some a1)
    fun k3 =>
    if p1 < ((p0).length : Int) then
      if ((p0).length : Int) ≤ 65536 then
        k3 true
      else
        k3 (decide (65544 < ((p0).length : Int)))
    else
      k3 (decide (65544 < ((p0).length : Int)))

/-- groove/groovelaw11.great$1 -/
noncomputable def m_law11_great_1 (p0 : List UInt8) : Option (Bool) :=
  (m_ref07_Long p0 12).bind fun x1 =>
  some x1

/-- slices.IndexFunc[[]string,string] -/
noncomputable def m_slices_IndexFunc_Lstring_string (p0 : List (List UInt8)) (p1 : (List UInt8) → Option (Bool)) : Option (Int) :=
  lpO (loopW (S := Int) (X := Ou (Unit) (Int)) (fun a1 =>
      if a1 < ((p0).length : Int) then
        (idx p0 a1).bind fun x5 =>
        (p1 x5).bind fun x7 =>
        if x7 = true then
          some (Stp.exit (Ou.ret a1))
        else
          some (Stp.next (IntKind.wrap .i64 (a1 + 1)))
      else
        some (Stp.exit (Ou.go ()))) 0) (fun a9 =>
      some (-1)) some

/-- slices.ContainsFunc[[]string,string] -/
noncomputable def m_slices_ContainsFunc_Lstring_string (p0 : List (List UInt8)) : Option (Bool) :=
  (m_slices_IndexFunc_Lstring_string p0 (fun b0 => m_law11_great_1 b0 )).bind fun x1 =>
  some (decide (0 ≤ x1))

/-- groove/groovelaw11.great -/
noncomputable def m_law11_great (p0 : TLabelsStatesEdges) (p1 : List (List UInt8)) : Option (Bool) :=
  jp (fun (a1 : Bool) =>
    some a1)
    fun k3 =>
    (m_ref11_Great p0).bind fun x4 =>
    if x4 = true then
      k3 true
    else
      (m_slices_ContainsFunc_Lstring_string p1).bind fun x6 =>
      k3 x6

/-- groove/grooveref07.Digit -/
noncomputable def m_ref07_Digit (p0 : Int) : Option (Int) :=
  lpO (loopW (S := Int) (X := Ou (Unit) (Int)) (fun a1 =>
      if a1 < 16 then
        (idx ([48, 49, 50, 51, 52, 53, 54, 55, 56, 57, 97, 98, 99, 100, 101, 102] : List UInt8) a1).bind fun x5 =>
        if (x5.toNat : Int) = p0 then
          some (Stp.exit (Ou.ret a1))
        else
          some (Stp.next (IntKind.wrap .i64 (a1 + 1)))
      else
        some (Stp.exit (Ou.go ()))) 0) (fun a7 =>
      some (-1)) some

/-- groove/grooveref07.Check -/
noncomputable def m_ref07_Check (p0 : Int) (p1 : List UInt8) : Option (Int) :=
  jp (fun (a1 : Bool) =>
    if a1 = true then
      some 12
    else
      if 65536 < ((p1).length : Int) then
        some 4
      else
        lpO (loopW (S := Int) (X := Ou (Unit) (Int)) (fun a4 =>
            if a4 < ((p1).length : Int) then
              (idx p1 a4).bind fun x8 =>
              (m_ref07_Digit (x8.toNat : Int)).bind fun x10 =>
              jp (fun (a12 : Bool) =>
                if a12 = true then
                  some (Stp.exit (Ou.ret 13))
                else
                  some (Stp.next (IntKind.wrap .i64 (a4 + 1))))
                fun k14 =>
                if x10 < 0 then
                  k14 true
                else
                  k14 (decide (p0 ≤ x10))
            else
              some (Stp.exit (Ou.go ()))) 0) (fun a16 =>
            some 0) some)
    fun k3 =>
    if p0 < 1 then
      k3 true
    else
      k3 (decide (16 < p0))

/-- groove/grooveref11.checkWord -/
noncomputable def m_ref11_checkWord (p0 : TLabelsStatesEdges) (p1 : List UInt8) : Option (Int) :=
  (m_ref11_check p0).bind fun x1 =>
  if x1 ≠ 0 then
    some x1
  else
    (m_ref07_Check p0.1 p1).bind fun x3 =>
    some x3

/-- groove/grooveref11.ends -/
noncomputable def m_ref11_ends (p0 : TLabelsStatesEdges) (p1 : List (Int)) (p2 : List UInt8) : Option ((List (Int))) :=
  (loopW (S := (List Int) × Int) (X := (List Int)) (fun a1 =>
      if a1.2 < ((p2).length : Int) then
        (idx p2 a1.2).bind fun x5 =>
        (m_ref07_Digit (x5.toNat : Int)).bind fun x7 =>
        (m_ref11_Step p0 a1.1 x7).bind fun x9 =>
        some (Stp.next (x9, IntKind.wrap .i64 (a1.2 + 1)))
      else
        some (Stp.exit a1.1)) (p1, 0)).bind fun a11 =>
  some a11

/-- groove/grooveref11.Accepts -/
noncomputable def m_ref11_Accepts (p0 : TLabelsStatesEdges) (p1 : List UInt8) : Option (Bool × Int) :=
  (m_ref11_checkWord p0 p1).bind fun x1 =>
  if x1 ≠ 0 then
    some (false, x1)
  else
    (m_ref11_All p0).bind fun x3 =>
    (m_ref11_ends p0 x3 p1).bind fun x5 =>
    some (decide (0 < ((x5).length : Int)), 0)

/-- groove/grooveref11.Ends -/
noncomputable def m_ref11_Ends (p0 : TLabelsStatesEdges) (p1 : List (Int)) (p2 : List UInt8) : Option ((List (Int)) × Int) :=
  (m_ref11_checkWord p0 p2).bind fun x1 =>
  if x1 ≠ 0 then
    some ([], x1)
  else
    lpO (loopW (S := Int) (X := Ou (Unit) ((List (Int)) × Int)) (fun a3 =>
        if a3 < ((p1).length : Int) then
          jp (fun (a7 : Bool) =>
            if a7 = true then
              some (Stp.exit (Ou.ret ([], 25)))
            else
              some (Stp.next (IntKind.wrap .i64 (a3 + 1))))
            fun k9 =>
            (idx p1 a3).bind fun x10 =>
            if x10 < 0 then
              k9 true
            else
              (idx p1 a3).bind fun x12 =>
              k9 (decide (p0.2.1 ≤ x12))
        else
          some (Stp.exit (Ou.go ()))) 0) (fun a15 =>
        lpO (loopW (S := Int) (X := Ou (Unit) ((List (Int)) × Int)) (fun a17 =>
            if a17 < ((p1).length : Int) then
              (idx p1 (IntKind.wrap .i64 (a17 - 1))).bind fun x21 =>
              (idx p1 a17).bind fun x23 =>
              if x23 ≤ x21 then
                some (Stp.exit (Ou.ret ([], 10)))
              else
                some (Stp.next (IntKind.wrap .i64 (a17 + 1)))
            else
              some (Stp.exit (Ou.go ()))) 1) (fun a25 =>
            if fits 8 (([] : List Int).length + (p1).length) then
              (m_ref11_ends p0 (([] : List Int) ++ p1) p2).bind fun x270503 =>
              some (x270503, 0)
            else none) some) some

/-- groove/grooveref11.Letters -/
noncomputable def m_ref11_Letters (p0 : TLabelsStatesEdges) (p1 : List UInt8) : Option ((List UInt8) × Int) :=
  (m_ref11_checkWord p0 p1).bind fun x1 =>
  if x1 ≠ 0 then
    some (([] : List UInt8), x1)
  else
    (m_ref11_All p0).bind fun x3 =>
    (m_ref11_ends p0 x3 p1).bind fun x5 =>
    (loopW (S := (List UInt8) × Int) (X := (List UInt8)) (fun a7 =>
        if a7.2 < p0.1 then
          jp (fun (a11 : (List UInt8)) =>
            some (Stp.next (a11, IntKind.wrap .i64 (a7.2 + 1))))
            fun k13 =>
            (m_ref11_Step p0 x5 a7.2).bind fun x14 =>
            if 0 < ((x14).length : Int) then
              if 0 ≤ (a7.2 : Int) ∧ (a7.2 : Int) ≤ IntKind.wrap .i64 (a7.2 + 1) ∧ IntKind.wrap .i64 (a7.2 + 1) ≤ (([48, 49, 50, 51, 52, 53, 54, 55, 56, 57, 97, 98, 99, 100, 101, 102] : List UInt8).length : Int) then
                if a7.1.length + ((([48, 49, 50, 51, 52, 53, 54, 55, 56, 57, 97, 98, 99, 100, 101, 102] : List UInt8).take (IntKind.wrap .i64 (a7.2 + 1)).toNat).drop (a7.2).toNat).length ≤ maxLen then
                  k13 (a7.1 ++ ((([48, 49, 50, 51, 52, 53, 54, 55, 56, 57, 97, 98, 99, 100, 101, 102] : List UInt8).take (IntKind.wrap .i64 (a7.2 + 1)).toNat).drop (a7.2).toNat))
                else none
              else none
            else
              k13 a7.1
        else
          some (Stp.exit a7.1)) (([] : List UInt8), 0)).bind fun a18 =>
    some (a18, 0)

/-- groove/grooveref11.Path -/
noncomputable def m_ref11_Path (p0 : TLabelsStatesEdges) (p1 : List UInt8) : Option ((List (Int)) × Int) :=
  (m_ref11_checkWord p0 p1).bind fun x1 =>
  if x1 ≠ 0 then
    some ([], x1)
  else
    (m_ref11_All p0).bind fun x3 =>
    (m_ref11_ends p0 x3 p1).bind fun x5 =>
    if ((x5).length : Int) = 0 then
      some ([], 13)
    else
      (loopW (S := (List Int) × Int × (List Int)) (X := (List Int)) (fun a8 =>
          if a8.2.1 < ((p1).length : Int) then
            (loopW (S := Int) (X := (List Int) × (List Int)) (fun a12 =>
                if a12 < ((p0.2.2).length : Int) then
                  (idx p0.2.2 a12).bind fun x16 =>
                  jp (fun (a19 : Bool) =>
                    if a19 = true then
                      if fits 8 ((a8.2.2 : List Int).length + ([a12]).length) then
                        some (Stp.exit ([x16.2.2], a8.2.2 ++ [a12]))
                      else none
                    else
                      some (Stp.next (IntKind.wrap .i64 (a12 + 1))))
                    fun k21 =>
                    (idx p1 a8.2.1).bind fun x24 =>
                    (m_ref07_Digit (x24.toNat : Int)).bind fun x26 =>
                    if x16.2.1 = x26 then
                      (m_ref11_has a8.1 x16.1).bind fun x28 =>
                      if x28 = true then
                        if 0 ≤ (IntKind.wrap .i64 (a8.2.1 + 1) : Int) ∧ (IntKind.wrap .i64 (a8.2.1 + 1) : Int) ≤ ((p1).length : Int) ∧ ((p1).length : Int) ≤ (p1.length : Int) then
                          (m_ref11_ends p0 [x16.2.2] ((p1.take (((p1).length : Int)).toNat).drop (IntKind.wrap .i64 (a8.2.1 + 1)).toNat)).bind fun x31 =>
                          k21 (decide (0 < ((x31).length : Int)))
                        else none
                      else
                        k21 false
                    else
                      k21 false
                else
                  some (Stp.exit (a8.1, a8.2.2))) 0).bind fun a35 =>
            some (Stp.next (a35.1, IntKind.wrap .i64 (a8.2.1 + 1), a35.2))
          else
            some (Stp.exit a8.2.2)) (x3, 0, [])).bind fun a37 =>
      some (a37, 0)

/-- groove/groovelaw11.LanguageReads -/
noncomputable def m_law11_LanguageReads (p0 : TLabelsStatesEdges) (p1 : List (Int)) (p2 : List UInt8) : Option (Bool) :=
  jp (fun (a1 : Bool) =>
    if a1 = true then
      (m_law11_awake).bind fun x4 =>
      some x4
    else
      (m_language_Accepts p0 p2).bind fun x6 =>
      (m_ref11_Accepts p0 p2).bind fun x8 =>
      (m_language_Ends p0 p1 p2).bind fun x10 =>
      (m_ref11_Ends p0 p1 p2).bind fun x12 =>
      (m_language_Letters p0 p2).bind fun x14 =>
      (m_ref11_Letters p0 p2).bind fun x16 =>
      (m_language_Path p0 p2).bind fun x18 =>
      (m_ref11_Path p0 p2).bind fun x20 =>
      jp (fun (a22 : Bool) =>
        some a22)
        fun k24 =>
        if (x6.1 == x8.1) = true then
          if x6.2 = x8.2 then
            (m_slices_Equal_Lint_int x10.1 x12.1).bind fun x25 =>
            if x25 = true then
              if x10.2 = x12.2 then
                if x14.1 = x16.1 then
                  if x14.2 = x16.2 then
                    (m_slices_Equal_Lint_int x18.1 x20.1).bind fun x27 =>
                    if x27 = true then
                      if x18.2 = x20.2 then
                        (m_law11_awake).bind fun x29 =>
                        k24 x29
                      else
                        k24 false
                    else
                      k24 false
                  else
                    k24 false
                else
                  k24 false
              else
                k24 false
            else
              k24 false
          else
            k24 false
        else
          k24 false)
    fun k3 =>
    (m_law11_great p0 [p2]).bind fun x39 =>
    if x39 = true then
      k3 true
    else
      k3 (decide (10 < ((p1).length : Int)))

end Go.AW

/- Reading words, in the program and in the reference. -/
namespace Go.AW
open Go
set_option linter.unusedSimpArgs false
set_option linter.unusedVariables false

theorem u8_int {a b : UInt8} : ((a.toNat : Int) = (b.toNat : Int)) ↔ a = b := by
  constructor
  · intro h
    exact UInt8.toNat_inj.1 (by omega)
  · rintro rfl; rfl

theorem lab_none {c : UInt8} (h : c ∉ letters) : lab c = -1 := by
  have h1 : lab c < 0 := idxB_neg.2 h
  have h2 := Lib.indexByte_ge letters c
  show Lib.indexByte letters c = -1
  have h1 : Lib.indexByte letters c < 0 := h1
  omega

theorem digit_eq (c : UInt8) : m_ref07_Digit (c.toNat : Int) = some (lab c) := by
  unfold m_ref07_Digit
  refine lpL (loopN_eq (if c ∈ letters then .ret (lab c) else .go ()) 16 (fun i s => s = (i : Int) ∧ ∀ j (_ : j < i) (h : j < letters.length), letters[j] ≠ c) ?_ ?_ ⟨rfl, fun j hj => by omega⟩) ?_
  · rintro i s hi ⟨rfl, hne⟩
    have hil : i < letters.length := hi
    have hx : idx ([48, 49, 50, 51, 52, 53, 54, 55, 56, 57, 97, 98, 99, 100, 101, 102] : List UInt8) (i : Int) = some letters[i] := ix (l := letters) hil
    rw [if_pos (by omega), hx]
    simp only [Option.bind_some, u8_int]
    by_cases e : letters[i] = c
    · rw [if_pos e]
      refine .inr ⟨_, rfl, ?_⟩
      rw [if_pos (by rw [← e]; exact List.getElem_mem hil)]
      congr 1
      rw [← e]
      exact (idx_letter hil).symm
    · rw [if_neg e]
      refine .inl ⟨_, rfl, nx (by omega : (16 : Nat) ≤ _) hi, fun j hj h => ?_⟩
      by_cases hji : j = i
      · subst hji; exact e
      · exact hne j (by omega) h
  · rintro s ⟨rfl, hne⟩
    rw [if_neg (by omega)]
    refine ⟨_, rfl, ?_⟩
    rw [if_neg]
    intro hm
    obtain ⟨j, hj, e⟩ := List.getElem_of_mem hm
    exact hne j hj hj e
  · by_cases h : c ∈ letters
    · rw [if_pos h]; rfl
    · rw [if_neg h, lab_none h]; rfl

theorem lab_take {L : Int} (h1 : 1 ≤ L) (h16 : L ≤ 16) (c : UInt8) : (c ∉ letters.take L.toNat) ↔ lab c < 0 ∨ L ≤ lab c := by
  by_cases h : c ∈ letters
  · obtain ⟨i, hi, rfl⟩ := List.getElem_of_mem h
    have e : lab letters[i] = (i : Int) := idx_letter hi
    rw [e]
    constructor
    · intro hn
      right
      apply Classical.byContradiction
      intro hlt
      exact hn (List.mem_take_iff_getElem.2 ⟨i, by omega, rfl⟩)
    · rintro (h0 | h0) hm
      · omega
      · obtain ⟨j, hj, e2⟩ := List.mem_take_iff_getElem.1 hm
        have := (List.getElem_inj (h₀ := by omega) (h₁ := hi) letters_nodup).1 e2
        omega
  · rw [lab_none h]
    exact ⟨fun _ => .inl (by omega), fun _ hm => h (List.mem_of_mem_take hm)⟩

theorem rcheck (L : Int) (w : List UInt8) : m_ref07_Check L w = m_word_Check L w := by
  unfold m_ref07_Check m_word_Check
  rw [known_eq]
  simp only [jp, Option.bind_some]
  by_cases h1 : 1 ≤ L ∧ L ≤ 16
  case neg =>
    rw [if_pos (show (!decide (1 ≤ L ∧ L ≤ 16)) = true by rw [decide_eq_false h1]; rfl)]
    by_cases h0 : L < 1
    · rw [if_pos h0]; rfl
    · rw [if_neg h0, if_pos (decide_eq_true (by omega))]
  rw [if_neg (show ¬ (!decide (1 ≤ L ∧ L ≤ 16)) = true by rw [decide_eq_true h1]; decide), if_neg (by omega : ¬ L < 1), if_neg (show ¬ decide (16 < L) = true by simp; omega)]
  by_cases h2 : 65536 < (w.length : Int)
  · rw [if_pos h2, if_pos h2]
  rw [if_neg h2, if_neg h2]
  congr 2
  funext a
  by_cases ha : a < (w.length : Int)
  case neg => rw [if_neg ha, if_neg ha]
  have hc0 : 0 ≤ (0 : Int) ∧ (0 : Int) ≤ L ∧ L ≤ (([48, 49, 50, 51, 52, 53, 54, 55, 56, 57, 97, 98, 99, 100, 101, 102] : List UInt8).length : Int) := ⟨by decide, by omega, by show L ≤ (16 : Int); omega⟩
  rw [if_pos ha, if_pos ha, if_pos hc0]
  cases hx : idx w a with
  | none => rfl
  | some c =>
    simp only [Option.bind_some, digit_eq]
    have hs : m_strings_IndexByte ((([48, 49, 50, 51, 52, 53, 54, 55, 56, 57, 97, 98, 99, 100, 101, 102] : List UInt8).take L.toNat).drop (0 : Int).toNat) (c.toNat : Int) = some (Lib.indexByte (letters.take L.toNat) c) := by
      unfold m_strings_IndexByte
      rw [byte_back]
      rfl
    rw [hs]
    simp only [Option.bind_some]
    have hiff := (idxB_neg (l := letters.take L.toNat) (c := c)).trans (lab_take h1.1 h1.2 c)
    by_cases h3 : lab c < 0
    · rw [if_pos h3, if_pos (hiff.2 (.inl h3))]; rfl
    · rw [if_neg h3]
      by_cases h4 : L ≤ lab c
      · rw [if_pos (decide_eq_true h4), if_pos (hiff.2 (.inr h4))]
      · rw [if_neg (by simp; omega), if_neg (fun h => by rcases hiff.1 h with h | h <;> omega)]

theorem check_ref (g : Gr) : m_ref11_check g = m_language_check g := by
  unfold m_language_check m_ref11_check
  rw [Check_ref]

theorem checkWord_ref (g : Gr) (w : List UInt8) : m_ref11_checkWord g w = m_language_spells g w := by
  unfold m_ref11_checkWord m_language_spells
  rw [check_ref]
  congr 1
  funext x
  rw [rcheck]

section
variable {g : Gr}
theorem refends_eq (hv : VG g) {a : List Int} (ha : SetOk g a) {w : List UInt8} (hl : w.length ≤ 1000000) : m_ref11_ends g a w = some (endsL g a w) := by
  unfold m_ref11_ends
  refine bindL (loop_is (fun i => (endsL g a (w.take i), (i : Int))) w.length (endsL g a w) (fun i hi => ?_) ?_ rfl) rfl
  · dsimp only
    rw [if_pos (lt_int hi), ix hi]
    simp only [Option.bind_some, digit_eq]
    have hle := setOk_len hv (endsL_ok ha (w.take i))
    rw [refStep_eq hv (by omega)]
    simp only [Option.bind_some, nx (by omega : w.length ≤ _) hi]
    rw [List.take_add_one, List.getElem?_eq_getElem hi, endsL_app]
    rfl
  · dsimp only
    rw [if_neg (not_lt_int _), List.take_length]

theorem Accepts_both (g : Gr) (w : List UInt8) : ∃ r, m_language_Accepts g w = some r ∧ m_ref11_Accepts g w = some r := by
  obtain ⟨e, he, hz⟩ := spells_tot g w
  by_cases h0 : e = 0
  · obtain ⟨hv, h16, hw⟩ := hz.1 h0
    subst h0
    refine ⟨_, Accepts_eq hv h16 hw, ?_⟩
    unfold m_ref11_Accepts
    rw [checkWord_ref, he]
    have hl := hw.1
    simp only [Option.bind_some, ne_eq, not_true_eq_false, if_false, All_eq hv, refends_eq hv (upto_ok g) (by omega : w.length ≤ 1000000)]
    congr 2
    by_cases h : endsL g (upto g.2.1) w = []
    · simp [h]
    · have := List.length_pos_iff.2 h
      simp [h, this]
  · refine ⟨(false, e), ?_, ?_⟩
    · unfold m_language_Accepts
      rw [he]
      simp only [Option.bind_some]
      rw [if_pos h0]
    · unfold m_ref11_Accepts
      rw [checkWord_ref, he]
      simp only [Option.bind_some]
      rw [if_pos h0]

/-- the first check of a set -/
def bad1 (g : Gr) (a : List Int) (i : Nat) : Bool := decide (a.getD i 0 < 0 ∨ g.2.1 ≤ a.getD i 0)
def bad2 (a : List Int) (i : Nat) : Bool := decide (0 < i ∧ a.getD i 0 ≤ a.getD (i - 1) 0)

theorem setOk_of {a : List Int} (h1 : ¬ (List.range a.length).any (bad1 g a) = true) (h2 : ¬ (List.range a.length).any (bad2 a) = true) : SetOk g a := by
  have k1 : ∀ i (hi : i < a.length), 0 ≤ a[i] ∧ a[i] < g.2.1 := fun i hi => by
    apply Classical.byContradiction
    intro hn
    refine h1 (List.any_eq_true.2 ⟨i, List.mem_range.2 hi, ?_⟩)
    have e : a.getD i 0 = a[i] := by simp [List.getD, hi]
    unfold bad1
    rw [e]
    exact decide_eq_true (by omega)
  have k2 : ∀ i (hi : i + 1 < a.length), a[i] < a[i + 1] := fun i hi => by
    apply Classical.byContradiction
    intro hn
    refine h2 (List.any_eq_true.2 ⟨i + 1, List.mem_range.2 hi, ?_⟩)
    have e : a.getD (i + 1) 0 = a[i + 1] := by simp [List.getD, hi]
    have e2 : a.getD (i + 1 - 1) 0 = a[i] := by simp [List.getD, show i < a.length by omega]
    unfold bad2
    rw [e, e2]
    exact decide_eq_true (by omega)
  refine ⟨List.pairwise_iff_getElem.2 fun i j hi hj hij => ?_, fun x hx => ?_⟩
  · obtain ⟨d, rfl⟩ : ∃ d, j = i + 1 + d := ⟨j - i - 1, by omega⟩
    induction d with
    | zero => exact k2 i hj
    | succ d ih => exact Int.lt_trans (ih (by omega) (by omega)) (k2 _ hj)
  · obtain ⟨i, hi, rfl⟩ := List.getElem_of_mem hx
    exact k1 i hi

theorem Ends_both (g : Gr) (a : List Int) (w : List UInt8) (ha : a.length ≤ 1000000) : ∃ r, m_language_Ends g a w = some r ∧ m_ref11_Ends g a w = some r ∧ r.1.length ≤ 64 := by
  obtain ⟨e, he, hz⟩ := spells_tot g w
  by_cases h0 : e = 0
  case neg =>
    refine ⟨([], e), ?_, ?_, by simp⟩
    · unfold m_language_Ends
      rw [he]
      simp only [Option.bind_some]
      rw [if_pos h0]
    · unfold m_ref11_Ends
      rw [checkWord_ref, he]
      simp only [Option.bind_some]
      rw [if_pos h0]
  obtain ⟨hv, h16, hw⟩ := hz.1 h0
  have hwl := hw.1
  subst h0
  have g1 : ∀ i, i < a.length → a.getD i 0 = a[i]?.getD 0 := fun i hi => by simp [List.getD]
  by_cases h1 : (List.range a.length).any (bad1 g a) = true
  · refine ⟨([], 25), ?_, ?_, by simp⟩
    · unfold m_language_Ends
      rw [he]
      simp only [Option.bind_some, ne_eq, not_true_eq_false, if_false, jp]
      refine lpL (loop_any (fun i => (i : Int)) a.length (bad1 g a) (Ou.ret ([], 25)) (Ou.go ()) (fun i hi => ?_) (by rw [if_neg (not_lt_int _)]) rfl) (by rw [if_pos h1]; rfl)
      have e1 : a.getD i 0 = a[i] := by simp [List.getD, hi]
      rw [if_pos (lt_int hi), ix hi]
      simp only [Option.bind_some, nx (by omega : a.length ≤ _) hi, bad1, e1, decide_eq_true_eq]
      by_cases k1 : a[i] < 0
      · simp [k1]
      · simp [k1]
    · unfold m_ref11_Ends
      rw [checkWord_ref, he]
      simp only [Option.bind_some, ne_eq, not_true_eq_false, if_false, jp]
      refine lpL (loop_any (fun i => (i : Int)) a.length (bad1 g a) (Ou.ret ([], 25)) (Ou.go ()) (fun i hi => ?_) (by rw [if_neg (not_lt_int _)]) rfl) (by rw [if_pos h1]; rfl)
      have e1 : a.getD i 0 = a[i] := by simp [List.getD, hi]
      rw [if_pos (lt_int hi), ix hi]
      simp only [Option.bind_some, nx (by omega : a.length ≤ _) hi, bad1, e1, decide_eq_true_eq]
      by_cases k1 : a[i] < 0
      · simp [k1]
      · simp [k1]
  by_cases h2 : (List.range a.length).any (bad2 a) = true
  · refine ⟨([], 10), ?_, ?_, by simp⟩
    · unfold m_language_Ends
      rw [he]
      simp only [Option.bind_some, ne_eq, not_true_eq_false, if_false, jp]
      refine lpL (loop_any (fun i => (i : Int)) a.length (bad1 g a) (Ou.ret ([], 25)) (Ou.go ()) (fun i hi => ?_) (by rw [if_neg (not_lt_int _)]) rfl) ?_
      · have e1 : a.getD i 0 = a[i] := by simp [List.getD, hi]
        rw [if_pos (lt_int hi), ix hi]
        simp only [Option.bind_some, nx (by omega : a.length ≤ _) hi, bad1, e1, decide_eq_true_eq]
        by_cases k1 : a[i] < 0
        · simp [k1]
        · simp [k1]
      rw [if_neg h1]
      refine lpGo11 ?_
      refine lpL (loop_any (fun i => (i : Int)) a.length (bad2 a) (Ou.ret ([], 10)) (Ou.go ()) (fun i hi => ?_) (by rw [if_neg (not_lt_int _)]) rfl) (by rw [if_pos h2]; rfl)
      have e1 : a.getD i 0 = a[i] := by simp [List.getD, hi]
      rw [if_pos (lt_int hi), ix hi]
      simp only [Option.bind_some, nx (by omega : a.length ≤ _) hi, bad2, e1, decide_eq_true_eq]
      by_cases hz0 : 0 < i
      · have e2 : a.getD (i - 1) 0 = a[i - 1]'(by omega) := by simp [List.getD, show i - 1 < a.length by omega]
        rw [if_pos (by omega), ix_pred hi (by omega) hz0]
        simp only [Option.bind_some, hz0, true_and, e2, decide_eq_true_eq]
      · rw [if_neg (by omega)]
        simp [hz0]
    · unfold m_ref11_Ends
      rw [checkWord_ref, he]
      simp only [Option.bind_some, ne_eq, not_true_eq_false, if_false, jp]
      refine lpL (loop_any (fun i => (i : Int)) a.length (bad1 g a) (Ou.ret ([], 25)) (Ou.go ()) (fun i hi => ?_) (by rw [if_neg (not_lt_int _)]) rfl) ?_
      · have e1 : a.getD i 0 = a[i] := by simp [List.getD, hi]
        rw [if_pos (lt_int hi), ix hi]
        simp only [Option.bind_some, nx (by omega : a.length ≤ _) hi, bad1, e1, decide_eq_true_eq]
        by_cases k1 : a[i] < 0
        · simp [k1]
        · simp [k1]
      rw [if_neg h1]
      refine lpGo11 ?_
      refine lpL (loop_any (fun i => ((i + 1 : Nat) : Int)) (a.length - 1) (fun i => bad2 a (i + 1)) (Ou.ret ([], 10)) (Ou.go ()) (fun i hi => ?_) (by rw [if_neg (by omega)]) rfl) ?_
      · have hi1 : i + 1 < a.length := by omega
        have e1 : a.getD (i + 1) 0 = a[i + 1] := by simp [List.getD, hi1]
        have e2 : a.getD (i + 1 - 1) 0 = a[i] := by simp [List.getD, show i < a.length by omega]
        have e3 : IntKind.wrap .i64 (((i + 1 : Nat) : Int) - 1) = (i : Int) := by rw [w64 (by omega) (by omega)]; omega
        rw [if_pos (lt_int hi1), e3, ix (by omega : i < a.length), ix hi1]
        simp only [Option.bind_some, nx (by omega : a.length ≤ _) hi1, bad2, e1, e2, decide_eq_true_eq]
        simp
      · rw [if_pos]
        · rfl
        · obtain ⟨i, hi, hp⟩ := List.any_eq_true.1 h2
          have hi := List.mem_range.1 hi
          have h3 : 0 < i := (of_decide_eq_true hp).1
          exact List.any_eq_true.2 ⟨i - 1, List.mem_range.2 (by omega), by rw [show i - 1 + 1 = i by omega]; exact hp⟩
  have hs := setOk_of h1 h2
  refine ⟨_, Ends_eq hv h16 hs hw, ?_, setOk_len hv (endsL_ok hs w)⟩
  unfold m_ref11_Ends
  rw [checkWord_ref, he]
  simp only [Option.bind_some, ne_eq, not_true_eq_false, if_false, jp]
  refine lpL (loop_any (fun i => (i : Int)) a.length (bad1 g a) (Ou.ret ([], 25)) (Ou.go ()) (fun i hi => ?_) (by rw [if_neg (not_lt_int _)]) rfl) ?_
  · have e1 : a.getD i 0 = a[i] := by simp [List.getD, hi]
    rw [if_pos (lt_int hi), ix hi]
    simp only [Option.bind_some, nx (by omega : a.length ≤ _) hi, bad1, e1, decide_eq_true_eq]
    by_cases k1 : a[i] < 0
    · simp [k1]
    · simp [k1]
  rw [if_neg h1]
  refine lpGo11 ?_
  refine lpL (loop_any (fun i => ((i + 1 : Nat) : Int)) (a.length - 1) (fun i => bad2 a (i + 1)) (Ou.ret ([], 10)) (Ou.go ()) (fun i hi => ?_) (by rw [if_neg (by omega)]) rfl) ?_
  · have hi1 : i + 1 < a.length := by omega
    have e1 : a.getD (i + 1) 0 = a[i + 1] := by simp [List.getD, hi1]
    have e2 : a.getD (i + 1 - 1) 0 = a[i] := by simp [List.getD, show i < a.length by omega]
    have e3 : IntKind.wrap .i64 (((i + 1 : Nat) : Int) - 1) = (i : Int) := by rw [w64 (by omega) (by omega)]; omega
    rw [if_pos (lt_int hi1), e3, ix (by omega : i < a.length), ix hi1]
    simp only [Option.bind_some, nx (by omega : a.length ≤ _) hi1, bad2, e1, e2, decide_eq_true_eq]
    simp
  rw [if_neg]
  · refine lpGo11 ?_
    have hsl := setOk_len hv hs
    rw [if_pos (fits_le (by simp; omega) (by simp; omega)), List.nil_append, refends_eq hv hs (by omega)]
    rfl
  · intro hx
    obtain ⟨i, hi, hp⟩ := List.any_eq_true.1 hx
    have hi := List.mem_range.1 hi
    exact h2 (List.any_eq_true.2 ⟨i + 1, List.mem_range.2 (by omega), hp⟩)
end
end Go.AW

/- The law of paths. -/
namespace Go.AW
open Go
set_option linter.unusedSimpArgs false
set_option linter.unusedVariables false
section
variable {g : Gr}

theorem one_ok {s : Int} (h0 : 0 ≤ s) (h1 : s < g.2.1) : SetOk g [s] := ⟨List.pairwise_singleton .., fun x hx => by simp at hx; subst hx; exact ⟨h0, h1⟩⟩

end
end Go.AW
