import Derived.Test.YtccnafddjjamoaaLp4
import Derived.Shelf.Slices.CompactS
import Derived.Test.YtccnafddjjamoaaChecked
/- The first missing word. -/
namespace Go.AW
open Go
set_option linter.unusedSimpArgs false
set_option linter.unusedVariables false

theorem enc_letters : ∀ c ∈ letters, (Utf8.encode (c.toNat : Int)).data.toList = [c] := by decide +kernel
theorem enc_letter {c : UInt8} (h : c ∈ letters) : (Utf8.encode (c.toNat : Int)).data.toList = [c] := enc_letters c h

section
variable {β : Type}
theorem mlook_put (k q : List UInt8) (v : β) : ∀ l : List (List UInt8 × β), mlook q (mputN k v l) = if q = k then some v else mlook q l
  | [] => by simp only [mputN, mlook]
  | (p, x) :: l => by
    simp only [mputN]
    by_cases h : k = p
    · rw [if_pos h]
      simp only [mlook]
      by_cases e : q = p
      · rw [if_pos e, if_pos (e.trans h.symm)]
      · rw [if_neg e, if_neg (fun e' => e (e'.trans h)), if_neg e]
    · rw [if_neg h]
      simp only [mlook]
      by_cases e : q = p
      · rw [if_pos e, if_neg (fun e' => h (e'.symm.trans e)), if_pos e]
      · rw [if_neg e, mlook_put k q v l, if_neg e]
end

section
variable {g : Gr}
def missL (g : Gr) (j : Nat) : Option (List UInt8) := (allW (lets g) j).find? fun w => !accB g w
/-- the first missing word behind the words of j letters, of at most n letters more -/
def missR (g : Gr) : Nat → Nat → List UInt8 × Bool × Int
  | _, 0 => ([], false, 0)
  | j, n + 1 => match missL g (j + 1) with
    | some w => (w, true, 0)
    | none => if 4096 < (allW (lets g) (j + 1)).length then ([], false, 4) else missR g (j + 1) n

theorem lengths_zero (hv : VG g) (h16 : g.1 ≤ 16) {n : Nat} (hn : n ≤ 4096) : m_language_lengths g (n : Int) = some 0 := by
  obtain ⟨e, he, hz⟩ := checkNumber_tot g n
  have := hz.2 ⟨hv, h16, by omega, by omega⟩
  subst this
  rw [lengths_ref, he]

/-- the words of the next length, as far as they have been seen -/
def nextW (g : Gr) (i a b : Nat) : List (List UInt8) := (((allW (lets g) i).take a).flatMap fun w => (lets g).map fun c => w ++ [c]) ++ ((lets g).take b).map fun c => ((allW (lets g) i).getD a []) ++ [c]
theorem nextW_pre {i a b : Nat} (ha : a < (allW (lets g) i).length) (hb : b < (lets g).length) : ∃ rest, allW (lets g) (i + 1) = nextW g i a b ++ (((allW (lets g) i).getD a [] ++ [(lets g)[b]]) :: rest) := by
  have e : (allW (lets g) i) = (allW (lets g) i).take a ++ (allW (lets g) i)[a] :: (allW (lets g) i).drop (a + 1) := by rw [← List.drop_eq_getElem_cons ha, List.take_append_drop]
  have e2 : ∀ f : UInt8 → List UInt8, (lets g).map f = ((lets g).take b).map f ++ f (lets g)[b] :: ((lets g).drop (b + 1)).map f := fun f => by
    rw [← List.map_cons, ← List.map_append, ← List.drop_eq_getElem_cons hb, List.take_append_drop]
  have eg : (allW (lets g) i).getD a [] = (allW (lets g) i)[a] := by simp [List.getD, ha]
  refine ⟨(((lets g).drop (b + 1)).map fun c => (allW (lets g) i)[a] ++ [c]) ++ ((allW (lets g) i).drop (a + 1)).flatMap fun w => (lets g).map fun c => w ++ [c], ?_⟩
  have e3 : allW (lets g) (i + 1) = (((allW (lets g) i).take a).flatMap fun w => (lets g).map fun c => w ++ [c]) ++ (((lets g).map fun c => (allW (lets g) i)[a] ++ [c]) ++ ((allW (lets g) i).drop (a + 1)).flatMap fun w => (lets g).map fun c => w ++ [c]) := by
    show (allW (lets g) i).flatMap (fun w => (lets g).map fun c => w ++ [c]) = _
    conv => lhs; rw [e]
    rw [List.flatMap_append, List.flatMap_cons]
  rw [e3, e2 fun c => (allW (lets g) i)[a] ++ [c]]
  simp only [nextW, eg, List.append_assoc, List.cons_append]
theorem nextW_b {i a b : Nat} (hb : b < (lets g).length) : nextW g i a (b + 1) = nextW g i a b ++ [(allW (lets g) i).getD a [] ++ [(lets g)[b]]] := by
  simp only [nextW]
  rw [List.take_add_one, List.getElem?_eq_getElem hb, List.map_append, List.append_assoc]
  rfl
theorem nextW_a {i a : Nat} (ha : a < (allW (lets g) i).length) : nextW g i a (lets g).length = nextW g i (a + 1) 0 := by
  have eg : (allW (lets g) i).getD a [] = (allW (lets g) i)[a] := by simp [List.getD, ha]
  simp only [nextW, eg, List.take_length, List.take_zero, List.map_nil, List.append_nil]
  have e : (allW (lets g) i).take (a + 1) = (allW (lets g) i).take a ++ [(allW (lets g) i)[a]] := by rw [List.take_add_one, List.getElem?_eq_getElem ha]; rfl
  rw [e, List.flatMap_append, List.flatMap_cons, List.flatMap_nil, List.append_nil]
theorem nextW_all {i : Nat} : nextW g i (allW (lets g) i).length 0 = allW (lets g) (i + 1) := by
  simp [nextW, allW]
theorem nextW_zero {i : Nat} : nextW g i 0 0 = [] := by simp [nextW]
theorem nextW_len {i a b : Nat} (hl : (lets g).length ≤ 16) (ha : a ≤ (allW (lets g) i).length) : (nextW g i a b).length ≤ (allW (lets g) i).length * 16 + 16 := by
  have h : ∀ l : List (List UInt8), (l.flatMap fun w => (lets g).map fun c => w ++ [c]).length ≤ l.length * 16 := by
    intro l
    induction l with
    | nil => simp
    | cons x l ih => rw [List.flatMap_cons, List.length_append, List.length_map, List.length_cons, Nat.succ_mul]; omega
  have h1 := h ((allW (lets g) i).take a)
  have h2 : ((allW (lets g) i).take a).length ≤ (allW (lets g) i).length := by rw [List.length_take]; omega
  have h3 : ((lets g).take b).length ≤ 16 := by rw [List.length_take]; omega
  simp only [nextW, List.length_append, List.length_map]
  have := Nat.mul_le_mul_right 16 h2
  omega

def MapOk (g : Gr) (M : List (List UInt8 × List Int)) (l : List (List UInt8)) : Prop := ∀ w ∈ l, mlook w M = some (endsL g (upto g.2.1) w)

/-- one word: its letters -/
theorem miss_inner (hv : VG g) (h16 : g.1 ≤ 16) {i a : Nat} (hi : i ≤ 4096) (ha : a < (allW (lets g) i).length) (hl : (allW (lets g) i).length ≤ 4096) {M0 : List (List UInt8 × List Int)} (hM : MapOk g M0 (allW (lets g) i)) (hM2 : MapOk g M0 (nextW g i a 0)) (hacc : ∀ w ∈ nextW g i a 0, accB g w = true) :
    ∃ x, loopW (S := Int × (List (List UInt8 × (List (Int)))) × (List (List UInt8))) (X := Ou ((List (List UInt8 × (List (Int)))) × (List (List UInt8))) ((List UInt8) × Bool × Int)) (fun a16 =>
                      if a16.1 < g.1 then
                        (idx ([48, 49, 50, 51, 52, 53, 54, 55, 56, 57, 97, 98, 99, 100, 101, 102] : List UInt8) a16.1).bind fun x20 =>
                        (mlook (allW (lets g) i)[a] a16.2.1).bind fun x22 =>
                        (m_language_step g x22 (x20.toNat : Int)).bind fun x24 =>
                        if ((x24).length : Int) = 0 then
                          if (allW (lets g) i)[a].length + ((Utf8.encode (x20.toNat : Int)).data.toList).length ≤ maxLen then
                            some (Stp.exit (Ou.ret ((allW (lets g) i)[a] ++ ((Utf8.encode (x20.toNat : Int)).data.toList), true, 0)))
                          else none
                        else
                          if (allW (lets g) i)[a].length + ((Utf8.encode (x20.toNat : Int)).data.toList).length ≤ maxLen then
                            if fits 16 ((a16.2.2 : List (List UInt8)).length + ([(allW (lets g) i)[a] ++ ((Utf8.encode (x20.toNat : Int)).data.toList)]).length) then
                              some (Stp.next (IntKind.wrap .i64 (a16.1 + 1), mputN ((allW (lets g) i)[a] ++ ((Utf8.encode (x20.toNat : Int)).data.toList)) x24 a16.2.1, a16.2.2 ++ [(allW (lets g) i)[a] ++ ((Utf8.encode (x20.toNat : Int)).data.toList)]))
                            else none
                          else none
                      else
                        some (Stp.exit (Ou.go (a16.2.1, a16.2.2)))) (0, M0, nextW g i a 0) = some x ∧
      ((∃ w, x = .ret (w, true, 0) ∧ missL g (i + 1) = some w) ∨ ∃ M, x = .go (M, nextW g i (a + 1) 0) ∧ MapOk g M (allW (lets g) i) ∧ MapOk g M (nextW g i (a + 1) 0) ∧ ∀ w ∈ nextW g i (a + 1) 0, accB g w = true) := by
  have hl1 := hv.l1
  obtain ⟨L, hL⟩ := Int.eq_ofNat_of_zero_le (show 0 ≤ g.1 by omega)
  have hll : (lets g).length = L := by rw [lets_len hv h16]; omega
  have hL16 : L ≤ letters.length := by rw [letters_len]; omega
  have hwm := mem_allW.1 (List.getElem_mem ha)
  have eg : (allW (lets g) i).getD a [] = (allW (lets g) i)[a] := by simp [List.getD, ha]
  have hwo : WOk g (allW (lets g) i)[a] := ⟨by omega, hwm.2⟩
  refine loopN L (fun b s => ∃ M, s = ((b : Int), M, nextW g i a b) ∧ MapOk g M (allW (lets g) i) ∧ MapOk g M (nextW g i a b) ∧ ∀ w ∈ nextW g i a b, accB g w = true) ?_ ?_ 0 _ (Nat.zero_le _) ⟨M0, rfl, hM, hM2, hacc⟩
  · rintro b s hb ⟨M, rfl, hMa, hMb, hac⟩
    dsimp only
    have hbl : b < letters.length := by omega
    have hbg : b < (lets g).length := by omega
    have hgb : (lets g)[b] = letters[b] := by simp [lets]
    have hmem : letters[b] ∈ lets g := hgb ▸ List.getElem_mem hbg
    rw [if_pos (by omega)]
    have hx : idx ([48, 49, 50, 51, 52, 53, 54, 55, 56, 57, 97, 98, 99, 100, 101, 102] : List UInt8) (b : Int) = some letters[b] := ix (l := letters) hbl
    rw [hx, hMa _ (List.getElem_mem ha)]
    simp only [Option.bind_some]
    rw [step_lab hv (endsL_ok (upto_ok g) _) hmem]
    have henc : (Utf8.encode ((letters[b]).toNat : Int)).data.toList = [letters[b]] := enc_letter (List.getElem_mem hbl)
    simp only [Option.bind_some, henc]
    have hend : stepL g (endsL g (upto g.2.1) (allW (lets g) i)[a]) (lab letters[b]) = endsL g (upto g.2.1) ((allW (lets g) i)[a] ++ [letters[b]]) := by rw [endsL_app]; rfl
    rw [hend]
    have hml : (allW (lets g) i)[a].length + [letters[b]].length ≤ maxLen := by simp only [hwm.1, List.length_cons, List.length_nil, maxLen]; omega
    by_cases h0 : endsL g (upto g.2.1) ((allW (lets g) i)[a] ++ [letters[b]]) = []
    · rw [if_pos (by rw [h0]; rfl), if_pos hml]
      refine .inr ⟨_, rfl, .inl ⟨_, rfl, ?_⟩⟩
      obtain ⟨rest, hr⟩ := nextW_pre (g := g) (i := i) ha hbg
      unfold missL
      rw [hr, List.find?_append, List.find?_eq_none.2 (fun w hw => by simp [hac w hw]), eg, hgb, List.find?_cons_of_pos]
      · rfl
      · simp [accB, h0]
    · have hpos := List.length_pos_iff.2 h0
      rw [if_neg (by omega), if_pos hml]
      have hnl := nextW_len (g := g) (i := i) (a := a) (b := b) (by rw [hll]; exact hL16) (by omega)
      rw [if_pos (fits_le (by simp only [List.length_cons, List.length_nil]; omega) (by simp only [List.length_cons, List.length_nil]; omega))]
      refine .inl ⟨_, rfl, mputN ((allW (lets g) i)[a] ++ [letters[b]]) (endsL g (upto g.2.1) ((allW (lets g) i)[a] ++ [letters[b]])) M, ?_, ?_, ?_, ?_⟩
      · rw [nx (by omega : L ≤ _) hb, nextW_b hbg, eg, hgb]
      · intro w hw
        rw [mlook_put, if_neg (fun e => ?_)]
        · exact hMa w hw
        · have h1 := (mem_allW.1 hw).1
          rw [e, List.length_append, hwm.1] at h1
          simp at h1
      · intro w hw
        rw [mlook_put]
        by_cases e : w = (allW (lets g) i)[a] ++ [letters[b]]
        · rw [if_pos e, e]
        · rw [if_neg e]
          rw [nextW_b hbg, eg, hgb] at hw
          rcases List.mem_append.1 hw with hw | hw
          · exact hMb w hw
          · exact absurd (List.mem_singleton.1 hw) e
      · intro w hw
        rw [nextW_b hbg, eg, hgb] at hw
        rcases List.mem_append.1 hw with hw | hw
        · exact hac w hw
        · rw [List.mem_singleton.1 hw]
          simp [accB, h0]
  · rintro s ⟨M, rfl, hMa, hMb, hac⟩
    dsimp only
    rw [if_neg (by omega)]
    have e : nextW g i a L = nextW g i (a + 1) 0 := by rw [← hll]; exact nextW_a ha
    exact ⟨_, rfl, .inr ⟨M, by rw [e], hMa, by rw [← e]; exact hMb, by rw [← e]; exact hac⟩⟩

/-- one length -/
theorem miss_level (hv : VG g) (h16 : g.1 ≤ 16) {i : Nat} (hi : i ≤ 4096) (hl : (allW (lets g) i).length ≤ 4096) {M0 : List (List UInt8 × List Int)} (hM : MapOk g M0 (allW (lets g) i)) :
    ∃ x, loopW (S := Int × (List (List UInt8 × (List (Int)))) × (List (List UInt8))) (X := Ou ((List (List UInt8 × (List (Int)))) × (List (List UInt8))) ((List UInt8) × Bool × Int)) (fun a10 =>
                if a10.1 < ((allW (lets g) i).length : Int) then
                  (idx (allW (lets g) i) a10.1).bind fun x14 =>
                  lpO (loopW (S := Int × (List (List UInt8 × (List (Int)))) × (List (List UInt8))) (X := Ou ((List (List UInt8 × (List (Int)))) × (List (List UInt8))) ((List UInt8) × Bool × Int)) (fun a16 =>
                      if a16.1 < g.1 then
                        (idx ([48, 49, 50, 51, 52, 53, 54, 55, 56, 57, 97, 98, 99, 100, 101, 102] : List UInt8) a16.1).bind fun x20 =>
                        (mlook x14 a16.2.1).bind fun x22 =>
                        (m_language_step g x22 (x20.toNat : Int)).bind fun x24 =>
                        if ((x24).length : Int) = 0 then
                          if x14.length + ((Utf8.encode (x20.toNat : Int)).data.toList).length ≤ maxLen then
                            some (Stp.exit (Ou.ret (x14 ++ ((Utf8.encode (x20.toNat : Int)).data.toList), true, 0)))
                          else none
                        else
                          if x14.length + ((Utf8.encode (x20.toNat : Int)).data.toList).length ≤ maxLen then
                            if fits 16 ((a16.2.2 : List (List UInt8)).length + ([x14 ++ ((Utf8.encode (x20.toNat : Int)).data.toList)]).length) then
                              some (Stp.next (IntKind.wrap .i64 (a16.1 + 1), mputN (x14 ++ ((Utf8.encode (x20.toNat : Int)).data.toList)) x24 a16.2.1, a16.2.2 ++ [x14 ++ ((Utf8.encode (x20.toNat : Int)).data.toList)]))
                            else none
                          else none
                      else
                        some (Stp.exit (Ou.go (a16.2.1, a16.2.2)))) (0, a10.2.1, a10.2.2)) (fun a30 =>
                      some (Stp.next (IntKind.wrap .i64 (a10.1 + 1), a30.1, a30.2))) (fun r => some (Stp.exit (Ou.ret r)))
                else
                  some (Stp.exit (Ou.go (a10.2.1, a10.2.2)))) (0, M0, ([] : List (List UInt8))) = some x ∧
      ((∃ w, x = .ret (w, true, 0) ∧ missL g (i + 1) = some w) ∨ ∃ M, x = .go (M, allW (lets g) (i + 1)) ∧ MapOk g M (allW (lets g) (i + 1)) ∧ ∀ w ∈ allW (lets g) (i + 1), accB g w = true) := by
  refine loopN (allW (lets g) i).length (fun a s => ∃ M, s = ((a : Int), M, nextW g i a 0) ∧ MapOk g M (allW (lets g) i) ∧ MapOk g M (nextW g i a 0) ∧ ∀ w ∈ nextW g i a 0, accB g w = true) ?_ ?_ 0 _ (Nat.zero_le _) ⟨M0, by rw [nextW_zero]; rfl, hM, (fun w hw => by rw [nextW_zero] at hw; cases hw), (fun w hw => by rw [nextW_zero] at hw; cases hw)⟩
  · rintro a s ha ⟨M, rfl, hMa, hMb, hac⟩
    dsimp only
    rw [if_pos (lt_int ha), ix ha]
    simp only [Option.bind_some]
    obtain ⟨x, hx, ⟨w, rfl, hw⟩ | ⟨M', rfl, h1, h2, h3⟩⟩ := miss_inner hv h16 hi ha hl hMa hMb hac
    · rw [hx]
      exact .inr ⟨_, rfl, .inl ⟨w, rfl, hw⟩⟩
    · rw [hx]
      exact .inl ⟨_, rfl, M', by rw [nx (by omega : (allW (lets g) i).length ≤ _) ha], h1, h2, h3⟩
  · rintro s ⟨M, rfl, hMa, hMb, hac⟩
    dsimp only
    rw [if_neg (not_lt_int _)]
    exact ⟨_, rfl, .inr ⟨M, by rw [nextW_all], by rw [← nextW_all]; exact hMb, by rw [← nextW_all]; exact hac⟩⟩

theorem Missing_eq (hv : VG g) (h16 : g.1 ≤ 16) {n : Nat} (hn : n ≤ 4096) : m_language_Missing g (n : Int) = some (if upto g.2.1 = [] then ([], true, 0) else missR g 0 n) := by
  unfold m_language_Missing
  rw [lengths_zero hv h16 hn, states_eq hv]
  simp only [Option.bind_some, ne_eq, not_true_eq_false, if_false]
  by_cases h0 : upto g.2.1 = []
  · rw [if_pos (by rw [h0]; rfl), if_pos h0]
  have hpos := List.length_pos_iff.2 h0
  rw [if_neg (by omega), if_neg h0]
  refine Eq.trans (congrArg (fun o => lpO o _ _) (loopN_eq (if (missR g 0 n).2.1 = true ∨ (missR g 0 n).2.2 ≠ 0 then .ret (missR g 0 n) else .go ()) n (fun i s => ∃ M, s = (allW (lets g) i, (i : Int), M) ∧ MapOk g M (allW (lets g) i) ∧ (∀ w ∈ allW (lets g) i, accB g w = true) ∧ (allW (lets g) i).length ≤ 4096 ∧ missR g 0 n = missR g i (n - i)) ?_ ?_ ⟨_, rfl, ?_, ?_, by simp [allW], rfl⟩)) ?_
  · rintro i s hi ⟨M, rfl, hMa, hac, hl, hr⟩
    dsimp only
    rw [if_pos (lt_int hi)]
    have hni : n - i = (n - (i + 1)) + 1 := by omega
    rw [hni] at hr
    simp only [missR] at hr
    obtain ⟨x, hx, ⟨w, rfl, hw⟩ | ⟨M', rfl, h1, h2⟩⟩ := miss_level hv h16 (by omega) hl hMa
    · rw [hx]
      rw [hw] at hr
      refine .inr ⟨_, rfl, ?_⟩
      rw [hr]
      simp
    · rw [hx]
      have hnone : missL g (i + 1) = none := List.find?_eq_none.2 fun w hw => by simp [h2 w hw]
      rw [hnone] at hr
      dsimp only at hr
      by_cases h4 : 4096 < (allW (lets g) (i + 1)).length
      · rw [if_pos h4] at hr
        refine .inr ⟨.ret ([], false, 4), ?_, ?_⟩
        · show (if (4096 : Int) < ((allW (lets g) (i + 1)).length : Int) then _ else _) = _
          rw [if_pos (by omega)]
        · rw [hr]; simp
      · rw [if_neg h4] at hr
        refine .inl ⟨(allW (lets g) (i + 1), ((i + 1 : Nat) : Int), M'), ?_, M', rfl, h1, h2, by omega, hr⟩
        show (if (4096 : Int) < ((allW (lets g) (i + 1)).length : Int) then _ else _) = _
        rw [if_neg (by omega), nx (by omega : n ≤ _) hi]
  · rintro s ⟨M, rfl, hMa, hac, hl, hr⟩
    dsimp only
    rw [if_neg (not_lt_int _)]
    refine ⟨_, rfl, ?_⟩
    rw [Nat.sub_self] at hr
    simp only [missR] at hr
    rw [hr]
    simp
  · intro w hw
    simp only [allW, List.mem_singleton] at hw
    subst hw
    rfl
  · intro w hw
    simp only [allW, List.mem_singleton] at hw
    subst hw
    simp only [accB, decide_eq_true_eq]
    exact h0
  · by_cases hc : (missR g 0 n).2.1 = true ∨ (missR g 0 n).2.2 ≠ 0
    · rw [if_pos hc]; rfl
    · rw [if_neg hc]
      have : ∀ (m j : Nat), ¬ ((missR g j m).2.1 = true ∨ (missR g j m).2.2 ≠ 0) → missR g j m = ([], false, 0) := by
        intro m
        induction m with
        | zero => intro j _; rfl
        | succ m ih =>
          intro j hj
          simp only [missR] at hj ⊢
          cases hm : missL g (j + 1) with
          | some w => rw [hm] at hj; simp at hj
          | none =>
            rw [hm] at hj
            dsimp only at hj ⊢
            by_cases h4 : 4096 < (allW (lets g) (j + 1)).length
            · rw [if_pos h4] at hj; simp at hj
            · rw [if_neg h4] at hj ⊢; exact ih _ hj
      rw [this n 0 hc]
      rfl
end
end Go.AW

/- The words of a length, by reading; the anchor of chapter 11. -/
namespace Go.AW
open Go
set_option linter.unusedSimpArgs false
set_option linter.unusedVariables false

theorem lvl_congr {f h : List Int → UInt8 → List Int} {cs : List UInt8} {A : List Int → Prop} {set : List Int} (hs : A set) (hA : ∀ a c, A a → c ∈ cs → A (f a c)) (he : ∀ a c, A a → c ∈ cs → f a c = h a c) : ∀ n, lvl f cs set n = lvl h cs set n
  | 0 => rfl
  | n + 1 => by
    simp only [lvl]
    rw [← lvl_congr hs hA he n]
    have hall : ∀ x ∈ lvl f cs set n, A x.2 := lvl_all hs hA n
    have hcs : ∀ (cs' : List UInt8), (∀ c ∈ cs', c ∈ cs) → ∀ x ∈ lvl f cs set n, ext1 f cs' x = ext1 h cs' x := by
      intro cs' hsub x hx
      unfold ext1
      induction cs' with
      | nil => rfl
      | cons c cs' ih =>
        rw [List.filterMap_cons, List.filterMap_cons, he x.2 c (hall x hx) (hsub c (List.mem_cons_self ..)), ih fun d hd => hsub d (List.mem_cons_of_mem _ hd)]
    have : ∀ l : List WS, (∀ x ∈ l, ext1 f cs x = ext1 h cs x) → l.flatMap (ext1 f cs) = l.flatMap (ext1 h cs) := by
      intro l hl
      induction l with
      | nil => rfl
      | cons x l ih => rw [List.flatMap_cons, List.flatMap_cons, hl x (List.mem_cons_self ..), ih fun y hy => hl y (List.mem_cons_of_mem _ hy)]
    exact this _ (hcs cs fun _ h => h)

section
variable {g : Gr}
def stpL (g : Gr) (a : List Int) (c : UInt8) : List Int := stepL g a (lab c)
theorem LV_lab (hv : VG g) {set : List Int} (hs : SetOk g set) (n : Nat) : LV g set n = lvl (stpL g) (lets g) set n := by
  refine lvl_congr (A := SetOk g) hs (fun a c ha hc => stpM_ok hv ha hc) (fun a c ha hc => ?_) n
  unfold stpM
  rw [step_lab hv ha hc]
  rfl

theorem mem_LV (hv : VG g) {set : List Int} (hs : SetOk g set) : ∀ (n : Nat) (x : WS), x ∈ LV g set n ↔ x.1.length = n ∧ (∀ c ∈ x.1, c ∈ lets g) ∧ x.2 = endsL g set x.1 ∧ x.2 ≠ [] := by
  intro n
  rw [LV_lab hv hs]
  induction n with
  | zero =>
    rintro ⟨u, a⟩
    simp only [lvl]
    constructor
    · intro h
      split at h
      · cases h
      · rename_i hne
        simp only [List.mem_singleton, Prod.mk.injEq] at h
        obtain ⟨rfl, rfl⟩ := h
        exact ⟨rfl, by simp, rfl, hne⟩
    · rintro ⟨hl, _, he, hne⟩
      have hu : u = [] := List.eq_nil_of_length_eq_zero hl
      subst hu
      have : a = set := he
      subst this
      rw [if_neg hne]
      simp
  | succ n ih =>
    rintro ⟨u, a⟩
    simp only [lvl, List.mem_flatMap, mem_ext1]
    constructor
    · rintro ⟨y, hy, c, hc, hne, he⟩
      cases he
      obtain ⟨h1, h2, h3, h4⟩ := (ih y).1 hy
      refine ⟨by simp [h1], fun d hd => ?_, ?_, hne⟩
      · rcases List.mem_append.1 hd with hd | hd
        · exact h2 d hd
        · simp at hd; subst hd; exact hc
      · show stepL g y.2 (lab c) = _
        rw [endsL_app, ← h3]
        rfl
    · rintro ⟨hl, hc, he, hne⟩
      rcases List.eq_nil_or_concat u with rfl | ⟨v, c, rfl⟩
      · simp at hl
      · rw [List.concat_eq_append] at he hl hc ⊢
        rw [endsL_app] at he
        have he' : a = stepL g (endsL g set v) (lab c) := he
        have hne2 : endsL g set v ≠ [] := fun h0 => hne (by rw [he', h0, stepL_nil])
        exact ⟨(v, endsL g set v), (ih _).2 ⟨by simpa using hl, fun d hd => hc d (List.mem_append_left _ hd), rfl, hne2⟩, c, hc c (by simp), by show stepL g _ _ ≠ []; rw [← he']; exact hne, by rw [he']; rfl⟩
end

theorem EqS_eq {a b : List (List UInt8)} (hm : a.length ≤ 9223372036854775807) : m_slices_Equal_Lstring_string a b = some (decide (a = b)) := by
  unfold m_slices_Equal_Lstring_string
  by_cases hl : a.length = b.length
  · rw [if_neg (by omega)]
    refine lpL (loop_any (fun i => (i : Int)) a.length (fun i => decide (a.getD i [] ≠ b.getD i [])) (Ou.ret false) (Ou.go ()) (fun i hi => ?_) (by rw [if_neg (not_lt_int _)]) rfl) ?_
    · have hi' : i < b.length := by omega
      have e1 : a.getD i [] = a[i] := by simp [List.getD, hi]
      have e2 : b.getD i [] = b[i] := by simp [List.getD, hi']
      rw [if_pos (lt_int hi), ix hi, ix hi']
      simp only [Option.bind_some, nx hm hi, e1, e2, decide_eq_true_eq]
    · by_cases he : a = b
      · subst he
        rw [if_neg]
        · simp [lpO]
        · simp
      · rw [if_pos]
        · simp [lpO, he]
        · refine List.any_eq_true.2 ?_
          apply Classical.byContradiction
          intro hno
          refine he (List.ext_getElem hl fun i h1 h2 => ?_)
          apply Classical.byContradiction
          intro hne
          refine hno ⟨i, List.mem_range.2 h1, decide_eq_true ?_⟩
          rwa [show a.getD i [] = a[i] by simp [List.getD, h1], show b.getD i [] = b[i] by simp [List.getD, h2]]
  · rw [if_pos (by omega)]
    have : ¬ a = b := fun e => hl (by rw [e])
    simp [this]

theorem gT_ok : VG gT where
  l1 := by decide
  l2 := by decide
  s0 := by decide
  s1 := by decide
  el := by decide
  ed := by decide
  ord := fun i h => match i, h with
    | 0, _ => show cmp3 (0, 0, 0) (0, 1, 1) < 0 by decide
    | 1, _ => show cmp3 (0, 1, 1) (1, 0, 0) < 0 by decide
    | _ + 2, h => absurd h (by simp [gT])

theorem awake11_eq : m_law11_awakeG = some true := by
  have h1 : m_language_Words gT 2 = some ([[48, 48], [48, 49], [49, 48]], 0) := by
    obtain ⟨r, hr, _, h2, h3⟩ := Words_both gT 2
    have hs := upto_ok gT
    have e0 : ∀ n, LV gT (upto gT.2.1) n = lvl (stpL gT) (lets gT) (upto gT.2.1) n := LV_lab gT_ok hs
    have h0 := h3 gT_ok (by decide) (by decide) (by decide) (OKL_iff.2 fun j j1 j2 => by
      rw [e0]
      have : j = 1 ∨ j = 2 := by have : (2 : Int).toNat = 2 := rfl; omega
      rcases this with rfl | rfl <;> decide)
    obtain ⟨_, hw⟩ := h2 h0
    have e1 : wordsE gT 2 = [[48, 48], [48, 49], [49, 48]] := by
      unfold wordsE
      rw [e0]
      decide
    rw [hr]
    obtain ⟨r1, r2⟩ := r
    dsimp only at h0 hw
    rw [h0, hw, e1]
  have h2 : m_language_Path gT [48, 49, 48] = some ([0, 1, 2], 0) := by
    have h := (Path_eq gT_ok (by decide) (w := [48, 49, 48]) ⟨by decide, by decide⟩).1 (can_mem.1 (by decide))
    have e : pathR gT none [48, 49, 48] = [0, 1, 2] := by decide
    rw [e] at h
    exact h
  have h3 : m_language_Missing gT 3 = some ([49, 49], true, 0) := by
    have h := Missing_eq gT_ok (by decide) (n := 3) (by decide)
    rw [if_neg (by decide)] at h
    have e : missR gT 0 3 = ([49, 49], true, 0) := by decide
    rw [e] at h
    exact h
  have h4 : m_law11_golden = some gT := rfl
  unfold m_law11_awakeG
  simp only [h4, Option.bind_some, h1, h2, h3, jp]
  rw [EqS_eq (by decide), EqI_eq (by decide)]
  decide
end Go.AW

namespace Go.AW
open Go Go.Proofs
set_option linter.unusedVariables false
set_option maxHeartbeats 1600000 in
set_option maxRecDepth 100000 in
theorem w_slices_Equal_Lstring_string {p0 : List (List UInt8)} {p1 : List (List UInt8)} {r : Bool} (h : m_slices_Equal_Lstring_string p0 p1 = some r) : Pure Try.prog 20 [slE eStr p0, slE eStr p1] (· = HV.bool r) := by
  unfold m_slices_Equal_Lstring_string at h
  refine Pure.of_body Try.func20 rfl rfl (Nat.le_of_ble_eq_true rfl) fun hf => ?_
  unfold Try.f20
  dsimp only [enumS, Nat.reduceAdd]
  refine AW.rgs rfl fun K hK => ?_
  refine mv rfl rfl ?_
  refine b_nil (hK _ (AW.to (to_le (s' := ⟨[(0, slE eStr p0), (1, slE eStr p1)], []⟩) (AS.le_of ⟨rfl, rfl, trivial⟩ trivial) ?_)))
  clear hK K
  refine AW.seq ?_
  refine AW.rgs rfl fun K hK => ?_
  refine mv rfl rfl ?_
  refine bv rfl (v_lenF rfl rfl ty30 rfl) ?_
  refine mv rfl rfl ?_
  refine bv rfl (v_lenF rfl rfl ty30 rfl) ?_
  refine bv rfl (v_bin rfl rfl b_neq) ?_
  refine b_nil (hK _ (AW.to (to_le (s' := ⟨[(0, slE eStr p0), (1, slE eStr p1), (10, HV.bool (decide (((p0).length : Int) ≠ ((p1).length : Int))))], []⟩) (AS.le_of ⟨rfl, rfl, rfl, trivial⟩ trivial) ?_)))
  clear hK K
  refine AW.cond rfl (fun hc => ?_) (fun hc => ?_)
  · have hc := of_decide_eq_true hc
    have h := ifT hc h
    refine AW.rgs rfl fun K hK => ?_
    refine mv rfl rfl ?_
    refine b_nil (hK _ (AW.to (to_le (s' := ⟨[(4, HV.bool false)], []⟩) (AS.le_of ⟨rfl, trivial⟩ trivial) ?_)))
    clear hK K
    refine AW.ret ?_
    have h := Option.some.inj h
    subst h
    exact ret_pure (hs := [HV.bool false]) (q := HV.bool false) (.inr rfl) (resT rfl rfl) rfl trivial
  · have hc := of_decide_eq_false hc
    have h := ifF hc h
    refine AW.skip ?_
    refine AW.seq ?_
    refine AW.rgs rfl fun K hK => ?_
    refine mv rfl rfl ?_
    refine bv rfl (v_lenF rfl rfl ty30 rfl) ?_
    refine mv rfl rfl ?_
    refine b_nil (hK _ (AW.to (to_le (s' := ⟨[(0, slE eStr p0), (1, slE eStr p1), (12, HV.int .i64 ((p0).length : Int)), (13, HV.int .i64 0)], []⟩) (AS.le_of ⟨rfl, rfl, rfl, rfl, trivial⟩ trivial) ?_)))
    clear hK K
    refine AW.lpR h (by first | exact up_then | exact up_to) (S := Int) (V := Unit) (fun a v => ⟨[(0, slE eStr p0), (1, slE eStr p1), (12, HV.int .i64 ((p0).length : Int)), (13, HV.int .i64 a)], []⟩) ?_ (X := Unit) (W := Unit) (fun a v => ⟨[], []⟩) (fun a9 w10 h => ?_) (fun a1 w2 st3 h hr4=> ?_)
    · exact to_le (s' := ⟨[(0, slE eStr p0), (1, slE eStr p1), (12, HV.int .i64 ((p0).length : Int)), (13, HV.int .i64 0)], []⟩) (AS.le_of ⟨rfl, rfl, rfl, rfl, trivial⟩ trivial) ⟨(), rfl⟩
    · refine AW.rgs rfl fun K hK => ?_
      refine mv rfl rfl ?_
      refine b_nil (hK _ (AW.to (to_le (s' := ⟨[(4, HV.bool true)], []⟩) (AS.le_of ⟨rfl, trivial⟩ trivial) ?_)))
      clear hK K
      refine AW.ret ?_
      have h := Option.some.inj h
      subst h
      exact ret_pure (hs := [HV.bool true]) (q := HV.bool true) (.inr rfl) (resT rfl rfl) rfl trivial
    · refine AW.rgs rfl fun K hK => ?_
      refine bv rfl (v_bin rfl rfl b_lss) ?_
      refine b_nil (hK _ (AW.to (to_le (s' := ⟨[(0, slE eStr p0), (1, slE eStr p1), (12, HV.int .i64 ((p0).length : Int)), (13, HV.int .i64 a1), (14, HV.bool (decide (a1 < ((p0).length : Int))))], []⟩) (AS.le_of ⟨rfl, rfl, rfl, rfl, rfl, trivial⟩ trivial) ?_)))
      clear hK K
      refine AW.cseq rfl (fun hc => ?_) (fun hc => ?_)
      · have hc := of_decide_eq_true hc
        have h := ifT hc h
        refine AW.skip ?_
        refine AW.seq (AW.block ?_)
        refine AW.rgs rfl fun K hK => ?_
        refine mv rfl rfl ?_
        refine mv rfl rfl ?_
        refine b_nil (hK _ (AW.to (to_le (s' := ⟨[(0, slE eStr p0), (1, slE eStr p1), (5, HV.int .i64 a1), (12, HV.int .i64 ((p0).length : Int)), (13, HV.int .i64 a1)], []⟩) (AS.le_of ⟨rfl, rfl, rfl, rfl, rfl, trivial⟩ trivial) ?_)))
        clear hK K
        refine AW.dgs 9 follows rfl rfl fun K hK => ?_
        refine sm rfl rfl ?_
        refine sm rfl rfl ?_
        obtain ⟨x5, h6, h⟩ := bS h
        refine sv rfl (v_idxF ty30 es30 rfl rfl (idx_lt h6)) ?_
        refine sv rfl (v_loadF ty9 rfl (l_cell eStr h6 (o := 0) rfl rfl)) ?_
        refine sm rfl rfl ?_
        refine sm rfl rfl ?_
        obtain ⟨x7, h8, h⟩ := bS h
        refine sv rfl (v_idxF ty30 es30 rfl rfl (idx_lt h8)) ?_
        refine sv rfl (v_loadF ty9 rfl (l_cell eStr h8 (o := 0) rfl rfl)) ?_
        refine sv rfl (v_bin rfl rfl b_sneq) ?_
        refine s_nil ?_
        refine b_nil (hK _ (AW.to (to_le (s' := ⟨[(0, slE eStr p0), (1, slE eStr p1), (12, HV.int .i64 ((p0).length : Int)), (13, HV.int .i64 a1), (24, HV.bool (decide (x5 ≠ x7)))], []⟩) (AS.le_of ⟨rfl, rfl, rfl, rfl, rfl, trivial⟩ trivial) ?_)))
        clear hK K
        refine AW.cond rfl (fun hc => ?_) (fun hc => ?_)
        · have hc := of_decide_eq_true hc
          have h := ifT hc h
          refine AW.rgs rfl fun K hK => ?_
          refine mv rfl rfl ?_
          refine b_nil (hK _ (AW.to (to_le (s' := ⟨[(4, HV.bool false)], []⟩) (AS.le_of ⟨rfl, trivial⟩ trivial) ?_)))
          clear hK K
          have h := hr4 _ h
          refine AW.ret ?_
          have h := Option.some.inj h
          subst h
          exact ret_pure (hs := [HV.bool false]) (q := HV.bool false) (.inr rfl) (resT rfl rfl) rfl trivial
        · have hc := of_decide_eq_false hc
          have h := ifF hc h
          refine AW.skip ?_
          refine AW.rg rfl fun K hK => ?_
          refine bv rfl (v_bin rfl rfl b_add) ?_
          refine mv rfl rfl ?_
          refine b_nil (hK _ ?_)
          clear hK K
          exact to_le (s' := ⟨[(0, slE eStr p0), (1, slE eStr p1), (12, HV.int .i64 ((p0).length : Int)), (13, HV.int .i64 (IntKind.wrap .i64 (a1 + 1)))], []⟩) (AS.le_of ⟨rfl, rfl, rfl, rfl, trivial⟩ trivial) ⟨IntKind.wrap .i64 (a1 + 1), (), h, rfl⟩
      · have hc := of_decide_eq_false hc
        have h := ifF hc h
        refine AW.exit ?_
        exact to_le (s' := ⟨[], []⟩) (AS.le_of trivial trivial) ⟨(), (), h, rfl⟩

set_option maxHeartbeats 1600000 in
set_option maxRecDepth 100000 in
theorem w_slices_Equal_Lint_int {p0 : List (Int)} {p1 : List (Int)} {r : Bool} (h : m_slices_Equal_Lint_int p0 p1 = some r) : Pure Try.prog 32 [slE eInt p0, slE eInt p1] (· = HV.bool r) := by
  unfold m_slices_Equal_Lint_int at h
  refine Pure.of_body Try.func32 rfl rfl (Nat.le_of_ble_eq_true rfl) fun hf => ?_
  unfold Try.f32
  dsimp only [enumS, Nat.reduceAdd]
  refine AW.rgs rfl fun K hK => ?_
  refine mv rfl rfl ?_
  refine b_nil (hK _ (AW.to (to_le (s' := ⟨[(0, slE eInt p0), (1, slE eInt p1)], []⟩) (AS.le_of ⟨rfl, rfl, trivial⟩ trivial) ?_)))
  clear hK K
  refine AW.seq ?_
  refine AW.rgs rfl fun K hK => ?_
  refine mv rfl rfl ?_
  refine bv rfl (v_lenF rfl rfl ty42 rfl) ?_
  refine mv rfl rfl ?_
  refine bv rfl (v_lenF rfl rfl ty42 rfl) ?_
  refine bv rfl (v_bin rfl rfl b_neq) ?_
  refine b_nil (hK _ (AW.to (to_le (s' := ⟨[(0, slE eInt p0), (1, slE eInt p1), (10, HV.bool (decide (((p0).length : Int) ≠ ((p1).length : Int))))], []⟩) (AS.le_of ⟨rfl, rfl, rfl, trivial⟩ trivial) ?_)))
  clear hK K
  refine AW.cond rfl (fun hc => ?_) (fun hc => ?_)
  · have hc := of_decide_eq_true hc
    have h := ifT hc h
    refine AW.rgs rfl fun K hK => ?_
    refine mv rfl rfl ?_
    refine b_nil (hK _ (AW.to (to_le (s' := ⟨[(4, HV.bool false)], []⟩) (AS.le_of ⟨rfl, trivial⟩ trivial) ?_)))
    clear hK K
    refine AW.ret ?_
    have h := Option.some.inj h
    subst h
    exact ret_pure (hs := [HV.bool false]) (q := HV.bool false) (.inr rfl) (resT rfl rfl) rfl trivial
  · have hc := of_decide_eq_false hc
    have h := ifF hc h
    refine AW.skip ?_
    refine AW.seq ?_
    refine AW.rgs rfl fun K hK => ?_
    refine mv rfl rfl ?_
    refine bv rfl (v_lenF rfl rfl ty42 rfl) ?_
    refine mv rfl rfl ?_
    refine b_nil (hK _ (AW.to (to_le (s' := ⟨[(0, slE eInt p0), (1, slE eInt p1), (12, HV.int .i64 ((p0).length : Int)), (13, HV.int .i64 0)], []⟩) (AS.le_of ⟨rfl, rfl, rfl, rfl, trivial⟩ trivial) ?_)))
    clear hK K
    refine AW.lpR h (by first | exact up_then | exact up_to) (S := Int) (V := Unit) (fun a v => ⟨[(0, slE eInt p0), (1, slE eInt p1), (12, HV.int .i64 ((p0).length : Int)), (13, HV.int .i64 a)], []⟩) ?_ (X := Unit) (W := Unit) (fun a v => ⟨[], []⟩) (fun a9 w10 h => ?_) (fun a1 w2 st3 h hr4=> ?_)
    · exact to_le (s' := ⟨[(0, slE eInt p0), (1, slE eInt p1), (12, HV.int .i64 ((p0).length : Int)), (13, HV.int .i64 0)], []⟩) (AS.le_of ⟨rfl, rfl, rfl, rfl, trivial⟩ trivial) ⟨(), rfl⟩
    · refine AW.rgs rfl fun K hK => ?_
      refine mv rfl rfl ?_
      refine b_nil (hK _ (AW.to (to_le (s' := ⟨[(4, HV.bool true)], []⟩) (AS.le_of ⟨rfl, trivial⟩ trivial) ?_)))
      clear hK K
      refine AW.ret ?_
      have h := Option.some.inj h
      subst h
      exact ret_pure (hs := [HV.bool true]) (q := HV.bool true) (.inr rfl) (resT rfl rfl) rfl trivial
    · refine AW.rgs rfl fun K hK => ?_
      refine bv rfl (v_bin rfl rfl b_lss) ?_
      refine b_nil (hK _ (AW.to (to_le (s' := ⟨[(0, slE eInt p0), (1, slE eInt p1), (12, HV.int .i64 ((p0).length : Int)), (13, HV.int .i64 a1), (14, HV.bool (decide (a1 < ((p0).length : Int))))], []⟩) (AS.le_of ⟨rfl, rfl, rfl, rfl, rfl, trivial⟩ trivial) ?_)))
      clear hK K
      refine AW.cseq rfl (fun hc => ?_) (fun hc => ?_)
      · have hc := of_decide_eq_true hc
        have h := ifT hc h
        refine AW.skip ?_
        refine AW.seq (AW.block ?_)
        refine AW.rgs rfl fun K hK => ?_
        refine mv rfl rfl ?_
        refine mv rfl rfl ?_
        refine b_nil (hK _ (AW.to (to_le (s' := ⟨[(0, slE eInt p0), (1, slE eInt p1), (5, HV.int .i64 a1), (12, HV.int .i64 ((p0).length : Int)), (13, HV.int .i64 a1)], []⟩) (AS.le_of ⟨rfl, rfl, rfl, rfl, rfl, trivial⟩ trivial) ?_)))
        clear hK K
        refine AW.dgs 9 follows rfl rfl fun K hK => ?_
        refine sm rfl rfl ?_
        refine sm rfl rfl ?_
        obtain ⟨x5, h6, h⟩ := bS h
        refine sv rfl (v_idxF ty42 es42 rfl rfl (idx_lt h6)) ?_
        refine sv rfl (v_loadF ty3 rfl (l_cell eInt h6 (o := 0) rfl rfl)) ?_
        refine sm rfl rfl ?_
        refine sm rfl rfl ?_
        obtain ⟨x7, h8, h⟩ := bS h
        refine sv rfl (v_idxF ty42 es42 rfl rfl (idx_lt h8)) ?_
        refine sv rfl (v_loadF ty3 rfl (l_cell eInt h8 (o := 0) rfl rfl)) ?_
        refine sv rfl (v_bin rfl rfl b_neq) ?_
        refine s_nil ?_
        refine b_nil (hK _ (AW.to (to_le (s' := ⟨[(0, slE eInt p0), (1, slE eInt p1), (12, HV.int .i64 ((p0).length : Int)), (13, HV.int .i64 a1), (24, HV.bool (decide (x5 ≠ x7)))], []⟩) (AS.le_of ⟨rfl, rfl, rfl, rfl, rfl, trivial⟩ trivial) ?_)))
        clear hK K
        refine AW.cond rfl (fun hc => ?_) (fun hc => ?_)
        · have hc := of_decide_eq_true hc
          have h := ifT hc h
          refine AW.rgs rfl fun K hK => ?_
          refine mv rfl rfl ?_
          refine b_nil (hK _ (AW.to (to_le (s' := ⟨[(4, HV.bool false)], []⟩) (AS.le_of ⟨rfl, trivial⟩ trivial) ?_)))
          clear hK K
          have h := hr4 _ h
          refine AW.ret ?_
          have h := Option.some.inj h
          subst h
          exact ret_pure (hs := [HV.bool false]) (q := HV.bool false) (.inr rfl) (resT rfl rfl) rfl trivial
        · have hc := of_decide_eq_false hc
          have h := ifF hc h
          refine AW.skip ?_
          refine AW.rg rfl fun K hK => ?_
          refine bv rfl (v_bin rfl rfl b_add) ?_
          refine mv rfl rfl ?_
          refine b_nil (hK _ ?_)
          clear hK K
          exact to_le (s' := ⟨[(0, slE eInt p0), (1, slE eInt p1), (12, HV.int .i64 ((p0).length : Int)), (13, HV.int .i64 (IntKind.wrap .i64 (a1 + 1)))], []⟩) (AS.le_of ⟨rfl, rfl, rfl, rfl, trivial⟩ trivial) ⟨IntKind.wrap .i64 (a1 + 1), (), h, rfl⟩
      · have hc := of_decide_eq_false hc
        have h := ifF hc h
        refine AW.exit ?_
        exact to_le (s' := ⟨[], []⟩) (AS.le_of trivial trivial) ⟨(), (), h, rfl⟩

set_option maxHeartbeats 1600000 in
set_option maxRecDepth 100000 in
theorem w_language_Words {p0 : TLabelsStatesEdges} {p1 : Int} {r : (List (List UInt8)) × Int} (h : m_language_Words p0 p1 = some r) : Pure Try.prog 36 [HV.agg [HV.int .i64 p0.1, HV.int .i64 p0.2.1, slE eFromLabelTo p0.2.2], HV.int .i64 p1] (· = HV.tup [slE eStr r.1, HV.int .i64 r.2]) := by
  unfold m_language_Words at h
  refine Pure.of_body Try.func36 rfl rfl (Nat.le_of_ble_eq_true rfl) fun hf => ?_
  unfold Try.f36
  dsimp only [enumS, Nat.reduceAdd]
  refine AW.rgs rfl fun K hK => ?_
  refine b_op rfl (o_box rfl rfl rfl ?_)
  refine mv rfl rfl ?_
  refine mv rfl rfl ?_
  refine b_nil (hK _ (AW.to (to_le (s' := ⟨[(1, HV.int .i64 p1), (2, HV.fptr [HV.int .i64 p0.1, HV.int .i64 p0.2.1, slE eFromLabelTo p0.2.2] 0)], []⟩) (AS.le_of ⟨rfl, rfl, trivial⟩ trivial) ?_)))
  clear hK K
  refine AW.seq ?_
  refine AW.rgs rfl fun K hK => ?_
  refine bv rfl (v_loadF ty24 rfl (l_litA rfl (Nat.le_of_ble_eq_true rfl) rfl)) ?_
  refine mv rfl rfl ?_
  obtain ⟨x1, h2, h⟩ := bS h
  refine b_op rfl (o_call rfl rfl rfl rfl (ACallD.pure0 (w_language_lengths h2)) ?_)
  refine mv rfl rfl ?_
  refine b_nil (hK _ (AW.to (to_le (s' := ⟨[(1, HV.int .i64 p1), (2, HV.fptr [HV.int .i64 p0.1, HV.int .i64 p0.2.1, slE eFromLabelTo p0.2.2] 0), (6, HV.int .i64 x1)], []⟩) (AS.le_of ⟨rfl, rfl, rfl, trivial⟩ trivial) ?_)))
  clear hK K
  refine AW.rgs rfl fun K hK => ?_
  refine mv rfl rfl ?_
  refine bv rfl (v_bin rfl rfl b_neq) ?_
  refine b_nil (hK _ (AW.to (to_le (s' := ⟨[(1, HV.int .i64 p1), (2, HV.fptr [HV.int .i64 p0.1, HV.int .i64 p0.2.1, slE eFromLabelTo p0.2.2] 0), (6, HV.int .i64 x1), (13, HV.bool (decide (x1 ≠ 0)))], []⟩) (AS.le_of ⟨rfl, rfl, rfl, rfl, trivial⟩ trivial) ?_)))
  clear hK K
  refine AW.cond rfl (fun hc => ?_) (fun hc => ?_)
  · have hc := of_decide_eq_true hc
    have h := ifT hc h
    refine AW.rgs rfl fun K hK => ?_
    refine mv rfl rfl ?_
    refine mv rfl rfl ?_
    refine mv rfl rfl ?_
    refine b_nil (hK _ (AW.to (to_le (s' := ⟨[(4, HV.v (.slice none 0 0)), (5, HV.int .i64 x1)], []⟩) (AS.le_of ⟨rfl, rfl, trivial⟩ trivial) ?_)))
    clear hK K
    refine AW.to (to_weak ⟨[(4, slE eStr ([] : List (List UInt8))), (5, HV.int .i64 x1)], []⟩ ⟨⟨_, rfl, .nil _⟩, ⟨_, rfl, .refl _⟩, trivial⟩ trivial ?_)
    refine AW.ret ?_
    have h := Option.some.inj h
    subst h
    exact ret_pure (hs := [slE eStr ([] : List (List UInt8)), HV.int .i64 x1]) (q := HV.tup [slE eStr ([] : List (List UInt8)), HV.int .i64 x1]) (.inr rfl) (resT rfl (resT rfl rfl)) rfl ⟨(clean_slE fun _ _ => ⟨trivial, trivial⟩), trivial, trivial⟩
  · have hc := of_decide_eq_false hc
    have h := ifF hc h
    refine AW.skip ?_
    refine AW.dys follows fun K hK => ?_
    refine y_st 4 rfl rfl ?_
    refine sv rfl (v_loadF ty24 rfl (l_litA rfl (Nat.le_of_ble_eq_true rfl) rfl)) ?_
    refine sv rfl (v_loadF ty24 rfl (l_litA rfl (Nat.le_of_ble_eq_true rfl) rfl)) ?_
    obtain ⟨x3, h4, h⟩ := bS h
    refine s_op rfl rfl (ops_call rfl rfl rfl rfl (ACallD.pure0 (w_language_states h4)) ?_)
    refine sm rfl rfl ?_
    refine s_nil ?_
    obtain ⟨x5, h6, h⟩ := bS h
    by_cases hg7 : x5.2 = true
    · have h := ifT hg7 h
      refine y_op rfl rfl rfl rfl (o_callA rfl rfl rfl rfl (c_listT h6 hg7 fun i8 v9 es10 hes11 => ?_) )
      refine b_nil ?_
      refine y_st 10 rfl rfl ?_
      refine sm rfl rfl ?_
      refine sv rfl (v_extract rfl rfl) ?_
      refine sv rfl (v_extract rfl rfl) ?_
      refine sm rfl rfl ?_
      refine sm rfl rfl ?_
      refine s_nil ?_
      refine y_nil rfl (hK _ (AW.to (to_le (s' := ⟨[(7, HV.mp i8 v9), (8, HV.bool true)], [(i8, v9, .map es10)]⟩) (AS.le_of ⟨rfl, rfl, trivial⟩ ⟨hget_0, trivial⟩) ?_)))
      clear hK K
      refine AW.seq ?_
      refine AW.rgs rfl fun K hK => ?_
      refine mv rfl rfl ?_
      refine bv rfl (v_not rfl) ?_
      refine b_nil (hK _ (AW.to (to_le (s' := ⟨[(7, HV.mp i8 v9), (24, HV.bool false)], [(i8, v9, .map es10)]⟩) (AS.le_of ⟨rfl, rfl, trivial⟩ ⟨hget_0, trivial⟩) ?_)))
      clear hK K
      refine AW.cond rfl (fun hc => by cases hc) (fun _ => ?_)
      refine AW.skip ?_
      refine AW.rgs rfl fun K hK => ?_
      refine mv rfl rfl ?_
      refine b_op rfl (o_callK [(i8, v9, .map es10)] rfl rfl rfl rfl (fun K hK => w82 hK) ?_)
      refine b_op rfl (o_callK (q := slE eStr (sortS ((x5.1).map Prod.fst))) [] rfl rfl rfl rfl (fun K hK => c_sortedKeys hes11 hK) ?_)
      refine mv rfl rfl ?_
      refine mv rfl rfl ?_
      refine b_nil (hK _ (AW.to (to_le (s' := ⟨[(4, slE eStr (sortS ((x5.1).map Prod.fst))), (5, HV.int .i64 0)], []⟩) (AS.le_of ⟨rfl, rfl, trivial⟩ trivial) ?_)))
      clear hK K
      refine AW.ret ?_
      have h := Option.some.inj h
      subst h
      exact ret_pure (hs := [slE eStr (sortS ((x5.1).map Prod.fst)), HV.int .i64 0]) (q := HV.tup [slE eStr (sortS ((x5.1).map Prod.fst)), HV.int .i64 0]) (.inr rfl) (resT rfl (resT rfl rfl)) rfl ⟨(clean_slE fun _ _ => ⟨trivial, trivial⟩), trivial, trivial⟩
    · have h := ifF hg7 h
      refine y_op rfl rfl rfl rfl (o_callA rfl rfl rfl rfl (c_listF h6 hg7 ?_) )
      refine b_nil ?_
      refine y_st 10 rfl rfl ?_
      refine sm rfl rfl ?_
      refine sv rfl (v_extract rfl rfl) ?_
      refine sv rfl (v_extract rfl rfl) ?_
      refine sm rfl rfl ?_
      refine sm rfl rfl ?_
      refine s_nil ?_
      refine y_nil rfl (hK _ (AW.to (to_le (s' := ⟨[(7, HV.v (.map none)), (8, HV.bool false)], []⟩) (AS.le_of ⟨rfl, rfl, trivial⟩ trivial) ?_)))
      clear hK K
      refine AW.seq ?_
      refine AW.rgs rfl fun K hK => ?_
      refine mv rfl rfl ?_
      refine bv rfl (v_not rfl) ?_
      refine b_nil (hK _ (AW.to (to_le (s' := ⟨[(7, HV.v (.map none)), (24, HV.bool true)], []⟩) (AS.le_of ⟨rfl, rfl, trivial⟩ trivial) ?_)))
      clear hK K
      refine AW.cond rfl (fun _ => ?_) (fun hc => by cases hc)
      refine AW.rgs rfl fun K hK => ?_
      refine mv rfl rfl ?_
      refine mv rfl rfl ?_
      refine b_nil (hK _ (AW.to (to_le (s' := ⟨[(4, HV.v (.slice none 0 0)), (5, HV.int .i64 4)], []⟩) (AS.le_of ⟨rfl, rfl, trivial⟩ trivial) ?_)))
      clear hK K
      refine AW.to (to_weak ⟨[(4, slE eStr ([] : List (List UInt8))), (5, HV.int .i64 4)], []⟩ ⟨⟨_, rfl, .nil _⟩, ⟨_, rfl, .refl _⟩, trivial⟩ trivial ?_)
      refine AW.ret ?_
      have h := Option.some.inj h
      subst h
      exact ret_pure (hs := [slE eStr ([] : List (List UInt8)), HV.int .i64 4]) (q := HV.tup [slE eStr ([] : List (List UInt8)), HV.int .i64 4]) (.inr rfl) (resT rfl (resT rfl rfl)) rfl ⟨(clean_slE fun _ _ => ⟨trivial, trivial⟩), trivial, trivial⟩

set_option maxHeartbeats 1600000 in
set_option maxRecDepth 100000 in
theorem w_slices_Index_Lbool_bool {p0 : List (Bool)} {p1 : Bool} {r : Int} (h : m_slices_Index_Lbool_bool p0 p1 = some r) : Pure Try.prog 143 [slE eBool p0, HV.bool p1] (· = HV.int .i64 r) := by
  unfold m_slices_Index_Lbool_bool at h
  refine Pure.of_body Try.func143 rfl rfl (Nat.le_of_ble_eq_true rfl) fun hf => ?_
  unfold Try.f143
  dsimp only [enumS, Nat.reduceAdd]
  refine AW.rgs rfl fun K hK => ?_
  refine mv rfl rfl ?_
  refine b_nil (hK _ (AW.to (to_le (s' := ⟨[(0, slE eBool p0), (1, HV.bool p1)], []⟩) (AS.le_of ⟨rfl, rfl, trivial⟩ trivial) ?_)))
  clear hK K
  refine AW.seq ?_
  refine AW.rgs rfl fun K hK => ?_
  refine mv rfl rfl ?_
  refine bv rfl (v_lenF rfl rfl ty127 rfl) ?_
  refine mv rfl rfl ?_
  refine b_nil (hK _ (AW.to (to_le (s' := ⟨[(0, slE eBool p0), (1, HV.bool p1), (7, HV.int .i64 ((p0).length : Int)), (8, HV.int .i64 0)], []⟩) (AS.le_of ⟨rfl, rfl, rfl, rfl, trivial⟩ trivial) ?_)))
  clear hK K
  refine AW.lpR h (by first | exact up_then | exact up_to) (S := Int) (V := Unit) (fun a v => ⟨[(0, slE eBool p0), (1, HV.bool p1), (7, HV.int .i64 ((p0).length : Int)), (8, HV.int .i64 a)], []⟩) ?_ (X := Unit) (W := Unit) (fun a v => ⟨[], []⟩) (fun a7 w8 h => ?_) (fun a1 w2 st3 h hr4=> ?_)
  · exact to_le (s' := ⟨[(0, slE eBool p0), (1, HV.bool p1), (7, HV.int .i64 ((p0).length : Int)), (8, HV.int .i64 0)], []⟩) (AS.le_of ⟨rfl, rfl, rfl, rfl, trivial⟩ trivial) ⟨(), rfl⟩
  · refine AW.rgs rfl fun K hK => ?_
    refine mv rfl rfl ?_
    refine b_nil (hK _ (AW.to (to_le (s' := ⟨[(4, HV.int .i64 (-1))], []⟩) (AS.le_of ⟨rfl, trivial⟩ trivial) ?_)))
    clear hK K
    refine AW.ret ?_
    have h := Option.some.inj h
    subst h
    exact ret_pure (hs := [HV.int .i64 (-1)]) (q := HV.int .i64 (-1)) (.inr rfl) (resT rfl rfl) rfl trivial
  · refine AW.rgs rfl fun K hK => ?_
    refine bv rfl (v_bin rfl rfl b_lss) ?_
    refine b_nil (hK _ (AW.to (to_le (s' := ⟨[(0, slE eBool p0), (1, HV.bool p1), (7, HV.int .i64 ((p0).length : Int)), (8, HV.int .i64 a1), (9, HV.bool (decide (a1 < ((p0).length : Int))))], []⟩) (AS.le_of ⟨rfl, rfl, rfl, rfl, rfl, trivial⟩ trivial) ?_)))
    clear hK K
    refine AW.cseq rfl (fun hc => ?_) (fun hc => ?_)
    · have hc := of_decide_eq_true hc
      have h := ifT hc h
      refine AW.skip ?_
      refine AW.seq (AW.block ?_)
      refine AW.rgs rfl fun K hK => ?_
      refine mv rfl rfl ?_
      refine mv rfl rfl ?_
      refine b_nil (hK _ (AW.to (to_le (s' := ⟨[(0, slE eBool p0), (1, HV.bool p1), (5, HV.int .i64 a1), (7, HV.int .i64 ((p0).length : Int)), (8, HV.int .i64 a1)], []⟩) (AS.le_of ⟨rfl, rfl, rfl, rfl, rfl, trivial⟩ trivial) ?_)))
      clear hK K
      refine AW.rgs rfl fun K hK => ?_
      refine mv rfl rfl ?_
      refine mv rfl rfl ?_
      refine mv rfl rfl ?_
      obtain ⟨x5, h6, h⟩ := bS h
      refine bv rfl (v_idxF ty127 es127 rfl rfl (idx_lt h6)) ?_
      refine bv rfl (v_loadF ty4 rfl (l_cell eBool h6 (o := 0) rfl rfl)) ?_
      refine bv rfl (v_bin rfl rfl (b_eqB ty4)) ?_
      refine b_nil (hK _ (AW.to (to_le (s' := ⟨[(0, slE eBool p0), (1, HV.bool p1), (5, HV.int .i64 a1), (7, HV.int .i64 ((p0).length : Int)), (8, HV.int .i64 a1), (16, HV.bool (p1 == x5))], []⟩) (AS.le_of ⟨rfl, rfl, rfl, rfl, rfl, rfl, trivial⟩ trivial) ?_)))
      clear hK K
      refine AW.cond rfl (fun hc => ?_) (fun hc => ?_)
      · have h := ifT hc h
        refine AW.rgs rfl fun K hK => ?_
        refine mv rfl rfl ?_
        refine mv rfl rfl ?_
        refine b_nil (hK _ (AW.to (to_le (s' := ⟨[(4, HV.int .i64 a1)], []⟩) (AS.le_of ⟨rfl, trivial⟩ trivial) ?_)))
        clear hK K
        have h := hr4 _ h
        refine AW.ret ?_
        have h := Option.some.inj h
        subst h
        exact ret_pure (hs := [HV.int .i64 a1]) (q := HV.int .i64 a1) (.inr rfl) (resT rfl rfl) rfl trivial
      · have h := ifF (bF' hc) h
        refine AW.skip ?_
        refine AW.rg rfl fun K hK => ?_
        refine bv rfl (v_bin rfl rfl b_add) ?_
        refine mv rfl rfl ?_
        refine b_nil (hK _ ?_)
        clear hK K
        exact to_le (s' := ⟨[(0, slE eBool p0), (1, HV.bool p1), (7, HV.int .i64 ((p0).length : Int)), (8, HV.int .i64 (IntKind.wrap .i64 (a1 + 1)))], []⟩) (AS.le_of ⟨rfl, rfl, rfl, rfl, trivial⟩ trivial) ⟨IntKind.wrap .i64 (a1 + 1), (), h, rfl⟩
    · have hc := of_decide_eq_false hc
      have h := ifF hc h
      refine AW.exit ?_
      exact to_le (s' := ⟨[], []⟩) (AS.le_of trivial trivial) ⟨(), (), h, rfl⟩

set_option maxHeartbeats 1600000 in
set_option maxRecDepth 100000 in
theorem w_slices_Contains_Lbool_bool {p0 : List (Bool)} {p1 : Bool} {r : Bool} (h : m_slices_Contains_Lbool_bool p0 p1 = some r) : Pure Try.prog 99 [slE eBool p0, HV.bool p1] (· = HV.bool r) := by
  unfold m_slices_Contains_Lbool_bool at h
  refine Pure.of_body Try.func99 rfl rfl (Nat.le_of_ble_eq_true rfl) fun hf => ?_
  unfold Try.f99
  dsimp only [enumS, Nat.reduceAdd]
  refine AW.rgs rfl fun K hK => ?_
  refine mv rfl rfl ?_
  refine b_nil (hK _ (AW.to (to_le (s' := ⟨[(0, slE eBool p0), (1, HV.bool p1)], []⟩) (AS.le_of ⟨rfl, rfl, trivial⟩ trivial) ?_)))
  clear hK K
  refine AW.rgs rfl fun K hK => ?_
  refine mv rfl rfl ?_
  refine mv rfl rfl ?_
  obtain ⟨x1, h2, h⟩ := bS h
  refine b_op rfl (o_call rfl rfl rfl rfl (ACallD.pure0 (w_slices_Index_Lbool_bool h2)) ?_)
  refine bv rfl (v_bin rfl rfl b_geq) ?_
  refine mv rfl rfl ?_
  refine b_nil (hK _ (AW.to (to_le (s' := ⟨[(4, HV.bool (decide (0 ≤ x1)))], []⟩) (AS.le_of ⟨rfl, trivial⟩ trivial) ?_)))
  clear hK K
  refine AW.ret ?_
  have h := Option.some.inj h
  subst h
  exact ret_pure (hs := [HV.bool (decide (0 ≤ x1))]) (q := HV.bool (decide (0 ≤ x1))) (.inr rfl) (resT rfl rfl) rfl trivial

end Go.AW

namespace Go.AW
open Go Go.Proofs
set_option linter.unusedVariables false
set_option maxHeartbeats 1600000 in
set_option maxRecDepth 100000 in
theorem w_language_Path {p0 : TLabelsStatesEdges} {p1 : List UInt8} {r : (List (Int)) × Int} (h : m_language_Path p0 p1 = some r) : Pure Try.prog 50 [HV.agg [HV.int .i64 p0.1, HV.int .i64 p0.2.1, slE eFromLabelTo p0.2.2], HV.str p1] (· = HV.tup [slE eInt r.1, HV.int .i64 r.2]) := by
  unfold m_language_Path at h
  refine Pure.of_body Try.func50 rfl rfl (Nat.le_of_ble_eq_true rfl) fun hf => ?_
  unfold Try.f50
  dsimp only [enumS, Nat.reduceAdd]
  refine AW.rgs rfl fun K hK => ?_
  refine b_op rfl (o_box rfl rfl rfl ?_)
  refine mv rfl rfl ?_
  refine mv rfl rfl ?_
  refine b_nil (hK _ (AW.to (to_le (s' := ⟨[(1, HV.str p1), (2, HV.fptr [HV.int .i64 p0.1, HV.int .i64 p0.2.1, slE eFromLabelTo p0.2.2] 0)], []⟩) (AS.le_of ⟨rfl, rfl, trivial⟩ trivial) ?_)))
  clear hK K
  refine AW.seq ?_
  refine AW.rgs rfl fun K hK => ?_
  refine bv rfl (v_loadF ty24 rfl (l_litA rfl (Nat.le_of_ble_eq_true rfl) rfl)) ?_
  refine mv rfl rfl ?_
  obtain ⟨x1, h2, h⟩ := bS h
  refine b_op rfl (o_call rfl rfl rfl rfl (ACallD.pure0 (w_language_spells h2)) ?_)
  refine mv rfl rfl ?_
  refine b_nil (hK _ (AW.to (to_le (s' := ⟨[(1, HV.str p1), (2, HV.fptr [HV.int .i64 p0.1, HV.int .i64 p0.2.1, slE eFromLabelTo p0.2.2] 0), (6, HV.int .i64 x1)], []⟩) (AS.le_of ⟨rfl, rfl, rfl, trivial⟩ trivial) ?_)))
  clear hK K
  refine AW.rgs rfl fun K hK => ?_
  refine mv rfl rfl ?_
  refine bv rfl (v_bin rfl rfl b_neq) ?_
  refine b_nil (hK _ (AW.to (to_le (s' := ⟨[(1, HV.str p1), (2, HV.fptr [HV.int .i64 p0.1, HV.int .i64 p0.2.1, slE eFromLabelTo p0.2.2] 0), (6, HV.int .i64 x1), (19, HV.bool (decide (x1 ≠ 0)))], []⟩) (AS.le_of ⟨rfl, rfl, rfl, rfl, trivial⟩ trivial) ?_)))
  clear hK K
  refine AW.cond rfl (fun hc => ?_) (fun hc => ?_)
  · have hc := of_decide_eq_true hc
    have h := ifT hc h
    refine AW.rgs rfl fun K hK => ?_
    refine mv rfl rfl ?_
    refine mv rfl rfl ?_
    refine mv rfl rfl ?_
    refine b_nil (hK _ (AW.to (to_le (s' := ⟨[(4, HV.v (.slice none 0 0)), (5, HV.int .i64 x1)], []⟩) (AS.le_of ⟨rfl, rfl, trivial⟩ trivial) ?_)))
    clear hK K
    refine AW.to (to_weak ⟨[(4, slE eInt ([] : List Int)), (5, HV.int .i64 x1)], []⟩ ⟨⟨_, rfl, .nil _⟩, ⟨_, rfl, .refl _⟩, trivial⟩ trivial ?_)
    refine AW.ret ?_
    have h := Option.some.inj h
    subst h
    exact ret_pure (hs := [slE eInt ([] : List Int), HV.int .i64 x1]) (q := HV.tup [slE eInt ([] : List Int), HV.int .i64 x1]) (.inr rfl) (resT rfl (resT rfl rfl)) rfl ⟨(clean_slE fun _ _ => ⟨trivial, trivial⟩), trivial, trivial⟩
  · have hc := of_decide_eq_false hc
    have h := ifF hc h
    refine AW.skip ?_
    refine AW.rgs rfl fun K hK => ?_
    refine mv rfl rfl ?_
    refine bv rfl (v_lenS rfl rfl ty9 rfl) ?_
    refine bv rfl (v_bin rfl rfl b_add) ?_
    obtain ⟨h4, h⟩ := ifN h
    refine b_op rfl (o_makeN (fid := 50) eBool 50024 rfl rfl ty126 rfl rfl ty127 rfl rfl h4 (fun v3 => ?_))
    refine mv rfl rfl ?_
    refine b_nil (hK _ (AW.to (to_le (s' := ⟨[(1, HV.str p1), (2, HV.fptr [HV.int .i64 p0.1, HV.int .i64 p0.2.1, slE eFromLabelTo p0.2.2] 0), (7, HV.ar 50024 v3 (eSl eBool).k 0 ((List.replicate (IntKind.wrap .i64 (((p1).length : Int) + 1)).toNat ([] : List (Bool))).length))], [(50024, v3, .arr (eSl eBool).k 127 ((eSl eBool).E (List.replicate (IntKind.wrap .i64 (((p1).length : Int) + 1)).toNat ([] : List (Bool)))))]⟩) (AS.le_of ⟨rfl, rfl, rfl, trivial⟩ ⟨rfl, trivial⟩) ?_)))
    clear hK K
    refine AW.rgs rfl fun K hK => ?_
    refine mv rfl rfl ?_
    refine mv rfl rfl ?_
    refine bv rfl (v_lenS rfl rfl ty9 rfl) ?_
    refine b_op rfl (o_bsl rfl rfl (as_of (cs := [HV.bool true]) ty127 ty4 rfl rfl rfl rfl rfl) ?_)
    refine bv rfl (v_fieldAddrF fo24_1 rfl) ?_
    refine bv rfl (v_loadF ty3 rfl (l_lit rfl rfl)) ?_
    obtain ⟨x5, h6, h⟩ := bS h
    refine b_op rfl (o_call rfl rfl rfl rfl (ACallD.pure0 (w_slices_Repeat_Lbool_bool h6)) ?_)
    obtain ⟨x7, h8, h⟩ := bS h
    refine bv rfl (v_idxA ty126 es126 rfl rfl (idx_lt h8) rfl) ?_
    refine b_op rfl (o_storeE (eSl eBool) (l := (List.replicate (IntKind.wrap .i64 (((p1).length : Int) + 1)).toNat ([] : List (Bool)))) (j := ((p1).length : Int)) (v := x5) rfl rfl rfl ty127 rfl rfl rfl (idx_lt h8) ?_)
    refine b_nil (hK _ (AW.to (to_le (s' := ⟨[(1, HV.str p1), (2, HV.fptr [HV.int .i64 p0.1, HV.int .i64 p0.2.1, slE eFromLabelTo p0.2.2] 0), (7, HV.ar 50024 v3 (eSl eBool).k 0 (((List.replicate (IntKind.wrap .i64 (((p1).length : Int) + 1)).toNat ([] : List (Bool))).set (((p1).length : Int)).toNat x5).length))], [(50024, v3, .arr (eSl eBool).k 127 ((eSl eBool).E ((List.replicate (IntKind.wrap .i64 (((p1).length : Int) + 1)).toNat ([] : List (Bool))).set (((p1).length : Int)).toNat x5)))]⟩) (AS.le_of ⟨rfl, rfl, arl (by first | rfl | simp only [List.length_set, sortI_len, sortS_len]), trivial⟩ ⟨rfl, trivial⟩) ?_)))
    clear hK K
    refine AW.seq ?_
    refine AW.rgs rfl fun K hK => ?_
    refine mv rfl rfl ?_
    refine bv rfl (v_lenS rfl rfl ty9 rfl) ?_
    refine bv rfl (v_bin rfl rfl b_sub) ?_
    refine mv rfl rfl ?_
    refine b_nil (hK _ (AW.to (to_le (s' := ⟨[(1, HV.str p1), (2, HV.fptr [HV.int .i64 p0.1, HV.int .i64 p0.2.1, slE eFromLabelTo p0.2.2] 0), (7, HV.ar 50024 v3 (eSl eBool).k 0 (((List.replicate (IntKind.wrap .i64 (((p1).length : Int) + 1)).toNat ([] : List (Bool))).set (((p1).length : Int)).toNat x5).length)), (8, HV.int .i64 (IntKind.wrap .i64 (((p1).length : Int) - 1)))], [(50024, v3, .arr (eSl eBool).k 127 ((eSl eBool).E ((List.replicate (IntKind.wrap .i64 (((p1).length : Int) + 1)).toNat ([] : List (Bool))).set (((p1).length : Int)).toNat x5)))]⟩) (AS.le_of ⟨rfl, rfl, rfl, rfl, trivial⟩ ⟨rfl, trivial⟩) ?_)))
    clear hK K
    refine AW.lpX h (by first | exact up_then | exact up_to) (S := Int × (List (List (Bool)))) (V := Unit) (fun a v => ⟨[(1, HV.str p1), (2, HV.fptr [HV.int .i64 p0.1, HV.int .i64 p0.2.1, slE eFromLabelTo p0.2.2] 0), (7, HV.ar 50024 v3 (eSl eBool).k 0 ((a.2).length)), (8, HV.int .i64 a.1)], [(50024, v3, .arr (eSl eBool).k 127 ((eSl eBool).E a.2))]⟩) ?_ (X := (List (List (Bool)))) (W := Unit) (fun a v => ⟨[(1, HV.str p1), (2, HV.fptr [HV.int .i64 p0.1, HV.int .i64 p0.2.1, slE eFromLabelTo p0.2.2] 0), (7, HV.ar 50024 v3 (eSl eBool).k 0 ((a).length))], [(50024, v3, .arr (eSl eBool).k 127 ((eSl eBool).E a))]⟩) (fun a48 w49 h => ?_) (fun a9 w10 st11 h => ?_)
    · exact to_le (s' := ⟨[(1, HV.str p1), (2, HV.fptr [HV.int .i64 p0.1, HV.int .i64 p0.2.1, slE eFromLabelTo p0.2.2] 0), (7, HV.ar 50024 v3 (eSl eBool).k 0 (((List.replicate (IntKind.wrap .i64 (((p1).length : Int) + 1)).toNat ([] : List (Bool))).set (((p1).length : Int)).toNat x5).length)), (8, HV.int .i64 (IntKind.wrap .i64 (((p1).length : Int) - 1)))], [(50024, v3, .arr (eSl eBool).k 127 ((eSl eBool).E ((List.replicate (IntKind.wrap .i64 (((p1).length : Int) + 1)).toNat ([] : List (Bool))).set (((p1).length : Int)).toNat x5)))]⟩) (AS.le_of ⟨rfl, rfl, rfl, rfl, trivial⟩ ⟨rfl, trivial⟩) ⟨(), rfl⟩
    · refine AW.seq ?_
      refine AW.rgs rfl fun K hK => ?_
      refine mv rfl rfl ?_
      obtain ⟨x50, h51, h⟩ := bS h
      refine bv rfl (v_idxA ty126 es126 rfl rfl (idx_lt h51) rfl) ?_
      obtain ⟨x52, h53, h⟩ := bS h
      refine bv rfl (v_loadP ty127 rfl rfl (l_cell (eSl eBool) h53 (o := 0) rfl rfl)) ?_
      obtain ⟨x54, h55, h⟩ := bS h
      refine b_op rfl (o_call rfl rfl rfl rfl (ACallD.pure0 (w_slices_Contains_Lbool_bool h55)) ?_)
      refine bv rfl (v_not rfl) ?_
      refine b_nil (hK _ (AW.to (to_le (s' := ⟨[(1, HV.str p1), (2, HV.fptr [HV.int .i64 p0.1, HV.int .i64 p0.2.1, slE eFromLabelTo p0.2.2] 0), (7, HV.ar 50024 v3 (eSl eBool).k 0 ((a48).length)), (83, HV.bool (!x54))], [(50024, v3, .arr (eSl eBool).k 127 ((eSl eBool).E a48))]⟩) (AS.le_of ⟨rfl, rfl, rfl, rfl, trivial⟩ ⟨rfl, trivial⟩) ?_)))
      clear hK K
      refine AW.cond rfl (fun hc => ?_) (fun hc => ?_)
      · have h := ifT hc h
        refine AW.rgs rfl fun K hK => ?_
        refine mv rfl rfl ?_
        refine mv rfl rfl ?_
        refine b_nil (hK _ (AW.to (to_le (s' := ⟨[(4, HV.v (.slice none 0 0)), (5, HV.int .i64 13)], []⟩) (AS.le_of ⟨rfl, rfl, trivial⟩ trivial) ?_)))
        clear hK K
        refine AW.to (to_weak ⟨[(4, slE eInt ([] : List Int)), (5, HV.int .i64 13)], []⟩ ⟨⟨_, rfl, .nil _⟩, ⟨_, rfl, .refl _⟩, trivial⟩ trivial ?_)
        refine AW.ret ?_
        have h := Option.some.inj h
        subst h
        exact ret_pure (hs := [slE eInt ([] : List Int), HV.int .i64 13]) (q := HV.tup [slE eInt ([] : List Int), HV.int .i64 13]) (.inr rfl) (resT rfl (resT rfl rfl)) rfl ⟨(clean_slE fun _ _ => ⟨trivial, trivial⟩), trivial, trivial⟩
      · have h := ifF (bF' hc) h
        refine AW.skip ?_
        refine AW.rgs rfl fun K hK => ?_
        refine mv rfl rfl ?_
        refine b_nil (hK _ (AW.to (to_le (s' := ⟨[(1, HV.str p1), (2, HV.fptr [HV.int .i64 p0.1, HV.int .i64 p0.2.1, slE eFromLabelTo p0.2.2] 0), (7, HV.ar 50024 v3 (eSl eBool).k 0 ((a48).length)), (11, HV.v (.slice none 0 0))], [(50024, v3, .arr (eSl eBool).k 127 ((eSl eBool).E a48))]⟩) (AS.le_of ⟨rfl, rfl, rfl, rfl, trivial⟩ ⟨rfl, trivial⟩) ?_)))
        clear hK K
        refine AW.seq ?_
        refine AW.rgs rfl fun K hK => ?_
        refine mv rfl rfl ?_
        refine bv rfl (v_lenS rfl rfl ty9 rfl) ?_
        refine mv rfl rfl ?_
        refine b_nil (hK _ (AW.to (to_le (s' := ⟨[(1, HV.str p1), (2, HV.fptr [HV.int .i64 p0.1, HV.int .i64 p0.2.1, slE eFromLabelTo p0.2.2] 0), (7, HV.ar 50024 v3 (eSl eBool).k 0 ((a48).length)), (11, HV.v (.slice none 0 0)), (85, HV.int .i64 ((p1).length : Int)), (86, HV.int .i64 0)], [(50024, v3, .arr (eSl eBool).k 127 ((eSl eBool).E a48))]⟩) (AS.le_of ⟨rfl, rfl, rfl, rfl, rfl, rfl, trivial⟩ ⟨rfl, trivial⟩) ?_)))
        clear hK K
        refine AW.lpX h (by first | exact up_then | exact up_to) (S := Int × (List Int)) (V := Nat) (fun a v => ⟨[(1, HV.str p1), (2, HV.fptr [HV.int .i64 p0.1, HV.int .i64 p0.2.1, slE eFromLabelTo p0.2.2] 0), (7, HV.ar 50024 v3 (eSl eBool).k 0 ((a48).length)), (11, HV.ar 50137 v eInt.k 0 ((a.2).length)), (85, HV.int .i64 ((p1).length : Int)), (86, HV.int .i64 a.1)], [(50024, v3, .arr (eSl eBool).k 127 ((eSl eBool).E a48)), (50137, v, .arr eInt.k 3 (eInt.E a.2))]⟩) ?_ (X := (List Int)) (W := Nat) (fun a v => ⟨[(11, HV.ar 50137 v eInt.k 0 ((a).length))], [(50137, v, .arr eInt.k 3 (eInt.E a))]⟩) (fun a94 w95 h => ?_) (fun a56 w57 st58 h => ?_)
        · refine to_bind (to_own 50137 11 eInt.k 3 rfl fun v93 => ?_)
          exact to_le (s' := ⟨[(1, HV.str p1), (2, HV.fptr [HV.int .i64 p0.1, HV.int .i64 p0.2.1, slE eFromLabelTo p0.2.2] 0), (7, HV.ar 50024 v3 (eSl eBool).k 0 ((a48).length)), (11, HV.ar 50137 v93 eInt.k 0 ((([] : List Int)).length)), (85, HV.int .i64 ((p1).length : Int)), (86, HV.int .i64 0)], [(50024, v3, .arr (eSl eBool).k 127 ((eSl eBool).E a48)), (50137, v93, .arr eInt.k 3 (eInt.E ([] : List Int)))]⟩) (AS.le_of ⟨rfl, rfl, rfl, arl (by first | rfl | simp only [List.length_set, sortI_len, sortS_len]), rfl, rfl, trivial⟩ ⟨rfl, rfl, trivial⟩) ⟨v93, rfl⟩
        · refine AW.rgs rfl fun K hK => ?_
          refine mv rfl rfl ?_
          refine mv rfl rfl ?_
          refine mv rfl rfl ?_
          refine b_nil (hK _ (AW.to (to_le (s' := ⟨[(4, HV.ar 50137 w95 eInt.k 0 ((a94).length)), (5, HV.int .i64 0)], [(50137, w95, .arr eInt.k 3 (eInt.E a94))]⟩) (AS.le_of ⟨rfl, rfl, trivial⟩ ⟨rfl, trivial⟩) ?_)))
          clear hK K
          refine AW.to (to_frz 2 [(50137, w95, .arr eInt.k 3 (eInt.E a94))] ⟨[(4, slE eInt a94), (5, HV.int .i64 0)], []⟩ ⟨⟨_, rfl, frz_slE eInt (l := a94) rfl fun _ _ => rfl⟩, ⟨_, rfl, rfl⟩, trivial⟩ trivial ⟨rfl, trivial⟩ ⟨rfl, trivial⟩ ?_)
          refine AW.ret ?_
          have h := Option.some.inj h
          subst h
          exact ret_pure (hs := [slE eInt a94, HV.int .i64 0]) (q := HV.tup [slE eInt a94, HV.int .i64 0]) (.inr rfl) (resT rfl (resT rfl rfl)) rfl ⟨(clean_slE fun _ _ => ⟨trivial, trivial⟩), trivial, trivial⟩
        · refine AW.rgs rfl fun K hK => ?_
          refine bv rfl (v_bin rfl rfl b_lss) ?_
          refine b_nil (hK _ (AW.to (to_le (s' := ⟨[(1, HV.str p1), (2, HV.fptr [HV.int .i64 p0.1, HV.int .i64 p0.2.1, slE eFromLabelTo p0.2.2] 0), (7, HV.ar 50024 v3 (eSl eBool).k 0 ((a48).length)), (11, HV.ar 50137 w57 eInt.k 0 ((a56.2).length)), (85, HV.int .i64 ((p1).length : Int)), (86, HV.int .i64 a56.1), (87, HV.bool (decide (a56.1 < ((p1).length : Int))))], [(50024, v3, .arr (eSl eBool).k 127 ((eSl eBool).E a48)), (50137, w57, .arr eInt.k 3 (eInt.E a56.2))]⟩) (AS.le_of ⟨rfl, rfl, rfl, rfl, rfl, rfl, rfl, trivial⟩ ⟨rfl, rfl, trivial⟩) ?_)))
          clear hK K
          refine AW.cseq rfl (fun hc => ?_) (fun hc => ?_)
          · have hc := of_decide_eq_true hc
            have h := ifT hc h
            refine AW.skip ?_
            refine AW.seq (AW.block ?_)
            refine AW.rgs rfl fun K hK => ?_
            refine mv rfl rfl ?_
            refine mv rfl rfl ?_
            refine b_nil (hK _ (AW.to (to_le (s' := ⟨[(1, HV.str p1), (2, HV.fptr [HV.int .i64 p0.1, HV.int .i64 p0.2.1, slE eFromLabelTo p0.2.2] 0), (7, HV.ar 50024 v3 (eSl eBool).k 0 ((a48).length)), (11, HV.ar 50137 w57 eInt.k 0 ((a56.2).length)), (12, HV.int .i64 a56.1), (85, HV.int .i64 ((p1).length : Int)), (86, HV.int .i64 a56.1)], [(50024, v3, .arr (eSl eBool).k 127 ((eSl eBool).E a48)), (50137, w57, .arr eInt.k 3 (eInt.E a56.2))]⟩) (AS.le_of ⟨rfl, rfl, rfl, rfl, rfl, rfl, rfl, trivial⟩ ⟨rfl, rfl, trivial⟩) ?_)))
            clear hK K
            refine AW.rgs rfl fun K hK => ?_
            refine bv rfl (v_fieldAddrF fo24_2 rfl) ?_
            refine bv rfl (v_loadF ty22 rfl (l_lit rfl rfl)) ?_
            refine bv rfl (v_lenF rfl rfl ty22 rfl) ?_
            refine mv rfl rfl ?_
            refine b_nil (hK _ (AW.to (to_le (s' := ⟨[(1, HV.str p1), (2, HV.fptr [HV.int .i64 p0.1, HV.int .i64 p0.2.1, slE eFromLabelTo p0.2.2] 0), (7, HV.ar 50024 v3 (eSl eBool).k 0 ((a48).length)), (11, HV.ar 50137 w57 eInt.k 0 ((a56.2).length)), (12, HV.int .i64 a56.1), (85, HV.int .i64 ((p1).length : Int)), (86, HV.int .i64 a56.1), (90, slE eFromLabelTo p0.2.2), (91, HV.int .i64 ((p0.2.2).length : Int)), (92, HV.int .i64 0)], [(50024, v3, .arr (eSl eBool).k 127 ((eSl eBool).E a48)), (50137, w57, .arr eInt.k 3 (eInt.E a56.2))]⟩) (AS.le_of ⟨rfl, rfl, rfl, rfl, rfl, rfl, rfl, rfl, rfl, rfl, trivial⟩ ⟨rfl, rfl, trivial⟩) ?_)))
            clear hK K
            refine AW.lpX h (by first | exact up_then | exact up_to) (S := Int) (V := Unit) (fun a v => ⟨[(1, HV.str p1), (2, HV.fptr [HV.int .i64 p0.1, HV.int .i64 p0.2.1, slE eFromLabelTo p0.2.2] 0), (7, HV.ar 50024 v3 (eSl eBool).k 0 ((a48).length)), (11, HV.ar 50137 w57 eInt.k 0 ((a56.2).length)), (12, HV.int .i64 a56.1), (85, HV.int .i64 ((p1).length : Int)), (86, HV.int .i64 a56.1), (90, slE eFromLabelTo p0.2.2), (91, HV.int .i64 ((p0.2.2).length : Int)), (92, HV.int .i64 a)], [(50024, v3, .arr (eSl eBool).k 127 ((eSl eBool).E a48)), (50137, w57, .arr eInt.k 3 (eInt.E a56.2))]⟩) ?_ (X := (List Int)) (W := Nat) (fun a v => ⟨[(1, HV.str p1), (2, HV.fptr [HV.int .i64 p0.1, HV.int .i64 p0.2.1, slE eFromLabelTo p0.2.2] 0), (7, HV.ar 50024 v3 (eSl eBool).k 0 ((a48).length)), (11, HV.ar 50137 v eInt.k 0 ((a).length)), (85, HV.int .i64 ((p1).length : Int)), (86, HV.int .i64 a56.1)], [(50024, v3, .arr (eSl eBool).k 127 ((eSl eBool).E a48)), (50137, v, .arr eInt.k 3 (eInt.E a))]⟩) (fun a91 w92 h => ?_) (fun a60 w61 st62 h => ?_)
            · exact to_le (s' := ⟨[(1, HV.str p1), (2, HV.fptr [HV.int .i64 p0.1, HV.int .i64 p0.2.1, slE eFromLabelTo p0.2.2] 0), (7, HV.ar 50024 v3 (eSl eBool).k 0 ((a48).length)), (11, HV.ar 50137 w57 eInt.k 0 ((a56.2).length)), (12, HV.int .i64 a56.1), (85, HV.int .i64 ((p1).length : Int)), (86, HV.int .i64 a56.1), (90, slE eFromLabelTo p0.2.2), (91, HV.int .i64 ((p0.2.2).length : Int)), (92, HV.int .i64 0)], [(50024, v3, .arr (eSl eBool).k 127 ((eSl eBool).E a48)), (50137, w57, .arr eInt.k 3 (eInt.E a56.2))]⟩) (AS.le_of ⟨rfl, rfl, rfl, rfl, rfl, rfl, rfl, rfl, rfl, rfl, trivial⟩ ⟨rfl, rfl, trivial⟩) ⟨(), rfl⟩
            · refine AW.rg rfl fun K hK => ?_
              refine bv rfl (v_bin rfl rfl b_add) ?_
              refine mv rfl rfl ?_
              refine b_nil (hK _ ?_)
              clear hK K
              exact to_le (s' := ⟨[(1, HV.str p1), (2, HV.fptr [HV.int .i64 p0.1, HV.int .i64 p0.2.1, slE eFromLabelTo p0.2.2] 0), (7, HV.ar 50024 v3 (eSl eBool).k 0 ((a48).length)), (11, HV.ar 50137 w92 eInt.k 0 ((a91).length)), (85, HV.int .i64 ((p1).length : Int)), (86, HV.int .i64 (IntKind.wrap .i64 (a56.1 + 1)))], [(50024, v3, .arr (eSl eBool).k 127 ((eSl eBool).E a48)), (50137, w92, .arr eInt.k 3 (eInt.E a91))]⟩) (AS.le_of ⟨rfl, rfl, rfl, rfl, rfl, rfl, trivial⟩ ⟨rfl, rfl, trivial⟩) ⟨(IntKind.wrap .i64 (a56.1 + 1), a91), w92, h, rfl⟩
            · refine AW.rgs rfl fun K hK => ?_
              refine bv rfl (v_bin rfl rfl b_lss) ?_
              refine b_nil (hK _ (AW.to (to_le (s' := ⟨[(1, HV.str p1), (2, HV.fptr [HV.int .i64 p0.1, HV.int .i64 p0.2.1, slE eFromLabelTo p0.2.2] 0), (7, HV.ar 50024 v3 (eSl eBool).k 0 ((a48).length)), (11, HV.ar 50137 w57 eInt.k 0 ((a56.2).length)), (12, HV.int .i64 a56.1), (85, HV.int .i64 ((p1).length : Int)), (86, HV.int .i64 a56.1), (90, slE eFromLabelTo p0.2.2), (91, HV.int .i64 ((p0.2.2).length : Int)), (92, HV.int .i64 a60), (93, HV.bool (decide (a60 < ((p0.2.2).length : Int))))], [(50024, v3, .arr (eSl eBool).k 127 ((eSl eBool).E a48)), (50137, w57, .arr eInt.k 3 (eInt.E a56.2))]⟩) (AS.le_of ⟨rfl, rfl, rfl, rfl, rfl, rfl, rfl, rfl, rfl, rfl, rfl, trivial⟩ ⟨rfl, rfl, trivial⟩) ?_)))
              clear hK K
              refine AW.cseq rfl (fun hc => ?_) (fun hc => ?_)
              · have hc := of_decide_eq_true hc
                have h := ifT hc h
                refine AW.skip ?_
                refine AW.seq (AW.block ?_)
                refine AW.rgs rfl fun K hK => ?_
                refine mv rfl rfl ?_
                obtain ⟨x64, h65, h⟩ := bS h
                refine bv rfl (v_idxF ty22 es22 rfl rfl (idx_lt h65)) ?_
                refine bv rfl (v_loadF ty66 rfl (l_agg eFromLabelTo h65 rfl rfl)) ?_
                refine b_op rfl (o_alloc (fid := 50) (zs := [HV.int .i64 0, HV.int .i64 0, HV.int .i64 0]) 50014 rfl rfl ty66 rfl (fun v66 => ?_))
                refine mv rfl rfl ?_
                refine b_op rfl (o_store (cs := [HV.int .i64 x64.1, HV.int .i64 x64.2.1, HV.int .i64 x64.2.2]) (zs := [HV.int .i64 x64.1, HV.int .i64 x64.2.1, HV.int .i64 x64.2.2]) rfl rfl rfl ty66 rfl rfl rfl rfl rfl ?_)
                refine b_nil (hK _ (AW.to (to_le (s' := ⟨[(1, HV.str p1), (2, HV.fptr [HV.int .i64 p0.1, HV.int .i64 p0.2.1, slE eFromLabelTo p0.2.2] 0), (7, HV.ar 50024 v3 (eSl eBool).k 0 ((a48).length)), (11, HV.ar 50137 w57 eInt.k 0 ((a56.2).length)), (12, HV.int .i64 a56.1), (13, HV.int .i64 a60), (14, HV.ptr 50014 v66 0), (85, HV.int .i64 ((p1).length : Int)), (86, HV.int .i64 a56.1), (90, slE eFromLabelTo p0.2.2), (91, HV.int .i64 ((p0.2.2).length : Int)), (92, HV.int .i64 a60)], [(50024, v3, .arr (eSl eBool).k 127 ((eSl eBool).E a48)), (50137, w57, .arr eInt.k 3 (eInt.E a56.2)), (50014, v66, .arr 3 66 [HV.int .i64 x64.1, HV.int .i64 x64.2.1, HV.int .i64 x64.2.2])]⟩) (AS.le_of ⟨rfl, rfl, rfl, rfl, rfl, rfl, rfl, rfl, rfl, rfl, rfl, rfl, trivial⟩ ⟨rfl, rfl, rfl, trivial⟩) ?_)))
                clear hK K
                refine AW.seqJ h (S := Bool) (V := Unit) (fun a v => ⟨[(1, HV.str p1), (2, HV.fptr [HV.int .i64 p0.1, HV.int .i64 p0.2.1, slE eFromLabelTo p0.2.2] 0), (7, HV.ar 50024 v3 (eSl eBool).k 0 ((a48).length)), (11, HV.ar 50137 w57 eInt.k 0 ((a56.2).length)), (12, HV.int .i64 a56.1), (13, HV.int .i64 a60), (85, HV.int .i64 ((p1).length : Int)), (86, HV.int .i64 a56.1), (90, slE eFromLabelTo p0.2.2), (91, HV.int .i64 ((p0.2.2).length : Int)), (92, HV.int .i64 a60), (133, HV.bool a)], [(50024, v3, .arr (eSl eBool).k 127 ((eSl eBool).E a48)), (50137, w57, .arr eInt.k 3 (eInt.E a56.2))]⟩) (fun a67 w68 h => ?_) (fun k69 h => ?_)
                · refine AW.cond rfl (fun hc => ?_) (fun hc => ?_)
                  · have h := ifT hc h
                    refine AW.rgs rfl fun K hK => ?_
                    refine mv rfl rfl ?_
                    refine mv rfl rfl ?_
                    refine b_op rfl (o_bsl rfl rfl (as_of (cs := [HV.int .i64 a60]) ty42 ty3 rfl rfl rfl rfl rfl) ?_)
                    obtain ⟨h71, h⟩ := ifN h
                    refine b_op rfl (o_appE eInt (l := a56.2) (m := [a60]) rfl rfl ty42 ty42 ty3 rfl rfl rfl rfl rfl h71 (fun v70 => ?_))
                    refine mv rfl rfl ?_
                    refine b_nil (hK _ (AW.to (to_le (s' := ⟨[(1, HV.str p1), (2, HV.fptr [HV.int .i64 p0.1, HV.int .i64 p0.2.1, slE eFromLabelTo p0.2.2] 0), (7, HV.ar 50024 v3 (eSl eBool).k 0 ((a48).length)), (11, HV.ar 50137 v70 eInt.k 0 ((a56.2 ++ [a60]).length)), (85, HV.int .i64 ((p1).length : Int)), (86, HV.int .i64 a56.1)], [(50024, v3, .arr (eSl eBool).k 127 ((eSl eBool).E a48)), (50137, v70, .arr eInt.k 3 (eInt.E (a56.2 ++ [a60])))]⟩) (AS.le_of ⟨rfl, rfl, rfl, rfl, rfl, rfl, trivial⟩ ⟨rfl, rfl, trivial⟩) ?_)))
                    clear hK K
                    refine AW.exit ?_
                    exact to_le (s' := ⟨[(1, HV.str p1), (2, HV.fptr [HV.int .i64 p0.1, HV.int .i64 p0.2.1, slE eFromLabelTo p0.2.2] 0), (7, HV.ar 50024 v3 (eSl eBool).k 0 ((a48).length)), (11, HV.ar 50137 v70 eInt.k 0 ((a56.2 ++ [a60]).length)), (85, HV.int .i64 ((p1).length : Int)), (86, HV.int .i64 a56.1)], [(50024, v3, .arr (eSl eBool).k 127 ((eSl eBool).E a48)), (50137, v70, .arr eInt.k 3 (eInt.E (a56.2 ++ [a60])))]⟩) (AS.le_of ⟨rfl, rfl, rfl, rfl, rfl, rfl, trivial⟩ ⟨rfl, rfl, trivial⟩) ⟨a56.2 ++ [a60], v70, h, rfl⟩
                  · have h := ifF (bF' hc) h
                    refine AW.skip ?_
                    refine AW.rg rfl fun K hK => ?_
                    refine bv rfl (v_bin rfl rfl b_add) ?_
                    refine mv rfl rfl ?_
                    refine b_nil (hK _ ?_)
                    clear hK K
                    exact to_le (s' := ⟨[(1, HV.str p1), (2, HV.fptr [HV.int .i64 p0.1, HV.int .i64 p0.2.1, slE eFromLabelTo p0.2.2] 0), (7, HV.ar 50024 v3 (eSl eBool).k 0 ((a48).length)), (11, HV.ar 50137 w57 eInt.k 0 ((a56.2).length)), (12, HV.int .i64 a56.1), (85, HV.int .i64 ((p1).length : Int)), (86, HV.int .i64 a56.1), (90, slE eFromLabelTo p0.2.2), (91, HV.int .i64 ((p0.2.2).length : Int)), (92, HV.int .i64 (IntKind.wrap .i64 (a60 + 1)))], [(50024, v3, .arr (eSl eBool).k 127 ((eSl eBool).E a48)), (50137, w57, .arr eInt.k 3 (eInt.E a56.2))]⟩) (AS.le_of ⟨rfl, rfl, rfl, rfl, rfl, rfl, rfl, rfl, rfl, rfl, trivial⟩ ⟨rfl, rfl, trivial⟩) ⟨IntKind.wrap .i64 (a60 + 1), (), h, rfl⟩
                · refine AW.dg 37 follows rfl rfl fun K hK => ?_
                  refine sv rfl (v_fieldAddrP fo66_1 rfl rfl) ?_
                  refine sv rfl (v_loadP ty3 rfl rfl (l_lit rfl rfl)) ?_
                  obtain ⟨x72, h73, h⟩ := bS h
                  refine sv rfl (v_idxS ty9 rfl rfl h73) ?_
                  refine sm rfl rfl ?_
                  refine sm rfl rfl ?_
                  obtain ⟨x74, h75, h⟩ := bS h
                  refine sv rfl (v_idxS ty9 rfl rfl h75) ?_
                  refine sv rfl (v_bin rfl rfl b_eql) ?_
                  refine sm rfl rfl ?_
                  by_cases hg90 : (x72.toNat : Int) = (x74.toNat : Int)
                  · have h := ifT hg90 h
                    refine s_T rfl rfl rfl rfl rfl (decide_eq_true hg90) (ops_val rfl (mv_val rfl rfl).2 ?_)
                    refine s_T rfl rfl rfl rfl rfl rfl (ops_val rfl (mv_val rfl rfl).2 ?_)
                    refine s_T rfl rfl rfl rfl rfl rfl (ops_val rfl (v_bin rfl rfl b_add) ?_)
                    obtain ⟨x76, h77, h⟩ := bS h
                    refine s_T rfl rfl rfl rfl rfl rfl (ops_val rfl (v_idxA ty126 es126 rfl rfl (idx_lt h77) rfl) ?_)
                    obtain ⟨x78, h79, h⟩ := bS h
                    refine s_T rfl rfl rfl rfl rfl rfl (ops_val rfl (v_loadP ty127 rfl rfl (l_cell (eSl eBool) h79 (o := 0) rfl rfl)) ?_)
                    refine s_T rfl rfl rfl rfl rfl rfl (ops_val rfl (v_fieldAddrP fo66_2 rfl rfl) ?_)
                    refine s_T rfl rfl rfl rfl rfl rfl (ops_val rfl (v_loadP ty3 rfl rfl (l_lit rfl rfl)) ?_)
                    obtain ⟨x80, h81, h⟩ := bS h
                    refine s_T rfl rfl rfl rfl rfl rfl (ops_val rfl (v_idxF ty127 es127 rfl rfl (idx_lt h81)) ?_)
                    refine s_T rfl rfl rfl rfl rfl rfl (ops_val rfl (v_loadF ty4 rfl (l_cell eBool h81 (o := 0) rfl rfl)) ?_)
                    refine sv rfl (v_pickT rfl rfl rfl) ?_
                    refine sm rfl rfl ?_
                    by_cases hg89 : x80 = true
                    · have h := ifT hg89 h
                      refine s_T rfl rfl rfl rfl rfl hg89 (ops_val rfl (mv_val rfl rfl).2 ?_)
                      refine s_T rfl rfl rfl rfl rfl rfl (ops_val rfl (v_bin rfl rfl b_eql) ?_)
                      refine s_T rfl rfl rfl rfl rfl rfl (ops_val rfl (mv_val rfl rfl).2 ?_)
                      by_cases hg88 : a56.1 = 0
                      · have h := ifT hg88 h
                        refine s_F rfl rfl rfl rfl rfl (decide_eq_true hg88) ?_
                        refine s_F rfl rfl rfl rfl rfl rfl ?_
                        refine s_F rfl rfl rfl rfl rfl rfl ?_
                        refine s_F rfl rfl rfl rfl rfl rfl ?_
                        refine s_F rfl rfl rfl rfl rfl rfl ?_
                        refine s_F rfl rfl rfl rfl rfl rfl ?_
                        refine s_F rfl rfl rfl rfl rfl rfl ?_
                        refine s_F rfl rfl rfl rfl rfl rfl ?_
                        refine s_F rfl rfl rfl rfl rfl rfl ?_
                        refine s_F rfl rfl rfl rfl rfl rfl ?_
                        refine s_F rfl rfl rfl rfl rfl rfl ?_
                        refine s_F rfl rfl rfl rfl rfl rfl ?_
                        refine s_F rfl rfl rfl rfl rfl rfl ?_
                        refine s_T rfl rfl rfl rfl rfl rfl (ops_val rfl (v_pickT rfl rfl rfl) ?_)
                        refine sv rfl (v_pickT rfl rfl rfl) ?_
                        refine s_nil ?_
                        refine b_nil (hK _ ?_)
                        clear hK K
                        exact to_le (s' := ⟨[(1, HV.str p1), (2, HV.fptr [HV.int .i64 p0.1, HV.int .i64 p0.2.1, slE eFromLabelTo p0.2.2] 0), (7, HV.ar 50024 v3 (eSl eBool).k 0 ((a48).length)), (11, HV.ar 50137 w57 eInt.k 0 ((a56.2).length)), (12, HV.int .i64 a56.1), (13, HV.int .i64 a60), (85, HV.int .i64 ((p1).length : Int)), (86, HV.int .i64 a56.1), (90, slE eFromLabelTo p0.2.2), (91, HV.int .i64 ((p0.2.2).length : Int)), (92, HV.int .i64 a60), (133, HV.bool true)], [(50024, v3, .arr (eSl eBool).k 127 ((eSl eBool).E a48)), (50137, w57, .arr eInt.k 3 (eInt.E a56.2))]⟩) (AS.le_of ⟨rfl, rfl, rfl, rfl, rfl, rfl, rfl, rfl, rfl, rfl, rfl, rfl, trivial⟩ ⟨rfl, rfl, trivial⟩) ⟨true, (), h, rfl⟩
                      · have h := ifF hg88 h
                        refine s_T rfl rfl rfl rfl rfl (decide_eq_false hg88) (ops_val rfl (v_fieldAddrP fo66_0 rfl rfl) ?_)
                        refine s_T rfl rfl rfl rfl rfl rfl (ops_val rfl (v_loadP ty3 rfl rfl (l_lit rfl rfl)) ?_)
                        refine s_T rfl rfl rfl rfl rfl rfl (ops_val rfl (v_fieldAddrF fo24_2 rfl) ?_)
                        refine s_T rfl rfl rfl rfl rfl rfl (ops_val rfl (v_loadF ty22 rfl (l_lit rfl rfl)) ?_)
                        refine s_T rfl rfl rfl rfl rfl rfl (ops_val rfl (mv_val rfl rfl).2 ?_)
                        refine s_T rfl rfl rfl rfl rfl rfl (ops_val rfl (mv_val rfl rfl).2 ?_)
                        refine s_T rfl rfl rfl rfl rfl rfl (ops_val rfl (v_bin rfl rfl b_sub) ?_)
                        obtain ⟨x82, h83, h⟩ := bS h
                        refine s_T rfl rfl rfl rfl rfl rfl (ops_val rfl (v_idxA ty42 es42 rfl rfl (idx_lt h83) rfl) ?_)
                        obtain ⟨x84, h85, h⟩ := bS h
                        refine s_T rfl rfl rfl rfl rfl rfl (ops_val rfl (v_loadP ty3 rfl rfl (l_cell eInt h85 (o := 0) rfl rfl)) ?_)
                        obtain ⟨x86, h87, h⟩ := bS h
                        refine s_T rfl rfl rfl rfl rfl rfl (ops_val rfl (v_idxF ty22 es22 rfl rfl (idx_lt h87)) ?_)
                        refine s_T rfl rfl rfl rfl rfl rfl (ops_val rfl (v_fieldAddrF fo66_2 rfl) ?_)
                        refine s_T rfl rfl rfl rfl rfl rfl (ops_val rfl (v_loadF ty3 rfl (l_cell eFromLabelTo h87 (o := 2) rfl rfl)) ?_)
                        refine s_T rfl rfl rfl rfl rfl rfl (ops_val rfl (v_bin rfl rfl b_eql) ?_)
                        refine s_T rfl rfl rfl rfl rfl rfl (ops_val rfl (v_pickF rfl rfl rfl) ?_)
                        refine sv rfl (v_pickT rfl rfl rfl) ?_
                        refine s_nil ?_
                        refine b_nil (hK _ ?_)
                        clear hK K
                        exact to_le (s' := ⟨[(1, HV.str p1), (2, HV.fptr [HV.int .i64 p0.1, HV.int .i64 p0.2.1, slE eFromLabelTo p0.2.2] 0), (7, HV.ar 50024 v3 (eSl eBool).k 0 ((a48).length)), (11, HV.ar 50137 w57 eInt.k 0 ((a56.2).length)), (12, HV.int .i64 a56.1), (13, HV.int .i64 a60), (85, HV.int .i64 ((p1).length : Int)), (86, HV.int .i64 a56.1), (90, slE eFromLabelTo p0.2.2), (91, HV.int .i64 ((p0.2.2).length : Int)), (92, HV.int .i64 a60), (133, HV.bool (decide (x64.1 = x86.2.2)))], [(50024, v3, .arr (eSl eBool).k 127 ((eSl eBool).E a48)), (50137, w57, .arr eInt.k 3 (eInt.E a56.2))]⟩) (AS.le_of ⟨rfl, rfl, rfl, rfl, rfl, rfl, rfl, rfl, rfl, rfl, rfl, rfl, trivial⟩ ⟨rfl, rfl, trivial⟩) ⟨decide (x64.1 = x86.2.2), (), h, rfl⟩
                    · have h := ifF hg89 h
                      refine s_F rfl rfl rfl rfl rfl (bF hg89) ?_
                      refine s_F rfl rfl rfl rfl rfl rfl ?_
                      refine s_F rfl rfl rfl rfl rfl rfl ?_
                      refine s_U rfl rfl rfl rfl rfl ?_
                      refine s_U rfl rfl rfl rfl rfl ?_
                      refine s_U rfl rfl rfl rfl rfl ?_
                      refine s_U rfl rfl rfl rfl rfl ?_
                      refine s_U rfl rfl rfl rfl rfl ?_
                      refine s_U rfl rfl rfl rfl rfl ?_
                      refine s_U rfl rfl rfl rfl rfl ?_
                      refine s_U rfl rfl rfl rfl rfl ?_
                      refine s_U rfl rfl rfl rfl rfl ?_
                      refine s_U rfl rfl rfl rfl rfl ?_
                      refine s_U rfl rfl rfl rfl rfl ?_
                      refine s_U rfl rfl rfl rfl rfl ?_
                      refine s_U rfl rfl rfl rfl rfl ?_
                      refine s_F rfl rfl rfl rfl rfl rfl ?_
                      refine sv rfl (v_pickF rfl rfl rfl) ?_
                      refine s_nil ?_
                      refine b_nil (hK _ ?_)
                      clear hK K
                      exact to_le (s' := ⟨[(1, HV.str p1), (2, HV.fptr [HV.int .i64 p0.1, HV.int .i64 p0.2.1, slE eFromLabelTo p0.2.2] 0), (7, HV.ar 50024 v3 (eSl eBool).k 0 ((a48).length)), (11, HV.ar 50137 w57 eInt.k 0 ((a56.2).length)), (12, HV.int .i64 a56.1), (13, HV.int .i64 a60), (85, HV.int .i64 ((p1).length : Int)), (86, HV.int .i64 a56.1), (90, slE eFromLabelTo p0.2.2), (91, HV.int .i64 ((p0.2.2).length : Int)), (92, HV.int .i64 a60), (133, HV.bool false)], [(50024, v3, .arr (eSl eBool).k 127 ((eSl eBool).E a48)), (50137, w57, .arr eInt.k 3 (eInt.E a56.2))]⟩) (AS.le_of ⟨rfl, rfl, rfl, rfl, rfl, rfl, rfl, rfl, rfl, rfl, rfl, rfl, trivial⟩ ⟨rfl, rfl, trivial⟩) ⟨false, (), h, rfl⟩
                  · have h := ifF hg90 h
                    refine s_F rfl rfl rfl rfl rfl (decide_eq_false hg90) ?_
                    refine s_F rfl rfl rfl rfl rfl rfl ?_
                    refine s_F rfl rfl rfl rfl rfl rfl ?_
                    refine s_F rfl rfl rfl rfl rfl rfl ?_
                    refine s_F rfl rfl rfl rfl rfl rfl ?_
                    refine s_F rfl rfl rfl rfl rfl rfl ?_
                    refine s_F rfl rfl rfl rfl rfl rfl ?_
                    refine s_F rfl rfl rfl rfl rfl rfl ?_
                    refine s_F rfl rfl rfl rfl rfl rfl ?_
                    refine sv rfl (v_pickF rfl rfl rfl) ?_
                    refine sm rfl rfl ?_
                    refine s_F rfl rfl rfl rfl rfl rfl ?_
                    refine s_F rfl rfl rfl rfl rfl rfl ?_
                    refine s_F rfl rfl rfl rfl rfl rfl ?_
                    refine s_U rfl rfl rfl rfl rfl ?_
                    refine s_U rfl rfl rfl rfl rfl ?_
                    refine s_U rfl rfl rfl rfl rfl ?_
                    refine s_U rfl rfl rfl rfl rfl ?_
                    refine s_U rfl rfl rfl rfl rfl ?_
                    refine s_U rfl rfl rfl rfl rfl ?_
                    refine s_U rfl rfl rfl rfl rfl ?_
                    refine s_U rfl rfl rfl rfl rfl ?_
                    refine s_U rfl rfl rfl rfl rfl ?_
                    refine s_U rfl rfl rfl rfl rfl ?_
                    refine s_U rfl rfl rfl rfl rfl ?_
                    refine s_U rfl rfl rfl rfl rfl ?_
                    refine s_U rfl rfl rfl rfl rfl ?_
                    refine s_F rfl rfl rfl rfl rfl rfl ?_
                    refine sv rfl (v_pickF rfl rfl rfl) ?_
                    refine s_nil ?_
                    refine b_nil (hK _ ?_)
                    clear hK K
                    exact to_le (s' := ⟨[(1, HV.str p1), (2, HV.fptr [HV.int .i64 p0.1, HV.int .i64 p0.2.1, slE eFromLabelTo p0.2.2] 0), (7, HV.ar 50024 v3 (eSl eBool).k 0 ((a48).length)), (11, HV.ar 50137 w57 eInt.k 0 ((a56.2).length)), (12, HV.int .i64 a56.1), (13, HV.int .i64 a60), (85, HV.int .i64 ((p1).length : Int)), (86, HV.int .i64 a56.1), (90, slE eFromLabelTo p0.2.2), (91, HV.int .i64 ((p0.2.2).length : Int)), (92, HV.int .i64 a60), (133, HV.bool false)], [(50024, v3, .arr (eSl eBool).k 127 ((eSl eBool).E a48)), (50137, w57, .arr eInt.k 3 (eInt.E a56.2))]⟩) (AS.le_of ⟨rfl, rfl, rfl, rfl, rfl, rfl, rfl, rfl, rfl, rfl, rfl, rfl, trivial⟩ ⟨rfl, rfl, trivial⟩) ⟨false, (), h, rfl⟩
              · have hc := of_decide_eq_false hc
                have h := ifF hc h
                refine AW.exit ?_
                exact to_le (s' := ⟨[(1, HV.str p1), (2, HV.fptr [HV.int .i64 p0.1, HV.int .i64 p0.2.1, slE eFromLabelTo p0.2.2] 0), (7, HV.ar 50024 v3 (eSl eBool).k 0 ((a48).length)), (11, HV.ar 50137 w57 eInt.k 0 ((a56.2).length)), (85, HV.int .i64 ((p1).length : Int)), (86, HV.int .i64 a56.1)], [(50024, v3, .arr (eSl eBool).k 127 ((eSl eBool).E a48)), (50137, w57, .arr eInt.k 3 (eInt.E a56.2))]⟩) (AS.le_of ⟨rfl, rfl, rfl, rfl, rfl, rfl, trivial⟩ ⟨rfl, rfl, trivial⟩) ⟨a56.2, w57, h, rfl⟩
          · have hc := of_decide_eq_false hc
            have h := ifF hc h
            refine AW.exit ?_
            exact to_le (s' := ⟨[(11, HV.ar 50137 w57 eInt.k 0 ((a56.2).length))], [(50137, w57, .arr eInt.k 3 (eInt.E a56.2))]⟩) (AS.le_of ⟨rfl, trivial⟩ ⟨rfl, trivial⟩) ⟨a56.2, w57, h, rfl⟩
    · refine AW.seq ?_
      refine AW.rgs rfl fun K hK => ?_
      refine mv rfl rfl ?_
      refine bv rfl (v_bin rfl rfl b_geq) ?_
      refine b_nil (hK _ (AW.to (to_le (s' := ⟨[(1, HV.str p1), (2, HV.fptr [HV.int .i64 p0.1, HV.int .i64 p0.2.1, slE eFromLabelTo p0.2.2] 0), (7, HV.ar 50024 v3 (eSl eBool).k 0 ((a9.2).length)), (8, HV.int .i64 a9.1), (37, HV.bool (decide (0 ≤ a9.1)))], [(50024, v3, .arr (eSl eBool).k 127 ((eSl eBool).E a9.2))]⟩) (AS.le_of ⟨rfl, rfl, rfl, rfl, rfl, trivial⟩ ⟨rfl, trivial⟩) ?_)))
      clear hK K
      refine AW.cond rfl (fun hc => ?_) (fun hc => ?_)
      · have hc := of_decide_eq_true hc
        have h := ifT hc h
        refine AW.skip ?_
        refine AW.seq (AW.block ?_)
        refine AW.rgs rfl fun K hK => ?_
        refine mv rfl rfl ?_
        refine mv rfl rfl ?_
        refine bv rfl (v_fieldAddrF fo24_1 rfl) ?_
        refine bv rfl (v_loadF ty3 rfl (l_lit rfl rfl)) ?_
        obtain ⟨h14, h⟩ := ifN h
        refine b_op rfl (o_makeE (fid := 50) eBool (false : Bool) 50044 rfl rfl ty127 rfl rfl ty4 rfl rfl h14 (fun v13 => ?_))
        obtain ⟨x15, h16, h⟩ := bS h
        refine bv rfl (v_idxA ty126 es126 rfl rfl (idx_lt h16) rfl) ?_
        refine b_op rfl (o_storeH eBool (L := a9.2) (j := a9.1) rfl rfl rfl ty127 rfl rfl rfl (idx_lt h16) ?_)
        refine b_nil (hK _ (AW.to (to_le (s' := ⟨[(1, HV.str p1), (2, HV.fptr [HV.int .i64 p0.1, HV.int .i64 p0.2.1, slE eFromLabelTo p0.2.2] 0), (7, HV.ar 50024 v3 (eSl eBool).k 0 ((a9.2).length)), (8, HV.int .i64 a9.1)], [(50024, v3, .arr (eSl eBool).k 127 (((eSl eBool).E a9.2).set (a9.1).toNat (HV.ar 50044 v13 eBool.k 0 ((List.replicate (p0.2.1).toNat (false : Bool)).length)))), (50044, v13, .arr eBool.k 4 (eBool.E (List.replicate (p0.2.1).toNat (false : Bool))))]⟩) (AS.le_of ⟨rfl, rfl, rfl, rfl, trivial⟩ ⟨rfl, rfl, trivial⟩) ?_)))
        clear hK K
        refine AW.rgs rfl fun K hK => ?_
        refine bv rfl (v_fieldAddrF fo24_2 rfl) ?_
        refine bv rfl (v_loadF ty22 rfl (l_lit rfl rfl)) ?_
        refine bv rfl (v_lenF rfl rfl ty22 rfl) ?_
        refine mv rfl rfl ?_
        refine b_nil (hK _ (AW.to (to_le (s' := ⟨[(1, HV.str p1), (2, HV.fptr [HV.int .i64 p0.1, HV.int .i64 p0.2.1, slE eFromLabelTo p0.2.2] 0), (7, HV.ar 50024 v3 (eSl eBool).k 0 ((a9.2).length)), (8, HV.int .i64 a9.1), (47, slE eFromLabelTo p0.2.2), (48, HV.int .i64 ((p0.2.2).length : Int)), (49, HV.int .i64 0)], [(50024, v3, .arr (eSl eBool).k 127 (((eSl eBool).E a9.2).set (a9.1).toNat (HV.ar 50044 v13 eBool.k 0 ((List.replicate (p0.2.1).toNat (false : Bool)).length)))), (50044, v13, .arr eBool.k 4 (eBool.E (List.replicate (p0.2.1).toNat (false : Bool))))]⟩) (AS.le_of ⟨rfl, rfl, rfl, rfl, rfl, rfl, rfl, trivial⟩ ⟨rfl, rfl, trivial⟩) ?_)))
        clear hK K
        refine AW.lpX h (by first | exact up_then | exact up_to) (S := Int × (List Bool)) (V := Unit) (fun a v => ⟨[(1, HV.str p1), (2, HV.fptr [HV.int .i64 p0.1, HV.int .i64 p0.2.1, slE eFromLabelTo p0.2.2] 0), (7, HV.ar 50024 v3 (eSl eBool).k 0 ((a9.2).length)), (8, HV.int .i64 a9.1), (47, slE eFromLabelTo p0.2.2), (48, HV.int .i64 ((p0.2.2).length : Int)), (49, HV.int .i64 a.1)], [(50024, v3, .arr (eSl eBool).k 127 (((eSl eBool).E a9.2).set (a9.1).toNat (HV.ar 50044 v13 eBool.k 0 ((a.2).length)))), (50044, v13, .arr eBool.k 4 (eBool.E a.2))]⟩) ?_ (X := (List Bool)) (W := Unit) (fun a v => ⟨[(1, HV.str p1), (2, HV.fptr [HV.int .i64 p0.1, HV.int .i64 p0.2.1, slE eFromLabelTo p0.2.2] 0), (7, HV.ar 50024 v3 (eSl eBool).k 0 ((a9.2).length)), (8, HV.int .i64 a9.1)], [(50024, v3, .arr (eSl eBool).k 127 (((eSl eBool).E a9.2).set (a9.1).toNat (HV.ar 50044 v13 eBool.k 0 ((a).length)))), (50044, v13, .arr eBool.k 4 (eBool.E a))]⟩) (fun a46 w47 h => ?_) (fun a17 w18 st19 h => ?_)
        · exact to_le (s' := ⟨[(1, HV.str p1), (2, HV.fptr [HV.int .i64 p0.1, HV.int .i64 p0.2.1, slE eFromLabelTo p0.2.2] 0), (7, HV.ar 50024 v3 (eSl eBool).k 0 ((a9.2).length)), (8, HV.int .i64 a9.1), (47, slE eFromLabelTo p0.2.2), (48, HV.int .i64 ((p0.2.2).length : Int)), (49, HV.int .i64 0)], [(50024, v3, .arr (eSl eBool).k 127 (((eSl eBool).E a9.2).set (a9.1).toNat (HV.ar 50044 v13 eBool.k 0 ((List.replicate (p0.2.1).toNat (false : Bool)).length)))), (50044, v13, .arr eBool.k 4 (eBool.E (List.replicate (p0.2.1).toNat (false : Bool))))]⟩) (AS.le_of ⟨rfl, rfl, rfl, rfl, rfl, rfl, rfl, trivial⟩ ⟨rfl, rfl, trivial⟩) ⟨(), rfl⟩
        · refine AW.rg rfl fun K hK => ?_
          refine mv rfl rfl ?_
          refine bv rfl (v_bin rfl rfl b_sub) ?_
          refine mv rfl rfl ?_
          refine b_nil (hK _ ?_)
          clear hK K
          refine to_bind (to_fill 2 [(50044, v13, .arr eBool.k 4 (eBool.E a46))] ⟨[(1, HV.str p1), (2, HV.fptr [HV.int .i64 p0.1, HV.int .i64 p0.2.1, slE eFromLabelTo p0.2.2] 0), (7, HV.ar 50024 v3 (eSl eBool).k 0 ((a9.2).length)), (8, HV.int .i64 (IntKind.wrap .i64 (a9.1 - 1)))], [(50024, v3, .arr (eSl eBool).k 127 ((eSl eBool).E ((a9.2).set (a9.1).toNat a46)))]⟩ ⟨⟨_, rfl, rfl⟩, ⟨_, rfl, rfl⟩, ⟨_, rfl, rfl⟩, ⟨_, rfl, rfl⟩, trivial⟩ ⟨.inr ⟨_, _, _, rfl, fill_obj (c := eBool) rfl rfl fun _ => rfl⟩, trivial⟩ ⟨rfl, trivial⟩ ⟨rfl, trivial⟩ ?_)
          exact to_le (s' := ⟨[(1, HV.str p1), (2, HV.fptr [HV.int .i64 p0.1, HV.int .i64 p0.2.1, slE eFromLabelTo p0.2.2] 0), (7, HV.ar 50024 v3 (eSl eBool).k 0 (((a9.2).set (a9.1).toNat a46).length)), (8, HV.int .i64 (IntKind.wrap .i64 (a9.1 - 1)))], [(50024, v3, .arr (eSl eBool).k 127 ((eSl eBool).E ((a9.2).set (a9.1).toNat a46)))]⟩) (AS.le_of ⟨rfl, rfl, arl (by first | rfl | simp only [List.length_set, sortI_len, sortS_len]), rfl, trivial⟩ ⟨rfl, trivial⟩) ⟨(IntKind.wrap .i64 (a9.1 - 1), (a9.2).set (a9.1).toNat a46), (), h, rfl⟩
        · refine AW.rgs rfl fun K hK => ?_
          refine bv rfl (v_bin rfl rfl b_lss) ?_
          refine b_nil (hK _ (AW.to (to_le (s' := ⟨[(1, HV.str p1), (2, HV.fptr [HV.int .i64 p0.1, HV.int .i64 p0.2.1, slE eFromLabelTo p0.2.2] 0), (7, HV.ar 50024 v3 (eSl eBool).k 0 ((a9.2).length)), (8, HV.int .i64 a9.1), (47, slE eFromLabelTo p0.2.2), (48, HV.int .i64 ((p0.2.2).length : Int)), (49, HV.int .i64 a17.1), (50, HV.bool (decide (a17.1 < ((p0.2.2).length : Int))))], [(50024, v3, .arr (eSl eBool).k 127 (((eSl eBool).E a9.2).set (a9.1).toNat (HV.ar 50044 v13 eBool.k 0 ((a17.2).length)))), (50044, v13, .arr eBool.k 4 (eBool.E a17.2))]⟩) (AS.le_of ⟨rfl, rfl, rfl, rfl, rfl, rfl, rfl, rfl, trivial⟩ ⟨rfl, rfl, trivial⟩) ?_)))
          clear hK K
          refine AW.cseq rfl (fun hc => ?_) (fun hc => ?_)
          · have hc := of_decide_eq_true hc
            have h := ifT hc h
            refine AW.skip ?_
            refine AW.seqJ h (S := (List Bool)) (V := Unit) (fun a v => ⟨[(1, HV.str p1), (2, HV.fptr [HV.int .i64 p0.1, HV.int .i64 p0.2.1, slE eFromLabelTo p0.2.2] 0), (7, HV.ar 50024 v3 (eSl eBool).k 0 ((a9.2).length)), (8, HV.int .i64 a9.1), (47, slE eFromLabelTo p0.2.2), (48, HV.int .i64 ((p0.2.2).length : Int)), (49, HV.int .i64 a17.1)], [(50024, v3, .arr (eSl eBool).k 127 (((eSl eBool).E a9.2).set (a9.1).toNat (HV.ar 50044 v13 eBool.k 0 ((a).length)))), (50044, v13, .arr eBool.k 4 (eBool.E a))]⟩) (fun a21 w22 h => ?_) (fun k23 h => ?_)
            · refine AW.rg rfl fun K hK => ?_
              refine bv rfl (v_bin rfl rfl b_add) ?_
              refine mv rfl rfl ?_
              refine b_nil (hK _ ?_)
              clear hK K
              exact to_le (s' := ⟨[(1, HV.str p1), (2, HV.fptr [HV.int .i64 p0.1, HV.int .i64 p0.2.1, slE eFromLabelTo p0.2.2] 0), (7, HV.ar 50024 v3 (eSl eBool).k 0 ((a9.2).length)), (8, HV.int .i64 a9.1), (47, slE eFromLabelTo p0.2.2), (48, HV.int .i64 ((p0.2.2).length : Int)), (49, HV.int .i64 (IntKind.wrap .i64 (a17.1 + 1)))], [(50024, v3, .arr (eSl eBool).k 127 (((eSl eBool).E a9.2).set (a9.1).toNat (HV.ar 50044 v13 eBool.k 0 ((a21).length)))), (50044, v13, .arr eBool.k 4 (eBool.E a21))]⟩) (AS.le_of ⟨rfl, rfl, rfl, rfl, rfl, rfl, rfl, trivial⟩ ⟨rfl, rfl, trivial⟩) ⟨(IntKind.wrap .i64 (a17.1 + 1), a21), (), h, rfl⟩
            · refine AW.block ?_
              refine AW.rgs rfl fun K hK => ?_
              obtain ⟨x24, h25, h⟩ := bS h
              refine bv rfl (v_idxF ty22 es22 rfl rfl (idx_lt h25)) ?_
              refine bv rfl (v_loadF ty66 rfl (l_agg eFromLabelTo h25 rfl rfl)) ?_
              refine b_op rfl (o_alloc (fid := 50) (zs := [HV.int .i64 0, HV.int .i64 0, HV.int .i64 0]) 50010 rfl rfl ty66 rfl (fun v26 => ?_))
              refine b_op rfl (o_store (cs := [HV.int .i64 x24.1, HV.int .i64 x24.2.1, HV.int .i64 x24.2.2]) (zs := [HV.int .i64 x24.1, HV.int .i64 x24.2.1, HV.int .i64 x24.2.2]) rfl rfl rfl ty66 rfl rfl rfl rfl rfl ?_)
              refine b_nil (hK _ (AW.to (to_le (s' := ⟨[(1, HV.str p1), (2, HV.fptr [HV.int .i64 p0.1, HV.int .i64 p0.2.1, slE eFromLabelTo p0.2.2] 0), (7, HV.ar 50024 v3 (eSl eBool).k 0 ((a9.2).length)), (8, HV.int .i64 a9.1), (10, HV.ptr 50010 v26 0), (47, slE eFromLabelTo p0.2.2), (48, HV.int .i64 ((p0.2.2).length : Int)), (49, HV.int .i64 a17.1)], [(50024, v3, .arr (eSl eBool).k 127 (((eSl eBool).E a9.2).set (a9.1).toNat (HV.ar 50044 v13 eBool.k 0 ((a17.2).length)))), (50044, v13, .arr eBool.k 4 (eBool.E a17.2)), (50010, v26, .arr 3 66 [HV.int .i64 x24.1, HV.int .i64 x24.2.1, HV.int .i64 x24.2.2])]⟩) (AS.le_of ⟨rfl, rfl, rfl, rfl, rfl, rfl, rfl, rfl, trivial⟩ ⟨rfl, rfl, rfl, trivial⟩) ?_)))
              clear hK K
              refine AW.seqJ h (S := Bool) (V := Unit) (fun a v => ⟨[(1, HV.str p1), (2, HV.fptr [HV.int .i64 p0.1, HV.int .i64 p0.2.1, slE eFromLabelTo p0.2.2] 0), (7, HV.ar 50024 v3 (eSl eBool).k 0 ((a9.2).length)), (8, HV.int .i64 a9.1), (10, HV.ptr 50010 v26 0), (47, slE eFromLabelTo p0.2.2), (48, HV.int .i64 ((p0.2.2).length : Int)), (49, HV.int .i64 a17.1), (70, HV.bool a)], [(50010, v26, .arr 3 66 [HV.int .i64 x24.1, HV.int .i64 x24.2.1, HV.int .i64 x24.2.2]), (50024, v3, .arr (eSl eBool).k 127 (((eSl eBool).E a9.2).set (a9.1).toNat (HV.ar 50044 v13 eBool.k 0 ((a17.2).length)))), (50044, v13, .arr eBool.k 4 (eBool.E a17.2))]⟩) (fun a27 w28 h => ?_) (fun k29 h => ?_)
              · refine AW.cond rfl (fun hc => ?_) (fun hc => ?_)
                · have h := ifT hc h
                  refine AW.dg 7 follows rfl rfl fun K hK => ?_
                  refine sm rfl rfl ?_
                  refine sm rfl rfl ?_
                  obtain ⟨x30, h31, h⟩ := bS h
                  refine sv rfl (v_idxA ty126 es126 rfl rfl (idx_lt h31) rfl) ?_
                  refine sv rfl (v_loadP ty127 rfl rfl (l_hole eBool _ h31 rfl)) ?_
                  refine sv rfl (v_fieldAddrP fo66_0 rfl rfl) ?_
                  refine sv rfl (v_loadP ty3 rfl rfl (l_lit rfl rfl)) ?_
                  obtain ⟨x32, h33, h⟩ := bS h
                  refine sv rfl (v_idxA ty127 es127 rfl rfl (idx_lt h33) rfl) ?_
                  refine s_nil ?_
                  refine b_op rfl (o_storeE eBool (l := a17.2) (j := x24.1) (v := true) rfl rfl rfl ty4 rfl rfl rfl (idx_lt h33) ?_)
                  refine b_nil (hK _ ?_)
                  clear hK K
                  exact to_le (s' := ⟨[(1, HV.str p1), (2, HV.fptr [HV.int .i64 p0.1, HV.int .i64 p0.2.1, slE eFromLabelTo p0.2.2] 0), (7, HV.ar 50024 v3 (eSl eBool).k 0 ((a9.2).length)), (8, HV.int .i64 a9.1), (47, slE eFromLabelTo p0.2.2), (48, HV.int .i64 ((p0.2.2).length : Int)), (49, HV.int .i64 a17.1)], [(50024, v3, .arr (eSl eBool).k 127 (((eSl eBool).E a9.2).set (a9.1).toNat (HV.ar 50044 v13 eBool.k 0 (((a17.2).set (x24.1).toNat true).length)))), (50044, v13, .arr eBool.k 4 (eBool.E ((a17.2).set (x24.1).toNat true)))]⟩) (AS.le_of ⟨rfl, rfl, rfl, rfl, rfl, rfl, rfl, trivial⟩ ⟨hle rfl (by first | rfl | simp only [List.length_set, sortI_len, sortS_len]), rfl, trivial⟩) ⟨(a17.2).set (x24.1).toNat true, (), h, rfl⟩
                · have h := ifF (bF' hc) h
                  refine AW.skip ?_
                  exact to_le (s' := ⟨[(1, HV.str p1), (2, HV.fptr [HV.int .i64 p0.1, HV.int .i64 p0.2.1, slE eFromLabelTo p0.2.2] 0), (7, HV.ar 50024 v3 (eSl eBool).k 0 ((a9.2).length)), (8, HV.int .i64 a9.1), (47, slE eFromLabelTo p0.2.2), (48, HV.int .i64 ((p0.2.2).length : Int)), (49, HV.int .i64 a17.1)], [(50024, v3, .arr (eSl eBool).k 127 (((eSl eBool).E a9.2).set (a9.1).toNat (HV.ar 50044 v13 eBool.k 0 ((a17.2).length)))), (50044, v13, .arr eBool.k 4 (eBool.E a17.2))]⟩) (AS.le_of ⟨rfl, rfl, rfl, rfl, rfl, rfl, rfl, trivial⟩ ⟨rfl, rfl, trivial⟩) ⟨a17.2, (), h, rfl⟩
              · refine AW.dg 18 follows rfl rfl fun K hK => ?_
                refine sv rfl (v_fieldAddrP fo66_1 rfl rfl) ?_
                refine sv rfl (v_loadP ty3 rfl rfl (l_lit rfl rfl)) ?_
                obtain ⟨x34, h35, h⟩ := bS h
                refine sv rfl (v_idxS ty9 rfl rfl h35) ?_
                refine sm rfl rfl ?_
                refine sm rfl rfl ?_
                obtain ⟨x36, h37, h⟩ := bS h
                refine sv rfl (v_idxS ty9 rfl rfl h37) ?_
                refine sv rfl (v_bin rfl rfl b_eql) ?_
                refine sm rfl rfl ?_
                by_cases hg45 : (x34.toNat : Int) = (x36.toNat : Int)
                · have h := ifT hg45 h
                  refine s_T rfl rfl rfl rfl rfl (decide_eq_true hg45) (ops_val rfl (mv_val rfl rfl).2 ?_)
                  refine s_T rfl rfl rfl rfl rfl rfl (ops_val rfl (mv_val rfl rfl).2 ?_)
                  refine s_T rfl rfl rfl rfl rfl rfl (ops_val rfl (v_bin rfl rfl b_add) ?_)
                  obtain ⟨x38, h39, h⟩ := bS h
                  refine s_T rfl rfl rfl rfl rfl rfl (ops_val rfl (v_idxA ty126 es126 rfl rfl (idx_lt h39) rfl) ?_)
                  obtain ⟨h42, h⟩ := ifN h
                  obtain ⟨x40, h41, h⟩ := bS h
                  refine s_T rfl rfl rfl rfl rfl rfl (ops_val rfl (v_loadP ty127 rfl rfl (l_holeN eBool _ h41 h42 rfl)) ?_)
                  refine s_T rfl rfl rfl rfl rfl rfl (ops_val rfl (v_fieldAddrP fo66_2 rfl rfl) ?_)
                  refine s_T rfl rfl rfl rfl rfl rfl (ops_val rfl (v_loadP ty3 rfl rfl (l_lit rfl rfl)) ?_)
                  obtain ⟨x43, h44, h⟩ := bS h
                  refine s_T rfl rfl rfl rfl rfl rfl (ops_val rfl (v_idxF ty127 es127 rfl rfl (idx_lt h44)) ?_)
                  refine s_T rfl rfl rfl rfl rfl rfl (ops_val rfl (v_loadF ty4 rfl (l_cell eBool h44 (o := 0) rfl rfl)) ?_)
                  refine sv rfl (v_pickT rfl rfl rfl) ?_
                  refine s_nil ?_
                  refine b_nil (hK _ ?_)
                  clear hK K
                  exact to_le (s' := ⟨[(1, HV.str p1), (2, HV.fptr [HV.int .i64 p0.1, HV.int .i64 p0.2.1, slE eFromLabelTo p0.2.2] 0), (7, HV.ar 50024 v3 (eSl eBool).k 0 ((a9.2).length)), (8, HV.int .i64 a9.1), (10, HV.ptr 50010 v26 0), (47, slE eFromLabelTo p0.2.2), (48, HV.int .i64 ((p0.2.2).length : Int)), (49, HV.int .i64 a17.1), (70, HV.bool x43)], [(50010, v26, .arr 3 66 [HV.int .i64 x24.1, HV.int .i64 x24.2.1, HV.int .i64 x24.2.2]), (50024, v3, .arr (eSl eBool).k 127 (((eSl eBool).E a9.2).set (a9.1).toNat (HV.ar 50044 v13 eBool.k 0 ((a17.2).length)))), (50044, v13, .arr eBool.k 4 (eBool.E a17.2))]⟩) (AS.le_of ⟨rfl, rfl, rfl, rfl, rfl, rfl, rfl, rfl, rfl, trivial⟩ ⟨rfl, rfl, rfl, trivial⟩) ⟨x43, (), h, rfl⟩
                · have h := ifF hg45 h
                  refine s_F rfl rfl rfl rfl rfl (decide_eq_false hg45) ?_
                  refine s_F rfl rfl rfl rfl rfl rfl ?_
                  refine s_F rfl rfl rfl rfl rfl rfl ?_
                  refine s_F rfl rfl rfl rfl rfl rfl ?_
                  refine s_F rfl rfl rfl rfl rfl rfl ?_
                  refine s_F rfl rfl rfl rfl rfl rfl ?_
                  refine s_F rfl rfl rfl rfl rfl rfl ?_
                  refine s_F rfl rfl rfl rfl rfl rfl ?_
                  refine s_F rfl rfl rfl rfl rfl rfl ?_
                  refine sv rfl (v_pickF rfl rfl rfl) ?_
                  refine s_nil ?_
                  refine b_nil (hK _ ?_)
                  clear hK K
                  exact to_le (s' := ⟨[(1, HV.str p1), (2, HV.fptr [HV.int .i64 p0.1, HV.int .i64 p0.2.1, slE eFromLabelTo p0.2.2] 0), (7, HV.ar 50024 v3 (eSl eBool).k 0 ((a9.2).length)), (8, HV.int .i64 a9.1), (10, HV.ptr 50010 v26 0), (47, slE eFromLabelTo p0.2.2), (48, HV.int .i64 ((p0.2.2).length : Int)), (49, HV.int .i64 a17.1), (70, HV.bool false)], [(50010, v26, .arr 3 66 [HV.int .i64 x24.1, HV.int .i64 x24.2.1, HV.int .i64 x24.2.2]), (50024, v3, .arr (eSl eBool).k 127 (((eSl eBool).E a9.2).set (a9.1).toNat (HV.ar 50044 v13 eBool.k 0 ((a17.2).length)))), (50044, v13, .arr eBool.k 4 (eBool.E a17.2))]⟩) (AS.le_of ⟨rfl, rfl, rfl, rfl, rfl, rfl, rfl, rfl, rfl, trivial⟩ ⟨rfl, rfl, rfl, trivial⟩) ⟨false, (), h, rfl⟩
          · have hc := of_decide_eq_false hc
            have h := ifF hc h
            refine AW.exit ?_
            exact to_le (s' := ⟨[(1, HV.str p1), (2, HV.fptr [HV.int .i64 p0.1, HV.int .i64 p0.2.1, slE eFromLabelTo p0.2.2] 0), (7, HV.ar 50024 v3 (eSl eBool).k 0 ((a9.2).length)), (8, HV.int .i64 a9.1)], [(50024, v3, .arr (eSl eBool).k 127 (((eSl eBool).E a9.2).set (a9.1).toNat (HV.ar 50044 v13 eBool.k 0 ((a17.2).length)))), (50044, v13, .arr eBool.k 4 (eBool.E a17.2))]⟩) (AS.le_of ⟨rfl, rfl, rfl, rfl, trivial⟩ ⟨rfl, rfl, trivial⟩) ⟨a17.2, (), h, rfl⟩
      · have hc := of_decide_eq_false hc
        have h := ifF hc h
        refine AW.exit ?_
        exact to_le (s' := ⟨[(1, HV.str p1), (2, HV.fptr [HV.int .i64 p0.1, HV.int .i64 p0.2.1, slE eFromLabelTo p0.2.2] 0), (7, HV.ar 50024 v3 (eSl eBool).k 0 ((a9.2).length))], [(50024, v3, .arr (eSl eBool).k 127 ((eSl eBool).E a9.2))]⟩) (AS.le_of ⟨rfl, rfl, rfl, trivial⟩ ⟨rfl, trivial⟩) ⟨a9.2, (), h, rfl⟩

set_option maxHeartbeats 1600000 in
set_option maxRecDepth 100000 in
theorem w_law11_golden  {r : TLabelsStatesEdges} (h : m_law11_golden  = some r) : Pure Try.prog 87 [] (· = HV.agg [HV.int .i64 r.1, HV.int .i64 r.2.1, slE eFromLabelTo r.2.2]) := by
  unfold m_law11_golden at h
  refine Pure.of_body Try.func87 rfl rfl (Nat.le_of_ble_eq_true rfl) fun hf => ?_
  unfold Try.f87
  dsimp only [enumS, Nat.reduceAdd]
  refine AW.rgs rfl fun K hK => ?_
  refine b_op rfl (o_alloc (fid := 87) (zs := [HV.int .i64 0, HV.int .i64 0, HV.v (.slice none 0 0)]) 87000 rfl rfl ty24 rfl (fun v1 => ?_))
  refine b_nil (hK _ (AW.to (to_le (s' := ⟨[(0, HV.ptr 87000 v1 0)], [(87000, v1, .arr 3 24 [HV.int .i64 0, HV.int .i64 0, HV.v (.slice none 0 0)])]⟩) (AS.le_of ⟨rfl, trivial⟩ ⟨rfl, trivial⟩) ?_)))
  clear hK K
  refine AW.rgs rfl fun K hK => ?_
  refine b_op rfl (o_build (cs := [HV.int .i64 0, HV.int .i64 0, HV.int .i64 0]) rfl (bl_of ty66 rfl rfl rfl rfl) ?_)
  refine b_op rfl (o_build (cs := [HV.int .i64 0, HV.int .i64 1, HV.int .i64 1]) rfl (bl_of ty66 rfl rfl rfl rfl) ?_)
  refine b_op rfl (o_build (cs := [HV.int .i64 1, HV.int .i64 0, HV.int .i64 0]) rfl (bl_of ty66 rfl rfl rfl rfl) ?_)
  refine b_op rfl (o_bsl rfl rfl (as_of (cs := [HV.int .i64 0, HV.int .i64 0, HV.int .i64 0, HV.int .i64 0, HV.int .i64 1, HV.int .i64 1, HV.int .i64 1, HV.int .i64 0, HV.int .i64 0]) ty22 ty66 rfl rfl rfl rfl rfl) ?_)
  refine b_op rfl (o_build (cs := [HV.int .i64 2, HV.int .i64 2, slE eFromLabelTo [(0, 0, 0), (0, 1, 1), (1, 0, 0)]]) rfl (bl_of ty24 rfl rfl rfl rfl) ?_)
  refine b_op rfl (o_store (cs := [HV.int .i64 2, HV.int .i64 2, slE eFromLabelTo [(0, 0, 0), (0, 1, 1), (1, 0, 0)]]) (zs := [HV.int .i64 2, HV.int .i64 2, slE eFromLabelTo [(0, 0, 0), (0, 1, 1), (1, 0, 0)]]) rfl rfl rfl ty24 rfl rfl rfl rfl rfl ?_)
  refine b_nil (hK _ (AW.to (to_le (s' := ⟨[(0, HV.ptr 87000 v1 0)], [(87000, v1, .arr 3 24 [HV.int .i64 2, HV.int .i64 2, slE eFromLabelTo [(0, 0, 0), (0, 1, 1), (1, 0, 0)]])]⟩) (AS.le_of ⟨rfl, trivial⟩ ⟨rfl, trivial⟩) ?_)))
  clear hK K
  refine AW.ret ?_
  have h := Option.some.inj h
  subst h
  exact ret_pure (hs := [HV.agg [HV.int .i64 2, HV.int .i64 2, slE eFromLabelTo [(0, 0, 0), (0, 1, 1), (1, 0, 0)]]]) (q := HV.agg [HV.int .i64 2, HV.int .i64 2, slE eFromLabelTo [(0, 0, 0), (0, 1, 1), (1, 0, 0)]]) (.inr rfl) (resP ty24 rfl rfl (l_litA rfl (Nat.le_of_ble_eq_true rfl) rfl) rfl) rfl ⟨trivial, trivial, (clean_slE fun _ _ => ⟨trivial, trivial, trivial, trivial⟩), trivial⟩

end Go.AW

namespace Go.AW
open Go Go.Proofs
set_option linter.unusedVariables false
set_option maxHeartbeats 1600000 in
set_option maxRecDepth 100000 in
theorem w_language_Missing {p0 : TLabelsStatesEdges} {p1 : Int} {r : (List UInt8) × Bool × Int} (h : m_language_Missing p0 p1 = some r) : Pure Try.prog 88 [HV.agg [HV.int .i64 p0.1, HV.int .i64 p0.2.1, slE eFromLabelTo p0.2.2], HV.int .i64 p1] (· = HV.tup [HV.str r.1, HV.bool r.2.1, HV.int .i64 r.2.2]) := by
  unfold m_language_Missing at h
  refine Pure.of_body Try.func88 rfl rfl (Nat.le_of_ble_eq_true rfl) fun hf => ?_
  unfold Try.f88
  dsimp only [enumS, Nat.reduceAdd]
  refine AW.rgs rfl fun K hK => ?_
  refine b_op rfl (o_box rfl rfl rfl ?_)
  refine mv rfl rfl ?_
  refine mv rfl rfl ?_
  refine mv rfl rfl ?_
  refine b_nil (hK _ (AW.to (to_le (s' := ⟨[(1, HV.int .i64 p1), (2, HV.fptr [HV.int .i64 p0.1, HV.int .i64 p0.2.1, slE eFromLabelTo p0.2.2] 0)], []⟩) (AS.le_of ⟨rfl, rfl, trivial⟩ trivial) ?_)))
  clear hK K
  refine AW.seq ?_
  refine AW.rgs rfl fun K hK => ?_
  refine bv rfl (v_loadF ty24 rfl (l_litA rfl (Nat.le_of_ble_eq_true rfl) rfl)) ?_
  refine mv rfl rfl ?_
  obtain ⟨x1, h2, h⟩ := bS h
  refine b_op rfl (o_call rfl rfl rfl rfl (ACallD.pure0 (w_language_lengths h2)) ?_)
  refine mv rfl rfl ?_
  refine b_nil (hK _ (AW.to (to_le (s' := ⟨[(1, HV.int .i64 p1), (2, HV.fptr [HV.int .i64 p0.1, HV.int .i64 p0.2.1, slE eFromLabelTo p0.2.2] 0), (7, HV.int .i64 x1)], []⟩) (AS.le_of ⟨rfl, rfl, rfl, trivial⟩ trivial) ?_)))
  clear hK K
  refine AW.rgs rfl fun K hK => ?_
  refine mv rfl rfl ?_
  refine bv rfl (v_bin rfl rfl b_neq) ?_
  refine b_nil (hK _ (AW.to (to_le (s' := ⟨[(1, HV.int .i64 p1), (2, HV.fptr [HV.int .i64 p0.1, HV.int .i64 p0.2.1, slE eFromLabelTo p0.2.2] 0), (7, HV.int .i64 x1), (22, HV.bool (decide (x1 ≠ 0)))], []⟩) (AS.le_of ⟨rfl, rfl, rfl, rfl, trivial⟩ trivial) ?_)))
  clear hK K
  refine AW.cond rfl (fun hc => ?_) (fun hc => ?_)
  · have hc := of_decide_eq_true hc
    have h := ifT hc h
    refine AW.rgs rfl fun K hK => ?_
    refine mv rfl rfl ?_
    refine mv rfl rfl ?_
    refine mv rfl rfl ?_
    refine mv rfl rfl ?_
    refine b_nil (hK _ (AW.to (to_le (s' := ⟨[(4, HV.str ([] : List UInt8)), (5, HV.bool false), (6, HV.int .i64 x1)], []⟩) (AS.le_of ⟨rfl, rfl, rfl, trivial⟩ trivial) ?_)))
    clear hK K
    refine AW.ret ?_
    have h := Option.some.inj h
    subst h
    exact ret_pure (hs := [HV.str ([] : List UInt8), HV.bool false, HV.int .i64 x1]) (q := HV.tup [HV.str ([] : List UInt8), HV.bool false, HV.int .i64 x1]) (.inr rfl) (resT rfl (resT rfl (resT rfl rfl))) rfl ⟨trivial, trivial, trivial, trivial⟩
  · have hc := of_decide_eq_false hc
    have h := ifF hc h
    refine AW.skip ?_
    refine AW.rgs rfl fun K hK => ?_
    refine bv rfl (v_loadF ty24 rfl (l_litA rfl (Nat.le_of_ble_eq_true rfl) rfl)) ?_
    obtain ⟨x3, h4, h⟩ := bS h
    refine b_op rfl (o_call rfl rfl rfl rfl (ACallD.pure0 (w_language_states h4)) ?_)
    refine mv rfl rfl ?_
    refine b_nil (hK _ (AW.to (to_le (s' := ⟨[(1, HV.int .i64 p1), (2, HV.fptr [HV.int .i64 p0.1, HV.int .i64 p0.2.1, slE eFromLabelTo p0.2.2] 0), (8, slE eInt x3)], []⟩) (AS.le_of ⟨rfl, rfl, rfl, trivial⟩ trivial) ?_)))
    clear hK K
    refine AW.seq ?_
    refine AW.rgs rfl fun K hK => ?_
    refine mv rfl rfl ?_
    refine bv rfl (v_lenF rfl rfl ty42 rfl) ?_
    refine bv rfl (v_bin rfl rfl b_eql) ?_
    refine b_nil (hK _ (AW.to (to_le (s' := ⟨[(1, HV.int .i64 p1), (2, HV.fptr [HV.int .i64 p0.1, HV.int .i64 p0.2.1, slE eFromLabelTo p0.2.2] 0), (8, slE eInt x3), (28, HV.bool (decide (((x3).length : Int) = 0)))], []⟩) (AS.le_of ⟨rfl, rfl, rfl, rfl, trivial⟩ trivial) ?_)))
    clear hK K
    refine AW.cond rfl (fun hc => ?_) (fun hc => ?_)
    · have hc := of_decide_eq_true hc
      have h := ifT hc h
      refine AW.rgs rfl fun K hK => ?_
      refine mv rfl rfl ?_
      refine mv rfl rfl ?_
      refine mv rfl rfl ?_
      refine b_nil (hK _ (AW.to (to_le (s' := ⟨[(4, HV.str ([] : List UInt8)), (5, HV.bool true), (6, HV.int .i64 0)], []⟩) (AS.le_of ⟨rfl, rfl, rfl, trivial⟩ trivial) ?_)))
      clear hK K
      refine AW.ret ?_
      have h := Option.some.inj h
      subst h
      exact ret_pure (hs := [HV.str ([] : List UInt8), HV.bool true, HV.int .i64 0]) (q := HV.tup [HV.str ([] : List UInt8), HV.bool true, HV.int .i64 0]) (.inr rfl) (resT rfl (resT rfl (resT rfl rfl))) rfl ⟨trivial, trivial, trivial, trivial⟩
    · have hc := of_decide_eq_false hc
      have h := ifF hc h
      refine AW.skip ?_
      refine AW.rgs rfl fun K hK => ?_
      refine b_op rfl (o_bsl rfl rfl (as_of (cs := [HV.str ([] : List UInt8)]) ty30 ty9 rfl rfl rfl rfl rfl) ?_)
      refine mv rfl rfl ?_
      refine b_nil (hK _ (AW.to (to_le (s' := ⟨[(1, HV.int .i64 p1), (2, HV.fptr [HV.int .i64 p0.1, HV.int .i64 p0.2.1, slE eFromLabelTo p0.2.2] 0), (8, slE eInt x3), (9, slE eStr [([] : List UInt8)])], []⟩) (AS.le_of ⟨rfl, rfl, rfl, rfl, trivial⟩ trivial) ?_)))
      clear hK K
      refine AW.rgs rfl fun K hK => ?_
      refine b_op rfl (o_makeMap (fid := 88) (slE eInt) 88030 rfl rfl (fun v5 => ?_))
      refine mv rfl rfl ?_
      refine b_op rfl (o_mapSet (slE eInt) (es := ([] : List (List UInt8 × (List (Int))))) (k := ([] : List UInt8)) (v := x3) (.inr rfl) ty104 ty9 rfl rfl rfl rfl trivial ?_)
      refine mv rfl rfl ?_
      refine mv rfl rfl ?_
      refine b_nil (hK _ (AW.to (to_le (s' := ⟨[(1, HV.int .i64 p1), (2, HV.fptr [HV.int .i64 p0.1, HV.int .i64 p0.2.1, slE eFromLabelTo p0.2.2] 0), (9, slE eStr [([] : List UInt8)]), (10, HV.mp 88030 v5)], [(88030, v5, .map (entE (slE eInt) (mputN ([] : List UInt8) x3 ([] : List (List UInt8 × (List (Int)))))))]⟩) (AS.le_of ⟨rfl, rfl, rfl, rfl, trivial⟩ ⟨rfl, trivial⟩) ?_)))
      clear hK K
      refine AW.seq ?_
      refine AW.rgs rfl fun K hK => ?_
      refine mv rfl rfl ?_
      refine mv rfl rfl ?_
      refine b_nil (hK _ (AW.to (to_le (s' := ⟨[(2, HV.fptr [HV.int .i64 p0.1, HV.int .i64 p0.2.1, slE eFromLabelTo p0.2.2] 0), (9, slE eStr [([] : List UInt8)]), (10, HV.mp 88030 v5), (33, HV.int .i64 p1), (34, HV.int .i64 0)], [(88030, v5, .map (entE (slE eInt) (mputN ([] : List UInt8) x3 ([] : List (List UInt8 × (List (Int)))))))]⟩) (AS.le_of ⟨rfl, rfl, rfl, rfl, rfl, trivial⟩ ⟨rfl, trivial⟩) ?_)))
      clear hK K
      refine AW.lpR h (by first | exact up_then | exact up_to) (S := (List (List UInt8)) × Int × (List (List UInt8 × (List (Int))))) (V := Unit) (fun a v => ⟨[(2, HV.fptr [HV.int .i64 p0.1, HV.int .i64 p0.2.1, slE eFromLabelTo p0.2.2] 0), (9, slE eStr a.1), (10, HV.mp 88030 v5), (33, HV.int .i64 p1), (34, HV.int .i64 a.2.1)], [(88030, v5, .map (entE (slE eInt) a.2.2))]⟩) ?_ (X := Unit) (W := Unit) (fun a v => ⟨[], []⟩) (fun a35 w36 h => ?_) (fun a6 w7 st8 h hr9=> ?_)
      · exact to_le (s' := ⟨[(2, HV.fptr [HV.int .i64 p0.1, HV.int .i64 p0.2.1, slE eFromLabelTo p0.2.2] 0), (9, slE eStr [([] : List UInt8)]), (10, HV.mp 88030 v5), (33, HV.int .i64 p1), (34, HV.int .i64 0)], [(88030, v5, .map (entE (slE eInt) (mputN ([] : List UInt8) x3 ([] : List (List UInt8 × (List (Int)))))))]⟩) (AS.le_of ⟨rfl, rfl, rfl, rfl, rfl, trivial⟩ ⟨rfl, trivial⟩) ⟨(), rfl⟩
      · refine AW.rgs rfl fun K hK => ?_
        refine mv rfl rfl ?_
        refine mv rfl rfl ?_
        refine mv rfl rfl ?_
        refine b_nil (hK _ (AW.to (to_le (s' := ⟨[(4, HV.str ([] : List UInt8)), (5, HV.bool false), (6, HV.int .i64 0)], []⟩) (AS.le_of ⟨rfl, rfl, rfl, trivial⟩ trivial) ?_)))
        clear hK K
        refine AW.ret ?_
        have h := Option.some.inj h
        subst h
        exact ret_pure (hs := [HV.str ([] : List UInt8), HV.bool false, HV.int .i64 0]) (q := HV.tup [HV.str ([] : List UInt8), HV.bool false, HV.int .i64 0]) (.inr rfl) (resT rfl (resT rfl (resT rfl rfl))) rfl ⟨trivial, trivial, trivial, trivial⟩
      · refine AW.rgs rfl fun K hK => ?_
        refine bv rfl (v_bin rfl rfl b_lss) ?_
        refine b_nil (hK _ (AW.to (to_le (s' := ⟨[(2, HV.fptr [HV.int .i64 p0.1, HV.int .i64 p0.2.1, slE eFromLabelTo p0.2.2] 0), (9, slE eStr a6.1), (10, HV.mp 88030 v5), (33, HV.int .i64 p1), (34, HV.int .i64 a6.2.1), (35, HV.bool (decide (a6.2.1 < p1)))], [(88030, v5, .map (entE (slE eInt) a6.2.2))]⟩) (AS.le_of ⟨rfl, rfl, rfl, rfl, rfl, rfl, trivial⟩ ⟨rfl, trivial⟩) ?_)))
        clear hK K
        refine AW.cseq rfl (fun hc => ?_) (fun hc => ?_)
        · have hc := of_decide_eq_true hc
          have h := ifT hc h
          refine AW.skip ?_
          refine AW.seq (AW.block ?_)
          refine AW.rgs rfl fun K hK => ?_
          refine mv rfl rfl ?_
          refine b_nil (hK _ (AW.to (to_le (s' := ⟨[(2, HV.fptr [HV.int .i64 p0.1, HV.int .i64 p0.2.1, slE eFromLabelTo p0.2.2] 0), (9, slE eStr a6.1), (10, HV.mp 88030 v5), (11, HV.v (.slice none 0 0)), (33, HV.int .i64 p1), (34, HV.int .i64 a6.2.1)], [(88030, v5, .map (entE (slE eInt) a6.2.2))]⟩) (AS.le_of ⟨rfl, rfl, rfl, rfl, rfl, rfl, trivial⟩ ⟨rfl, trivial⟩) ?_)))
          clear hK K
          refine AW.seq ?_
          refine AW.rgs rfl fun K hK => ?_
          refine mv rfl rfl ?_
          refine bv rfl (v_lenF rfl rfl ty30 rfl) ?_
          refine mv rfl rfl ?_
          refine b_nil (hK _ (AW.to (to_le (s' := ⟨[(2, HV.fptr [HV.int .i64 p0.1, HV.int .i64 p0.2.1, slE eFromLabelTo p0.2.2] 0), (10, HV.mp 88030 v5), (11, HV.v (.slice none 0 0)), (33, HV.int .i64 p1), (34, HV.int .i64 a6.2.1), (36, slE eStr a6.1), (37, HV.int .i64 ((a6.1).length : Int)), (38, HV.int .i64 0)], [(88030, v5, .map (entE (slE eInt) a6.2.2))]⟩) (AS.le_of ⟨rfl, rfl, rfl, rfl, rfl, rfl, rfl, rfl, trivial⟩ ⟨rfl, trivial⟩) ?_)))
          clear hK K
          refine AW.lpR h (by first | exact up_then | exact up_to) (S := Int × (List (List UInt8 × (List (Int)))) × (List (List UInt8))) (V := Nat) (fun a v => ⟨[(2, HV.fptr [HV.int .i64 p0.1, HV.int .i64 p0.2.1, slE eFromLabelTo p0.2.2] 0), (10, HV.mp 88030 v5), (11, HV.ar 88071 v eStr.k 0 ((a.2.2).length)), (33, HV.int .i64 p1), (34, HV.int .i64 a6.2.1), (36, slE eStr a6.1), (37, HV.int .i64 ((a6.1).length : Int)), (38, HV.int .i64 a.1)], [(88030, v5, .map (entE (slE eInt) a.2.1)), (88071, v, .arr eStr.k 9 (eStr.E a.2.2))]⟩) ?_ (X := (List (List UInt8 × (List (Int)))) × (List (List UInt8))) (W := Nat) (fun a v => ⟨[(2, HV.fptr [HV.int .i64 p0.1, HV.int .i64 p0.2.1, slE eFromLabelTo p0.2.2] 0), (10, HV.mp 88030 v5), (11, HV.ar 88071 v eStr.k 0 ((a.2).length)), (33, HV.int .i64 p1), (34, HV.int .i64 a6.2.1)], [(88030, v5, .map (entE (slE eInt) a.1)), (88071, v, .arr eStr.k 9 (eStr.E a.2))]⟩) (fun a33 w34 h => ?_) (fun a10 w11 st12 h hr13=> ?_)
          · refine to_bind (to_own 88071 11 eStr.k 9 rfl fun v32 => ?_)
            exact to_le (s' := ⟨[(2, HV.fptr [HV.int .i64 p0.1, HV.int .i64 p0.2.1, slE eFromLabelTo p0.2.2] 0), (10, HV.mp 88030 v5), (11, HV.ar 88071 v32 eStr.k 0 ((([] : List (List UInt8))).length)), (33, HV.int .i64 p1), (34, HV.int .i64 a6.2.1), (36, slE eStr a6.1), (37, HV.int .i64 ((a6.1).length : Int)), (38, HV.int .i64 0)], [(88030, v5, .map (entE (slE eInt) a6.2.2)), (88071, v32, .arr eStr.k 9 (eStr.E ([] : List (List UInt8))))]⟩) (AS.le_of ⟨rfl, rfl, arl (by first | rfl | simp only [List.length_set, sortI_len, sortS_len]), rfl, rfl, rfl, rfl, rfl, trivial⟩ ⟨rfl, rfl, trivial⟩) ⟨v32, rfl⟩
          · refine AW.seq ?_
            refine AW.rgs rfl fun K hK => ?_
            refine mv rfl rfl ?_
            refine bv rfl (v_lenA rfl rfl ty30 rfl rfl) ?_
            refine bv rfl (v_bin rfl rfl b_gtr) ?_
            refine b_nil (hK _ (AW.to (to_le (s' := ⟨[(2, HV.fptr [HV.int .i64 p0.1, HV.int .i64 p0.2.1, slE eFromLabelTo p0.2.2] 0), (10, HV.mp 88030 v5), (11, HV.ar 88071 w34 eStr.k 0 ((a33.2).length)), (33, HV.int .i64 p1), (34, HV.int .i64 a6.2.1), (77, HV.bool (decide (4096 < (((a33.2).length : Nat) : Int))))], [(88030, v5, .map (entE (slE eInt) a33.1)), (88071, w34, .arr eStr.k 9 (eStr.E a33.2))]⟩) (AS.le_of ⟨rfl, rfl, rfl, rfl, rfl, rfl, trivial⟩ ⟨rfl, rfl, trivial⟩) ?_)))
            clear hK K
            refine AW.cond rfl (fun hc => ?_) (fun hc => ?_)
            · have hc := of_decide_eq_true hc
              have h := ifT hc h
              refine AW.rgs rfl fun K hK => ?_
              refine mv rfl rfl ?_
              refine mv rfl rfl ?_
              refine mv rfl rfl ?_
              refine b_nil (hK _ (AW.to (to_le (s' := ⟨[(4, HV.str ([] : List UInt8)), (5, HV.bool false), (6, HV.int .i64 4)], []⟩) (AS.le_of ⟨rfl, rfl, rfl, trivial⟩ trivial) ?_)))
              clear hK K
              have h := hr9 _ h
              refine AW.ret ?_
              have h := Option.some.inj h
              subst h
              exact ret_pure (hs := [HV.str ([] : List UInt8), HV.bool false, HV.int .i64 4]) (q := HV.tup [HV.str ([] : List UInt8), HV.bool false, HV.int .i64 4]) (.inr rfl) (resT rfl (resT rfl (resT rfl rfl))) rfl ⟨trivial, trivial, trivial, trivial⟩
            · have hc := of_decide_eq_false hc
              have h := ifF hc h
              refine AW.skip ?_
              refine AW.rg rfl fun K hK => ?_
              refine mv rfl rfl ?_
              refine mv rfl rfl ?_
              refine b_nil (hK _ (AW.to (to_le (s' := ⟨[(2, HV.fptr [HV.int .i64 p0.1, HV.int .i64 p0.2.1, slE eFromLabelTo p0.2.2] 0), (9, HV.ar 88071 w34 eStr.k 0 ((a33.2).length)), (10, HV.mp 88030 v5), (33, HV.int .i64 p1), (34, HV.int .i64 a6.2.1)], [(88030, v5, .map (entE (slE eInt) a33.1)), (88071, w34, .arr eStr.k 9 (eStr.E a33.2))]⟩) (AS.le_of ⟨rfl, rfl, rfl, rfl, rfl, trivial⟩ ⟨rfl, rfl, trivial⟩) ?_)))
              clear hK K
              refine AW.rg rfl fun K hK => ?_
              refine bv rfl (v_bin rfl rfl b_add) ?_
              refine mv rfl rfl ?_
              refine b_nil (hK _ ?_)
              clear hK K
              refine to_bind (to_frz 2 [(88071, w34, .arr eStr.k 9 (eStr.E a33.2))] ⟨[(2, HV.fptr [HV.int .i64 p0.1, HV.int .i64 p0.2.1, slE eFromLabelTo p0.2.2] 0), (9, slE eStr a33.2), (10, HV.mp 88030 v5), (33, HV.int .i64 p1), (34, HV.int .i64 (IntKind.wrap .i64 (a6.2.1 + 1)))], [(88030, v5, .map (entE (slE eInt) a33.1))]⟩ ⟨⟨_, rfl, rfl⟩, ⟨_, rfl, frz_slE eStr (l := a33.2) rfl fun _ _ => rfl⟩, ⟨_, rfl, rfl⟩, ⟨_, rfl, rfl⟩, ⟨_, rfl, rfl⟩, trivial⟩ ⟨rfl, trivial⟩ ⟨rfl, trivial⟩ ⟨rfl, trivial⟩ ?_)
              exact to_le (s' := ⟨[(2, HV.fptr [HV.int .i64 p0.1, HV.int .i64 p0.2.1, slE eFromLabelTo p0.2.2] 0), (9, slE eStr a33.2), (10, HV.mp 88030 v5), (33, HV.int .i64 p1), (34, HV.int .i64 (IntKind.wrap .i64 (a6.2.1 + 1)))], [(88030, v5, .map (entE (slE eInt) a33.1))]⟩) (AS.le_of ⟨rfl, rfl, rfl, rfl, rfl, trivial⟩ ⟨rfl, trivial⟩) ⟨(a33.2, IntKind.wrap .i64 (a6.2.1 + 1), a33.1), (), h, rfl⟩
          · refine AW.rgs rfl fun K hK => ?_
            refine bv rfl (v_bin rfl rfl b_lss) ?_
            refine b_nil (hK _ (AW.to (to_le (s' := ⟨[(2, HV.fptr [HV.int .i64 p0.1, HV.int .i64 p0.2.1, slE eFromLabelTo p0.2.2] 0), (10, HV.mp 88030 v5), (11, HV.ar 88071 w11 eStr.k 0 ((a10.2.2).length)), (33, HV.int .i64 p1), (34, HV.int .i64 a6.2.1), (36, slE eStr a6.1), (37, HV.int .i64 ((a6.1).length : Int)), (38, HV.int .i64 a10.1), (39, HV.bool (decide (a10.1 < ((a6.1).length : Int))))], [(88030, v5, .map (entE (slE eInt) a10.2.1)), (88071, w11, .arr eStr.k 9 (eStr.E a10.2.2))]⟩) (AS.le_of ⟨rfl, rfl, rfl, rfl, rfl, rfl, rfl, rfl, rfl, trivial⟩ ⟨rfl, rfl, trivial⟩) ?_)))
            clear hK K
            refine AW.cseq rfl (fun hc => ?_) (fun hc => ?_)
            · have hc := of_decide_eq_true hc
              have h := ifT hc h
              refine AW.skip ?_
              refine AW.seq (AW.block ?_)
              refine AW.rgs rfl fun K hK => ?_
              obtain ⟨x14, h15, h⟩ := bS h
              refine bv rfl (v_idxF ty30 es30 rfl rfl (idx_lt h15)) ?_
              refine bv rfl (v_loadF ty9 rfl (l_cell eStr h15 (o := 0) rfl rfl)) ?_
              refine mv rfl rfl ?_
              refine b_nil (hK _ (AW.to (to_le (s' := ⟨[(2, HV.fptr [HV.int .i64 p0.1, HV.int .i64 p0.2.1, slE eFromLabelTo p0.2.2] 0), (10, HV.mp 88030 v5), (11, HV.ar 88071 w11 eStr.k 0 ((a10.2.2).length)), (13, HV.str x14), (33, HV.int .i64 p1), (34, HV.int .i64 a6.2.1), (36, slE eStr a6.1), (37, HV.int .i64 ((a6.1).length : Int)), (38, HV.int .i64 a10.1)], [(88030, v5, .map (entE (slE eInt) a10.2.1)), (88071, w11, .arr eStr.k 9 (eStr.E a10.2.2))]⟩) (AS.le_of ⟨rfl, rfl, rfl, rfl, rfl, rfl, rfl, rfl, rfl, trivial⟩ ⟨rfl, rfl, trivial⟩) ?_)))
              clear hK K
              refine AW.rgs rfl fun K hK => ?_
              refine bv rfl (v_fieldAddrF fo24_0 rfl) ?_
              refine bv rfl (v_loadF ty3 rfl (l_lit rfl rfl)) ?_
              refine mv rfl rfl ?_
              refine b_nil (hK _ (AW.to (to_le (s' := ⟨[(2, HV.fptr [HV.int .i64 p0.1, HV.int .i64 p0.2.1, slE eFromLabelTo p0.2.2] 0), (10, HV.mp 88030 v5), (11, HV.ar 88071 w11 eStr.k 0 ((a10.2.2).length)), (13, HV.str x14), (33, HV.int .i64 p1), (34, HV.int .i64 a6.2.1), (36, slE eStr a6.1), (37, HV.int .i64 ((a6.1).length : Int)), (38, HV.int .i64 a10.1), (43, HV.int .i64 p0.1), (44, HV.int .i64 0)], [(88030, v5, .map (entE (slE eInt) a10.2.1)), (88071, w11, .arr eStr.k 9 (eStr.E a10.2.2))]⟩) (AS.le_of ⟨rfl, rfl, rfl, rfl, rfl, rfl, rfl, rfl, rfl, rfl, rfl, trivial⟩ ⟨rfl, rfl, trivial⟩) ?_)))
              clear hK K
              refine AW.lpR h (by first | exact up_then | exact up_to) (S := Int × (List (List UInt8 × (List (Int)))) × (List (List UInt8))) (V := Nat) (fun a v => ⟨[(2, HV.fptr [HV.int .i64 p0.1, HV.int .i64 p0.2.1, slE eFromLabelTo p0.2.2] 0), (10, HV.mp 88030 v5), (11, HV.ar 88071 v eStr.k 0 ((a.2.2).length)), (13, HV.str x14), (33, HV.int .i64 p1), (34, HV.int .i64 a6.2.1), (36, slE eStr a6.1), (37, HV.int .i64 ((a6.1).length : Int)), (38, HV.int .i64 a10.1), (43, HV.int .i64 p0.1), (44, HV.int .i64 a.1)], [(88030, v5, .map (entE (slE eInt) a.2.1)), (88071, v, .arr eStr.k 9 (eStr.E a.2.2))]⟩) ?_ (X := (List (List UInt8 × (List (Int)))) × (List (List UInt8))) (W := Nat) (fun a v => ⟨[(2, HV.fptr [HV.int .i64 p0.1, HV.int .i64 p0.2.1, slE eFromLabelTo p0.2.2] 0), (10, HV.mp 88030 v5), (11, HV.ar 88071 v eStr.k 0 ((a.2).length)), (33, HV.int .i64 p1), (34, HV.int .i64 a6.2.1), (36, slE eStr a6.1), (37, HV.int .i64 ((a6.1).length : Int)), (38, HV.int .i64 a10.1)], [(88030, v5, .map (entE (slE eInt) a.1)), (88071, v, .arr eStr.k 9 (eStr.E a.2))]⟩) (fun a30 w31 h => ?_) (fun a16 w17 st18 h hr19=> ?_)
              · exact to_le (s' := ⟨[(2, HV.fptr [HV.int .i64 p0.1, HV.int .i64 p0.2.1, slE eFromLabelTo p0.2.2] 0), (10, HV.mp 88030 v5), (11, HV.ar 88071 w11 eStr.k 0 ((a10.2.2).length)), (13, HV.str x14), (33, HV.int .i64 p1), (34, HV.int .i64 a6.2.1), (36, slE eStr a6.1), (37, HV.int .i64 ((a6.1).length : Int)), (38, HV.int .i64 a10.1), (43, HV.int .i64 p0.1), (44, HV.int .i64 0)], [(88030, v5, .map (entE (slE eInt) a10.2.1)), (88071, w11, .arr eStr.k 9 (eStr.E a10.2.2))]⟩) (AS.le_of ⟨rfl, rfl, rfl, rfl, rfl, rfl, rfl, rfl, rfl, rfl, rfl, trivial⟩ ⟨rfl, rfl, trivial⟩) ⟨w11, rfl⟩
              · refine AW.rg rfl fun K hK => ?_
                refine bv rfl (v_bin rfl rfl b_add) ?_
                refine mv rfl rfl ?_
                refine b_nil (hK _ ?_)
                clear hK K
                exact to_le (s' := ⟨[(2, HV.fptr [HV.int .i64 p0.1, HV.int .i64 p0.2.1, slE eFromLabelTo p0.2.2] 0), (10, HV.mp 88030 v5), (11, HV.ar 88071 w31 eStr.k 0 ((a30.2).length)), (33, HV.int .i64 p1), (34, HV.int .i64 a6.2.1), (36, slE eStr a6.1), (37, HV.int .i64 ((a6.1).length : Int)), (38, HV.int .i64 (IntKind.wrap .i64 (a10.1 + 1)))], [(88030, v5, .map (entE (slE eInt) a30.1)), (88071, w31, .arr eStr.k 9 (eStr.E a30.2))]⟩) (AS.le_of ⟨rfl, rfl, rfl, rfl, rfl, rfl, rfl, rfl, trivial⟩ ⟨rfl, rfl, trivial⟩) ⟨(IntKind.wrap .i64 (a10.1 + 1), a30.1, a30.2), w31, h, rfl⟩
              · refine AW.rgs rfl fun K hK => ?_
                refine bv rfl (v_bin rfl rfl b_lss) ?_
                refine b_nil (hK _ (AW.to (to_le (s' := ⟨[(2, HV.fptr [HV.int .i64 p0.1, HV.int .i64 p0.2.1, slE eFromLabelTo p0.2.2] 0), (10, HV.mp 88030 v5), (11, HV.ar 88071 w17 eStr.k 0 ((a16.2.2).length)), (13, HV.str x14), (33, HV.int .i64 p1), (34, HV.int .i64 a6.2.1), (36, slE eStr a6.1), (37, HV.int .i64 ((a6.1).length : Int)), (38, HV.int .i64 a10.1), (43, HV.int .i64 p0.1), (44, HV.int .i64 a16.1), (45, HV.bool (decide (a16.1 < p0.1)))], [(88030, v5, .map (entE (slE eInt) a16.2.1)), (88071, w17, .arr eStr.k 9 (eStr.E a16.2.2))]⟩) (AS.le_of ⟨rfl, rfl, rfl, rfl, rfl, rfl, rfl, rfl, rfl, rfl, rfl, rfl, trivial⟩ ⟨rfl, rfl, trivial⟩) ?_)))
                clear hK K
                refine AW.cseq rfl (fun hc => ?_) (fun hc => ?_)
                · have hc := of_decide_eq_true hc
                  have h := ifT hc h
                  refine AW.skip ?_
                  refine AW.seq (AW.block ?_)
                  refine AW.rgs rfl fun K hK => ?_
                  refine mv rfl rfl ?_
                  refine mv rfl rfl ?_
                  refine b_nil (hK _ (AW.to (to_le (s' := ⟨[(2, HV.fptr [HV.int .i64 p0.1, HV.int .i64 p0.2.1, slE eFromLabelTo p0.2.2] 0), (10, HV.mp 88030 v5), (11, HV.ar 88071 w17 eStr.k 0 ((a16.2.2).length)), (13, HV.str x14), (14, HV.int .i64 a16.1), (33, HV.int .i64 p1), (34, HV.int .i64 a6.2.1), (36, slE eStr a6.1), (37, HV.int .i64 ((a6.1).length : Int)), (38, HV.int .i64 a10.1), (43, HV.int .i64 p0.1), (44, HV.int .i64 a16.1)], [(88030, v5, .map (entE (slE eInt) a16.2.1)), (88071, w17, .arr eStr.k 9 (eStr.E a16.2.2))]⟩) (AS.le_of ⟨rfl, rfl, rfl, rfl, rfl, rfl, rfl, rfl, rfl, rfl, rfl, rfl, trivial⟩ ⟨rfl, rfl, trivial⟩) ?_)))
                  clear hK K
                  refine AW.rgs rfl fun K hK => ?_
                  refine mv rfl rfl ?_
                  obtain ⟨x20, h21, h⟩ := bS h
                  refine bv rfl (v_idxS ty9 rfl rfl h21) ?_
                  refine mv rfl rfl ?_
                  refine b_nil (hK _ (AW.to (to_le (s' := ⟨[(2, HV.fptr [HV.int .i64 p0.1, HV.int .i64 p0.2.1, slE eFromLabelTo p0.2.2] 0), (10, HV.mp 88030 v5), (11, HV.ar 88071 w17 eStr.k 0 ((a16.2.2).length)), (13, HV.str x14), (15, HV.int .u8 (x20.toNat : Int)), (33, HV.int .i64 p1), (34, HV.int .i64 a6.2.1), (36, slE eStr a6.1), (37, HV.int .i64 ((a6.1).length : Int)), (38, HV.int .i64 a10.1), (43, HV.int .i64 p0.1), (44, HV.int .i64 a16.1)], [(88030, v5, .map (entE (slE eInt) a16.2.1)), (88071, w17, .arr eStr.k 9 (eStr.E a16.2.2))]⟩) (AS.le_of ⟨rfl, rfl, rfl, rfl, rfl, rfl, rfl, rfl, rfl, rfl, rfl, rfl, trivial⟩ ⟨rfl, rfl, trivial⟩) ?_)))
                  clear hK K
                  refine AW.rgs rfl fun K hK => ?_
                  refine bv rfl (v_loadF ty24 rfl (l_litA rfl (Nat.le_of_ble_eq_true rfl) rfl)) ?_
                  refine mv rfl rfl ?_
                  refine mv rfl rfl ?_
                  obtain ⟨x22, h23, h⟩ := bS h
                  refine b_op rfl (o_look (fid := 88) (slE eInt) (es := a16.2.1) (k := x14) (v := x22) rfl ty104 ty9 ty42 rfl rfl rfl rfl (look_some h23) ?_)
                  refine mv rfl rfl ?_
                  obtain ⟨x24, h25, h⟩ := bS h
                  refine b_op rfl (o_call rfl rfl rfl rfl (ACallD.pure0 (w_language_step h25)) ?_)
                  refine mv rfl rfl ?_
                  refine b_nil (hK _ (AW.to (to_le (s' := ⟨[(2, HV.fptr [HV.int .i64 p0.1, HV.int .i64 p0.2.1, slE eFromLabelTo p0.2.2] 0), (10, HV.mp 88030 v5), (11, HV.ar 88071 w17 eStr.k 0 ((a16.2.2).length)), (13, HV.str x14), (15, HV.int .u8 (x20.toNat : Int)), (16, slE eInt x24), (33, HV.int .i64 p1), (34, HV.int .i64 a6.2.1), (36, slE eStr a6.1), (37, HV.int .i64 ((a6.1).length : Int)), (38, HV.int .i64 a10.1), (43, HV.int .i64 p0.1), (44, HV.int .i64 a16.1)], [(88030, v5, .map (entE (slE eInt) a16.2.1)), (88071, w17, .arr eStr.k 9 (eStr.E a16.2.2))]⟩) (AS.le_of ⟨rfl, rfl, rfl, rfl, rfl, rfl, rfl, rfl, rfl, rfl, rfl, rfl, rfl, trivial⟩ ⟨rfl, rfl, trivial⟩) ?_)))
                  clear hK K
                  refine AW.seq ?_
                  refine AW.rgs rfl fun K hK => ?_
                  refine mv rfl rfl ?_
                  refine bv rfl (v_lenF rfl rfl ty42 rfl) ?_
                  refine bv rfl (v_bin rfl rfl b_eql) ?_
                  refine b_nil (hK _ (AW.to (to_le (s' := ⟨[(2, HV.fptr [HV.int .i64 p0.1, HV.int .i64 p0.2.1, slE eFromLabelTo p0.2.2] 0), (10, HV.mp 88030 v5), (11, HV.ar 88071 w17 eStr.k 0 ((a16.2.2).length)), (13, HV.str x14), (15, HV.int .u8 (x20.toNat : Int)), (16, slE eInt x24), (33, HV.int .i64 p1), (34, HV.int .i64 a6.2.1), (36, slE eStr a6.1), (37, HV.int .i64 ((a6.1).length : Int)), (38, HV.int .i64 a10.1), (43, HV.int .i64 p0.1), (44, HV.int .i64 a16.1), (57, HV.bool (decide (((x24).length : Int) = 0)))], [(88030, v5, .map (entE (slE eInt) a16.2.1)), (88071, w17, .arr eStr.k 9 (eStr.E a16.2.2))]⟩) (AS.le_of ⟨rfl, rfl, rfl, rfl, rfl, rfl, rfl, rfl, rfl, rfl, rfl, rfl, rfl, rfl, trivial⟩ ⟨rfl, rfl, trivial⟩) ?_)))
                  clear hK K
                  refine AW.cond rfl (fun hc => ?_) (fun hc => ?_)
                  · have hc := of_decide_eq_true hc
                    have h := ifT hc h
                    refine AW.rgs rfl fun K hK => ?_
                    refine mv rfl rfl ?_
                    refine mv rfl rfl ?_
                    refine bv rfl (v_convR ty5 ty9 rfl) ?_
                    obtain ⟨h26, h⟩ := ifN h
                    refine bv rfl (v_bin rfl rfl (b_sadd h26)) ?_
                    refine mv rfl rfl ?_
                    refine mv rfl rfl ?_
                    refine mv rfl rfl ?_
                    refine b_nil (hK _ (AW.to (to_le (s' := ⟨[(4, HV.str (x14 ++ ((Utf8.encode (x20.toNat : Int)).data.toList))), (5, HV.bool true), (6, HV.int .i64 0)], []⟩) (AS.le_of ⟨rfl, rfl, rfl, trivial⟩ trivial) ?_)))
                    clear hK K
                    have h := hr19 _ h
                    have h := hr13 _ h
                    have h := hr9 _ h
                    refine AW.ret ?_
                    have h := Option.some.inj h
                    subst h
                    exact ret_pure (hs := [HV.str (x14 ++ ((Utf8.encode (x20.toNat : Int)).data.toList)), HV.bool true, HV.int .i64 0]) (q := HV.tup [HV.str (x14 ++ ((Utf8.encode (x20.toNat : Int)).data.toList)), HV.bool true, HV.int .i64 0]) (.inr rfl) (resT rfl (resT rfl (resT rfl rfl))) rfl ⟨trivial, trivial, trivial, trivial⟩
                  · have hc := of_decide_eq_false hc
                    have h := ifF hc h
                    refine AW.skip ?_
                    refine AW.rgs rfl fun K hK => ?_
                    refine mv rfl rfl ?_
                    refine mv rfl rfl ?_
                    refine bv rfl (v_convR ty5 ty9 rfl) ?_
                    obtain ⟨h27, h⟩ := ifN h
                    refine bv rfl (v_bin rfl rfl (b_sadd h27)) ?_
                    refine mv rfl rfl ?_
                    refine b_nil (hK _ (AW.to (to_le (s' := ⟨[(2, HV.fptr [HV.int .i64 p0.1, HV.int .i64 p0.2.1, slE eFromLabelTo p0.2.2] 0), (10, HV.mp 88030 v5), (11, HV.ar 88071 w17 eStr.k 0 ((a16.2.2).length)), (13, HV.str x14), (16, slE eInt x24), (17, HV.str (x14 ++ ((Utf8.encode (x20.toNat : Int)).data.toList))), (33, HV.int .i64 p1), (34, HV.int .i64 a6.2.1), (36, slE eStr a6.1), (37, HV.int .i64 ((a6.1).length : Int)), (38, HV.int .i64 a10.1), (43, HV.int .i64 p0.1), (44, HV.int .i64 a16.1)], [(88030, v5, .map (entE (slE eInt) a16.2.1)), (88071, w17, .arr eStr.k 9 (eStr.E a16.2.2))]⟩) (AS.le_of ⟨rfl, rfl, rfl, rfl, rfl, rfl, rfl, rfl, rfl, rfl, rfl, rfl, rfl, trivial⟩ ⟨rfl, rfl, trivial⟩) ?_)))
                    clear hK K
                    refine AW.rg rfl fun K hK => ?_
                    refine mv rfl rfl ?_
                    refine mv rfl rfl ?_
                    refine mv rfl rfl ?_
                    refine mv rfl rfl ?_
                    refine b_op rfl (o_bsl rfl rfl (as_of (cs := [HV.str (x14 ++ ((Utf8.encode (x20.toNat : Int)).data.toList))]) ty30 ty9 rfl rfl rfl rfl rfl) ?_)
                    obtain ⟨h29, h⟩ := ifN h
                    refine b_op rfl (o_appE eStr (l := a16.2.2) (m := [x14 ++ ((Utf8.encode (x20.toNat : Int)).data.toList)]) rfl rfl ty30 ty30 ty9 rfl rfl rfl rfl rfl h29 (fun v28 => ?_))
                    refine mv rfl rfl ?_
                    refine mv rfl rfl ?_
                    refine b_op rfl (o_mapSet (slE eInt) (es := a16.2.1) (k := (x14 ++ ((Utf8.encode (x20.toNat : Int)).data.toList))) (v := x24) (.inl rfl) ty104 ty9 rfl rfl rfl rfl trivial ?_)
                    refine b_nil (hK _ (AW.to (to_le (s' := ⟨[(2, HV.fptr [HV.int .i64 p0.1, HV.int .i64 p0.2.1, slE eFromLabelTo p0.2.2] 0), (10, HV.mp 88030 v5), (11, HV.ar 88071 v28 eStr.k 0 ((a16.2.2 ++ [x14 ++ ((Utf8.encode (x20.toNat : Int)).data.toList)]).length)), (13, HV.str x14), (33, HV.int .i64 p1), (34, HV.int .i64 a6.2.1), (36, slE eStr a6.1), (37, HV.int .i64 ((a6.1).length : Int)), (38, HV.int .i64 a10.1), (43, HV.int .i64 p0.1), (44, HV.int .i64 a16.1)], [(88030, v5, .map (entE (slE eInt) (mputN (x14 ++ ((Utf8.encode (x20.toNat : Int)).data.toList)) x24 a16.2.1))), (88071, v28, .arr eStr.k 9 (eStr.E (a16.2.2 ++ [x14 ++ ((Utf8.encode (x20.toNat : Int)).data.toList)])))]⟩) (AS.le_of ⟨rfl, rfl, rfl, rfl, rfl, rfl, rfl, rfl, rfl, rfl, rfl, trivial⟩ ⟨rfl, rfl, trivial⟩) ?_)))
                    clear hK K
                    refine AW.rg rfl fun K hK => ?_
                    refine bv rfl (v_bin rfl rfl b_add) ?_
                    refine mv rfl rfl ?_
                    refine b_nil (hK _ ?_)
                    clear hK K
                    exact to_le (s' := ⟨[(2, HV.fptr [HV.int .i64 p0.1, HV.int .i64 p0.2.1, slE eFromLabelTo p0.2.2] 0), (10, HV.mp 88030 v5), (11, HV.ar 88071 v28 eStr.k 0 ((a16.2.2 ++ [x14 ++ ((Utf8.encode (x20.toNat : Int)).data.toList)]).length)), (13, HV.str x14), (33, HV.int .i64 p1), (34, HV.int .i64 a6.2.1), (36, slE eStr a6.1), (37, HV.int .i64 ((a6.1).length : Int)), (38, HV.int .i64 a10.1), (43, HV.int .i64 p0.1), (44, HV.int .i64 (IntKind.wrap .i64 (a16.1 + 1)))], [(88030, v5, .map (entE (slE eInt) (mputN (x14 ++ ((Utf8.encode (x20.toNat : Int)).data.toList)) x24 a16.2.1))), (88071, v28, .arr eStr.k 9 (eStr.E (a16.2.2 ++ [x14 ++ ((Utf8.encode (x20.toNat : Int)).data.toList)])))]⟩) (AS.le_of ⟨rfl, rfl, rfl, rfl, rfl, rfl, rfl, rfl, rfl, rfl, rfl, trivial⟩ ⟨rfl, rfl, trivial⟩) ⟨(IntKind.wrap .i64 (a16.1 + 1), mputN (x14 ++ ((Utf8.encode (x20.toNat : Int)).data.toList)) x24 a16.2.1, a16.2.2 ++ [x14 ++ ((Utf8.encode (x20.toNat : Int)).data.toList)]), v28, h, rfl⟩
                · have hc := of_decide_eq_false hc
                  have h := ifF hc h
                  refine AW.exit ?_
                  exact to_le (s' := ⟨[(2, HV.fptr [HV.int .i64 p0.1, HV.int .i64 p0.2.1, slE eFromLabelTo p0.2.2] 0), (10, HV.mp 88030 v5), (11, HV.ar 88071 w17 eStr.k 0 ((a16.2.2).length)), (33, HV.int .i64 p1), (34, HV.int .i64 a6.2.1), (36, slE eStr a6.1), (37, HV.int .i64 ((a6.1).length : Int)), (38, HV.int .i64 a10.1)], [(88030, v5, .map (entE (slE eInt) a16.2.1)), (88071, w17, .arr eStr.k 9 (eStr.E a16.2.2))]⟩) (AS.le_of ⟨rfl, rfl, rfl, rfl, rfl, rfl, rfl, rfl, trivial⟩ ⟨rfl, rfl, trivial⟩) ⟨(a16.2.1, a16.2.2), w17, h, rfl⟩
            · have hc := of_decide_eq_false hc
              have h := ifF hc h
              refine AW.exit ?_
              exact to_le (s' := ⟨[(2, HV.fptr [HV.int .i64 p0.1, HV.int .i64 p0.2.1, slE eFromLabelTo p0.2.2] 0), (10, HV.mp 88030 v5), (11, HV.ar 88071 w11 eStr.k 0 ((a10.2.2).length)), (33, HV.int .i64 p1), (34, HV.int .i64 a6.2.1)], [(88030, v5, .map (entE (slE eInt) a10.2.1)), (88071, w11, .arr eStr.k 9 (eStr.E a10.2.2))]⟩) (AS.le_of ⟨rfl, rfl, rfl, rfl, rfl, trivial⟩ ⟨rfl, rfl, trivial⟩) ⟨(a10.2.1, a10.2.2), w11, h, rfl⟩
        · have hc := of_decide_eq_false hc
          have h := ifF hc h
          refine AW.exit ?_
          exact to_le (s' := ⟨[], []⟩) (AS.le_of trivial trivial) ⟨(), (), h, rfl⟩

set_option maxHeartbeats 1600000 in
set_option maxRecDepth 100000 in
theorem w_law11_awakeG  {r : Bool} (h : m_law11_awakeG  = some r) : Pure Try.prog 41 [] (· = HV.bool r) := by
  unfold m_law11_awakeG at h
  refine Pure.of_body Try.func41 rfl rfl (Nat.le_of_ble_eq_true rfl) fun hf => ?_
  unfold Try.f41
  dsimp only [enumS, Nat.reduceAdd]
  refine AW.rgs rfl fun K hK => ?_
  refine mv rfl rfl ?_
  refine b_nil (hK _ (AW.to (to_le (s' := ⟨[], []⟩) (AS.le_of trivial trivial) ?_)))
  clear hK K
  refine AW.rgs rfl fun K hK => ?_
  obtain ⟨x1, h2, h⟩ := bS h
  refine b_op rfl (o_call rfl rfl rfl rfl (ACallD.pure0 (w_law11_golden h2)) ?_)
  obtain ⟨x3, h4, h⟩ := bS h
  refine b_op rfl (o_call rfl rfl rfl rfl (ACallD.pure0 (w_language_Words h4)) ?_)
  refine mv rfl rfl ?_
  refine bv rfl (v_extract rfl rfl) ?_
  refine bv rfl (v_extract rfl rfl) ?_
  refine mv rfl rfl ?_
  refine mv rfl rfl ?_
  refine b_nil (hK _ (AW.to (to_le (s' := ⟨[(1, slE eStr x3.1), (2, HV.int .i64 x3.2)], []⟩) (AS.le_of ⟨rfl, rfl, trivial⟩ trivial) ?_)))
  clear hK K
  refine AW.rgs rfl fun K hK => ?_
  obtain ⟨x5, h6, h⟩ := bS h
  refine b_op rfl (o_call rfl rfl rfl rfl (ACallD.pure0 (w_law11_golden h6)) ?_)
  obtain ⟨x7, h8, h⟩ := bS h
  refine b_op rfl (o_call rfl rfl rfl rfl (ACallD.pure0 (w_language_Missing h8)) ?_)
  refine mv rfl rfl ?_
  refine bv rfl (v_extract rfl rfl) ?_
  refine bv rfl (v_extract rfl rfl) ?_
  refine bv rfl (v_extract rfl rfl) ?_
  refine mv rfl rfl ?_
  refine mv rfl rfl ?_
  refine mv rfl rfl ?_
  refine b_nil (hK _ (AW.to (to_le (s' := ⟨[(1, slE eStr x3.1), (2, HV.int .i64 x3.2), (3, HV.str x7.1), (4, HV.bool x7.2.1), (5, HV.int .i64 x7.2.2)], []⟩) (AS.le_of ⟨rfl, rfl, rfl, rfl, rfl, trivial⟩ trivial) ?_)))
  clear hK K
  refine AW.rgs rfl fun K hK => ?_
  obtain ⟨x9, h10, h⟩ := bS h
  refine b_op rfl (o_call rfl rfl rfl rfl (ACallD.pure0 (w_law11_golden h10)) ?_)
  obtain ⟨x11, h12, h⟩ := bS h
  refine b_op rfl (o_call rfl rfl rfl rfl (ACallD.pure0 (w_language_Path h12)) ?_)
  refine mv rfl rfl ?_
  refine bv rfl (v_extract rfl rfl) ?_
  refine bv rfl (v_extract rfl rfl) ?_
  refine mv rfl rfl ?_
  refine mv rfl rfl ?_
  refine b_nil (hK _ (AW.to (to_le (s' := ⟨[(1, slE eStr x3.1), (2, HV.int .i64 x3.2), (3, HV.str x7.1), (4, HV.bool x7.2.1), (5, HV.int .i64 x7.2.2), (6, slE eInt x11.1), (7, HV.int .i64 x11.2)], []⟩) (AS.le_of ⟨rfl, rfl, rfl, rfl, rfl, rfl, rfl, trivial⟩ trivial) ?_)))
  clear hK K
  refine AW.seqJ h (S := Bool) (V := Unit) (fun a v => ⟨[(0, HV.bool a)], []⟩) (fun a13 w14 h => ?_) (fun k15 h => ?_)
  · refine AW.ret ?_
    have h := Option.some.inj h
    subst h
    exact ret_pure (hs := [HV.bool a13]) (q := HV.bool a13) (.inr rfl) (resT rfl rfl) rfl trivial
  · refine AW.rg rfl fun K hK => ?_
    refine mv rfl rfl ?_
    refine mv rfl rfl ?_
    refine mv rfl rfl ?_
    refine bv rfl (v_max3 rfl rfl rfl rfl) ?_
    refine bv rfl (v_bin rfl rfl b_eql) ?_
    refine mv rfl rfl ?_
    by_cases hg23 : (max (max x3.2 x7.2.2) x11.2) = 0
    · have h := ifT hg23 h
      refine b_T rfl rfl rfl rfl (decide_eq_true hg23) (o_val rfl (mv_val rfl rfl).2 ?_)
      refine b_T rfl rfl rfl rfl rfl (o_bsl rfl rfl (as_of (cs := [HV.str [48, 48], HV.str [48, 49], HV.str [49, 48]]) ty30 ty9 rfl rfl rfl rfl rfl) ?_)
      obtain ⟨x16, h17, h⟩ := bS h
      refine b_T rfl rfl rfl rfl rfl (o_call rfl rfl rfl rfl (ACallD.pure0 (w_slices_Equal_Lstring_string h17)) ?_)
      refine bv rfl (v_pickT rfl rfl rfl) ?_
      refine mv rfl rfl ?_
      by_cases hg22 : x16 = true
      · have h := ifT hg22 h
        refine b_T rfl rfl rfl rfl hg22 (o_val rfl (mv_val rfl rfl).2 ?_)
        refine b_T rfl rfl rfl rfl rfl (o_val rfl (v_bin rfl rfl b_seql) ?_)
        refine bv rfl (v_pickT rfl rfl rfl) ?_
        refine mv rfl rfl ?_
        by_cases hg21 : x7.1 = [49, 49]
        · have h := ifT hg21 h
          refine b_T rfl rfl rfl rfl (decide_eq_true hg21) (o_val rfl (mv_val rfl rfl).2 ?_)
          refine bv rfl (v_pickT rfl rfl rfl) ?_
          refine mv rfl rfl ?_
          by_cases hg20 : x7.2.1 = true
          · have h := ifT hg20 h
            refine b_T rfl rfl rfl rfl hg20 (o_val rfl (mv_val rfl rfl).2 ?_)
            refine b_T rfl rfl rfl rfl rfl (o_bsl rfl rfl (as_of (cs := [HV.int .i64 0, HV.int .i64 1, HV.int .i64 2]) ty42 ty3 rfl rfl rfl rfl rfl) ?_)
            obtain ⟨x18, h19, h⟩ := bS h
            refine b_T rfl rfl rfl rfl rfl (o_call rfl rfl rfl rfl (ACallD.pure0 (w_slices_Equal_Lint_int h19)) ?_)
            refine bv rfl (v_pickT rfl rfl rfl) ?_
            refine mv rfl rfl ?_
            refine b_nil (hK _ ?_)
            clear hK K
            exact to_le (s' := ⟨[(0, HV.bool x18)], []⟩) (AS.le_of ⟨rfl, trivial⟩ trivial) ⟨x18, (), h, rfl⟩
          · have h := ifF hg20 h
            refine b_F rfl rfl rfl rfl rfl (bF hg20) ?_
            refine b_F rfl rfl rfl rfl rfl rfl ?_
            refine b_F rfl rfl rfl rfl rfl rfl ?_
            refine bv rfl (v_pickF rfl rfl rfl) ?_
            refine mv rfl rfl ?_
            refine b_nil (hK _ ?_)
            clear hK K
            exact to_le (s' := ⟨[(0, HV.bool false)], []⟩) (AS.le_of ⟨rfl, trivial⟩ trivial) ⟨false, (), h, rfl⟩
        · have h := ifF hg21 h
          refine b_F rfl rfl rfl rfl rfl (decide_eq_false hg21) ?_
          refine bv rfl (v_pickF rfl rfl rfl) ?_
          refine mv rfl rfl ?_
          refine b_F rfl rfl rfl rfl rfl rfl ?_
          refine b_F rfl rfl rfl rfl rfl rfl ?_
          refine b_F rfl rfl rfl rfl rfl rfl ?_
          refine bv rfl (v_pickF rfl rfl rfl) ?_
          refine mv rfl rfl ?_
          refine b_nil (hK _ ?_)
          clear hK K
          exact to_le (s' := ⟨[(0, HV.bool false)], []⟩) (AS.le_of ⟨rfl, trivial⟩ trivial) ⟨false, (), h, rfl⟩
      · have h := ifF hg22 h
        refine b_F rfl rfl rfl rfl rfl (bF hg22) ?_
        refine b_F rfl rfl rfl rfl rfl rfl ?_
        refine bv rfl (v_pickF rfl rfl rfl) ?_
        refine mv rfl rfl ?_
        refine b_F rfl rfl rfl rfl rfl rfl ?_
        refine bv rfl (v_pickF rfl rfl rfl) ?_
        refine mv rfl rfl ?_
        refine b_F rfl rfl rfl rfl rfl rfl ?_
        refine b_F rfl rfl rfl rfl rfl rfl ?_
        refine b_F rfl rfl rfl rfl rfl rfl ?_
        refine bv rfl (v_pickF rfl rfl rfl) ?_
        refine mv rfl rfl ?_
        refine b_nil (hK _ ?_)
        clear hK K
        exact to_le (s' := ⟨[(0, HV.bool false)], []⟩) (AS.le_of ⟨rfl, trivial⟩ trivial) ⟨false, (), h, rfl⟩
    · have h := ifF hg23 h
      refine b_F rfl rfl rfl rfl rfl (decide_eq_false hg23) ?_
      refine b_F rfl rfl rfl rfl rfl rfl ?_
      refine b_F rfl rfl rfl rfl rfl rfl ?_
      refine bv rfl (v_pickF rfl rfl rfl) ?_
      refine mv rfl rfl ?_
      refine b_F rfl rfl rfl rfl rfl rfl ?_
      refine b_F rfl rfl rfl rfl rfl rfl ?_
      refine bv rfl (v_pickF rfl rfl rfl) ?_
      refine mv rfl rfl ?_
      refine b_F rfl rfl rfl rfl rfl rfl ?_
      refine bv rfl (v_pickF rfl rfl rfl) ?_
      refine mv rfl rfl ?_
      refine b_F rfl rfl rfl rfl rfl rfl ?_
      refine b_F rfl rfl rfl rfl rfl rfl ?_
      refine b_F rfl rfl rfl rfl rfl rfl ?_
      refine bv rfl (v_pickF rfl rfl rfl) ?_
      refine mv rfl rfl ?_
      refine b_nil (hK _ ?_)
      clear hK K
      exact to_le (s' := ⟨[(0, HV.bool false)], []⟩) (AS.le_of ⟨rfl, trivial⟩ trivial) ⟨false, (), h, rfl⟩

end Go.AW



/- The anchor of chapter 11. -/
namespace Go.AW
open Go Go.Proofs
theorem w_law11_awake {r : Bool} (h : m_law11_awake = some r) : Pure Try.prog 41 [] (· = HV.bool r) := by
  cases h
  exact w_law11_awakeG awake11_eq
end Go.AW

/- Lockstep walks: a call whose body is walked in its place, with what the caller owns. -/
namespace Go.AW
open Go
section
variable {P : Program} {ro : Option Nat} {N : Nat} {s : AS} {o : Oper} {sl : List (Nat × HV)} {H : Heap} {all : Array Oper} {rest l : List Oper} {K : AS → Prop} {Q : Exit → AS → Prop}

/-- what falls off the end of a body -/
theorem AW.fin {c : Code} (h : AW P ro N c (thenQ (fun s' => s'.to (Q .normal)) Q) s) : AW P ro N c Q s := by
  intro w0 μ0 μ a w hs hE
  refine wpIn_mono (h w0 μ0 μ a w hs hE) ?_
  rintro e a' w' ⟨h1, h2, μ', s', h3, h4, h5⟩
  cases e with
  | normal =>
    obtain ⟨μ2, t, ht, hs2, E2⟩ := h3 ro N w0.heap.size μ' a' w' h4
    exact ⟨h1, h2, μ2, t, ht, hs2, h5.trans E2⟩
  | exit id => exact ⟨h1, h2, μ', s', h3, h4, h5⟩
  | goto l => exact ⟨h1, h2, μ', s', h3, h4, h5⟩
  | ret => exact ⟨h1, h2, μ', s', h3, h4, h5⟩
  | panic ch => exact absurd rfl (h1 ch)
  | outgrown => exact absurd rfl h2

end
end Go.AW

/- Maps: looking up with an answer whether there is an entry; deleting while the map is ranged over. -/
namespace Go.AW
open Go Go.MapKept
section
variable {P : Program} {ro : Option Nat} {N : Nat} {s : AS} {w w' : World} {μ : Mu} {H : Heap}

theorem map_erase {α β : Type} (f : α → β) : ∀ (l : List α) (i : Nat), (l.eraseIdx i).map f = (l.map f).eraseIdx i
  | [], i => by simp
  | a :: l, 0 => by simp
  | a :: l, i + 1 => by simp [map_erase f l i]

/-- no iterator over the map stands at an entry that it has just handed out -/
def calmIter (id : Nat) (H : Heap) : Prop := ∀ j v mv seen cur, hget H j = some (v, .iter id mv seen cur) → cur = false

theorem AOp.delete {o : Oper} {K : AS → Prop} {t tk kt et : TypeId} {m x : Operand} {id ver : Nat} {k : List UInt8} {es : List (List UInt8 × HV)} {T Tk : TyI} (hop : o.op = .call { callee := .builtin .delete, args := #[m, x], argTypes := #[t, tk] }) (hN : okd N o.dst = true)
    (hT : ty P t = some T) (hTd : T.desc = .map kt et) (hTk : ty P kt = some Tk) (hTkd : Tk.desc = .string)
    (hm : s.ev m = some (.mp id ver)) (hx : s.ev x = some (.str k)) (hg : hget s.heap id = some (ver, .map es)) (hni : calmIter id s.heap)
    (h : K (({ s with heap := hset s.heap id ver (.map (mdel k es)) } : AS).put o.dst (.tup []))) : AOp P ro N o K s := by
  refine AOp.value (fun c e => by rw [hop] at e; cases e) hN fun B μ a w hs => ?_
  obtain ⟨b, hl, he, ents, clock, hb, hkeys, hvals, hborn, hlt, hnd, hkl⟩ := hs.liveMap (hs.ev hm) hg
  obtain ⟨hxe, hxl⟩ := hs.ev hx
  have hkd : P.underlying kt = some .string := by rw [← hTkd]; exact (ty_spec hTk).1
  have hk : (a.eval x) = strV k := hxe
  have htd : P.underlying t = some (.map kt et) := by rw [← hTd]; exact (ty_spec hT).1
  have hlb : b < w.heap.size := (Array.getElem?_eq_some_iff.1 hb).1
  have hchk := run_checkKey (P := P) (w := w) hkd (k := strV k) (by simp [strV, IsKey]) ents.isEmpty 9999
  have done : ∀ (ents' : Array MapEntry), (Builtin.delete_ #[t, tk] o.type #[.map (some b), strV k]).run P w = .ok (.tuple #[]) { w with heap := w.heap.set! b (.map ents' clock) } →
      ents'.toList.Sublist ents.toList → (∀ w', Evo w μ w' μ → w'.heap[b]? = some (.map ents' clock) → OR w' μ (.map (mdel k es)) (some b)) →
      ∃ v hv μ' w' H', (execOp a.eval o).run P w = .ok (.value v) w' ∧ SR w' μ' H' ∧ Evo w μ w' μ' ∧ Rep w' μ' hv v ∧ K (({ s with heap := H' } : AS).put o.dst hv) := by
    intro ents' hrun hsub hor
    obtain ⟨h1, h2⟩ := hs.sr.updMap (w' := { w with heap := w.heap.set! b (.map ents' clock) }) (es' := mdel k es) hg hl ⟨rfl, rfl, rfl⟩ (by simp)
      (fun b' hb' => by simp [Array.getElem?_setIfInBounds_ne (fun e => hb' e.symm)])
      (fun E => hor _ E (by simp [hlb]))
      (fun E j v mver seen cur l hj hor' hlb' => by
        have hcur := hni j v mver seen cur hj
        subst hcur
        cases l with
        | none => exact hor'.elim
        | some b2 =>
          obtain ⟨h0, mb2, si2, sn2, la2, h2, h3⟩ := hor'
          have hne : b2 ≠ b := fun e => hlb' (by rw [e])
          refine ⟨h0, mb2, si2, sn2, la2, (by simp [Array.getElem?_setIfInBounds_ne (fun e => hne e.symm), h2]), fun l' hl' => ?_⟩
          obtain ⟨rfl, ents2, clock2, h4, h5, h6, h7, h8⟩ := h3 l' hl'
          rw [hl] at hl'
          cases hl'
          rw [hb] at h4
          cases h4
          exact ⟨rfl, ents', clock, by simp [hlb], h5, h6, fun x hx => h7 x (hsub.subset hx), fun e => by cases e⟩)
    refine ⟨.tuple #[], .tup [], μ, _, _, ?_, h1, h2, ⟨[], rfl, rfl⟩, h⟩
    simp only [execOp, hop, resolve, invoke, builtin, Sem.run_bind, Sem.run_pure, Result.andThen_ok, List.map_toArray, List.map_cons, List.map_nil, hk, he, hrun]
  rcases find_str (k := k) 0 hkeys hvals with ⟨h1, h2⟩ | ⟨j, e, h', h1, h2, h3, h4, h5, h6, h7, h8⟩
  · have hmd : mdel k es = es := by
      have : ∀ l : List (List UInt8 × HV), alook k l = none → mdel k l = l := by
        intro l
        induction l with
        | nil => intro _; rfl
        | cons x l ih =>
          obtain ⟨q, y⟩ := x
          intro hn
          simp only [alook] at hn
          split at hn
          · cases hn
          · rename_i hq
            simp only [mdel, if_neg hq, ih hn]
      exact this es h1
    refine done ents ?_ (List.Sublist.refl _) ?_
    · simp [Builtin.delete_, run_underlying htd, MapKept.run_getObj_map hb, hchk, run_findKey hkd h2, run_setObj_map _ hb, Result.andThen]
    · intro w' E hb'
      rw [hmd]
      exact ⟨_, _, hb', hkeys, RepL.evo E hs.sr.ok _ _ hvals, hborn, hlt, hnd, hkl⟩
  · have hjl : j < ents.size := by
      have := (List.getElem?_eq_some_iff.1 h1).1
      simpa using this
    refine done (ents.eraseIdxIfInBounds j) ?_ ?_ ?_
    · simp [Builtin.delete_, run_underlying htd, MapKept.run_getObj_map hb, hchk, run_findKey hkd h5, run_setObj_map _ hb, Result.andThen]
    · rw [Array.toList_eraseIdxIfInBounds]
      exact List.eraseIdx_sublist ..
    · intro w' E hb'
      have hsubm : (mdel k es).Sublist es := mdel_sub
      refine ⟨_, _, hb', ?_, ?_, ?_, ?_, ?_, ?_⟩
      · rw [Array.toList_eraseIdxIfInBounds, h7, map_erase, map_erase, hkeys]
      · rw [Array.toList_eraseIdxIfInBounds, h7, map_erase, map_erase]
        have hv2 := RepL.evo E hs.sr.ok _ _ hvals
        have er : ∀ {cs : List HV} {vs : List Value} (i : Nat), RepL w' μ cs vs → RepL w' μ (cs.eraseIdx i) (vs.eraseIdx i) := by
          intro cs
          induction cs with
          | nil => intro vs i h; cases h; simp; rfl
          | cons c cs ih =>
            rintro vs i ⟨x, xs, rfl, h1, h2⟩
            cases i with
            | zero => exact h2
            | succ i => exact ⟨x, _, rfl, h1, ih i h2⟩
        exact er j hv2
      · rw [Array.toList_eraseIdxIfInBounds]
        exact ((List.eraseIdx_sublist ..).map _).nodup hborn
      · intro z hz
        rw [Array.toList_eraseIdxIfInBounds] at hz
        exact hlt z ((List.eraseIdx_sublist ..).subset hz)
      · exact (hsubm.map _).nodup hnd
      · exact fun x hx => hkl x (hsubm.subset hx)
section
variable {o : Oper} {sl : List (Nat × HV)} {H : Heap} {all : Array Oper} {rest : List Oper} {K : AS → Prop} {β : Type}
theorem b_opX (hg : o.guard = none) (h : okd N o.dst = true → AOp P ro N o (fun s' => bops P ro N all rest K s') ⟨sl, H⟩) : bops P ro N all (o :: rest) K ⟨sl, H⟩ := by
  intro hok i hl
  obtain ⟨ho, hN, hl'⟩ := b_step hok hl
  rw [List.length_cons, List.range'_succ]
  refine AOps.cons ho hg fun w0 μ0 μ a w next Q hs hE hK => ?_
  exact h hN w0 μ0 μ a w next Q hs hE fun μ' s' a' w' hk hs' hE' => hK μ' s' a' w' (hk hok (i + 1) hl') hs' hE'

theorem b_deleteN {t tk kt et : TypeId} {a b : Nat} {z : Value} {m x : Operand} {id ver : Nat} {k : List UInt8} {es : List (List UInt8 × HV)} {a2 b2 : Nat} {z2 : Value} (h0 : (o.guard, o.dst, o.op) = (none, none, .call { callee := .builtin .delete, args := #[m, x], argTypes := #[t, tk] })) (hT : ty P t = some ⟨.map kt et, a, b, z⟩) (hK : ty P kt = some ⟨.string, a2, b2, z2⟩)
    (hm : (⟨sl, H⟩ : AS).ev m = some (.mp id ver)) (hx : (⟨sl, H⟩ : AS).ev x = some (.str k)) (hg : hget H id = some (ver, .map es)) (hni : calmIter id H)
    (kk : bops P ro N all rest K ⟨sl, (id, ver, .map (mdel k es)) :: H⟩) : bops P ro N all (o :: rest) K ⟨sl, H⟩ := by
  obtain ⟨h1, h2⟩ := Prod.mk.inj h0
  obtain ⟨h2, h3⟩ := Prod.mk.inj h2
  refine b_opX h1 fun hN => AOp.delete h3 hN hT rfl hK rfl hm hx hg hni ?_
  rw [h2]
  exact bops_le (putN_le (s := ⟨sl, H⟩) id ver (.map (mdel k es)) (.tup [])) kk
theorem b_range {d : Nat} {t kt et : TypeId} {a b : Nat} {z : Value} {m : Operand} {mid mver : Nat} {es : List (List UInt8 × HV)} (id : Nat) (h0 : (o.guard, o.dst, o.op) = (none, some d, .range t m)) (hT : ty P t = some ⟨.map kt et, a, b, z⟩) (hm : (⟨sl, H⟩ : AS).ev m = some (.mp mid mver)) (hg : hget H mid = some (mver, .map es)) (hid : id ≠ mid)
    (kk : ∀ ver, bops P ro N all rest K ⟨(d, .it id ver) :: sl, (id, ver, .iter mid mver [] false) :: H⟩) : bops P ro N all (o :: rest) K ⟨sl, H⟩ := by
  obtain ⟨h1, h2⟩ := Prod.mk.inj h0
  obtain ⟨h2, h3⟩ := Prod.mk.inj h2
  refine b_opX h1 fun hN => AOp.range id h3 hN hT rfl hm hg hid fun ver => ?_
  rw [h2]
  exact bops_le (putH_le (s := ⟨sl, H⟩) id ver _ d _) (kk ver)

theorem b_next {d : Nat} {x : Operand} {id ver mid mver : Nat} {seen : List (List UInt8)} {cur : Bool} {es : List (List UInt8 × HV)} (h0 : (o.guard, o.dst, o.op) = (none, some d, .next x false)) (hx : (⟨sl, H⟩ : AS).ev x = some (.it id ver)) (hg : hget H id = some (ver, .iter mid mver seen cur)) (hgm : hget H mid = some (mver, .map es))
    (h1 : (∀ p ∈ es, p.1 ∈ seen) → bops P ro N all rest K ⟨(d, .tup [.bool false]) :: sl, H⟩)
    (h2 : ∀ k v, (k, v) ∈ es → k ∉ seen → bops P ro N all rest K ⟨(d, .tup [.bool true, .str k, v]) :: sl, (id, ver, .iter mid mver (k :: seen) true) :: H⟩) : bops P ro N all (o :: rest) K ⟨sl, H⟩ := by
  obtain ⟨e1, e2⟩ := Prod.mk.inj h0
  obtain ⟨e2, e3⟩ := Prod.mk.inj e2
  refine b_opX e1 fun hN => AOp.next e3 hN hx hg hgm (fun hall => ?_) (fun k v hk hn => ?_)
  · rw [e2]
    exact bops_le (put_le (s := ⟨sl, H⟩) d _) (h1 hall)
  · rw [e2]
    exact bops_le (putH_le (s := ⟨sl, H⟩) id ver _ d _) (h2 k v hk hn)

theorem b_entry {d : Nat} {x : Operand} {id ver mid mver : Nat} {k : List UInt8} {seen : List (List UInt8)} {es : List (List UInt8 × HV)} {v : HV} (h0 : (o.guard, o.dst, o.op) = (none, some d, .entry x)) (hx : (⟨sl, H⟩ : AS).ev x = some (.it id ver)) (hg : hget H id = some (ver, .iter mid mver (k :: seen) true)) (hgm : hget H mid = some (mver, .map es)) (hk : alook k es = some v)
    (kk : bops P ro N all rest K ⟨(d, .tup [.str k, v]) :: sl, H⟩) : bops P ro N all (o :: rest) K ⟨sl, H⟩ := by
  obtain ⟨e1, e2⟩ := Prod.mk.inj h0
  obtain ⟨e2, e3⟩ := Prod.mk.inj e2
  refine b_opX e1 fun hN => AOp.entry e3 hN hx hg hgm hk ?_
  rw [e2]
  exact bops_le (put_le (s := ⟨sl, H⟩) d _) kk
end

/-- what an iterator has just handed out is forgotten -/
theorem to_calm {G : AS → Prop} {sl : List (Nat × HV)} {H : Heap} {id ver mid mver : Nat} {seen : List (List UInt8)} {cur : Bool} (hg : hget H id = some (ver, .iter mid mver seen cur)) (h : G ⟨sl, (id, ver, .iter mid mver seen false) :: H⟩) : (⟨sl, H⟩ : AS).to G := by
  intro ro N B μ a w hs
  refine ⟨μ, _, h, ⟨hs.size, ⟨hs.sr.ok, fun i v o hi => ?_, fun i x hx => ?_, hs.sr.inj, hs.sr.held⟩, hs.slot, hs.marks, hs.ro⟩, Evo.refl w μ⟩
  · simp only [hget] at hi
    split at hi
    · rename_i e
      subst e
      cases hi
      obtain ⟨l, hl, hor⟩ := hs.sr.has i ver _ hg
      refine ⟨l, hl, ?_⟩
      cases l with
      | none => exact hor.elim
      | some b =>
        obtain ⟨h0, mb, since, sn, last, h1, h2⟩ := hor
        refine ⟨h0, mb, since, sn, last, h1, fun l' hl' => ?_⟩
        obtain ⟨e, ents, clock, h3, h4, h5, h6, _⟩ := h2 l' hl'
        exact ⟨e, ents, clock, h3, h4, h5, h6, fun e => by cases e⟩
    · exact hs.sr.has i v o hi
  · obtain ⟨y, hy⟩ := hs.sr.only i x hx
    simp only [hget]
    split
    · exact ⟨_, rfl⟩
    · exact ⟨y, hy⟩

end
end Go.AW

/- Entries of a map that a predicate names are deleted. -/
namespace Go.AW
open Go
/-- what is left of the words of a map -/
def delF (pm : List UInt8 → List Int → Option Bool) (l : List WS) : Option (List WS) :=
  if (l.all fun x => (pm x.1 x.2).isSome) = true then some (l.filter fun x => pm x.1 x.2 == some false) else none

theorem perm_lift {α β : Type} {f : α → β} {a b : List β} (h : a.Perm b) : ∀ l : List α, b = l.map f → ∃ l' : List α, l'.Perm l ∧ a = l'.map f := by
  induction h with
  | nil =>
    intro l e
    exact ⟨[], by simp [List.map_eq_nil_iff.1 e.symm], rfl⟩
  | cons x h ih =>
    intro l e
    cases l with
    | nil => cases e
    | cons y l =>
      simp only [List.map_cons, List.cons.injEq] at e
      obtain ⟨rfl, e⟩ := e
      obtain ⟨l', h1, h2⟩ := ih l e
      exact ⟨y :: l', h1.cons y, by rw [h2]; rfl⟩
  | swap x y l0 =>
    intro l e
    match l, e with
    | [], e => cases e
    | [_], e => simp at e
    | u :: v :: l, e =>
      simp only [List.map_cons, List.cons.injEq] at e
      obtain ⟨rfl, rfl, rfl⟩ := e
      exact ⟨v :: u :: l, List.Perm.swap .., rfl⟩
  | trans h1 h2 ih1 ih2 =>
    intro l e
    obtain ⟨l1, p1, e1⟩ := ih2 l e
    obtain ⟨l2, p2, e2⟩ := ih1 l1 e1
    exact ⟨l2, p2.trans p1, e2⟩

theorem mdel_map {k : List UInt8} : ∀ {l : List WS}, (l.map (·.1)).Nodup → mdel k (l.map ent) = (l.filter fun x => x.1 != k).map ent
  | [], _ => rfl
  | x :: l, h => by
    simp only [List.map_cons, List.nodup_cons] at h
    obtain ⟨h1, h2⟩ := h
    show mdel k ((x.1, ints x.2) :: l.map ent) = _
    simp only [mdel]
    by_cases e : k = x.1
    · subst e
      rw [if_pos rfl, List.filter_cons_of_neg (by simp)]
      congr 1
      symm
      refine List.filter_eq_self.2 fun y hy => ?_
      have : y.1 ≠ x.1 := fun e => h1 (e ▸ List.mem_map.2 ⟨y, hy, rfl⟩)
      simpa using this
    · have : (x.1 != k) = true := by simpa using fun e' => e e'.symm
      rw [if_neg e, List.filter_cons_of_pos (p := fun x : WS => x.1 != k) this, mdel_map h2]
      rfl
theorem alook_ws {x : WS} {l : List WS} (hn : (l.map (·.1)).Nodup) (h : x ∈ l) : alook x.1 (l.map ent) = some (ints x.2) := by
  refine alook_mem ?_ (List.mem_map.2 ⟨x, h, rfl⟩)
  rw [List.map_map]
  exact hn
end Go.AW

/- Regions that draw their order, by the sets of the operations that are done. -/
namespace Go.AW
open Go
section
variable {P : Program} {ro : Option Nat} {N : Nat} {s : AS} {ops : Array Oper} {o : Oper} {K : AS → Prop} {G : AS → Prop} {F : List Nat → AS → Prop} {L : List Nat}

/-- the operations of L are done -/
def AnyL (P : Program) (ro : Option Nat) (N : Nat) (ops : Array Oper) (K : AS → Prop) (L : List Nat) (s : AS) : Prop :=
  ∀ (w0 : World) (μ0 : Mu) (fuel : Nat) (listed : Array Bool) (μ1 : Mu) (a1 : Act) (w1 : World), listed.size = ops.size → cnt listed ≤ fuel → (∀ i, i < ops.size → listed.getD i false = L.contains i) →
    SRel ro N w0.heap.size μ1 s a1 w1 → Evo w0 μ0 w1 μ1 → wpAnyIn (fence ro) 0 P .any ops (Post ro N (fun e s' => e = .normal ∧ K s') w0 μ0) fuel listed a1 w1

def readyL (ops : Array Oper) (L : List Nat) : List Nat := (List.range ops.size).filter fun i => !L.contains i && (da ops i).all L.contains
def allR : List Nat → (Nat → Prop) → Prop
  | [], _ => True
  | i :: l, f => f i ∧ allR l f
end
end Go.AW

/- maps.DeleteFunc, as a contract. -/
namespace Go.AW
open Go Go.Proofs
set_option linter.unusedVariables false

set_option maxRecDepth 100000 in
theorem c_deleteFunc {pm : List UInt8 → List Int → Option Bool} {g : FuncId} {cs : List HV} (hf : ∀ a b r, pm a b = some r → Pure Try.prog g ([.str a, slE eInt b] ++ cs) (· = .bool r)) {id ver : Nat} {es : List (List UInt8 × HV)} {l l2 : List WS}
    (hes : es.Perm (l.map ent) ∧ (l.map (·.1)).Nodup ∧ l.length ≤ 1099511627776) (h : delF pm l = some l2) {K : HV → Heap → Prop} (hK : ∀ es2, es2.Perm (l2.map ent) ∧ (l2.map (·.1)).Nodup ∧ l2.length ≤ 1099511627776 → K (.tup []) [(id, ver, .map es2)]) :
    ACall Try.prog 89 [.mp id ver, .fn (.func g) [] cs] [(id, ver, .map es)] K := by
  obtain ⟨hp, hn, hb⟩ := hes
  obtain ⟨l', hl', rfl⟩ := perm_lift hp l rfl
  unfold delF at h
  split at h
  case isFalse => cases h
  rename_i hall
  cases h
  have hall' : ∀ x ∈ l', ∃ b, pm x.1 x.2 = some b := fun x hx => by
    have := List.all_eq_true.1 hall x (hl'.mem_iff.1 hx)
    exact Option.isSome_iff_exists.1 this
  have hn' : (l'.map (·.1)).Nodup := (hl'.map (·.1)).nodup_iff.2 hn
  let keep : WS → Bool := fun x => pm x.1 x.2 == some false
  let cur : List (List UInt8) → List WS := fun seen => l'.filter fun x => !seen.contains x.1 || keep x
  have hcn : ∀ seen, ((cur seen).map (·.1)).Nodup := fun seen => ((List.filter_sublist ..).map _).nodup hn'
  refine ACall.of_body Try.func89 rfl rfl (Nat.le_of_ble_eq_true rfl) ?_
  unfold Try.f89
  dsimp only [enumS, Nat.reduceAdd]
  refine AW.rgs rfl fun K1 hK1 => ?_
  refine mv rfl rfl ?_
  refine b_range (id + 1) rfl ty104 rfl hget_0 (by omega) fun iv => ?_
  refine b_nil (hK1 _ (AW.to (to_le (s' := ⟨[(0, .mp id ver), (1, .fn (.func g) [] cs), (7, .it (id + 1) iv)], [(id + 1, iv, .iter id ver [] false), (id, ver, .map (l'.map ent))]⟩) (le_slH ⟨rfl, rfl, rfl, trivial⟩) ?_)))
  clear hK1 K1
  refine AW.block ?_
  refine AW.loopS (fun q : List (List UInt8) × Heap => ⟨[(0, .mp id ver), (1, .fn (.func g) [] cs), (7, .it (id + 1) iv)], q.2⟩)
    (fun q => hget q.2 (id + 1) = some (iv, .iter id ver q.1 false) ∧ hget q.2 id = some (ver, .map ((cur q.1).map ent)) ∧ (∀ j v mv seen c, hget q.2 j = some (v, .iter id mv seen c) → c = false) ∧ ∀ k ∈ q.1, k ∈ l'.map (·.1)) (fun q => (l'.filter fun x => !q.1.contains x.1).length) ([], [(id + 1, iv, .iter id ver [] false), (id, ver, .map (l'.map ent))]) (AS.le_refl _) ⟨hget_0, ?_, ?_, fun k hk => by cases hk⟩ ?_
  · have e : cur [] = l' := List.filter_eq_self.2 fun x _ => rfl
    dsimp only
    rw [e]
    simp [hget]
  · intro j v mv seen c hj
    simp only [hget] at hj
    split at hj
    · cases hj; rfl
    · split at hj
      · cases hj
      · cases hj
  rintro ⟨seen, H1⟩ ⟨hg1, hg2, hci, hsub⟩
  dsimp only at hg1 hg2 hci hsub ⊢
  refine AW.rgs rfl fun K1 hK1 => ?_
  refine b_next rfl rfl hg1 hg2 (fun hall => ?_) (fun k v hkv hns => ?_)
  · refine bv rfl (v_extract rfl rfl) ?_
    refine b_nil (hK1 _ ?_)
    clear hK1 K1
    refine AW.cseq rfl (fun hc => by cases hc) (fun hc => ?_)
    refine AW.exit ?_
    have hcur : cur seen = l'.filter keep := by
      refine List.filter_congr fun x hx => ?_
      by_cases hk : keep x = true
      · rw [hk, Bool.or_true]
      · have hk' : keep x = false := by simpa using hk
        rw [hk', Bool.or_false]
        apply Classical.byContradiction
        intro hs
        have hs : (!seen.contains x.1) = true := by simpa using hs
        have hm : x ∈ cur seen := List.mem_filter.2 ⟨hx, by rw [hs]; rfl⟩
        have := hall (ent x) (List.mem_map.2 ⟨x, hm, rfl⟩)
        simp only [Bool.not_eq_true', List.contains_eq_mem, decide_eq_false_iff_not] at hs
        exact hs this
    refine ⟨.inl rfl, ?_⟩
    simp only [go_sem, reduceIte, Nat.reduceEqDiff]
    refine ⟨_, [(id, ver, .map ((cur seen).map ent))], Conv.drop fun j x hx => ?_, hK _ ⟨?_, ?_, ?_⟩⟩
    · simp only [hget] at hx
      split at hx
      · rename_i e; subst e; rw [← hx]; exact hg2
      · cases hx
    · rw [hcur]
      exact (hl'.filter keep).map ent
    · exact ((List.filter_sublist ..).map _).nodup hn
    · exact Nat.le_trans (List.length_filter_le _ _) hb
  · refine bv rfl (v_extract rfl rfl) ?_
    refine b_nil (hK1 _ ?_)
    clear hK1 K1
    refine AW.cseq rfl (fun hc => ?_) (fun hc => by cases hc)
    refine AW.skip ?_
    refine AW.block ?_
    obtain ⟨x, hx, hxe⟩ := List.mem_map.1 hkv
    cases hxe
    obtain ⟨hxl, hxs⟩ := List.mem_filter.1 hx
    obtain ⟨b, hb'⟩ := hall' x hxl
    have hg2' : hget ((id + 1, iv, AObj.iter id ver (x.1 :: seen) true) :: H1) id = some (ver, .map ((cur seen).map ent)) := by
      simp only [hget]
      rw [if_neg (by omega)]
      exact hg2
    refine AW.rgs rfl fun K1 hK1 => ?_
    refine b_entry rfl rfl hget_0 hg2' (alook_ws (hcn seen) hx) ?_
    refine bv rfl (v_extract rfl rfl) ?_
    refine bv rfl (v_extract rfl rfl) ?_
    refine mv rfl rfl ?_
    refine mv rfl rfl ?_
    refine b_nil (hK1 _ (AW.to (to_bind (to_calm (hg := hget_0) (to_le (s' := ⟨[(0, .mp id ver), (1, .fn (.func g) [] cs), (4, .str x.1), (5, ints x.2), (7, .it (id + 1) iv)], (id + 1, iv, AObj.iter id ver (x.1 :: seen) false) :: (id + 1, iv, AObj.iter id ver (x.1 :: seen) true) :: H1⟩) (le_slH ⟨rfl, rfl, rfl, rfl, rfl, trivial⟩) ?_)))))
    clear hK1 K1
    refine AW.rgs rfl fun K1 hK1 => ?_
    refine mv rfl rfl ?_
    refine mv rfl rfl ?_
    refine mv rfl rfl ?_
    refine b_op rfl (o_call rfl rfl rfl rfl (ACallD.pure0 (hf _ _ _ hb')) ?_)
    refine b_nil (hK1 _ ?_)
    clear hK1 K1
    have hg3 : ∀ (j : Nat), j ≠ id + 1 → hget ((id + 1, iv, AObj.iter id ver (x.1 :: seen) false) :: (id + 1, iv, AObj.iter id ver (x.1 :: seen) true) :: H1) j = hget H1 j := fun j hj => by
      simp only [hget]
      rw [if_neg hj, if_neg hj]
    have hci2 : ∀ j v mv sn c, hget ((id + 1, iv, AObj.iter id ver (x.1 :: seen) false) :: (id + 1, iv, AObj.iter id ver (x.1 :: seen) true) :: H1) j = some (v, .iter id mv sn c) → c = false := fun j v mv sn c hj => by
      by_cases e : j = id + 1
      · subst e
        simp only [hget, if_true] at hj
        cases hj
        rfl
      · rw [hg3 j e] at hj
        exact hci j v mv sn c hj
    have hsub2 : ∀ k ∈ x.1 :: seen, k ∈ l'.map (·.1) := fun k hk => by
      rcases List.mem_cons.1 hk with rfl | hk
      · exact List.mem_map.2 ⟨x, hxl, rfl⟩
      · exact hsub k hk
    have hless : (l'.filter fun y => !(x.1 :: seen).contains y.1).length < (l'.filter fun y => !seen.contains y.1).length := by
      have hss : (l'.filter fun y => !(x.1 :: seen).contains y.1).Sublist (l'.filter fun y => !seen.contains y.1) := by
        have e : (l'.filter fun y => !(x.1 :: seen).contains y.1) = (l'.filter fun y => !seen.contains y.1).filter fun y => !(x.1 :: seen).contains y.1 := by
          rw [List.filter_filter]
          refine List.filter_congr fun y _ => ?_
          simp only [List.contains_cons, Bool.not_or]
          cases (y.1 == x.1) <;> cases seen.contains y.1 <;> rfl
        rw [e]
        exact List.filter_sublist ..
      refine Nat.lt_of_le_of_ne hss.length_le fun e => ?_
      have := hss.eq_of_length e
      have hm : x ∈ l'.filter fun y => !seen.contains y.1 := List.mem_filter.2 ⟨hxl, by simpa using hns⟩
      rw [← this] at hm
      have := (List.mem_filter.1 hm).2
      simp at this
    have hcur2 : b = true → (cur seen).filter (fun y => y.1 != x.1) = cur (x.1 :: seen) := fun e => by
      subst e
      show (l'.filter _).filter _ = l'.filter _
      rw [List.filter_filter]
      refine List.filter_congr fun y hy => ?_
      by_cases e : y.1 = x.1
      · have hyx : y = x := by
          have hi := List.getElem_of_mem hy
          obtain ⟨i, hi, rfl⟩ := hi
          obtain ⟨j, hj, rfl⟩ := List.getElem_of_mem hxl
          have : i = j := (List.getElem_inj (h₀ := by simpa using hi) (h₁ := by simpa using hj) hn').1 (by simpa using e)
          subst this; rfl
        subst hyx
        have hk : keep y = false := by show (pm y.1 y.2 == some false) = false; rw [hb']; rfl
        simp [hk]
      · have e2 : (y.1 == x.1) = false := by simpa using e
        have e3 : (y.1 != x.1) = true := by simpa using e
        simp [e2, e3, e]
    have hcur3 : b = false → cur seen = cur (x.1 :: seen) := fun e => by
      subst e
      refine List.filter_congr fun y hy => ?_
      by_cases e : y.1 = x.1
      · have hyx : y = x := by
          obtain ⟨i, hi, rfl⟩ := List.getElem_of_mem hy
          obtain ⟨j, hj, rfl⟩ := List.getElem_of_mem hxl
          have : i = j := (List.getElem_inj (h₀ := by simpa using hi) (h₁ := by simpa using hj) hn').1 (by simpa using e)
          subst this; rfl
        subst hyx
        have hk : keep y = true := by show (pm y.1 y.2 == some false) = true; rw [hb']; rfl
        rw [hk, Bool.or_true, Bool.or_true]
      · simp [e]
    refine AW.cond rfl (fun hc => ?_) (fun hc => ?_)
    · refine AW.rg rfl fun K1 hK1 => ?_
      refine mv rfl rfl ?_
      refine mv rfl rfl ?_
      refine b_deleteN rfl ty104 ty9 rfl rfl ((hg3 id (by omega)).trans hg2) hci2 ?_
      refine b_nil (hK1 _ ?_)
      clear hK1 K1
      refine ⟨(x.1 :: seen, _), ⟨?_, ?_, ?_, hsub2⟩, hless, le_slH ⟨rfl, rfl, rfl, trivial⟩⟩
      · simp only [hget]
        rw [if_neg (by omega)]
        simp
      · simp only [hget, if_true]
        rw [mdel_map (hcn seen), hcur2 hc]
      · intro j v mv sn c hj
        by_cases e : j = id
        · subst e
          simp only [hget, if_true] at hj
          cases hj
        · refine hci2 j v mv sn c ?_
          simp only [hget] at hj ⊢
          rw [if_neg e] at hj
          exact hj
    · refine AW.skip ?_
      refine ⟨(x.1 :: seen, _), ⟨hget_0, ?_, hci2, hsub2⟩, hless, le_slH ⟨rfl, rfl, rfl, trivial⟩⟩
      dsimp only
      rw [hg3 id (by omega), hg2, hcur3 hc]
end Go.AW

namespace Go.Proofs
open Go
def Try.compS_ren : Go.Shelf.Ren := ⟨fun | 194 => 46 | n => n, fun | 31 => 30 | 9 => 9 | 3 => 3 | 4 => 4 | 0 => 0 | n => n, fun | n => n⟩
theorem Try.compS : Go.Proofs.Lays.n194 Try.prog Try.compS_ren where
  mixed := by kernel_rfl
  f194 := Try.func46.trans (congrArg some (by kernel_rfl))
  t0 := Try.underlying0
  a0 := Try.isAgg0
  z0 := Try.sizeOf0
  v0 := Try.zeroValue0
  t3 := Try.underlying3
  a3 := Try.isAgg3
  z3 := Try.sizeOf3
  v3 := Try.zeroValue3
  t4 := Try.underlying4
  a4 := Try.isAgg4
  z4 := Try.sizeOf4
  v4 := Try.zeroValue4
  t9 := Try.underlying9
  a9 := Try.isAgg9
  z9 := Try.sizeOf9
  v9 := Try.zeroValue9
  t31 := Try.underlying30
  a31 := Try.isAgg30
  z31 := Try.sizeOf30
  v31 := Try.zeroValue30
end Go.Proofs

/- Compaction of lists of texts. -/
namespace Go.AW
open Go
abbrev compactS_ (l : List (List UInt8)) : List (List UInt8) := Lib.compact l
theorem compactS_le (l : List (List UInt8)) : (compactS_ l).length ≤ l.length := by
  show (Lib.compactUpTo l.toArray l.length).length ≤ l.length
  unfold Lib.compactUpTo
  rw [List.length_map]
  exact Nat.le_trans (List.length_filter_le _ _) (by simp)
theorem compactS_mem {l : List (List UInt8)} {x : List UInt8} (h : x ∈ compactS_ l) : x ∈ l := by
  have h : x ∈ Lib.compactUpTo l.toArray l.length := h
  unfold Lib.compactUpTo at h
  obtain ⟨j, hj, rfl⟩ := List.mem_map.1 h
  have hj := List.mem_range.1 (List.mem_filter.1 hj).1
  have : l.toArray[j]! = l[j] := by simp [hj]
  rw [this]
  exact List.getElem_mem hj
theorem keepsS_iff (d : Array (List UInt8)) (j : Nat) : Lib.keeps d j = true ↔ j = 0 ∨ d[j]! ≠ d[j - 1]! := by
  simp [Lib.keeps]
theorem compactS_has {l : List (List UInt8)} {x : List UInt8} (h : x ∈ l) : x ∈ compactS_ l := by
  show x ∈ Lib.compactUpTo l.toArray l.length
  unfold Lib.compactUpTo
  obtain ⟨i, hi, rfl⟩ := List.getElem_of_mem h
  obtain ⟨j, ⟨hjl, hj⟩, hmin⟩ := least (fun j => ∃ h : j < l.length, l[j] = l[i]) ⟨i, hi, rfl⟩
  refine List.mem_map.2 ⟨j, List.mem_filter.2 ⟨List.mem_range.2 hjl, (keepsS_iff _ _).2 ?_⟩, by simp [hjl, hj]⟩
  by_cases h0 : j = 0
  · exact .inl h0
  · right
    intro he
    have e2 : l.toArray[j]! = l[j] := by simp [hjl]
    have e3 : l.toArray[j - 1]! = l[j - 1]'(by omega) := by simp [show j - 1 < l.length by omega]
    rw [e2, e3] at he
    have := hmin (j - 1) ⟨by omega, by rw [← he, hj]⟩
    omega
theorem compactS_asc {l : List (List UInt8)} (h : l.Pairwise (· ≤ ·)) : (compactS_ l).Pairwise (· < ·) := by
  show (Lib.compactUpTo l.toArray l.length).Pairwise (· < ·)
  unfold Lib.compactUpTo
  rw [List.pairwise_map]
  refine List.Pairwise.imp_of_mem ?_ ((List.pairwise_lt_range (n := l.length)).filter _)
  intro i j hi hj hij
  have hi' := List.mem_range.1 (List.mem_filter.1 hi).1
  have hj' := List.mem_range.1 (List.mem_filter.1 hj).1
  have hk := (keepsS_iff _ _).1 (List.mem_filter.1 hj).2
  have e1 : l.toArray[i]! = l[i] := by simp [hi']
  have e2 : l.toArray[j]! = l[j] := by simp [hj']
  have e3 : l.toArray[j - 1]! = l[j - 1]'(by omega) := by simp [show j - 1 < l.length by omega]
  rw [e2, e3] at hk
  rw [e1, e2]
  have hp := List.pairwise_iff_getElem.1 h
  have h1 : l[i] ≤ l[j - 1]'(by omega) := by
    by_cases hie : i = j - 1
    · subst hie; exact List.le_refl _
    · exact hp i (j - 1) hi' (by omega) (by omega)
  have h2 : l[j - 1]'(by omega) ≤ l[j] := hp (j - 1) j (by omega) hj' (by omega)
  have h3 := List.le_trans h1 h2
  apply Classical.byContradiction
  intro hlt
  have h4 : l[j] ≤ l[i] := List.not_lt.1 hlt
  have e : l[i] = l[j] := List.le_antisymm h3 h4
  have h5 : l[j] ≤ l[j - 1]'(by omega) := by rw [← e]; exact h1
  exact (hk.resolve_left (by omega)) (List.le_antisymm h5 h2)
end Go.AW

/- slices.Compact of texts. -/
namespace Go.AW
open Go Go.Proofs Go.Sort Go.Lib
set_option linter.unusedVariables false
theorem w_compS {H : Heap} {id ver : Nat} {e : TypeId} {l : List (List UInt8)} {K : HV → Heap → Prop} (hg : hget H id = some (ver, .arr 1 e (l.map .str)))
    (hK : K (.ar id ver 1 0 (compactS_ l).length) (hset H id ver (.arr 1 e ((compactS_ l ++ List.replicate (l.length - (compactS_ l).length) []).map .str)))) : ACall Try.prog 46 [.ar id ver 1 0 l.length] H K := by
  refine ⟨enters' Try.func46 rfl rfl, fun μ w vs hs hr => ?_⟩
  obtain ⟨x, xs, rfl, hr, hn⟩ := hr
  cases hn
  obtain ⟨lo, hl, hor⟩ := hs.has _ _ _ hg
  rcases hr with ⟨lo', hl', h⟩ | ⟨hd, _⟩
  · rw [hl] at hl'
    cases hl'
    rcases h with ⟨rfl, rfl, h0, _⟩ | ⟨b, cap, cur, e', rfl, rfl, hcap, hcm, hrow, hsz⟩
    · have hl0 := List.eq_nil_of_length_eq_zero h0
      subst hl0
      refine (Any.slices_Compact_string_empty Try.compS none 0 w).mono ?_
      rintro e2 w' ⟨rfl, rfl⟩
      refine ⟨_, .ar id ver 1 0 0, _, μ, rfl, hK, hs.reobj hg fun l hl hor => hor, .inl ⟨none, hl, .inl ⟨rfl, rfl, rfl, rfl⟩⟩, Evo.refl _ _⟩
    · have hor' := hor
      obtain ⟨h0, cur', vs', rest, hrow', hcl, hrl⟩ := hor
      obtain ⟨hvs, hreps⟩ := repL_strs hrl
      subst hvs
      refine (Any.slices_Compact_string Try.compS b 0 cap l w (holds_row hrow' hcl) (by have := hcm; simp only [maxLen] at this; omega) hcap).mono ?_
      · rintro e2 w' ⟨rfl, n, rfl⟩
        have hle := compactS_le l
        have hlen : (compactS_ l ++ List.replicate (l.length - (compactS_ l).length) ([] : List UInt8)).length = l.length := by simp; omega
        obtain ⟨h1, h2⟩ := put_world (f := HV.str) (fun _ => rfl) hs hg hl (d := compactS_ l ++ List.replicate (l.length - (compactS_ l).length) []) (fun x hx => by
          rcases List.mem_append.1 hx with hx | hx
          · exact hreps x (compactS_mem hx)
          · rw [List.eq_of_mem_replicate hx]; exact ⟨rfl, by simp [maxLen]⟩) hor' (fun vs hv => (repL_strs hv).1) hlen n
        refine ⟨_, .ar id ver 1 0 (compactS_ l).length, _, μ, rfl, hK, h1, .inl ⟨some b, hl, .inr ⟨b, cap, putCells encStr 0 (compactS_ l ++ List.replicate (l.length - (compactS_ l).length) []).toArray cur, e', rfl, by simp, by omega, hcm, ?_, ?_⟩⟩, h2⟩
        · obtain ⟨lo, hi, hbk, hfr⟩ := hrow
          refine ⟨lo, hi, ?_, by simpa [putCells] using hfr⟩
          show (w.heap.modify b _)[b]? = _
          rw [Array.getElem?_modify, if_pos rfl, hbk]
          rfl
        · simp only [putCells, Array.size_mapIdx]; exact hsz
  · exact absurd hl (hd.2 lo)

/-- compaction of a list that nobody else holds -/
theorem c_compactS {H H' : Heap} {id ver n : Nat} {e : TypeId} {l : List (List UInt8)} {K : HV → Heap → Prop} (hn : n = l.length) (hg : hget H id = some (ver, .arr 1 e (l.map .str))) (hle : ∀ j x, hget H' j = some x → hget H j = some x) (hno : hget H' id = none)
    (hK : K (slE eStr (compactS_ l)) H') : ACall Try.prog 46 [.ar id ver 1 0 n] H K := by
  subst hn
  have hlen := compactS_le l
  refine ACall.freeze 2 [(id, ver, .arr 1 e ((compactS_ l ++ List.replicate (l.length - (compactS_ l).length) []).map .str))] H' (w_compS hg ⟨fun j x hx => ?_, fun j x hx => ?_, ?_⟩)
  · rw [hget_hset, if_neg (fun e => by rw [e, hno] at hx; cases hx)]
    exact hle j x hx
  · simp only [hget] at hx
    split at hx
    · rename_i e
      subst e
      cases hx
      exact ⟨by rw [hget_hset, if_pos rfl], hno⟩
    · cases hx
  · have : frz 2 [(id, ver, .arr 1 e ((compactS_ l ++ List.replicate (l.length - (compactS_ l).length) []).map .str))] (.ar id ver 1 0 (compactS_ l).length) = slE eStr (compactS_ l) := by
      have h0 : hget [(id, ver, AObj.arr 1 e ((compactS_ l ++ List.replicate (l.length - (compactS_ l).length) []).map .str))] id = some (ver, .arr 1 e ((compactS_ l ++ List.replicate (l.length - (compactS_ l).length) []).map .str)) := by simp only [hget, if_true]
      rw [frz, h0]
      have h1 : ver = ver ∧ 0 + (compactS_ l).length * 1 ≤ ((compactS_ l ++ List.replicate (l.length - (compactS_ l).length) ([] : List UInt8)).map HV.str).length := ⟨rfl, by simp⟩
      refine (if_pos h1).trans ?_
      rw [List.drop_zero, Nat.mul_one, List.map_append, List.take_left' (List.length_map _), List.map_map]
      rfl
    rw [this]
    exact hK
end Go.AW

/- Models, printed by lk.py. -/
namespace Go.AW
open Go
set_option linter.unusedVariables false
/-- groove/grooveref11.Many -/
noncomputable def m_ref11_Many (p0 : TLabelsStatesEdges) (p1 : Int) (p2 : Int) : Option (Bool) :=
  lpO (loopW (S := Int × Int) (X := Ou (Unit) (Bool)) (fun a1 =>
      jp (fun (a5 : Bool) =>
        if a5 = true then
          if p2 < (IntKind.wrap .i64 (a1.1 * (max 1 (min p0.1 256)))) then
            some (Stp.exit (Ou.ret true))
          else
            some (Stp.next (IntKind.wrap .i64 (a1.1 * (max 1 (min p0.1 256))), IntKind.wrap .i64 (a1.2 + 1)))
        else
          some (Stp.exit (Ou.go ())))
        fun k7 =>
        if a1.2 < p1 then
          k7 (decide (a1.2 < 4096))
        else
          k7 false) (1, 0)) (fun a9 =>
      jp (fun (a11 : Bool) =>
        some a11)
        fun k13 =>
        if 24 < p1 then
          k13 (decide (p1 ≤ 4096))
        else
          k13 false) some

/-- groove/word.All -/
noncomputable def m_word_All (p0 : Int) (p1 : Int) : Option ((List (List UInt8)) × Int) :=
  (m_word_known p0).bind fun x1 =>
  if (!x1) = true then
    some ([], 12)
  else
    if p1 < 0 then
      some ([], 2)
    else
      if 65536 < p1 then
        some ([], 4)
      else
        if p0 = 1 then
          (m_strings_Repeat [48] p1).bind fun x3 =>
          some ([x3], 0)
        else
          lpO (loopW (S := (List (List UInt8)) × Int) (X := Ou ((List (List UInt8))) ((List (List UInt8)) × Int)) (fun a5 =>
              if a5.2 < p1 then
                if 4096 < (IntKind.wrap .i64 (((a5.1).length : Int) * p0)) then
                  some (Stp.exit (Ou.ret ([], 4)))
                else
                  if 0 ≤ (0 : Int) ∧ (0 : Int) ≤ IntKind.wrap .i64 (((a5.1).length : Int) * p0) ∧ (IntKind.wrap .i64 (((a5.1).length : Int) * p0) : Int) * 16 ≤ 281474976710656 then
                    (loopW (S := Int × (List (List UInt8))) (X := (List (List UInt8))) (fun a11 =>
                        if a11.1 < ((a5.1).length : Int) then
                          (idx a5.1 a11.1).bind fun x15 =>
                          (loopW (S := Int × (List (List UInt8))) (X := (List (List UInt8))) (fun a17 =>
                              if a17.1 < p0 then
                                if 0 ≤ (a17.1 : Int) ∧ (a17.1 : Int) ≤ IntKind.wrap .i64 (a17.1 + 1) ∧ IntKind.wrap .i64 (a17.1 + 1) ≤ (([48, 49, 50, 51, 52, 53, 54, 55, 56, 57, 97, 98, 99, 100, 101, 102] : List UInt8).length : Int) then
                                  if x15.length + ((([48, 49, 50, 51, 52, 53, 54, 55, 56, 57, 97, 98, 99, 100, 101, 102] : List UInt8).take (IntKind.wrap .i64 (a17.1 + 1)).toNat).drop (a17.1).toNat).length ≤ maxLen then
                                    if fits 16 ((a17.2 : List (List UInt8)).length + ([x15 ++ ((([48, 49, 50, 51, 52, 53, 54, 55, 56, 57, 97, 98, 99, 100, 101, 102] : List UInt8).take (IntKind.wrap .i64 (a17.1 + 1)).toNat).drop (a17.1).toNat)]).length) then
                                      some (Stp.next (IntKind.wrap .i64 (a17.1 + 1), a17.2 ++ [x15 ++ ((([48, 49, 50, 51, 52, 53, 54, 55, 56, 57, 97, 98, 99, 100, 101, 102] : List UInt8).take (IntKind.wrap .i64 (a17.1 + 1)).toNat).drop (a17.1).toNat)]))
                                    else none
                                  else none
                                else none
                              else
                                some (Stp.exit a17.2)) (0, a11.2)).bind fun a25 =>
                          some (Stp.next (IntKind.wrap .i64 (a11.1 + 1), a25))
                        else
                          some (Stp.exit a11.2)) (0, List.replicate (0 : Int).toNat (([] : List UInt8) : List UInt8))).bind fun a27 =>
                    some (Stp.next (a27, IntKind.wrap .i64 (a5.2 + 1)))
                  else none
              else
                some (Stp.exit (Ou.go a5.1))) ([([] : List UInt8)], 0)) (fun a29 =>
              some (a29, 0)) some

/-- slices.Index[[]string,string] -/
noncomputable def m_slices_Index_Lstring_string (p0 : List (List UInt8)) (p1 : List UInt8) : Option (Int) :=
  lpO (loopW (S := Int) (X := Ou (Unit) (Int)) (fun a1 =>
      if a1 < ((p0).length : Int) then
        (idx p0 a1).bind fun x5 =>
        if p1 = x5 then
          some (Stp.exit (Ou.ret a1))
        else
          some (Stp.next (IntKind.wrap .i64 (a1 + 1)))
      else
        some (Stp.exit (Ou.go ()))) 0) (fun a7 =>
      some (-1)) some

/-- slices.Contains[[]string,string] -/
noncomputable def m_slices_Contains_Lstring_string (p0 : List (List UInt8)) (p1 : List UInt8) : Option (Bool) :=
  (m_slices_Index_Lstring_string p0 p1).bind fun x1 =>
  some (decide (0 ≤ x1))

/-- groove/groovelaw11.LanguageWords -/
noncomputable def m_law11_LanguageWords (p0 : TLabelsStatesEdges) (p1 : Int) : Option (Bool) :=
  jp (fun (a1 : Bool) =>
    if a1 = true then
      (m_law11_awake).bind fun x4 =>
      some x4
    else
      (m_language_Words p0 (Int.tmod (IntKind.wrap .i64 p1) 8)).bind fun x6 =>
      (m_word_All p0.1 (Int.tmod (IntKind.wrap .i64 p1) 8)).bind fun x8 =>
      jp (fun (a10 : Bool) =>
        if a10 = true then
          some false
        else
          lpO (loopW (S := Int × Int) (X := Ou (Int) (Bool)) (fun a13 =>
              if a13.2 < ((x8.1).length : Int) then
                jp (fun (a17 : Int) =>
                  some (Stp.next (a17, IntKind.wrap .i64 (a13.2 + 1))))
                  fun k19 =>
                  (idx x8.1 a13.2).bind fun x20 =>
                  (m_language_Accepts p0 x20).bind fun x22 =>
                  jp (fun (a24 : Bool) =>
                    if a24 = true then
                      some (Stp.exit (Ou.ret false))
                    else
                      if (!x22.1) = true then
                        k19 a13.1
                      else
                        (m_language_Words p0 (max 0 (IntKind.wrap .i64 ((Int.tmod (IntKind.wrap .i64 p1) 8) - 1)))).bind fun x27 =>
                        jp (fun (a29 : Bool) =>
                          if a29 = true then
                            some (Stp.exit (Ou.ret false))
                          else
                            k19 (IntKind.wrap .i64 (a13.1 + 1)))
                          fun k31 =>
                          if 0 < (Int.tmod (IntKind.wrap .i64 p1) 8) then
                            if x27.2 ≠ 0 then
                              k31 true
                            else
                              if 0 ≤ (0 : Int) ∧ (0 : Int) ≤ IntKind.wrap .i64 ((Int.tmod (IntKind.wrap .i64 p1) 8) - 1) ∧ IntKind.wrap .i64 ((Int.tmod (IntKind.wrap .i64 p1) 8) - 1) ≤ (x20.length : Int) then
                                (m_slices_Contains_Lstring_string x27.1 ((x20.take (IntKind.wrap .i64 ((Int.tmod (IntKind.wrap .i64 p1) 8) - 1)).toNat).drop (0 : Int).toNat)).bind fun x33 =>
                                k31 (!x33)
                              else none
                          else
                            k31 false)
                    fun k26 =>
                    if x22.2 ≠ 0 then
                      k26 true
                    else
                      if a13.1 < ((x6.1).length : Int) then
                        (idx x6.1 a13.1).bind fun x37 =>
                        k26 (!(x22.1 == (decide (x37 = x20))))
                      else
                        k26 (!(x22.1 == false))
              else
                some (Stp.exit (Ou.go a13.1))) (0, 0)) (fun a41 =>
              jp (fun (a43 : Bool) =>
                some a43)
                fun k45 =>
                if a41 = ((x6.1).length : Int) then
                  (m_law11_awake).bind fun x46 =>
                  k45 x46
                else
                  k45 false) some)
        fun k12 =>
        if x6.2 ≠ 0 then
          k12 true
        else
          k12 (decide (x8.2 ≠ 0)))
    fun k3 =>
    (m_law11_fine p0).bind fun x50 =>
    if (!x50) = true then
      k3 true
    else
      (m_ref11_Many p0 (Int.tmod (IntKind.wrap .i64 p1) 8) 300).bind fun x52 =>
      k3 x52

end Go.AW

/- The law of words. -/
namespace Go.AW
open Go
set_option linter.unusedSimpArgs false
set_option linter.unusedVariables false

theorem ltW_asym : ∀ {u v : List UInt8}, u < v → ¬ v < u
  | [], [], h, _ => by cases h
  | [], _ :: _, _, h => by cases h
  | _ :: _, [], h, _ => by cases h
  | a :: u, b :: v, h, h' => by
    rcases List.cons_lt_cons_iff.1 h with h1 | ⟨h1, h2⟩
    · rcases List.cons_lt_cons_iff.1 h' with h3 | ⟨h3, h4⟩
      · exact absurd (UInt8.lt_trans h1 h3) (u8_irr a)
      · subst h3; exact u8_irr _ h1
    · subst h1
      rcases List.cons_lt_cons_iff.1 h' with h3 | ⟨h3, h4⟩
      · exact u8_irr _ h3
      · exact ltW_asym h2 h4
theorem ascW_uniq {l m : List (List UInt8)} (hl : l.Pairwise (· < ·)) (hm : m.Pairwise (· < ·)) (h : ∀ x, x ∈ l ↔ x ∈ m) : l = m := by
  have nl : l.Nodup := hl.imp fun h e => by subst e; exact lt_irr _ h
  have nm : m.Nodup := hm.imp fun h e => by subst e; exact lt_irr _ h
  have hp : l.Perm m := (List.perm_ext_iff_of_nodup nl nm).2 h
  exact hp.eq_of_pairwise (fun a b _ _ h1 h2 => absurd h2 (ltW_asym h1)) hl hm

section
variable {g : Gr}
theorem lets_asc (g : Gr) : (lets g).Pairwise (· < ·) := letters_asc.sublist (List.take_sublist _ _)
/-- the words of a length are those of all that can be read -/
theorem words_filter (hv : VG g) (n : Nat) : (LV g (upto g.2.1) n).map Prod.fst = (allW (lets g) n).filter (accB g) := by
  refine ascW_uniq (LV_asc g _ n) ((allW_asc (lets_asc g) n).filter _) fun w => ?_
  simp only [List.mem_map, List.mem_filter, mem_allW, accB, decide_eq_true_eq]
  constructor
  · rintro ⟨x, hx, rfl⟩
    obtain ⟨h1, h2, h3, h4⟩ := (mem_LV hv (upto_ok g) n x).1 hx
    exact ⟨⟨h1, h2⟩, by rw [← h3]; exact h4⟩
  · rintro ⟨⟨h1, h2⟩, h3⟩
    exact ⟨(w, endsL g (upto g.2.1) w), (mem_LV hv (upto_ok g) n _).2 ⟨h1, h2, rfl, h3⟩, rfl⟩
theorem LV_pow (hv : VG g) (h16 : g.1 ≤ 16) (n : Nat) : (LV g (upto g.2.1) n).length ≤ g.1.toNat ^ n := by
  have h := words_filter hv n
  have h2 := congrArg List.length h
  rw [List.length_map] at h2
  rw [h2]
  refine Nat.le_trans (List.length_filter_le _ _) ?_
  rw [allW_len, lets_len hv h16]
  exact Nat.le_refl _
end

/-- how many words there are -/
theorem Many_tot (g : Gr) {k : Nat} (hk : k ≤ 24) {m : Int} (hm0 : 0 ≤ m) (hm : m ≤ 1000000) : ∃ b, m_ref11_Many g (k : Int) m = some b ∧ (b = false → ∀ j, 1 ≤ j → j ≤ k → ((max 1 (min g.1 256)).toNat ^ j : Nat) ≤ m) := by
  have hL : ∃ L : Nat, max 1 (min g.1 256) = (L : Int) ∧ 1 ≤ L ∧ L ≤ 256 := ⟨(max 1 (min g.1 256)).toNat, by omega, by omega, by omega⟩
  obtain ⟨L, hL, hL1, hL2⟩ := hL
  unfold m_ref11_Many
  simp only [jp, hL, Int.toNat_natCast]
  have hx : ∃ x, loopW (S := Int × Int) (X := Ou (Unit) (Bool)) (fun a1 =>
        if a1.2 < (k : Int) then
          if decide (a1.2 < 4096) = true then
          if m < (IntKind.wrap .i64 (a1.1 * (L : Int))) then
            some (Stp.exit (Ou.ret true))
          else
            some (Stp.next (IntKind.wrap .i64 (a1.1 * (L : Int)), IntKind.wrap .i64 (a1.2 + 1)))
        else
          some (Stp.exit (Ou.go ()))
        else
          if false = true then
          if m < (IntKind.wrap .i64 (a1.1 * (L : Int))) then
            some (Stp.exit (Ou.ret true))
          else
            some (Stp.next (IntKind.wrap .i64 (a1.1 * (L : Int)), IntKind.wrap .i64 (a1.2 + 1)))
        else
          some (Stp.exit (Ou.go ()))) (1, 0) = some x ∧ (x = .ret true ∨ (x = .go () ∧ ∀ j, 1 ≤ j → j ≤ k → ((L ^ j : Nat) : Int) ≤ m)) := by
    refine loopN k (fun i s => s = (((L ^ i : Nat) : Int), (i : Int)) ∧ (∀ j, 1 ≤ j → j ≤ i → ((L ^ j : Nat) : Int) ≤ m) ∧ ((L ^ i : Nat) : Int) ≤ max 1 m) ?_ ?_ 0 _ (Nat.zero_le _) ⟨by simp, fun j h1 h2 => by omega, by simp; omega⟩
    · rintro i s hi ⟨rfl, hj, hb⟩
      dsimp only
      rw [if_pos (lt_int hi), if_pos (decide_eq_true (by omega))]
      have hmul : ((L ^ i : Nat) : Int) * (L : Int) = ((L ^ (i + 1) : Nat) : Int) := by rw [Nat.pow_succ]; push_cast; rfl
      have hbound : L ^ (i + 1) ≤ 1000000 * 256 := by
        rw [Nat.pow_succ]
        refine Nat.mul_le_mul ?_ hL2
        omega
      have hw : IntKind.wrap .i64 (((L ^ i : Nat) : Int) * (L : Int)) = ((L ^ (i + 1) : Nat) : Int) := by rw [hmul, w64 (by omega) (by omega)]
      rw [hw]
      by_cases hgt : m < ((L ^ (i + 1) : Nat) : Int)
      · rw [if_pos hgt]; exact .inr ⟨_, rfl, .inl rfl⟩
      · rw [if_neg hgt]
        refine .inl ⟨_, rfl, by rw [nx (by omega : k ≤ _) hi], fun j h1 h2 => ?_, by omega⟩
        by_cases e : j = i + 1
        · subst e; omega
        · exact hj j h1 (by omega)
    · rintro s ⟨rfl, hj, _⟩
      dsimp only
      rw [if_neg (not_lt_int _), if_neg (by simp)]
      exact ⟨_, rfl, .inr ⟨rfl, hj⟩⟩
  obtain ⟨x, hx, rfl | ⟨rfl, hj⟩⟩ := hx
  · rw [hx]; exact ⟨true, rfl, by simp⟩
  · rw [hx]
    refine ⟨false, ?_, fun _ => hj⟩
    show (if _ then _ else _) = _
    rw [if_neg (by omega)]

end Go.AW

/- word.All; the law of words. -/
namespace Go.AW
open Go
set_option linter.unusedSimpArgs false
set_option linter.unusedVariables false

theorem Words_ok {g : Gr} (hv : VG g) (h16 : g.1 ≤ 16) {n : Nat} (hn : n ≤ 4096) (hb : ∀ j, 1 ≤ j → j ≤ n → g.1.toNat ^ j ≤ 4096) : m_language_Words g (n : Int) = some ((allW (lets g) n).filter (accB g), 0) := by
  obtain ⟨r, hr, _, h2, h3⟩ := Words_both g n
  have h0 := h3 hv h16 (by omega) (by omega) (OKL_iff.2 fun j j1 j2 => Nat.le_trans (LV_pow hv h16 j) (hb j j1 (by simpa using j2)))
  obtain ⟨_, hw⟩ := h2 h0
  obtain ⟨r1, r2⟩ := r
  dsimp only at h0 hw
  rw [hr, h0, hw]
  unfold wordsE
  rw [Int.toNat_natCast, words_filter hv]

end Go.AW

/- Models, printed by lk.py. -/
namespace Go.AW
open Go
set_option linter.unusedVariables false
/-- groove/groovelaw11.LanguageMissing -/
noncomputable def m_law11_LanguageMissing (p0 : TLabelsStatesEdges) (p1 : Int) : Option (Bool) :=
  jp (fun (a1 : Bool) =>
    if a1 = true then
      (m_law11_awake).bind fun x4 =>
      some x4
    else
      (m_language_Missing p0 (Int.tmod (IntKind.wrap .i64 p1) 8)).bind fun x6 =>
      jp (fun (a8 : Bool) =>
        if a8 = true then
          some false
        else
          lpO (loopW (S := Int) (X := Ou (Unit) (Bool)) (fun a11 =>
              if a11 < (IntKind.wrap .i64 ((Int.tmod (IntKind.wrap .i64 p1) 8) + 1)) then
                (m_word_All p0.1 a11).bind fun x15 =>
                if x15.2 ≠ 0 then
                  some (Stp.exit (Ou.ret false))
                else
                  lpO (loopW (S := Int) (X := Ou (Unit) (Bool)) (fun a17 =>
                      if a17 < ((x15.1).length : Int) then
                        (idx x15.1 a17).bind fun x21 =>
                        (m_language_Accepts p0 x21).bind fun x23 =>
                        if x23.2 ≠ 0 then
                          some (Stp.exit (Ou.ret false))
                        else
                          jp (fun (a25 : Bool) =>
                            if a25 = true then
                              jp (fun (a28 : Bool) =>
                                some (Stp.exit (Ou.ret a28)))
                                fun k30 =>
                                if (!x23.1) = true then
                                  (m_law11_awake).bind fun x31 =>
                                  k30 x31
                                else
                                  k30 false
                            else
                              if (!x23.1) = true then
                                some (Stp.exit (Ou.ret false))
                              else
                                some (Stp.next (IntKind.wrap .i64 (a17 + 1))))
                            fun k27 =>
                            if x6.2.1 = true then
                              k27 (decide (x21 = x6.1))
                            else
                              k27 false
                      else
                        some (Stp.exit (Ou.go ()))) 0) (fun a35 =>
                      some (Stp.next (IntKind.wrap .i64 (a11 + 1)))) (fun r => some (Stp.exit (Ou.ret r)))
              else
                some (Stp.exit (Ou.go ()))) 0) (fun a37 =>
              jp (fun (a39 : Bool) =>
                some a39)
                fun k41 =>
                if (!x6.2.1) = true then
                  (m_law11_awake).bind fun x42 =>
                  k41 x42
                else
                  k41 false) some)
        fun k10 =>
        if x6.2.2 ≠ 0 then
          k10 true
        else
          if (Int.tmod (IntKind.wrap .i64 p1) 8) < ((x6.1).length : Int) then
            k10 true
          else
            if (!x6.2.1) = true then
              k10 (decide (x6.1 ≠ ([] : List UInt8)))
            else
              k10 false)
    fun k3 =>
    (m_law11_fine p0).bind fun x48 =>
    if (!x48) = true then
      k3 true
    else
      (m_ref11_Many p0 (Int.tmod (IntKind.wrap .i64 p1) 8) 300).bind fun x50 =>
      k3 x50

end Go.AW

/- The law of the first missing word. -/
namespace Go.AW
open Go
set_option linter.unusedSimpArgs false
set_option linter.unusedVariables false
section
variable {g : Gr}

end

end Go.AW

/- The letters that can follow in a set of states. -/
namespace Go.AW
open Go
open Classical in
noncomputable def m_language_collect (g : TLabelsStatesEdges) (set : List Int) : Option (List UInt8) :=
  if 0 ≤ g.1 ∧ g.1 ≤ 16 ∧ ∀ c ∈ letters.take g.1.toNat, ∃ b, m_language_step g set (c.toNat : Int) = some b then
    some ((letters.take g.1.toNat).filter fun c => decide (stpM g set c ≠ []))
  else none
end Go.AW

/- Models, printed by lk.py. -/
namespace Go.AW
open Go
set_option linter.unusedVariables false
/-- groove/language.Letters -/
noncomputable def m_language_Letters (p0 : TLabelsStatesEdges) (p1 : List UInt8) : Option ((List UInt8) × Int) :=
  (m_language_spells p0 p1).bind fun x1 =>
  if x1 ≠ 0 then
    some (([] : List UInt8), x1)
  else
    (m_language_states p0).bind fun x5 =>
    (m_language_ends p0 x5 p1).bind fun x7 =>
    (m_language_collect p0 x7).bind fun x10 =>
    if (([] : List UInt8) ++ x10).length ≤ 1048576 then
      some (([] : List UInt8) ++ x10, 0)
    else none

/-- groove/groovelaw11.LanguageLetters -/
noncomputable def m_law11_LanguageLetters (p0 : TLabelsStatesEdges) (p1 : List UInt8) : Option (Bool) :=
  jp (fun (a1 : Bool) =>
    if a1 = true then
      (m_law11_awake).bind fun x4 =>
      some x4
    else
      (m_language_Letters p0 p1).bind fun x6 =>
      lpO (loopW (S := (List UInt8) × Int) (X := Ou ((List UInt8)) (Bool)) (fun a8 =>
          if a8.2 < p0.1 then
            jp (fun (a12 : (List UInt8)) =>
              some (Stp.next (a12, IntKind.wrap .i64 (a8.2 + 1))))
              fun k14 =>
              if 0 ≤ (a8.2 : Int) ∧ (a8.2 : Int) ≤ IntKind.wrap .i64 (a8.2 + 1) ∧ IntKind.wrap .i64 (a8.2 + 1) ≤ (([48, 49, 50, 51, 52, 53, 54, 55, 56, 57, 97, 98, 99, 100, 101, 102] : List UInt8).length : Int) then
                if p1.length + ((([48, 49, 50, 51, 52, 53, 54, 55, 56, 57, 97, 98, 99, 100, 101, 102] : List UInt8).take (IntKind.wrap .i64 (a8.2 + 1)).toNat).drop (a8.2).toNat).length ≤ maxLen then
                  (m_language_Accepts p0 (p1 ++ ((([48, 49, 50, 51, 52, 53, 54, 55, 56, 57, 97, 98, 99, 100, 101, 102] : List UInt8).take (IntKind.wrap .i64 (a8.2 + 1)).toNat).drop (a8.2).toNat))).bind fun x17 =>
                  if x17.2 ≠ 0 then
                    some (Stp.exit (Ou.ret false))
                  else
                    if x17.1 = true then
                      if 0 ≤ (a8.2 : Int) ∧ (a8.2 : Int) ≤ IntKind.wrap .i64 (a8.2 + 1) ∧ IntKind.wrap .i64 (a8.2 + 1) ≤ (([48, 49, 50, 51, 52, 53, 54, 55, 56, 57, 97, 98, 99, 100, 101, 102] : List UInt8).length : Int) then
                        if a8.1.length + ((([48, 49, 50, 51, 52, 53, 54, 55, 56, 57, 97, 98, 99, 100, 101, 102] : List UInt8).take (IntKind.wrap .i64 (a8.2 + 1)).toNat).drop (a8.2).toNat).length ≤ maxLen then
                          k14 (a8.1 ++ ((([48, 49, 50, 51, 52, 53, 54, 55, 56, 57, 97, 98, 99, 100, 101, 102] : List UInt8).take (IntKind.wrap .i64 (a8.2 + 1)).toNat).drop (a8.2).toNat))
                        else none
                      else none
                    else
                      k14 a8.1
                else none
              else none
          else
            some (Stp.exit (Ou.go a8.1))) (([] : List UInt8), 0)) (fun a21 =>
          jp (fun (a23 : Bool) =>
            some a23)
            fun k25 =>
            if x6.2 = 0 then
              if x6.1 = a21 then
                (m_law11_awake).bind fun x26 =>
                k25 x26
              else
                k25 false
            else
              k25 false) some)
    fun k3 =>
    (m_law11_fine p0).bind fun x30 =>
    if (!x30) = true then
      k3 true
    else
      if 12 < ((p1).length : Int) then
        k3 true
      else
        (m_word_Check p0.1 p1).bind fun x32 =>
        k3 (decide (x32 ≠ 0))

end Go.AW

/- The law of letters. -/
namespace Go.AW
open Go
set_option linter.unusedSimpArgs false
set_option linter.unusedVariables false

end Go.AW

/- Models, printed by lk.py. -/
namespace Go.AW
open Go
set_option linter.unusedVariables false
/-- groove/grooveref07.Long -/
noncomputable def m_ref07_Long (p0 : List UInt8) (p1 : Int) : Option (Bool) :=
  jp (fun (a1 : Bool) =>
    some a1)
    fun k3 =>
    if p1 < ((p0).length : Int) then
      if ((p0).length : Int) ≤ 65536 then
        k3 true
      else
        k3 (decide (65544 < ((p0).length : Int)))
    else
      k3 (decide (65544 < ((p0).length : Int)))

/-- groove/groovelaw11.great$1 -/
noncomputable def m_law11_great_1 (p0 : List UInt8) : Option (Bool) :=
  (m_ref07_Long p0 12).bind fun x1 =>
  some x1

/-- slices.IndexFunc[[]string,string] -/
noncomputable def m_slices_IndexFunc_Lstring_string (p0 : List (List UInt8)) (p1 : (List UInt8) → Option (Bool)) : Option (Int) :=
  lpO (loopW (S := Int) (X := Ou (Unit) (Int)) (fun a1 =>
      if a1 < ((p0).length : Int) then
        (idx p0 a1).bind fun x5 =>
        (p1 x5).bind fun x7 =>
        if x7 = true then
          some (Stp.exit (Ou.ret a1))
        else
          some (Stp.next (IntKind.wrap .i64 (a1 + 1)))
      else
        some (Stp.exit (Ou.go ()))) 0) (fun a9 =>
      some (-1)) some

/-- slices.ContainsFunc[[]string,string] -/
noncomputable def m_slices_ContainsFunc_Lstring_string (p0 : List (List UInt8)) : Option (Bool) :=
  (m_slices_IndexFunc_Lstring_string p0 (fun b0 => m_law11_great_1 b0 )).bind fun x1 =>
  some (decide (0 ≤ x1))

/-- groove/groovelaw11.great -/
noncomputable def m_law11_great (p0 : TLabelsStatesEdges) (p1 : List (List UInt8)) : Option (Bool) :=
  jp (fun (a1 : Bool) =>
    some a1)
    fun k3 =>
    (m_ref11_Great p0).bind fun x4 =>
    if x4 = true then
      k3 true
    else
      (m_slices_ContainsFunc_Lstring_string p1).bind fun x6 =>
      k3 x6

/-- groove/grooveref07.Digit -/
noncomputable def m_ref07_Digit (p0 : Int) : Option (Int) :=
  lpO (loopW (S := Int) (X := Ou (Unit) (Int)) (fun a1 =>
      if a1 < 16 then
        (idx ([48, 49, 50, 51, 52, 53, 54, 55, 56, 57, 97, 98, 99, 100, 101, 102] : List UInt8) a1).bind fun x5 =>
        if (x5.toNat : Int) = p0 then
          some (Stp.exit (Ou.ret a1))
        else
          some (Stp.next (IntKind.wrap .i64 (a1 + 1)))
      else
        some (Stp.exit (Ou.go ()))) 0) (fun a7 =>
      some (-1)) some

/-- groove/grooveref07.Check -/
noncomputable def m_ref07_Check (p0 : Int) (p1 : List UInt8) : Option (Int) :=
  jp (fun (a1 : Bool) =>
    if a1 = true then
      some 12
    else
      if 65536 < ((p1).length : Int) then
        some 4
      else
        lpO (loopW (S := Int) (X := Ou (Unit) (Int)) (fun a4 =>
            if a4 < ((p1).length : Int) then
              (idx p1 a4).bind fun x8 =>
              (m_ref07_Digit (x8.toNat : Int)).bind fun x10 =>
              jp (fun (a12 : Bool) =>
                if a12 = true then
                  some (Stp.exit (Ou.ret 13))
                else
                  some (Stp.next (IntKind.wrap .i64 (a4 + 1))))
                fun k14 =>
                if x10 < 0 then
                  k14 true
                else
                  k14 (decide (p0 ≤ x10))
            else
              some (Stp.exit (Ou.go ()))) 0) (fun a16 =>
            some 0) some)
    fun k3 =>
    if p0 < 1 then
      k3 true
    else
      k3 (decide (16 < p0))

/-- groove/grooveref11.checkWord -/
noncomputable def m_ref11_checkWord (p0 : TLabelsStatesEdges) (p1 : List UInt8) : Option (Int) :=
  (m_ref11_check p0).bind fun x1 =>
  if x1 ≠ 0 then
    some x1
  else
    (m_ref07_Check p0.1 p1).bind fun x3 =>
    some x3

/-- groove/grooveref11.ends -/
noncomputable def m_ref11_ends (p0 : TLabelsStatesEdges) (p1 : List (Int)) (p2 : List UInt8) : Option ((List (Int))) :=
  (loopW (S := (List Int) × Int) (X := (List Int)) (fun a1 =>
      if a1.2 < ((p2).length : Int) then
        (idx p2 a1.2).bind fun x5 =>
        (m_ref07_Digit (x5.toNat : Int)).bind fun x7 =>
        (m_ref11_Step p0 a1.1 x7).bind fun x9 =>
        some (Stp.next (x9, IntKind.wrap .i64 (a1.2 + 1)))
      else
        some (Stp.exit a1.1)) (p1, 0)).bind fun a11 =>
  some a11

/-- groove/grooveref11.Accepts -/
noncomputable def m_ref11_Accepts (p0 : TLabelsStatesEdges) (p1 : List UInt8) : Option (Bool × Int) :=
  (m_ref11_checkWord p0 p1).bind fun x1 =>
  if x1 ≠ 0 then
    some (false, x1)
  else
    (m_ref11_All p0).bind fun x3 =>
    (m_ref11_ends p0 x3 p1).bind fun x5 =>
    some (decide (0 < ((x5).length : Int)), 0)

/-- groove/grooveref11.Ends -/
noncomputable def m_ref11_Ends (p0 : TLabelsStatesEdges) (p1 : List (Int)) (p2 : List UInt8) : Option ((List (Int)) × Int) :=
  (m_ref11_checkWord p0 p2).bind fun x1 =>
  if x1 ≠ 0 then
    some ([], x1)
  else
    lpO (loopW (S := Int) (X := Ou (Unit) ((List (Int)) × Int)) (fun a3 =>
        if a3 < ((p1).length : Int) then
          jp (fun (a7 : Bool) =>
            if a7 = true then
              some (Stp.exit (Ou.ret ([], 25)))
            else
              some (Stp.next (IntKind.wrap .i64 (a3 + 1))))
            fun k9 =>
            (idx p1 a3).bind fun x10 =>
            if x10 < 0 then
              k9 true
            else
              (idx p1 a3).bind fun x12 =>
              k9 (decide (p0.2.1 ≤ x12))
        else
          some (Stp.exit (Ou.go ()))) 0) (fun a15 =>
        lpO (loopW (S := Int) (X := Ou (Unit) ((List (Int)) × Int)) (fun a17 =>
            if a17 < ((p1).length : Int) then
              (idx p1 (IntKind.wrap .i64 (a17 - 1))).bind fun x21 =>
              (idx p1 a17).bind fun x23 =>
              if x23 ≤ x21 then
                some (Stp.exit (Ou.ret ([], 10)))
              else
                some (Stp.next (IntKind.wrap .i64 (a17 + 1)))
            else
              some (Stp.exit (Ou.go ()))) 1) (fun a25 =>
            if fits 8 (([] : List Int).length + (p1).length) then
              (m_ref11_ends p0 (([] : List Int) ++ p1) p2).bind fun x270503 =>
              some (x270503, 0)
            else none) some) some

/-- groove/grooveref11.Letters -/
noncomputable def m_ref11_Letters (p0 : TLabelsStatesEdges) (p1 : List UInt8) : Option ((List UInt8) × Int) :=
  (m_ref11_checkWord p0 p1).bind fun x1 =>
  if x1 ≠ 0 then
    some (([] : List UInt8), x1)
  else
    (m_ref11_All p0).bind fun x3 =>
    (m_ref11_ends p0 x3 p1).bind fun x5 =>
    (loopW (S := (List UInt8) × Int) (X := (List UInt8)) (fun a7 =>
        if a7.2 < p0.1 then
          jp (fun (a11 : (List UInt8)) =>
            some (Stp.next (a11, IntKind.wrap .i64 (a7.2 + 1))))
            fun k13 =>
            (m_ref11_Step p0 x5 a7.2).bind fun x14 =>
            if 0 < ((x14).length : Int) then
              if 0 ≤ (a7.2 : Int) ∧ (a7.2 : Int) ≤ IntKind.wrap .i64 (a7.2 + 1) ∧ IntKind.wrap .i64 (a7.2 + 1) ≤ (([48, 49, 50, 51, 52, 53, 54, 55, 56, 57, 97, 98, 99, 100, 101, 102] : List UInt8).length : Int) then
                if a7.1.length + ((([48, 49, 50, 51, 52, 53, 54, 55, 56, 57, 97, 98, 99, 100, 101, 102] : List UInt8).take (IntKind.wrap .i64 (a7.2 + 1)).toNat).drop (a7.2).toNat).length ≤ maxLen then
                  k13 (a7.1 ++ ((([48, 49, 50, 51, 52, 53, 54, 55, 56, 57, 97, 98, 99, 100, 101, 102] : List UInt8).take (IntKind.wrap .i64 (a7.2 + 1)).toNat).drop (a7.2).toNat))
                else none
              else none
            else
              k13 a7.1
        else
          some (Stp.exit a7.1)) (([] : List UInt8), 0)).bind fun a18 =>
    some (a18, 0)

/-- groove/grooveref11.Path -/
noncomputable def m_ref11_Path (p0 : TLabelsStatesEdges) (p1 : List UInt8) : Option ((List (Int)) × Int) :=
  (m_ref11_checkWord p0 p1).bind fun x1 =>
  if x1 ≠ 0 then
    some ([], x1)
  else
    (m_ref11_All p0).bind fun x3 =>
    (m_ref11_ends p0 x3 p1).bind fun x5 =>
    if ((x5).length : Int) = 0 then
      some ([], 13)
    else
      (loopW (S := (List Int) × Int × (List Int)) (X := (List Int)) (fun a8 =>
          if a8.2.1 < ((p1).length : Int) then
            (loopW (S := Int) (X := (List Int) × (List Int)) (fun a12 =>
                if a12 < ((p0.2.2).length : Int) then
                  (idx p0.2.2 a12).bind fun x16 =>
                  jp (fun (a19 : Bool) =>
                    if a19 = true then
                      if fits 8 ((a8.2.2 : List Int).length + ([a12]).length) then
                        some (Stp.exit ([x16.2.2], a8.2.2 ++ [a12]))
                      else none
                    else
                      some (Stp.next (IntKind.wrap .i64 (a12 + 1))))
                    fun k21 =>
                    (idx p1 a8.2.1).bind fun x24 =>
                    (m_ref07_Digit (x24.toNat : Int)).bind fun x26 =>
                    if x16.2.1 = x26 then
                      (m_ref11_has a8.1 x16.1).bind fun x28 =>
                      if x28 = true then
                        if 0 ≤ (IntKind.wrap .i64 (a8.2.1 + 1) : Int) ∧ (IntKind.wrap .i64 (a8.2.1 + 1) : Int) ≤ ((p1).length : Int) ∧ ((p1).length : Int) ≤ (p1.length : Int) then
                          (m_ref11_ends p0 [x16.2.2] ((p1.take (((p1).length : Int)).toNat).drop (IntKind.wrap .i64 (a8.2.1 + 1)).toNat)).bind fun x31 =>
                          k21 (decide (0 < ((x31).length : Int)))
                        else none
                      else
                        k21 false
                    else
                      k21 false
                else
                  some (Stp.exit (a8.1, a8.2.2))) 0).bind fun a35 =>
            some (Stp.next (a35.1, IntKind.wrap .i64 (a8.2.1 + 1), a35.2))
          else
            some (Stp.exit a8.2.2)) (x3, 0, [])).bind fun a37 =>
      some (a37, 0)

/-- groove/groovelaw11.LanguageReads -/
noncomputable def m_law11_LanguageReads (p0 : TLabelsStatesEdges) (p1 : List (Int)) (p2 : List UInt8) : Option (Bool) :=
  jp (fun (a1 : Bool) =>
    if a1 = true then
      (m_law11_awake).bind fun x4 =>
      some x4
    else
      (m_language_Accepts p0 p2).bind fun x6 =>
      (m_ref11_Accepts p0 p2).bind fun x8 =>
      (m_language_Ends p0 p1 p2).bind fun x10 =>
      (m_ref11_Ends p0 p1 p2).bind fun x12 =>
      (m_language_Letters p0 p2).bind fun x14 =>
      (m_ref11_Letters p0 p2).bind fun x16 =>
      (m_language_Path p0 p2).bind fun x18 =>
      (m_ref11_Path p0 p2).bind fun x20 =>
      jp (fun (a22 : Bool) =>
        some a22)
        fun k24 =>
        if (x6.1 == x8.1) = true then
          if x6.2 = x8.2 then
            (m_slices_Equal_Lint_int x10.1 x12.1).bind fun x25 =>
            if x25 = true then
              if x10.2 = x12.2 then
                if x14.1 = x16.1 then
                  if x14.2 = x16.2 then
                    (m_slices_Equal_Lint_int x18.1 x20.1).bind fun x27 =>
                    if x27 = true then
                      if x18.2 = x20.2 then
                        (m_law11_awake).bind fun x29 =>
                        k24 x29
                      else
                        k24 false
                    else
                      k24 false
                  else
                    k24 false
                else
                  k24 false
              else
                k24 false
            else
              k24 false
          else
            k24 false
        else
          k24 false)
    fun k3 =>
    (m_law11_great p0 [p2]).bind fun x39 =>
    if x39 = true then
      k3 true
    else
      k3 (decide (10 < ((p1).length : Int)))

end Go.AW

/- Reading words, in the program and in the reference. -/
namespace Go.AW
open Go
set_option linter.unusedSimpArgs false
set_option linter.unusedVariables false

section
variable {g : Gr}
/-- the first check of a set -/
def bad1 (g : Gr) (a : List Int) (i : Nat) : Bool := decide (a.getD i 0 < 0 ∨ g.2.1 ≤ a.getD i 0)
def bad2 (a : List Int) (i : Nat) : Bool := decide (0 < i ∧ a.getD i 0 ≤ a.getD (i - 1) 0)

end
end Go.AW

/- The law of paths. -/
namespace Go.AW
open Go
set_option linter.unusedSimpArgs false
set_option linter.unusedVariables false
section
variable {g : Gr}

theorem one_ok {s : Int} (h0 : 0 ≤ s) (h1 : s < g.2.1) : SetOk g [s] := ⟨List.pairwise_singleton .., fun x hx => by simp at hx; subst hx; exact ⟨h0, h1⟩⟩

end
end Go.AW

/- The letters that can follow, and the least path, in the reference; the law of reading. -/
namespace Go.AW
open Go
set_option linter.unusedSimpArgs false
set_option linter.unusedVariables false

section
variable {g : Gr}
def prevOk (x : Ed) : Option Int → Bool
  | none => true
  | some s => decide (x.1 = s)
def setOf (g : Gr) : Option Int → List Int
  | none => upto g.2.1
  | some s => [s]

end

end Go.AW

/- Models, printed by lk.py. -/
namespace Go.AW
open Go
set_option linter.unusedVariables false
/-- groove/language.From -/
noncomputable def m_language_From (p0 : TLabelsStatesEdges) (p1 : Int) (p2 : Int) : Option ((List (List UInt8)) × Int) :=
  (m_language_lengths p0 p2).bind fun x1 =>
  if x1 ≠ 0 then
    some ([], x1)
  else
    jp (fun (a3 : Bool) =>
      if a3 = true then
        some ([], 25)
      else
        (m_language_list p0 [p1] p2).bind fun x6 =>
        if x6.2 = true then
          some (sortS ((x6.1).map Prod.fst), 0)
        else
          some ([], 4))
      fun k5 =>
      if p1 < 0 then
        k5 true
      else
        k5 (decide (p0.2.1 ≤ p1))

/-- groove/grooveref11.From -/
noncomputable def m_ref11_From (p0 : TLabelsStatesEdges) (p1 : Int) (p2 : Int) : Option ((List (List UInt8)) × Int) :=
  (m_ref11_checkNumber p0 p2).bind fun x1 =>
  if x1 ≠ 0 then
    some ([], x1)
  else
    jp (fun (a3 : Bool) =>
      if a3 = true then
        some ([], 25)
      else
        (m_ref11_words p0 [p1] p2).bind fun x6 =>
        if x6.2 ≠ 0 then
          some ([], x6.2)
        else
          (m_ref11_texts x6.1).bind fun x8 =>
          some (x8, 0))
      fun k5 =>
      if p1 < 0 then
        k5 true
      else
        k5 (decide (p0.2.1 ≤ p1))

/-- slices.Index[[]int,int] -/
noncomputable def m_slices_Index_Lint_int (p0 : List (Int)) (p1 : Int) : Option (Int) :=
  lpO (loopW (S := Int) (X := Ou (Unit) (Int)) (fun a1 =>
      if a1 < ((p0).length : Int) then
        (idx p0 a1).bind fun x5 =>
        if p1 = x5 then
          some (Stp.exit (Ou.ret a1))
        else
          some (Stp.next (IntKind.wrap .i64 (a1 + 1)))
      else
        some (Stp.exit (Ou.go ()))) 0) (fun a7 =>
      some (-1)) some

/-- slices.Contains[[]int,int] -/
noncomputable def m_slices_Contains_Lint_int (p0 : List (Int)) (p1 : Int) : Option (Bool) :=
  (m_slices_Index_Lint_int p0 p1).bind fun x1 =>
  some (decide (0 ≤ x1))

/-- groove/language.Between$1 -/
noncomputable def m_language_Between_1 (p0 : List UInt8) (p1 : List (Int)) (c0 : Int) : Option (Bool) :=
  (m_slices_Contains_Lint_int p1 c0).bind fun x1 =>
  some (!x1)

/-- groove/language.Between -/
noncomputable def m_language_Between (p0 : TLabelsStatesEdges) (p1 : Int) (p2 : Int) (p3 : Int) : Option ((List (List UInt8)) × Int) :=
  (m_language_lengths p0 p3).bind fun x1 =>
  if x1 ≠ 0 then
    some ([], x1)
  else
    jp (fun (a3 : Bool) =>
      if a3 = true then
        some ([], 25)
      else
        (m_language_list p0 [p1] p3).bind fun x6 =>
        if x6.2 = true then
          (delF (fun b0 b1 => m_language_Between_1 b0 b1 p2) x6.1).bind fun x13 =>
          some (sortS ((x13).map Prod.fst), 0)
        else
          some ([], 4))
      fun k5 =>
      if p1 < 0 then
        k5 true
      else
        if p0.2.1 ≤ p1 then
          k5 true
        else
          if p2 < 0 then
            k5 true
          else
            k5 (decide (p0.2.1 ≤ p2))

/-- groove/grooveref11.Between -/
noncomputable def m_ref11_Between (p0 : TLabelsStatesEdges) (p1 : Int) (p2 : Int) (p3 : Int) : Option ((List (List UInt8)) × Int) :=
  (m_ref11_checkNumber p0 p3).bind fun x1 =>
  if x1 ≠ 0 then
    some ([], x1)
  else
    jp (fun (a3 : Bool) =>
      if a3 = true then
        some ([], 25)
      else
        (m_ref11_words p0 [p1] p3).bind fun x6 =>
        if x6.2 ≠ 0 then
          some ([], x6.2)
        else
          (loopW (S := Int × (List (List UInt8))) (X := (List (List UInt8))) (fun a9 =>
              if a9.1 < ((x6.1).length : Int) then
                jp (fun (a13 : (List (List UInt8))) =>
                  some (Stp.next (IntKind.wrap .i64 (a9.1 + 1), a13)))
                  fun k15 =>
                  (idx x6.1 a9.1).bind fun x16 =>
                  (m_ref11_has x16.2 p2).bind fun x18 =>
                  if x18 = true then
                    (idx x6.1 a9.1).bind fun x20 =>
                    if fits 16 ((a9.2 : List (List UInt8)).length + ([x20.1]).length) then
                      k15 (a9.2 ++ [x20.1])
                    else none
                  else
                    k15 a9.2
              else
                some (Stp.exit a9.2)) (0, [])).bind fun a24 =>
          some (a24, 0))
      fun k5 =>
      if p1 < 0 then
        k5 true
      else
        if p0.2.1 ≤ p1 then
          k5 true
        else
          if p2 < 0 then
            k5 true
          else
            k5 (decide (p0.2.1 ≤ p2))

/-- groove/grooveref11.Missing -/
noncomputable def m_ref11_Missing (p0 : TLabelsStatesEdges) (p1 : Int) : Option ((List UInt8) × Bool × Int) :=
  (m_ref11_checkNumber p0 p1).bind fun x1 =>
  if x1 ≠ 0 then
    some (([] : List UInt8), false, x1)
  else
    if p0.2.1 = 0 then
      some (([] : List UInt8), true, 0)
    else
      (m_ref11_All p0).bind fun x3 =>
      lpO (loopW (S := (List TWordEnds) × Int) (X := Ou (Unit) ((List UInt8) × Bool × Int)) (fun a5 =>
          if a5.2 < p1 then
            lpO (loopW (S := Int) (X := Ou (Unit) ((List UInt8) × Bool × Int)) (fun a9 =>
                if a9 < ((a5.1).length : Int) then
                  lpO (loopW (S := Int) (X := Ou (Unit) ((List UInt8) × Bool × Int)) (fun a13 =>
                      if a13 < p0.1 then
                        (idx a5.1 a9).bind fun x17 =>
                        (m_ref11_Step p0 x17.2 a13).bind fun x19 =>
                        if ((x19).length : Int) = 0 then
                          (idx a5.1 a9).bind fun x21 =>
                          if 0 ≤ (a13 : Int) ∧ (a13 : Int) ≤ IntKind.wrap .i64 (a13 + 1) ∧ IntKind.wrap .i64 (a13 + 1) ≤ (([48, 49, 50, 51, 52, 53, 54, 55, 56, 57, 97, 98, 99, 100, 101, 102] : List UInt8).length : Int) then
                            if x21.1.length + ((([48, 49, 50, 51, 52, 53, 54, 55, 56, 57, 97, 98, 99, 100, 101, 102] : List UInt8).take (IntKind.wrap .i64 (a13 + 1)).toNat).drop (a13).toNat).length ≤ maxLen then
                              some (Stp.exit (Ou.ret (x21.1 ++ ((([48, 49, 50, 51, 52, 53, 54, 55, 56, 57, 97, 98, 99, 100, 101, 102] : List UInt8).take (IntKind.wrap .i64 (a13 + 1)).toNat).drop (a13).toNat), true, 0)))
                            else none
                          else none
                        else
                          some (Stp.next (IntKind.wrap .i64 (a13 + 1)))
                      else
                        some (Stp.exit (Ou.go ()))) 0) (fun a25 =>
                      some (Stp.next (IntKind.wrap .i64 (a9 + 1)))) (fun r => some (Stp.exit (Ou.ret r)))
                else
                  some (Stp.exit (Ou.go ()))) 0) (fun a27 =>
                (m_ref11_grow p0 a5.1).bind fun x29 =>
                if 4096 < ((x29).length : Int) then
                  some (Stp.exit (Ou.ret (([] : List UInt8), false, 4)))
                else
                  some (Stp.next (x29, IntKind.wrap .i64 (a5.2 + 1)))) (fun r => some (Stp.exit (Ou.ret r)))
          else
            some (Stp.exit (Ou.go ()))) ([(([] : List UInt8), x3)], 0)) (fun a31 =>
          some (([] : List UInt8), false, 0)) some

/-- groove/groovelaw11.LanguageLists -/
noncomputable def m_law11_LanguageLists (p0 : TLabelsStatesEdges) (p1 : Int) (p2 : Int) (p3 : Int) : Option (Bool) :=
  jp (fun (a1 : Bool) =>
    if a1 = true then
      (m_law11_awake).bind fun x4 =>
      some x4
    else
      (m_language_Words p0 p3).bind fun x6 =>
      (m_ref11_Words p0 p3).bind fun x8 =>
      (m_language_From p0 p1 p3).bind fun x10 =>
      (m_ref11_From p0 p1 p3).bind fun x12 =>
      (m_language_Between p0 p1 p2 p3).bind fun x14 =>
      (m_ref11_Between p0 p1 p2 p3).bind fun x16 =>
      (m_language_Missing p0 p3).bind fun x18 =>
      (m_ref11_Missing p0 p3).bind fun x20 =>
      jp (fun (a22 : Bool) =>
        some a22)
        fun k24 =>
        (m_slices_Equal_Lstring_string x6.1 x8.1).bind fun x25 =>
        if x25 = true then
          if x6.2 = x8.2 then
            (m_slices_Equal_Lstring_string x10.1 x12.1).bind fun x27 =>
            if x27 = true then
              if x10.2 = x12.2 then
                (m_slices_Equal_Lstring_string x14.1 x16.1).bind fun x29 =>
                if x29 = true then
                  if x14.2 = x16.2 then
                    if x18.1 = x20.1 then
                      if (x18.2.1 == x20.2.1) = true then
                        if x18.2.2 = x20.2.2 then
                          (m_law11_awake).bind fun x31 =>
                          k24 x31
                        else
                          k24 false
                      else
                        k24 false
                    else
                      k24 false
                  else
                    k24 false
                else
                  k24 false
              else
                k24 false
            else
              k24 false
          else
            k24 false
        else
          k24 false)
    fun k3 =>
    (m_law11_great p0 []).bind fun x42 =>
    if x42 = true then
      k3 true
    else
      (m_ref11_Many p0 p3 1000).bind fun x44 =>
      k3 x44

end Go.AW

/- Lists of words from a state, between states, and the first missing word: the program and the reference agree. -/
namespace Go.AW
open Go
set_option linter.unusedSimpArgs false
set_option linter.unusedVariables false

section
variable {g : Gr}
theorem LV_small {set : List Int} {n : Nat} (hok : OKL g set n = true) : (LV g set n).length ≤ 4096 := by
  by_cases h0 : n = 0
  · subst h0; have := LV_zero g set; omega
  · exact OKL_iff.1 hok n (by omega) (Nat.le_refl _)

theorem From_both (g : Gr) (s n : Int) : ∃ r, m_language_From g s n = some r ∧ m_ref11_From g s n = some r ∧ r.1.length ≤ 4096 ∧
    (VG g → g.1 ≤ 16 → 0 ≤ n → n ≤ 4096 → 0 ≤ s → s < g.2.1 → OKL g [s] n.toNat = true → r = ((LV g [s] n.toNat).map Prod.fst, 0)) := by
  obtain ⟨e, he, hz⟩ := checkNumber_tot g n
  unfold m_language_From m_ref11_From
  rw [lengths_ref, he]
  simp only [Option.bind_some, jp]
  by_cases h0 : e = 0
  case neg =>
    rw [if_pos h0, if_pos h0]
    exact ⟨_, rfl, rfl, by simp, fun h1 h2 h3 h4 _ _ _ => absurd (hz.2 ⟨h1, h2, h3, h4⟩) h0⟩
  obtain ⟨hv, h16, hn0, hn1⟩ := hz.1 h0
  rw [if_neg (by omega : ¬ e ≠ 0), if_neg (by omega : ¬ e ≠ 0)]
  by_cases h1 : s < 0
  · rw [if_pos h1, if_pos h1]
    exact ⟨_, rfl, rfl, by simp, fun _ _ _ _ h _ _ => by omega⟩
  rw [if_neg h1, if_neg h1]
  by_cases h2 : g.2.1 ≤ s
  · rw [if_pos (decide_eq_true h2), if_pos (decide_eq_true h2)]
    exact ⟨_, rfl, rfl, by simp, fun _ _ _ _ _ h _ => by omega⟩
  rw [if_neg (by simpa using h2), if_neg (by simpa using h2)]
  have hs := one_ok (g := g) (s := s) (by omega) (by omega)
  obtain ⟨m, hm⟩ := Int.eq_ofNat_of_zero_le hn0
  subst hm
  rw [list_eq hv h16 hs, refwords_eq hv h16 hs (by omega : m ≤ 4096)]
  by_cases hok : OKL g [s] m = true
  · have hl := LV_small hok
    simp only [if_pos hok, Option.bind_some, ne_eq, not_true_eq_false, if_false, if_true]
    rw [texts_eq (by omega), sortS_id (LV_asc g _ m)]
    exact ⟨_, rfl, rfl, by simpa using hl, fun _ _ _ _ _ _ _ => by simp⟩
  · simp only [if_neg hok, Option.bind_some, if_neg (show ¬ false = true by simp)]
    exact ⟨([], 4), rfl, (by simp), by simp, fun _ _ _ _ _ _ h => absurd (by simpa using h) hok⟩

theorem IndexI_eq {l : List Int} {x : Int} (hm : l.length ≤ 9223372036854775807) : ∃ r, m_slices_Index_Lint_int l x = some r ∧ (0 ≤ r ↔ x ∈ l) := by
  unfold m_slices_Index_Lint_int
  have hx : ∃ y, loopW (S := Int) (X := Ou (Unit) (Int)) (fun a1 =>
      if a1 < ((l).length : Int) then
        (idx l a1).bind fun x5 =>
        if x = x5 then
          some (Stp.exit (Ou.ret a1))
        else
          some (Stp.next (IntKind.wrap .i64 (a1 + 1)))
      else
        some (Stp.exit (Ou.go ()))) 0 = some y ∧ ((y = .go () ∧ x ∉ l) ∨ ∃ r, y = .ret r ∧ 0 ≤ r ∧ x ∈ l) := by
    refine loopN l.length (fun i s => s = (i : Int) ∧ ∀ j (_ : j < i) (h : j < l.length), l[j] ≠ x) ?_ ?_ 0 _ (Nat.zero_le _) ⟨rfl, fun j hj => by omega⟩
    · rintro i s hi ⟨rfl, hne⟩
      rw [if_pos (lt_int hi), ix hi]
      simp only [Option.bind_some]
      by_cases e : x = l[i]
      · rw [if_pos e]
        exact .inr ⟨_, rfl, .inr ⟨_, rfl, by omega, by rw [e]; exact List.getElem_mem hi⟩⟩
      · rw [if_neg e]
        refine .inl ⟨_, rfl, nx hm hi, fun j hj h => ?_⟩
        by_cases hji : j = i
        · subst hji; exact fun e' => e e'.symm
        · exact hne j (by omega) h
    · rintro s ⟨rfl, hne⟩
      rw [if_neg (not_lt_int _)]
      refine ⟨_, rfl, .inl ⟨rfl, fun hx => ?_⟩⟩
      obtain ⟨j, hj, e⟩ := List.getElem_of_mem hx
      exact hne j hj hj e
  obtain ⟨y, hy, ⟨rfl, hn⟩ | ⟨r, rfl, h0, hm⟩⟩ := hx
  · rw [hy]
    exact ⟨-1, rfl, by simp [hn]⟩
  · rw [hy]
    exact ⟨r, rfl, by simp [h0, hm]⟩
theorem ContainsI_eq {l : List Int} {x : Int} (hm : l.length ≤ 9223372036854775807) : m_slices_Contains_Lint_int l x = some (decide (x ∈ l)) := by
  obtain ⟨r, hr, h⟩ := IndexI_eq (x := x) hm
  unfold m_slices_Contains_Lint_int
  rw [hr]
  simp only [Option.bind_some, h]

/-- what is left between two states -/
theorem delB_eq {l : List WS} {t : Int} (hl : ∀ x ∈ l, x.2.length ≤ 64) : delF (fun b0 b1 => m_language_Between_1 b0 b1 t) l = some (l.filter fun x => decide (t ∈ x.2)) := by
  have hp : ∀ x ∈ l, m_language_Between_1 x.1 x.2 t = some (!decide (t ∈ x.2)) := fun x hx => by
    have := hl x hx
    unfold m_language_Between_1
    rw [ContainsI_eq (by omega)]
    rfl
  unfold delF
  rw [if_pos (List.all_eq_true.2 fun x hx => by show (m_language_Between_1 x.1 x.2 t).isSome = true; rw [hp x hx]; rfl)]
  congr 1
  refine List.filter_congr fun x hx => ?_
  show (m_language_Between_1 x.1 x.2 t == some false) = _
  rw [hp x hx]
  cases decide (t ∈ x.2) <;> rfl

theorem Between_both (g : Gr) (s t n : Int) : ∃ r, m_language_Between g s t n = some r ∧ m_ref11_Between g s t n = some r ∧ r.1.length ≤ 4096 ∧
    (VG g → g.1 ≤ 16 → 0 ≤ n → n ≤ 4096 → 0 ≤ s → s < g.2.1 → 0 ≤ t → t < g.2.1 → OKL g [s] n.toNat = true → r = (((LV g [s] n.toNat).filter fun x => decide (t ∈ x.2)).map Prod.fst, 0)) := by
  obtain ⟨e, he, hz⟩ := checkNumber_tot g n
  unfold m_language_Between m_ref11_Between
  rw [lengths_ref, he]
  simp only [Option.bind_some, jp]
  by_cases h0 : e = 0
  case neg =>
    rw [if_pos h0, if_pos h0]
    exact ⟨_, rfl, rfl, by simp, fun h1 h2 h3 h4 _ _ _ _ _ => absurd (hz.2 ⟨h1, h2, h3, h4⟩) h0⟩
  obtain ⟨hv, h16, hn0, hn1⟩ := hz.1 h0
  rw [if_neg (by omega : ¬ e ≠ 0), if_neg (by omega : ¬ e ≠ 0)]
  by_cases h1 : s < 0
  · rw [if_pos h1, if_pos h1]
    exact ⟨_, rfl, rfl, by simp, fun _ _ _ _ h _ _ _ _ => by omega⟩
  rw [if_neg h1, if_neg h1]
  by_cases h2 : g.2.1 ≤ s
  · rw [if_pos h2, if_pos h2]
    exact ⟨_, rfl, rfl, by simp, fun _ _ _ _ _ h _ _ _ => by omega⟩
  rw [if_neg h2, if_neg h2]
  by_cases h3 : t < 0
  · rw [if_pos h3, if_pos h3]
    exact ⟨_, rfl, rfl, by simp, fun _ _ _ _ _ _ h _ _ => by omega⟩
  rw [if_neg h3, if_neg h3]
  by_cases h4 : g.2.1 ≤ t
  · rw [if_pos (decide_eq_true h4), if_pos (decide_eq_true h4)]
    exact ⟨_, rfl, rfl, by simp, fun _ _ _ _ _ _ _ h _ => by omega⟩
  rw [if_neg (by simpa using h4), if_neg (by simpa using h4)]
  have hs := one_ok (g := g) (s := s) (by omega) (by omega)
  obtain ⟨m, hm⟩ := Int.eq_ofNat_of_zero_le hn0
  subst hm
  rw [list_eq hv h16 hs, refwords_eq hv h16 hs (by omega : m ≤ 4096)]
  by_cases hok : OKL g [s] m = true
  · have hl := LV_small hok
    have hset : ∀ x ∈ LV g [s] m, x.2.length ≤ 64 := fun x hx => setOk_len hv (LV_set hv hs hx)
    simp only [if_pos hok, Option.bind_some, ne_eq, not_true_eq_false, if_false, if_true]
    rw [delB_eq hset]
    simp only [Option.bind_some]
    have hasc : ((LV g [s] m).filter fun x => decide (t ∈ x.2)).map Prod.fst |>.Pairwise (· < ·) := (LV_asc g [s] m).sublist ((List.filter_sublist ..).map _)
    rw [sortS_id hasc]
    have hfl : ((LV g [s] m).filter fun x => decide (t ∈ x.2)).length ≤ 4096 := Nat.le_trans (List.length_filter_le _ _) hl
    refine ⟨_, rfl, ?_, by simpa using hfl, fun _ _ _ _ _ _ _ _ _ => by simp⟩
    refine bindL (loop_is (fun i => ((i : Int), (((LV g [s] m).take i).filter fun x => decide (t ∈ x.2)).map Prod.fst)) (LV g [s] m).length (((LV g [s] m).filter fun x => decide (t ∈ x.2)).map Prod.fst) (fun i hi => ?_) ?_ (by simp)) rfl
    · dsimp only
      have hsx := hset _ (List.getElem_mem hi)
      rw [if_pos (lt_int hi), ix hi]
      simp only [Option.bind_some, has_eq (show (LV g [s] m)[i].2.length ≤ 9223372036854775807 by omega), nx (by omega : (LV g [s] m).length ≤ _) hi]
      have htk : ((LV g [s] m).take (i + 1)).filter (fun x => decide (t ∈ x.2)) = ((LV g [s] m).take i).filter (fun x => decide (t ∈ x.2)) ++ if t ∈ (LV g [s] m)[i].2 then [(LV g [s] m)[i]] else [] := by
        rw [List.take_add_one, List.getElem?_eq_getElem hi, List.filter_append]
        congr 1
        by_cases ht : t ∈ (LV g [s] m)[i].2
        · rw [if_pos ht]; simp [ht]
        · rw [if_neg ht]; simp [ht]
      have hfi : (((LV g [s] m).take i).filter fun x => decide (t ∈ x.2)).length ≤ 4096 := by
        refine Nat.le_trans (List.length_filter_le _ _) ?_
        rw [List.length_take]; omega
      by_cases ht : t ∈ (LV g [s] m)[i].2
      · rw [if_pos (decide_eq_true ht), if_pos (fits_le (by simp only [List.length_map, List.length_cons, List.length_nil]; omega) (by simp only [List.length_map, List.length_cons, List.length_nil]; omega)), htk, if_pos ht, List.map_append]
        rfl
      · rw [if_neg (by simpa using ht), htk, if_neg ht, List.append_nil]
    · dsimp only
      rw [if_neg (not_lt_int _), List.take_length]
  · simp only [if_neg hok, Option.bind_some, if_neg (show ¬ false = true by simp)]
    exact ⟨([], 4), rfl, (by simp), by simp, fun _ _ _ _ _ _ _ _ h => absurd (by simpa using h) hok⟩

end

end Go.AW

/- Models, printed by lk.py. -/
namespace Go.AW
open Go
set_option linter.unusedVariables false
/-- groove/groovelaw11.LanguageParts -/
noncomputable def m_law11_LanguageParts (p0 : TLabelsStatesEdges) (p1 : Int) : Option (Bool) :=
  jp (fun (a1 : Bool) =>
    if a1 = true then
      (m_law11_awake).bind fun x4 =>
      some x4
    else
      (m_language_Words p0 (Int.tmod (IntKind.wrap .i64 p1) 8)).bind fun x6 =>
      (m_law11_every p0).bind fun x8 =>
      lpO (loopW (S := Int × (List (List UInt8))) (X := Ou ((List (List UInt8))) (Bool)) (fun a10 =>
          if a10.1 < ((x8).length : Int) then
            (idx x8 a10.1).bind fun x14 =>
            (m_language_From p0 x14 (Int.tmod (IntKind.wrap .i64 p1) 8)).bind fun x16 =>
            (m_law11_every p0).bind fun x18 =>
            lpO (loopW (S := Int × (List (List UInt8))) (X := Ou ((List (List UInt8))) (Bool)) (fun a20 =>
                if a20.1 < ((x18).length : Int) then
                  (idx x18 a20.1).bind fun x24 =>
                  (m_language_Between p0 x14 x24 (Int.tmod (IntKind.wrap .i64 p1) 8)).bind fun x26 =>
                  if x26.2 ≠ 0 then
                    some (Stp.exit (Ou.ret false))
                  else
                    if fits 16 ((a20.2 : List (List UInt8)).length + (x26.1).length) then
                      some (Stp.next (IntKind.wrap .i64 (a20.1 + 1), a20.2 ++ x26.1))
                    else none
                else
                  some (Stp.exit (Ou.go a20.2))) (0, ([] : List (List UInt8)))) (fun a31 =>
                if (a31).length < 4611686018427387904 then
                  jp (fun (a34 : Bool) =>
                    if a34 = true then
                      some (Stp.exit (Ou.ret false))
                    else
                      if fits 16 ((a10.2 : List (List UInt8)).length + (x16.1).length) then
                        some (Stp.next (IntKind.wrap .i64 (a10.1 + 1), a10.2 ++ x16.1))
                      else none)
                    fun k36 =>
                    if x16.2 ≠ 0 then
                      k36 true
                    else
                      (m_slices_Equal_Lstring_string x16.1 (compactS_ (sortS a31))).bind fun x39 =>
                      k36 (!x39)
                else none) (fun r => some (Stp.exit (Ou.ret r)))
          else
            some (Stp.exit (Ou.go a10.2))) (0, ([] : List (List UInt8)))) (fun a43 =>
          if (a43).length < 4611686018427387904 then
            jp (fun (a46 : Bool) =>
              some a46)
              fun k48 =>
              if x6.2 = 0 then
                (m_slices_Equal_Lstring_string x6.1 (compactS_ (sortS a43))).bind fun x49 =>
                if x49 = true then
                  (m_law11_awake).bind fun x51 =>
                  k48 x51
                else
                  k48 false
              else
                k48 false
          else none) some)
    fun k3 =>
    (m_law11_fine p0).bind fun x55 =>
    if (!x55) = true then
      k3 true
    else
      (m_ref11_Many p0 (Int.tmod (IntKind.wrap .i64 p1) 8) 300).bind fun x57 =>
      k3 x57

end Go.AW
