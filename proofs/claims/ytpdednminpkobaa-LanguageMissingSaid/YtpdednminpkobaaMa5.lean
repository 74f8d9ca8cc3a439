import Derived.Test.YtpdednminpkobaaMa4
import Derived.Shelf.Strings.Repeat
import Derived.Test.YtpdednminpkobaaChecked
/- The first missing word. -/
namespace Go.AW
open Go
set_option linter.unusedSimpArgs false
set_option linter.unusedVariables false

theorem enc_letters : ∀ c ∈ letters, (Utf8.encode (c.toNat : Int)).data.toList = [c] := by decide +kernel
theorem enc_letter {c : UInt8} (h : c ∈ letters) : (Utf8.encode (c.toNat : Int)).data.toList = [c] := enc_letters c h

section
variable {β : Type}
theorem mlook_put (k q : List UInt8) (v : β) : ∀ l : List (List UInt8 × β), mlook q (mputN k v l) = if q = k then some v else mlook q l
  | [] => by simp only [mputN, mlook]
  | (p, x) :: l => by
    simp only [mputN]
    by_cases h : k = p
    · rw [if_pos h]
      simp only [mlook]
      by_cases e : q = p
      · rw [if_pos e, if_pos (e.trans h.symm)]
      · rw [if_neg e, if_neg (fun e' => e (e'.trans h)), if_neg e]
    · rw [if_neg h]
      simp only [mlook]
      by_cases e : q = p
      · rw [if_pos e, if_neg (fun e' => h (e'.symm.trans e)), if_pos e]
      · rw [if_neg e, mlook_put k q v l, if_neg e]
end

section
variable {g : Gr}
def missL (g : Gr) (j : Nat) : Option (List UInt8) := (allW (lets g) j).find? fun w => !accB g w
/-- the first missing word behind the words of j letters, of at most n letters more -/
def missR (g : Gr) : Nat → Nat → List UInt8 × Bool × Int
  | _, 0 => ([], false, 0)
  | j, n + 1 => match missL g (j + 1) with
    | some w => (w, true, 0)
    | none => if 4096 < (allW (lets g) (j + 1)).length then ([], false, 4) else missR g (j + 1) n

theorem lengths_zero (hv : VG g) (h16 : g.1 ≤ 16) {n : Nat} (hn : n ≤ 4096) : m_language_lengths g (n : Int) = some 0 := by
  obtain ⟨e, he, hz⟩ := checkNumber_tot g n
  have := hz.2 ⟨hv, h16, by omega, by omega⟩
  subst this
  rw [lengths_ref, he]

/-- the words of the next length, as far as they have been seen -/
def nextW (g : Gr) (i a b : Nat) : List (List UInt8) := (((allW (lets g) i).take a).flatMap fun w => (lets g).map fun c => w ++ [c]) ++ ((lets g).take b).map fun c => ((allW (lets g) i).getD a []) ++ [c]
theorem nextW_pre {i a b : Nat} (ha : a < (allW (lets g) i).length) (hb : b < (lets g).length) : ∃ rest, allW (lets g) (i + 1) = nextW g i a b ++ (((allW (lets g) i).getD a [] ++ [(lets g)[b]]) :: rest) := by
  have e : (allW (lets g) i) = (allW (lets g) i).take a ++ (allW (lets g) i)[a] :: (allW (lets g) i).drop (a + 1) := by rw [← List.drop_eq_getElem_cons ha, List.take_append_drop]
  have e2 : ∀ f : UInt8 → List UInt8, (lets g).map f = ((lets g).take b).map f ++ f (lets g)[b] :: ((lets g).drop (b + 1)).map f := fun f => by
    rw [← List.map_cons, ← List.map_append, ← List.drop_eq_getElem_cons hb, List.take_append_drop]
  have eg : (allW (lets g) i).getD a [] = (allW (lets g) i)[a] := by simp [List.getD, ha]
  refine ⟨(((lets g).drop (b + 1)).map fun c => (allW (lets g) i)[a] ++ [c]) ++ ((allW (lets g) i).drop (a + 1)).flatMap fun w => (lets g).map fun c => w ++ [c], ?_⟩
  have e3 : allW (lets g) (i + 1) = (((allW (lets g) i).take a).flatMap fun w => (lets g).map fun c => w ++ [c]) ++ (((lets g).map fun c => (allW (lets g) i)[a] ++ [c]) ++ ((allW (lets g) i).drop (a + 1)).flatMap fun w => (lets g).map fun c => w ++ [c]) := by
    show (allW (lets g) i).flatMap (fun w => (lets g).map fun c => w ++ [c]) = _
    conv => lhs; rw [e]
    rw [List.flatMap_append, List.flatMap_cons]
  rw [e3, e2 fun c => (allW (lets g) i)[a] ++ [c]]
  simp only [nextW, eg, List.append_assoc, List.cons_append]
theorem nextW_b {i a b : Nat} (hb : b < (lets g).length) : nextW g i a (b + 1) = nextW g i a b ++ [(allW (lets g) i).getD a [] ++ [(lets g)[b]]] := by
  simp only [nextW]
  rw [List.take_add_one, List.getElem?_eq_getElem hb, List.map_append, List.append_assoc]
  rfl
theorem nextW_a {i a : Nat} (ha : a < (allW (lets g) i).length) : nextW g i a (lets g).length = nextW g i (a + 1) 0 := by
  have eg : (allW (lets g) i).getD a [] = (allW (lets g) i)[a] := by simp [List.getD, ha]
  simp only [nextW, eg, List.take_length, List.take_zero, List.map_nil, List.append_nil]
  have e : (allW (lets g) i).take (a + 1) = (allW (lets g) i).take a ++ [(allW (lets g) i)[a]] := by rw [List.take_add_one, List.getElem?_eq_getElem ha]; rfl
  rw [e, List.flatMap_append, List.flatMap_cons, List.flatMap_nil, List.append_nil]
theorem nextW_all {i : Nat} : nextW g i (allW (lets g) i).length 0 = allW (lets g) (i + 1) := by
  simp [nextW, allW]
theorem nextW_zero {i : Nat} : nextW g i 0 0 = [] := by simp [nextW]
theorem nextW_len {i a b : Nat} (hl : (lets g).length ≤ 16) (ha : a ≤ (allW (lets g) i).length) : (nextW g i a b).length ≤ (allW (lets g) i).length * 16 + 16 := by
  have h : ∀ l : List (List UInt8), (l.flatMap fun w => (lets g).map fun c => w ++ [c]).length ≤ l.length * 16 := by
    intro l
    induction l with
    | nil => simp
    | cons x l ih => rw [List.flatMap_cons, List.length_append, List.length_map, List.length_cons, Nat.succ_mul]; omega
  have h1 := h ((allW (lets g) i).take a)
  have h2 : ((allW (lets g) i).take a).length ≤ (allW (lets g) i).length := by rw [List.length_take]; omega
  have h3 : ((lets g).take b).length ≤ 16 := by rw [List.length_take]; omega
  simp only [nextW, List.length_append, List.length_map]
  have := Nat.mul_le_mul_right 16 h2
  omega

def MapOk (g : Gr) (M : List (List UInt8 × List Int)) (l : List (List UInt8)) : Prop := ∀ w ∈ l, mlook w M = some (endsL g (upto g.2.1) w)

/-- one word: its letters -/
theorem miss_inner (hv : VG g) (h16 : g.1 ≤ 16) {i a : Nat} (hi : i ≤ 4096) (ha : a < (allW (lets g) i).length) (hl : (allW (lets g) i).length ≤ 4096) {M0 : List (List UInt8 × List Int)} (hM : MapOk g M0 (allW (lets g) i)) (hM2 : MapOk g M0 (nextW g i a 0)) (hacc : ∀ w ∈ nextW g i a 0, accB g w = true) :
    ∃ x, loopW (S := Int × (List (List UInt8 × (List (Int)))) × (List (List UInt8))) (X := Ou ((List (List UInt8 × (List (Int)))) × (List (List UInt8))) ((List UInt8) × Bool × Int)) (fun a16 =>
                      if a16.1 < g.1 then
                        (idx ([48, 49, 50, 51, 52, 53, 54, 55, 56, 57, 97, 98, 99, 100, 101, 102] : List UInt8) a16.1).bind fun x20 =>
                        (mlook (allW (lets g) i)[a] a16.2.1).bind fun x22 =>
                        (m_language_step g x22 (x20.toNat : Int)).bind fun x24 =>
                        if ((x24).length : Int) = 0 then
                          if (allW (lets g) i)[a].length + ((Utf8.encode (x20.toNat : Int)).data.toList).length ≤ maxLen then
                            some (Stp.exit (Ou.ret ((allW (lets g) i)[a] ++ ((Utf8.encode (x20.toNat : Int)).data.toList), true, 0)))
                          else none
                        else
                          if (allW (lets g) i)[a].length + ((Utf8.encode (x20.toNat : Int)).data.toList).length ≤ maxLen then
                            if fits 16 ((a16.2.2 : List (List UInt8)).length + ([(allW (lets g) i)[a] ++ ((Utf8.encode (x20.toNat : Int)).data.toList)]).length) then
                              some (Stp.next (IntKind.wrap .i64 (a16.1 + 1), mputN ((allW (lets g) i)[a] ++ ((Utf8.encode (x20.toNat : Int)).data.toList)) x24 a16.2.1, a16.2.2 ++ [(allW (lets g) i)[a] ++ ((Utf8.encode (x20.toNat : Int)).data.toList)]))
                            else none
                          else none
                      else
                        some (Stp.exit (Ou.go (a16.2.1, a16.2.2)))) (0, M0, nextW g i a 0) = some x ∧
      ((∃ w, x = .ret (w, true, 0) ∧ missL g (i + 1) = some w) ∨ ∃ M, x = .go (M, nextW g i (a + 1) 0) ∧ MapOk g M (allW (lets g) i) ∧ MapOk g M (nextW g i (a + 1) 0) ∧ ∀ w ∈ nextW g i (a + 1) 0, accB g w = true) := by
  have hl1 := hv.l1
  obtain ⟨L, hL⟩ := Int.eq_ofNat_of_zero_le (show 0 ≤ g.1 by omega)
  have hll : (lets g).length = L := by rw [lets_len hv h16]; omega
  have hL16 : L ≤ letters.length := by rw [letters_len]; omega
  have hwm := mem_allW.1 (List.getElem_mem ha)
  have eg : (allW (lets g) i).getD a [] = (allW (lets g) i)[a] := by simp [List.getD, ha]
  have hwo : WOk g (allW (lets g) i)[a] := ⟨by omega, hwm.2⟩
  refine loopN L (fun b s => ∃ M, s = ((b : Int), M, nextW g i a b) ∧ MapOk g M (allW (lets g) i) ∧ MapOk g M (nextW g i a b) ∧ ∀ w ∈ nextW g i a b, accB g w = true) ?_ ?_ 0 _ (Nat.zero_le _) ⟨M0, rfl, hM, hM2, hacc⟩
  · rintro b s hb ⟨M, rfl, hMa, hMb, hac⟩
    dsimp only
    have hbl : b < letters.length := by omega
    have hbg : b < (lets g).length := by omega
    have hgb : (lets g)[b] = letters[b] := by simp [lets]
    have hmem : letters[b] ∈ lets g := hgb ▸ List.getElem_mem hbg
    rw [if_pos (by omega)]
    have hx : idx ([48, 49, 50, 51, 52, 53, 54, 55, 56, 57, 97, 98, 99, 100, 101, 102] : List UInt8) (b : Int) = some letters[b] := ix (l := letters) hbl
    rw [hx, hMa _ (List.getElem_mem ha)]
    simp only [Option.bind_some]
    rw [step_lab hv (endsL_ok (upto_ok g) _) hmem]
    have henc : (Utf8.encode ((letters[b]).toNat : Int)).data.toList = [letters[b]] := enc_letter (List.getElem_mem hbl)
    simp only [Option.bind_some, henc]
    have hend : stepL g (endsL g (upto g.2.1) (allW (lets g) i)[a]) (lab letters[b]) = endsL g (upto g.2.1) ((allW (lets g) i)[a] ++ [letters[b]]) := by rw [endsL_app]; rfl
    rw [hend]
    have hml : (allW (lets g) i)[a].length + [letters[b]].length ≤ maxLen := by simp only [hwm.1, List.length_cons, List.length_nil, maxLen]; omega
    by_cases h0 : endsL g (upto g.2.1) ((allW (lets g) i)[a] ++ [letters[b]]) = []
    · rw [if_pos (by rw [h0]; rfl), if_pos hml]
      refine .inr ⟨_, rfl, .inl ⟨_, rfl, ?_⟩⟩
      obtain ⟨rest, hr⟩ := nextW_pre (g := g) (i := i) ha hbg
      unfold missL
      rw [hr, List.find?_append, List.find?_eq_none.2 (fun w hw => by simp [hac w hw]), eg, hgb, List.find?_cons_of_pos]
      · rfl
      · simp [accB, h0]
    · have hpos := List.length_pos_iff.2 h0
      rw [if_neg (by omega), if_pos hml]
      have hnl := nextW_len (g := g) (i := i) (a := a) (b := b) (by rw [hll]; exact hL16) (by omega)
      rw [if_pos (fits_le (by simp only [List.length_cons, List.length_nil]; omega) (by simp only [List.length_cons, List.length_nil]; omega))]
      refine .inl ⟨_, rfl, mputN ((allW (lets g) i)[a] ++ [letters[b]]) (endsL g (upto g.2.1) ((allW (lets g) i)[a] ++ [letters[b]])) M, ?_, ?_, ?_, ?_⟩
      · rw [nx (by omega : L ≤ _) hb, nextW_b hbg, eg, hgb]
      · intro w hw
        rw [mlook_put, if_neg (fun e => ?_)]
        · exact hMa w hw
        · have h1 := (mem_allW.1 hw).1
          rw [e, List.length_append, hwm.1] at h1
          simp at h1
      · intro w hw
        rw [mlook_put]
        by_cases e : w = (allW (lets g) i)[a] ++ [letters[b]]
        · rw [if_pos e, e]
        · rw [if_neg e]
          rw [nextW_b hbg, eg, hgb] at hw
          rcases List.mem_append.1 hw with hw | hw
          · exact hMb w hw
          · exact absurd (List.mem_singleton.1 hw) e
      · intro w hw
        rw [nextW_b hbg, eg, hgb] at hw
        rcases List.mem_append.1 hw with hw | hw
        · exact hac w hw
        · rw [List.mem_singleton.1 hw]
          simp [accB, h0]
  · rintro s ⟨M, rfl, hMa, hMb, hac⟩
    dsimp only
    rw [if_neg (by omega)]
    have e : nextW g i a L = nextW g i (a + 1) 0 := by rw [← hll]; exact nextW_a ha
    exact ⟨_, rfl, .inr ⟨M, by rw [e], hMa, by rw [← e]; exact hMb, by rw [← e]; exact hac⟩⟩

/-- one length -/
theorem miss_level (hv : VG g) (h16 : g.1 ≤ 16) {i : Nat} (hi : i ≤ 4096) (hl : (allW (lets g) i).length ≤ 4096) {M0 : List (List UInt8 × List Int)} (hM : MapOk g M0 (allW (lets g) i)) :
    ∃ x, loopW (S := Int × (List (List UInt8 × (List (Int)))) × (List (List UInt8))) (X := Ou ((List (List UInt8 × (List (Int)))) × (List (List UInt8))) ((List UInt8) × Bool × Int)) (fun a10 =>
                if a10.1 < ((allW (lets g) i).length : Int) then
                  (idx (allW (lets g) i) a10.1).bind fun x14 =>
                  lpO (loopW (S := Int × (List (List UInt8 × (List (Int)))) × (List (List UInt8))) (X := Ou ((List (List UInt8 × (List (Int)))) × (List (List UInt8))) ((List UInt8) × Bool × Int)) (fun a16 =>
                      if a16.1 < g.1 then
                        (idx ([48, 49, 50, 51, 52, 53, 54, 55, 56, 57, 97, 98, 99, 100, 101, 102] : List UInt8) a16.1).bind fun x20 =>
                        (mlook x14 a16.2.1).bind fun x22 =>
                        (m_language_step g x22 (x20.toNat : Int)).bind fun x24 =>
                        if ((x24).length : Int) = 0 then
                          if x14.length + ((Utf8.encode (x20.toNat : Int)).data.toList).length ≤ maxLen then
                            some (Stp.exit (Ou.ret (x14 ++ ((Utf8.encode (x20.toNat : Int)).data.toList), true, 0)))
                          else none
                        else
                          if x14.length + ((Utf8.encode (x20.toNat : Int)).data.toList).length ≤ maxLen then
                            if fits 16 ((a16.2.2 : List (List UInt8)).length + ([x14 ++ ((Utf8.encode (x20.toNat : Int)).data.toList)]).length) then
                              some (Stp.next (IntKind.wrap .i64 (a16.1 + 1), mputN (x14 ++ ((Utf8.encode (x20.toNat : Int)).data.toList)) x24 a16.2.1, a16.2.2 ++ [x14 ++ ((Utf8.encode (x20.toNat : Int)).data.toList)]))
                            else none
                          else none
                      else
                        some (Stp.exit (Ou.go (a16.2.1, a16.2.2)))) (0, a10.2.1, a10.2.2)) (fun a30 =>
                      some (Stp.next (IntKind.wrap .i64 (a10.1 + 1), a30.1, a30.2))) (fun r => some (Stp.exit (Ou.ret r)))
                else
                  some (Stp.exit (Ou.go (a10.2.1, a10.2.2)))) (0, M0, ([] : List (List UInt8))) = some x ∧
      ((∃ w, x = .ret (w, true, 0) ∧ missL g (i + 1) = some w) ∨ ∃ M, x = .go (M, allW (lets g) (i + 1)) ∧ MapOk g M (allW (lets g) (i + 1)) ∧ ∀ w ∈ allW (lets g) (i + 1), accB g w = true) := by
  refine loopN (allW (lets g) i).length (fun a s => ∃ M, s = ((a : Int), M, nextW g i a 0) ∧ MapOk g M (allW (lets g) i) ∧ MapOk g M (nextW g i a 0) ∧ ∀ w ∈ nextW g i a 0, accB g w = true) ?_ ?_ 0 _ (Nat.zero_le _) ⟨M0, by rw [nextW_zero]; rfl, hM, (fun w hw => by rw [nextW_zero] at hw; cases hw), (fun w hw => by rw [nextW_zero] at hw; cases hw)⟩
  · rintro a s ha ⟨M, rfl, hMa, hMb, hac⟩
    dsimp only
    rw [if_pos (lt_int ha), ix ha]
    simp only [Option.bind_some]
    obtain ⟨x, hx, ⟨w, rfl, hw⟩ | ⟨M', rfl, h1, h2, h3⟩⟩ := miss_inner hv h16 hi ha hl hMa hMb hac
    · rw [hx]
      exact .inr ⟨_, rfl, .inl ⟨w, rfl, hw⟩⟩
    · rw [hx]
      exact .inl ⟨_, rfl, M', by rw [nx (by omega : (allW (lets g) i).length ≤ _) ha], h1, h2, h3⟩
  · rintro s ⟨M, rfl, hMa, hMb, hac⟩
    dsimp only
    rw [if_neg (not_lt_int _)]
    exact ⟨_, rfl, .inr ⟨M, by rw [nextW_all], by rw [← nextW_all]; exact hMb, by rw [← nextW_all]; exact hac⟩⟩

theorem Missing_eq (hv : VG g) (h16 : g.1 ≤ 16) {n : Nat} (hn : n ≤ 4096) : m_language_Missing g (n : Int) = some (if upto g.2.1 = [] then ([], true, 0) else missR g 0 n) := by
  unfold m_language_Missing
  rw [lengths_zero hv h16 hn, states_eq hv]
  simp only [Option.bind_some, ne_eq, not_true_eq_false, if_false]
  by_cases h0 : upto g.2.1 = []
  · rw [if_pos (by rw [h0]; rfl), if_pos h0]
  have hpos := List.length_pos_iff.2 h0
  rw [if_neg (by omega), if_neg h0]
  refine Eq.trans (congrArg (fun o => lpO o _ _) (loopN_eq (if (missR g 0 n).2.1 = true ∨ (missR g 0 n).2.2 ≠ 0 then .ret (missR g 0 n) else .go ()) n (fun i s => ∃ M, s = (allW (lets g) i, (i : Int), M) ∧ MapOk g M (allW (lets g) i) ∧ (∀ w ∈ allW (lets g) i, accB g w = true) ∧ (allW (lets g) i).length ≤ 4096 ∧ missR g 0 n = missR g i (n - i)) ?_ ?_ ⟨_, rfl, ?_, ?_, by simp [allW], rfl⟩)) ?_
  · rintro i s hi ⟨M, rfl, hMa, hac, hl, hr⟩
    dsimp only
    rw [if_pos (lt_int hi)]
    have hni : n - i = (n - (i + 1)) + 1 := by omega
    rw [hni] at hr
    simp only [missR] at hr
    obtain ⟨x, hx, ⟨w, rfl, hw⟩ | ⟨M', rfl, h1, h2⟩⟩ := miss_level hv h16 (by omega) hl hMa
    · rw [hx]
      rw [hw] at hr
      refine .inr ⟨_, rfl, ?_⟩
      rw [hr]
      simp
    · rw [hx]
      have hnone : missL g (i + 1) = none := List.find?_eq_none.2 fun w hw => by simp [h2 w hw]
      rw [hnone] at hr
      dsimp only at hr
      by_cases h4 : 4096 < (allW (lets g) (i + 1)).length
      · rw [if_pos h4] at hr
        refine .inr ⟨.ret ([], false, 4), ?_, ?_⟩
        · show (if (4096 : Int) < ((allW (lets g) (i + 1)).length : Int) then _ else _) = _
          rw [if_pos (by omega)]
        · rw [hr]; simp
      · rw [if_neg h4] at hr
        refine .inl ⟨(allW (lets g) (i + 1), ((i + 1 : Nat) : Int), M'), ?_, M', rfl, h1, h2, by omega, hr⟩
        show (if (4096 : Int) < ((allW (lets g) (i + 1)).length : Int) then _ else _) = _
        rw [if_neg (by omega), nx (by omega : n ≤ _) hi]
  · rintro s ⟨M, rfl, hMa, hac, hl, hr⟩
    dsimp only
    rw [if_neg (not_lt_int _)]
    refine ⟨_, rfl, ?_⟩
    rw [Nat.sub_self] at hr
    simp only [missR] at hr
    rw [hr]
    simp
  · intro w hw
    simp only [allW, List.mem_singleton] at hw
    subst hw
    rfl
  · intro w hw
    simp only [allW, List.mem_singleton] at hw
    subst hw
    simp only [accB, decide_eq_true_eq]
    exact h0
  · by_cases hc : (missR g 0 n).2.1 = true ∨ (missR g 0 n).2.2 ≠ 0
    · rw [if_pos hc]; rfl
    · rw [if_neg hc]
      have : ∀ (m j : Nat), ¬ ((missR g j m).2.1 = true ∨ (missR g j m).2.2 ≠ 0) → missR g j m = ([], false, 0) := by
        intro m
        induction m with
        | zero => intro j _; rfl
        | succ m ih =>
          intro j hj
          simp only [missR] at hj ⊢
          cases hm : missL g (j + 1) with
          | some w => rw [hm] at hj; simp at hj
          | none =>
            rw [hm] at hj
            dsimp only at hj ⊢
            by_cases h4 : 4096 < (allW (lets g) (j + 1)).length
            · rw [if_pos h4] at hj; simp at hj
            · rw [if_neg h4] at hj ⊢; exact ih _ hj
      rw [this n 0 hc]
      rfl
end
end Go.AW

/- The words of a length, by reading; the anchor of chapter 11. -/
namespace Go.AW
open Go
set_option linter.unusedSimpArgs false
set_option linter.unusedVariables false

theorem lvl_congr {f h : List Int → UInt8 → List Int} {cs : List UInt8} {A : List Int → Prop} {set : List Int} (hs : A set) (hA : ∀ a c, A a → c ∈ cs → A (f a c)) (he : ∀ a c, A a → c ∈ cs → f a c = h a c) : ∀ n, lvl f cs set n = lvl h cs set n
  | 0 => rfl
  | n + 1 => by
    simp only [lvl]
    rw [← lvl_congr hs hA he n]
    have hall : ∀ x ∈ lvl f cs set n, A x.2 := lvl_all hs hA n
    have hcs : ∀ (cs' : List UInt8), (∀ c ∈ cs', c ∈ cs) → ∀ x ∈ lvl f cs set n, ext1 f cs' x = ext1 h cs' x := by
      intro cs' hsub x hx
      unfold ext1
      induction cs' with
      | nil => rfl
      | cons c cs' ih =>
        rw [List.filterMap_cons, List.filterMap_cons, he x.2 c (hall x hx) (hsub c (List.mem_cons_self ..)), ih fun d hd => hsub d (List.mem_cons_of_mem _ hd)]
    have : ∀ l : List WS, (∀ x ∈ l, ext1 f cs x = ext1 h cs x) → l.flatMap (ext1 f cs) = l.flatMap (ext1 h cs) := by
      intro l hl
      induction l with
      | nil => rfl
      | cons x l ih => rw [List.flatMap_cons, List.flatMap_cons, hl x (List.mem_cons_self ..), ih fun y hy => hl y (List.mem_cons_of_mem _ hy)]
    exact this _ (hcs cs fun _ h => h)

section
variable {g : Gr}
def stpL (g : Gr) (a : List Int) (c : UInt8) : List Int := stepL g a (lab c)
theorem LV_lab (hv : VG g) {set : List Int} (hs : SetOk g set) (n : Nat) : LV g set n = lvl (stpL g) (lets g) set n := by
  refine lvl_congr (A := SetOk g) hs (fun a c ha hc => stpM_ok hv ha hc) (fun a c ha hc => ?_) n
  unfold stpM
  rw [step_lab hv ha hc]
  rfl

end

theorem EqS_eq {a b : List (List UInt8)} (hm : a.length ≤ 9223372036854775807) : m_slices_Equal_Lstring_string a b = some (decide (a = b)) := by
  unfold m_slices_Equal_Lstring_string
  by_cases hl : a.length = b.length
  · rw [if_neg (by omega)]
    refine lpL (loop_any (fun i => (i : Int)) a.length (fun i => decide (a.getD i [] ≠ b.getD i [])) (Ou.ret false) (Ou.go ()) (fun i hi => ?_) (by rw [if_neg (not_lt_int _)]) rfl) ?_
    · have hi' : i < b.length := by omega
      have e1 : a.getD i [] = a[i] := by simp [List.getD, hi]
      have e2 : b.getD i [] = b[i] := by simp [List.getD, hi']
      rw [if_pos (lt_int hi), ix hi, ix hi']
      simp only [Option.bind_some, nx hm hi, e1, e2, decide_eq_true_eq]
    · by_cases he : a = b
      · subst he
        rw [if_neg]
        · simp [lpO]
        · simp
      · rw [if_pos]
        · simp [lpO, he]
        · refine List.any_eq_true.2 ?_
          apply Classical.byContradiction
          intro hno
          refine he (List.ext_getElem hl fun i h1 h2 => ?_)
          apply Classical.byContradiction
          intro hne
          refine hno ⟨i, List.mem_range.2 h1, decide_eq_true ?_⟩
          rwa [show a.getD i [] = a[i] by simp [List.getD, h1], show b.getD i [] = b[i] by simp [List.getD, h2]]
  · rw [if_pos (by omega)]
    have : ¬ a = b := fun e => hl (by rw [e])
    simp [this]

theorem gT_ok : VG gT where
  l1 := by decide
  l2 := by decide
  s0 := by decide
  s1 := by decide
  el := by decide
  ed := by decide
  ord := fun i h => match i, h with
    | 0, _ => show cmp3 (0, 0, 0) (0, 1, 1) < 0 by decide
    | 1, _ => show cmp3 (0, 1, 1) (1, 0, 0) < 0 by decide
    | _ + 2, h => absurd h (by simp [gT])

theorem awake11_eq : m_law11_awakeG = some true := by
  have h1 : m_language_Words gT 2 = some ([[48, 48], [48, 49], [49, 48]], 0) := by
    obtain ⟨r, hr, _, h2, h3⟩ := Words_both gT 2
    have hs := upto_ok gT
    have e0 : ∀ n, LV gT (upto gT.2.1) n = lvl (stpL gT) (lets gT) (upto gT.2.1) n := LV_lab gT_ok hs
    have h0 := h3 gT_ok (by decide) (by decide) (by decide) (OKL_iff.2 fun j j1 j2 => by
      rw [e0]
      have : j = 1 ∨ j = 2 := by have : (2 : Int).toNat = 2 := rfl; omega
      rcases this with rfl | rfl <;> decide)
    obtain ⟨_, hw⟩ := h2 h0
    have e1 : wordsE gT 2 = [[48, 48], [48, 49], [49, 48]] := by
      unfold wordsE
      rw [e0]
      decide
    rw [hr]
    obtain ⟨r1, r2⟩ := r
    dsimp only at h0 hw
    rw [h0, hw, e1]
  have h2 : m_language_Path gT [48, 49, 48] = some ([0, 1, 2], 0) := by
    have h := (Path_eq gT_ok (by decide) (w := [48, 49, 48]) ⟨by decide, by decide⟩).1 (can_mem.1 (by decide))
    have e : pathR gT none [48, 49, 48] = [0, 1, 2] := by decide
    rw [e] at h
    exact h
  have h3 : m_language_Missing gT 3 = some ([49, 49], true, 0) := by
    have h := Missing_eq gT_ok (by decide) (n := 3) (by decide)
    rw [if_neg (by decide)] at h
    have e : missR gT 0 3 = ([49, 49], true, 0) := by decide
    rw [e] at h
    exact h
  have h4 : m_law11_golden = some gT := rfl
  unfold m_law11_awakeG
  simp only [h4, Option.bind_some, h1, h2, h3, jp]
  rw [EqS_eq (by decide), EqI_eq (by decide)]
  decide
end Go.AW

namespace Go.AW
open Go Go.Proofs
set_option linter.unusedVariables false
set_option maxHeartbeats 1600000 in
set_option maxRecDepth 100000 in
theorem w_language_Words {p0 : TLabelsStatesEdges} {p1 : Int} {r : (List (List UInt8)) × Int} (h : m_language_Words p0 p1 = some r) : Pure Try.prog 8 [HV.agg [HV.int .i64 p0.1, HV.int .i64 p0.2.1, slE eFromLabelTo p0.2.2], HV.int .i64 p1] (· = HV.tup [slE eStr r.1, HV.int .i64 r.2]) := by
  unfold m_language_Words at h
  refine Pure.of_body Try.func8 rfl rfl (Nat.le_of_ble_eq_true rfl) fun hf => ?_
  unfold Try.f8
  dsimp only [enumS, Nat.reduceAdd]
  refine AW.rgs rfl fun K hK => ?_
  refine b_op rfl (o_box rfl rfl rfl ?_)
  refine mv rfl rfl ?_
  refine mv rfl rfl ?_
  refine b_nil (hK _ (AW.to (to_le (s' := ⟨[(1, HV.int .i64 p1), (2, HV.fptr [HV.int .i64 p0.1, HV.int .i64 p0.2.1, slE eFromLabelTo p0.2.2] 0)], []⟩) (AS.le_of ⟨rfl, rfl, trivial⟩ trivial) ?_)))
  clear hK K
  refine AW.seq ?_
  refine AW.rgs rfl fun K hK => ?_
  refine bv rfl (v_loadF ty24 rfl (l_litA rfl (Nat.le_of_ble_eq_true rfl) rfl)) ?_
  refine mv rfl rfl ?_
  obtain ⟨x1, h2, h⟩ := bS h
  refine b_op rfl (o_call rfl rfl rfl rfl (ACallD.pure0 (w_language_lengths h2)) ?_)
  refine mv rfl rfl ?_
  refine b_nil (hK _ (AW.to (to_le (s' := ⟨[(1, HV.int .i64 p1), (2, HV.fptr [HV.int .i64 p0.1, HV.int .i64 p0.2.1, slE eFromLabelTo p0.2.2] 0), (6, HV.int .i64 x1)], []⟩) (AS.le_of ⟨rfl, rfl, rfl, trivial⟩ trivial) ?_)))
  clear hK K
  refine AW.rgs rfl fun K hK => ?_
  refine mv rfl rfl ?_
  refine bv rfl (v_bin rfl rfl b_neq) ?_
  refine b_nil (hK _ (AW.to (to_le (s' := ⟨[(1, HV.int .i64 p1), (2, HV.fptr [HV.int .i64 p0.1, HV.int .i64 p0.2.1, slE eFromLabelTo p0.2.2] 0), (6, HV.int .i64 x1), (13, HV.bool (decide (x1 ≠ 0)))], []⟩) (AS.le_of ⟨rfl, rfl, rfl, rfl, trivial⟩ trivial) ?_)))
  clear hK K
  refine AW.cond rfl (fun hc => ?_) (fun hc => ?_)
  · have hc := of_decide_eq_true hc
    have h := ifT hc h
    refine AW.rgs rfl fun K hK => ?_
    refine mv rfl rfl ?_
    refine mv rfl rfl ?_
    refine mv rfl rfl ?_
    refine b_nil (hK _ (AW.to (to_le (s' := ⟨[(4, HV.v (.slice none 0 0)), (5, HV.int .i64 x1)], []⟩) (AS.le_of ⟨rfl, rfl, trivial⟩ trivial) ?_)))
    clear hK K
    refine AW.to (to_weak ⟨[(4, slE eStr ([] : List (List UInt8))), (5, HV.int .i64 x1)], []⟩ ⟨⟨_, rfl, .nil _⟩, ⟨_, rfl, .refl _⟩, trivial⟩ trivial ?_)
    refine AW.ret ?_
    have h := Option.some.inj h
    subst h
    exact ret_pure (hs := [slE eStr ([] : List (List UInt8)), HV.int .i64 x1]) (q := HV.tup [slE eStr ([] : List (List UInt8)), HV.int .i64 x1]) (.inr rfl) (resT rfl (resT rfl rfl)) rfl ⟨(clean_slE fun _ _ => ⟨trivial, trivial⟩), trivial, trivial⟩
  · have hc := of_decide_eq_false hc
    have h := ifF hc h
    refine AW.skip ?_
    refine AW.dys follows fun K hK => ?_
    refine y_st 4 rfl rfl ?_
    refine sv rfl (v_loadF ty24 rfl (l_litA rfl (Nat.le_of_ble_eq_true rfl) rfl)) ?_
    refine sv rfl (v_loadF ty24 rfl (l_litA rfl (Nat.le_of_ble_eq_true rfl) rfl)) ?_
    obtain ⟨x3, h4, h⟩ := bS h
    refine s_op rfl rfl (ops_call rfl rfl rfl rfl (ACallD.pure0 (w_language_states h4)) ?_)
    refine sm rfl rfl ?_
    refine s_nil ?_
    obtain ⟨x5, h6, h⟩ := bS h
    by_cases hg7 : x5.2 = true
    · have h := ifT hg7 h
      refine y_op rfl rfl rfl rfl (o_callA rfl rfl rfl rfl (c_listT h6 hg7 fun i8 v9 es10 hes11 => ?_) )
      refine b_nil ?_
      refine y_st 10 rfl rfl ?_
      refine sm rfl rfl ?_
      refine sv rfl (v_extract rfl rfl) ?_
      refine sv rfl (v_extract rfl rfl) ?_
      refine sm rfl rfl ?_
      refine sm rfl rfl ?_
      refine s_nil ?_
      refine y_nil rfl (hK _ (AW.to (to_le (s' := ⟨[(7, HV.mp i8 v9), (8, HV.bool true)], [(i8, v9, .map es10)]⟩) (AS.le_of ⟨rfl, rfl, trivial⟩ ⟨hget_0, trivial⟩) ?_)))
      clear hK K
      refine AW.seq ?_
      refine AW.rgs rfl fun K hK => ?_
      refine mv rfl rfl ?_
      refine bv rfl (v_not rfl) ?_
      refine b_nil (hK _ (AW.to (to_le (s' := ⟨[(7, HV.mp i8 v9), (24, HV.bool false)], [(i8, v9, .map es10)]⟩) (AS.le_of ⟨rfl, rfl, trivial⟩ ⟨hget_0, trivial⟩) ?_)))
      clear hK K
      refine AW.cond rfl (fun hc => by cases hc) (fun _ => ?_)
      refine AW.skip ?_
      refine AW.rgs rfl fun K hK => ?_
      refine mv rfl rfl ?_
      refine b_op rfl (o_callK [(i8, v9, .map es10)] rfl rfl rfl rfl (fun K hK => w82 hK) ?_)
      refine b_op rfl (o_callK (q := slE eStr (sortS ((x5.1).map Prod.fst))) [] rfl rfl rfl rfl (fun K hK => c_sortedKeys hes11 hK) ?_)
      refine mv rfl rfl ?_
      refine mv rfl rfl ?_
      refine b_nil (hK _ (AW.to (to_le (s' := ⟨[(4, slE eStr (sortS ((x5.1).map Prod.fst))), (5, HV.int .i64 0)], []⟩) (AS.le_of ⟨rfl, rfl, trivial⟩ trivial) ?_)))
      clear hK K
      refine AW.ret ?_
      have h := Option.some.inj h
      subst h
      exact ret_pure (hs := [slE eStr (sortS ((x5.1).map Prod.fst)), HV.int .i64 0]) (q := HV.tup [slE eStr (sortS ((x5.1).map Prod.fst)), HV.int .i64 0]) (.inr rfl) (resT rfl (resT rfl rfl)) rfl ⟨(clean_slE fun _ _ => ⟨trivial, trivial⟩), trivial, trivial⟩
    · have h := ifF hg7 h
      refine y_op rfl rfl rfl rfl (o_callA rfl rfl rfl rfl (c_listF h6 hg7 ?_) )
      refine b_nil ?_
      refine y_st 10 rfl rfl ?_
      refine sm rfl rfl ?_
      refine sv rfl (v_extract rfl rfl) ?_
      refine sv rfl (v_extract rfl rfl) ?_
      refine sm rfl rfl ?_
      refine sm rfl rfl ?_
      refine s_nil ?_
      refine y_nil rfl (hK _ (AW.to (to_le (s' := ⟨[(7, HV.v (.map none)), (8, HV.bool false)], []⟩) (AS.le_of ⟨rfl, rfl, trivial⟩ trivial) ?_)))
      clear hK K
      refine AW.seq ?_
      refine AW.rgs rfl fun K hK => ?_
      refine mv rfl rfl ?_
      refine bv rfl (v_not rfl) ?_
      refine b_nil (hK _ (AW.to (to_le (s' := ⟨[(7, HV.v (.map none)), (24, HV.bool true)], []⟩) (AS.le_of ⟨rfl, rfl, trivial⟩ trivial) ?_)))
      clear hK K
      refine AW.cond rfl (fun _ => ?_) (fun hc => by cases hc)
      refine AW.rgs rfl fun K hK => ?_
      refine mv rfl rfl ?_
      refine mv rfl rfl ?_
      refine b_nil (hK _ (AW.to (to_le (s' := ⟨[(4, HV.v (.slice none 0 0)), (5, HV.int .i64 4)], []⟩) (AS.le_of ⟨rfl, rfl, trivial⟩ trivial) ?_)))
      clear hK K
      refine AW.to (to_weak ⟨[(4, slE eStr ([] : List (List UInt8))), (5, HV.int .i64 4)], []⟩ ⟨⟨_, rfl, .nil _⟩, ⟨_, rfl, .refl _⟩, trivial⟩ trivial ?_)
      refine AW.ret ?_
      have h := Option.some.inj h
      subst h
      exact ret_pure (hs := [slE eStr ([] : List (List UInt8)), HV.int .i64 4]) (q := HV.tup [slE eStr ([] : List (List UInt8)), HV.int .i64 4]) (.inr rfl) (resT rfl (resT rfl rfl)) rfl ⟨(clean_slE fun _ _ => ⟨trivial, trivial⟩), trivial, trivial⟩

set_option maxHeartbeats 1600000 in
set_option maxRecDepth 100000 in
theorem w_language_Missing {p0 : TLabelsStatesEdges} {p1 : Int} {r : (List UInt8) × Bool × Int} (h : m_language_Missing p0 p1 = some r) : Pure Try.prog 12 [HV.agg [HV.int .i64 p0.1, HV.int .i64 p0.2.1, slE eFromLabelTo p0.2.2], HV.int .i64 p1] (· = HV.tup [HV.str r.1, HV.bool r.2.1, HV.int .i64 r.2.2]) := by
  unfold m_language_Missing at h
  refine Pure.of_body Try.func12 rfl rfl (Nat.le_of_ble_eq_true rfl) fun hf => ?_
  unfold Try.f12
  dsimp only [enumS, Nat.reduceAdd]
  refine AW.rgs rfl fun K hK => ?_
  refine b_op rfl (o_box rfl rfl rfl ?_)
  refine mv rfl rfl ?_
  refine mv rfl rfl ?_
  refine mv rfl rfl ?_
  refine b_nil (hK _ (AW.to (to_le (s' := ⟨[(1, HV.int .i64 p1), (2, HV.fptr [HV.int .i64 p0.1, HV.int .i64 p0.2.1, slE eFromLabelTo p0.2.2] 0)], []⟩) (AS.le_of ⟨rfl, rfl, trivial⟩ trivial) ?_)))
  clear hK K
  refine AW.seq ?_
  refine AW.rgs rfl fun K hK => ?_
  refine bv rfl (v_loadF ty24 rfl (l_litA rfl (Nat.le_of_ble_eq_true rfl) rfl)) ?_
  refine mv rfl rfl ?_
  obtain ⟨x1, h2, h⟩ := bS h
  refine b_op rfl (o_call rfl rfl rfl rfl (ACallD.pure0 (w_language_lengths h2)) ?_)
  refine mv rfl rfl ?_
  refine b_nil (hK _ (AW.to (to_le (s' := ⟨[(1, HV.int .i64 p1), (2, HV.fptr [HV.int .i64 p0.1, HV.int .i64 p0.2.1, slE eFromLabelTo p0.2.2] 0), (7, HV.int .i64 x1)], []⟩) (AS.le_of ⟨rfl, rfl, rfl, trivial⟩ trivial) ?_)))
  clear hK K
  refine AW.rgs rfl fun K hK => ?_
  refine mv rfl rfl ?_
  refine bv rfl (v_bin rfl rfl b_neq) ?_
  refine b_nil (hK _ (AW.to (to_le (s' := ⟨[(1, HV.int .i64 p1), (2, HV.fptr [HV.int .i64 p0.1, HV.int .i64 p0.2.1, slE eFromLabelTo p0.2.2] 0), (7, HV.int .i64 x1), (22, HV.bool (decide (x1 ≠ 0)))], []⟩) (AS.le_of ⟨rfl, rfl, rfl, rfl, trivial⟩ trivial) ?_)))
  clear hK K
  refine AW.cond rfl (fun hc => ?_) (fun hc => ?_)
  · have hc := of_decide_eq_true hc
    have h := ifT hc h
    refine AW.rgs rfl fun K hK => ?_
    refine mv rfl rfl ?_
    refine mv rfl rfl ?_
    refine mv rfl rfl ?_
    refine mv rfl rfl ?_
    refine b_nil (hK _ (AW.to (to_le (s' := ⟨[(4, HV.str ([] : List UInt8)), (5, HV.bool false), (6, HV.int .i64 x1)], []⟩) (AS.le_of ⟨rfl, rfl, rfl, trivial⟩ trivial) ?_)))
    clear hK K
    refine AW.ret ?_
    have h := Option.some.inj h
    subst h
    exact ret_pure (hs := [HV.str ([] : List UInt8), HV.bool false, HV.int .i64 x1]) (q := HV.tup [HV.str ([] : List UInt8), HV.bool false, HV.int .i64 x1]) (.inr rfl) (resT rfl (resT rfl (resT rfl rfl))) rfl ⟨trivial, trivial, trivial, trivial⟩
  · have hc := of_decide_eq_false hc
    have h := ifF hc h
    refine AW.skip ?_
    refine AW.rgs rfl fun K hK => ?_
    refine bv rfl (v_loadF ty24 rfl (l_litA rfl (Nat.le_of_ble_eq_true rfl) rfl)) ?_
    obtain ⟨x3, h4, h⟩ := bS h
    refine b_op rfl (o_call rfl rfl rfl rfl (ACallD.pure0 (w_language_states h4)) ?_)
    refine mv rfl rfl ?_
    refine b_nil (hK _ (AW.to (to_le (s' := ⟨[(1, HV.int .i64 p1), (2, HV.fptr [HV.int .i64 p0.1, HV.int .i64 p0.2.1, slE eFromLabelTo p0.2.2] 0), (8, slE eInt x3)], []⟩) (AS.le_of ⟨rfl, rfl, rfl, trivial⟩ trivial) ?_)))
    clear hK K
    refine AW.seq ?_
    refine AW.rgs rfl fun K hK => ?_
    refine mv rfl rfl ?_
    refine bv rfl (v_lenF rfl rfl ty41 rfl) ?_
    refine bv rfl (v_bin rfl rfl b_eql) ?_
    refine b_nil (hK _ (AW.to (to_le (s' := ⟨[(1, HV.int .i64 p1), (2, HV.fptr [HV.int .i64 p0.1, HV.int .i64 p0.2.1, slE eFromLabelTo p0.2.2] 0), (8, slE eInt x3), (28, HV.bool (decide (((x3).length : Int) = 0)))], []⟩) (AS.le_of ⟨rfl, rfl, rfl, rfl, trivial⟩ trivial) ?_)))
    clear hK K
    refine AW.cond rfl (fun hc => ?_) (fun hc => ?_)
    · have hc := of_decide_eq_true hc
      have h := ifT hc h
      refine AW.rgs rfl fun K hK => ?_
      refine mv rfl rfl ?_
      refine mv rfl rfl ?_
      refine mv rfl rfl ?_
      refine b_nil (hK _ (AW.to (to_le (s' := ⟨[(4, HV.str ([] : List UInt8)), (5, HV.bool true), (6, HV.int .i64 0)], []⟩) (AS.le_of ⟨rfl, rfl, rfl, trivial⟩ trivial) ?_)))
      clear hK K
      refine AW.ret ?_
      have h := Option.some.inj h
      subst h
      exact ret_pure (hs := [HV.str ([] : List UInt8), HV.bool true, HV.int .i64 0]) (q := HV.tup [HV.str ([] : List UInt8), HV.bool true, HV.int .i64 0]) (.inr rfl) (resT rfl (resT rfl (resT rfl rfl))) rfl ⟨trivial, trivial, trivial, trivial⟩
    · have hc := of_decide_eq_false hc
      have h := ifF hc h
      refine AW.skip ?_
      refine AW.rgs rfl fun K hK => ?_
      refine b_op rfl (o_bsl rfl rfl (as_of (cs := [HV.str ([] : List UInt8)]) ty28 ty9 rfl rfl rfl rfl rfl) ?_)
      refine mv rfl rfl ?_
      refine b_nil (hK _ (AW.to (to_le (s' := ⟨[(1, HV.int .i64 p1), (2, HV.fptr [HV.int .i64 p0.1, HV.int .i64 p0.2.1, slE eFromLabelTo p0.2.2] 0), (8, slE eInt x3), (9, slE eStr [([] : List UInt8)])], []⟩) (AS.le_of ⟨rfl, rfl, rfl, rfl, trivial⟩ trivial) ?_)))
      clear hK K
      refine AW.rgs rfl fun K hK => ?_
      refine b_op rfl (o_makeMap (fid := 12) (slE eInt) 12030 rfl rfl (fun v5 => ?_))
      refine mv rfl rfl ?_
      refine b_op rfl (o_mapSet (slE eInt) (es := ([] : List (List UInt8 × (List (Int))))) (k := ([] : List UInt8)) (v := x3) (.inr rfl) ty47 ty9 rfl rfl rfl rfl trivial ?_)
      refine mv rfl rfl ?_
      refine mv rfl rfl ?_
      refine b_nil (hK _ (AW.to (to_le (s' := ⟨[(1, HV.int .i64 p1), (2, HV.fptr [HV.int .i64 p0.1, HV.int .i64 p0.2.1, slE eFromLabelTo p0.2.2] 0), (9, slE eStr [([] : List UInt8)]), (10, HV.mp 12030 v5)], [(12030, v5, .map (entE (slE eInt) (mputN ([] : List UInt8) x3 ([] : List (List UInt8 × (List (Int)))))))]⟩) (AS.le_of ⟨rfl, rfl, rfl, rfl, trivial⟩ ⟨rfl, trivial⟩) ?_)))
      clear hK K
      refine AW.seq ?_
      refine AW.rgs rfl fun K hK => ?_
      refine mv rfl rfl ?_
      refine mv rfl rfl ?_
      refine b_nil (hK _ (AW.to (to_le (s' := ⟨[(2, HV.fptr [HV.int .i64 p0.1, HV.int .i64 p0.2.1, slE eFromLabelTo p0.2.2] 0), (9, slE eStr [([] : List UInt8)]), (10, HV.mp 12030 v5), (33, HV.int .i64 p1), (34, HV.int .i64 0)], [(12030, v5, .map (entE (slE eInt) (mputN ([] : List UInt8) x3 ([] : List (List UInt8 × (List (Int)))))))]⟩) (AS.le_of ⟨rfl, rfl, rfl, rfl, rfl, trivial⟩ ⟨rfl, trivial⟩) ?_)))
      clear hK K
      refine AW.lpR h (by first | exact up_then | exact up_to) (S := (List (List UInt8)) × Int × (List (List UInt8 × (List (Int))))) (V := Unit) (fun a v => ⟨[(2, HV.fptr [HV.int .i64 p0.1, HV.int .i64 p0.2.1, slE eFromLabelTo p0.2.2] 0), (9, slE eStr a.1), (10, HV.mp 12030 v5), (33, HV.int .i64 p1), (34, HV.int .i64 a.2.1)], [(12030, v5, .map (entE (slE eInt) a.2.2))]⟩) ?_ (X := Unit) (W := Unit) (fun a v => ⟨[], []⟩) (fun a35 w36 h => ?_) (fun a6 w7 st8 h hr9=> ?_)
      · exact to_le (s' := ⟨[(2, HV.fptr [HV.int .i64 p0.1, HV.int .i64 p0.2.1, slE eFromLabelTo p0.2.2] 0), (9, slE eStr [([] : List UInt8)]), (10, HV.mp 12030 v5), (33, HV.int .i64 p1), (34, HV.int .i64 0)], [(12030, v5, .map (entE (slE eInt) (mputN ([] : List UInt8) x3 ([] : List (List UInt8 × (List (Int)))))))]⟩) (AS.le_of ⟨rfl, rfl, rfl, rfl, rfl, trivial⟩ ⟨rfl, trivial⟩) ⟨(), rfl⟩
      · refine AW.rgs rfl fun K hK => ?_
        refine mv rfl rfl ?_
        refine mv rfl rfl ?_
        refine mv rfl rfl ?_
        refine b_nil (hK _ (AW.to (to_le (s' := ⟨[(4, HV.str ([] : List UInt8)), (5, HV.bool false), (6, HV.int .i64 0)], []⟩) (AS.le_of ⟨rfl, rfl, rfl, trivial⟩ trivial) ?_)))
        clear hK K
        refine AW.ret ?_
        have h := Option.some.inj h
        subst h
        exact ret_pure (hs := [HV.str ([] : List UInt8), HV.bool false, HV.int .i64 0]) (q := HV.tup [HV.str ([] : List UInt8), HV.bool false, HV.int .i64 0]) (.inr rfl) (resT rfl (resT rfl (resT rfl rfl))) rfl ⟨trivial, trivial, trivial, trivial⟩
      · refine AW.rgs rfl fun K hK => ?_
        refine bv rfl (v_bin rfl rfl b_lss) ?_
        refine b_nil (hK _ (AW.to (to_le (s' := ⟨[(2, HV.fptr [HV.int .i64 p0.1, HV.int .i64 p0.2.1, slE eFromLabelTo p0.2.2] 0), (9, slE eStr a6.1), (10, HV.mp 12030 v5), (33, HV.int .i64 p1), (34, HV.int .i64 a6.2.1), (35, HV.bool (decide (a6.2.1 < p1)))], [(12030, v5, .map (entE (slE eInt) a6.2.2))]⟩) (AS.le_of ⟨rfl, rfl, rfl, rfl, rfl, rfl, trivial⟩ ⟨rfl, trivial⟩) ?_)))
        clear hK K
        refine AW.cseq rfl (fun hc => ?_) (fun hc => ?_)
        · have hc := of_decide_eq_true hc
          have h := ifT hc h
          refine AW.skip ?_
          refine AW.seq (AW.block ?_)
          refine AW.rgs rfl fun K hK => ?_
          refine mv rfl rfl ?_
          refine b_nil (hK _ (AW.to (to_le (s' := ⟨[(2, HV.fptr [HV.int .i64 p0.1, HV.int .i64 p0.2.1, slE eFromLabelTo p0.2.2] 0), (9, slE eStr a6.1), (10, HV.mp 12030 v5), (11, HV.v (.slice none 0 0)), (33, HV.int .i64 p1), (34, HV.int .i64 a6.2.1)], [(12030, v5, .map (entE (slE eInt) a6.2.2))]⟩) (AS.le_of ⟨rfl, rfl, rfl, rfl, rfl, rfl, trivial⟩ ⟨rfl, trivial⟩) ?_)))
          clear hK K
          refine AW.seq ?_
          refine AW.rgs rfl fun K hK => ?_
          refine mv rfl rfl ?_
          refine bv rfl (v_lenF rfl rfl ty28 rfl) ?_
          refine mv rfl rfl ?_
          refine b_nil (hK _ (AW.to (to_le (s' := ⟨[(2, HV.fptr [HV.int .i64 p0.1, HV.int .i64 p0.2.1, slE eFromLabelTo p0.2.2] 0), (10, HV.mp 12030 v5), (11, HV.v (.slice none 0 0)), (33, HV.int .i64 p1), (34, HV.int .i64 a6.2.1), (36, slE eStr a6.1), (37, HV.int .i64 ((a6.1).length : Int)), (38, HV.int .i64 0)], [(12030, v5, .map (entE (slE eInt) a6.2.2))]⟩) (AS.le_of ⟨rfl, rfl, rfl, rfl, rfl, rfl, rfl, rfl, trivial⟩ ⟨rfl, trivial⟩) ?_)))
          clear hK K
          refine AW.lpR h (by first | exact up_then | exact up_to) (S := Int × (List (List UInt8 × (List (Int)))) × (List (List UInt8))) (V := Nat) (fun a v => ⟨[(2, HV.fptr [HV.int .i64 p0.1, HV.int .i64 p0.2.1, slE eFromLabelTo p0.2.2] 0), (10, HV.mp 12030 v5), (11, HV.ar 12071 v eStr.k 0 ((a.2.2).length)), (33, HV.int .i64 p1), (34, HV.int .i64 a6.2.1), (36, slE eStr a6.1), (37, HV.int .i64 ((a6.1).length : Int)), (38, HV.int .i64 a.1)], [(12030, v5, .map (entE (slE eInt) a.2.1)), (12071, v, .arr eStr.k 9 (eStr.E a.2.2))]⟩) ?_ (X := (List (List UInt8 × (List (Int)))) × (List (List UInt8))) (W := Nat) (fun a v => ⟨[(2, HV.fptr [HV.int .i64 p0.1, HV.int .i64 p0.2.1, slE eFromLabelTo p0.2.2] 0), (10, HV.mp 12030 v5), (11, HV.ar 12071 v eStr.k 0 ((a.2).length)), (33, HV.int .i64 p1), (34, HV.int .i64 a6.2.1)], [(12030, v5, .map (entE (slE eInt) a.1)), (12071, v, .arr eStr.k 9 (eStr.E a.2))]⟩) (fun a33 w34 h => ?_) (fun a10 w11 st12 h hr13=> ?_)
          · refine to_bind (to_own 12071 11 eStr.k 9 rfl fun v32 => ?_)
            exact to_le (s' := ⟨[(2, HV.fptr [HV.int .i64 p0.1, HV.int .i64 p0.2.1, slE eFromLabelTo p0.2.2] 0), (10, HV.mp 12030 v5), (11, HV.ar 12071 v32 eStr.k 0 ((([] : List (List UInt8))).length)), (33, HV.int .i64 p1), (34, HV.int .i64 a6.2.1), (36, slE eStr a6.1), (37, HV.int .i64 ((a6.1).length : Int)), (38, HV.int .i64 0)], [(12030, v5, .map (entE (slE eInt) a6.2.2)), (12071, v32, .arr eStr.k 9 (eStr.E ([] : List (List UInt8))))]⟩) (AS.le_of ⟨rfl, rfl, arl (by first | rfl | simp only [List.length_set, sortI_len, sortS_len]), rfl, rfl, rfl, rfl, rfl, trivial⟩ ⟨rfl, rfl, trivial⟩) ⟨v32, rfl⟩
          · refine AW.seq ?_
            refine AW.rgs rfl fun K hK => ?_
            refine mv rfl rfl ?_
            refine bv rfl (v_lenA rfl rfl ty28 rfl rfl) ?_
            refine bv rfl (v_bin rfl rfl b_gtr) ?_
            refine b_nil (hK _ (AW.to (to_le (s' := ⟨[(2, HV.fptr [HV.int .i64 p0.1, HV.int .i64 p0.2.1, slE eFromLabelTo p0.2.2] 0), (10, HV.mp 12030 v5), (11, HV.ar 12071 w34 eStr.k 0 ((a33.2).length)), (33, HV.int .i64 p1), (34, HV.int .i64 a6.2.1), (77, HV.bool (decide (4096 < (((a33.2).length : Nat) : Int))))], [(12030, v5, .map (entE (slE eInt) a33.1)), (12071, w34, .arr eStr.k 9 (eStr.E a33.2))]⟩) (AS.le_of ⟨rfl, rfl, rfl, rfl, rfl, rfl, trivial⟩ ⟨rfl, rfl, trivial⟩) ?_)))
            clear hK K
            refine AW.cond rfl (fun hc => ?_) (fun hc => ?_)
            · have hc := of_decide_eq_true hc
              have h := ifT hc h
              refine AW.rgs rfl fun K hK => ?_
              refine mv rfl rfl ?_
              refine mv rfl rfl ?_
              refine mv rfl rfl ?_
              refine b_nil (hK _ (AW.to (to_le (s' := ⟨[(4, HV.str ([] : List UInt8)), (5, HV.bool false), (6, HV.int .i64 4)], []⟩) (AS.le_of ⟨rfl, rfl, rfl, trivial⟩ trivial) ?_)))
              clear hK K
              have h := hr9 _ h
              refine AW.ret ?_
              have h := Option.some.inj h
              subst h
              exact ret_pure (hs := [HV.str ([] : List UInt8), HV.bool false, HV.int .i64 4]) (q := HV.tup [HV.str ([] : List UInt8), HV.bool false, HV.int .i64 4]) (.inr rfl) (resT rfl (resT rfl (resT rfl rfl))) rfl ⟨trivial, trivial, trivial, trivial⟩
            · have hc := of_decide_eq_false hc
              have h := ifF hc h
              refine AW.skip ?_
              refine AW.rg rfl fun K hK => ?_
              refine mv rfl rfl ?_
              refine mv rfl rfl ?_
              refine b_nil (hK _ (AW.to (to_le (s' := ⟨[(2, HV.fptr [HV.int .i64 p0.1, HV.int .i64 p0.2.1, slE eFromLabelTo p0.2.2] 0), (9, HV.ar 12071 w34 eStr.k 0 ((a33.2).length)), (10, HV.mp 12030 v5), (33, HV.int .i64 p1), (34, HV.int .i64 a6.2.1)], [(12030, v5, .map (entE (slE eInt) a33.1)), (12071, w34, .arr eStr.k 9 (eStr.E a33.2))]⟩) (AS.le_of ⟨rfl, rfl, rfl, rfl, rfl, trivial⟩ ⟨rfl, rfl, trivial⟩) ?_)))
              clear hK K
              refine AW.rg rfl fun K hK => ?_
              refine bv rfl (v_bin rfl rfl b_add) ?_
              refine mv rfl rfl ?_
              refine b_nil (hK _ ?_)
              clear hK K
              refine to_bind (to_frz 2 [(12071, w34, .arr eStr.k 9 (eStr.E a33.2))] ⟨[(2, HV.fptr [HV.int .i64 p0.1, HV.int .i64 p0.2.1, slE eFromLabelTo p0.2.2] 0), (9, slE eStr a33.2), (10, HV.mp 12030 v5), (33, HV.int .i64 p1), (34, HV.int .i64 (IntKind.wrap .i64 (a6.2.1 + 1)))], [(12030, v5, .map (entE (slE eInt) a33.1))]⟩ ⟨⟨_, rfl, rfl⟩, ⟨_, rfl, frz_slE eStr (l := a33.2) rfl fun _ _ => rfl⟩, ⟨_, rfl, rfl⟩, ⟨_, rfl, rfl⟩, ⟨_, rfl, rfl⟩, trivial⟩ ⟨rfl, trivial⟩ ⟨rfl, trivial⟩ ⟨rfl, trivial⟩ ?_)
              exact to_le (s' := ⟨[(2, HV.fptr [HV.int .i64 p0.1, HV.int .i64 p0.2.1, slE eFromLabelTo p0.2.2] 0), (9, slE eStr a33.2), (10, HV.mp 12030 v5), (33, HV.int .i64 p1), (34, HV.int .i64 (IntKind.wrap .i64 (a6.2.1 + 1)))], [(12030, v5, .map (entE (slE eInt) a33.1))]⟩) (AS.le_of ⟨rfl, rfl, rfl, rfl, rfl, trivial⟩ ⟨rfl, trivial⟩) ⟨(a33.2, IntKind.wrap .i64 (a6.2.1 + 1), a33.1), (), h, rfl⟩
          · refine AW.rgs rfl fun K hK => ?_
            refine bv rfl (v_bin rfl rfl b_lss) ?_
            refine b_nil (hK _ (AW.to (to_le (s' := ⟨[(2, HV.fptr [HV.int .i64 p0.1, HV.int .i64 p0.2.1, slE eFromLabelTo p0.2.2] 0), (10, HV.mp 12030 v5), (11, HV.ar 12071 w11 eStr.k 0 ((a10.2.2).length)), (33, HV.int .i64 p1), (34, HV.int .i64 a6.2.1), (36, slE eStr a6.1), (37, HV.int .i64 ((a6.1).length : Int)), (38, HV.int .i64 a10.1), (39, HV.bool (decide (a10.1 < ((a6.1).length : Int))))], [(12030, v5, .map (entE (slE eInt) a10.2.1)), (12071, w11, .arr eStr.k 9 (eStr.E a10.2.2))]⟩) (AS.le_of ⟨rfl, rfl, rfl, rfl, rfl, rfl, rfl, rfl, rfl, trivial⟩ ⟨rfl, rfl, trivial⟩) ?_)))
            clear hK K
            refine AW.cseq rfl (fun hc => ?_) (fun hc => ?_)
            · have hc := of_decide_eq_true hc
              have h := ifT hc h
              refine AW.skip ?_
              refine AW.seq (AW.block ?_)
              refine AW.rgs rfl fun K hK => ?_
              obtain ⟨x14, h15, h⟩ := bS h
              refine bv rfl (v_idxF ty28 es28 rfl rfl (idx_lt h15)) ?_
              refine bv rfl (v_loadF ty9 rfl (l_cell eStr h15 (o := 0) rfl rfl)) ?_
              refine mv rfl rfl ?_
              refine b_nil (hK _ (AW.to (to_le (s' := ⟨[(2, HV.fptr [HV.int .i64 p0.1, HV.int .i64 p0.2.1, slE eFromLabelTo p0.2.2] 0), (10, HV.mp 12030 v5), (11, HV.ar 12071 w11 eStr.k 0 ((a10.2.2).length)), (13, HV.str x14), (33, HV.int .i64 p1), (34, HV.int .i64 a6.2.1), (36, slE eStr a6.1), (37, HV.int .i64 ((a6.1).length : Int)), (38, HV.int .i64 a10.1)], [(12030, v5, .map (entE (slE eInt) a10.2.1)), (12071, w11, .arr eStr.k 9 (eStr.E a10.2.2))]⟩) (AS.le_of ⟨rfl, rfl, rfl, rfl, rfl, rfl, rfl, rfl, rfl, trivial⟩ ⟨rfl, rfl, trivial⟩) ?_)))
              clear hK K
              refine AW.rgs rfl fun K hK => ?_
              refine bv rfl (v_fieldAddrF fo24_0 rfl) ?_
              refine bv rfl (v_loadF ty3 rfl (l_lit rfl rfl)) ?_
              refine mv rfl rfl ?_
              refine b_nil (hK _ (AW.to (to_le (s' := ⟨[(2, HV.fptr [HV.int .i64 p0.1, HV.int .i64 p0.2.1, slE eFromLabelTo p0.2.2] 0), (10, HV.mp 12030 v5), (11, HV.ar 12071 w11 eStr.k 0 ((a10.2.2).length)), (13, HV.str x14), (33, HV.int .i64 p1), (34, HV.int .i64 a6.2.1), (36, slE eStr a6.1), (37, HV.int .i64 ((a6.1).length : Int)), (38, HV.int .i64 a10.1), (43, HV.int .i64 p0.1), (44, HV.int .i64 0)], [(12030, v5, .map (entE (slE eInt) a10.2.1)), (12071, w11, .arr eStr.k 9 (eStr.E a10.2.2))]⟩) (AS.le_of ⟨rfl, rfl, rfl, rfl, rfl, rfl, rfl, rfl, rfl, rfl, rfl, trivial⟩ ⟨rfl, rfl, trivial⟩) ?_)))
              clear hK K
              refine AW.lpR h (by first | exact up_then | exact up_to) (S := Int × (List (List UInt8 × (List (Int)))) × (List (List UInt8))) (V := Nat) (fun a v => ⟨[(2, HV.fptr [HV.int .i64 p0.1, HV.int .i64 p0.2.1, slE eFromLabelTo p0.2.2] 0), (10, HV.mp 12030 v5), (11, HV.ar 12071 v eStr.k 0 ((a.2.2).length)), (13, HV.str x14), (33, HV.int .i64 p1), (34, HV.int .i64 a6.2.1), (36, slE eStr a6.1), (37, HV.int .i64 ((a6.1).length : Int)), (38, HV.int .i64 a10.1), (43, HV.int .i64 p0.1), (44, HV.int .i64 a.1)], [(12030, v5, .map (entE (slE eInt) a.2.1)), (12071, v, .arr eStr.k 9 (eStr.E a.2.2))]⟩) ?_ (X := (List (List UInt8 × (List (Int)))) × (List (List UInt8))) (W := Nat) (fun a v => ⟨[(2, HV.fptr [HV.int .i64 p0.1, HV.int .i64 p0.2.1, slE eFromLabelTo p0.2.2] 0), (10, HV.mp 12030 v5), (11, HV.ar 12071 v eStr.k 0 ((a.2).length)), (33, HV.int .i64 p1), (34, HV.int .i64 a6.2.1), (36, slE eStr a6.1), (37, HV.int .i64 ((a6.1).length : Int)), (38, HV.int .i64 a10.1)], [(12030, v5, .map (entE (slE eInt) a.1)), (12071, v, .arr eStr.k 9 (eStr.E a.2))]⟩) (fun a30 w31 h => ?_) (fun a16 w17 st18 h hr19=> ?_)
              · exact to_le (s' := ⟨[(2, HV.fptr [HV.int .i64 p0.1, HV.int .i64 p0.2.1, slE eFromLabelTo p0.2.2] 0), (10, HV.mp 12030 v5), (11, HV.ar 12071 w11 eStr.k 0 ((a10.2.2).length)), (13, HV.str x14), (33, HV.int .i64 p1), (34, HV.int .i64 a6.2.1), (36, slE eStr a6.1), (37, HV.int .i64 ((a6.1).length : Int)), (38, HV.int .i64 a10.1), (43, HV.int .i64 p0.1), (44, HV.int .i64 0)], [(12030, v5, .map (entE (slE eInt) a10.2.1)), (12071, w11, .arr eStr.k 9 (eStr.E a10.2.2))]⟩) (AS.le_of ⟨rfl, rfl, rfl, rfl, rfl, rfl, rfl, rfl, rfl, rfl, rfl, trivial⟩ ⟨rfl, rfl, trivial⟩) ⟨w11, rfl⟩
              · refine AW.rg rfl fun K hK => ?_
                refine bv rfl (v_bin rfl rfl b_add) ?_
                refine mv rfl rfl ?_
                refine b_nil (hK _ ?_)
                clear hK K
                exact to_le (s' := ⟨[(2, HV.fptr [HV.int .i64 p0.1, HV.int .i64 p0.2.1, slE eFromLabelTo p0.2.2] 0), (10, HV.mp 12030 v5), (11, HV.ar 12071 w31 eStr.k 0 ((a30.2).length)), (33, HV.int .i64 p1), (34, HV.int .i64 a6.2.1), (36, slE eStr a6.1), (37, HV.int .i64 ((a6.1).length : Int)), (38, HV.int .i64 (IntKind.wrap .i64 (a10.1 + 1)))], [(12030, v5, .map (entE (slE eInt) a30.1)), (12071, w31, .arr eStr.k 9 (eStr.E a30.2))]⟩) (AS.le_of ⟨rfl, rfl, rfl, rfl, rfl, rfl, rfl, rfl, trivial⟩ ⟨rfl, rfl, trivial⟩) ⟨(IntKind.wrap .i64 (a10.1 + 1), a30.1, a30.2), w31, h, rfl⟩
              · refine AW.rgs rfl fun K hK => ?_
                refine bv rfl (v_bin rfl rfl b_lss) ?_
                refine b_nil (hK _ (AW.to (to_le (s' := ⟨[(2, HV.fptr [HV.int .i64 p0.1, HV.int .i64 p0.2.1, slE eFromLabelTo p0.2.2] 0), (10, HV.mp 12030 v5), (11, HV.ar 12071 w17 eStr.k 0 ((a16.2.2).length)), (13, HV.str x14), (33, HV.int .i64 p1), (34, HV.int .i64 a6.2.1), (36, slE eStr a6.1), (37, HV.int .i64 ((a6.1).length : Int)), (38, HV.int .i64 a10.1), (43, HV.int .i64 p0.1), (44, HV.int .i64 a16.1), (45, HV.bool (decide (a16.1 < p0.1)))], [(12030, v5, .map (entE (slE eInt) a16.2.1)), (12071, w17, .arr eStr.k 9 (eStr.E a16.2.2))]⟩) (AS.le_of ⟨rfl, rfl, rfl, rfl, rfl, rfl, rfl, rfl, rfl, rfl, rfl, rfl, trivial⟩ ⟨rfl, rfl, trivial⟩) ?_)))
                clear hK K
                refine AW.cseq rfl (fun hc => ?_) (fun hc => ?_)
                · have hc := of_decide_eq_true hc
                  have h := ifT hc h
                  refine AW.skip ?_
                  refine AW.seq (AW.block ?_)
                  refine AW.rgs rfl fun K hK => ?_
                  refine mv rfl rfl ?_
                  refine mv rfl rfl ?_
                  refine b_nil (hK _ (AW.to (to_le (s' := ⟨[(2, HV.fptr [HV.int .i64 p0.1, HV.int .i64 p0.2.1, slE eFromLabelTo p0.2.2] 0), (10, HV.mp 12030 v5), (11, HV.ar 12071 w17 eStr.k 0 ((a16.2.2).length)), (13, HV.str x14), (14, HV.int .i64 a16.1), (33, HV.int .i64 p1), (34, HV.int .i64 a6.2.1), (36, slE eStr a6.1), (37, HV.int .i64 ((a6.1).length : Int)), (38, HV.int .i64 a10.1), (43, HV.int .i64 p0.1), (44, HV.int .i64 a16.1)], [(12030, v5, .map (entE (slE eInt) a16.2.1)), (12071, w17, .arr eStr.k 9 (eStr.E a16.2.2))]⟩) (AS.le_of ⟨rfl, rfl, rfl, rfl, rfl, rfl, rfl, rfl, rfl, rfl, rfl, rfl, trivial⟩ ⟨rfl, rfl, trivial⟩) ?_)))
                  clear hK K
                  refine AW.rgs rfl fun K hK => ?_
                  refine mv rfl rfl ?_
                  obtain ⟨x20, h21, h⟩ := bS h
                  refine bv rfl (v_idxS ty9 rfl rfl h21) ?_
                  refine mv rfl rfl ?_
                  refine b_nil (hK _ (AW.to (to_le (s' := ⟨[(2, HV.fptr [HV.int .i64 p0.1, HV.int .i64 p0.2.1, slE eFromLabelTo p0.2.2] 0), (10, HV.mp 12030 v5), (11, HV.ar 12071 w17 eStr.k 0 ((a16.2.2).length)), (13, HV.str x14), (15, HV.int .u8 (x20.toNat : Int)), (33, HV.int .i64 p1), (34, HV.int .i64 a6.2.1), (36, slE eStr a6.1), (37, HV.int .i64 ((a6.1).length : Int)), (38, HV.int .i64 a10.1), (43, HV.int .i64 p0.1), (44, HV.int .i64 a16.1)], [(12030, v5, .map (entE (slE eInt) a16.2.1)), (12071, w17, .arr eStr.k 9 (eStr.E a16.2.2))]⟩) (AS.le_of ⟨rfl, rfl, rfl, rfl, rfl, rfl, rfl, rfl, rfl, rfl, rfl, rfl, trivial⟩ ⟨rfl, rfl, trivial⟩) ?_)))
                  clear hK K
                  refine AW.rgs rfl fun K hK => ?_
                  refine bv rfl (v_loadF ty24 rfl (l_litA rfl (Nat.le_of_ble_eq_true rfl) rfl)) ?_
                  refine mv rfl rfl ?_
                  refine mv rfl rfl ?_
                  obtain ⟨x22, h23, h⟩ := bS h
                  refine b_op rfl (o_look (fid := 12) (slE eInt) (es := a16.2.1) (k := x14) (v := x22) rfl ty47 ty9 ty41 rfl rfl rfl rfl (look_some h23) ?_)
                  refine mv rfl rfl ?_
                  obtain ⟨x24, h25, h⟩ := bS h
                  refine b_op rfl (o_call rfl rfl rfl rfl (ACallD.pure0 (w_language_step h25)) ?_)
                  refine mv rfl rfl ?_
                  refine b_nil (hK _ (AW.to (to_le (s' := ⟨[(2, HV.fptr [HV.int .i64 p0.1, HV.int .i64 p0.2.1, slE eFromLabelTo p0.2.2] 0), (10, HV.mp 12030 v5), (11, HV.ar 12071 w17 eStr.k 0 ((a16.2.2).length)), (13, HV.str x14), (15, HV.int .u8 (x20.toNat : Int)), (16, slE eInt x24), (33, HV.int .i64 p1), (34, HV.int .i64 a6.2.1), (36, slE eStr a6.1), (37, HV.int .i64 ((a6.1).length : Int)), (38, HV.int .i64 a10.1), (43, HV.int .i64 p0.1), (44, HV.int .i64 a16.1)], [(12030, v5, .map (entE (slE eInt) a16.2.1)), (12071, w17, .arr eStr.k 9 (eStr.E a16.2.2))]⟩) (AS.le_of ⟨rfl, rfl, rfl, rfl, rfl, rfl, rfl, rfl, rfl, rfl, rfl, rfl, rfl, trivial⟩ ⟨rfl, rfl, trivial⟩) ?_)))
                  clear hK K
                  refine AW.seq ?_
                  refine AW.rgs rfl fun K hK => ?_
                  refine mv rfl rfl ?_
                  refine bv rfl (v_lenF rfl rfl ty41 rfl) ?_
                  refine bv rfl (v_bin rfl rfl b_eql) ?_
                  refine b_nil (hK _ (AW.to (to_le (s' := ⟨[(2, HV.fptr [HV.int .i64 p0.1, HV.int .i64 p0.2.1, slE eFromLabelTo p0.2.2] 0), (10, HV.mp 12030 v5), (11, HV.ar 12071 w17 eStr.k 0 ((a16.2.2).length)), (13, HV.str x14), (15, HV.int .u8 (x20.toNat : Int)), (16, slE eInt x24), (33, HV.int .i64 p1), (34, HV.int .i64 a6.2.1), (36, slE eStr a6.1), (37, HV.int .i64 ((a6.1).length : Int)), (38, HV.int .i64 a10.1), (43, HV.int .i64 p0.1), (44, HV.int .i64 a16.1), (57, HV.bool (decide (((x24).length : Int) = 0)))], [(12030, v5, .map (entE (slE eInt) a16.2.1)), (12071, w17, .arr eStr.k 9 (eStr.E a16.2.2))]⟩) (AS.le_of ⟨rfl, rfl, rfl, rfl, rfl, rfl, rfl, rfl, rfl, rfl, rfl, rfl, rfl, rfl, trivial⟩ ⟨rfl, rfl, trivial⟩) ?_)))
                  clear hK K
                  refine AW.cond rfl (fun hc => ?_) (fun hc => ?_)
                  · have hc := of_decide_eq_true hc
                    have h := ifT hc h
                    refine AW.rgs rfl fun K hK => ?_
                    refine mv rfl rfl ?_
                    refine mv rfl rfl ?_
                    refine bv rfl (v_convR ty5 ty9 rfl) ?_
                    obtain ⟨h26, h⟩ := ifN h
                    refine bv rfl (v_bin rfl rfl (b_sadd h26)) ?_
                    refine mv rfl rfl ?_
                    refine mv rfl rfl ?_
                    refine mv rfl rfl ?_
                    refine b_nil (hK _ (AW.to (to_le (s' := ⟨[(4, HV.str (x14 ++ ((Utf8.encode (x20.toNat : Int)).data.toList))), (5, HV.bool true), (6, HV.int .i64 0)], []⟩) (AS.le_of ⟨rfl, rfl, rfl, trivial⟩ trivial) ?_)))
                    clear hK K
                    have h := hr19 _ h
                    have h := hr13 _ h
                    have h := hr9 _ h
                    refine AW.ret ?_
                    have h := Option.some.inj h
                    subst h
                    exact ret_pure (hs := [HV.str (x14 ++ ((Utf8.encode (x20.toNat : Int)).data.toList)), HV.bool true, HV.int .i64 0]) (q := HV.tup [HV.str (x14 ++ ((Utf8.encode (x20.toNat : Int)).data.toList)), HV.bool true, HV.int .i64 0]) (.inr rfl) (resT rfl (resT rfl (resT rfl rfl))) rfl ⟨trivial, trivial, trivial, trivial⟩
                  · have hc := of_decide_eq_false hc
                    have h := ifF hc h
                    refine AW.skip ?_
                    refine AW.rgs rfl fun K hK => ?_
                    refine mv rfl rfl ?_
                    refine mv rfl rfl ?_
                    refine bv rfl (v_convR ty5 ty9 rfl) ?_
                    obtain ⟨h27, h⟩ := ifN h
                    refine bv rfl (v_bin rfl rfl (b_sadd h27)) ?_
                    refine mv rfl rfl ?_
                    refine b_nil (hK _ (AW.to (to_le (s' := ⟨[(2, HV.fptr [HV.int .i64 p0.1, HV.int .i64 p0.2.1, slE eFromLabelTo p0.2.2] 0), (10, HV.mp 12030 v5), (11, HV.ar 12071 w17 eStr.k 0 ((a16.2.2).length)), (13, HV.str x14), (16, slE eInt x24), (17, HV.str (x14 ++ ((Utf8.encode (x20.toNat : Int)).data.toList))), (33, HV.int .i64 p1), (34, HV.int .i64 a6.2.1), (36, slE eStr a6.1), (37, HV.int .i64 ((a6.1).length : Int)), (38, HV.int .i64 a10.1), (43, HV.int .i64 p0.1), (44, HV.int .i64 a16.1)], [(12030, v5, .map (entE (slE eInt) a16.2.1)), (12071, w17, .arr eStr.k 9 (eStr.E a16.2.2))]⟩) (AS.le_of ⟨rfl, rfl, rfl, rfl, rfl, rfl, rfl, rfl, rfl, rfl, rfl, rfl, rfl, trivial⟩ ⟨rfl, rfl, trivial⟩) ?_)))
                    clear hK K
                    refine AW.rg rfl fun K hK => ?_
                    refine mv rfl rfl ?_
                    refine mv rfl rfl ?_
                    refine mv rfl rfl ?_
                    refine mv rfl rfl ?_
                    refine b_op rfl (o_bsl rfl rfl (as_of (cs := [HV.str (x14 ++ ((Utf8.encode (x20.toNat : Int)).data.toList))]) ty28 ty9 rfl rfl rfl rfl rfl) ?_)
                    obtain ⟨h29, h⟩ := ifN h
                    refine b_op rfl (o_appE eStr (l := a16.2.2) (m := [x14 ++ ((Utf8.encode (x20.toNat : Int)).data.toList)]) rfl rfl ty28 ty28 ty9 rfl rfl rfl rfl rfl h29 (fun v28 => ?_))
                    refine mv rfl rfl ?_
                    refine mv rfl rfl ?_
                    refine b_op rfl (o_mapSet (slE eInt) (es := a16.2.1) (k := (x14 ++ ((Utf8.encode (x20.toNat : Int)).data.toList))) (v := x24) (.inl rfl) ty47 ty9 rfl rfl rfl rfl trivial ?_)
                    refine b_nil (hK _ (AW.to (to_le (s' := ⟨[(2, HV.fptr [HV.int .i64 p0.1, HV.int .i64 p0.2.1, slE eFromLabelTo p0.2.2] 0), (10, HV.mp 12030 v5), (11, HV.ar 12071 v28 eStr.k 0 ((a16.2.2 ++ [x14 ++ ((Utf8.encode (x20.toNat : Int)).data.toList)]).length)), (13, HV.str x14), (33, HV.int .i64 p1), (34, HV.int .i64 a6.2.1), (36, slE eStr a6.1), (37, HV.int .i64 ((a6.1).length : Int)), (38, HV.int .i64 a10.1), (43, HV.int .i64 p0.1), (44, HV.int .i64 a16.1)], [(12030, v5, .map (entE (slE eInt) (mputN (x14 ++ ((Utf8.encode (x20.toNat : Int)).data.toList)) x24 a16.2.1))), (12071, v28, .arr eStr.k 9 (eStr.E (a16.2.2 ++ [x14 ++ ((Utf8.encode (x20.toNat : Int)).data.toList)])))]⟩) (AS.le_of ⟨rfl, rfl, rfl, rfl, rfl, rfl, rfl, rfl, rfl, rfl, rfl, trivial⟩ ⟨rfl, rfl, trivial⟩) ?_)))
                    clear hK K
                    refine AW.rg rfl fun K hK => ?_
                    refine bv rfl (v_bin rfl rfl b_add) ?_
                    refine mv rfl rfl ?_
                    refine b_nil (hK _ ?_)
                    clear hK K
                    exact to_le (s' := ⟨[(2, HV.fptr [HV.int .i64 p0.1, HV.int .i64 p0.2.1, slE eFromLabelTo p0.2.2] 0), (10, HV.mp 12030 v5), (11, HV.ar 12071 v28 eStr.k 0 ((a16.2.2 ++ [x14 ++ ((Utf8.encode (x20.toNat : Int)).data.toList)]).length)), (13, HV.str x14), (33, HV.int .i64 p1), (34, HV.int .i64 a6.2.1), (36, slE eStr a6.1), (37, HV.int .i64 ((a6.1).length : Int)), (38, HV.int .i64 a10.1), (43, HV.int .i64 p0.1), (44, HV.int .i64 (IntKind.wrap .i64 (a16.1 + 1)))], [(12030, v5, .map (entE (slE eInt) (mputN (x14 ++ ((Utf8.encode (x20.toNat : Int)).data.toList)) x24 a16.2.1))), (12071, v28, .arr eStr.k 9 (eStr.E (a16.2.2 ++ [x14 ++ ((Utf8.encode (x20.toNat : Int)).data.toList)])))]⟩) (AS.le_of ⟨rfl, rfl, rfl, rfl, rfl, rfl, rfl, rfl, rfl, rfl, rfl, trivial⟩ ⟨rfl, rfl, trivial⟩) ⟨(IntKind.wrap .i64 (a16.1 + 1), mputN (x14 ++ ((Utf8.encode (x20.toNat : Int)).data.toList)) x24 a16.2.1, a16.2.2 ++ [x14 ++ ((Utf8.encode (x20.toNat : Int)).data.toList)]), v28, h, rfl⟩
                · have hc := of_decide_eq_false hc
                  have h := ifF hc h
                  refine AW.exit ?_
                  exact to_le (s' := ⟨[(2, HV.fptr [HV.int .i64 p0.1, HV.int .i64 p0.2.1, slE eFromLabelTo p0.2.2] 0), (10, HV.mp 12030 v5), (11, HV.ar 12071 w17 eStr.k 0 ((a16.2.2).length)), (33, HV.int .i64 p1), (34, HV.int .i64 a6.2.1), (36, slE eStr a6.1), (37, HV.int .i64 ((a6.1).length : Int)), (38, HV.int .i64 a10.1)], [(12030, v5, .map (entE (slE eInt) a16.2.1)), (12071, w17, .arr eStr.k 9 (eStr.E a16.2.2))]⟩) (AS.le_of ⟨rfl, rfl, rfl, rfl, rfl, rfl, rfl, rfl, trivial⟩ ⟨rfl, rfl, trivial⟩) ⟨(a16.2.1, a16.2.2), w17, h, rfl⟩
            · have hc := of_decide_eq_false hc
              have h := ifF hc h
              refine AW.exit ?_
              exact to_le (s' := ⟨[(2, HV.fptr [HV.int .i64 p0.1, HV.int .i64 p0.2.1, slE eFromLabelTo p0.2.2] 0), (10, HV.mp 12030 v5), (11, HV.ar 12071 w11 eStr.k 0 ((a10.2.2).length)), (33, HV.int .i64 p1), (34, HV.int .i64 a6.2.1)], [(12030, v5, .map (entE (slE eInt) a10.2.1)), (12071, w11, .arr eStr.k 9 (eStr.E a10.2.2))]⟩) (AS.le_of ⟨rfl, rfl, rfl, rfl, rfl, trivial⟩ ⟨rfl, rfl, trivial⟩) ⟨(a10.2.1, a10.2.2), w11, h, rfl⟩
        · have hc := of_decide_eq_false hc
          have h := ifF hc h
          refine AW.exit ?_
          exact to_le (s' := ⟨[], []⟩) (AS.le_of trivial trivial) ⟨(), (), h, rfl⟩

set_option maxHeartbeats 1600000 in
set_option maxRecDepth 100000 in
theorem w_law11_golden  {r : TLabelsStatesEdges} (h : m_law11_golden  = some r) : Pure Try.prog 15 [] (· = HV.agg [HV.int .i64 r.1, HV.int .i64 r.2.1, slE eFromLabelTo r.2.2]) := by
  unfold m_law11_golden at h
  refine Pure.of_body Try.func15 rfl rfl (Nat.le_of_ble_eq_true rfl) fun hf => ?_
  unfold Try.f15
  dsimp only [enumS, Nat.reduceAdd]
  refine AW.rgs rfl fun K hK => ?_
  refine b_op rfl (o_alloc (fid := 15) (zs := [HV.int .i64 0, HV.int .i64 0, HV.v (.slice none 0 0)]) 15000 rfl rfl ty24 rfl (fun v1 => ?_))
  refine b_nil (hK _ (AW.to (to_le (s' := ⟨[(0, HV.ptr 15000 v1 0)], [(15000, v1, .arr 3 24 [HV.int .i64 0, HV.int .i64 0, HV.v (.slice none 0 0)])]⟩) (AS.le_of ⟨rfl, trivial⟩ ⟨rfl, trivial⟩) ?_)))
  clear hK K
  refine AW.rgs rfl fun K hK => ?_
  refine b_op rfl (o_build (cs := [HV.int .i64 0, HV.int .i64 0, HV.int .i64 0]) rfl (bl_of ty64 rfl rfl rfl rfl) ?_)
  refine b_op rfl (o_build (cs := [HV.int .i64 0, HV.int .i64 1, HV.int .i64 1]) rfl (bl_of ty64 rfl rfl rfl rfl) ?_)
  refine b_op rfl (o_build (cs := [HV.int .i64 1, HV.int .i64 0, HV.int .i64 0]) rfl (bl_of ty64 rfl rfl rfl rfl) ?_)
  refine b_op rfl (o_bsl rfl rfl (as_of (cs := [HV.int .i64 0, HV.int .i64 0, HV.int .i64 0, HV.int .i64 0, HV.int .i64 1, HV.int .i64 1, HV.int .i64 1, HV.int .i64 0, HV.int .i64 0]) ty22 ty64 rfl rfl rfl rfl rfl) ?_)
  refine b_op rfl (o_build (cs := [HV.int .i64 2, HV.int .i64 2, slE eFromLabelTo [(0, 0, 0), (0, 1, 1), (1, 0, 0)]]) rfl (bl_of ty24 rfl rfl rfl rfl) ?_)
  refine b_op rfl (o_store (cs := [HV.int .i64 2, HV.int .i64 2, slE eFromLabelTo [(0, 0, 0), (0, 1, 1), (1, 0, 0)]]) (zs := [HV.int .i64 2, HV.int .i64 2, slE eFromLabelTo [(0, 0, 0), (0, 1, 1), (1, 0, 0)]]) rfl rfl rfl ty24 rfl rfl rfl rfl rfl ?_)
  refine b_nil (hK _ (AW.to (to_le (s' := ⟨[(0, HV.ptr 15000 v1 0)], [(15000, v1, .arr 3 24 [HV.int .i64 2, HV.int .i64 2, slE eFromLabelTo [(0, 0, 0), (0, 1, 1), (1, 0, 0)]])]⟩) (AS.le_of ⟨rfl, trivial⟩ ⟨rfl, trivial⟩) ?_)))
  clear hK K
  refine AW.ret ?_
  have h := Option.some.inj h
  subst h
  exact ret_pure (hs := [HV.agg [HV.int .i64 2, HV.int .i64 2, slE eFromLabelTo [(0, 0, 0), (0, 1, 1), (1, 0, 0)]]]) (q := HV.agg [HV.int .i64 2, HV.int .i64 2, slE eFromLabelTo [(0, 0, 0), (0, 1, 1), (1, 0, 0)]]) (.inr rfl) (resP ty24 rfl rfl (l_litA rfl (Nat.le_of_ble_eq_true rfl) rfl) rfl) rfl ⟨trivial, trivial, (clean_slE fun _ _ => ⟨trivial, trivial, trivial, trivial⟩), trivial⟩

set_option maxHeartbeats 1600000 in
set_option maxRecDepth 100000 in
theorem w_slices_Index_Lbool_bool {p0 : List (Bool)} {p1 : Bool} {r : Int} (h : m_slices_Index_Lbool_bool p0 p1 = some r) : Pure Try.prog 49 [slE eBool p0, HV.bool p1] (· = HV.int .i64 r) := by
  unfold m_slices_Index_Lbool_bool at h
  refine Pure.of_body Try.func49 rfl rfl (Nat.le_of_ble_eq_true rfl) fun hf => ?_
  unfold Try.f49
  dsimp only [enumS, Nat.reduceAdd]
  refine AW.rgs rfl fun K hK => ?_
  refine mv rfl rfl ?_
  refine b_nil (hK _ (AW.to (to_le (s' := ⟨[(0, slE eBool p0), (1, HV.bool p1)], []⟩) (AS.le_of ⟨rfl, rfl, trivial⟩ trivial) ?_)))
  clear hK K
  refine AW.seq ?_
  refine AW.rgs rfl fun K hK => ?_
  refine mv rfl rfl ?_
  refine bv rfl (v_lenF rfl rfl ty67 rfl) ?_
  refine mv rfl rfl ?_
  refine b_nil (hK _ (AW.to (to_le (s' := ⟨[(0, slE eBool p0), (1, HV.bool p1), (7, HV.int .i64 ((p0).length : Int)), (8, HV.int .i64 0)], []⟩) (AS.le_of ⟨rfl, rfl, rfl, rfl, trivial⟩ trivial) ?_)))
  clear hK K
  refine AW.lpR h (by first | exact up_then | exact up_to) (S := Int) (V := Unit) (fun a v => ⟨[(0, slE eBool p0), (1, HV.bool p1), (7, HV.int .i64 ((p0).length : Int)), (8, HV.int .i64 a)], []⟩) ?_ (X := Unit) (W := Unit) (fun a v => ⟨[], []⟩) (fun a7 w8 h => ?_) (fun a1 w2 st3 h hr4=> ?_)
  · exact to_le (s' := ⟨[(0, slE eBool p0), (1, HV.bool p1), (7, HV.int .i64 ((p0).length : Int)), (8, HV.int .i64 0)], []⟩) (AS.le_of ⟨rfl, rfl, rfl, rfl, trivial⟩ trivial) ⟨(), rfl⟩
  · refine AW.rgs rfl fun K hK => ?_
    refine mv rfl rfl ?_
    refine b_nil (hK _ (AW.to (to_le (s' := ⟨[(4, HV.int .i64 (-1))], []⟩) (AS.le_of ⟨rfl, trivial⟩ trivial) ?_)))
    clear hK K
    refine AW.ret ?_
    have h := Option.some.inj h
    subst h
    exact ret_pure (hs := [HV.int .i64 (-1)]) (q := HV.int .i64 (-1)) (.inr rfl) (resT rfl rfl) rfl trivial
  · refine AW.rgs rfl fun K hK => ?_
    refine bv rfl (v_bin rfl rfl b_lss) ?_
    refine b_nil (hK _ (AW.to (to_le (s' := ⟨[(0, slE eBool p0), (1, HV.bool p1), (7, HV.int .i64 ((p0).length : Int)), (8, HV.int .i64 a1), (9, HV.bool (decide (a1 < ((p0).length : Int))))], []⟩) (AS.le_of ⟨rfl, rfl, rfl, rfl, rfl, trivial⟩ trivial) ?_)))
    clear hK K
    refine AW.cseq rfl (fun hc => ?_) (fun hc => ?_)
    · have hc := of_decide_eq_true hc
      have h := ifT hc h
      refine AW.skip ?_
      refine AW.seq (AW.block ?_)
      refine AW.rgs rfl fun K hK => ?_
      refine mv rfl rfl ?_
      refine mv rfl rfl ?_
      refine b_nil (hK _ (AW.to (to_le (s' := ⟨[(0, slE eBool p0), (1, HV.bool p1), (5, HV.int .i64 a1), (7, HV.int .i64 ((p0).length : Int)), (8, HV.int .i64 a1)], []⟩) (AS.le_of ⟨rfl, rfl, rfl, rfl, rfl, trivial⟩ trivial) ?_)))
      clear hK K
      refine AW.rgs rfl fun K hK => ?_
      refine mv rfl rfl ?_
      refine mv rfl rfl ?_
      refine mv rfl rfl ?_
      obtain ⟨x5, h6, h⟩ := bS h
      refine bv rfl (v_idxF ty67 es67 rfl rfl (idx_lt h6)) ?_
      refine bv rfl (v_loadF ty4 rfl (l_cell eBool h6 (o := 0) rfl rfl)) ?_
      refine bv rfl (v_bin rfl rfl (b_eqB ty4)) ?_
      refine b_nil (hK _ (AW.to (to_le (s' := ⟨[(0, slE eBool p0), (1, HV.bool p1), (5, HV.int .i64 a1), (7, HV.int .i64 ((p0).length : Int)), (8, HV.int .i64 a1), (16, HV.bool (p1 == x5))], []⟩) (AS.le_of ⟨rfl, rfl, rfl, rfl, rfl, rfl, trivial⟩ trivial) ?_)))
      clear hK K
      refine AW.cond rfl (fun hc => ?_) (fun hc => ?_)
      · have h := ifT hc h
        refine AW.rgs rfl fun K hK => ?_
        refine mv rfl rfl ?_
        refine mv rfl rfl ?_
        refine b_nil (hK _ (AW.to (to_le (s' := ⟨[(4, HV.int .i64 a1)], []⟩) (AS.le_of ⟨rfl, trivial⟩ trivial) ?_)))
        clear hK K
        have h := hr4 _ h
        refine AW.ret ?_
        have h := Option.some.inj h
        subst h
        exact ret_pure (hs := [HV.int .i64 a1]) (q := HV.int .i64 a1) (.inr rfl) (resT rfl rfl) rfl trivial
      · have h := ifF (bF' hc) h
        refine AW.skip ?_
        refine AW.rg rfl fun K hK => ?_
        refine bv rfl (v_bin rfl rfl b_add) ?_
        refine mv rfl rfl ?_
        refine b_nil (hK _ ?_)
        clear hK K
        exact to_le (s' := ⟨[(0, slE eBool p0), (1, HV.bool p1), (7, HV.int .i64 ((p0).length : Int)), (8, HV.int .i64 (IntKind.wrap .i64 (a1 + 1)))], []⟩) (AS.le_of ⟨rfl, rfl, rfl, rfl, trivial⟩ trivial) ⟨IntKind.wrap .i64 (a1 + 1), (), h, rfl⟩
    · have hc := of_decide_eq_false hc
      have h := ifF hc h
      refine AW.exit ?_
      exact to_le (s' := ⟨[], []⟩) (AS.le_of trivial trivial) ⟨(), (), h, rfl⟩

set_option maxHeartbeats 1600000 in
set_option maxRecDepth 100000 in
theorem w_slices_Contains_Lbool_bool {p0 : List (Bool)} {p1 : Bool} {r : Bool} (h : m_slices_Contains_Lbool_bool p0 p1 = some r) : Pure Try.prog 33 [slE eBool p0, HV.bool p1] (· = HV.bool r) := by
  unfold m_slices_Contains_Lbool_bool at h
  refine Pure.of_body Try.func33 rfl rfl (Nat.le_of_ble_eq_true rfl) fun hf => ?_
  unfold Try.f33
  dsimp only [enumS, Nat.reduceAdd]
  refine AW.rgs rfl fun K hK => ?_
  refine mv rfl rfl ?_
  refine b_nil (hK _ (AW.to (to_le (s' := ⟨[(0, slE eBool p0), (1, HV.bool p1)], []⟩) (AS.le_of ⟨rfl, rfl, trivial⟩ trivial) ?_)))
  clear hK K
  refine AW.rgs rfl fun K hK => ?_
  refine mv rfl rfl ?_
  refine mv rfl rfl ?_
  obtain ⟨x1, h2, h⟩ := bS h
  refine b_op rfl (o_call rfl rfl rfl rfl (ACallD.pure0 (w_slices_Index_Lbool_bool h2)) ?_)
  refine bv rfl (v_bin rfl rfl b_geq) ?_
  refine mv rfl rfl ?_
  refine b_nil (hK _ (AW.to (to_le (s' := ⟨[(4, HV.bool (decide (0 ≤ x1)))], []⟩) (AS.le_of ⟨rfl, trivial⟩ trivial) ?_)))
  clear hK K
  refine AW.ret ?_
  have h := Option.some.inj h
  subst h
  exact ret_pure (hs := [HV.bool (decide (0 ≤ x1))]) (q := HV.bool (decide (0 ≤ x1))) (.inr rfl) (resT rfl rfl) rfl trivial

end Go.AW

namespace Go.AW
open Go Go.Proofs
set_option linter.unusedVariables false
set_option maxHeartbeats 1600000 in
set_option maxRecDepth 100000 in
theorem w_language_Path {p0 : TLabelsStatesEdges} {p1 : List UInt8} {r : (List (Int)) × Int} (h : m_language_Path p0 p1 = some r) : Pure Try.prog 16 [HV.agg [HV.int .i64 p0.1, HV.int .i64 p0.2.1, slE eFromLabelTo p0.2.2], HV.str p1] (· = HV.tup [slE eInt r.1, HV.int .i64 r.2]) := by
  unfold m_language_Path at h
  refine Pure.of_body Try.func16 rfl rfl (Nat.le_of_ble_eq_true rfl) fun hf => ?_
  unfold Try.f16
  dsimp only [enumS, Nat.reduceAdd]
  refine AW.rgs rfl fun K hK => ?_
  refine b_op rfl (o_box rfl rfl rfl ?_)
  refine mv rfl rfl ?_
  refine mv rfl rfl ?_
  refine b_nil (hK _ (AW.to (to_le (s' := ⟨[(1, HV.str p1), (2, HV.fptr [HV.int .i64 p0.1, HV.int .i64 p0.2.1, slE eFromLabelTo p0.2.2] 0)], []⟩) (AS.le_of ⟨rfl, rfl, trivial⟩ trivial) ?_)))
  clear hK K
  refine AW.seq ?_
  refine AW.rgs rfl fun K hK => ?_
  refine bv rfl (v_loadF ty24 rfl (l_litA rfl (Nat.le_of_ble_eq_true rfl) rfl)) ?_
  refine mv rfl rfl ?_
  obtain ⟨x1, h2, h⟩ := bS h
  refine b_op rfl (o_call rfl rfl rfl rfl (ACallD.pure0 (w_language_spells h2)) ?_)
  refine mv rfl rfl ?_
  refine b_nil (hK _ (AW.to (to_le (s' := ⟨[(1, HV.str p1), (2, HV.fptr [HV.int .i64 p0.1, HV.int .i64 p0.2.1, slE eFromLabelTo p0.2.2] 0), (6, HV.int .i64 x1)], []⟩) (AS.le_of ⟨rfl, rfl, rfl, trivial⟩ trivial) ?_)))
  clear hK K
  refine AW.rgs rfl fun K hK => ?_
  refine mv rfl rfl ?_
  refine bv rfl (v_bin rfl rfl b_neq) ?_
  refine b_nil (hK _ (AW.to (to_le (s' := ⟨[(1, HV.str p1), (2, HV.fptr [HV.int .i64 p0.1, HV.int .i64 p0.2.1, slE eFromLabelTo p0.2.2] 0), (6, HV.int .i64 x1), (19, HV.bool (decide (x1 ≠ 0)))], []⟩) (AS.le_of ⟨rfl, rfl, rfl, rfl, trivial⟩ trivial) ?_)))
  clear hK K
  refine AW.cond rfl (fun hc => ?_) (fun hc => ?_)
  · have hc := of_decide_eq_true hc
    have h := ifT hc h
    refine AW.rgs rfl fun K hK => ?_
    refine mv rfl rfl ?_
    refine mv rfl rfl ?_
    refine mv rfl rfl ?_
    refine b_nil (hK _ (AW.to (to_le (s' := ⟨[(4, HV.v (.slice none 0 0)), (5, HV.int .i64 x1)], []⟩) (AS.le_of ⟨rfl, rfl, trivial⟩ trivial) ?_)))
    clear hK K
    refine AW.to (to_weak ⟨[(4, slE eInt ([] : List Int)), (5, HV.int .i64 x1)], []⟩ ⟨⟨_, rfl, .nil _⟩, ⟨_, rfl, .refl _⟩, trivial⟩ trivial ?_)
    refine AW.ret ?_
    have h := Option.some.inj h
    subst h
    exact ret_pure (hs := [slE eInt ([] : List Int), HV.int .i64 x1]) (q := HV.tup [slE eInt ([] : List Int), HV.int .i64 x1]) (.inr rfl) (resT rfl (resT rfl rfl)) rfl ⟨(clean_slE fun _ _ => ⟨trivial, trivial⟩), trivial, trivial⟩
  · have hc := of_decide_eq_false hc
    have h := ifF hc h
    refine AW.skip ?_
    refine AW.rgs rfl fun K hK => ?_
    refine mv rfl rfl ?_
    refine bv rfl (v_lenS rfl rfl ty9 rfl) ?_
    refine bv rfl (v_bin rfl rfl b_add) ?_
    obtain ⟨h4, h⟩ := ifN h
    refine b_op rfl (o_makeN (fid := 16) eBool 16024 rfl rfl ty66 rfl rfl ty67 rfl rfl h4 (fun v3 => ?_))
    refine mv rfl rfl ?_
    refine b_nil (hK _ (AW.to (to_le (s' := ⟨[(1, HV.str p1), (2, HV.fptr [HV.int .i64 p0.1, HV.int .i64 p0.2.1, slE eFromLabelTo p0.2.2] 0), (7, HV.ar 16024 v3 (eSl eBool).k 0 ((List.replicate (IntKind.wrap .i64 (((p1).length : Int) + 1)).toNat ([] : List (Bool))).length))], [(16024, v3, .arr (eSl eBool).k 67 ((eSl eBool).E (List.replicate (IntKind.wrap .i64 (((p1).length : Int) + 1)).toNat ([] : List (Bool)))))]⟩) (AS.le_of ⟨rfl, rfl, rfl, trivial⟩ ⟨rfl, trivial⟩) ?_)))
    clear hK K
    refine AW.rgs rfl fun K hK => ?_
    refine mv rfl rfl ?_
    refine mv rfl rfl ?_
    refine bv rfl (v_lenS rfl rfl ty9 rfl) ?_
    refine b_op rfl (o_bsl rfl rfl (as_of (cs := [HV.bool true]) ty67 ty4 rfl rfl rfl rfl rfl) ?_)
    refine bv rfl (v_fieldAddrF fo24_1 rfl) ?_
    refine bv rfl (v_loadF ty3 rfl (l_lit rfl rfl)) ?_
    obtain ⟨x5, h6, h⟩ := bS h
    refine b_op rfl (o_call rfl rfl rfl rfl (ACallD.pure0 (w_slices_Repeat_Lbool_bool h6)) ?_)
    obtain ⟨x7, h8, h⟩ := bS h
    refine bv rfl (v_idxA ty66 es66 rfl rfl (idx_lt h8) rfl) ?_
    refine b_op rfl (o_storeE (eSl eBool) (l := (List.replicate (IntKind.wrap .i64 (((p1).length : Int) + 1)).toNat ([] : List (Bool)))) (j := ((p1).length : Int)) (v := x5) rfl rfl rfl ty67 rfl rfl rfl (idx_lt h8) ?_)
    refine b_nil (hK _ (AW.to (to_le (s' := ⟨[(1, HV.str p1), (2, HV.fptr [HV.int .i64 p0.1, HV.int .i64 p0.2.1, slE eFromLabelTo p0.2.2] 0), (7, HV.ar 16024 v3 (eSl eBool).k 0 (((List.replicate (IntKind.wrap .i64 (((p1).length : Int) + 1)).toNat ([] : List (Bool))).set (((p1).length : Int)).toNat x5).length))], [(16024, v3, .arr (eSl eBool).k 67 ((eSl eBool).E ((List.replicate (IntKind.wrap .i64 (((p1).length : Int) + 1)).toNat ([] : List (Bool))).set (((p1).length : Int)).toNat x5)))]⟩) (AS.le_of ⟨rfl, rfl, arl (by first | rfl | simp only [List.length_set, sortI_len, sortS_len]), trivial⟩ ⟨rfl, trivial⟩) ?_)))
    clear hK K
    refine AW.seq ?_
    refine AW.rgs rfl fun K hK => ?_
    refine mv rfl rfl ?_
    refine bv rfl (v_lenS rfl rfl ty9 rfl) ?_
    refine bv rfl (v_bin rfl rfl b_sub) ?_
    refine mv rfl rfl ?_
    refine b_nil (hK _ (AW.to (to_le (s' := ⟨[(1, HV.str p1), (2, HV.fptr [HV.int .i64 p0.1, HV.int .i64 p0.2.1, slE eFromLabelTo p0.2.2] 0), (7, HV.ar 16024 v3 (eSl eBool).k 0 (((List.replicate (IntKind.wrap .i64 (((p1).length : Int) + 1)).toNat ([] : List (Bool))).set (((p1).length : Int)).toNat x5).length)), (8, HV.int .i64 (IntKind.wrap .i64 (((p1).length : Int) - 1)))], [(16024, v3, .arr (eSl eBool).k 67 ((eSl eBool).E ((List.replicate (IntKind.wrap .i64 (((p1).length : Int) + 1)).toNat ([] : List (Bool))).set (((p1).length : Int)).toNat x5)))]⟩) (AS.le_of ⟨rfl, rfl, rfl, rfl, trivial⟩ ⟨rfl, trivial⟩) ?_)))
    clear hK K
    refine AW.lpX h (by first | exact up_then | exact up_to) (S := Int × (List (List (Bool)))) (V := Unit) (fun a v => ⟨[(1, HV.str p1), (2, HV.fptr [HV.int .i64 p0.1, HV.int .i64 p0.2.1, slE eFromLabelTo p0.2.2] 0), (7, HV.ar 16024 v3 (eSl eBool).k 0 ((a.2).length)), (8, HV.int .i64 a.1)], [(16024, v3, .arr (eSl eBool).k 67 ((eSl eBool).E a.2))]⟩) ?_ (X := (List (List (Bool)))) (W := Unit) (fun a v => ⟨[(1, HV.str p1), (2, HV.fptr [HV.int .i64 p0.1, HV.int .i64 p0.2.1, slE eFromLabelTo p0.2.2] 0), (7, HV.ar 16024 v3 (eSl eBool).k 0 ((a).length))], [(16024, v3, .arr (eSl eBool).k 67 ((eSl eBool).E a))]⟩) (fun a48 w49 h => ?_) (fun a9 w10 st11 h => ?_)
    · exact to_le (s' := ⟨[(1, HV.str p1), (2, HV.fptr [HV.int .i64 p0.1, HV.int .i64 p0.2.1, slE eFromLabelTo p0.2.2] 0), (7, HV.ar 16024 v3 (eSl eBool).k 0 (((List.replicate (IntKind.wrap .i64 (((p1).length : Int) + 1)).toNat ([] : List (Bool))).set (((p1).length : Int)).toNat x5).length)), (8, HV.int .i64 (IntKind.wrap .i64 (((p1).length : Int) - 1)))], [(16024, v3, .arr (eSl eBool).k 67 ((eSl eBool).E ((List.replicate (IntKind.wrap .i64 (((p1).length : Int) + 1)).toNat ([] : List (Bool))).set (((p1).length : Int)).toNat x5)))]⟩) (AS.le_of ⟨rfl, rfl, rfl, rfl, trivial⟩ ⟨rfl, trivial⟩) ⟨(), rfl⟩
    · refine AW.seq ?_
      refine AW.rgs rfl fun K hK => ?_
      refine mv rfl rfl ?_
      obtain ⟨x50, h51, h⟩ := bS h
      refine bv rfl (v_idxA ty66 es66 rfl rfl (idx_lt h51) rfl) ?_
      obtain ⟨x52, h53, h⟩ := bS h
      refine bv rfl (v_loadP ty67 rfl rfl (l_cell (eSl eBool) h53 (o := 0) rfl rfl)) ?_
      obtain ⟨x54, h55, h⟩ := bS h
      refine b_op rfl (o_call rfl rfl rfl rfl (ACallD.pure0 (w_slices_Contains_Lbool_bool h55)) ?_)
      refine bv rfl (v_not rfl) ?_
      refine b_nil (hK _ (AW.to (to_le (s' := ⟨[(1, HV.str p1), (2, HV.fptr [HV.int .i64 p0.1, HV.int .i64 p0.2.1, slE eFromLabelTo p0.2.2] 0), (7, HV.ar 16024 v3 (eSl eBool).k 0 ((a48).length)), (83, HV.bool (!x54))], [(16024, v3, .arr (eSl eBool).k 67 ((eSl eBool).E a48))]⟩) (AS.le_of ⟨rfl, rfl, rfl, rfl, trivial⟩ ⟨rfl, trivial⟩) ?_)))
      clear hK K
      refine AW.cond rfl (fun hc => ?_) (fun hc => ?_)
      · have h := ifT hc h
        refine AW.rgs rfl fun K hK => ?_
        refine mv rfl rfl ?_
        refine mv rfl rfl ?_
        refine b_nil (hK _ (AW.to (to_le (s' := ⟨[(4, HV.v (.slice none 0 0)), (5, HV.int .i64 13)], []⟩) (AS.le_of ⟨rfl, rfl, trivial⟩ trivial) ?_)))
        clear hK K
        refine AW.to (to_weak ⟨[(4, slE eInt ([] : List Int)), (5, HV.int .i64 13)], []⟩ ⟨⟨_, rfl, .nil _⟩, ⟨_, rfl, .refl _⟩, trivial⟩ trivial ?_)
        refine AW.ret ?_
        have h := Option.some.inj h
        subst h
        exact ret_pure (hs := [slE eInt ([] : List Int), HV.int .i64 13]) (q := HV.tup [slE eInt ([] : List Int), HV.int .i64 13]) (.inr rfl) (resT rfl (resT rfl rfl)) rfl ⟨(clean_slE fun _ _ => ⟨trivial, trivial⟩), trivial, trivial⟩
      · have h := ifF (bF' hc) h
        refine AW.skip ?_
        refine AW.rgs rfl fun K hK => ?_
        refine mv rfl rfl ?_
        refine b_nil (hK _ (AW.to (to_le (s' := ⟨[(1, HV.str p1), (2, HV.fptr [HV.int .i64 p0.1, HV.int .i64 p0.2.1, slE eFromLabelTo p0.2.2] 0), (7, HV.ar 16024 v3 (eSl eBool).k 0 ((a48).length)), (11, HV.v (.slice none 0 0))], [(16024, v3, .arr (eSl eBool).k 67 ((eSl eBool).E a48))]⟩) (AS.le_of ⟨rfl, rfl, rfl, rfl, trivial⟩ ⟨rfl, trivial⟩) ?_)))
        clear hK K
        refine AW.seq ?_
        refine AW.rgs rfl fun K hK => ?_
        refine mv rfl rfl ?_
        refine bv rfl (v_lenS rfl rfl ty9 rfl) ?_
        refine mv rfl rfl ?_
        refine b_nil (hK _ (AW.to (to_le (s' := ⟨[(1, HV.str p1), (2, HV.fptr [HV.int .i64 p0.1, HV.int .i64 p0.2.1, slE eFromLabelTo p0.2.2] 0), (7, HV.ar 16024 v3 (eSl eBool).k 0 ((a48).length)), (11, HV.v (.slice none 0 0)), (85, HV.int .i64 ((p1).length : Int)), (86, HV.int .i64 0)], [(16024, v3, .arr (eSl eBool).k 67 ((eSl eBool).E a48))]⟩) (AS.le_of ⟨rfl, rfl, rfl, rfl, rfl, rfl, trivial⟩ ⟨rfl, trivial⟩) ?_)))
        clear hK K
        refine AW.lpX h (by first | exact up_then | exact up_to) (S := Int × (List Int)) (V := Nat) (fun a v => ⟨[(1, HV.str p1), (2, HV.fptr [HV.int .i64 p0.1, HV.int .i64 p0.2.1, slE eFromLabelTo p0.2.2] 0), (7, HV.ar 16024 v3 (eSl eBool).k 0 ((a48).length)), (11, HV.ar 16137 v eInt.k 0 ((a.2).length)), (85, HV.int .i64 ((p1).length : Int)), (86, HV.int .i64 a.1)], [(16024, v3, .arr (eSl eBool).k 67 ((eSl eBool).E a48)), (16137, v, .arr eInt.k 3 (eInt.E a.2))]⟩) ?_ (X := (List Int)) (W := Nat) (fun a v => ⟨[(11, HV.ar 16137 v eInt.k 0 ((a).length))], [(16137, v, .arr eInt.k 3 (eInt.E a))]⟩) (fun a94 w95 h => ?_) (fun a56 w57 st58 h => ?_)
        · refine to_bind (to_own 16137 11 eInt.k 3 rfl fun v93 => ?_)
          exact to_le (s' := ⟨[(1, HV.str p1), (2, HV.fptr [HV.int .i64 p0.1, HV.int .i64 p0.2.1, slE eFromLabelTo p0.2.2] 0), (7, HV.ar 16024 v3 (eSl eBool).k 0 ((a48).length)), (11, HV.ar 16137 v93 eInt.k 0 ((([] : List Int)).length)), (85, HV.int .i64 ((p1).length : Int)), (86, HV.int .i64 0)], [(16024, v3, .arr (eSl eBool).k 67 ((eSl eBool).E a48)), (16137, v93, .arr eInt.k 3 (eInt.E ([] : List Int)))]⟩) (AS.le_of ⟨rfl, rfl, rfl, arl (by first | rfl | simp only [List.length_set, sortI_len, sortS_len]), rfl, rfl, trivial⟩ ⟨rfl, rfl, trivial⟩) ⟨v93, rfl⟩
        · refine AW.rgs rfl fun K hK => ?_
          refine mv rfl rfl ?_
          refine mv rfl rfl ?_
          refine mv rfl rfl ?_
          refine b_nil (hK _ (AW.to (to_le (s' := ⟨[(4, HV.ar 16137 w95 eInt.k 0 ((a94).length)), (5, HV.int .i64 0)], [(16137, w95, .arr eInt.k 3 (eInt.E a94))]⟩) (AS.le_of ⟨rfl, rfl, trivial⟩ ⟨rfl, trivial⟩) ?_)))
          clear hK K
          refine AW.to (to_frz 2 [(16137, w95, .arr eInt.k 3 (eInt.E a94))] ⟨[(4, slE eInt a94), (5, HV.int .i64 0)], []⟩ ⟨⟨_, rfl, frz_slE eInt (l := a94) rfl fun _ _ => rfl⟩, ⟨_, rfl, rfl⟩, trivial⟩ trivial ⟨rfl, trivial⟩ ⟨rfl, trivial⟩ ?_)
          refine AW.ret ?_
          have h := Option.some.inj h
          subst h
          exact ret_pure (hs := [slE eInt a94, HV.int .i64 0]) (q := HV.tup [slE eInt a94, HV.int .i64 0]) (.inr rfl) (resT rfl (resT rfl rfl)) rfl ⟨(clean_slE fun _ _ => ⟨trivial, trivial⟩), trivial, trivial⟩
        · refine AW.rgs rfl fun K hK => ?_
          refine bv rfl (v_bin rfl rfl b_lss) ?_
          refine b_nil (hK _ (AW.to (to_le (s' := ⟨[(1, HV.str p1), (2, HV.fptr [HV.int .i64 p0.1, HV.int .i64 p0.2.1, slE eFromLabelTo p0.2.2] 0), (7, HV.ar 16024 v3 (eSl eBool).k 0 ((a48).length)), (11, HV.ar 16137 w57 eInt.k 0 ((a56.2).length)), (85, HV.int .i64 ((p1).length : Int)), (86, HV.int .i64 a56.1), (87, HV.bool (decide (a56.1 < ((p1).length : Int))))], [(16024, v3, .arr (eSl eBool).k 67 ((eSl eBool).E a48)), (16137, w57, .arr eInt.k 3 (eInt.E a56.2))]⟩) (AS.le_of ⟨rfl, rfl, rfl, rfl, rfl, rfl, rfl, trivial⟩ ⟨rfl, rfl, trivial⟩) ?_)))
          clear hK K
          refine AW.cseq rfl (fun hc => ?_) (fun hc => ?_)
          · have hc := of_decide_eq_true hc
            have h := ifT hc h
            refine AW.skip ?_
            refine AW.seq (AW.block ?_)
            refine AW.rgs rfl fun K hK => ?_
            refine mv rfl rfl ?_
            refine mv rfl rfl ?_
            refine b_nil (hK _ (AW.to (to_le (s' := ⟨[(1, HV.str p1), (2, HV.fptr [HV.int .i64 p0.1, HV.int .i64 p0.2.1, slE eFromLabelTo p0.2.2] 0), (7, HV.ar 16024 v3 (eSl eBool).k 0 ((a48).length)), (11, HV.ar 16137 w57 eInt.k 0 ((a56.2).length)), (12, HV.int .i64 a56.1), (85, HV.int .i64 ((p1).length : Int)), (86, HV.int .i64 a56.1)], [(16024, v3, .arr (eSl eBool).k 67 ((eSl eBool).E a48)), (16137, w57, .arr eInt.k 3 (eInt.E a56.2))]⟩) (AS.le_of ⟨rfl, rfl, rfl, rfl, rfl, rfl, rfl, trivial⟩ ⟨rfl, rfl, trivial⟩) ?_)))
            clear hK K
            refine AW.rgs rfl fun K hK => ?_
            refine bv rfl (v_fieldAddrF fo24_2 rfl) ?_
            refine bv rfl (v_loadF ty22 rfl (l_lit rfl rfl)) ?_
            refine bv rfl (v_lenF rfl rfl ty22 rfl) ?_
            refine mv rfl rfl ?_
            refine b_nil (hK _ (AW.to (to_le (s' := ⟨[(1, HV.str p1), (2, HV.fptr [HV.int .i64 p0.1, HV.int .i64 p0.2.1, slE eFromLabelTo p0.2.2] 0), (7, HV.ar 16024 v3 (eSl eBool).k 0 ((a48).length)), (11, HV.ar 16137 w57 eInt.k 0 ((a56.2).length)), (12, HV.int .i64 a56.1), (85, HV.int .i64 ((p1).length : Int)), (86, HV.int .i64 a56.1), (90, slE eFromLabelTo p0.2.2), (91, HV.int .i64 ((p0.2.2).length : Int)), (92, HV.int .i64 0)], [(16024, v3, .arr (eSl eBool).k 67 ((eSl eBool).E a48)), (16137, w57, .arr eInt.k 3 (eInt.E a56.2))]⟩) (AS.le_of ⟨rfl, rfl, rfl, rfl, rfl, rfl, rfl, rfl, rfl, rfl, trivial⟩ ⟨rfl, rfl, trivial⟩) ?_)))
            clear hK K
            refine AW.lpX h (by first | exact up_then | exact up_to) (S := Int) (V := Unit) (fun a v => ⟨[(1, HV.str p1), (2, HV.fptr [HV.int .i64 p0.1, HV.int .i64 p0.2.1, slE eFromLabelTo p0.2.2] 0), (7, HV.ar 16024 v3 (eSl eBool).k 0 ((a48).length)), (11, HV.ar 16137 w57 eInt.k 0 ((a56.2).length)), (12, HV.int .i64 a56.1), (85, HV.int .i64 ((p1).length : Int)), (86, HV.int .i64 a56.1), (90, slE eFromLabelTo p0.2.2), (91, HV.int .i64 ((p0.2.2).length : Int)), (92, HV.int .i64 a)], [(16024, v3, .arr (eSl eBool).k 67 ((eSl eBool).E a48)), (16137, w57, .arr eInt.k 3 (eInt.E a56.2))]⟩) ?_ (X := (List Int)) (W := Nat) (fun a v => ⟨[(1, HV.str p1), (2, HV.fptr [HV.int .i64 p0.1, HV.int .i64 p0.2.1, slE eFromLabelTo p0.2.2] 0), (7, HV.ar 16024 v3 (eSl eBool).k 0 ((a48).length)), (11, HV.ar 16137 v eInt.k 0 ((a).length)), (85, HV.int .i64 ((p1).length : Int)), (86, HV.int .i64 a56.1)], [(16024, v3, .arr (eSl eBool).k 67 ((eSl eBool).E a48)), (16137, v, .arr eInt.k 3 (eInt.E a))]⟩) (fun a91 w92 h => ?_) (fun a60 w61 st62 h => ?_)
            · exact to_le (s' := ⟨[(1, HV.str p1), (2, HV.fptr [HV.int .i64 p0.1, HV.int .i64 p0.2.1, slE eFromLabelTo p0.2.2] 0), (7, HV.ar 16024 v3 (eSl eBool).k 0 ((a48).length)), (11, HV.ar 16137 w57 eInt.k 0 ((a56.2).length)), (12, HV.int .i64 a56.1), (85, HV.int .i64 ((p1).length : Int)), (86, HV.int .i64 a56.1), (90, slE eFromLabelTo p0.2.2), (91, HV.int .i64 ((p0.2.2).length : Int)), (92, HV.int .i64 0)], [(16024, v3, .arr (eSl eBool).k 67 ((eSl eBool).E a48)), (16137, w57, .arr eInt.k 3 (eInt.E a56.2))]⟩) (AS.le_of ⟨rfl, rfl, rfl, rfl, rfl, rfl, rfl, rfl, rfl, rfl, trivial⟩ ⟨rfl, rfl, trivial⟩) ⟨(), rfl⟩
            · refine AW.rg rfl fun K hK => ?_
              refine bv rfl (v_bin rfl rfl b_add) ?_
              refine mv rfl rfl ?_
              refine b_nil (hK _ ?_)
              clear hK K
              exact to_le (s' := ⟨[(1, HV.str p1), (2, HV.fptr [HV.int .i64 p0.1, HV.int .i64 p0.2.1, slE eFromLabelTo p0.2.2] 0), (7, HV.ar 16024 v3 (eSl eBool).k 0 ((a48).length)), (11, HV.ar 16137 w92 eInt.k 0 ((a91).length)), (85, HV.int .i64 ((p1).length : Int)), (86, HV.int .i64 (IntKind.wrap .i64 (a56.1 + 1)))], [(16024, v3, .arr (eSl eBool).k 67 ((eSl eBool).E a48)), (16137, w92, .arr eInt.k 3 (eInt.E a91))]⟩) (AS.le_of ⟨rfl, rfl, rfl, rfl, rfl, rfl, trivial⟩ ⟨rfl, rfl, trivial⟩) ⟨(IntKind.wrap .i64 (a56.1 + 1), a91), w92, h, rfl⟩
            · refine AW.rgs rfl fun K hK => ?_
              refine bv rfl (v_bin rfl rfl b_lss) ?_
              refine b_nil (hK _ (AW.to (to_le (s' := ⟨[(1, HV.str p1), (2, HV.fptr [HV.int .i64 p0.1, HV.int .i64 p0.2.1, slE eFromLabelTo p0.2.2] 0), (7, HV.ar 16024 v3 (eSl eBool).k 0 ((a48).length)), (11, HV.ar 16137 w57 eInt.k 0 ((a56.2).length)), (12, HV.int .i64 a56.1), (85, HV.int .i64 ((p1).length : Int)), (86, HV.int .i64 a56.1), (90, slE eFromLabelTo p0.2.2), (91, HV.int .i64 ((p0.2.2).length : Int)), (92, HV.int .i64 a60), (93, HV.bool (decide (a60 < ((p0.2.2).length : Int))))], [(16024, v3, .arr (eSl eBool).k 67 ((eSl eBool).E a48)), (16137, w57, .arr eInt.k 3 (eInt.E a56.2))]⟩) (AS.le_of ⟨rfl, rfl, rfl, rfl, rfl, rfl, rfl, rfl, rfl, rfl, rfl, trivial⟩ ⟨rfl, rfl, trivial⟩) ?_)))
              clear hK K
              refine AW.cseq rfl (fun hc => ?_) (fun hc => ?_)
              · have hc := of_decide_eq_true hc
                have h := ifT hc h
                refine AW.skip ?_
                refine AW.seq (AW.block ?_)
                refine AW.rgs rfl fun K hK => ?_
                refine mv rfl rfl ?_
                obtain ⟨x64, h65, h⟩ := bS h
                refine bv rfl (v_idxF ty22 es22 rfl rfl (idx_lt h65)) ?_
                refine bv rfl (v_loadF ty64 rfl (l_agg eFromLabelTo h65 rfl rfl)) ?_
                refine b_op rfl (o_alloc (fid := 16) (zs := [HV.int .i64 0, HV.int .i64 0, HV.int .i64 0]) 16014 rfl rfl ty64 rfl (fun v66 => ?_))
                refine mv rfl rfl ?_
                refine b_op rfl (o_store (cs := [HV.int .i64 x64.1, HV.int .i64 x64.2.1, HV.int .i64 x64.2.2]) (zs := [HV.int .i64 x64.1, HV.int .i64 x64.2.1, HV.int .i64 x64.2.2]) rfl rfl rfl ty64 rfl rfl rfl rfl rfl ?_)
                refine b_nil (hK _ (AW.to (to_le (s' := ⟨[(1, HV.str p1), (2, HV.fptr [HV.int .i64 p0.1, HV.int .i64 p0.2.1, slE eFromLabelTo p0.2.2] 0), (7, HV.ar 16024 v3 (eSl eBool).k 0 ((a48).length)), (11, HV.ar 16137 w57 eInt.k 0 ((a56.2).length)), (12, HV.int .i64 a56.1), (13, HV.int .i64 a60), (14, HV.ptr 16014 v66 0), (85, HV.int .i64 ((p1).length : Int)), (86, HV.int .i64 a56.1), (90, slE eFromLabelTo p0.2.2), (91, HV.int .i64 ((p0.2.2).length : Int)), (92, HV.int .i64 a60)], [(16024, v3, .arr (eSl eBool).k 67 ((eSl eBool).E a48)), (16137, w57, .arr eInt.k 3 (eInt.E a56.2)), (16014, v66, .arr 3 64 [HV.int .i64 x64.1, HV.int .i64 x64.2.1, HV.int .i64 x64.2.2])]⟩) (AS.le_of ⟨rfl, rfl, rfl, rfl, rfl, rfl, rfl, rfl, rfl, rfl, rfl, rfl, trivial⟩ ⟨rfl, rfl, rfl, trivial⟩) ?_)))
                clear hK K
                refine AW.seqJ h (S := Bool) (V := Unit) (fun a v => ⟨[(1, HV.str p1), (2, HV.fptr [HV.int .i64 p0.1, HV.int .i64 p0.2.1, slE eFromLabelTo p0.2.2] 0), (7, HV.ar 16024 v3 (eSl eBool).k 0 ((a48).length)), (11, HV.ar 16137 w57 eInt.k 0 ((a56.2).length)), (12, HV.int .i64 a56.1), (13, HV.int .i64 a60), (85, HV.int .i64 ((p1).length : Int)), (86, HV.int .i64 a56.1), (90, slE eFromLabelTo p0.2.2), (91, HV.int .i64 ((p0.2.2).length : Int)), (92, HV.int .i64 a60), (133, HV.bool a)], [(16024, v3, .arr (eSl eBool).k 67 ((eSl eBool).E a48)), (16137, w57, .arr eInt.k 3 (eInt.E a56.2))]⟩) (fun a67 w68 h => ?_) (fun k69 h => ?_)
                · refine AW.cond rfl (fun hc => ?_) (fun hc => ?_)
                  · have h := ifT hc h
                    refine AW.rgs rfl fun K hK => ?_
                    refine mv rfl rfl ?_
                    refine mv rfl rfl ?_
                    refine b_op rfl (o_bsl rfl rfl (as_of (cs := [HV.int .i64 a60]) ty41 ty3 rfl rfl rfl rfl rfl) ?_)
                    obtain ⟨h71, h⟩ := ifN h
                    refine b_op rfl (o_appE eInt (l := a56.2) (m := [a60]) rfl rfl ty41 ty41 ty3 rfl rfl rfl rfl rfl h71 (fun v70 => ?_))
                    refine mv rfl rfl ?_
                    refine b_nil (hK _ (AW.to (to_le (s' := ⟨[(1, HV.str p1), (2, HV.fptr [HV.int .i64 p0.1, HV.int .i64 p0.2.1, slE eFromLabelTo p0.2.2] 0), (7, HV.ar 16024 v3 (eSl eBool).k 0 ((a48).length)), (11, HV.ar 16137 v70 eInt.k 0 ((a56.2 ++ [a60]).length)), (85, HV.int .i64 ((p1).length : Int)), (86, HV.int .i64 a56.1)], [(16024, v3, .arr (eSl eBool).k 67 ((eSl eBool).E a48)), (16137, v70, .arr eInt.k 3 (eInt.E (a56.2 ++ [a60])))]⟩) (AS.le_of ⟨rfl, rfl, rfl, rfl, rfl, rfl, trivial⟩ ⟨rfl, rfl, trivial⟩) ?_)))
                    clear hK K
                    refine AW.exit ?_
                    exact to_le (s' := ⟨[(1, HV.str p1), (2, HV.fptr [HV.int .i64 p0.1, HV.int .i64 p0.2.1, slE eFromLabelTo p0.2.2] 0), (7, HV.ar 16024 v3 (eSl eBool).k 0 ((a48).length)), (11, HV.ar 16137 v70 eInt.k 0 ((a56.2 ++ [a60]).length)), (85, HV.int .i64 ((p1).length : Int)), (86, HV.int .i64 a56.1)], [(16024, v3, .arr (eSl eBool).k 67 ((eSl eBool).E a48)), (16137, v70, .arr eInt.k 3 (eInt.E (a56.2 ++ [a60])))]⟩) (AS.le_of ⟨rfl, rfl, rfl, rfl, rfl, rfl, trivial⟩ ⟨rfl, rfl, trivial⟩) ⟨a56.2 ++ [a60], v70, h, rfl⟩
                  · have h := ifF (bF' hc) h
                    refine AW.skip ?_
                    refine AW.rg rfl fun K hK => ?_
                    refine bv rfl (v_bin rfl rfl b_add) ?_
                    refine mv rfl rfl ?_
                    refine b_nil (hK _ ?_)
                    clear hK K
                    exact to_le (s' := ⟨[(1, HV.str p1), (2, HV.fptr [HV.int .i64 p0.1, HV.int .i64 p0.2.1, slE eFromLabelTo p0.2.2] 0), (7, HV.ar 16024 v3 (eSl eBool).k 0 ((a48).length)), (11, HV.ar 16137 w57 eInt.k 0 ((a56.2).length)), (12, HV.int .i64 a56.1), (85, HV.int .i64 ((p1).length : Int)), (86, HV.int .i64 a56.1), (90, slE eFromLabelTo p0.2.2), (91, HV.int .i64 ((p0.2.2).length : Int)), (92, HV.int .i64 (IntKind.wrap .i64 (a60 + 1)))], [(16024, v3, .arr (eSl eBool).k 67 ((eSl eBool).E a48)), (16137, w57, .arr eInt.k 3 (eInt.E a56.2))]⟩) (AS.le_of ⟨rfl, rfl, rfl, rfl, rfl, rfl, rfl, rfl, rfl, rfl, trivial⟩ ⟨rfl, rfl, trivial⟩) ⟨IntKind.wrap .i64 (a60 + 1), (), h, rfl⟩
                · refine AW.dg 37 follows rfl rfl fun K hK => ?_
                  refine sv rfl (v_fieldAddrP fo64_1 rfl rfl) ?_
                  refine sv rfl (v_loadP ty3 rfl rfl (l_lit rfl rfl)) ?_
                  obtain ⟨x72, h73, h⟩ := bS h
                  refine sv rfl (v_idxS ty9 rfl rfl h73) ?_
                  refine sm rfl rfl ?_
                  refine sm rfl rfl ?_
                  obtain ⟨x74, h75, h⟩ := bS h
                  refine sv rfl (v_idxS ty9 rfl rfl h75) ?_
                  refine sv rfl (v_bin rfl rfl b_eql) ?_
                  refine sm rfl rfl ?_
                  by_cases hg90 : (x72.toNat : Int) = (x74.toNat : Int)
                  · have h := ifT hg90 h
                    refine s_T rfl rfl rfl rfl rfl (decide_eq_true hg90) (ops_val rfl (mv_val rfl rfl).2 ?_)
                    refine s_T rfl rfl rfl rfl rfl rfl (ops_val rfl (mv_val rfl rfl).2 ?_)
                    refine s_T rfl rfl rfl rfl rfl rfl (ops_val rfl (v_bin rfl rfl b_add) ?_)
                    obtain ⟨x76, h77, h⟩ := bS h
                    refine s_T rfl rfl rfl rfl rfl rfl (ops_val rfl (v_idxA ty66 es66 rfl rfl (idx_lt h77) rfl) ?_)
                    obtain ⟨x78, h79, h⟩ := bS h
                    refine s_T rfl rfl rfl rfl rfl rfl (ops_val rfl (v_loadP ty67 rfl rfl (l_cell (eSl eBool) h79 (o := 0) rfl rfl)) ?_)
                    refine s_T rfl rfl rfl rfl rfl rfl (ops_val rfl (v_fieldAddrP fo64_2 rfl rfl) ?_)
                    refine s_T rfl rfl rfl rfl rfl rfl (ops_val rfl (v_loadP ty3 rfl rfl (l_lit rfl rfl)) ?_)
                    obtain ⟨x80, h81, h⟩ := bS h
                    refine s_T rfl rfl rfl rfl rfl rfl (ops_val rfl (v_idxF ty67 es67 rfl rfl (idx_lt h81)) ?_)
                    refine s_T rfl rfl rfl rfl rfl rfl (ops_val rfl (v_loadF ty4 rfl (l_cell eBool h81 (o := 0) rfl rfl)) ?_)
                    refine sv rfl (v_pickT rfl rfl rfl) ?_
                    refine sm rfl rfl ?_
                    by_cases hg89 : x80 = true
                    · have h := ifT hg89 h
                      refine s_T rfl rfl rfl rfl rfl hg89 (ops_val rfl (mv_val rfl rfl).2 ?_)
                      refine s_T rfl rfl rfl rfl rfl rfl (ops_val rfl (v_bin rfl rfl b_eql) ?_)
                      refine s_T rfl rfl rfl rfl rfl rfl (ops_val rfl (mv_val rfl rfl).2 ?_)
                      by_cases hg88 : a56.1 = 0
                      · have h := ifT hg88 h
                        refine s_F rfl rfl rfl rfl rfl (decide_eq_true hg88) ?_
                        refine s_F rfl rfl rfl rfl rfl rfl ?_
                        refine s_F rfl rfl rfl rfl rfl rfl ?_
                        refine s_F rfl rfl rfl rfl rfl rfl ?_
                        refine s_F rfl rfl rfl rfl rfl rfl ?_
                        refine s_F rfl rfl rfl rfl rfl rfl ?_
                        refine s_F rfl rfl rfl rfl rfl rfl ?_
                        refine s_F rfl rfl rfl rfl rfl rfl ?_
                        refine s_F rfl rfl rfl rfl rfl rfl ?_
                        refine s_F rfl rfl rfl rfl rfl rfl ?_
                        refine s_F rfl rfl rfl rfl rfl rfl ?_
                        refine s_F rfl rfl rfl rfl rfl rfl ?_
                        refine s_F rfl rfl rfl rfl rfl rfl ?_
                        refine s_T rfl rfl rfl rfl rfl rfl (ops_val rfl (v_pickT rfl rfl rfl) ?_)
                        refine sv rfl (v_pickT rfl rfl rfl) ?_
                        refine s_nil ?_
                        refine b_nil (hK _ ?_)
                        clear hK K
                        exact to_le (s' := ⟨[(1, HV.str p1), (2, HV.fptr [HV.int .i64 p0.1, HV.int .i64 p0.2.1, slE eFromLabelTo p0.2.2] 0), (7, HV.ar 16024 v3 (eSl eBool).k 0 ((a48).length)), (11, HV.ar 16137 w57 eInt.k 0 ((a56.2).length)), (12, HV.int .i64 a56.1), (13, HV.int .i64 a60), (85, HV.int .i64 ((p1).length : Int)), (86, HV.int .i64 a56.1), (90, slE eFromLabelTo p0.2.2), (91, HV.int .i64 ((p0.2.2).length : Int)), (92, HV.int .i64 a60), (133, HV.bool true)], [(16024, v3, .arr (eSl eBool).k 67 ((eSl eBool).E a48)), (16137, w57, .arr eInt.k 3 (eInt.E a56.2))]⟩) (AS.le_of ⟨rfl, rfl, rfl, rfl, rfl, rfl, rfl, rfl, rfl, rfl, rfl, rfl, trivial⟩ ⟨rfl, rfl, trivial⟩) ⟨true, (), h, rfl⟩
                      · have h := ifF hg88 h
                        refine s_T rfl rfl rfl rfl rfl (decide_eq_false hg88) (ops_val rfl (v_fieldAddrP fo64_0 rfl rfl) ?_)
                        refine s_T rfl rfl rfl rfl rfl rfl (ops_val rfl (v_loadP ty3 rfl rfl (l_lit rfl rfl)) ?_)
                        refine s_T rfl rfl rfl rfl rfl rfl (ops_val rfl (v_fieldAddrF fo24_2 rfl) ?_)
                        refine s_T rfl rfl rfl rfl rfl rfl (ops_val rfl (v_loadF ty22 rfl (l_lit rfl rfl)) ?_)
                        refine s_T rfl rfl rfl rfl rfl rfl (ops_val rfl (mv_val rfl rfl).2 ?_)
                        refine s_T rfl rfl rfl rfl rfl rfl (ops_val rfl (mv_val rfl rfl).2 ?_)
                        refine s_T rfl rfl rfl rfl rfl rfl (ops_val rfl (v_bin rfl rfl b_sub) ?_)
                        obtain ⟨x82, h83, h⟩ := bS h
                        refine s_T rfl rfl rfl rfl rfl rfl (ops_val rfl (v_idxA ty41 es41 rfl rfl (idx_lt h83) rfl) ?_)
                        obtain ⟨x84, h85, h⟩ := bS h
                        refine s_T rfl rfl rfl rfl rfl rfl (ops_val rfl (v_loadP ty3 rfl rfl (l_cell eInt h85 (o := 0) rfl rfl)) ?_)
                        obtain ⟨x86, h87, h⟩ := bS h
                        refine s_T rfl rfl rfl rfl rfl rfl (ops_val rfl (v_idxF ty22 es22 rfl rfl (idx_lt h87)) ?_)
                        refine s_T rfl rfl rfl rfl rfl rfl (ops_val rfl (v_fieldAddrF fo64_2 rfl) ?_)
                        refine s_T rfl rfl rfl rfl rfl rfl (ops_val rfl (v_loadF ty3 rfl (l_cell eFromLabelTo h87 (o := 2) rfl rfl)) ?_)
                        refine s_T rfl rfl rfl rfl rfl rfl (ops_val rfl (v_bin rfl rfl b_eql) ?_)
                        refine s_T rfl rfl rfl rfl rfl rfl (ops_val rfl (v_pickF rfl rfl rfl) ?_)
                        refine sv rfl (v_pickT rfl rfl rfl) ?_
                        refine s_nil ?_
                        refine b_nil (hK _ ?_)
                        clear hK K
                        exact to_le (s' := ⟨[(1, HV.str p1), (2, HV.fptr [HV.int .i64 p0.1, HV.int .i64 p0.2.1, slE eFromLabelTo p0.2.2] 0), (7, HV.ar 16024 v3 (eSl eBool).k 0 ((a48).length)), (11, HV.ar 16137 w57 eInt.k 0 ((a56.2).length)), (12, HV.int .i64 a56.1), (13, HV.int .i64 a60), (85, HV.int .i64 ((p1).length : Int)), (86, HV.int .i64 a56.1), (90, slE eFromLabelTo p0.2.2), (91, HV.int .i64 ((p0.2.2).length : Int)), (92, HV.int .i64 a60), (133, HV.bool (decide (x64.1 = x86.2.2)))], [(16024, v3, .arr (eSl eBool).k 67 ((eSl eBool).E a48)), (16137, w57, .arr eInt.k 3 (eInt.E a56.2))]⟩) (AS.le_of ⟨rfl, rfl, rfl, rfl, rfl, rfl, rfl, rfl, rfl, rfl, rfl, rfl, trivial⟩ ⟨rfl, rfl, trivial⟩) ⟨decide (x64.1 = x86.2.2), (), h, rfl⟩
                    · have h := ifF hg89 h
                      refine s_F rfl rfl rfl rfl rfl (bF hg89) ?_
                      refine s_F rfl rfl rfl rfl rfl rfl ?_
                      refine s_F rfl rfl rfl rfl rfl rfl ?_
                      refine s_U rfl rfl rfl rfl rfl ?_
                      refine s_U rfl rfl rfl rfl rfl ?_
                      refine s_U rfl rfl rfl rfl rfl ?_
                      refine s_U rfl rfl rfl rfl rfl ?_
                      refine s_U rfl rfl rfl rfl rfl ?_
                      refine s_U rfl rfl rfl rfl rfl ?_
                      refine s_U rfl rfl rfl rfl rfl ?_
                      refine s_U rfl rfl rfl rfl rfl ?_
                      refine s_U rfl rfl rfl rfl rfl ?_
                      refine s_U rfl rfl rfl rfl rfl ?_
                      refine s_U rfl rfl rfl rfl rfl ?_
                      refine s_U rfl rfl rfl rfl rfl ?_
                      refine s_U rfl rfl rfl rfl rfl ?_
                      refine s_F rfl rfl rfl rfl rfl rfl ?_
                      refine sv rfl (v_pickF rfl rfl rfl) ?_
                      refine s_nil ?_
                      refine b_nil (hK _ ?_)
                      clear hK K
                      exact to_le (s' := ⟨[(1, HV.str p1), (2, HV.fptr [HV.int .i64 p0.1, HV.int .i64 p0.2.1, slE eFromLabelTo p0.2.2] 0), (7, HV.ar 16024 v3 (eSl eBool).k 0 ((a48).length)), (11, HV.ar 16137 w57 eInt.k 0 ((a56.2).length)), (12, HV.int .i64 a56.1), (13, HV.int .i64 a60), (85, HV.int .i64 ((p1).length : Int)), (86, HV.int .i64 a56.1), (90, slE eFromLabelTo p0.2.2), (91, HV.int .i64 ((p0.2.2).length : Int)), (92, HV.int .i64 a60), (133, HV.bool false)], [(16024, v3, .arr (eSl eBool).k 67 ((eSl eBool).E a48)), (16137, w57, .arr eInt.k 3 (eInt.E a56.2))]⟩) (AS.le_of ⟨rfl, rfl, rfl, rfl, rfl, rfl, rfl, rfl, rfl, rfl, rfl, rfl, trivial⟩ ⟨rfl, rfl, trivial⟩) ⟨false, (), h, rfl⟩
                  · have h := ifF hg90 h
                    refine s_F rfl rfl rfl rfl rfl (decide_eq_false hg90) ?_
                    refine s_F rfl rfl rfl rfl rfl rfl ?_
                    refine s_F rfl rfl rfl rfl rfl rfl ?_
                    refine s_F rfl rfl rfl rfl rfl rfl ?_
                    refine s_F rfl rfl rfl rfl rfl rfl ?_
                    refine s_F rfl rfl rfl rfl rfl rfl ?_
                    refine s_F rfl rfl rfl rfl rfl rfl ?_
                    refine s_F rfl rfl rfl rfl rfl rfl ?_
                    refine s_F rfl rfl rfl rfl rfl rfl ?_
                    refine sv rfl (v_pickF rfl rfl rfl) ?_
                    refine sm rfl rfl ?_
                    refine s_F rfl rfl rfl rfl rfl rfl ?_
                    refine s_F rfl rfl rfl rfl rfl rfl ?_
                    refine s_F rfl rfl rfl rfl rfl rfl ?_
                    refine s_U rfl rfl rfl rfl rfl ?_
                    refine s_U rfl rfl rfl rfl rfl ?_
                    refine s_U rfl rfl rfl rfl rfl ?_
                    refine s_U rfl rfl rfl rfl rfl ?_
                    refine s_U rfl rfl rfl rfl rfl ?_
                    refine s_U rfl rfl rfl rfl rfl ?_
                    refine s_U rfl rfl rfl rfl rfl ?_
                    refine s_U rfl rfl rfl rfl rfl ?_
                    refine s_U rfl rfl rfl rfl rfl ?_
                    refine s_U rfl rfl rfl rfl rfl ?_
                    refine s_U rfl rfl rfl rfl rfl ?_
                    refine s_U rfl rfl rfl rfl rfl ?_
                    refine s_U rfl rfl rfl rfl rfl ?_
                    refine s_F rfl rfl rfl rfl rfl rfl ?_
                    refine sv rfl (v_pickF rfl rfl rfl) ?_
                    refine s_nil ?_
                    refine b_nil (hK _ ?_)
                    clear hK K
                    exact to_le (s' := ⟨[(1, HV.str p1), (2, HV.fptr [HV.int .i64 p0.1, HV.int .i64 p0.2.1, slE eFromLabelTo p0.2.2] 0), (7, HV.ar 16024 v3 (eSl eBool).k 0 ((a48).length)), (11, HV.ar 16137 w57 eInt.k 0 ((a56.2).length)), (12, HV.int .i64 a56.1), (13, HV.int .i64 a60), (85, HV.int .i64 ((p1).length : Int)), (86, HV.int .i64 a56.1), (90, slE eFromLabelTo p0.2.2), (91, HV.int .i64 ((p0.2.2).length : Int)), (92, HV.int .i64 a60), (133, HV.bool false)], [(16024, v3, .arr (eSl eBool).k 67 ((eSl eBool).E a48)), (16137, w57, .arr eInt.k 3 (eInt.E a56.2))]⟩) (AS.le_of ⟨rfl, rfl, rfl, rfl, rfl, rfl, rfl, rfl, rfl, rfl, rfl, rfl, trivial⟩ ⟨rfl, rfl, trivial⟩) ⟨false, (), h, rfl⟩
              · have hc := of_decide_eq_false hc
                have h := ifF hc h
                refine AW.exit ?_
                exact to_le (s' := ⟨[(1, HV.str p1), (2, HV.fptr [HV.int .i64 p0.1, HV.int .i64 p0.2.1, slE eFromLabelTo p0.2.2] 0), (7, HV.ar 16024 v3 (eSl eBool).k 0 ((a48).length)), (11, HV.ar 16137 w57 eInt.k 0 ((a56.2).length)), (85, HV.int .i64 ((p1).length : Int)), (86, HV.int .i64 a56.1)], [(16024, v3, .arr (eSl eBool).k 67 ((eSl eBool).E a48)), (16137, w57, .arr eInt.k 3 (eInt.E a56.2))]⟩) (AS.le_of ⟨rfl, rfl, rfl, rfl, rfl, rfl, trivial⟩ ⟨rfl, rfl, trivial⟩) ⟨a56.2, w57, h, rfl⟩
          · have hc := of_decide_eq_false hc
            have h := ifF hc h
            refine AW.exit ?_
            exact to_le (s' := ⟨[(11, HV.ar 16137 w57 eInt.k 0 ((a56.2).length))], [(16137, w57, .arr eInt.k 3 (eInt.E a56.2))]⟩) (AS.le_of ⟨rfl, trivial⟩ ⟨rfl, trivial⟩) ⟨a56.2, w57, h, rfl⟩
    · refine AW.seq ?_
      refine AW.rgs rfl fun K hK => ?_
      refine mv rfl rfl ?_
      refine bv rfl (v_bin rfl rfl b_geq) ?_
      refine b_nil (hK _ (AW.to (to_le (s' := ⟨[(1, HV.str p1), (2, HV.fptr [HV.int .i64 p0.1, HV.int .i64 p0.2.1, slE eFromLabelTo p0.2.2] 0), (7, HV.ar 16024 v3 (eSl eBool).k 0 ((a9.2).length)), (8, HV.int .i64 a9.1), (37, HV.bool (decide (0 ≤ a9.1)))], [(16024, v3, .arr (eSl eBool).k 67 ((eSl eBool).E a9.2))]⟩) (AS.le_of ⟨rfl, rfl, rfl, rfl, rfl, trivial⟩ ⟨rfl, trivial⟩) ?_)))
      clear hK K
      refine AW.cond rfl (fun hc => ?_) (fun hc => ?_)
      · have hc := of_decide_eq_true hc
        have h := ifT hc h
        refine AW.skip ?_
        refine AW.seq (AW.block ?_)
        refine AW.rgs rfl fun K hK => ?_
        refine mv rfl rfl ?_
        refine mv rfl rfl ?_
        refine bv rfl (v_fieldAddrF fo24_1 rfl) ?_
        refine bv rfl (v_loadF ty3 rfl (l_lit rfl rfl)) ?_
        obtain ⟨h14, h⟩ := ifN h
        refine b_op rfl (o_makeE (fid := 16) eBool (false : Bool) 16044 rfl rfl ty67 rfl rfl ty4 rfl rfl h14 (fun v13 => ?_))
        obtain ⟨x15, h16, h⟩ := bS h
        refine bv rfl (v_idxA ty66 es66 rfl rfl (idx_lt h16) rfl) ?_
        refine b_op rfl (o_storeH eBool (L := a9.2) (j := a9.1) rfl rfl rfl ty67 rfl rfl rfl (idx_lt h16) ?_)
        refine b_nil (hK _ (AW.to (to_le (s' := ⟨[(1, HV.str p1), (2, HV.fptr [HV.int .i64 p0.1, HV.int .i64 p0.2.1, slE eFromLabelTo p0.2.2] 0), (7, HV.ar 16024 v3 (eSl eBool).k 0 ((a9.2).length)), (8, HV.int .i64 a9.1)], [(16024, v3, .arr (eSl eBool).k 67 (((eSl eBool).E a9.2).set (a9.1).toNat (HV.ar 16044 v13 eBool.k 0 ((List.replicate (p0.2.1).toNat (false : Bool)).length)))), (16044, v13, .arr eBool.k 4 (eBool.E (List.replicate (p0.2.1).toNat (false : Bool))))]⟩) (AS.le_of ⟨rfl, rfl, rfl, rfl, trivial⟩ ⟨rfl, rfl, trivial⟩) ?_)))
        clear hK K
        refine AW.rgs rfl fun K hK => ?_
        refine bv rfl (v_fieldAddrF fo24_2 rfl) ?_
        refine bv rfl (v_loadF ty22 rfl (l_lit rfl rfl)) ?_
        refine bv rfl (v_lenF rfl rfl ty22 rfl) ?_
        refine mv rfl rfl ?_
        refine b_nil (hK _ (AW.to (to_le (s' := ⟨[(1, HV.str p1), (2, HV.fptr [HV.int .i64 p0.1, HV.int .i64 p0.2.1, slE eFromLabelTo p0.2.2] 0), (7, HV.ar 16024 v3 (eSl eBool).k 0 ((a9.2).length)), (8, HV.int .i64 a9.1), (47, slE eFromLabelTo p0.2.2), (48, HV.int .i64 ((p0.2.2).length : Int)), (49, HV.int .i64 0)], [(16024, v3, .arr (eSl eBool).k 67 (((eSl eBool).E a9.2).set (a9.1).toNat (HV.ar 16044 v13 eBool.k 0 ((List.replicate (p0.2.1).toNat (false : Bool)).length)))), (16044, v13, .arr eBool.k 4 (eBool.E (List.replicate (p0.2.1).toNat (false : Bool))))]⟩) (AS.le_of ⟨rfl, rfl, rfl, rfl, rfl, rfl, rfl, trivial⟩ ⟨rfl, rfl, trivial⟩) ?_)))
        clear hK K
        refine AW.lpX h (by first | exact up_then | exact up_to) (S := Int × (List Bool)) (V := Unit) (fun a v => ⟨[(1, HV.str p1), (2, HV.fptr [HV.int .i64 p0.1, HV.int .i64 p0.2.1, slE eFromLabelTo p0.2.2] 0), (7, HV.ar 16024 v3 (eSl eBool).k 0 ((a9.2).length)), (8, HV.int .i64 a9.1), (47, slE eFromLabelTo p0.2.2), (48, HV.int .i64 ((p0.2.2).length : Int)), (49, HV.int .i64 a.1)], [(16024, v3, .arr (eSl eBool).k 67 (((eSl eBool).E a9.2).set (a9.1).toNat (HV.ar 16044 v13 eBool.k 0 ((a.2).length)))), (16044, v13, .arr eBool.k 4 (eBool.E a.2))]⟩) ?_ (X := (List Bool)) (W := Unit) (fun a v => ⟨[(1, HV.str p1), (2, HV.fptr [HV.int .i64 p0.1, HV.int .i64 p0.2.1, slE eFromLabelTo p0.2.2] 0), (7, HV.ar 16024 v3 (eSl eBool).k 0 ((a9.2).length)), (8, HV.int .i64 a9.1)], [(16024, v3, .arr (eSl eBool).k 67 (((eSl eBool).E a9.2).set (a9.1).toNat (HV.ar 16044 v13 eBool.k 0 ((a).length)))), (16044, v13, .arr eBool.k 4 (eBool.E a))]⟩) (fun a46 w47 h => ?_) (fun a17 w18 st19 h => ?_)
        · exact to_le (s' := ⟨[(1, HV.str p1), (2, HV.fptr [HV.int .i64 p0.1, HV.int .i64 p0.2.1, slE eFromLabelTo p0.2.2] 0), (7, HV.ar 16024 v3 (eSl eBool).k 0 ((a9.2).length)), (8, HV.int .i64 a9.1), (47, slE eFromLabelTo p0.2.2), (48, HV.int .i64 ((p0.2.2).length : Int)), (49, HV.int .i64 0)], [(16024, v3, .arr (eSl eBool).k 67 (((eSl eBool).E a9.2).set (a9.1).toNat (HV.ar 16044 v13 eBool.k 0 ((List.replicate (p0.2.1).toNat (false : Bool)).length)))), (16044, v13, .arr eBool.k 4 (eBool.E (List.replicate (p0.2.1).toNat (false : Bool))))]⟩) (AS.le_of ⟨rfl, rfl, rfl, rfl, rfl, rfl, rfl, trivial⟩ ⟨rfl, rfl, trivial⟩) ⟨(), rfl⟩
        · refine AW.rg rfl fun K hK => ?_
          refine mv rfl rfl ?_
          refine bv rfl (v_bin rfl rfl b_sub) ?_
          refine mv rfl rfl ?_
          refine b_nil (hK _ ?_)
          clear hK K
          refine to_bind (to_fill 2 [(16044, v13, .arr eBool.k 4 (eBool.E a46))] ⟨[(1, HV.str p1), (2, HV.fptr [HV.int .i64 p0.1, HV.int .i64 p0.2.1, slE eFromLabelTo p0.2.2] 0), (7, HV.ar 16024 v3 (eSl eBool).k 0 ((a9.2).length)), (8, HV.int .i64 (IntKind.wrap .i64 (a9.1 - 1)))], [(16024, v3, .arr (eSl eBool).k 67 ((eSl eBool).E ((a9.2).set (a9.1).toNat a46)))]⟩ ⟨⟨_, rfl, rfl⟩, ⟨_, rfl, rfl⟩, ⟨_, rfl, rfl⟩, ⟨_, rfl, rfl⟩, trivial⟩ ⟨.inr ⟨_, _, _, rfl, fill_obj (c := eBool) rfl rfl fun _ => rfl⟩, trivial⟩ ⟨rfl, trivial⟩ ⟨rfl, trivial⟩ ?_)
          exact to_le (s' := ⟨[(1, HV.str p1), (2, HV.fptr [HV.int .i64 p0.1, HV.int .i64 p0.2.1, slE eFromLabelTo p0.2.2] 0), (7, HV.ar 16024 v3 (eSl eBool).k 0 (((a9.2).set (a9.1).toNat a46).length)), (8, HV.int .i64 (IntKind.wrap .i64 (a9.1 - 1)))], [(16024, v3, .arr (eSl eBool).k 67 ((eSl eBool).E ((a9.2).set (a9.1).toNat a46)))]⟩) (AS.le_of ⟨rfl, rfl, arl (by first | rfl | simp only [List.length_set, sortI_len, sortS_len]), rfl, trivial⟩ ⟨rfl, trivial⟩) ⟨(IntKind.wrap .i64 (a9.1 - 1), (a9.2).set (a9.1).toNat a46), (), h, rfl⟩
        · refine AW.rgs rfl fun K hK => ?_
          refine bv rfl (v_bin rfl rfl b_lss) ?_
          refine b_nil (hK _ (AW.to (to_le (s' := ⟨[(1, HV.str p1), (2, HV.fptr [HV.int .i64 p0.1, HV.int .i64 p0.2.1, slE eFromLabelTo p0.2.2] 0), (7, HV.ar 16024 v3 (eSl eBool).k 0 ((a9.2).length)), (8, HV.int .i64 a9.1), (47, slE eFromLabelTo p0.2.2), (48, HV.int .i64 ((p0.2.2).length : Int)), (49, HV.int .i64 a17.1), (50, HV.bool (decide (a17.1 < ((p0.2.2).length : Int))))], [(16024, v3, .arr (eSl eBool).k 67 (((eSl eBool).E a9.2).set (a9.1).toNat (HV.ar 16044 v13 eBool.k 0 ((a17.2).length)))), (16044, v13, .arr eBool.k 4 (eBool.E a17.2))]⟩) (AS.le_of ⟨rfl, rfl, rfl, rfl, rfl, rfl, rfl, rfl, trivial⟩ ⟨rfl, rfl, trivial⟩) ?_)))
          clear hK K
          refine AW.cseq rfl (fun hc => ?_) (fun hc => ?_)
          · have hc := of_decide_eq_true hc
            have h := ifT hc h
            refine AW.skip ?_
            refine AW.seqJ h (S := (List Bool)) (V := Unit) (fun a v => ⟨[(1, HV.str p1), (2, HV.fptr [HV.int .i64 p0.1, HV.int .i64 p0.2.1, slE eFromLabelTo p0.2.2] 0), (7, HV.ar 16024 v3 (eSl eBool).k 0 ((a9.2).length)), (8, HV.int .i64 a9.1), (47, slE eFromLabelTo p0.2.2), (48, HV.int .i64 ((p0.2.2).length : Int)), (49, HV.int .i64 a17.1)], [(16024, v3, .arr (eSl eBool).k 67 (((eSl eBool).E a9.2).set (a9.1).toNat (HV.ar 16044 v13 eBool.k 0 ((a).length)))), (16044, v13, .arr eBool.k 4 (eBool.E a))]⟩) (fun a21 w22 h => ?_) (fun k23 h => ?_)
            · refine AW.rg rfl fun K hK => ?_
              refine bv rfl (v_bin rfl rfl b_add) ?_
              refine mv rfl rfl ?_
              refine b_nil (hK _ ?_)
              clear hK K
              exact to_le (s' := ⟨[(1, HV.str p1), (2, HV.fptr [HV.int .i64 p0.1, HV.int .i64 p0.2.1, slE eFromLabelTo p0.2.2] 0), (7, HV.ar 16024 v3 (eSl eBool).k 0 ((a9.2).length)), (8, HV.int .i64 a9.1), (47, slE eFromLabelTo p0.2.2), (48, HV.int .i64 ((p0.2.2).length : Int)), (49, HV.int .i64 (IntKind.wrap .i64 (a17.1 + 1)))], [(16024, v3, .arr (eSl eBool).k 67 (((eSl eBool).E a9.2).set (a9.1).toNat (HV.ar 16044 v13 eBool.k 0 ((a21).length)))), (16044, v13, .arr eBool.k 4 (eBool.E a21))]⟩) (AS.le_of ⟨rfl, rfl, rfl, rfl, rfl, rfl, rfl, trivial⟩ ⟨rfl, rfl, trivial⟩) ⟨(IntKind.wrap .i64 (a17.1 + 1), a21), (), h, rfl⟩
            · refine AW.block ?_
              refine AW.rgs rfl fun K hK => ?_
              obtain ⟨x24, h25, h⟩ := bS h
              refine bv rfl (v_idxF ty22 es22 rfl rfl (idx_lt h25)) ?_
              refine bv rfl (v_loadF ty64 rfl (l_agg eFromLabelTo h25 rfl rfl)) ?_
              refine b_op rfl (o_alloc (fid := 16) (zs := [HV.int .i64 0, HV.int .i64 0, HV.int .i64 0]) 16010 rfl rfl ty64 rfl (fun v26 => ?_))
              refine b_op rfl (o_store (cs := [HV.int .i64 x24.1, HV.int .i64 x24.2.1, HV.int .i64 x24.2.2]) (zs := [HV.int .i64 x24.1, HV.int .i64 x24.2.1, HV.int .i64 x24.2.2]) rfl rfl rfl ty64 rfl rfl rfl rfl rfl ?_)
              refine b_nil (hK _ (AW.to (to_le (s' := ⟨[(1, HV.str p1), (2, HV.fptr [HV.int .i64 p0.1, HV.int .i64 p0.2.1, slE eFromLabelTo p0.2.2] 0), (7, HV.ar 16024 v3 (eSl eBool).k 0 ((a9.2).length)), (8, HV.int .i64 a9.1), (10, HV.ptr 16010 v26 0), (47, slE eFromLabelTo p0.2.2), (48, HV.int .i64 ((p0.2.2).length : Int)), (49, HV.int .i64 a17.1)], [(16024, v3, .arr (eSl eBool).k 67 (((eSl eBool).E a9.2).set (a9.1).toNat (HV.ar 16044 v13 eBool.k 0 ((a17.2).length)))), (16044, v13, .arr eBool.k 4 (eBool.E a17.2)), (16010, v26, .arr 3 64 [HV.int .i64 x24.1, HV.int .i64 x24.2.1, HV.int .i64 x24.2.2])]⟩) (AS.le_of ⟨rfl, rfl, rfl, rfl, rfl, rfl, rfl, rfl, trivial⟩ ⟨rfl, rfl, rfl, trivial⟩) ?_)))
              clear hK K
              refine AW.seqJ h (S := Bool) (V := Unit) (fun a v => ⟨[(1, HV.str p1), (2, HV.fptr [HV.int .i64 p0.1, HV.int .i64 p0.2.1, slE eFromLabelTo p0.2.2] 0), (7, HV.ar 16024 v3 (eSl eBool).k 0 ((a9.2).length)), (8, HV.int .i64 a9.1), (10, HV.ptr 16010 v26 0), (47, slE eFromLabelTo p0.2.2), (48, HV.int .i64 ((p0.2.2).length : Int)), (49, HV.int .i64 a17.1), (70, HV.bool a)], [(16010, v26, .arr 3 64 [HV.int .i64 x24.1, HV.int .i64 x24.2.1, HV.int .i64 x24.2.2]), (16024, v3, .arr (eSl eBool).k 67 (((eSl eBool).E a9.2).set (a9.1).toNat (HV.ar 16044 v13 eBool.k 0 ((a17.2).length)))), (16044, v13, .arr eBool.k 4 (eBool.E a17.2))]⟩) (fun a27 w28 h => ?_) (fun k29 h => ?_)
              · refine AW.cond rfl (fun hc => ?_) (fun hc => ?_)
                · have h := ifT hc h
                  refine AW.dg 7 follows rfl rfl fun K hK => ?_
                  refine sm rfl rfl ?_
                  refine sm rfl rfl ?_
                  obtain ⟨x30, h31, h⟩ := bS h
                  refine sv rfl (v_idxA ty66 es66 rfl rfl (idx_lt h31) rfl) ?_
                  refine sv rfl (v_loadP ty67 rfl rfl (l_hole eBool _ h31 rfl)) ?_
                  refine sv rfl (v_fieldAddrP fo64_0 rfl rfl) ?_
                  refine sv rfl (v_loadP ty3 rfl rfl (l_lit rfl rfl)) ?_
                  obtain ⟨x32, h33, h⟩ := bS h
                  refine sv rfl (v_idxA ty67 es67 rfl rfl (idx_lt h33) rfl) ?_
                  refine s_nil ?_
                  refine b_op rfl (o_storeE eBool (l := a17.2) (j := x24.1) (v := true) rfl rfl rfl ty4 rfl rfl rfl (idx_lt h33) ?_)
                  refine b_nil (hK _ ?_)
                  clear hK K
                  exact to_le (s' := ⟨[(1, HV.str p1), (2, HV.fptr [HV.int .i64 p0.1, HV.int .i64 p0.2.1, slE eFromLabelTo p0.2.2] 0), (7, HV.ar 16024 v3 (eSl eBool).k 0 ((a9.2).length)), (8, HV.int .i64 a9.1), (47, slE eFromLabelTo p0.2.2), (48, HV.int .i64 ((p0.2.2).length : Int)), (49, HV.int .i64 a17.1)], [(16024, v3, .arr (eSl eBool).k 67 (((eSl eBool).E a9.2).set (a9.1).toNat (HV.ar 16044 v13 eBool.k 0 (((a17.2).set (x24.1).toNat true).length)))), (16044, v13, .arr eBool.k 4 (eBool.E ((a17.2).set (x24.1).toNat true)))]⟩) (AS.le_of ⟨rfl, rfl, rfl, rfl, rfl, rfl, rfl, trivial⟩ ⟨hle rfl (by first | rfl | simp only [List.length_set, sortI_len, sortS_len]), rfl, trivial⟩) ⟨(a17.2).set (x24.1).toNat true, (), h, rfl⟩
                · have h := ifF (bF' hc) h
                  refine AW.skip ?_
                  exact to_le (s' := ⟨[(1, HV.str p1), (2, HV.fptr [HV.int .i64 p0.1, HV.int .i64 p0.2.1, slE eFromLabelTo p0.2.2] 0), (7, HV.ar 16024 v3 (eSl eBool).k 0 ((a9.2).length)), (8, HV.int .i64 a9.1), (47, slE eFromLabelTo p0.2.2), (48, HV.int .i64 ((p0.2.2).length : Int)), (49, HV.int .i64 a17.1)], [(16024, v3, .arr (eSl eBool).k 67 (((eSl eBool).E a9.2).set (a9.1).toNat (HV.ar 16044 v13 eBool.k 0 ((a17.2).length)))), (16044, v13, .arr eBool.k 4 (eBool.E a17.2))]⟩) (AS.le_of ⟨rfl, rfl, rfl, rfl, rfl, rfl, rfl, trivial⟩ ⟨rfl, rfl, trivial⟩) ⟨a17.2, (), h, rfl⟩
              · refine AW.dg 18 follows rfl rfl fun K hK => ?_
                refine sv rfl (v_fieldAddrP fo64_1 rfl rfl) ?_
                refine sv rfl (v_loadP ty3 rfl rfl (l_lit rfl rfl)) ?_
                obtain ⟨x34, h35, h⟩ := bS h
                refine sv rfl (v_idxS ty9 rfl rfl h35) ?_
                refine sm rfl rfl ?_
                refine sm rfl rfl ?_
                obtain ⟨x36, h37, h⟩ := bS h
                refine sv rfl (v_idxS ty9 rfl rfl h37) ?_
                refine sv rfl (v_bin rfl rfl b_eql) ?_
                refine sm rfl rfl ?_
                by_cases hg45 : (x34.toNat : Int) = (x36.toNat : Int)
                · have h := ifT hg45 h
                  refine s_T rfl rfl rfl rfl rfl (decide_eq_true hg45) (ops_val rfl (mv_val rfl rfl).2 ?_)
                  refine s_T rfl rfl rfl rfl rfl rfl (ops_val rfl (mv_val rfl rfl).2 ?_)
                  refine s_T rfl rfl rfl rfl rfl rfl (ops_val rfl (v_bin rfl rfl b_add) ?_)
                  obtain ⟨x38, h39, h⟩ := bS h
                  refine s_T rfl rfl rfl rfl rfl rfl (ops_val rfl (v_idxA ty66 es66 rfl rfl (idx_lt h39) rfl) ?_)
                  obtain ⟨h42, h⟩ := ifN h
                  obtain ⟨x40, h41, h⟩ := bS h
                  refine s_T rfl rfl rfl rfl rfl rfl (ops_val rfl (v_loadP ty67 rfl rfl (l_holeN eBool _ h41 h42 rfl)) ?_)
                  refine s_T rfl rfl rfl rfl rfl rfl (ops_val rfl (v_fieldAddrP fo64_2 rfl rfl) ?_)
                  refine s_T rfl rfl rfl rfl rfl rfl (ops_val rfl (v_loadP ty3 rfl rfl (l_lit rfl rfl)) ?_)
                  obtain ⟨x43, h44, h⟩ := bS h
                  refine s_T rfl rfl rfl rfl rfl rfl (ops_val rfl (v_idxF ty67 es67 rfl rfl (idx_lt h44)) ?_)
                  refine s_T rfl rfl rfl rfl rfl rfl (ops_val rfl (v_loadF ty4 rfl (l_cell eBool h44 (o := 0) rfl rfl)) ?_)
                  refine sv rfl (v_pickT rfl rfl rfl) ?_
                  refine s_nil ?_
                  refine b_nil (hK _ ?_)
                  clear hK K
                  exact to_le (s' := ⟨[(1, HV.str p1), (2, HV.fptr [HV.int .i64 p0.1, HV.int .i64 p0.2.1, slE eFromLabelTo p0.2.2] 0), (7, HV.ar 16024 v3 (eSl eBool).k 0 ((a9.2).length)), (8, HV.int .i64 a9.1), (10, HV.ptr 16010 v26 0), (47, slE eFromLabelTo p0.2.2), (48, HV.int .i64 ((p0.2.2).length : Int)), (49, HV.int .i64 a17.1), (70, HV.bool x43)], [(16010, v26, .arr 3 64 [HV.int .i64 x24.1, HV.int .i64 x24.2.1, HV.int .i64 x24.2.2]), (16024, v3, .arr (eSl eBool).k 67 (((eSl eBool).E a9.2).set (a9.1).toNat (HV.ar 16044 v13 eBool.k 0 ((a17.2).length)))), (16044, v13, .arr eBool.k 4 (eBool.E a17.2))]⟩) (AS.le_of ⟨rfl, rfl, rfl, rfl, rfl, rfl, rfl, rfl, rfl, trivial⟩ ⟨rfl, rfl, rfl, trivial⟩) ⟨x43, (), h, rfl⟩
                · have h := ifF hg45 h
                  refine s_F rfl rfl rfl rfl rfl (decide_eq_false hg45) ?_
                  refine s_F rfl rfl rfl rfl rfl rfl ?_
                  refine s_F rfl rfl rfl rfl rfl rfl ?_
                  refine s_F rfl rfl rfl rfl rfl rfl ?_
                  refine s_F rfl rfl rfl rfl rfl rfl ?_
                  refine s_F rfl rfl rfl rfl rfl rfl ?_
                  refine s_F rfl rfl rfl rfl rfl rfl ?_
                  refine s_F rfl rfl rfl rfl rfl rfl ?_
                  refine s_F rfl rfl rfl rfl rfl rfl ?_
                  refine sv rfl (v_pickF rfl rfl rfl) ?_
                  refine s_nil ?_
                  refine b_nil (hK _ ?_)
                  clear hK K
                  exact to_le (s' := ⟨[(1, HV.str p1), (2, HV.fptr [HV.int .i64 p0.1, HV.int .i64 p0.2.1, slE eFromLabelTo p0.2.2] 0), (7, HV.ar 16024 v3 (eSl eBool).k 0 ((a9.2).length)), (8, HV.int .i64 a9.1), (10, HV.ptr 16010 v26 0), (47, slE eFromLabelTo p0.2.2), (48, HV.int .i64 ((p0.2.2).length : Int)), (49, HV.int .i64 a17.1), (70, HV.bool false)], [(16010, v26, .arr 3 64 [HV.int .i64 x24.1, HV.int .i64 x24.2.1, HV.int .i64 x24.2.2]), (16024, v3, .arr (eSl eBool).k 67 (((eSl eBool).E a9.2).set (a9.1).toNat (HV.ar 16044 v13 eBool.k 0 ((a17.2).length)))), (16044, v13, .arr eBool.k 4 (eBool.E a17.2))]⟩) (AS.le_of ⟨rfl, rfl, rfl, rfl, rfl, rfl, rfl, rfl, rfl, trivial⟩ ⟨rfl, rfl, rfl, trivial⟩) ⟨false, (), h, rfl⟩
          · have hc := of_decide_eq_false hc
            have h := ifF hc h
            refine AW.exit ?_
            exact to_le (s' := ⟨[(1, HV.str p1), (2, HV.fptr [HV.int .i64 p0.1, HV.int .i64 p0.2.1, slE eFromLabelTo p0.2.2] 0), (7, HV.ar 16024 v3 (eSl eBool).k 0 ((a9.2).length)), (8, HV.int .i64 a9.1)], [(16024, v3, .arr (eSl eBool).k 67 (((eSl eBool).E a9.2).set (a9.1).toNat (HV.ar 16044 v13 eBool.k 0 ((a17.2).length)))), (16044, v13, .arr eBool.k 4 (eBool.E a17.2))]⟩) (AS.le_of ⟨rfl, rfl, rfl, rfl, trivial⟩ ⟨rfl, rfl, trivial⟩) ⟨a17.2, (), h, rfl⟩
      · have hc := of_decide_eq_false hc
        have h := ifF hc h
        refine AW.exit ?_
        exact to_le (s' := ⟨[(1, HV.str p1), (2, HV.fptr [HV.int .i64 p0.1, HV.int .i64 p0.2.1, slE eFromLabelTo p0.2.2] 0), (7, HV.ar 16024 v3 (eSl eBool).k 0 ((a9.2).length))], [(16024, v3, .arr (eSl eBool).k 67 ((eSl eBool).E a9.2))]⟩) (AS.le_of ⟨rfl, rfl, rfl, trivial⟩ ⟨rfl, trivial⟩) ⟨a9.2, (), h, rfl⟩

set_option maxHeartbeats 1600000 in
set_option maxRecDepth 100000 in
theorem w_slices_Equal_Lstring_string {p0 : List (List UInt8)} {p1 : List (List UInt8)} {r : Bool} (h : m_slices_Equal_Lstring_string p0 p1 = some r) : Pure Try.prog 17 [slE eStr p0, slE eStr p1] (· = HV.bool r) := by
  unfold m_slices_Equal_Lstring_string at h
  refine Pure.of_body Try.func17 rfl rfl (Nat.le_of_ble_eq_true rfl) fun hf => ?_
  unfold Try.f17
  dsimp only [enumS, Nat.reduceAdd]
  refine AW.rgs rfl fun K hK => ?_
  refine mv rfl rfl ?_
  refine b_nil (hK _ (AW.to (to_le (s' := ⟨[(0, slE eStr p0), (1, slE eStr p1)], []⟩) (AS.le_of ⟨rfl, rfl, trivial⟩ trivial) ?_)))
  clear hK K
  refine AW.seq ?_
  refine AW.rgs rfl fun K hK => ?_
  refine mv rfl rfl ?_
  refine bv rfl (v_lenF rfl rfl ty28 rfl) ?_
  refine mv rfl rfl ?_
  refine bv rfl (v_lenF rfl rfl ty28 rfl) ?_
  refine bv rfl (v_bin rfl rfl b_neq) ?_
  refine b_nil (hK _ (AW.to (to_le (s' := ⟨[(0, slE eStr p0), (1, slE eStr p1), (10, HV.bool (decide (((p0).length : Int) ≠ ((p1).length : Int))))], []⟩) (AS.le_of ⟨rfl, rfl, rfl, trivial⟩ trivial) ?_)))
  clear hK K
  refine AW.cond rfl (fun hc => ?_) (fun hc => ?_)
  · have hc := of_decide_eq_true hc
    have h := ifT hc h
    refine AW.rgs rfl fun K hK => ?_
    refine mv rfl rfl ?_
    refine b_nil (hK _ (AW.to (to_le (s' := ⟨[(4, HV.bool false)], []⟩) (AS.le_of ⟨rfl, trivial⟩ trivial) ?_)))
    clear hK K
    refine AW.ret ?_
    have h := Option.some.inj h
    subst h
    exact ret_pure (hs := [HV.bool false]) (q := HV.bool false) (.inr rfl) (resT rfl rfl) rfl trivial
  · have hc := of_decide_eq_false hc
    have h := ifF hc h
    refine AW.skip ?_
    refine AW.seq ?_
    refine AW.rgs rfl fun K hK => ?_
    refine mv rfl rfl ?_
    refine bv rfl (v_lenF rfl rfl ty28 rfl) ?_
    refine mv rfl rfl ?_
    refine b_nil (hK _ (AW.to (to_le (s' := ⟨[(0, slE eStr p0), (1, slE eStr p1), (12, HV.int .i64 ((p0).length : Int)), (13, HV.int .i64 0)], []⟩) (AS.le_of ⟨rfl, rfl, rfl, rfl, trivial⟩ trivial) ?_)))
    clear hK K
    refine AW.lpR h (by first | exact up_then | exact up_to) (S := Int) (V := Unit) (fun a v => ⟨[(0, slE eStr p0), (1, slE eStr p1), (12, HV.int .i64 ((p0).length : Int)), (13, HV.int .i64 a)], []⟩) ?_ (X := Unit) (W := Unit) (fun a v => ⟨[], []⟩) (fun a9 w10 h => ?_) (fun a1 w2 st3 h hr4=> ?_)
    · exact to_le (s' := ⟨[(0, slE eStr p0), (1, slE eStr p1), (12, HV.int .i64 ((p0).length : Int)), (13, HV.int .i64 0)], []⟩) (AS.le_of ⟨rfl, rfl, rfl, rfl, trivial⟩ trivial) ⟨(), rfl⟩
    · refine AW.rgs rfl fun K hK => ?_
      refine mv rfl rfl ?_
      refine b_nil (hK _ (AW.to (to_le (s' := ⟨[(4, HV.bool true)], []⟩) (AS.le_of ⟨rfl, trivial⟩ trivial) ?_)))
      clear hK K
      refine AW.ret ?_
      have h := Option.some.inj h
      subst h
      exact ret_pure (hs := [HV.bool true]) (q := HV.bool true) (.inr rfl) (resT rfl rfl) rfl trivial
    · refine AW.rgs rfl fun K hK => ?_
      refine bv rfl (v_bin rfl rfl b_lss) ?_
      refine b_nil (hK _ (AW.to (to_le (s' := ⟨[(0, slE eStr p0), (1, slE eStr p1), (12, HV.int .i64 ((p0).length : Int)), (13, HV.int .i64 a1), (14, HV.bool (decide (a1 < ((p0).length : Int))))], []⟩) (AS.le_of ⟨rfl, rfl, rfl, rfl, rfl, trivial⟩ trivial) ?_)))
      clear hK K
      refine AW.cseq rfl (fun hc => ?_) (fun hc => ?_)
      · have hc := of_decide_eq_true hc
        have h := ifT hc h
        refine AW.skip ?_
        refine AW.seq (AW.block ?_)
        refine AW.rgs rfl fun K hK => ?_
        refine mv rfl rfl ?_
        refine mv rfl rfl ?_
        refine b_nil (hK _ (AW.to (to_le (s' := ⟨[(0, slE eStr p0), (1, slE eStr p1), (5, HV.int .i64 a1), (12, HV.int .i64 ((p0).length : Int)), (13, HV.int .i64 a1)], []⟩) (AS.le_of ⟨rfl, rfl, rfl, rfl, rfl, trivial⟩ trivial) ?_)))
        clear hK K
        refine AW.dgs 9 follows rfl rfl fun K hK => ?_
        refine sm rfl rfl ?_
        refine sm rfl rfl ?_
        obtain ⟨x5, h6, h⟩ := bS h
        refine sv rfl (v_idxF ty28 es28 rfl rfl (idx_lt h6)) ?_
        refine sv rfl (v_loadF ty9 rfl (l_cell eStr h6 (o := 0) rfl rfl)) ?_
        refine sm rfl rfl ?_
        refine sm rfl rfl ?_
        obtain ⟨x7, h8, h⟩ := bS h
        refine sv rfl (v_idxF ty28 es28 rfl rfl (idx_lt h8)) ?_
        refine sv rfl (v_loadF ty9 rfl (l_cell eStr h8 (o := 0) rfl rfl)) ?_
        refine sv rfl (v_bin rfl rfl b_sneq) ?_
        refine s_nil ?_
        refine b_nil (hK _ (AW.to (to_le (s' := ⟨[(0, slE eStr p0), (1, slE eStr p1), (12, HV.int .i64 ((p0).length : Int)), (13, HV.int .i64 a1), (24, HV.bool (decide (x5 ≠ x7)))], []⟩) (AS.le_of ⟨rfl, rfl, rfl, rfl, rfl, trivial⟩ trivial) ?_)))
        clear hK K
        refine AW.cond rfl (fun hc => ?_) (fun hc => ?_)
        · have hc := of_decide_eq_true hc
          have h := ifT hc h
          refine AW.rgs rfl fun K hK => ?_
          refine mv rfl rfl ?_
          refine b_nil (hK _ (AW.to (to_le (s' := ⟨[(4, HV.bool false)], []⟩) (AS.le_of ⟨rfl, trivial⟩ trivial) ?_)))
          clear hK K
          have h := hr4 _ h
          refine AW.ret ?_
          have h := Option.some.inj h
          subst h
          exact ret_pure (hs := [HV.bool false]) (q := HV.bool false) (.inr rfl) (resT rfl rfl) rfl trivial
        · have hc := of_decide_eq_false hc
          have h := ifF hc h
          refine AW.skip ?_
          refine AW.rg rfl fun K hK => ?_
          refine bv rfl (v_bin rfl rfl b_add) ?_
          refine mv rfl rfl ?_
          refine b_nil (hK _ ?_)
          clear hK K
          exact to_le (s' := ⟨[(0, slE eStr p0), (1, slE eStr p1), (12, HV.int .i64 ((p0).length : Int)), (13, HV.int .i64 (IntKind.wrap .i64 (a1 + 1)))], []⟩) (AS.le_of ⟨rfl, rfl, rfl, rfl, trivial⟩ trivial) ⟨IntKind.wrap .i64 (a1 + 1), (), h, rfl⟩
      · have hc := of_decide_eq_false hc
        have h := ifF hc h
        refine AW.exit ?_
        exact to_le (s' := ⟨[], []⟩) (AS.le_of trivial trivial) ⟨(), (), h, rfl⟩

end Go.AW

namespace Go.AW
open Go Go.Proofs
set_option linter.unusedVariables false
set_option maxHeartbeats 1600000 in
set_option maxRecDepth 100000 in
theorem w_slices_Equal_Lint_int {p0 : List (Int)} {p1 : List (Int)} {r : Bool} (h : m_slices_Equal_Lint_int p0 p1 = some r) : Pure Try.prog 18 [slE eInt p0, slE eInt p1] (· = HV.bool r) := by
  unfold m_slices_Equal_Lint_int at h
  refine Pure.of_body Try.func18 rfl rfl (Nat.le_of_ble_eq_true rfl) fun hf => ?_
  unfold Try.f18
  dsimp only [enumS, Nat.reduceAdd]
  refine AW.rgs rfl fun K hK => ?_
  refine mv rfl rfl ?_
  refine b_nil (hK _ (AW.to (to_le (s' := ⟨[(0, slE eInt p0), (1, slE eInt p1)], []⟩) (AS.le_of ⟨rfl, rfl, trivial⟩ trivial) ?_)))
  clear hK K
  refine AW.seq ?_
  refine AW.rgs rfl fun K hK => ?_
  refine mv rfl rfl ?_
  refine bv rfl (v_lenF rfl rfl ty41 rfl) ?_
  refine mv rfl rfl ?_
  refine bv rfl (v_lenF rfl rfl ty41 rfl) ?_
  refine bv rfl (v_bin rfl rfl b_neq) ?_
  refine b_nil (hK _ (AW.to (to_le (s' := ⟨[(0, slE eInt p0), (1, slE eInt p1), (10, HV.bool (decide (((p0).length : Int) ≠ ((p1).length : Int))))], []⟩) (AS.le_of ⟨rfl, rfl, rfl, trivial⟩ trivial) ?_)))
  clear hK K
  refine AW.cond rfl (fun hc => ?_) (fun hc => ?_)
  · have hc := of_decide_eq_true hc
    have h := ifT hc h
    refine AW.rgs rfl fun K hK => ?_
    refine mv rfl rfl ?_
    refine b_nil (hK _ (AW.to (to_le (s' := ⟨[(4, HV.bool false)], []⟩) (AS.le_of ⟨rfl, trivial⟩ trivial) ?_)))
    clear hK K
    refine AW.ret ?_
    have h := Option.some.inj h
    subst h
    exact ret_pure (hs := [HV.bool false]) (q := HV.bool false) (.inr rfl) (resT rfl rfl) rfl trivial
  · have hc := of_decide_eq_false hc
    have h := ifF hc h
    refine AW.skip ?_
    refine AW.seq ?_
    refine AW.rgs rfl fun K hK => ?_
    refine mv rfl rfl ?_
    refine bv rfl (v_lenF rfl rfl ty41 rfl) ?_
    refine mv rfl rfl ?_
    refine b_nil (hK _ (AW.to (to_le (s' := ⟨[(0, slE eInt p0), (1, slE eInt p1), (12, HV.int .i64 ((p0).length : Int)), (13, HV.int .i64 0)], []⟩) (AS.le_of ⟨rfl, rfl, rfl, rfl, trivial⟩ trivial) ?_)))
    clear hK K
    refine AW.lpR h (by first | exact up_then | exact up_to) (S := Int) (V := Unit) (fun a v => ⟨[(0, slE eInt p0), (1, slE eInt p1), (12, HV.int .i64 ((p0).length : Int)), (13, HV.int .i64 a)], []⟩) ?_ (X := Unit) (W := Unit) (fun a v => ⟨[], []⟩) (fun a9 w10 h => ?_) (fun a1 w2 st3 h hr4=> ?_)
    · exact to_le (s' := ⟨[(0, slE eInt p0), (1, slE eInt p1), (12, HV.int .i64 ((p0).length : Int)), (13, HV.int .i64 0)], []⟩) (AS.le_of ⟨rfl, rfl, rfl, rfl, trivial⟩ trivial) ⟨(), rfl⟩
    · refine AW.rgs rfl fun K hK => ?_
      refine mv rfl rfl ?_
      refine b_nil (hK _ (AW.to (to_le (s' := ⟨[(4, HV.bool true)], []⟩) (AS.le_of ⟨rfl, trivial⟩ trivial) ?_)))
      clear hK K
      refine AW.ret ?_
      have h := Option.some.inj h
      subst h
      exact ret_pure (hs := [HV.bool true]) (q := HV.bool true) (.inr rfl) (resT rfl rfl) rfl trivial
    · refine AW.rgs rfl fun K hK => ?_
      refine bv rfl (v_bin rfl rfl b_lss) ?_
      refine b_nil (hK _ (AW.to (to_le (s' := ⟨[(0, slE eInt p0), (1, slE eInt p1), (12, HV.int .i64 ((p0).length : Int)), (13, HV.int .i64 a1), (14, HV.bool (decide (a1 < ((p0).length : Int))))], []⟩) (AS.le_of ⟨rfl, rfl, rfl, rfl, rfl, trivial⟩ trivial) ?_)))
      clear hK K
      refine AW.cseq rfl (fun hc => ?_) (fun hc => ?_)
      · have hc := of_decide_eq_true hc
        have h := ifT hc h
        refine AW.skip ?_
        refine AW.seq (AW.block ?_)
        refine AW.rgs rfl fun K hK => ?_
        refine mv rfl rfl ?_
        refine mv rfl rfl ?_
        refine b_nil (hK _ (AW.to (to_le (s' := ⟨[(0, slE eInt p0), (1, slE eInt p1), (5, HV.int .i64 a1), (12, HV.int .i64 ((p0).length : Int)), (13, HV.int .i64 a1)], []⟩) (AS.le_of ⟨rfl, rfl, rfl, rfl, rfl, trivial⟩ trivial) ?_)))
        clear hK K
        refine AW.dgs 9 follows rfl rfl fun K hK => ?_
        refine sm rfl rfl ?_
        refine sm rfl rfl ?_
        obtain ⟨x5, h6, h⟩ := bS h
        refine sv rfl (v_idxF ty41 es41 rfl rfl (idx_lt h6)) ?_
        refine sv rfl (v_loadF ty3 rfl (l_cell eInt h6 (o := 0) rfl rfl)) ?_
        refine sm rfl rfl ?_
        refine sm rfl rfl ?_
        obtain ⟨x7, h8, h⟩ := bS h
        refine sv rfl (v_idxF ty41 es41 rfl rfl (idx_lt h8)) ?_
        refine sv rfl (v_loadF ty3 rfl (l_cell eInt h8 (o := 0) rfl rfl)) ?_
        refine sv rfl (v_bin rfl rfl b_neq) ?_
        refine s_nil ?_
        refine b_nil (hK _ (AW.to (to_le (s' := ⟨[(0, slE eInt p0), (1, slE eInt p1), (12, HV.int .i64 ((p0).length : Int)), (13, HV.int .i64 a1), (24, HV.bool (decide (x5 ≠ x7)))], []⟩) (AS.le_of ⟨rfl, rfl, rfl, rfl, rfl, trivial⟩ trivial) ?_)))
        clear hK K
        refine AW.cond rfl (fun hc => ?_) (fun hc => ?_)
        · have hc := of_decide_eq_true hc
          have h := ifT hc h
          refine AW.rgs rfl fun K hK => ?_
          refine mv rfl rfl ?_
          refine b_nil (hK _ (AW.to (to_le (s' := ⟨[(4, HV.bool false)], []⟩) (AS.le_of ⟨rfl, trivial⟩ trivial) ?_)))
          clear hK K
          have h := hr4 _ h
          refine AW.ret ?_
          have h := Option.some.inj h
          subst h
          exact ret_pure (hs := [HV.bool false]) (q := HV.bool false) (.inr rfl) (resT rfl rfl) rfl trivial
        · have hc := of_decide_eq_false hc
          have h := ifF hc h
          refine AW.skip ?_
          refine AW.rg rfl fun K hK => ?_
          refine bv rfl (v_bin rfl rfl b_add) ?_
          refine mv rfl rfl ?_
          refine b_nil (hK _ ?_)
          clear hK K
          exact to_le (s' := ⟨[(0, slE eInt p0), (1, slE eInt p1), (12, HV.int .i64 ((p0).length : Int)), (13, HV.int .i64 (IntKind.wrap .i64 (a1 + 1)))], []⟩) (AS.le_of ⟨rfl, rfl, rfl, rfl, trivial⟩ trivial) ⟨IntKind.wrap .i64 (a1 + 1), (), h, rfl⟩
      · have hc := of_decide_eq_false hc
        have h := ifF hc h
        refine AW.exit ?_
        exact to_le (s' := ⟨[], []⟩) (AS.le_of trivial trivial) ⟨(), (), h, rfl⟩

set_option maxHeartbeats 1600000 in
set_option maxRecDepth 100000 in
theorem w_law11_awakeG  {r : Bool} (h : m_law11_awakeG  = some r) : Pure Try.prog 7 [] (· = HV.bool r) := by
  unfold m_law11_awakeG at h
  refine Pure.of_body Try.func7 rfl rfl (Nat.le_of_ble_eq_true rfl) fun hf => ?_
  unfold Try.f7
  dsimp only [enumS, Nat.reduceAdd]
  refine AW.rgs rfl fun K hK => ?_
  refine mv rfl rfl ?_
  refine b_nil (hK _ (AW.to (to_le (s' := ⟨[], []⟩) (AS.le_of trivial trivial) ?_)))
  clear hK K
  refine AW.rgs rfl fun K hK => ?_
  obtain ⟨x1, h2, h⟩ := bS h
  refine b_op rfl (o_call rfl rfl rfl rfl (ACallD.pure0 (w_law11_golden h2)) ?_)
  obtain ⟨x3, h4, h⟩ := bS h
  refine b_op rfl (o_call rfl rfl rfl rfl (ACallD.pure0 (w_language_Words h4)) ?_)
  refine mv rfl rfl ?_
  refine bv rfl (v_extract rfl rfl) ?_
  refine bv rfl (v_extract rfl rfl) ?_
  refine mv rfl rfl ?_
  refine mv rfl rfl ?_
  refine b_nil (hK _ (AW.to (to_le (s' := ⟨[(1, slE eStr x3.1), (2, HV.int .i64 x3.2)], []⟩) (AS.le_of ⟨rfl, rfl, trivial⟩ trivial) ?_)))
  clear hK K
  refine AW.rgs rfl fun K hK => ?_
  obtain ⟨x5, h6, h⟩ := bS h
  refine b_op rfl (o_call rfl rfl rfl rfl (ACallD.pure0 (w_law11_golden h6)) ?_)
  obtain ⟨x7, h8, h⟩ := bS h
  refine b_op rfl (o_call rfl rfl rfl rfl (ACallD.pure0 (w_language_Missing h8)) ?_)
  refine mv rfl rfl ?_
  refine bv rfl (v_extract rfl rfl) ?_
  refine bv rfl (v_extract rfl rfl) ?_
  refine bv rfl (v_extract rfl rfl) ?_
  refine mv rfl rfl ?_
  refine mv rfl rfl ?_
  refine mv rfl rfl ?_
  refine b_nil (hK _ (AW.to (to_le (s' := ⟨[(1, slE eStr x3.1), (2, HV.int .i64 x3.2), (3, HV.str x7.1), (4, HV.bool x7.2.1), (5, HV.int .i64 x7.2.2)], []⟩) (AS.le_of ⟨rfl, rfl, rfl, rfl, rfl, trivial⟩ trivial) ?_)))
  clear hK K
  refine AW.rgs rfl fun K hK => ?_
  obtain ⟨x9, h10, h⟩ := bS h
  refine b_op rfl (o_call rfl rfl rfl rfl (ACallD.pure0 (w_law11_golden h10)) ?_)
  obtain ⟨x11, h12, h⟩ := bS h
  refine b_op rfl (o_call rfl rfl rfl rfl (ACallD.pure0 (w_language_Path h12)) ?_)
  refine mv rfl rfl ?_
  refine bv rfl (v_extract rfl rfl) ?_
  refine bv rfl (v_extract rfl rfl) ?_
  refine mv rfl rfl ?_
  refine mv rfl rfl ?_
  refine b_nil (hK _ (AW.to (to_le (s' := ⟨[(1, slE eStr x3.1), (2, HV.int .i64 x3.2), (3, HV.str x7.1), (4, HV.bool x7.2.1), (5, HV.int .i64 x7.2.2), (6, slE eInt x11.1), (7, HV.int .i64 x11.2)], []⟩) (AS.le_of ⟨rfl, rfl, rfl, rfl, rfl, rfl, rfl, trivial⟩ trivial) ?_)))
  clear hK K
  refine AW.seqJ h (S := Bool) (V := Unit) (fun a v => ⟨[(0, HV.bool a)], []⟩) (fun a13 w14 h => ?_) (fun k15 h => ?_)
  · refine AW.ret ?_
    have h := Option.some.inj h
    subst h
    exact ret_pure (hs := [HV.bool a13]) (q := HV.bool a13) (.inr rfl) (resT rfl rfl) rfl trivial
  · refine AW.rg rfl fun K hK => ?_
    refine mv rfl rfl ?_
    refine mv rfl rfl ?_
    refine mv rfl rfl ?_
    refine bv rfl (v_max3 rfl rfl rfl rfl) ?_
    refine bv rfl (v_bin rfl rfl b_eql) ?_
    refine mv rfl rfl ?_
    by_cases hg23 : (max (max x3.2 x7.2.2) x11.2) = 0
    · have h := ifT hg23 h
      refine b_T rfl rfl rfl rfl (decide_eq_true hg23) (o_val rfl (mv_val rfl rfl).2 ?_)
      refine b_T rfl rfl rfl rfl rfl (o_bsl rfl rfl (as_of (cs := [HV.str [48, 48], HV.str [48, 49], HV.str [49, 48]]) ty28 ty9 rfl rfl rfl rfl rfl) ?_)
      obtain ⟨x16, h17, h⟩ := bS h
      refine b_T rfl rfl rfl rfl rfl (o_call rfl rfl rfl rfl (ACallD.pure0 (w_slices_Equal_Lstring_string h17)) ?_)
      refine bv rfl (v_pickT rfl rfl rfl) ?_
      refine mv rfl rfl ?_
      by_cases hg22 : x16 = true
      · have h := ifT hg22 h
        refine b_T rfl rfl rfl rfl hg22 (o_val rfl (mv_val rfl rfl).2 ?_)
        refine b_T rfl rfl rfl rfl rfl (o_val rfl (v_bin rfl rfl b_seql) ?_)
        refine bv rfl (v_pickT rfl rfl rfl) ?_
        refine mv rfl rfl ?_
        by_cases hg21 : x7.1 = [49, 49]
        · have h := ifT hg21 h
          refine b_T rfl rfl rfl rfl (decide_eq_true hg21) (o_val rfl (mv_val rfl rfl).2 ?_)
          refine bv rfl (v_pickT rfl rfl rfl) ?_
          refine mv rfl rfl ?_
          by_cases hg20 : x7.2.1 = true
          · have h := ifT hg20 h
            refine b_T rfl rfl rfl rfl hg20 (o_val rfl (mv_val rfl rfl).2 ?_)
            refine b_T rfl rfl rfl rfl rfl (o_bsl rfl rfl (as_of (cs := [HV.int .i64 0, HV.int .i64 1, HV.int .i64 2]) ty41 ty3 rfl rfl rfl rfl rfl) ?_)
            obtain ⟨x18, h19, h⟩ := bS h
            refine b_T rfl rfl rfl rfl rfl (o_call rfl rfl rfl rfl (ACallD.pure0 (w_slices_Equal_Lint_int h19)) ?_)
            refine bv rfl (v_pickT rfl rfl rfl) ?_
            refine mv rfl rfl ?_
            refine b_nil (hK _ ?_)
            clear hK K
            exact to_le (s' := ⟨[(0, HV.bool x18)], []⟩) (AS.le_of ⟨rfl, trivial⟩ trivial) ⟨x18, (), h, rfl⟩
          · have h := ifF hg20 h
            refine b_F rfl rfl rfl rfl rfl (bF hg20) ?_
            refine b_F rfl rfl rfl rfl rfl rfl ?_
            refine b_F rfl rfl rfl rfl rfl rfl ?_
            refine bv rfl (v_pickF rfl rfl rfl) ?_
            refine mv rfl rfl ?_
            refine b_nil (hK _ ?_)
            clear hK K
            exact to_le (s' := ⟨[(0, HV.bool false)], []⟩) (AS.le_of ⟨rfl, trivial⟩ trivial) ⟨false, (), h, rfl⟩
        · have h := ifF hg21 h
          refine b_F rfl rfl rfl rfl rfl (decide_eq_false hg21) ?_
          refine bv rfl (v_pickF rfl rfl rfl) ?_
          refine mv rfl rfl ?_
          refine b_F rfl rfl rfl rfl rfl rfl ?_
          refine b_F rfl rfl rfl rfl rfl rfl ?_
          refine b_F rfl rfl rfl rfl rfl rfl ?_
          refine bv rfl (v_pickF rfl rfl rfl) ?_
          refine mv rfl rfl ?_
          refine b_nil (hK _ ?_)
          clear hK K
          exact to_le (s' := ⟨[(0, HV.bool false)], []⟩) (AS.le_of ⟨rfl, trivial⟩ trivial) ⟨false, (), h, rfl⟩
      · have h := ifF hg22 h
        refine b_F rfl rfl rfl rfl rfl (bF hg22) ?_
        refine b_F rfl rfl rfl rfl rfl rfl ?_
        refine bv rfl (v_pickF rfl rfl rfl) ?_
        refine mv rfl rfl ?_
        refine b_F rfl rfl rfl rfl rfl rfl ?_
        refine bv rfl (v_pickF rfl rfl rfl) ?_
        refine mv rfl rfl ?_
        refine b_F rfl rfl rfl rfl rfl rfl ?_
        refine b_F rfl rfl rfl rfl rfl rfl ?_
        refine b_F rfl rfl rfl rfl rfl rfl ?_
        refine bv rfl (v_pickF rfl rfl rfl) ?_
        refine mv rfl rfl ?_
        refine b_nil (hK _ ?_)
        clear hK K
        exact to_le (s' := ⟨[(0, HV.bool false)], []⟩) (AS.le_of ⟨rfl, trivial⟩ trivial) ⟨false, (), h, rfl⟩
    · have h := ifF hg23 h
      refine b_F rfl rfl rfl rfl rfl (decide_eq_false hg23) ?_
      refine b_F rfl rfl rfl rfl rfl rfl ?_
      refine b_F rfl rfl rfl rfl rfl rfl ?_
      refine bv rfl (v_pickF rfl rfl rfl) ?_
      refine mv rfl rfl ?_
      refine b_F rfl rfl rfl rfl rfl rfl ?_
      refine b_F rfl rfl rfl rfl rfl rfl ?_
      refine bv rfl (v_pickF rfl rfl rfl) ?_
      refine mv rfl rfl ?_
      refine b_F rfl rfl rfl rfl rfl rfl ?_
      refine bv rfl (v_pickF rfl rfl rfl) ?_
      refine mv rfl rfl ?_
      refine b_F rfl rfl rfl rfl rfl rfl ?_
      refine b_F rfl rfl rfl rfl rfl rfl ?_
      refine b_F rfl rfl rfl rfl rfl rfl ?_
      refine bv rfl (v_pickF rfl rfl rfl) ?_
      refine mv rfl rfl ?_
      refine b_nil (hK _ ?_)
      clear hK K
      exact to_le (s' := ⟨[(0, HV.bool false)], []⟩) (AS.le_of ⟨rfl, trivial⟩ trivial) ⟨false, (), h, rfl⟩

end Go.AW



/- The anchor of chapter 11. -/
namespace Go.AW
open Go Go.Proofs
theorem w_law11_awake {r : Bool} (h : m_law11_awake = some r) : Pure Try.prog 7 [] (· = HV.bool r) := by
  cases h
  exact w_law11_awakeG awake11_eq
end Go.AW

namespace Go.Proofs
open Go
def Try.strRep_ren : Go.Shelf.Ren := ⟨fun | 105 => 25 | 212 => 38 | 99 => 39 | 165 => 40 | 166 => 41 | 170 => 42 | 169 => 43 | 263 => 53 | 264 => 54 | 206 => 55 | 240 => 56 | 241 => 57 | 276 => 75 | 277 => 76 | n => n, fun | 9 => 9 | 3 => 3 | 4 => 4 | 20 => 20 | 0 => 0 | 46 => 72 | 109 => 73 | 5 => 5 | 72 => 79 | 76 => 83 | 51 => 95 | 146 => 96 | 53 => 98 | 148 => 99 | 70 => 76 | 37 => 77 | 75 => 82 | 127 => 101 | 164 => 119 | 80 => 86 | n => n, fun | n => n⟩
theorem Try.strRep : Go.Proofs.Lays.n105 Try.prog Try.strRep_ren where
  mixed := by kernel_rfl
  f99 := Try.func39.trans (congrArg some (by kernel_rfl))
  f105 := Try.func25.trans (congrArg some (by kernel_rfl))
  f165 := Try.func40.trans (congrArg some (by kernel_rfl))
  f166 := Try.func41.trans (congrArg some (by kernel_rfl))
  f169 := Try.func43.trans (congrArg some (by kernel_rfl))
  f170 := Try.func42.trans (congrArg some (by kernel_rfl))
  f206 := Try.func55.trans (congrArg some (by kernel_rfl))
  f212 := Try.func38.trans (congrArg some (by kernel_rfl))
  f240 := Try.func56.trans (congrArg some (by kernel_rfl))
  f241 := Try.func57.trans (congrArg some (by kernel_rfl))
  f263 := Try.func53.trans (congrArg some (by kernel_rfl))
  f264 := Try.func54.trans (congrArg some (by kernel_rfl))
  f276 := Try.func75.trans (congrArg some (by kernel_rfl))
  f277 := Try.func76.trans (congrArg some (by kernel_rfl))
  t0 := Try.underlying0
  a0 := Try.isAgg0
  z0 := Try.sizeOf0
  v0 := Try.zeroValue0
  t3 := Try.underlying3
  a3 := Try.isAgg3
  z3 := Try.sizeOf3
  v3 := Try.zeroValue3
  t4 := Try.underlying4
  a4 := Try.isAgg4
  z4 := Try.sizeOf4
  v4 := Try.zeroValue4
  t5 := Try.underlying5
  a5 := Try.isAgg5
  z5 := Try.sizeOf5
  v5 := Try.zeroValue5
  t9 := Try.underlying9
  a9 := Try.isAgg9
  z9 := Try.sizeOf9
  v9 := Try.zeroValue9
  t20 := Try.underlying20
  a20 := Try.isAgg20
  z20 := Try.sizeOf20
  v20 := Try.zeroValue20
  t37 := Try.underlying77
  a37 := Try.isAgg77
  z37 := Try.sizeOf77
  v37 := Try.zeroValue77
  t46 := Try.underlying72
  a46 := Try.isAgg72
  z46 := Try.sizeOf72
  v46 := Try.zeroValue72
  t51 := Try.underlying95
  a51 := Try.isAgg95
  z51 := Try.sizeOf95
  v51 := Try.zeroValue95
  t53 := Try.underlying98
  a53 := Try.isAgg98
  z53 := Try.sizeOf98
  v53 := Try.zeroValue98
  t70 := Try.underlying76
  a70 := Try.isAgg76
  z70 := Try.sizeOf76
  v70 := Try.zeroValue76
  t72 := Try.underlying79
  a72 := Try.isAgg79
  z72 := Try.sizeOf79
  v72 := Try.zeroValue79
  t75 := Try.underlying82
  a75 := Try.isAgg82
  z75 := Try.sizeOf82
  v75 := Try.zeroValue82
  t76 := Try.underlying83
  a76 := Try.isAgg83
  z76 := Try.sizeOf83
  v76 := Try.zeroValue83
  t109 := Try.underlying73
  a109 := Try.isAgg73
  z109 := Try.sizeOf73
  v109 := Try.zeroValue73
  t127 := Try.underlying101
  a127 := Try.isAgg101
  z127 := Try.sizeOf101
  v127 := Try.zeroValue101
  t146 := Try.underlying96
  a146 := Try.isAgg96
  z146 := Try.sizeOf96
  v146 := Try.zeroValue96
  t148 := Try.underlying99
  a148 := Try.isAgg99
  z148 := Try.sizeOf99
  v148 := Try.zeroValue99
  t164 := Try.underlying119
  a164 := Try.isAgg119
  z164 := Try.sizeOf119
  v164 := Try.zeroValue119
end Go.Proofs

/- strings.Repeat, by the kit's contract. -/
namespace Go.Proofs
open Go
theorem Try.bldX : Go.Proofs.Builder.Extra Try.prog Try.strRep_ren where
  sizeBuilder := by kernel_rfl
  liesBuilder := by kernel_rfl
  t5 := Try.underlying5
  a5 := Try.isAgg5
  z5 := Try.sizeOf5
  v5 := Try.zeroValue5
  infoByte := by kernel_rfl
  cellsByte := by kernel_rfl
  sizeByte := by kernel_rfl
  neB5 := by decide
end Go.Proofs
namespace Go.AW
open Go Go.Proofs Go.Lib
theorem rep_flat : ∀ (s : List UInt8) (n : Nat), Lib.repeatL s n = (List.replicate n s).flatten
  | s, 0 => rfl
  | s, n + 1 => by rw [List.replicate_succ, List.flatten_cons, ← rep_flat s n]; rfl
theorem flat_repl (s : List UInt8) : ∀ m : Nat, (List.replicate m s).flatten.length = m * s.length
  | 0 => by simp
  | m + 1 => by rw [List.replicate_succ, List.flatten_cons, List.length_append, flat_repl s m, Nat.succ_mul]; omega
theorem w_strings_Repeat {s r : List UInt8} {n : Int} (h : m_strings_Repeat s n = some r) : Pure Try.prog 25 [HV.str s, HV.int .i64 n] (· = HV.str r) := by
  unfold m_strings_Repeat at h
  split at h
  · rename_i hc
    obtain ⟨h0, h1, h2⟩ := hc
    cases h
    obtain ⟨m, rfl⟩ := Int.eq_ofNat_of_zero_le h0
    simp only [Int.toNat_natCast] at h2 ⊢
    refine ⟨enters' Try.func25 rfl rfl, fun μ w vs hs hr => ?_⟩
    obtain ⟨x, xs, rfl, ⟨rfl, hl⟩, y, ys, rfl, ⟨rfl, _⟩, hn⟩ := hr
    cases hn
    refine (Any.strings_Repeat Try.strRep Try.bldX ⟨s.toArray⟩ m w (by omega) (by simpa [ByteArray.size] using h2)).mono ?_
    rintro e w' ⟨rfl, hbel⟩
    have hg : Grow w w' := ⟨⟨hbel.os, hbel.tape, hbel.output⟩, hbel.size, hbel.block⟩
    refine ⟨_, .str (List.replicate m s).flatten, [], μ, rfl, ⟨rfl, trivial, rfl⟩, hs.grow hg, ⟨?_, ?_⟩, Evo.grow hs hg⟩
    · rw [← rep_flat]
    · rw [flat_repl, Nat.mul_comm]
      simp only [maxLen]
      omega
  · cases h
end Go.AW

/- Models, printed by lk.py. -/
namespace Go.AW
open Go
set_option linter.unusedVariables false
/-- groove/grooveref11.Many -/
noncomputable def m_ref11_Many (p0 : TLabelsStatesEdges) (p1 : Int) (p2 : Int) : Option (Bool) :=
  lpO (loopW (S := Int × Int) (X := Ou (Unit) (Bool)) (fun a1 =>
      jp (fun (a5 : Bool) =>
        if a5 = true then
          if p2 < (IntKind.wrap .i64 (a1.1 * (max 1 (min p0.1 256)))) then
            some (Stp.exit (Ou.ret true))
          else
            some (Stp.next (IntKind.wrap .i64 (a1.1 * (max 1 (min p0.1 256))), IntKind.wrap .i64 (a1.2 + 1)))
        else
          some (Stp.exit (Ou.go ())))
        fun k7 =>
        if a1.2 < p1 then
          k7 (decide (a1.2 < 4096))
        else
          k7 false) (1, 0)) (fun a9 =>
      jp (fun (a11 : Bool) =>
        some a11)
        fun k13 =>
        if 24 < p1 then
          k13 (decide (p1 ≤ 4096))
        else
          k13 false) some

/-- groove/word.All -/
noncomputable def m_word_All (p0 : Int) (p1 : Int) : Option ((List (List UInt8)) × Int) :=
  (m_word_known p0).bind fun x1 =>
  if (!x1) = true then
    some ([], 12)
  else
    if p1 < 0 then
      some ([], 2)
    else
      if 65536 < p1 then
        some ([], 4)
      else
        if p0 = 1 then
          (m_strings_Repeat [48] p1).bind fun x3 =>
          some ([x3], 0)
        else
          lpO (loopW (S := (List (List UInt8)) × Int) (X := Ou ((List (List UInt8))) ((List (List UInt8)) × Int)) (fun a5 =>
              if a5.2 < p1 then
                if 4096 < (IntKind.wrap .i64 (((a5.1).length : Int) * p0)) then
                  some (Stp.exit (Ou.ret ([], 4)))
                else
                  if 0 ≤ (0 : Int) ∧ (0 : Int) ≤ IntKind.wrap .i64 (((a5.1).length : Int) * p0) ∧ (IntKind.wrap .i64 (((a5.1).length : Int) * p0) : Int) * 16 ≤ 281474976710656 then
                    (loopW (S := Int × (List (List UInt8))) (X := (List (List UInt8))) (fun a11 =>
                        if a11.1 < ((a5.1).length : Int) then
                          (idx a5.1 a11.1).bind fun x15 =>
                          (loopW (S := Int × (List (List UInt8))) (X := (List (List UInt8))) (fun a17 =>
                              if a17.1 < p0 then
                                if 0 ≤ (a17.1 : Int) ∧ (a17.1 : Int) ≤ IntKind.wrap .i64 (a17.1 + 1) ∧ IntKind.wrap .i64 (a17.1 + 1) ≤ (([48, 49, 50, 51, 52, 53, 54, 55, 56, 57, 97, 98, 99, 100, 101, 102] : List UInt8).length : Int) then
                                  if x15.length + ((([48, 49, 50, 51, 52, 53, 54, 55, 56, 57, 97, 98, 99, 100, 101, 102] : List UInt8).take (IntKind.wrap .i64 (a17.1 + 1)).toNat).drop (a17.1).toNat).length ≤ maxLen then
                                    if fits 16 ((a17.2 : List (List UInt8)).length + ([x15 ++ ((([48, 49, 50, 51, 52, 53, 54, 55, 56, 57, 97, 98, 99, 100, 101, 102] : List UInt8).take (IntKind.wrap .i64 (a17.1 + 1)).toNat).drop (a17.1).toNat)]).length) then
                                      some (Stp.next (IntKind.wrap .i64 (a17.1 + 1), a17.2 ++ [x15 ++ ((([48, 49, 50, 51, 52, 53, 54, 55, 56, 57, 97, 98, 99, 100, 101, 102] : List UInt8).take (IntKind.wrap .i64 (a17.1 + 1)).toNat).drop (a17.1).toNat)]))
                                    else none
                                  else none
                                else none
                              else
                                some (Stp.exit a17.2)) (0, a11.2)).bind fun a25 =>
                          some (Stp.next (IntKind.wrap .i64 (a11.1 + 1), a25))
                        else
                          some (Stp.exit a11.2)) (0, List.replicate (0 : Int).toNat (([] : List UInt8) : List UInt8))).bind fun a27 =>
                    some (Stp.next (a27, IntKind.wrap .i64 (a5.2 + 1)))
                  else none
              else
                some (Stp.exit (Ou.go a5.1))) ([([] : List UInt8)], 0)) (fun a29 =>
              some (a29, 0)) some

/-- slices.Index[[]string,string] -/
noncomputable def m_slices_Index_Lstring_string (p0 : List (List UInt8)) (p1 : List UInt8) : Option (Int) :=
  lpO (loopW (S := Int) (X := Ou (Unit) (Int)) (fun a1 =>
      if a1 < ((p0).length : Int) then
        (idx p0 a1).bind fun x5 =>
        if p1 = x5 then
          some (Stp.exit (Ou.ret a1))
        else
          some (Stp.next (IntKind.wrap .i64 (a1 + 1)))
      else
        some (Stp.exit (Ou.go ()))) 0) (fun a7 =>
      some (-1)) some

/-- slices.Contains[[]string,string] -/
noncomputable def m_slices_Contains_Lstring_string (p0 : List (List UInt8)) (p1 : List UInt8) : Option (Bool) :=
  (m_slices_Index_Lstring_string p0 p1).bind fun x1 =>
  some (decide (0 ≤ x1))

/-- groove/groovelaw11.LanguageWords -/
noncomputable def m_law11_LanguageWords (p0 : TLabelsStatesEdges) (p1 : Int) : Option (Bool) :=
  jp (fun (a1 : Bool) =>
    if a1 = true then
      (m_law11_awake).bind fun x4 =>
      some x4
    else
      (m_language_Words p0 (Int.tmod (IntKind.wrap .i64 p1) 8)).bind fun x6 =>
      (m_word_All p0.1 (Int.tmod (IntKind.wrap .i64 p1) 8)).bind fun x8 =>
      jp (fun (a10 : Bool) =>
        if a10 = true then
          some false
        else
          lpO (loopW (S := Int × Int) (X := Ou (Int) (Bool)) (fun a13 =>
              if a13.2 < ((x8.1).length : Int) then
                jp (fun (a17 : Int) =>
                  some (Stp.next (a17, IntKind.wrap .i64 (a13.2 + 1))))
                  fun k19 =>
                  (idx x8.1 a13.2).bind fun x20 =>
                  (m_language_Accepts p0 x20).bind fun x22 =>
                  jp (fun (a24 : Bool) =>
                    if a24 = true then
                      some (Stp.exit (Ou.ret false))
                    else
                      if (!x22.1) = true then
                        k19 a13.1
                      else
                        (m_language_Words p0 (max 0 (IntKind.wrap .i64 ((Int.tmod (IntKind.wrap .i64 p1) 8) - 1)))).bind fun x27 =>
                        jp (fun (a29 : Bool) =>
                          if a29 = true then
                            some (Stp.exit (Ou.ret false))
                          else
                            k19 (IntKind.wrap .i64 (a13.1 + 1)))
                          fun k31 =>
                          if 0 < (Int.tmod (IntKind.wrap .i64 p1) 8) then
                            if x27.2 ≠ 0 then
                              k31 true
                            else
                              if 0 ≤ (0 : Int) ∧ (0 : Int) ≤ IntKind.wrap .i64 ((Int.tmod (IntKind.wrap .i64 p1) 8) - 1) ∧ IntKind.wrap .i64 ((Int.tmod (IntKind.wrap .i64 p1) 8) - 1) ≤ (x20.length : Int) then
                                (m_slices_Contains_Lstring_string x27.1 ((x20.take (IntKind.wrap .i64 ((Int.tmod (IntKind.wrap .i64 p1) 8) - 1)).toNat).drop (0 : Int).toNat)).bind fun x33 =>
                                k31 (!x33)
                              else none
                          else
                            k31 false)
                    fun k26 =>
                    if x22.2 ≠ 0 then
                      k26 true
                    else
                      if a13.1 < ((x6.1).length : Int) then
                        (idx x6.1 a13.1).bind fun x37 =>
                        k26 (!(x22.1 == (decide (x37 = x20))))
                      else
                        k26 (!(x22.1 == false))
              else
                some (Stp.exit (Ou.go a13.1))) (0, 0)) (fun a41 =>
              jp (fun (a43 : Bool) =>
                some a43)
                fun k45 =>
                if a41 = ((x6.1).length : Int) then
                  (m_law11_awake).bind fun x46 =>
                  k45 x46
                else
                  k45 false) some)
        fun k12 =>
        if x6.2 ≠ 0 then
          k12 true
        else
          k12 (decide (x8.2 ≠ 0)))
    fun k3 =>
    (m_law11_fine p0).bind fun x50 =>
    if (!x50) = true then
      k3 true
    else
      (m_ref11_Many p0 (Int.tmod (IntKind.wrap .i64 p1) 8) 300).bind fun x52 =>
      k3 x52

end Go.AW

/- The law of words. -/
namespace Go.AW
open Go
set_option linter.unusedSimpArgs false
set_option linter.unusedVariables false

section
variable {g : Gr}
end

/-- how many words there are -/
theorem Many_tot (g : Gr) {k : Nat} (hk : k ≤ 24) {m : Int} (hm0 : 0 ≤ m) (hm : m ≤ 1000000) : ∃ b, m_ref11_Many g (k : Int) m = some b ∧ (b = false → ∀ j, 1 ≤ j → j ≤ k → ((max 1 (min g.1 256)).toNat ^ j : Nat) ≤ m) := by
  have hL : ∃ L : Nat, max 1 (min g.1 256) = (L : Int) ∧ 1 ≤ L ∧ L ≤ 256 := ⟨(max 1 (min g.1 256)).toNat, by omega, by omega, by omega⟩
  obtain ⟨L, hL, hL1, hL2⟩ := hL
  unfold m_ref11_Many
  simp only [jp, hL, Int.toNat_natCast]
  have hx : ∃ x, loopW (S := Int × Int) (X := Ou (Unit) (Bool)) (fun a1 =>
        if a1.2 < (k : Int) then
          if decide (a1.2 < 4096) = true then
          if m < (IntKind.wrap .i64 (a1.1 * (L : Int))) then
            some (Stp.exit (Ou.ret true))
          else
            some (Stp.next (IntKind.wrap .i64 (a1.1 * (L : Int)), IntKind.wrap .i64 (a1.2 + 1)))
        else
          some (Stp.exit (Ou.go ()))
        else
          if false = true then
          if m < (IntKind.wrap .i64 (a1.1 * (L : Int))) then
            some (Stp.exit (Ou.ret true))
          else
            some (Stp.next (IntKind.wrap .i64 (a1.1 * (L : Int)), IntKind.wrap .i64 (a1.2 + 1)))
        else
          some (Stp.exit (Ou.go ()))) (1, 0) = some x ∧ (x = .ret true ∨ (x = .go () ∧ ∀ j, 1 ≤ j → j ≤ k → ((L ^ j : Nat) : Int) ≤ m)) := by
    refine loopN k (fun i s => s = (((L ^ i : Nat) : Int), (i : Int)) ∧ (∀ j, 1 ≤ j → j ≤ i → ((L ^ j : Nat) : Int) ≤ m) ∧ ((L ^ i : Nat) : Int) ≤ max 1 m) ?_ ?_ 0 _ (Nat.zero_le _) ⟨by simp, fun j h1 h2 => by omega, by simp; omega⟩
    · rintro i s hi ⟨rfl, hj, hb⟩
      dsimp only
      rw [if_pos (lt_int hi), if_pos (decide_eq_true (by omega))]
      have hmul : ((L ^ i : Nat) : Int) * (L : Int) = ((L ^ (i + 1) : Nat) : Int) := by rw [Nat.pow_succ]; push_cast; rfl
      have hbound : L ^ (i + 1) ≤ 1000000 * 256 := by
        rw [Nat.pow_succ]
        refine Nat.mul_le_mul ?_ hL2
        omega
      have hw : IntKind.wrap .i64 (((L ^ i : Nat) : Int) * (L : Int)) = ((L ^ (i + 1) : Nat) : Int) := by rw [hmul, w64 (by omega) (by omega)]
      rw [hw]
      by_cases hgt : m < ((L ^ (i + 1) : Nat) : Int)
      · rw [if_pos hgt]; exact .inr ⟨_, rfl, .inl rfl⟩
      · rw [if_neg hgt]
        refine .inl ⟨_, rfl, by rw [nx (by omega : k ≤ _) hi], fun j h1 h2 => ?_, by omega⟩
        by_cases e : j = i + 1
        · subst e; omega
        · exact hj j h1 (by omega)
    · rintro s ⟨rfl, hj, _⟩
      dsimp only
      rw [if_neg (not_lt_int _), if_neg (by simp)]
      exact ⟨_, rfl, .inr ⟨rfl, hj⟩⟩
  obtain ⟨x, hx, rfl | ⟨rfl, hj⟩⟩ := hx
  · rw [hx]; exact ⟨true, rfl, by simp⟩
  · rw [hx]
    refine ⟨false, ?_, fun _ => hj⟩
    show (if _ then _ else _) = _
    rw [if_neg (by omega)]

end Go.AW

/- word.All; the law of words. -/
namespace Go.AW
open Go
set_option linter.unusedSimpArgs false
set_option linter.unusedVariables false

theorem allW_one : ∀ n, allW [48] n = [List.replicate n 48]
  | 0 => rfl
  | n + 1 => by
    simp only [allW, allW_one n, List.flatMap_cons, List.flatMap_nil, List.map_cons, List.map_nil, List.append_nil]
    rw [← List.replicate_succ']

theorem All_eq11 {L : Nat} (h1 : 1 ≤ L) (h16 : L ≤ 16) {n : Nat} (hn : n ≤ 4096) (hb : ∀ j, 1 ≤ j → j ≤ n → L ^ j ≤ 4096) : m_word_All (L : Int) (n : Int) = some (allW (letters.take L) n, 0) := by
  unfold m_word_All
  rw [known_eq]
  simp only [Option.bind_some]
  rw [if_neg (by rw [decide_eq_true (by omega)]; decide), if_neg (by omega), if_neg (by omega)]
  by_cases hL : L = 1
  · subst hL
    rw [if_pos (show ((1 : Nat) : Int) = 1 from rfl)]
    unfold m_strings_Repeat
    rw [if_pos ⟨by omega, by omega, by simp; omega⟩]
    have e : letters.take 1 = [48] := rfl
    rw [e, allW_one]
    simp only [Option.bind_some, Int.toNat_natCast]
    congr 3
    clear hb hn
    induction n with
    | zero => rfl
    | succ n ih => rw [List.replicate_succ, List.flatten_cons, ih]; rfl
  rw [if_neg (by omega)]
  have hLl : (letters.take L).length = L := by rw [List.length_take, letters_len]; omega
  have hlen : ∀ j, (allW (letters.take L) j).length = L ^ j := fun j => by rw [allW_len, hLl]
  have hpow : ∀ j, j ≤ n → L ^ j ≤ 4096 := fun j hj => by
    by_cases h0 : j = 0
    · subst h0; simp
    · exact hb j (by omega) hj
  refine lpL (loop_is (fun i => (allW (letters.take L) i, (i : Int))) n (Ou.go (allW (letters.take L) n)) (fun i hi => ?_) (by dsimp only; rw [if_neg (not_lt_int _)]) rfl) rfl
  dsimp only
  rw [if_pos (lt_int hi), hlen]
  have hs : L ^ (i + 1) ≤ 4096 := hpow (i + 1) hi
  have hi4 : L ^ i ≤ 4096 := hpow i (by omega)
  have hm : ((L ^ i : Nat) : Int) * (L : Int) = ((L ^ (i + 1) : Nat) : Int) := by rw [Nat.pow_succ]; push_cast; rfl
  rw [hm, w64 (n := ((L ^ (i + 1) : Nat) : Int)) (by omega) (by omega), if_neg (by omega), if_pos (by omega)]
  have hfl : ∀ l : List (List UInt8), (l.flatMap fun w => (letters.take L).map fun c => w ++ [c]).length = l.length * L := by
    intro l
    induction l with
    | nil => simp
    | cons x l ih => rw [List.flatMap_cons, List.length_append, ih, List.length_map, hLl, List.length_cons, Nat.succ_mul]; omega
  refine bindL (loop_is (fun k => ((k : Int), ((allW (letters.take L) i).take k).flatMap fun w => (letters.take L).map fun c => w ++ [c])) (L ^ i) (allW (letters.take L) (i + 1)) (fun k hk => ?_) ?_ (by simp)) (by rw [nx (by omega : n ≤ _) hi])
  · dsimp only
    have hkl : k < (allW (letters.take L) i).length := by rw [hlen]; exact hk
    rw [if_pos (by omega), ix hkl]
    simp only [Option.bind_some]
    have hwl : ((allW (letters.take L) i)[k]).length = i := (mem_allW.1 (List.getElem_mem hkl)).1
    have hbk : (((allW (letters.take L) i).take k).flatMap fun w => (letters.take L).map fun c => w ++ [c]).length ≤ 65536 := by
      rw [hfl, List.length_take, hlen]
      refine Nat.le_trans (Nat.mul_le_mul (Nat.min_le_right _ _) h16) ?_
      omega
    refine bindL (loop_is (fun m => ((m : Int), (((allW (letters.take L) i).take k).flatMap fun w => (letters.take L).map fun c => w ++ [c]) ++ (letters.take m).map fun c => (allW (letters.take L) i)[k] ++ [c])) L ((((allW (letters.take L) i).take k).flatMap fun w => (letters.take L).map fun c => w ++ [c]) ++ (letters.take L).map fun c => (allW (letters.take L) i)[k] ++ [c]) (fun m hm => ?_) ?_ (by simp)) ?_
    · dsimp only
      have hm16 : m < letters.length := by rw [letters_len]; omega
      have e16 : ([48, 49, 50, 51, 52, 53, 54, 55, 56, 57, 97, 98, 99, 100, 101, 102] : List UInt8) = letters := rfl
      rw [if_pos (by omega), nx (by omega : L ≤ _) hm, e16, if_pos (by rw [letters_len]; omega)]
      simp only [Int.toNat_natCast, one_letter hm16]
      rw [if_pos (by simp only [hwl, List.length_cons, List.length_nil, maxLen]; omega), if_pos (fits_le (by simp only [List.length_append, List.length_map, List.length_take, List.length_cons, List.length_nil]; omega) (by simp only [List.length_append, List.length_map, List.length_take, List.length_cons, List.length_nil]; omega))]
      rw [List.append_assoc, List.take_add_one, List.getElem?_eq_getElem hm16, List.map_append]
      rfl
    · dsimp only
      rw [if_neg (not_lt_int _)]
    · rw [nx (by omega : L ^ i ≤ _) hk, List.take_add_one, List.getElem?_eq_getElem hkl]
      simp only [Option.toList_some, List.flatMap_append, List.flatMap_cons, List.flatMap_nil, List.append_nil]
  · dsimp only
    rw [if_neg (not_lt_int _), ← hlen i, List.take_length]
    rfl

end Go.AW

/- Models, printed by lk.py. -/
namespace Go.AW
open Go
set_option linter.unusedVariables false
/-- groove/groovelaw11.LanguageMissing -/
noncomputable def m_law11_LanguageMissing (p0 : TLabelsStatesEdges) (p1 : Int) : Option (Bool) :=
  jp (fun (a1 : Bool) =>
    if a1 = true then
      (m_law11_awake).bind fun x4 =>
      some x4
    else
      (m_language_Missing p0 (Int.tmod (IntKind.wrap .i64 p1) 8)).bind fun x6 =>
      jp (fun (a8 : Bool) =>
        if a8 = true then
          some false
        else
          lpO (loopW (S := Int) (X := Ou (Unit) (Bool)) (fun a11 =>
              if a11 < (IntKind.wrap .i64 ((Int.tmod (IntKind.wrap .i64 p1) 8) + 1)) then
                (m_word_All p0.1 a11).bind fun x15 =>
                if x15.2 ≠ 0 then
                  some (Stp.exit (Ou.ret false))
                else
                  lpO (loopW (S := Int) (X := Ou (Unit) (Bool)) (fun a17 =>
                      if a17 < ((x15.1).length : Int) then
                        (idx x15.1 a17).bind fun x21 =>
                        (m_language_Accepts p0 x21).bind fun x23 =>
                        if x23.2 ≠ 0 then
                          some (Stp.exit (Ou.ret false))
                        else
                          jp (fun (a25 : Bool) =>
                            if a25 = true then
                              jp (fun (a28 : Bool) =>
                                some (Stp.exit (Ou.ret a28)))
                                fun k30 =>
                                if (!x23.1) = true then
                                  (m_law11_awake).bind fun x31 =>
                                  k30 x31
                                else
                                  k30 false
                            else
                              if (!x23.1) = true then
                                some (Stp.exit (Ou.ret false))
                              else
                                some (Stp.next (IntKind.wrap .i64 (a17 + 1))))
                            fun k27 =>
                            if x6.2.1 = true then
                              k27 (decide (x21 = x6.1))
                            else
                              k27 false
                      else
                        some (Stp.exit (Ou.go ()))) 0) (fun a35 =>
                      some (Stp.next (IntKind.wrap .i64 (a11 + 1)))) (fun r => some (Stp.exit (Ou.ret r)))
              else
                some (Stp.exit (Ou.go ()))) 0) (fun a37 =>
              jp (fun (a39 : Bool) =>
                some a39)
                fun k41 =>
                if (!x6.2.1) = true then
                  (m_law11_awake).bind fun x42 =>
                  k41 x42
                else
                  k41 false) some)
        fun k10 =>
        if x6.2.2 ≠ 0 then
          k10 true
        else
          if (Int.tmod (IntKind.wrap .i64 p1) 8) < ((x6.1).length : Int) then
            k10 true
          else
            if (!x6.2.1) = true then
              k10 (decide (x6.1 ≠ ([] : List UInt8)))
            else
              k10 false)
    fun k3 =>
    (m_law11_fine p0).bind fun x48 =>
    if (!x48) = true then
      k3 true
    else
      (m_ref11_Many p0 (Int.tmod (IntKind.wrap .i64 p1) 8) 300).bind fun x50 =>
      k3 x50

end Go.AW

/- The law of the first missing word. -/
namespace Go.AW
open Go
set_option linter.unusedSimpArgs false
set_option linter.unusedVariables false
section
variable {g : Gr}

theorem missR_spec : ∀ (n j : Nat), (∀ i, i ≤ j → ∀ w ∈ allW (lets g) i, accB g w = true) → (∀ i, j < i → i ≤ j + n → (allW (lets g) i).length ≤ 4096) →
    (∃ w i, missR g j n = (w, true, 0) ∧ i ≤ j + n ∧ missL g i = some w ∧ ∀ m, m < i → ∀ v ∈ allW (lets g) m, accB g v = true) ∨ (missR g j n = ([], false, 0) ∧ ∀ i, i ≤ j + n → ∀ w ∈ allW (lets g) i, accB g w = true)
  | 0, j, h, _ => .inr ⟨rfl, h⟩
  | n + 1, j, h, hb => by
    simp only [missR]
    cases hm : missL g (j + 1) with
    | some w => exact .inl ⟨w, j + 1, rfl, by omega, hm, fun m hm => h m (by omega)⟩
    | none =>
      dsimp only
      have h4 := hb (j + 1) (by omega) (by omega)
      rw [if_neg (by omega)]
      have hall : ∀ w ∈ allW (lets g) (j + 1), accB g w = true := fun w hw => by
        have := List.find?_eq_none.1 hm w hw
        simpa using this
      rcases missR_spec n (j + 1) (fun i hi w hw => by
        by_cases e : i = j + 1
        · subst e; exact hall w hw
        · exact h i (by omega) w hw) (fun i h1 h2 => hb i (by omega) (by omega)) with ⟨w, i, h1, h2, h3, h4⟩ | ⟨h1, h2⟩
      · exact .inl ⟨w, i, h1, by omega, h3, h4⟩
      · exact .inr ⟨h1, fun i hi => h2 i (by omega)⟩

theorem find_split {α : Type} {p : α → Bool} {l : List α} {x : α} (h : l.find? p = some x) : ∃ (j : Nat) (hj : j < l.length), l[j] = x ∧ p x = true ∧ ∀ i (hi : i < j), p (l[i]'(by omega)) = false := by
  obtain ⟨hp, us, bs, rfl, hb⟩ := List.find?_eq_some_iff_append.1 h
  refine ⟨us.length, by simp, by simp, hp, fun i hi => ?_⟩
  rw [List.getElem_append_left hi]
  simpa using hb _ (List.getElem_mem hi)
end

theorem law_missing (g : Gr) (p : Int) (a0 : 0 ≤ p) (a1 : p ≤ 255) : m_law11_LanguageMissing g p = some true := by
  have hk0 : 0 ≤ Int.tmod (IntKind.wrap .i64 p) 8 ∧ Int.tmod (IntKind.wrap .i64 p) 8 ≤ 7 := by
    rw [w64 (by omega) (by omega), Int.tmod_eq_emod_of_nonneg a0]; omega
  unfold m_law11_LanguageMissing
  generalize Int.tmod (IntKind.wrap .i64 p) 8 = k at hk0
  obtain ⟨k, rfl⟩ := Int.eq_ofNat_of_zero_le hk0.1
  obtain ⟨b, hb, hb2⟩ := fine_tot g
  obtain ⟨m, hm, hm2⟩ := Many_tot g (k := k) (by omega) (m := 300) (by omega) (by omega)
  simp only [jp, hb, hm, Option.bind_some, m_law11_awake, if_true]
  by_cases hbt : (!b) = true
  · rw [if_pos hbt]
  rw [if_neg hbt]
  by_cases hmt : m = true
  · rw [if_pos hmt]
  rw [if_neg hmt]
  obtain ⟨hv, h16, h8, h30⟩ := hb2 (by simpa using hbt)
  have hl1 := hv.l1
  have hpow : ∀ j, 1 ≤ j → j ≤ k → g.1.toNat ^ j ≤ 300 := fun j j1 j2 => by
    have := hm2 (by simpa using hmt) j j1 j2
    have e : (max 1 (min g.1 256)).toNat = g.1.toNat := by omega
    rw [e] at this
    omega
  have hpow2 : ∀ j, 1 ≤ j → j ≤ k → g.1.toNat ^ j ≤ 4096 := fun j j1 j2 => Nat.le_trans (hpow j j1 j2) (by decide)
  have hlen : ∀ j, j ≤ k → (allW (lets g) j).length ≤ 300 := fun j hj => by
    rw [allW_len, lets_len hv h16]
    by_cases h0 : j = 0
    · subst h0; simp
    · exact hpow j (by omega) hj
  have hA : ∀ j, j ≤ k → m_word_All g.1 (j : Int) = some (allW (lets g) j, 0) := fun j hj => by
    have e : g.1 = ((g.1.toNat : Nat) : Int) := by omega
    have := All_eq11 (L := g.1.toNat) (by omega) (by omega) (n := j) (by omega) fun i i1 i2 => hpow2 i i1 (by omega)
    rw [← e] at this
    exact this
  have hspec : (∃ w i, (if upto g.2.1 = [] then (([] : List UInt8), true, (0 : Int)) else missR g 0 k) = (w, true, 0) ∧ i ≤ k ∧ missL g i = some w ∧ ∀ m, m < i → ∀ v ∈ allW (lets g) m, accB g v = true) ∨
      ((if upto g.2.1 = [] then (([] : List UInt8), true, (0 : Int)) else missR g 0 k) = ([], false, 0) ∧ ∀ i, i ≤ k → ∀ w ∈ allW (lets g) i, accB g w = true) := by
    by_cases h0 : upto g.2.1 = []
    · rw [if_pos h0]
      refine .inl ⟨[], 0, rfl, Nat.zero_le _, ?_, fun m hm => by omega⟩
      simp [missL, allW, accB, endsL, h0]
    · rw [if_neg h0]
      have hz : ∀ i, i ≤ 0 → ∀ w ∈ allW (lets g) i, accB g w = true := fun i hi w hw => by
        have : i = 0 := by omega
        subst this
        simp only [allW, List.mem_singleton] at hw
        subst hw
        simp only [accB, decide_eq_true_eq]
        exact h0
      rcases missR_spec k 0 hz (fun i _ hi => by have := hlen i (by omega); omega) with ⟨w, i, h1, h2, h3, h4⟩ | ⟨h1, h2⟩
      · exact .inl ⟨w, i, h1, by omega, h3, h4⟩
      · exact .inr ⟨h1, fun i hi => h2 i (by omega)⟩
  have hacc : ∀ j, j ≤ k → ∀ w ∈ allW (lets g) j, m_language_Accepts g w = some (accB g w, 0) := fun j hj w hw => by
    obtain ⟨h1, h2⟩ := mem_allW.1 hw
    exact Accepts_eq hv h16 ⟨by omega, h2⟩
  have hk1 : IntKind.wrap .i64 ((k : Int) + 1) = ((k + 1 : Nat) : Int) := by rw [w64 (by omega) (by omega)]; omega
  rw [Missing_eq hv h16 (by omega), hk1]
  rcases hspec with ⟨w, j, hr, hjk, hmj, hbefore⟩ | ⟨hr, hall⟩
  · rw [hr]
    obtain ⟨q, hq, hqe, hqa, hqb⟩ := find_split hmj
    have hqa : accB g w = false := by simpa using hqa
    have hwlen : w.length = j := by rw [← hqe]; exact (mem_allW.1 (List.getElem_mem hq)).1
    simp only [Option.bind_some, ne_eq, not_true_eq_false, if_false, Bool.not_true, Bool.false_eq_true, if_true]
    rw [if_neg (by omega)]
    refine lpL (loopN_eq (.ret true) (k + 1) (fun i s => s = (i : Int) ∧ i ≤ j) ?_ ?_ ⟨rfl, Nat.zero_le _⟩) rfl
    · rintro i s hi ⟨rfl, hij⟩
      rw [if_pos (lt_int hi), hA i (by omega)]
      simp only [Option.bind_some, not_true_eq_false, if_false]
      have hll := hlen i (by omega)
      by_cases e : i = j
      · subst e
        refine .inr ⟨.ret true, ?_, rfl⟩
        refine lpL (loopN_eq (.ret true) (allW (lets g) i).length (fun a s => s = (a : Int) ∧ a ≤ q) ?_ ?_ ⟨rfl, Nat.zero_le _⟩) rfl
        · rintro a s ha ⟨rfl, haq⟩
          rw [if_pos (lt_int ha), ix ha]
          simp only [Option.bind_some, hacc i (by omega) _ (List.getElem_mem ha), not_true_eq_false, if_false]
          by_cases e2 : a = q
          · subst e2
            rw [hqe, hqa]
            exact .inr ⟨_, by simp, rfl⟩
          · have hb := hqb a (by omega)
            have hb : accB g (allW (lets g) i)[a] = true := by simpa using hb
            have hne : ¬ (allW (lets g) i)[a] = w := fun e3 => by rw [e3, hqa] at hb; cases hb
            rw [hb, decide_eq_false hne]
            refine .inl ⟨_, by simp, nx (by omega : (allW (lets g) i).length ≤ _) ha, by omega⟩
        · rintro s ⟨rfl, haq⟩
          omega
      · refine .inl ⟨_, ?_, nx (by omega : k + 1 ≤ _) hi, by omega⟩
        refine lpL (loop_is (fun a => (a : Int)) (allW (lets g) i).length (Ou.go ()) (fun a ha => ?_) (by rw [if_neg (not_lt_int _)]) rfl) rfl
        rw [if_pos (lt_int ha), ix ha]
        have hb := hbefore i (by omega) _ (List.getElem_mem ha)
        have hwa := (mem_allW.1 (List.getElem_mem ha)).1
        have hne : ¬ (allW (lets g) i)[a] = w := fun e3 => by rw [e3, hwlen] at hwa; omega
        simp only [Option.bind_some, hacc i (by omega) _ (List.getElem_mem ha), not_true_eq_false, if_false, hb, decide_eq_false hne, nx (by omega : (allW (lets g) i).length ≤ _) ha]
        simp
    · rintro s ⟨rfl, hij⟩
      omega
  · rw [hr]
    simp only [Option.bind_some, ne_eq, not_true_eq_false, if_false, Bool.not_false, Bool.false_eq_true, if_true, decide_false, List.length_nil]
    rw [if_neg (by omega)]
    refine lpL (loop_is (fun i => (i : Int)) (k + 1) (Ou.go ()) (fun i hi => ?_) (by rw [if_neg (not_lt_int _)]) rfl) rfl
    rw [if_pos (lt_int hi), hA i (by omega)]
    simp only [Option.bind_some, not_true_eq_false, if_false]
    have hll := hlen i (by omega)
    rw [nx (by omega : k + 1 ≤ _) hi]
    refine lpL (loop_is (fun a => (a : Int)) (allW (lets g) i).length (Ou.go ()) (fun a ha => ?_) (by rw [if_neg (not_lt_int _)]) rfl) rfl
    rw [if_pos (lt_int ha), ix ha]
    simp only [Option.bind_some, hacc i (by omega) _ (List.getElem_mem ha), not_true_eq_false, if_false, hall i (by omega) _ (List.getElem_mem ha), nx (by omega : (allW (lets g) i).length ≤ _) ha, Bool.not_true, Bool.false_eq_true]
end Go.AW

namespace Go.AW
open Go Go.Proofs
set_option linter.unusedVariables false
set_option maxHeartbeats 1600000 in
set_option maxRecDepth 100000 in
theorem w_ref11_Great {p0 : TLabelsStatesEdges} {r : Bool} (h : m_ref11_Great p0 = some r) : Pure Try.prog 13 [HV.agg [HV.int .i64 p0.1, HV.int .i64 p0.2.1, slE eFromLabelTo p0.2.2]] (· = HV.bool r) := by
  unfold m_ref11_Great at h
  refine Pure.of_body Try.func13 rfl rfl (Nat.le_of_ble_eq_true rfl) fun hf => ?_
  unfold Try.f13
  dsimp only [enumS, Nat.reduceAdd]
  refine AW.rgs rfl fun K hK => ?_
  refine b_op rfl (o_box rfl rfl rfl ?_)
  refine mv rfl rfl ?_
  refine b_nil (hK _ (AW.to (to_le (s' := ⟨[(1, HV.fptr [HV.int .i64 p0.1, HV.int .i64 p0.2.1, slE eFromLabelTo p0.2.2] 0)], []⟩) (AS.le_of ⟨rfl, trivial⟩ trivial) ?_)))
  clear hK K
  refine AW.seqJ h (S := Bool) (V := Unit) (fun a v => ⟨[(2, HV.bool a)], []⟩) (fun a1 w2 h => ?_) (fun k3 h => ?_)
  · refine AW.ret ?_
    have h := Option.some.inj h
    subst h
    exact ret_pure (hs := [HV.bool a1]) (q := HV.bool a1) (.inr rfl) (resT rfl rfl) rfl trivial
  · refine AW.rg rfl fun K hK => ?_
    refine bv rfl (v_fieldAddrF fo24_1 rfl) ?_
    refine bv rfl (v_loadF ty3 rfl (l_lit rfl rfl)) ?_
    refine bv rfl (v_bin rfl rfl b_gtr) ?_
    refine mv rfl rfl ?_
    by_cases hg9 : 8 < p0.2.1
    · have h := ifT hg9 h
      refine b_T rfl rfl rfl rfl (decide_eq_true hg9) (o_val rfl (v_fieldAddrF fo24_1 rfl) ?_)
      refine b_T rfl rfl rfl rfl rfl (o_val rfl (v_loadF ty3 rfl (l_lit rfl rfl)) ?_)
      refine b_T rfl rfl rfl rfl rfl (o_val rfl (v_bin rfl rfl b_leq) ?_)
      refine bv rfl (v_pickT rfl rfl rfl) ?_
      refine mv rfl rfl ?_
      by_cases hg6 : p0.2.1 ≤ 64
      · have h := ifT hg6 h
        refine b_F rfl rfl rfl rfl rfl (decide_eq_true hg6) ?_
        refine b_F rfl rfl rfl rfl rfl rfl ?_
        refine b_F rfl rfl rfl rfl rfl rfl ?_
        refine b_F rfl rfl rfl rfl rfl rfl ?_
        refine b_F rfl rfl rfl rfl rfl rfl ?_
        refine b_U rfl rfl rfl rfl rfl ?_
        refine b_U rfl rfl rfl rfl rfl ?_
        refine b_U rfl rfl rfl rfl rfl ?_
        refine b_U rfl rfl rfl rfl rfl ?_
        refine b_F rfl rfl rfl rfl rfl rfl ?_
        refine bv rfl (v_pickT rfl rfl rfl) ?_
        refine mv rfl rfl ?_
        refine b_F rfl rfl rfl rfl rfl rfl ?_
        refine b_F rfl rfl rfl rfl rfl rfl ?_
        refine b_F rfl rfl rfl rfl rfl rfl ?_
        refine b_F rfl rfl rfl rfl rfl rfl ?_
        refine bv rfl (v_pickT rfl rfl rfl) ?_
        refine mv rfl rfl ?_
        refine b_nil (hK _ ?_)
        clear hK K
        exact to_le (s' := ⟨[(2, HV.bool true)], []⟩) (AS.le_of ⟨rfl, trivial⟩ trivial) ⟨true, (), h, rfl⟩
      · have h := ifF hg6 h
        refine b_T rfl rfl rfl rfl (decide_eq_false hg6) (o_val rfl (v_fieldAddrF fo24_2 rfl) ?_)
        refine b_T rfl rfl rfl rfl rfl (o_val rfl (v_loadF ty22 rfl (l_lit rfl rfl)) ?_)
        refine b_T rfl rfl rfl rfl rfl (o_val rfl (v_lenF rfl rfl ty22 rfl) ?_)
        refine b_T rfl rfl rfl rfl rfl (o_val rfl (v_bin rfl rfl b_gtr) ?_)
        refine b_T rfl rfl rfl rfl rfl (o_val rfl (mv_val rfl rfl).2 ?_)
        by_cases hg5 : 30 < ((p0.2.2).length : Int)
        · have h := ifT hg5 h
          refine b_T rfl rfl rfl rfl (decide_eq_true hg5) (o_val rfl (v_fieldAddrF fo24_2 rfl) ?_)
          refine b_T rfl rfl rfl rfl rfl (o_val rfl (v_loadF ty22 rfl (l_lit rfl rfl)) ?_)
          refine b_T rfl rfl rfl rfl rfl (o_val rfl (v_lenF rfl rfl ty22 rfl) ?_)
          refine b_T rfl rfl rfl rfl rfl (o_val rfl (v_bin rfl rfl b_leq) ?_)
          refine b_T rfl rfl rfl rfl rfl (o_val rfl (v_pickT rfl rfl rfl) ?_)
          refine bv rfl (v_pickF rfl rfl rfl) ?_
          refine mv rfl rfl ?_
          by_cases hg4 : ((p0.2.2).length : Int) ≤ 1024
          · have h := ifT hg4 h
            refine b_F rfl rfl rfl rfl rfl (decide_eq_true hg4) ?_
            refine b_F rfl rfl rfl rfl rfl rfl ?_
            refine b_F rfl rfl rfl rfl rfl rfl ?_
            refine b_F rfl rfl rfl rfl rfl rfl ?_
            refine bv rfl (v_pickT rfl rfl rfl) ?_
            refine mv rfl rfl ?_
            refine b_nil (hK _ ?_)
            clear hK K
            exact to_le (s' := ⟨[(2, HV.bool true)], []⟩) (AS.le_of ⟨rfl, trivial⟩ trivial) ⟨true, (), h, rfl⟩
          · have h := ifF hg4 h
            refine b_T rfl rfl rfl rfl (decide_eq_false hg4) (o_val rfl (v_fieldAddrF fo24_2 rfl) ?_)
            refine b_T rfl rfl rfl rfl rfl (o_val rfl (v_loadF ty22 rfl (l_lit rfl rfl)) ?_)
            refine b_T rfl rfl rfl rfl rfl (o_val rfl (v_lenF rfl rfl ty22 rfl) ?_)
            refine b_T rfl rfl rfl rfl rfl (o_val rfl (v_bin rfl rfl b_gtr) ?_)
            refine bv rfl (v_pickF rfl rfl rfl) ?_
            refine mv rfl rfl ?_
            refine b_nil (hK _ ?_)
            clear hK K
            exact to_le (s' := ⟨[(2, HV.bool (decide (1027 < ((p0.2.2).length : Int))))], []⟩) (AS.le_of ⟨rfl, trivial⟩ trivial) ⟨decide (1027 < ((p0.2.2).length : Int)), (), h, rfl⟩
        · have h := ifF hg5 h
          refine b_F rfl rfl rfl rfl rfl (decide_eq_false hg5) ?_
          refine b_F rfl rfl rfl rfl rfl rfl ?_
          refine b_F rfl rfl rfl rfl rfl rfl ?_
          refine b_F rfl rfl rfl rfl rfl rfl ?_
          refine b_T rfl rfl rfl rfl rfl (o_val rfl (v_pickF rfl rfl rfl) ?_)
          refine bv rfl (v_pickF rfl rfl rfl) ?_
          refine mv rfl rfl ?_
          refine b_T rfl rfl rfl rfl rfl (o_val rfl (v_fieldAddrF fo24_2 rfl) ?_)
          refine b_T rfl rfl rfl rfl rfl (o_val rfl (v_loadF ty22 rfl (l_lit rfl rfl)) ?_)
          refine b_T rfl rfl rfl rfl rfl (o_val rfl (v_lenF rfl rfl ty22 rfl) ?_)
          refine b_T rfl rfl rfl rfl rfl (o_val rfl (v_bin rfl rfl b_gtr) ?_)
          refine bv rfl (v_pickF rfl rfl rfl) ?_
          refine mv rfl rfl ?_
          refine b_nil (hK _ ?_)
          clear hK K
          exact to_le (s' := ⟨[(2, HV.bool (decide (1027 < ((p0.2.2).length : Int))))], []⟩) (AS.le_of ⟨rfl, trivial⟩ trivial) ⟨decide (1027 < ((p0.2.2).length : Int)), (), h, rfl⟩
    · have h := ifF hg9 h
      refine b_F rfl rfl rfl rfl rfl (decide_eq_false hg9) ?_
      refine b_F rfl rfl rfl rfl rfl rfl ?_
      refine b_F rfl rfl rfl rfl rfl rfl ?_
      refine bv rfl (v_pickF rfl rfl rfl) ?_
      refine mv rfl rfl ?_
      refine b_T rfl rfl rfl rfl rfl (o_val rfl (v_fieldAddrF fo24_2 rfl) ?_)
      refine b_T rfl rfl rfl rfl rfl (o_val rfl (v_loadF ty22 rfl (l_lit rfl rfl)) ?_)
      refine b_T rfl rfl rfl rfl rfl (o_val rfl (v_lenF rfl rfl ty22 rfl) ?_)
      refine b_T rfl rfl rfl rfl rfl (o_val rfl (v_bin rfl rfl b_gtr) ?_)
      refine b_T rfl rfl rfl rfl rfl (o_val rfl (mv_val rfl rfl).2 ?_)
      by_cases hg8 : 30 < ((p0.2.2).length : Int)
      · have h := ifT hg8 h
        refine b_T rfl rfl rfl rfl (decide_eq_true hg8) (o_val rfl (v_fieldAddrF fo24_2 rfl) ?_)
        refine b_T rfl rfl rfl rfl rfl (o_val rfl (v_loadF ty22 rfl (l_lit rfl rfl)) ?_)
        refine b_T rfl rfl rfl rfl rfl (o_val rfl (v_lenF rfl rfl ty22 rfl) ?_)
        refine b_T rfl rfl rfl rfl rfl (o_val rfl (v_bin rfl rfl b_leq) ?_)
        refine b_T rfl rfl rfl rfl rfl (o_val rfl (v_pickT rfl rfl rfl) ?_)
        refine bv rfl (v_pickF rfl rfl rfl) ?_
        refine mv rfl rfl ?_
        by_cases hg7 : ((p0.2.2).length : Int) ≤ 1024
        · have h := ifT hg7 h
          refine b_F rfl rfl rfl rfl rfl (decide_eq_true hg7) ?_
          refine b_F rfl rfl rfl rfl rfl rfl ?_
          refine b_F rfl rfl rfl rfl rfl rfl ?_
          refine b_F rfl rfl rfl rfl rfl rfl ?_
          refine bv rfl (v_pickT rfl rfl rfl) ?_
          refine mv rfl rfl ?_
          refine b_nil (hK _ ?_)
          clear hK K
          exact to_le (s' := ⟨[(2, HV.bool true)], []⟩) (AS.le_of ⟨rfl, trivial⟩ trivial) ⟨true, (), h, rfl⟩
        · have h := ifF hg7 h
          refine b_T rfl rfl rfl rfl (decide_eq_false hg7) (o_val rfl (v_fieldAddrF fo24_2 rfl) ?_)
          refine b_T rfl rfl rfl rfl rfl (o_val rfl (v_loadF ty22 rfl (l_lit rfl rfl)) ?_)
          refine b_T rfl rfl rfl rfl rfl (o_val rfl (v_lenF rfl rfl ty22 rfl) ?_)
          refine b_T rfl rfl rfl rfl rfl (o_val rfl (v_bin rfl rfl b_gtr) ?_)
          refine bv rfl (v_pickF rfl rfl rfl) ?_
          refine mv rfl rfl ?_
          refine b_nil (hK _ ?_)
          clear hK K
          exact to_le (s' := ⟨[(2, HV.bool (decide (1027 < ((p0.2.2).length : Int))))], []⟩) (AS.le_of ⟨rfl, trivial⟩ trivial) ⟨decide (1027 < ((p0.2.2).length : Int)), (), h, rfl⟩
      · have h := ifF hg8 h
        refine b_F rfl rfl rfl rfl rfl (decide_eq_false hg8) ?_
        refine b_F rfl rfl rfl rfl rfl rfl ?_
        refine b_F rfl rfl rfl rfl rfl rfl ?_
        refine b_F rfl rfl rfl rfl rfl rfl ?_
        refine b_T rfl rfl rfl rfl rfl (o_val rfl (v_pickF rfl rfl rfl) ?_)
        refine bv rfl (v_pickF rfl rfl rfl) ?_
        refine mv rfl rfl ?_
        refine b_T rfl rfl rfl rfl rfl (o_val rfl (v_fieldAddrF fo24_2 rfl) ?_)
        refine b_T rfl rfl rfl rfl rfl (o_val rfl (v_loadF ty22 rfl (l_lit rfl rfl)) ?_)
        refine b_T rfl rfl rfl rfl rfl (o_val rfl (v_lenF rfl rfl ty22 rfl) ?_)
        refine b_T rfl rfl rfl rfl rfl (o_val rfl (v_bin rfl rfl b_gtr) ?_)
        refine bv rfl (v_pickF rfl rfl rfl) ?_
        refine mv rfl rfl ?_
        refine b_nil (hK _ ?_)
        clear hK K
        exact to_le (s' := ⟨[(2, HV.bool (decide (1027 < ((p0.2.2).length : Int))))], []⟩) (AS.le_of ⟨rfl, trivial⟩ trivial) ⟨decide (1027 < ((p0.2.2).length : Int)), (), h, rfl⟩

set_option maxHeartbeats 1600000 in
set_option maxRecDepth 100000 in
theorem w_law11_fine {p0 : TLabelsStatesEdges} {r : Bool} (h : m_law11_fine p0 = some r) : Pure Try.prog 5 [HV.agg [HV.int .i64 p0.1, HV.int .i64 p0.2.1, slE eFromLabelTo p0.2.2]] (· = HV.bool r) := by
  unfold m_law11_fine at h
  refine Pure.of_body Try.func5 rfl rfl (Nat.le_of_ble_eq_true rfl) fun hf => ?_
  unfold Try.f5
  dsimp only [enumS, Nat.reduceAdd]
  refine AW.rgs rfl fun K hK => ?_
  refine b_op rfl (o_box rfl rfl rfl ?_)
  refine mv rfl rfl ?_
  refine b_nil (hK _ (AW.to (to_le (s' := ⟨[(1, HV.fptr [HV.int .i64 p0.1, HV.int .i64 p0.2.1, slE eFromLabelTo p0.2.2] 0)], []⟩) (AS.le_of ⟨rfl, trivial⟩ trivial) ?_)))
  clear hK K
  refine AW.seqJ h (S := Bool) (V := Unit) (fun a v => ⟨[(2, HV.bool a)], []⟩) (fun a1 w2 h => ?_) (fun k3 h => ?_)
  · refine AW.ret ?_
    have h := Option.some.inj h
    subst h
    exact ret_pure (hs := [HV.bool a1]) (q := HV.bool a1) (.inr rfl) (resT rfl rfl) rfl trivial
  · refine AW.rg rfl fun K hK => ?_
    refine bv rfl (v_loadF ty24 rfl (l_litA rfl (Nat.le_of_ble_eq_true rfl) rfl)) ?_
    obtain ⟨x4, h5, h⟩ := bS h
    refine b_op rfl (o_call rfl rfl rfl rfl (ACallD.pure0 (w_ref11_Great h5)) ?_)
    refine bv rfl (v_not rfl) ?_
    refine mv rfl rfl ?_
    by_cases hg9 : (!x4) = true
    · have h := ifT hg9 h
      refine b_T rfl rfl rfl rfl hg9 (o_val rfl (v_loadF ty24 rfl (l_litA rfl (Nat.le_of_ble_eq_true rfl) rfl)) ?_)
      obtain ⟨x6, h7, h⟩ := bS h
      refine b_T rfl rfl rfl rfl rfl (o_call rfl rfl rfl rfl (ACallD.pure0 (w_graph_Check h7)) ?_)
      refine b_T rfl rfl rfl rfl rfl (o_val rfl (v_bin rfl rfl b_eql) ?_)
      refine bv rfl (v_pickT rfl rfl rfl) ?_
      refine mv rfl rfl ?_
      by_cases hg8 : x6 = 0
      · have h := ifT hg8 h
        refine b_T rfl rfl rfl rfl (decide_eq_true hg8) (o_val rfl (v_fieldAddrF fo24_0 rfl) ?_)
        refine b_T rfl rfl rfl rfl rfl (o_val rfl (v_loadF ty3 rfl (l_lit rfl rfl)) ?_)
        refine b_T rfl rfl rfl rfl rfl (o_val rfl (v_bin rfl rfl b_leq) ?_)
        refine bv rfl (v_pickT rfl rfl rfl) ?_
        refine mv rfl rfl ?_
        refine b_nil (hK _ ?_)
        clear hK K
        exact to_le (s' := ⟨[(2, HV.bool (decide (p0.1 ≤ 16)))], []⟩) (AS.le_of ⟨rfl, trivial⟩ trivial) ⟨decide (p0.1 ≤ 16), (), h, rfl⟩
      · have h := ifF hg8 h
        refine b_F rfl rfl rfl rfl rfl (decide_eq_false hg8) ?_
        refine b_F rfl rfl rfl rfl rfl rfl ?_
        refine b_F rfl rfl rfl rfl rfl rfl ?_
        refine bv rfl (v_pickF rfl rfl rfl) ?_
        refine mv rfl rfl ?_
        refine b_nil (hK _ ?_)
        clear hK K
        exact to_le (s' := ⟨[(2, HV.bool false)], []⟩) (AS.le_of ⟨rfl, trivial⟩ trivial) ⟨false, (), h, rfl⟩
    · have h := ifF hg9 h
      refine b_F rfl rfl rfl rfl rfl (bF hg9) ?_
      refine b_F rfl rfl rfl rfl rfl rfl ?_
      refine b_F rfl rfl rfl rfl rfl rfl ?_
      refine bv rfl (v_pickF rfl rfl rfl) ?_
      refine mv rfl rfl ?_
      refine b_F rfl rfl rfl rfl rfl rfl ?_
      refine b_F rfl rfl rfl rfl rfl rfl ?_
      refine b_F rfl rfl rfl rfl rfl rfl ?_
      refine bv rfl (v_pickF rfl rfl rfl) ?_
      refine mv rfl rfl ?_
      refine b_nil (hK _ ?_)
      clear hK K
      exact to_le (s' := ⟨[(2, HV.bool false)], []⟩) (AS.le_of ⟨rfl, trivial⟩ trivial) ⟨false, (), h, rfl⟩

set_option maxHeartbeats 1600000 in
set_option maxRecDepth 100000 in
theorem w_ref11_Many {p0 : TLabelsStatesEdges} {p1 : Int} {p2 : Int} {r : Bool} (h : m_ref11_Many p0 p1 p2 = some r) : Pure Try.prog 6 [HV.agg [HV.int .i64 p0.1, HV.int .i64 p0.2.1, slE eFromLabelTo p0.2.2], HV.int .i64 p1, HV.int .i64 p2] (· = HV.bool r) := by
  unfold m_ref11_Many at h
  refine Pure.of_body Try.func6 rfl rfl (Nat.le_of_ble_eq_true rfl) fun hf => ?_
  unfold Try.f6
  dsimp only [enumS, Nat.reduceAdd]
  refine AW.rgs rfl fun K hK => ?_
  refine b_op rfl (o_box rfl rfl rfl ?_)
  refine mv rfl rfl ?_
  refine b_nil (hK _ (AW.to (to_le (s' := ⟨[(1, HV.int .i64 p1), (2, HV.int .i64 p2), (3, HV.fptr [HV.int .i64 p0.1, HV.int .i64 p0.2.1, slE eFromLabelTo p0.2.2] 0)], []⟩) (AS.le_of ⟨rfl, rfl, rfl, trivial⟩ trivial) ?_)))
  clear hK K
  refine AW.rgs rfl fun K hK => ?_
  refine mv rfl rfl ?_
  refine b_nil (hK _ (AW.to (to_le (s' := ⟨[(1, HV.int .i64 p1), (2, HV.int .i64 p2), (3, HV.fptr [HV.int .i64 p0.1, HV.int .i64 p0.2.1, slE eFromLabelTo p0.2.2] 0), (7, HV.int .i64 1)], []⟩) (AS.le_of ⟨rfl, rfl, rfl, rfl, trivial⟩ trivial) ?_)))
  clear hK K
  refine AW.seq ?_
  refine AW.rgs rfl fun K hK => ?_
  refine mv rfl rfl ?_
  refine b_nil (hK _ (AW.to (to_le (s' := ⟨[(1, HV.int .i64 p1), (2, HV.int .i64 p2), (3, HV.fptr [HV.int .i64 p0.1, HV.int .i64 p0.2.1, slE eFromLabelTo p0.2.2] 0), (7, HV.int .i64 1), (8, HV.int .i64 0)], []⟩) (AS.le_of ⟨rfl, rfl, rfl, rfl, rfl, trivial⟩ trivial) ?_)))
  clear hK K
  refine AW.lpR h (by first | exact up_then | exact up_to) (S := Int × Int) (V := Unit) (fun a v => ⟨[(1, HV.int .i64 p1), (2, HV.int .i64 p2), (3, HV.fptr [HV.int .i64 p0.1, HV.int .i64 p0.2.1, slE eFromLabelTo p0.2.2] 0), (7, HV.int .i64 a.1), (8, HV.int .i64 a.2)], []⟩) ?_ (X := Unit) (W := Unit) (fun a v => ⟨[(1, HV.int .i64 p1)], []⟩) (fun a9 w10 h => ?_) (fun a1 w2 st3 h hr4=> ?_)
  · exact to_le (s' := ⟨[(1, HV.int .i64 p1), (2, HV.int .i64 p2), (3, HV.fptr [HV.int .i64 p0.1, HV.int .i64 p0.2.1, slE eFromLabelTo p0.2.2] 0), (7, HV.int .i64 1), (8, HV.int .i64 0)], []⟩) (AS.le_of ⟨rfl, rfl, rfl, rfl, rfl, trivial⟩ trivial) ⟨(), rfl⟩
  · refine AW.seqJ h (S := Bool) (V := Unit) (fun a v => ⟨[(6, HV.bool a)], []⟩) (fun a11 w12 h => ?_) (fun k13 h => ?_)
    · refine AW.ret ?_
      have h := Option.some.inj h
      subst h
      exact ret_pure (hs := [HV.bool a11]) (q := HV.bool a11) (.inr rfl) (resT rfl rfl) rfl trivial
    · refine AW.rg rfl fun K hK => ?_
      refine mv rfl rfl ?_
      refine bv rfl (v_bin rfl rfl b_gtr) ?_
      refine mv rfl rfl ?_
      by_cases hg14 : 24 < p1
      · have h := ifT hg14 h
        refine b_T rfl rfl rfl rfl (decide_eq_true hg14) (o_val rfl (mv_val rfl rfl).2 ?_)
        refine b_T rfl rfl rfl rfl rfl (o_val rfl (v_bin rfl rfl b_leq) ?_)
        refine bv rfl (v_pickT rfl rfl rfl) ?_
        refine mv rfl rfl ?_
        refine b_nil (hK _ ?_)
        clear hK K
        exact to_le (s' := ⟨[(6, HV.bool (decide (p1 ≤ 4096)))], []⟩) (AS.le_of ⟨rfl, trivial⟩ trivial) ⟨decide (p1 ≤ 4096), (), h, rfl⟩
      · have h := ifF hg14 h
        refine b_F rfl rfl rfl rfl rfl (decide_eq_false hg14) ?_
        refine b_F rfl rfl rfl rfl rfl rfl ?_
        refine bv rfl (v_pickF rfl rfl rfl) ?_
        refine mv rfl rfl ?_
        refine b_nil (hK _ ?_)
        clear hK K
        exact to_le (s' := ⟨[(6, HV.bool false)], []⟩) (AS.le_of ⟨rfl, trivial⟩ trivial) ⟨false, (), h, rfl⟩
  · refine AW.seq ?_
    refine AW.seqJ h (S := Bool) (V := Unit) (fun a v => ⟨[(1, HV.int .i64 p1), (2, HV.int .i64 p2), (3, HV.fptr [HV.int .i64 p0.1, HV.int .i64 p0.2.1, slE eFromLabelTo p0.2.2] 0), (7, HV.int .i64 a1.1), (8, HV.int .i64 a1.2), (15, HV.bool a)], []⟩) (fun a5 w6 h => ?_) (fun k7 h => ?_)
    · refine AW.cond rfl (fun hc => ?_) (fun hc => ?_)
      · have h := ifT hc h
        refine AW.skip ?_
        refine AW.seq (AW.block ?_)
        refine AW.rgs rfl fun K hK => ?_
        refine mv rfl rfl ?_
        refine bv rfl (v_fieldAddrF fo24_0 rfl) ?_
        refine bv rfl (v_loadF ty3 rfl (l_lit rfl rfl)) ?_
        refine bv rfl (v_min rfl rfl rfl) ?_
        refine bv rfl (v_max rfl rfl rfl) ?_
        refine bv rfl (v_bin rfl rfl b_mul) ?_
        refine mv rfl rfl ?_
        refine b_nil (hK _ (AW.to (to_le (s' := ⟨[(1, HV.int .i64 p1), (2, HV.int .i64 p2), (3, HV.fptr [HV.int .i64 p0.1, HV.int .i64 p0.2.1, slE eFromLabelTo p0.2.2] 0), (7, HV.int .i64 (IntKind.wrap .i64 (a1.1 * (max 1 (min p0.1 256))))), (8, HV.int .i64 a1.2)], []⟩) (AS.le_of ⟨rfl, rfl, rfl, rfl, rfl, trivial⟩ trivial) ?_)))
        clear hK K
        refine AW.rgs rfl fun K hK => ?_
        refine mv rfl rfl ?_
        refine mv rfl rfl ?_
        refine bv rfl (v_bin rfl rfl b_gtr) ?_
        refine b_nil (hK _ (AW.to (to_le (s' := ⟨[(1, HV.int .i64 p1), (2, HV.int .i64 p2), (3, HV.fptr [HV.int .i64 p0.1, HV.int .i64 p0.2.1, slE eFromLabelTo p0.2.2] 0), (7, HV.int .i64 (IntKind.wrap .i64 (a1.1 * (max 1 (min p0.1 256))))), (8, HV.int .i64 a1.2), (26, HV.bool (decide (p2 < (IntKind.wrap .i64 (a1.1 * (max 1 (min p0.1 256)))))))], []⟩) (AS.le_of ⟨rfl, rfl, rfl, rfl, rfl, rfl, trivial⟩ trivial) ?_)))
        clear hK K
        refine AW.cond rfl (fun hc => ?_) (fun hc => ?_)
        · have hc := of_decide_eq_true hc
          have h := ifT hc h
          refine AW.rgs rfl fun K hK => ?_
          refine mv rfl rfl ?_
          refine b_nil (hK _ (AW.to (to_le (s' := ⟨[(6, HV.bool true)], []⟩) (AS.le_of ⟨rfl, trivial⟩ trivial) ?_)))
          clear hK K
          have h := hr4 _ h
          refine AW.ret ?_
          have h := Option.some.inj h
          subst h
          exact ret_pure (hs := [HV.bool true]) (q := HV.bool true) (.inr rfl) (resT rfl rfl) rfl trivial
        · have hc := of_decide_eq_false hc
          have h := ifF hc h
          refine AW.skip ?_
          refine AW.rg rfl fun K hK => ?_
          refine mv rfl rfl ?_
          refine bv rfl (v_bin rfl rfl b_add) ?_
          refine mv rfl rfl ?_
          refine b_nil (hK _ ?_)
          clear hK K
          exact to_le (s' := ⟨[(1, HV.int .i64 p1), (2, HV.int .i64 p2), (3, HV.fptr [HV.int .i64 p0.1, HV.int .i64 p0.2.1, slE eFromLabelTo p0.2.2] 0), (7, HV.int .i64 (IntKind.wrap .i64 (a1.1 * (max 1 (min p0.1 256))))), (8, HV.int .i64 (IntKind.wrap .i64 (a1.2 + 1)))], []⟩) (AS.le_of ⟨rfl, rfl, rfl, rfl, rfl, trivial⟩ trivial) ⟨(IntKind.wrap .i64 (a1.1 * (max 1 (min p0.1 256))), IntKind.wrap .i64 (a1.2 + 1)), (), h, rfl⟩
      · have h := ifF (bF' hc) h
        refine AW.exit ?_
        exact to_le (s' := ⟨[(1, HV.int .i64 p1)], []⟩) (AS.le_of ⟨rfl, trivial⟩ trivial) ⟨(), (), h, rfl⟩
    · refine AW.rg rfl fun K hK => ?_
      refine mv rfl rfl ?_
      refine mv rfl rfl ?_
      refine bv rfl (v_bin rfl rfl b_lss) ?_
      refine mv rfl rfl ?_
      by_cases hg8 : a1.2 < p1
      · have h := ifT hg8 h
        refine b_T rfl rfl rfl rfl (decide_eq_true hg8) (o_val rfl (mv_val rfl rfl).2 ?_)
        refine b_T rfl rfl rfl rfl rfl (o_val rfl (v_bin rfl rfl b_lss) ?_)
        refine bv rfl (v_pickT rfl rfl rfl) ?_
        refine b_nil (hK _ ?_)
        clear hK K
        exact to_le (s' := ⟨[(1, HV.int .i64 p1), (2, HV.int .i64 p2), (3, HV.fptr [HV.int .i64 p0.1, HV.int .i64 p0.2.1, slE eFromLabelTo p0.2.2] 0), (7, HV.int .i64 a1.1), (8, HV.int .i64 a1.2), (15, HV.bool (decide (a1.2 < 4096)))], []⟩) (AS.le_of ⟨rfl, rfl, rfl, rfl, rfl, rfl, trivial⟩ trivial) ⟨decide (a1.2 < 4096), (), h, rfl⟩
      · have h := ifF hg8 h
        refine b_F rfl rfl rfl rfl rfl (decide_eq_false hg8) ?_
        refine b_F rfl rfl rfl rfl rfl rfl ?_
        refine bv rfl (v_pickF rfl rfl rfl) ?_
        refine b_nil (hK _ ?_)
        clear hK K
        exact to_le (s' := ⟨[(1, HV.int .i64 p1), (2, HV.int .i64 p2), (3, HV.fptr [HV.int .i64 p0.1, HV.int .i64 p0.2.1, slE eFromLabelTo p0.2.2] 0), (7, HV.int .i64 a1.1), (8, HV.int .i64 a1.2), (15, HV.bool false)], []⟩) (AS.le_of ⟨rfl, rfl, rfl, rfl, rfl, rfl, trivial⟩ trivial) ⟨false, (), h, rfl⟩

set_option maxHeartbeats 1600000 in
set_option maxRecDepth 100000 in
theorem w_word_All {p0 : Int} {p1 : Int} {r : (List (List UInt8)) × Int} (h : m_word_All p0 p1 = some r) : Pure Try.prog 9 [HV.int .i64 p0, HV.int .i64 p1] (· = HV.tup [slE eStr r.1, HV.int .i64 r.2]) := by
  unfold m_word_All at h
  refine Pure.of_body Try.func9 rfl rfl (Nat.le_of_ble_eq_true rfl) fun hf => ?_
  unfold Try.f9
  dsimp only [enumS, Nat.reduceAdd]
  refine AW.rgs rfl fun K hK => ?_
  refine mv rfl rfl ?_
  refine mv rfl rfl ?_
  refine b_nil (hK _ (AW.to (to_le (s' := ⟨[(0, HV.int .i64 p0), (1, HV.int .i64 p1)], []⟩) (AS.le_of ⟨rfl, rfl, trivial⟩ trivial) ?_)))
  clear hK K
  refine AW.seq (AW.block ?_)
  refine AW.rgs rfl fun K hK => ?_
  refine mv rfl rfl ?_
  obtain ⟨x1, h2, h⟩ := bS h
  refine b_op rfl (o_call rfl rfl rfl rfl (ACallD.pure0 (w_word_known h2)) ?_)
  refine bv rfl (v_not rfl) ?_
  refine mv rfl rfl ?_
  refine b_nil (hK _ (AW.to (to_le (s' := ⟨[(0, HV.int .i64 p0), (1, HV.int .i64 p1), (11, HV.bool (!x1))], []⟩) (AS.le_of ⟨rfl, rfl, rfl, trivial⟩ trivial) ?_)))
  clear hK K
  refine AW.cond rfl (fun hc => ?_) (fun hc => ?_)
  · have h := ifT hc h
    refine AW.rgs rfl fun K hK => ?_
    refine mv rfl rfl ?_
    refine mv rfl rfl ?_
    refine b_nil (hK _ (AW.to (to_le (s' := ⟨[(4, HV.v (.slice none 0 0)), (5, HV.int .i64 12)], []⟩) (AS.le_of ⟨rfl, rfl, trivial⟩ trivial) ?_)))
    clear hK K
    refine AW.to (to_weak ⟨[(4, slE eStr ([] : List (List UInt8))), (5, HV.int .i64 12)], []⟩ ⟨⟨_, rfl, .nil _⟩, ⟨_, rfl, .refl _⟩, trivial⟩ trivial ?_)
    refine AW.ret ?_
    have h := Option.some.inj h
    subst h
    exact ret_pure (hs := [slE eStr ([] : List (List UInt8)), HV.int .i64 12]) (q := HV.tup [slE eStr ([] : List (List UInt8)), HV.int .i64 12]) (.inr rfl) (resT rfl (resT rfl rfl)) rfl ⟨(clean_slE fun _ _ => ⟨trivial, trivial⟩), trivial, trivial⟩
  · have h := ifF (bF' hc) h
    refine AW.rgs rfl fun K hK => ?_
    refine mv rfl rfl ?_
    refine bv rfl (v_bin rfl rfl b_lss) ?_
    refine mv rfl rfl ?_
    refine b_nil (hK _ (AW.to (to_le (s' := ⟨[(0, HV.int .i64 p0), (1, HV.int .i64 p1), (15, HV.bool (decide (p1 < 0)))], []⟩) (AS.le_of ⟨rfl, rfl, rfl, trivial⟩ trivial) ?_)))
    clear hK K
    refine AW.cond rfl (fun hc => ?_) (fun hc => ?_)
    · have hc := of_decide_eq_true hc
      have h := ifT hc h
      refine AW.rgs rfl fun K hK => ?_
      refine mv rfl rfl ?_
      refine mv rfl rfl ?_
      refine b_nil (hK _ (AW.to (to_le (s' := ⟨[(4, HV.v (.slice none 0 0)), (5, HV.int .i64 2)], []⟩) (AS.le_of ⟨rfl, rfl, trivial⟩ trivial) ?_)))
      clear hK K
      refine AW.to (to_weak ⟨[(4, slE eStr ([] : List (List UInt8))), (5, HV.int .i64 2)], []⟩ ⟨⟨_, rfl, .nil _⟩, ⟨_, rfl, .refl _⟩, trivial⟩ trivial ?_)
      refine AW.ret ?_
      have h := Option.some.inj h
      subst h
      exact ret_pure (hs := [slE eStr ([] : List (List UInt8)), HV.int .i64 2]) (q := HV.tup [slE eStr ([] : List (List UInt8)), HV.int .i64 2]) (.inr rfl) (resT rfl (resT rfl rfl)) rfl ⟨(clean_slE fun _ _ => ⟨trivial, trivial⟩), trivial, trivial⟩
    · have hc := of_decide_eq_false hc
      have h := ifF hc h
      refine AW.rgs rfl fun K hK => ?_
      refine mv rfl rfl ?_
      refine bv rfl (v_bin rfl rfl b_gtr) ?_
      refine mv rfl rfl ?_
      refine b_nil (hK _ (AW.to (to_le (s' := ⟨[(0, HV.int .i64 p0), (1, HV.int .i64 p1), (18, HV.bool (decide (65536 < p1)))], []⟩) (AS.le_of ⟨rfl, rfl, rfl, trivial⟩ trivial) ?_)))
      clear hK K
      refine AW.cond rfl (fun hc => ?_) (fun hc => ?_)
      · have hc := of_decide_eq_true hc
        have h := ifT hc h
        refine AW.rgs rfl fun K hK => ?_
        refine mv rfl rfl ?_
        refine mv rfl rfl ?_
        refine b_nil (hK _ (AW.to (to_le (s' := ⟨[(4, HV.v (.slice none 0 0)), (5, HV.int .i64 4)], []⟩) (AS.le_of ⟨rfl, rfl, trivial⟩ trivial) ?_)))
        clear hK K
        refine AW.to (to_weak ⟨[(4, slE eStr ([] : List (List UInt8))), (5, HV.int .i64 4)], []⟩ ⟨⟨_, rfl, .nil _⟩, ⟨_, rfl, .refl _⟩, trivial⟩ trivial ?_)
        refine AW.ret ?_
        have h := Option.some.inj h
        subst h
        exact ret_pure (hs := [slE eStr ([] : List (List UInt8)), HV.int .i64 4]) (q := HV.tup [slE eStr ([] : List (List UInt8)), HV.int .i64 4]) (.inr rfl) (resT rfl (resT rfl rfl)) rfl ⟨(clean_slE fun _ _ => ⟨trivial, trivial⟩), trivial, trivial⟩
      · have hc := of_decide_eq_false hc
        have h := ifF hc h
        refine AW.skip ?_
        refine AW.seq ?_
        refine AW.rgs rfl fun K hK => ?_
        refine mv rfl rfl ?_
        refine bv rfl (v_bin rfl rfl b_eql) ?_
        refine b_nil (hK _ (AW.to (to_le (s' := ⟨[(0, HV.int .i64 p0), (1, HV.int .i64 p1), (22, HV.bool (decide (p0 = 1)))], []⟩) (AS.le_of ⟨rfl, rfl, rfl, trivial⟩ trivial) ?_)))
        clear hK K
        refine AW.cond rfl (fun hc => ?_) (fun hc => ?_)
        · have hc := of_decide_eq_true hc
          have h := ifT hc h
          refine AW.rgs rfl fun K hK => ?_
          refine mv rfl rfl ?_
          obtain ⟨x3, h4, h⟩ := bS h
          refine b_op rfl (o_call rfl rfl rfl rfl (ACallD.pure0 (w_strings_Repeat h4)) ?_)
          refine b_op rfl (o_bsl rfl rfl (as_of (cs := [HV.str x3]) ty28 ty9 rfl rfl rfl rfl rfl) ?_)
          refine mv rfl rfl ?_
          refine mv rfl rfl ?_
          refine b_nil (hK _ (AW.to (to_le (s' := ⟨[(4, slE eStr [x3]), (5, HV.int .i64 0)], []⟩) (AS.le_of ⟨rfl, rfl, trivial⟩ trivial) ?_)))
          clear hK K
          refine AW.ret ?_
          have h := Option.some.inj h
          subst h
          exact ret_pure (hs := [slE eStr [x3], HV.int .i64 0]) (q := HV.tup [slE eStr [x3], HV.int .i64 0]) (.inr rfl) (resT rfl (resT rfl rfl)) rfl ⟨(clean_slE fun _ _ => ⟨trivial, trivial⟩), trivial, trivial⟩
        · have hc := of_decide_eq_false hc
          have h := ifF hc h
          refine AW.skip ?_
          refine AW.rgs rfl fun K hK => ?_
          refine b_op rfl (o_bsl rfl rfl (as_of (cs := [HV.str ([] : List UInt8)]) ty28 ty9 rfl rfl rfl rfl rfl) ?_)
          refine mv rfl rfl ?_
          refine b_nil (hK _ (AW.to (to_le (s' := ⟨[(0, HV.int .i64 p0), (1, HV.int .i64 p1), (6, slE eStr [([] : List UInt8)])], []⟩) (AS.le_of ⟨rfl, rfl, rfl, trivial⟩ trivial) ?_)))
          clear hK K
          refine AW.seq ?_
          refine AW.rgs rfl fun K hK => ?_
          refine mv rfl rfl ?_
          refine mv rfl rfl ?_
          refine b_nil (hK _ (AW.to (to_le (s' := ⟨[(0, HV.int .i64 p0), (6, slE eStr [([] : List UInt8)]), (27, HV.int .i64 p1), (28, HV.int .i64 0)], []⟩) (AS.le_of ⟨rfl, rfl, rfl, rfl, trivial⟩ trivial) ?_)))
          clear hK K
          refine AW.lpR h (by first | exact up_then | exact up_to) (S := (List (List UInt8)) × Int) (V := Unit) (fun a v => ⟨[(0, HV.int .i64 p0), (6, slE eStr a.1), (27, HV.int .i64 p1), (28, HV.int .i64 a.2)], []⟩) ?_ (X := (List (List UInt8))) (W := Unit) (fun a v => ⟨[(6, slE eStr a)], []⟩) (fun a29 w30 h => ?_) (fun a5 w6 st7 h hr8=> ?_)
          · exact to_le (s' := ⟨[(0, HV.int .i64 p0), (6, slE eStr [([] : List UInt8)]), (27, HV.int .i64 p1), (28, HV.int .i64 0)], []⟩) (AS.le_of ⟨rfl, rfl, rfl, rfl, trivial⟩ trivial) ⟨(), rfl⟩
          · refine AW.rgs rfl fun K hK => ?_
            refine mv rfl rfl ?_
            refine mv rfl rfl ?_
            refine mv rfl rfl ?_
            refine b_nil (hK _ (AW.to (to_le (s' := ⟨[(4, slE eStr a29), (5, HV.int .i64 0)], []⟩) (AS.le_of ⟨rfl, rfl, trivial⟩ trivial) ?_)))
            clear hK K
            refine AW.ret ?_
            have h := Option.some.inj h
            subst h
            exact ret_pure (hs := [slE eStr a29, HV.int .i64 0]) (q := HV.tup [slE eStr a29, HV.int .i64 0]) (.inr rfl) (resT rfl (resT rfl rfl)) rfl ⟨(clean_slE fun _ _ => ⟨trivial, trivial⟩), trivial, trivial⟩
          · refine AW.rgs rfl fun K hK => ?_
            refine bv rfl (v_bin rfl rfl b_lss) ?_
            refine b_nil (hK _ (AW.to (to_le (s' := ⟨[(0, HV.int .i64 p0), (6, slE eStr a5.1), (27, HV.int .i64 p1), (28, HV.int .i64 a5.2), (29, HV.bool (decide (a5.2 < p1)))], []⟩) (AS.le_of ⟨rfl, rfl, rfl, rfl, rfl, trivial⟩ trivial) ?_)))
            clear hK K
            refine AW.cseq rfl (fun hc => ?_) (fun hc => ?_)
            · have hc := of_decide_eq_true hc
              have h := ifT hc h
              refine AW.skip ?_
              refine AW.seq (AW.block ?_)
              refine AW.seq ?_
              refine AW.rgs rfl fun K hK => ?_
              refine mv rfl rfl ?_
              refine bv rfl (v_lenF rfl rfl ty28 rfl) ?_
              refine mv rfl rfl ?_
              refine bv rfl (v_bin rfl rfl b_mul) ?_
              refine bv rfl (v_bin rfl rfl b_gtr) ?_
              refine b_nil (hK _ (AW.to (to_le (s' := ⟨[(0, HV.int .i64 p0), (6, slE eStr a5.1), (27, HV.int .i64 p1), (28, HV.int .i64 a5.2), (34, HV.bool (decide (4096 < (IntKind.wrap .i64 (((a5.1).length : Int) * p0)))))], []⟩) (AS.le_of ⟨rfl, rfl, rfl, rfl, rfl, trivial⟩ trivial) ?_)))
              clear hK K
              refine AW.cond rfl (fun hc => ?_) (fun hc => ?_)
              · have hc := of_decide_eq_true hc
                have h := ifT hc h
                refine AW.rgs rfl fun K hK => ?_
                refine mv rfl rfl ?_
                refine mv rfl rfl ?_
                refine b_nil (hK _ (AW.to (to_le (s' := ⟨[(4, HV.v (.slice none 0 0)), (5, HV.int .i64 4)], []⟩) (AS.le_of ⟨rfl, rfl, trivial⟩ trivial) ?_)))
                clear hK K
                have h := hr8 _ h
                refine AW.to (to_weak ⟨[(4, slE eStr ([] : List (List UInt8))), (5, HV.int .i64 4)], []⟩ ⟨⟨_, rfl, .nil _⟩, ⟨_, rfl, .refl _⟩, trivial⟩ trivial ?_)
                refine AW.ret ?_
                have h := Option.some.inj h
                subst h
                exact ret_pure (hs := [slE eStr ([] : List (List UInt8)), HV.int .i64 4]) (q := HV.tup [slE eStr ([] : List (List UInt8)), HV.int .i64 4]) (.inr rfl) (resT rfl (resT rfl rfl)) rfl ⟨(clean_slE fun _ _ => ⟨trivial, trivial⟩), trivial, trivial⟩
              · have hc := of_decide_eq_false hc
                have h := ifF hc h
                refine AW.skip ?_
                refine AW.rgs rfl fun K hK => ?_
                refine mv rfl rfl ?_
                refine bv rfl (v_lenF rfl rfl ty28 rfl) ?_
                refine mv rfl rfl ?_
                refine bv rfl (v_bin rfl rfl b_mul) ?_
                obtain ⟨h10, h⟩ := ifN h
                refine b_op rfl (o_makeE (fid := 9) eStr (([] : List UInt8) : List UInt8) 9039 rfl rfl ty28 rfl rfl ty9 rfl rfl h10 (fun v9 => ?_))
                refine mv rfl rfl ?_
                refine b_nil (hK _ (AW.to (to_le (s' := ⟨[(0, HV.int .i64 p0), (6, slE eStr a5.1), (7, HV.ar 9039 v9 eStr.k 0 ((List.replicate (0 : Int).toNat (([] : List UInt8) : List UInt8)).length)), (27, HV.int .i64 p1), (28, HV.int .i64 a5.2)], [(9039, v9, .arr eStr.k 9 (eStr.E (List.replicate (0 : Int).toNat (([] : List UInt8) : List UInt8))))]⟩) (AS.le_of ⟨rfl, rfl, rfl, rfl, rfl, trivial⟩ ⟨rfl, trivial⟩) ?_)))
                clear hK K
                refine AW.seq ?_
                refine AW.rgs rfl fun K hK => ?_
                refine mv rfl rfl ?_
                refine bv rfl (v_lenF rfl rfl ty28 rfl) ?_
                refine mv rfl rfl ?_
                refine b_nil (hK _ (AW.to (to_le (s' := ⟨[(0, HV.int .i64 p0), (7, HV.ar 9039 v9 eStr.k 0 ((List.replicate (0 : Int).toNat (([] : List UInt8) : List UInt8)).length)), (27, HV.int .i64 p1), (28, HV.int .i64 a5.2), (40, slE eStr a5.1), (41, HV.int .i64 ((a5.1).length : Int)), (42, HV.int .i64 0)], [(9039, v9, .arr eStr.k 9 (eStr.E (List.replicate (0 : Int).toNat (([] : List UInt8) : List UInt8))))]⟩) (AS.le_of ⟨rfl, rfl, rfl, rfl, rfl, rfl, rfl, trivial⟩ ⟨rfl, trivial⟩) ?_)))
                clear hK K
                refine AW.lpX h (by first | exact up_then | exact up_to) (S := Int × (List (List UInt8))) (V := Nat) (fun a v => ⟨[(0, HV.int .i64 p0), (7, HV.ar 9039 v eStr.k 0 ((a.2).length)), (27, HV.int .i64 p1), (28, HV.int .i64 a5.2), (40, slE eStr a5.1), (41, HV.int .i64 ((a5.1).length : Int)), (42, HV.int .i64 a.1)], [(9039, v, .arr eStr.k 9 (eStr.E a.2))]⟩) ?_ (X := (List (List UInt8))) (W := Nat) (fun a v => ⟨[(0, HV.int .i64 p0), (7, HV.ar 9039 v eStr.k 0 ((a).length)), (27, HV.int .i64 p1), (28, HV.int .i64 a5.2)], [(9039, v, .arr eStr.k 9 (eStr.E a))]⟩) (fun a27 w28 h => ?_) (fun a11 w12 st13 h => ?_)
                · exact to_le (s' := ⟨[(0, HV.int .i64 p0), (7, HV.ar 9039 v9 eStr.k 0 ((List.replicate (0 : Int).toNat (([] : List UInt8) : List UInt8)).length)), (27, HV.int .i64 p1), (28, HV.int .i64 a5.2), (40, slE eStr a5.1), (41, HV.int .i64 ((a5.1).length : Int)), (42, HV.int .i64 0)], [(9039, v9, .arr eStr.k 9 (eStr.E (List.replicate (0 : Int).toNat (([] : List UInt8) : List UInt8))))]⟩) (AS.le_of ⟨rfl, rfl, rfl, rfl, rfl, rfl, rfl, trivial⟩ ⟨rfl, trivial⟩) ⟨v9, rfl⟩
                · refine AW.rg rfl fun K hK => ?_
                  refine mv rfl rfl ?_
                  refine mv rfl rfl ?_
                  refine b_nil (hK _ (AW.to (to_le (s' := ⟨[(0, HV.int .i64 p0), (6, HV.ar 9039 w28 eStr.k 0 ((a27).length)), (27, HV.int .i64 p1), (28, HV.int .i64 a5.2)], [(9039, w28, .arr eStr.k 9 (eStr.E a27))]⟩) (AS.le_of ⟨rfl, rfl, rfl, rfl, trivial⟩ ⟨rfl, trivial⟩) ?_)))
                  clear hK K
                  refine AW.rg rfl fun K hK => ?_
                  refine bv rfl (v_bin rfl rfl b_add) ?_
                  refine mv rfl rfl ?_
                  refine b_nil (hK _ ?_)
                  clear hK K
                  refine to_bind (to_frz 2 [(9039, w28, .arr eStr.k 9 (eStr.E a27))] ⟨[(0, HV.int .i64 p0), (6, slE eStr a27), (27, HV.int .i64 p1), (28, HV.int .i64 (IntKind.wrap .i64 (a5.2 + 1)))], []⟩ ⟨⟨_, rfl, rfl⟩, ⟨_, rfl, frz_slE eStr (l := a27) rfl fun _ _ => rfl⟩, ⟨_, rfl, rfl⟩, ⟨_, rfl, rfl⟩, trivial⟩ trivial ⟨rfl, trivial⟩ ⟨rfl, trivial⟩ ?_)
                  exact to_le (s' := ⟨[(0, HV.int .i64 p0), (6, slE eStr a27), (27, HV.int .i64 p1), (28, HV.int .i64 (IntKind.wrap .i64 (a5.2 + 1)))], []⟩) (AS.le_of ⟨rfl, rfl, rfl, rfl, trivial⟩ trivial) ⟨(a27, IntKind.wrap .i64 (a5.2 + 1)), (), h, rfl⟩
                · refine AW.rgs rfl fun K hK => ?_
                  refine bv rfl (v_bin rfl rfl b_lss) ?_
                  refine b_nil (hK _ (AW.to (to_le (s' := ⟨[(0, HV.int .i64 p0), (7, HV.ar 9039 w12 eStr.k 0 ((a11.2).length)), (27, HV.int .i64 p1), (28, HV.int .i64 a5.2), (40, slE eStr a5.1), (41, HV.int .i64 ((a5.1).length : Int)), (42, HV.int .i64 a11.1), (43, HV.bool (decide (a11.1 < ((a5.1).length : Int))))], [(9039, w12, .arr eStr.k 9 (eStr.E a11.2))]⟩) (AS.le_of ⟨rfl, rfl, rfl, rfl, rfl, rfl, rfl, rfl, trivial⟩ ⟨rfl, trivial⟩) ?_)))
                  clear hK K
                  refine AW.cseq rfl (fun hc => ?_) (fun hc => ?_)
                  · have hc := of_decide_eq_true hc
                    have h := ifT hc h
                    refine AW.skip ?_
                    refine AW.seq (AW.block ?_)
                    refine AW.rgs rfl fun K hK => ?_
                    obtain ⟨x15, h16, h⟩ := bS h
                    refine bv rfl (v_idxF ty28 es28 rfl rfl (idx_lt h16)) ?_
                    refine bv rfl (v_loadF ty9 rfl (l_cell eStr h16 (o := 0) rfl rfl)) ?_
                    refine mv rfl rfl ?_
                    refine b_nil (hK _ (AW.to (to_le (s' := ⟨[(0, HV.int .i64 p0), (7, HV.ar 9039 w12 eStr.k 0 ((a11.2).length)), (9, HV.str x15), (27, HV.int .i64 p1), (28, HV.int .i64 a5.2), (40, slE eStr a5.1), (41, HV.int .i64 ((a5.1).length : Int)), (42, HV.int .i64 a11.1)], [(9039, w12, .arr eStr.k 9 (eStr.E a11.2))]⟩) (AS.le_of ⟨rfl, rfl, rfl, rfl, rfl, rfl, rfl, rfl, trivial⟩ ⟨rfl, trivial⟩) ?_)))
                    clear hK K
                    refine AW.rgs rfl fun K hK => ?_
                    refine mv rfl rfl ?_
                    refine mv rfl rfl ?_
                    refine b_nil (hK _ (AW.to (to_le (s' := ⟨[(0, HV.int .i64 p0), (7, HV.ar 9039 w12 eStr.k 0 ((a11.2).length)), (9, HV.str x15), (27, HV.int .i64 p1), (28, HV.int .i64 a5.2), (40, slE eStr a5.1), (41, HV.int .i64 ((a5.1).length : Int)), (42, HV.int .i64 a11.1), (46, HV.int .i64 p0), (47, HV.int .i64 0)], [(9039, w12, .arr eStr.k 9 (eStr.E a11.2))]⟩) (AS.le_of ⟨rfl, rfl, rfl, rfl, rfl, rfl, rfl, rfl, rfl, rfl, trivial⟩ ⟨rfl, trivial⟩) ?_)))
                    clear hK K
                    refine AW.lpX h (by first | exact up_then | exact up_to) (S := Int × (List (List UInt8))) (V := Nat) (fun a v => ⟨[(0, HV.int .i64 p0), (7, HV.ar 9039 v eStr.k 0 ((a.2).length)), (9, HV.str x15), (27, HV.int .i64 p1), (28, HV.int .i64 a5.2), (40, slE eStr a5.1), (41, HV.int .i64 ((a5.1).length : Int)), (42, HV.int .i64 a11.1), (46, HV.int .i64 p0), (47, HV.int .i64 a.1)], [(9039, v, .arr eStr.k 9 (eStr.E a.2))]⟩) ?_ (X := (List (List UInt8))) (W := Nat) (fun a v => ⟨[(0, HV.int .i64 p0), (7, HV.ar 9039 v eStr.k 0 ((a).length)), (27, HV.int .i64 p1), (28, HV.int .i64 a5.2), (40, slE eStr a5.1), (41, HV.int .i64 ((a5.1).length : Int)), (42, HV.int .i64 a11.1)], [(9039, v, .arr eStr.k 9 (eStr.E a))]⟩) (fun a25 w26 h => ?_) (fun a17 w18 st19 h => ?_)
                    · exact to_le (s' := ⟨[(0, HV.int .i64 p0), (7, HV.ar 9039 w12 eStr.k 0 ((a11.2).length)), (9, HV.str x15), (27, HV.int .i64 p1), (28, HV.int .i64 a5.2), (40, slE eStr a5.1), (41, HV.int .i64 ((a5.1).length : Int)), (42, HV.int .i64 a11.1), (46, HV.int .i64 p0), (47, HV.int .i64 0)], [(9039, w12, .arr eStr.k 9 (eStr.E a11.2))]⟩) (AS.le_of ⟨rfl, rfl, rfl, rfl, rfl, rfl, rfl, rfl, rfl, rfl, trivial⟩ ⟨rfl, trivial⟩) ⟨w12, rfl⟩
                    · refine AW.rg rfl fun K hK => ?_
                      refine bv rfl (v_bin rfl rfl b_add) ?_
                      refine mv rfl rfl ?_
                      refine b_nil (hK _ ?_)
                      clear hK K
                      exact to_le (s' := ⟨[(0, HV.int .i64 p0), (7, HV.ar 9039 w26 eStr.k 0 ((a25).length)), (27, HV.int .i64 p1), (28, HV.int .i64 a5.2), (40, slE eStr a5.1), (41, HV.int .i64 ((a5.1).length : Int)), (42, HV.int .i64 (IntKind.wrap .i64 (a11.1 + 1)))], [(9039, w26, .arr eStr.k 9 (eStr.E a25))]⟩) (AS.le_of ⟨rfl, rfl, rfl, rfl, rfl, rfl, rfl, trivial⟩ ⟨rfl, trivial⟩) ⟨(IntKind.wrap .i64 (a11.1 + 1), a25), w26, h, rfl⟩
                    · refine AW.rgs rfl fun K hK => ?_
                      refine bv rfl (v_bin rfl rfl b_lss) ?_
                      refine b_nil (hK _ (AW.to (to_le (s' := ⟨[(0, HV.int .i64 p0), (7, HV.ar 9039 w18 eStr.k 0 ((a17.2).length)), (9, HV.str x15), (27, HV.int .i64 p1), (28, HV.int .i64 a5.2), (40, slE eStr a5.1), (41, HV.int .i64 ((a5.1).length : Int)), (42, HV.int .i64 a11.1), (46, HV.int .i64 p0), (47, HV.int .i64 a17.1), (48, HV.bool (decide (a17.1 < p0)))], [(9039, w18, .arr eStr.k 9 (eStr.E a17.2))]⟩) (AS.le_of ⟨rfl, rfl, rfl, rfl, rfl, rfl, rfl, rfl, rfl, rfl, rfl, trivial⟩ ⟨rfl, trivial⟩) ?_)))
                      clear hK K
                      refine AW.cseq rfl (fun hc => ?_) (fun hc => ?_)
                      · have hc := of_decide_eq_true hc
                        have h := ifT hc h
                        refine AW.skip ?_
                        refine AW.seq (AW.block ?_)
                        refine AW.rgs rfl fun K hK => ?_
                        refine mv rfl rfl ?_
                        refine mv rfl rfl ?_
                        refine b_nil (hK _ (AW.to (to_le (s' := ⟨[(0, HV.int .i64 p0), (7, HV.ar 9039 w18 eStr.k 0 ((a17.2).length)), (9, HV.str x15), (10, HV.int .i64 a17.1), (27, HV.int .i64 p1), (28, HV.int .i64 a5.2), (40, slE eStr a5.1), (41, HV.int .i64 ((a5.1).length : Int)), (42, HV.int .i64 a11.1), (46, HV.int .i64 p0), (47, HV.int .i64 a17.1)], [(9039, w18, .arr eStr.k 9 (eStr.E a17.2))]⟩) (AS.le_of ⟨rfl, rfl, rfl, rfl, rfl, rfl, rfl, rfl, rfl, rfl, rfl, trivial⟩ ⟨rfl, trivial⟩) ?_)))
                        clear hK K
                        refine AW.rg rfl fun K hK => ?_
                        refine mv rfl rfl ?_
                        refine mv rfl rfl ?_
                        refine mv rfl rfl ?_
                        refine mv rfl rfl ?_
                        refine bv rfl (v_bin rfl rfl b_add) ?_
                        obtain ⟨h21, h⟩ := ifN h
                        refine bv rfl (v_sliceS ty9 rfl rfl rfl h21) ?_
                        obtain ⟨h22, h⟩ := ifN h
                        refine bv rfl (v_bin rfl rfl (b_sadd h22)) ?_
                        refine b_op rfl (o_bsl rfl rfl (as_of (cs := [HV.str (x15 ++ ((([48, 49, 50, 51, 52, 53, 54, 55, 56, 57, 97, 98, 99, 100, 101, 102] : List UInt8).take (IntKind.wrap .i64 (a17.1 + 1)).toNat).drop (a17.1).toNat))]) ty28 ty9 rfl rfl rfl rfl rfl) ?_)
                        obtain ⟨h24, h⟩ := ifN h
                        refine b_op rfl (o_appE eStr (l := a17.2) (m := [x15 ++ ((([48, 49, 50, 51, 52, 53, 54, 55, 56, 57, 97, 98, 99, 100, 101, 102] : List UInt8).take (IntKind.wrap .i64 (a17.1 + 1)).toNat).drop (a17.1).toNat)]) rfl rfl ty28 ty28 ty9 rfl rfl rfl rfl rfl h24 (fun v23 => ?_))
                        refine mv rfl rfl ?_
                        refine b_nil (hK _ (AW.to (to_le (s' := ⟨[(0, HV.int .i64 p0), (7, HV.ar 9039 v23 eStr.k 0 ((a17.2 ++ [x15 ++ ((([48, 49, 50, 51, 52, 53, 54, 55, 56, 57, 97, 98, 99, 100, 101, 102] : List UInt8).take (IntKind.wrap .i64 (a17.1 + 1)).toNat).drop (a17.1).toNat)]).length)), (9, HV.str x15), (27, HV.int .i64 p1), (28, HV.int .i64 a5.2), (40, slE eStr a5.1), (41, HV.int .i64 ((a5.1).length : Int)), (42, HV.int .i64 a11.1), (46, HV.int .i64 p0), (47, HV.int .i64 a17.1)], [(9039, v23, .arr eStr.k 9 (eStr.E (a17.2 ++ [x15 ++ ((([48, 49, 50, 51, 52, 53, 54, 55, 56, 57, 97, 98, 99, 100, 101, 102] : List UInt8).take (IntKind.wrap .i64 (a17.1 + 1)).toNat).drop (a17.1).toNat)])))]⟩) (AS.le_of ⟨rfl, rfl, rfl, rfl, rfl, rfl, rfl, rfl, rfl, rfl, trivial⟩ ⟨rfl, trivial⟩) ?_)))
                        clear hK K
                        refine AW.rg rfl fun K hK => ?_
                        refine bv rfl (v_bin rfl rfl b_add) ?_
                        refine mv rfl rfl ?_
                        refine b_nil (hK _ ?_)
                        clear hK K
                        exact to_le (s' := ⟨[(0, HV.int .i64 p0), (7, HV.ar 9039 v23 eStr.k 0 ((a17.2 ++ [x15 ++ ((([48, 49, 50, 51, 52, 53, 54, 55, 56, 57, 97, 98, 99, 100, 101, 102] : List UInt8).take (IntKind.wrap .i64 (a17.1 + 1)).toNat).drop (a17.1).toNat)]).length)), (9, HV.str x15), (27, HV.int .i64 p1), (28, HV.int .i64 a5.2), (40, slE eStr a5.1), (41, HV.int .i64 ((a5.1).length : Int)), (42, HV.int .i64 a11.1), (46, HV.int .i64 p0), (47, HV.int .i64 (IntKind.wrap .i64 (a17.1 + 1)))], [(9039, v23, .arr eStr.k 9 (eStr.E (a17.2 ++ [x15 ++ ((([48, 49, 50, 51, 52, 53, 54, 55, 56, 57, 97, 98, 99, 100, 101, 102] : List UInt8).take (IntKind.wrap .i64 (a17.1 + 1)).toNat).drop (a17.1).toNat)])))]⟩) (AS.le_of ⟨rfl, rfl, rfl, rfl, rfl, rfl, rfl, rfl, rfl, rfl, trivial⟩ ⟨rfl, trivial⟩) ⟨(IntKind.wrap .i64 (a17.1 + 1), a17.2 ++ [x15 ++ ((([48, 49, 50, 51, 52, 53, 54, 55, 56, 57, 97, 98, 99, 100, 101, 102] : List UInt8).take (IntKind.wrap .i64 (a17.1 + 1)).toNat).drop (a17.1).toNat)]), v23, h, rfl⟩
                      · have hc := of_decide_eq_false hc
                        have h := ifF hc h
                        refine AW.exit ?_
                        exact to_le (s' := ⟨[(0, HV.int .i64 p0), (7, HV.ar 9039 w18 eStr.k 0 ((a17.2).length)), (27, HV.int .i64 p1), (28, HV.int .i64 a5.2), (40, slE eStr a5.1), (41, HV.int .i64 ((a5.1).length : Int)), (42, HV.int .i64 a11.1)], [(9039, w18, .arr eStr.k 9 (eStr.E a17.2))]⟩) (AS.le_of ⟨rfl, rfl, rfl, rfl, rfl, rfl, rfl, trivial⟩ ⟨rfl, trivial⟩) ⟨a17.2, w18, h, rfl⟩
                  · have hc := of_decide_eq_false hc
                    have h := ifF hc h
                    refine AW.exit ?_
                    exact to_le (s' := ⟨[(0, HV.int .i64 p0), (7, HV.ar 9039 w12 eStr.k 0 ((a11.2).length)), (27, HV.int .i64 p1), (28, HV.int .i64 a5.2)], [(9039, w12, .arr eStr.k 9 (eStr.E a11.2))]⟩) (AS.le_of ⟨rfl, rfl, rfl, rfl, trivial⟩ ⟨rfl, trivial⟩) ⟨a11.2, w12, h, rfl⟩
            · have hc := of_decide_eq_false hc
              have h := ifF hc h
              refine AW.exit ?_
              exact to_le (s' := ⟨[(6, slE eStr a5.1)], []⟩) (AS.le_of ⟨rfl, trivial⟩ trivial) ⟨a5.1, (), h, rfl⟩

set_option maxHeartbeats 1600000 in
set_option maxRecDepth 100000 in
theorem w_language_ends {p0 : TLabelsStatesEdges} {p1 : List (Int)} {p2 : List UInt8} {r : (List (Int))} (h : m_language_ends p0 p1 p2 = some r) : Pure Try.prog 27 [HV.agg [HV.int .i64 p0.1, HV.int .i64 p0.2.1, slE eFromLabelTo p0.2.2], slE eInt p1, HV.str p2] (· = slE eInt r) := by
  unfold m_language_ends at h
  refine Pure.of_body Try.func27 rfl rfl (Nat.le_of_ble_eq_true rfl) fun hf => ?_
  unfold Try.f27
  dsimp only [enumS, Nat.reduceAdd]
  refine AW.rgs rfl fun K hK => ?_
  refine b_op rfl (o_box rfl rfl rfl ?_)
  refine mv rfl rfl ?_
  refine b_nil (hK _ (AW.to (to_le (s' := ⟨[(1, slE eInt p1), (2, HV.str p2), (3, HV.fptr [HV.int .i64 p0.1, HV.int .i64 p0.2.1, slE eFromLabelTo p0.2.2] 0)], []⟩) (AS.le_of ⟨rfl, rfl, rfl, trivial⟩ trivial) ?_)))
  clear hK K
  refine AW.seq ?_
  refine AW.rgs rfl fun K hK => ?_
  refine mv rfl rfl ?_
  refine b_nil (hK _ (AW.to (to_le (s' := ⟨[(1, slE eInt p1), (2, HV.str p2), (3, HV.fptr [HV.int .i64 p0.1, HV.int .i64 p0.2.1, slE eFromLabelTo p0.2.2] 0), (7, HV.int .i64 0)], []⟩) (AS.le_of ⟨rfl, rfl, rfl, rfl, trivial⟩ trivial) ?_)))
  clear hK K
  refine AW.lpX h (by first | exact up_then | exact up_to) (S := (List Int) × Int) (V := Unit) (fun a v => ⟨[(1, slE eInt a.1), (2, HV.str p2), (3, HV.fptr [HV.int .i64 p0.1, HV.int .i64 p0.2.1, slE eFromLabelTo p0.2.2] 0), (7, HV.int .i64 a.2)], []⟩) ?_ (X := (List Int)) (W := Unit) (fun a v => ⟨[(1, slE eInt a)], []⟩) (fun a13 w14 h => ?_) (fun a1 w2 st3 h => ?_)
  · exact to_le (s' := ⟨[(1, slE eInt p1), (2, HV.str p2), (3, HV.fptr [HV.int .i64 p0.1, HV.int .i64 p0.2.1, slE eFromLabelTo p0.2.2] 0), (7, HV.int .i64 0)], []⟩) (AS.le_of ⟨rfl, rfl, rfl, rfl, trivial⟩ trivial) ⟨(), rfl⟩
  · refine AW.rgs rfl fun K hK => ?_
    refine mv rfl rfl ?_
    refine mv rfl rfl ?_
    refine b_nil (hK _ (AW.to (to_le (s' := ⟨[(6, slE eInt a13)], []⟩) (AS.le_of ⟨rfl, trivial⟩ trivial) ?_)))
    clear hK K
    refine AW.ret ?_
    have h := Option.some.inj h
    subst h
    exact ret_pure (hs := [slE eInt a13]) (q := slE eInt a13) (.inr rfl) (resT rfl rfl) rfl (clean_slE fun _ _ => ⟨trivial, trivial⟩)
  · refine AW.seq ?_
    refine AW.seqJ h (S := Bool) (V := Unit) (fun a v => ⟨[(1, slE eInt a1.1), (2, HV.str p2), (3, HV.fptr [HV.int .i64 p0.1, HV.int .i64 p0.2.1, slE eFromLabelTo p0.2.2] 0), (7, HV.int .i64 a1.2), (16, HV.bool a)], []⟩) (fun a5 w6 h => ?_) (fun k7 h => ?_)
    · refine AW.cond rfl (fun hc => ?_) (fun hc => ?_)
      · have h := ifT hc h
        refine AW.skip ?_
        refine AW.seq (AW.block ?_)
        refine AW.dg 7 follows rfl rfl fun K hK => ?_
        refine sv rfl (v_loadF ty24 rfl (l_litA rfl (Nat.le_of_ble_eq_true rfl) rfl)) ?_
        refine sm rfl rfl ?_
        refine sm rfl rfl ?_
        refine sm rfl rfl ?_
        obtain ⟨x8, h9, h⟩ := bS h
        refine sv rfl (v_idxS ty9 rfl rfl h9) ?_
        obtain ⟨x10, h11, h⟩ := bS h
        refine s_op rfl rfl (ops_call rfl rfl rfl rfl (ACallD.pure0 (w_language_step h11)) ?_)
        refine sm rfl rfl ?_
        refine s_nil ?_
        refine b_nil (hK _ (AW.to (to_le (s' := ⟨[(1, slE eInt x10), (2, HV.str p2), (3, HV.fptr [HV.int .i64 p0.1, HV.int .i64 p0.2.1, slE eFromLabelTo p0.2.2] 0), (7, HV.int .i64 a1.2)], []⟩) (AS.le_of ⟨rfl, rfl, rfl, rfl, trivial⟩ trivial) ?_)))
        clear hK K
        refine AW.rg rfl fun K hK => ?_
        refine mv rfl rfl ?_
        refine bv rfl (v_bin rfl rfl b_add) ?_
        refine mv rfl rfl ?_
        refine b_nil (hK _ ?_)
        clear hK K
        exact to_le (s' := ⟨[(1, slE eInt x10), (2, HV.str p2), (3, HV.fptr [HV.int .i64 p0.1, HV.int .i64 p0.2.1, slE eFromLabelTo p0.2.2] 0), (7, HV.int .i64 (IntKind.wrap .i64 (a1.2 + 1)))], []⟩) (AS.le_of ⟨rfl, rfl, rfl, rfl, trivial⟩ trivial) ⟨(x10, IntKind.wrap .i64 (a1.2 + 1)), (), h, rfl⟩
      · have h := ifF (bF' hc) h
        refine AW.exit ?_
        exact to_le (s' := ⟨[(1, slE eInt a1.1)], []⟩) (AS.le_of ⟨rfl, trivial⟩ trivial) ⟨a1.1, (), h, rfl⟩
    · refine AW.rg rfl fun K hK => ?_
      refine mv rfl rfl ?_
      refine mv rfl rfl ?_
      refine bv rfl (v_lenS rfl rfl ty9 rfl) ?_
      refine bv rfl (v_bin rfl rfl b_lss) ?_
      refine mv rfl rfl ?_
      by_cases hg12 : a1.2 < ((p2).length : Int)
      · have h := ifT hg12 h
        refine b_T rfl rfl rfl rfl (decide_eq_true hg12) (o_val rfl (mv_val rfl rfl).2 ?_)
        refine b_T rfl rfl rfl rfl rfl (o_val rfl (v_lenF rfl rfl ty41 rfl) ?_)
        refine b_T rfl rfl rfl rfl rfl (o_val rfl (v_bin rfl rfl b_gtr) ?_)
        refine bv rfl (v_pickT rfl rfl rfl) ?_
        refine b_nil (hK _ ?_)
        clear hK K
        exact to_le (s' := ⟨[(1, slE eInt a1.1), (2, HV.str p2), (3, HV.fptr [HV.int .i64 p0.1, HV.int .i64 p0.2.1, slE eFromLabelTo p0.2.2] 0), (7, HV.int .i64 a1.2), (16, HV.bool (decide (0 < ((a1.1).length : Int))))], []⟩) (AS.le_of ⟨rfl, rfl, rfl, rfl, rfl, trivial⟩ trivial) ⟨decide (0 < ((a1.1).length : Int)), (), h, rfl⟩
      · have h := ifF hg12 h
        refine b_F rfl rfl rfl rfl rfl (decide_eq_false hg12) ?_
        refine b_F rfl rfl rfl rfl rfl rfl ?_
        refine b_F rfl rfl rfl rfl rfl rfl ?_
        refine bv rfl (v_pickF rfl rfl rfl) ?_
        refine b_nil (hK _ ?_)
        clear hK K
        exact to_le (s' := ⟨[(1, slE eInt a1.1), (2, HV.str p2), (3, HV.fptr [HV.int .i64 p0.1, HV.int .i64 p0.2.1, slE eFromLabelTo p0.2.2] 0), (7, HV.int .i64 a1.2), (16, HV.bool false)], []⟩) (AS.le_of ⟨rfl, rfl, rfl, rfl, rfl, trivial⟩ trivial) ⟨false, (), h, rfl⟩

set_option maxHeartbeats 1600000 in
set_option maxRecDepth 100000 in
theorem w_language_Accepts {p0 : TLabelsStatesEdges} {p1 : List UInt8} {r : Bool × Int} (h : m_language_Accepts p0 p1 = some r) : Pure Try.prog 10 [HV.agg [HV.int .i64 p0.1, HV.int .i64 p0.2.1, slE eFromLabelTo p0.2.2], HV.str p1] (· = HV.tup [HV.bool r.1, HV.int .i64 r.2]) := by
  unfold m_language_Accepts at h
  refine Pure.of_body Try.func10 rfl rfl (Nat.le_of_ble_eq_true rfl) fun hf => ?_
  unfold Try.f10
  dsimp only [enumS, Nat.reduceAdd]
  refine AW.rgs rfl fun K hK => ?_
  refine b_op rfl (o_box rfl rfl rfl ?_)
  refine mv rfl rfl ?_
  refine mv rfl rfl ?_
  refine b_nil (hK _ (AW.to (to_le (s' := ⟨[(1, HV.str p1), (2, HV.fptr [HV.int .i64 p0.1, HV.int .i64 p0.2.1, slE eFromLabelTo p0.2.2] 0)], []⟩) (AS.le_of ⟨rfl, rfl, trivial⟩ trivial) ?_)))
  clear hK K
  refine AW.seq ?_
  refine AW.rgs rfl fun K hK => ?_
  refine bv rfl (v_loadF ty24 rfl (l_litA rfl (Nat.le_of_ble_eq_true rfl) rfl)) ?_
  refine mv rfl rfl ?_
  obtain ⟨x1, h2, h⟩ := bS h
  refine b_op rfl (o_call rfl rfl rfl rfl (ACallD.pure0 (w_language_spells h2)) ?_)
  refine mv rfl rfl ?_
  refine b_nil (hK _ (AW.to (to_le (s' := ⟨[(1, HV.str p1), (2, HV.fptr [HV.int .i64 p0.1, HV.int .i64 p0.2.1, slE eFromLabelTo p0.2.2] 0), (6, HV.int .i64 x1)], []⟩) (AS.le_of ⟨rfl, rfl, rfl, trivial⟩ trivial) ?_)))
  clear hK K
  refine AW.rgs rfl fun K hK => ?_
  refine mv rfl rfl ?_
  refine bv rfl (v_bin rfl rfl b_neq) ?_
  refine b_nil (hK _ (AW.to (to_le (s' := ⟨[(1, HV.str p1), (2, HV.fptr [HV.int .i64 p0.1, HV.int .i64 p0.2.1, slE eFromLabelTo p0.2.2] 0), (6, HV.int .i64 x1), (11, HV.bool (decide (x1 ≠ 0)))], []⟩) (AS.le_of ⟨rfl, rfl, rfl, rfl, trivial⟩ trivial) ?_)))
  clear hK K
  refine AW.cond rfl (fun hc => ?_) (fun hc => ?_)
  · have hc := of_decide_eq_true hc
    have h := ifT hc h
    refine AW.rgs rfl fun K hK => ?_
    refine mv rfl rfl ?_
    refine mv rfl rfl ?_
    refine mv rfl rfl ?_
    refine b_nil (hK _ (AW.to (to_le (s' := ⟨[(4, HV.bool false), (5, HV.int .i64 x1)], []⟩) (AS.le_of ⟨rfl, rfl, trivial⟩ trivial) ?_)))
    clear hK K
    refine AW.ret ?_
    have h := Option.some.inj h
    subst h
    exact ret_pure (hs := [HV.bool false, HV.int .i64 x1]) (q := HV.tup [HV.bool false, HV.int .i64 x1]) (.inr rfl) (resT rfl (resT rfl rfl)) rfl ⟨trivial, trivial, trivial⟩
  · have hc := of_decide_eq_false hc
    have h := ifF hc h
    refine AW.skip ?_
    refine AW.dgs 9 follows rfl rfl fun K hK => ?_
    refine sv rfl (v_loadF ty24 rfl (l_litA rfl (Nat.le_of_ble_eq_true rfl) rfl)) ?_
    refine sv rfl (v_loadF ty24 rfl (l_litA rfl (Nat.le_of_ble_eq_true rfl) rfl)) ?_
    obtain ⟨x3, h4, h⟩ := bS h
    refine s_op rfl rfl (ops_call rfl rfl rfl rfl (ACallD.pure0 (w_language_states h4)) ?_)
    refine sm rfl rfl ?_
    obtain ⟨x5, h6, h⟩ := bS h
    refine s_op rfl rfl (ops_call rfl rfl rfl rfl (ACallD.pure0 (w_language_ends h6)) ?_)
    refine sv rfl (v_lenF rfl rfl ty41 rfl) ?_
    refine sv rfl (v_bin rfl rfl b_gtr) ?_
    refine sm rfl rfl ?_
    refine sm rfl rfl ?_
    refine s_nil ?_
    refine b_nil (hK _ (AW.to (to_le (s' := ⟨[(4, HV.bool (decide (0 < ((x5).length : Int)))), (5, HV.int .i64 0)], []⟩) (AS.le_of ⟨rfl, rfl, trivial⟩ trivial) ?_)))
    clear hK K
    refine AW.ret ?_
    have h := Option.some.inj h
    subst h
    exact ret_pure (hs := [HV.bool (decide (0 < ((x5).length : Int))), HV.int .i64 0]) (q := HV.tup [HV.bool (decide (0 < ((x5).length : Int))), HV.int .i64 0]) (.inr rfl) (resT rfl (resT rfl rfl)) rfl ⟨trivial, trivial, trivial⟩

end Go.AW
