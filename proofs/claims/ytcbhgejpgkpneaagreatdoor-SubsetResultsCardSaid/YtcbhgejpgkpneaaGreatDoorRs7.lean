/- SubsetResults: for every input the law's function returns true, and the input reads as it did. The package-level variables that the row lists start as the program lays them; the card ties that to the text. -/
import Derived.Test.YtcbhgejpgkpneaaGreatDoorRs6
import Derived.ChangeMaps5
import Derived.Handy
import Derived.Lay
import Derived.OpenShut
import Derived.ProofKit
import Derived.SevenTiedAt
import Derived.SliceStrings
import Derived.Test.YtcbhgejpgkpneaaGreatDoorCards
import Derived.Test.YtcbhgejpgkpneaaGreatDoorRows
import Derived.Test.YtcbhgejpgkpneaaGreatDoorTie
import Derived.WalkKit
import Derived.WideKeyArgs
namespace Go.AW
open Go
set_option linter.unusedSimpArgs false
set_option linter.unusedVariables false
section
variable {g : Gr}
theorem be_60 {n k : Nat} (hk : k ≤ 40) (h : n ≤ 2048 * 1024 ^ k) : (be n).length ≤ 1000000000 := by
 have h1 : (1024 : Nat) ^ k ≤ 1024 ^ 40 := Nat.pow_le_pow_right (by decide) hk
 have h2 : 2048 * 1024 ^ k ≤ 2048 * 1024 ^ 40 := Nat.mul_le_mul_left _ h1
 have h3 : (2048 * 1024 ^ 40 : Nat) < 256 ^ 60 := by decide
 have := be_len (n := n) 60 (by omega)
 omega
theorem bz_addR {a b k : Nat} (hk : k ≤ 40) (ha : a ≤ 2048 * 1024 ^ k) (hb : b ≤ 2048 * 1024 ^ k) : m_ref01_Add (bz a) (bz b) = some (bz (a + b)) := add_ref (be_60 hk ha) (be_60 hk hb)
theorem Count_ref {e : Int} (he : m_ref09_Check g = some e) (hz : e = 0 ↔ VG g) {n : Int} (hn : n ≤ 40 ∨ 4096 < n) : m_ref12_Count g n = some (countE g e n) := by
 unfold m_ref12_Count countE
 rw [he, Option.bind_some]
 by_cases h0 : e = 0
 case neg => rw [if_pos h0, if_pos h0]
 rw [if_neg (show ¬ e ≠ 0 from fun h => h h0), if_neg (show ¬ e ≠ 0 from fun h => h h0)]
 simp only [jp]
 by_cases c1 : n < 0
 ·rw [if_pos c1, if_pos trivial, if_pos (.inl c1)]
 rw [if_neg c1]
 by_cases c2 : 4096 < n
 ·rw [if_pos (decide_eq_true c2), if_pos (.inr c2)]
 rw [if_neg (by simpa using c2), if_neg (show ¬ (n < 0 ∨ 4096 < n) from fun h => h.elim c1 c2), Build_ref he hz, Option.bind_some]
 by_cases hb : (buildE g e).2.2 = 0
 case neg => rw [if_pos hb, if_pos trivial, if_pos (.inl hb)]
 rw [if_neg (by simpa using hb)]
 by_cases hs : (buildE g e).1.2.1 = 0
 case pos => rw [if_pos (decide_eq_true hs), if_pos (.inr hs)]
 rw [if_neg (show ¬ decide ((buildE g e).1.2.1 = 0) = true by simpa using hs), if_neg (show ¬ ((buildE g e).2.2 ≠ 0 ∨ (buildE g e).1.2.1 = 0) from fun h => h.elim (fun h => h hb) hs)]
 have hv := hz.1 h0
 have hne : g.2.1 ≠ 0 := fun h => by
  unfold buildE buildG at hs
  rw [if_neg (show ¬ e ≠ 0 from fun h => h h0), if_pos h] at hs
  exact hs rfl
 have hpos : 0 < g.2.1 := by have := hv.s0; omega
 have hbe : buildE g e = buildR g (upto g.2.1) := by
  unfold buildE buildG
  rw [if_neg (show ¬ e ≠ 0 from fun h => h h0), if_neg hne]
 rcases buildR_cases (upto_ok g) (upto_ne hpos) with h | ⟨E, L, hS, hrun, h⟩
 ·rw [hbe, h] at hb; cases hb
 rw [hbe, h]
 dsimp only
 have hL := hS.s1
 have hE := hS.s2
 have hlp := hS.len_pos
 have hg : 0 ≤ (L.length : Int) ∧ (L.length : Int) ≤ (L.length : Int) ∧ (L.length : Int) * 24 ≤ 281474976710656 := by omega
 rw [if_pos hg, show m_ref01_Of 1 = some (bz 1) from of_ref (n := 1) (by decide), Option.bind_some, ix0 (by simp; omega), Option.bind_some]
 simp only [Int.toNat_natCast]
 rw [bz_zero]
 have hn40 : n.toNat ≤ 40 := by omega
 refine bindL (loop_is (fun k => ((crun E L.length k).map bz, (k : Int))) n.toNat ((crun E L.length n.toNat).map bz) (fun k hk => ?_) ?_ ?_) ?_
 ·dsimp only
  rw [if_pos (by omega), if_pos hg]
  have hck := crun_le (n := L.length) hE k
  have hlen := crun_len E L.length k
  refine bindL (loop_is (fun m => ((m : Int), ((E.take m).foldl (addE (crun E L.length k)) (List.replicate L.length 0)).map bz)) E.length ((crun E L.length (k + 1)).map bz) (fun m hm => ?_) ?_ rfl) ?_
  ·dsimp only
   obtain ⟨j, lab, hj, hlab, hnz, hx⟩ := hS.mem.1 (List.getElem_mem hm)
   have hto := hS.to_lt hj hlab hnz
   have e1 : E[m].1 = (j : Int) := by rw [hx]
   have e2 : E[m].2.2 = ((L.idxOf (stepL g (L.getD j []) (lab : Int)) : Nat) : Int) := by rw [hx]
   generalize hto' : L.idxOf (stepL g (L.getD j []) (lab : Int)) = t at hto e2
   have hN : ((E.take m).foldl (addE (crun E L.length k)) (List.replicate L.length 0)).length = L.length := by rw [foldE_len]; simp
   have hB := foldE_le hck (E.take m) (List.replicate L.length 0) 0 (fun y hy => by rw [(List.mem_replicate.1 hy).2]; exact Nat.le_refl _)
   have htk : E.take (m + 1) = E.take m ++ [E[m]] := by rw [List.take_add_one, List.getElem?_eq_getElem hm]; rfl
   rw [if_pos (lt_int hm), ix hm]
   simp only [Option.bind_some]
   rw [e1, e2, bz_at (by omega), bz_at (by omega)]
   simp only [Option.bind_some]
   have hml : (E.take m).length ≤ 1024 := by simp; omega
   have hmul : (E.take m).length * 1024 ^ k ≤ 1024 * 1024 ^ k := Nat.mul_le_mul_right _ hml
   have hb1 := hB _ (List.getElem_mem (show t < _ by omega))
   have hb2 := hck _ (List.getElem_mem (show j < _ by omega))
   rw [bz_addR (k := k) (by omega) (by omega) (by omega)]
   simp only [Option.bind_some, Int.toNat_natCast]
   rw [bz_set, nx (by omega : E.length ≤ _) hm, htk, List.foldl_append]
   simp only [List.foldl_cons, List.foldl_nil]
   congr 4
   rw [show ∀ (c nx : List Nat) (x : Ed), addE c nx x = nx.set x.2.2.toNat (nx.getD x.2.2.toNat 0 + c.getD x.1.toNat 0) from fun _ _ _ => rfl, e1, e2]
   simp only [Int.toNat_natCast]
   congr 1
   rw [getD_lt (show t < _ by omega), getD_lt (show j < _ by omega)]
  ·dsimp only
   rw [if_neg (not_lt_int _), List.take_length]
   rfl
  ·rw [w64 (by omega) (by omega)]
   rfl
 ·dsimp only
  rw [if_neg (by omega)]
 ·show _ = ((cinit L.length).map bz, (0 : Int))
  unfold cinit
  rw [← bz_set]
  rfl
 ·have hcn := crun_le (n := L.length) hE n.toNat
  have hlen := crun_len E L.length n.toNat
  generalize hcc : crun E L.length n.toNat = c at *
  refine bindL (loop_is (fun k => ((k : Int), (bz (csum (c.take k))).1, (bz (csum (c.take k))).2)) c.length (bz (csum c)) (fun k hk => ?_) ?_ (by simp [csum, bz, be0])) rfl
  ·dsimp only
   rw [if_pos (by simp; omega), bz_at hk]
   simp only [Option.bind_some]
   have hs1 : csum (c.take k) ≤ 64 * 1024 ^ n.toNat := by
    have h1 := csum_le (c := c.take k) (M := 1024 ^ n.toNat) fun y hy => hcn y (List.mem_of_mem_take hy)
    have h2 : (c.take k).length ≤ 64 := by simp; omega
    have h3 : (c.take k).length * 1024 ^ n.toNat ≤ 64 * 1024 ^ n.toNat := Nat.mul_le_mul_right _ h2
    omega
   have hb2 := hcn _ (List.getElem_mem hk)
   have := bz_addR (k := n.toNat) hn40 (a := csum (c.take k)) (b := c[k]) (by omega) (by omega)
   rw [show ((bz (csum (c.take k))).1, (bz (csum (c.take k))).2) = bz (csum (c.take k)) from rfl, this]
   simp only [Option.bind_some]
   rw [nx (by omega : c.length ≤ _) hk, show c.take (k + 1) = c.take k ++ [c[k]] by rw [List.take_add_one, List.getElem?_eq_getElem hk]; rfl, csum_snoc]
  ·dsimp only
   rw [if_neg (by simp), List.take_length]
theorem wq_take_pre (E : List Ed) (k : Nat) : wordsQ (E.take k) <+: wordsQ E := by
 have := wordsQ_app (E.take k) (E.drop k)
 rwa [List.take_append_drop] at this
theorem idx_app {α : Type} {A B : List α} {j : Int} (h0 : 0 ≤ j) (h : j < (A.length : Int)) (d : α) : idx (A ++ B) j = some (A.getD j.toNat d) := by
 rw [idx_getD h0 (by rw [List.length_append]; omega) d, getD_app_l (by omega)]
theorem Focus_ref {e : Int} (he : m_ref09_Check g = some e) (hz : e = 0 ↔ VG g) : m_ref12_Focus g = some (focusE g e) := by
 unfold m_ref12_Focus
 rw [Build_ref he hz, Option.bind_some]
 unfold focusE
 simp only [jp]
 by_cases hb : (buildE g e).2.2 = 0
 case neg => rw [if_pos hb, if_pos trivial, if_pos (.inl hb)]
 rw [if_neg (by simpa using hb)]
 by_cases hs : (buildE g e).1.2.1 = 0
 case pos => rw [if_pos (decide_eq_true hs), if_pos (.inr hs)]
 rw [if_neg (show ¬ decide ((buildE g e).1.2.1 = 0) = true by simpa using hs), if_neg (show ¬ ((buildE g e).2.2 ≠ 0 ∨ (buildE g e).1.2.1 = 0) from fun h => h.elim (fun h => h hb) hs)]
 have h0 : e = 0 := by
  apply Classical.byContradiction
  intro h
  unfold buildE at hb
  rw [if_pos h] at hb
  cases hb
 have hv := hz.1 h0
 have hne : g.2.1 ≠ 0 := fun h => by
  unfold buildE buildG at hs
  rw [if_neg (show ¬ e ≠ 0 from fun h => h h0), if_pos h] at hs
  exact hs rfl
 have hpos : 0 < g.2.1 := by have := hv.s0; omega
 have hbe : buildE g e = buildR g (upto g.2.1) := by
  unfold buildE buildG
  rw [if_neg (show ¬ e ≠ 0 from fun h => h h0), if_neg hne]
 rcases buildR_cases (upto_ok g) (upto_ne hpos) with h | ⟨E, L, hS, hrun, h⟩
 ·rw [hbe, h] at hb; cases hb
 have hF := brun_found hv hrun
 rw [hbe, h]
 dsimp only
 have hL := hS.s1
 have hE := hS.s2
 have hlp := hS.len_pos
 have hlenW : (wordsQ E).length = L.length := hF.disc.len
 rw [if_pos (by omega), if_pos (by omega)]
 simp only [Int.toNat_natCast]
 rw [ix0 (by simp; omega), Option.bind_some]
 have hWl : ∀ k, (wordsQ (E.take k)).length ≤ L.length := fun k => by rw [← hlenW]; exact (wq_take_pre E k).length_le
 refine bindL (loop_is (fun k => ((k : Int), wordsQ (E.take k) ++ List.replicate (L.length - (wordsQ (E.take k)).length) ([] : List Int), List.replicate (wordsQ (E.take k)).length true ++ List.replicate (L.length - (wordsQ (E.take k)).length) false)) E.length (wordsQ E) (fun k hk => ?_) ?_ ?_) ?_
 ·dsimp only
  have htk : E.take (k + 1) = E.take k ++ [E[k]] := by rw [List.take_add_one, List.getElem?_eq_getElem hk]; rfl
  have hsp : E = E.take k ++ E[k] :: E.drop (k + 1) := by rw [← List.drop_eq_getElem_cons hk, List.take_append_drop]
  obtain ⟨o1, o2, o3, o4⟩ := hF.disc.ord _ _ _ hsp
  have hWk := hWl k
  have hWk1 := hWl (k + 1)
  have hwpre := wq_take_pre E k
  rw [htk, wordsQ_snoc] at hWk1 ⊢
  generalize hW : wordsQ (E.take k) = W at o2 o4 hWk hWk1 hwpre
  rw [if_pos (lt_int hk), ix hk, Option.bind_some, nx (by omega : E.length ≤ _) hk]
  obtain ⟨m, hm⟩ : ∃ m, L.length = W.length + m := ⟨L.length - W.length, by omega⟩
  by_cases c : E[k].2.2 = (W.length : Int)
  ·have hwf : wfold W E[k] = W ++ [W.getD E[k].1.toNat [] ++ [E[k].2.1]] := by unfold wfold; rw [if_pos c]
   rw [hwf] at hWk1 ⊢
   have hlt : W.length < L.length := by simp at hWk1; omega
   have hfl : W.length < (List.replicate W.length true ++ List.replicate (L.length - W.length) false).length := by simp; omega
   have hll : W.length < (W ++ List.replicate (L.length - W.length) ([] : List Int)).length := by simp; omega
   have hsz := hF.disc.size E[k].1.toNat (by show _ < (wordsQ E).length; omega)
   have hgd : (wordsQ E).getD E[k].1.toNat [] = W.getD E[k].1.toNat [] := pre_getD hwpre (by omega)
   have hsz2 : (W.getD E[k].1.toNat []).length ≤ 64 := by rw [← hgd]; have hsz : ((wordsQ E).getD E[k].1.toNat []).length ≤ E[k].1.toNat := hsz; omega
   have hfg : (List.replicate W.length true ++ List.replicate (L.length - W.length) false)[W.length] = false := by
    rw [List.getElem_append_right (by simp)]
    simp
   rw [c, ix hfl, Option.bind_some, Option.bind_some, hfg, if_pos (by decide), Option.bind_some, idx_app o1 o2 [], Option.bind_some, Option.bind_some, if_pos (fits_le (by simp only [List.length_nil]; omega) (by simp only [List.length_nil]; omega)), if_pos (fits_le (by simp only [List.length_append, List.length_nil, List.length_cons]; omega) (by simp only [List.length_append, List.length_nil, List.length_cons]; omega)), ix hll, Option.bind_some]
   simp only [Int.toNat_natCast, List.nil_append]
   rw [set_next _ _ _ hlt]
   have e3 : (List.replicate W.length true ++ List.replicate (L.length - W.length) false).set W.length true = List.replicate (W ++ [W.getD E[k].1.toNat [] ++ [E[k].2.1]]).length true ++ List.replicate (L.length - (W ++ [W.getD E[k].1.toNat [] ++ [E[k].2.1]]).length) false := by
    have := set_next (List.replicate W.length true) (n := L.length) true false (by simp; omega)
    simp only [List.length_replicate] at this
    rw [this, List.length_append, List.length_singleton, ← List.replicate_succ']
    simp
   rw [e3]
  ·have hwf : wfold W E[k] = W := by unfold wfold; rw [if_neg c]
   have hlt2 : E[k].2.2 < (W.length : Int) := by omega
   rw [hwf, idx_app o3 (by simpa using hlt2) false, Option.bind_some, Option.bind_some]
   have : (List.replicate W.length true).getD E[k].2.2.toNat false = true := by
    rw [List.getD_eq_getElem?_getD, List.getElem?_replicate, if_pos (by omega)]
    rfl
   rw [this, if_neg (by decide)]
 ·dsimp only
  rw [if_neg (not_lt_int _), List.take_length, hlenW, Nat.sub_self, List.replicate_zero, List.append_nil]
 ·show _ = (((0 : Nat) : Int), wordsQ [] ++ _, _)
  obtain ⟨m, hm⟩ : ∃ m, L.length = m + 1 := ⟨L.length - 1, by omega⟩
  rw [hm]
  simp [wordsQ, List.replicate_succ]
 ·refine lpN (fun x => x = match L.findIdx? oneB with
   | none => Ou.go ()
   | some i => Ou.ret ((wordsQ E).getD i [], (L.getD i []).getD 0 0, true, (0 : Int)))
   (loopN L.length (fun i s => s = (i : Int) ∧ ∀ j, j < i → oneB (L.getD j []) = false)
    (fun i s hi hI => ?_) (fun s hI => ?_) 0 _ (Nat.zero_le _) ⟨rfl, fun j hj => by omega⟩) fun x hx => ?_
  ·obtain ⟨rfl, hno⟩ := hI
   have hgd : L.getD i [] = L[i] := by simp [List.getD, hi]
   rw [if_pos (lt_int hi), ix hi]
   simp only [Option.bind_some]
   by_cases h1 : L[i].length = 1
   ·refine .inr ⟨_, ?_, rfl⟩
    have hf : L.findIdx? oneB = some i := List.findIdx?_eq_some_iff_getElem.2 ⟨hi, decide_eq_true h1, fun j hj => by
     have := hno j hj
     rw [show L.getD j [] = L[j]'(by omega) by simp [List.getD, show j < L.length by omega]] at this
     simp [this]⟩
    rw [if_pos (by omega), ix (by omega : i < (wordsQ E).length)]
    simp only [Option.bind_some]
    rw [ix0 (by omega : 0 < L[i].length), hf]
    simp only [Option.bind_some]
    have e1 : (wordsQ E)[i]'(by omega) = (wordsQ E).getD i [] := by simp [List.getD, show i < (wordsQ E).length by omega]
    have e2 : (L.getD i []).getD 0 0 = L[i][0] := by rw [hgd]; simp [List.getD, h1]
    rw [e1, e2]
   ·refine .inl ⟨((i + 1 : Nat) : Int), ?_, rfl, fun j hj => ?_⟩
    ·rw [if_neg (by omega), nx (by omega : L.length ≤ _) hi]
    ·by_cases hji : j = i
     ·subst hji; rw [hgd]; exact decide_eq_false h1
     ·exact hno j (by omega)
  ·obtain ⟨rfl, hno⟩ := hI
   rw [if_neg (not_lt_int _)]
   have hf : L.findIdx? oneB = none := List.findIdx?_eq_none_iff.2 fun x hx => by
    obtain ⟨j, hj, rfl⟩ := List.getElem_of_mem hx
    have := hno j hj
    rwa [show L.getD j [] = L[j] by simp [List.getD, hj]] at this
   rw [hf]
   exact ⟨_, rfl, rfl⟩
  ·rw [hx]
   unfold focusR
   cases hf : L.findIdx? oneB with
   | none => rfl
   | some i => rfl
end
end Go.AW
namespace Go.AW
open Go
set_option linter.unusedSimpArgs false
set_option linter.unusedVariables false
section
variable {g : Gr}
theorem Det_ref {e : Int} (he : m_ref09_Check g = some e) (hz : e = 0 ↔ VG g) : m_ref09_Deterministic g = some (if e ≠ 0 then (false, 1) else (detB g.2.2, 0)) := by
 unfold m_ref09_Deterministic
 rw [he, Option.bind_some]
 by_cases h0 : e = 0
 case neg => rw [if_pos h0, if_pos h0]
 rw [if_neg (show ¬ e ≠ 0 from fun h => h h0), if_neg (show ¬ e ≠ 0 from fun h => h h0)]
 have hel := (hz.1 h0).el
 refine lpL (loop_any (fun i => ((i + 1 : Nat) : Int)) (g.2.2.length - 1) (twinB g.2.2) (Ou.ret (false, 0)) (Ou.go ()) (fun i hi => ?_) (by rw [if_neg (by omega)]) rfl) ?_
 ·have hi1 : i + 1 < g.2.2.length := by omega
  have e3 : IntKind.wrap .i64 (((i + 1 : Nat) : Int) - 1) = (i : Int) := by rw [w64 (by omega) (by omega)]; omega
  simp only [jp]
  rw [if_pos (by omega), e3, ix (by omega : i < g.2.2.length), ix hi1, Option.bind_some, Option.bind_some]
  unfold twinB
  rw [getD_lt (show i < g.2.2.length by omega), getD_lt hi1, nx (by omega : g.2.2.length ≤ _) hi1]
  by_cases c1 : (g.2.2[i]'(by omega)).1 = g.2.2[i + 1].1
  ·rw [if_pos c1.symm]
   by_cases c2 : (g.2.2[i]'(by omega)).2.1 = g.2.2[i + 1].2.1
   ·simp [c1, c2]
   ·have c3 : ¬ g.2.2[i + 1].2.1 = (g.2.2[i]'(by omega)).2.1 := fun h => c2 h.symm
    simp [c1, c2, c3]
  ·rw [if_neg (fun h => c1 h.symm)]
   simp [c1]
 ·unfold detB
  cases (List.range (g.2.2.length - 1)).any (twinB g.2.2) <;> rfl
theorem set_map12 {α : Type} {n : Nat} {F G : Nat → α} {e : Nat} {v : α} (h : ∀ q, q < n → G q = if q = e then v else F q) : ((List.range n).map F).set e v = (List.range n).map G := by
 refine List.ext_getElem (by simp) fun i h1 h2 => ?_
 rw [List.getElem_set]
 simp only [List.getElem_map, List.getElem_range]
 rw [h i (by simpa using h2)]
 by_cases c : e = i
 ·rw [if_pos c, if_pos c.symm]
 ·rw [if_neg c, if_neg (fun h => c h.symm)]
def rowS (s : Nat) (r : List Int) (x : Ed) : List Int := if x.1 = (s : Int) then r.set x.2.1.toNat x.2.2 else r
def rowF (g : Gr) (s k : Nat) : List Int := (g.2.2.take k).foldl (rowS s) (List.replicate g.1.toNat g.2.1)
theorem rowS_len (s : Nat) (r : List Int) (x : Ed) : (rowS s r x).length = r.length := by unfold rowS; split <;> simp
theorem rowF_succ (s : Nat) {k : Nat} (h : k < g.2.2.length) : rowF g s (k + 1) = rowS s (rowF g s k) g.2.2[k] := by
 unfold rowF
 rw [List.take_add_one, List.getElem?_eq_getElem h, List.foldl_append]
 rfl
theorem foldS_len (s : Nat) : ∀ (E : List Ed) (r : List Int), (E.foldl (rowS s) r).length = r.length
 | [], _ => rfl
 | x :: E, r => by rw [List.foldl_cons, foldS_len s E, rowS_len]
theorem rowF_len (s k : Nat) : (rowF g s k).length = g.1.toNat := by unfold rowF; rw [foldS_len]; simp
theorem rows_map (hv : VG g) : ∀ k, k ≤ g.2.2.length → rowsK g k = (List.range g.2.1.toNat).map fun s => rowF g s k
 | 0, _ => by
  unfold rowsK
  simp only [List.take_zero, List.foldl_nil]
  refine List.ext_getElem (by simp) fun i h1 h2 => ?_
  simp [rowF]
 | k + 1, hk => by
  have hk' : k < g.2.2.length := hk
  have hx := hv.ed _ (List.getElem_mem hk')
  rw [rowsK_succ g hk', rows_map hv k (Nat.le_of_lt hk')]
  unfold setR
  refine set_map12 fun q hq => ?_
  rw [rowF_succ q hk']
  have hlt : g.2.2[k].1.toNat < g.2.1.toNat := by omega
  have hgd : ((List.range g.2.1.toNat).map fun s => rowF g s k).getD g.2.2[k].1.toNat [] = rowF g g.2.2[k].1.toNat k := by
   rw [List.getD_eq_getElem?_getD, List.getElem?_eq_getElem (by simpa using hlt)]
   simp
  rw [hgd]
  unfold rowS
  by_cases c : q = g.2.2[k].1.toNat
  ·rw [if_pos (show g.2.2[k].1 = (q : Int) by omega), if_pos c, ← c]
  ·rw [if_neg (show ¬ g.2.2[k].1 = (q : Int) by omega), if_neg c]
theorem fill_loop {n : Nat} (hn : n ≤ 1000000) (v : Int) : loopW (S := Int × List Int) (X := List Int) (fun a => if a.1 < (n : Int) then (idx a.2 a.1).bind fun x17 => some (Stp.next (IntKind.wrap .i64 (a.1 + 1), (a.2).set (a.1).toNat v)) else some (Stp.exit a.2)) (0, List.replicate n (0 : Int)) = some (List.replicate n v) := by
 refine loop_is (fun i => ((i : Int), List.replicate i v ++ List.replicate (n - i) (0 : Int))) n (List.replicate n v) (fun i hi => ?_) ?_ (by simp)
 ·dsimp only
  have := set_next (List.replicate i v) (n := n) v (0 : Int) (by simpa using hi)
  simp only [List.length_replicate, List.length_append, List.length_singleton] at this
  rw [if_pos (lt_int hi), ix (by simp; omega), Option.bind_some, nx (by omega : n ≤ _) hi, Int.toNat_natCast, this, ← List.replicate_succ']
 ·dsimp only
  rw [if_neg (not_lt_int _), Nat.sub_self]
  simp
theorem Complete_ref {e : Int} (he : m_ref09_Check g = some e) (hz : e = 0 ↔ VG g) : ∃ r, m_subset_Complete g = some r ∧ m_ref12_Complete g = some r ∧ r.1.2.length ≤ 1000 ∧ (∀ x ∈ r.1.2, x.length ≤ 1000) ∧ r.2.1.length ≤ 1 := by
  unfold m_subset_Complete m_ref12_Complete
  rw [Det_eq he hz, he, Det_ref he hz]
  simp only [Option.bind_some]
  by_cases h0 : e = 0
  case neg =>
    simp only [if_pos (show e ≠ 0 from h0)]
    exact ⟨_, rfl, rfl, by simp, by simp, by simp⟩
  simp only [if_neg (show ¬ e ≠ 0 from fun h => h h0)]
  have hv := hz.1 h0
  rw [if_neg no0]
  cases hd : detB g.2.2 with
  | false => exact ⟨_, rfl, rfl, by simp, by simp, by simp⟩
  | true =>
    have b1 := hv.l1; have b2 := hv.l2; have b3 := hv.s0; have b4 := hv.s1; have b5 := hv.el
    have hok : cplOk g := ⟨⟨by omega, by omega⟩, ⟨by omega, by omega⟩, by omega, fun x hx => by have := hv.ed x hx; omega⟩
    obtain ⟨q, hq⟩ := Int.eq_ofNat_of_zero_le (show 0 ≤ g.1 by omega)
    obtain ⟨n, hn⟩ := Int.eq_ofNat_of_zero_le b3
    have hrows := rows_map hv g.2.2.length (Nat.le_refl _)
    have ht : ¬ (!true) = true := by decide
    rw [if_neg ht, if_neg ht, if_pos hok]
    have hfill : loopW (S := Int × List Int) (X := List Int) (fun a => if a.1 < g.1 then (idx a.2 a.1).bind fun x17 => some (Stp.next (IntKind.wrap .i64 (a.1 + 1), (a.2).set (a.1).toNat g.2.1)) else some (Stp.exit a.2)) (0, List.replicate (g.1).toNat (0 : Int)) = some (List.replicate g.1.toNat g.2.1) := by
      have := fill_loop (n := q) (by omega) g.2.1
      rw [hq, Int.toNat_natCast]
      exact this
    have hall : (loopW (S := Int × (List (List Int))) (X := (List (List Int))) (fun a7 =>
       if a7.1 < g.2.1 then
        if 0 ≤ (g.1 : Int) ∧ (g.1 : Int) ≤ g.1 ∧ (g.1 : Int) * 8 ≤ 281474976710656 then
         (loopW (S := Int × (List Int)) (X := (List Int)) (fun a13 =>
             if a13.1 < g.1 then
              (idx a13.2 a13.1).bind fun x17 =>
              some (Stp.next (IntKind.wrap .i64 (a13.1 + 1), (a13.2).set (a13.1).toNat g.2.1))
             else
              some (Stp.exit a13.2)) (0, List.replicate (g.1).toNat (0 : Int))).bind fun a19 =>
         (loopW (S := Int × (List Int)) (X := (List Int)) (fun a21 =>
             if a21.1 < ((g.2.2).length : Int) then
              jp (fun (a25 : (List Int)) =>
                some (Stp.next (IntKind.wrap .i64 (a21.1 + 1), a25)))
                fun k27 =>
               (idx g.2.2 a21.1).bind fun x28 =>
               if x28.1 = a7.1 then
                (idx g.2.2 a21.1).bind fun x30 =>
                (idx g.2.2 a21.1).bind fun x32 =>
                (idx a21.2 x30.2.1).bind fun x34 =>
                k27 ((a21.2).set (x30.2.1).toNat x32.2.2)
               else
                k27 a21.2
             else
              some (Stp.exit a21.2)) (0, a19)).bind fun a36 =>
         if fits 24 ((a7.2 : List (List Int)).length + ([a36]).length) then
          some (Stp.next (IntKind.wrap .i64 (a7.1 + 1), a7.2 ++ [a36]))
         else none
        else none
       else
        some (Stp.exit a7.2)) (0, ([] : List (List Int)))) = some ((List.range g.2.1.toNat).map fun s => rowF g s g.2.2.length) := by
      refine loop_is (fun s => ((s : Int), (List.range s).map fun j => rowF g j g.2.2.length)) g.2.1.toNat _ (fun s hs => ?_) ?_ rfl
      · dsimp only
        rw [if_pos (by omega), if_pos (by omega), hfill, Option.bind_some]
        refine bindL (loop_is (fun k => ((k : Int), rowF g s k)) g.2.2.length (rowF g s g.2.2.length) (fun k hk => ?_) ?_ ?_) ?_
        · dsimp only
          have hx := hv.ed _ (List.getElem_mem hk)
          unfold jp
          dsimp only
          rw [if_pos (lt_int hk), ix hk, Option.bind_some, nx (by omega : g.2.2.length ≤ _) hk, rowF_succ s hk]
          unfold rowS
          by_cases c : g.2.2[k].1 = (s : Int)
          · rw [if_pos c, if_pos c, Option.bind_some, Option.bind_some, idx_getD hx.2.2.2.2.1 (by rw [rowF_len]; omega) 0, Option.bind_some]
          · rw [if_neg c, if_neg c]
        · dsimp only
          rw [if_neg (not_lt_int _)]
        · show _ = (((0 : Nat) : Int), rowF g s 0)
          unfold rowF
          simp
        · rw [if_pos (fits_le (by simp; omega) (by simp; omega)), nx (by omega : g.2.1.toNat ≤ _) hs, List.range_succ, List.map_append]
          rfl
      · dsimp only
        rw [if_neg (by omega)]
    rw [hall, Option.bind_some, ← hrows]
    have hw : IntKind.wrap .i64 (g.2.1 * g.1) = g.2.1 * g.1 := by
      have h1 : n * q ≤ 64 * 256 := Nat.mul_le_mul (by omega) (by omega)
      have h2 : g.2.1 * g.1 = ((n * q : Nat) : Int) := by rw [hq, hn]; simp
      rw [h2, w64 (by omega) (by omega)]
    rw [hw]
    obtain ⟨r1, r2, r3⟩ := rows_spec hv hd g.2.2.length (Nat.le_refl _)
    have hr1 : ∀ x ∈ rowsK g g.2.2.length, x.length ≤ 1000 := fun x hx => by
      rw [hrows] at hx
      obtain ⟨s, _, rfl⟩ := List.mem_map.1 hx
      rw [rowF_len]
      omega
    by_cases hf : (g.2.2.length : Int) = g.2.1 * g.1
    · rw [if_pos hf, if_pos hf]
      exact ⟨_, rfl, rfl, by simp only [r1]; omega, hr1, by simp⟩
    · rw [if_neg hf, if_neg hf, if_pos (by omega), hfill, Option.bind_some, if_pos (fits_le (by simp [r1]; omega) (by simp [r1]; omega))]
      refine ⟨_, rfl, rfl, by simp only [List.length_append, r1, List.length_singleton]; omega, fun x hx => ?_, by simp⟩
      rcases List.mem_append.1 hx with h | h
      · exact hr1 x h
      · rw [List.mem_singleton.1 h]
        simp
        omega
theorem focus_len {e : Int} (hz : e = 0 ↔ VG g) : (focusE g e).1.length ≤ 1000000 := by
 unfold focusE
 split
 ·simp
 ·rename_i hc
  have hb : (buildE g e).2.2 = 0 := Classical.not_not.1 fun h => hc (.inl h)
  have hs : ¬ (buildE g e).1.2.1 = 0 := fun h => hc (.inr h)
  have h0 : e = 0 := by
   apply Classical.byContradiction
   intro h
   unfold buildE at hb
   rw [if_pos h] at hb
   cases hb
  have hv := hz.1 h0
  have hne : g.2.1 ≠ 0 := fun h => by
   unfold buildE buildG at hs
   rw [if_neg (show ¬ e ≠ 0 from fun h => h h0), if_pos h] at hs
   exact hs rfl
  have hbe : buildE g e = buildR g (upto g.2.1) := by
   unfold buildE buildG
   rw [if_neg (show ¬ e ≠ 0 from fun h => h h0), if_neg hne]
  rcases buildR_cases (upto_ok g) (upto_ne (by have := hv.s0; omega)) with h | ⟨E, L, hS, hrun, h⟩
  ·rw [hbe, h] at hb; cases hb
  have hF := brun_found hv hrun
  rw [hbe, h]
  unfold focusR
  have hL := hS.s1
  cases hf : L.findIdx? oneB with
  | none => simp
  | some i =>
   have hi : i < L.length := (List.findIdx?_eq_some_iff_getElem.1 hf).1
   have := hF.disc.size i (by rw [hF.disc.len]; exact hi)
   have h2 : ((wordsQ E).getD i []).length ≤ i := this
   show ((wordsQ E).getD i []).length ≤ _
   omega
end
theorem law_results (g : Gr) (n : Int) : m_law12_SubsetResults g n = some true := by
 obtain ⟨b, hb⟩ := great12_tot g
 unfold m_law12_SubsetResults
 simp only [jp]
 rw [hb, Option.bind_some]
 cases b with
 | true => rfl
 | false =>
  rw [if_neg (by decide)]
  have go : ∀ hn : n ≤ 40 ∨ 4096 < n, ((m_subset_Focus g).bind fun x6 => (m_ref12_Focus g).bind fun x8 => (m_subset_Count g n).bind fun x10 => (m_ref12_Count g n).bind fun x13 => (m_subset_Complete g).bind fun x16 => (m_ref12_Complete g).bind fun x19 => (m_ref12_Same x6.1 x8.1).bind fun x25 => if x25 = true then (if x6.2.1 = x8.2.1 then (if (x6.2.2.1 == x8.2.2.1) = true then (if x6.2.2.2 = x8.2.2.2 then (if x10.1 = x13.1 then (if x10.2 = x13.2 then (m_ref12_SameAutomaton x16.1 x19.1).bind fun x27 => if x27 = true then (m_ref12_Same x16.2.1 x19.2.1).bind fun x29 => if x29 = true then (if x16.2.2 = x19.2.2 then (m_law12_awake).bind fun x31 => some x31 else some false) else some false else some false else some false) else some false) else some false) else some false) else some false) else some false) = some true := by
   intro hn
   obtain ⟨e, he, hz⟩ := Check_tot g
   obtain ⟨r, hr1, hr2, l1, l2, l3⟩ := Complete_ref he hz
   have hfl := focus_len (g := g) hz
   rw [Focus_eq he hz, Focus_ref he hz, Count_eq he hz hn, Count_ref he hz hn, hr1, hr2]
   simp only [Option.bind_some]
   rw [Same12_eq (by omega)]
   simp only [Option.bind_some, decide_true, if_true, beq_self_eq_true]
   have hsa : m_ref12_SameAutomaton r.1 r.1 = some true := by
    unfold m_ref12_SameAutomaton jp
    dsimp only
    rw [if_pos rfl, SameSets_eq (by omega) (fun x hx => Nat.le_trans (l2 x hx) (by decide)), Option.bind_some, decide_eq_true rfl]
   rw [hsa, Option.bind_some, if_pos rfl, Same12_eq (by omega), Option.bind_some, if_pos (decide_eq_true rfl)]
   rfl
  by_cases h1 : 40 < n
  ·rw [if_pos h1]
   by_cases h2 : n ≤ 4096
   ·rw [if_pos (decide_eq_true h2)]; rfl
   ·rw [if_neg (by simpa using h2)]
    exact go (.inr (by omega))
  ·rw [if_neg h1, if_neg (by decide)]
   exact go (.inl (by omega))
end Go.AW
namespace Go.AW
open Go Go.ChangeShapes Go.WideShapes Go.ChangeAt Go.RowKit
def Kept (W W' : World) : Prop := W'.os = W.os ∧ W'.output = W.output ∧ W.heap.size ≤ W'.heap.size ∧ ∀ b : Nat, b < W.heap.size → W'.heap[b]? = W.heap[b]?
theorem Kept.frame {W W' : World} (h : Kept W W') (may : MemPlace → Prop) : W.keptBut W' may := by
 refine ⟨h.1, h.2.1, fun i hi => ?_⟩
 rw [h.2.2.2 i hi]
 cases W.heap[i]? with
 | none => rfl
 | some o => cases o with
  | cells c t fr => exact ⟨rfl, rfl, rfl, fun _ _ => rfl⟩
  | map es clock => exact .inr ⟨rfl, rfl⟩
  | _ => rfl
theorem Kept.frozen {W W' : World} (h : Kept W W') (a : Addr) (ha : a.block < W.heap.size) : W'.frozen? a = W.frozen? a := by
 simp only [World.frozen?, h.2.2.2 _ ha]
def Mu.zero : Mu := { nx := 0, loc := fun _ => none, held := fun _ => False }
theorem SR.zero (W : World) : SR W Mu.zero [] :=
 ⟨(fun _ _ _ h => by cases h), (fun _ _ _ h => by cases h), (fun _ _ h => by cases h), (fun _ _ _ _ _ h => by cases h), (fun _ h => h.elim)⟩
theorem calls_of_pure {P : Program} {f : FuncId} {args : List HV} {vs : List Value} {W : World} (hp : Pure P f args (· = .bool true)) (hr : RepL W Mu.zero args vs) (hgl : GlOk W Mu.zero := by exact fun _ h => by cases h) :
  Calls P f vs.toArray W fun e W' => e = .returned (.bool true) ∧ Kept W W' := by
 refine (hp.2 Mu.zero W vs (SR.zero W) hr hgl).mono ?_
 rintro e W' ⟨v, r, H', μ', rfl, ⟨rfl, _, _⟩, hs, hv, E⟩
 have hv' : v = .bool true := hv
 subst hv'
 exact ⟨rfl, E.os, E.output, E.size, fun b hb => E.keep b hb fun ⟨_, _, hl⟩ => by cases hl⟩
theorem post_of_kept {H : Type} {enc : TypeId × Value → H} {P : Program} {f : Func} {s : ChangeSpec} {apart fresh handsOn again : Bool} {W W' : World} {args : Array Value} {v : Value} {ds gs : List (DataW H)} {before pa pv : List MemPlace}
  (hW : DataW.Whole enc P f.params.toList s.vars apart W args.toList ds gs before)
  (hres : ∀ (b : Nat) (sp : Nat → Bool) (hd : Bool), DataW.TrodAll enc P W' b sp hd f.resultTypes.toList (v.resultList f.resultTypes.size) (s.fn H (ds ++ gs)).results [])
  (hargs : ∀ sp : Nat → Bool, (∀ p ∈ before, sp p.block = true) → DataW.TrodAll enc P W' 0 sp true f.params.toList args.toList (s.fn H (ds ++ gs)).args pa)
  (hvars : ∀ sp : Nat → Bool, (∀ p ∈ before, sp p.block = true) → DataW.TrodVars enc P W' sp s.vars (s.fn H (ds ++ gs)).vars pv)
  (hps : before = pa ++ pv) (hk : Kept W W')
  (hok : ∀ (j : Nat) (t : TypeId) (r : Value), f.resultTypes[j]? = some t → (v.resultList f.resultTypes.size)[j]? = some r → Value.okWide P W' .any 0 t r) :
  s.post enc P f apart fresh handsOn again W args v W' := by
 have hold : ∀ p ∈ before, (fun b => decide (b < W.heap.size)) p.block = true := fun p hp => by simpa using hW.lt p hp
 refine ⟨ds, gs, before, [], pa, pv, hW, hres _ _ _, hargs _ hold, hvars _ hold, World.keptBut_mono (fun p hp => ⟨hp, ?_⟩) (hk.frame (· ∈ before)), fun _ => ?_⟩
 ·rw [hps, List.mem_append] at hp
  exact Or.inr hp
 ·have hlt := hW.lt
  obtain ⟨_, _, _, _, _, hz, hn⟩ := hW
  refine ⟨hok, _, _, ([] ++ pa) ++ pv, ⟨[] ++ pa, pv, trodAll_append (hargs _ (fun _ _ => rfl)) (hres _ _ _), hvars _ (fun _ _ => rfl), rfl, ?_, ?_⟩, ?_⟩
  ·intro b off hp
   have hp' : MemPlace.cell b off ∈ before := by rw [hps]; simpa using hp
   rw [hk.frozen _ (hlt _ hp')]
   exact hz b off hp'
  ·intro ha
   have := hn ha
   rw [hps] at this
   simpa using this
  ·intro p hp _
   rw [hps]
   simpa using hp
theorem rowAt_le {p : Program} {fits : TypeId → Bool} {d : Nat} {e : TypeId} {count off n : Nat} (h : rowAt p fits d e count off n = true) : off ≤ count * p.cellsOf e := by
 cases d with
 | zero => simp [rowAt] at h
 | succ d =>
  unfold rowAt at h
  simp only at h
  split at h
  ·cases h
  ·rename_i hs
   have hs' : 0 < p.cellsOf e := Nat.pos_of_ne_zero hs
   have hd := Nat.div_add_mod off (p.cellsOf e)
   rw [Nat.mul_comm] at hd
   simp only [Bool.or_eq_true, Bool.and_eq_true, beq_iff_eq, decide_eq_true_eq] at h
   rcases h with ⟨⟨h0, h1⟩, _⟩ | ⟨h1, _⟩
   ·rw [← hd, h0, Nat.add_zero]
    exact Nat.mul_le_mul_right _ (by omega)
   ·have hm := Nat.mod_lt off hs'
    have : (off / p.cellsOf e + 1) * p.cellsOf e ≤ count * p.cellsOf e := Nat.mul_le_mul_right _ h1
    rw [Nat.add_mul] at this
    omega
theorem liesAt_le {p : Program} {d : Nat} {e u : TypeId} {count off n : Nat} (h : liesAt p d e count off u n = true) : off ≤ count * p.cellsOf e := by
 induction d generalizing u n with
 | zero => simp [liesAt] at h
 | succ d ih =>
  unfold liesAt at h
  rw [Bool.or_eq_true] at h
  rcases h with h | h
  ·exact rowAt_le h
  ·split at h
   ·exact ih h
   ·cases h
theorem has_seg {P : Program} {W : World} {r : Reach} {base : Nat} {a : Addr} {e : TypeId} {cap : Nat} (h : W.has P r base a e cap) {vs : List Value} (hc : ∀ i (hi : i < vs.length), W.cell? (a.add i) = some vs[i]) :
  ∃ b off, a = ⟨b, off, none⟩ ∧ Seg W b off vs := by
 obtain ⟨_, hsp, row, cells, hsh, hl⟩ := h
 obtain ⟨b, off, spot⟩ := a
 dsimp only at hsp hsh hl
 subst hsp
 refine ⟨b, off, rfl, ?_⟩
 unfold World.shape? at hsh
 split at hsh
 ·rename_i cur e' fr hb
  simp only [Option.some.injEq, Prod.mk.injEq] at hsh
  obtain ⟨rfl, rfl⟩ := hsh
  have hoff : off ≤ cur.size := Nat.le_trans (liesAt_le hl) (Nat.div_mul_le_self _ _)
  have hget : ∀ i (hi : i < vs.length), cur.toList[off + i]? = some vs[i] := fun i hi => by
   have := hc i hi
   rw [add_plain] at this
   unfold World.cell? at this
   rw [hb] at this
   simpa using this
  refine ⟨cur, e', fr, cur.toList.take off, cur.toList.drop (off + vs.length), hb, ?_, by simp [hoff]⟩
  have hvs : vs = (cur.toList.drop off).take vs.length := by
   apply List.ext_getElem?
   intro i
   rcases Nat.lt_or_ge i vs.length with hi | hi
   ·rw [List.getElem?_take_of_lt hi, List.getElem?_drop, hget i hi, List.getElem?_eq_getElem hi]
   ·rw [List.getElem?_eq_none hi, List.getElem?_eq_none (by simp; omega)]
  have : vs ++ cur.toList.drop (off + vs.length) = cur.toList.drop off := by
   conv => lhs; arg 1; rw [hvs]
   rw [← List.drop_drop]
   exact List.take_append_drop _ _
  rw [List.append_assoc, this, List.take_append_drop]
 ·cases hsh
theorem nown (b : Nat) : ¬ Mu.zero.owns b := fun h => h.elim (fun ⟨_, _, h⟩ => by cases h) id
theorem open_num {H : Type} {enc : TypeId × Value → H} {P : Program} {W : World} {base : Nat} {t : TypeId} {k : IntKind} {v : Value} {d : DataW H} {ps : List MemPlace} (ht : P.underlying t = some (.int k))
  (hval : Value.okWide P W .any base t v) (h : DataW.Trod enc P W 0 (fun _ => true) true t v d ps) : ∃ n : Int, (Lit.int k n).wf = true ∧ Rep W Mu.zero (.int k n) v := by
 obtain ⟨n, rfl, _, _, hw⟩ := open_int ht hval h
 exact ⟨n, hw, rfl, hw⟩
theorem trodAll_stays {H : Type} {enc : TypeId × Value → H} {P : Program} (hl : laidOutB P = true) {W W' : World} {sp : Nat → Bool} : ∀ {ts : List TypeId} {vs : List Value} {ds : List (DataW H)} {ps : List MemPlace},
  (ts.all fun t => P.readableRec t && decide (t < P.types.size)) = true → DataW.TrodAll enc P W 0 (fun _ => true) true ts vs ds ps → (∀ p ∈ ps, W.sameAt W' p) → (∀ p ∈ ps, sp p.block = true) → DataW.TrodAll enc P W' 0 sp true ts vs ds ps
 | [], vs, ds, ps, _, h, _, _ => by
  obtain ⟨rfl, rfl, rfl⟩ := trodAll_nil h
  exact trodAll_mk0
 | t :: ts, vs, ds, ps, ht, h, h1, h2 => by
  obtain ⟨v, vs', d, ds', p, q, rfl, rfl, rfl, h3, h4⟩ := trodAll_cons h
  simp only [List.all_cons, Bool.and_eq_true, decide_eq_true_eq] at ht
  exact trodAll_cons_mk (WideElems.Trod_stays hl ht.1.1 ht.1.2 h3 (fun x hx => h1 x (List.mem_append_left _ hx)) (fun x hx => h2 x (List.mem_append_left _ hx)))
   (trodAll_stays hl ht.2 h4 (fun x hx => h1 x (List.mem_append_right _ hx)) (fun x hx => h2 x (List.mem_append_right _ hx)))
theorem Kept.same {W W' : World} (h : Kept W W') (p : MemPlace) (hp : p.block < W.heap.size) : W.sameAt W' p := by
 cases p with
 | cell b off =>
  show W'.cell? ⟨b, off, none⟩ = W.cell? ⟨b, off, none⟩
  unfold World.cell?
  rw [h.2.2.2 b hp]
 | map b => exact h.2.2.2 b hp
theorem post_of_true {H : Type} {enc : TypeId × Value → H} {P : Program} {f : Func} {s : ChangeSpec} {apart fresh handsOn again : Bool} {W W' : World} {args : Array Value} {ds gs : List (DataW H)} {before : List MemPlace} {t : TypeId}
  (hl : laidOutB P = true) (hps : (f.params.toList.all fun t => P.readableRec t && decide (t < P.types.size)) = true) (hres : f.resultTypes = #[t]) (ht : P.underlying t = some .bool) (hv : s.vars = [])
  (hW : DataW.Whole enc P f.params.toList s.vars apart W args.toList ds gs before) (hk : Kept W W')
  (h1 : (s.fn H (ds ++ gs)).results = [.lit (.bool true)]) (h2 : (s.fn H (ds ++ gs)).args = ds) (h3 : (s.fn H (ds ++ gs)).vars = []) :
  s.post enc P f apart fresh handsOn again W args (.bool true) W' := by
 have hlt := hW.lt
 have hW' := hW
 obtain ⟨p, q, hA, hV, rfl, _, _⟩ := hW
 rw [hv] at hV
 obtain ⟨rfl, rfl⟩ := trodVars_none hV
 refine post_of_kept (pa := p) (pv := []) hW' (fun _ _ _ => ?_) (fun sp hsp => ?_) (fun _ _ => ?_) (by simp) hk (ok_one hres rfl (okWide_bool_mk ht _))
 ·rw [hres, h1]
  exact trodAll_cons_mk (shut_bool ht _) trodAll_mk0
 ·rw [h2]
  exact trodAll_stays hl hps hA (fun x hx => hk.same x (hlt x (by simpa using hx))) (fun x hx => hsp x (by simpa using hx))
 ·rw [h3, hv]
  rfl
section
variable {H : Type} {enc : TypeId × Value → H} {P : Program} {W : World} {base : Nat}
theorem repL_app {μ : Mu} : ∀ {hs ks : List HV} {vs us : List Value}, RepL W μ hs vs → RepL W μ ks us → RepL W μ (hs ++ ks) (vs ++ us)
 | [], _, _, _, h, h' => by cases h; exact h'
 | _ :: _, _, _, _, ⟨x, xs, rfl, h1, h2⟩, h' => ⟨x, _, rfl, h1, repL_app h2 h'⟩
theorem add_adds (a : Addr) (i j : Nat) : (a.add i).add j = a.add (i + j) := by
 unfold Addr.add
 repeat' split
 all_goals simp_all [Nat.add_assoc]
theorem open_rows {α : Type} (c : EncL α) {fuel : Nat} {t e : TypeId} {cs : List Value} {x : DataW H × List MemPlace} (ht : P.underlying t = some (.slice e)) (hk : P.cellsOf e = c.k) (hone : ∀ x, ones (c.C x))
  (hel : ∀ n cs y, DataW.trod enc P W 0 (fun _ => true) true n e cs = some y → ∃ x : α, RepL W Mu.zero (c.C x) cs)
  (hhas : ∀ a len cap, cs = [.slice (some a) len cap] → W.has P .any base a e cap) (h : DataW.trod enc P W 0 (fun _ => true) true fuel t cs = some x) : ∃ l : List α, RepL W Mu.zero [slE c l] cs := by
 rcases DataW.trod_slice ht h with ⟨rfl, _⟩ | ⟨a, len, cap, elems, rest, n, _, rfl, _, _, hl, hm, hlen, hel', _, _⟩
 ·refine ⟨[], _, _, rfl, ?_, rfl⟩
  show _ ∧ _
  exact ⟨(by rw [c.nil]; exact fun _ h => nomatch h), (by rw [c.nil]; simp), Nat.zero_le _, .inl ⟨rfl, rfl⟩⟩
 ·have each : ∀ i, i < len → ∃ cs' x, W.cells? 0 (a.add (i * c.k)) c.k = some cs' ∧ RepL W Mu.zero (c.C x) cs' := fun i hi => by
   have h1 := hel' i hi
   rw [List.getElem?_eq_getElem (by omega), Option.bind_eq_some_iff, hk] at h1
   obtain ⟨cs', h2, h3⟩ := h1
   obtain ⟨x, hx⟩ := hel _ _ _ h3
   exact ⟨cs', x, h2, hx⟩
  have build : ∀ m, m ≤ len → ∃ (l : List α) (vs : List Value), l.length = m ∧ vs.length = m * c.k ∧ RepL W Mu.zero (c.E l) vs ∧ ∀ i (hi : i < vs.length), W.cell? (a.add i) = some vs[i] := by
   intro m
   induction m with
   | zero => exact fun _ => ⟨[], [], rfl, by simp, by rw [c.nil]; rfl, fun i hi => by simp at hi⟩
   | succ m ih =>
    intro hm
    obtain ⟨l, vs, h1, h2, h3, h4⟩ := ih (by omega)
    obtain ⟨cs', x, h5, h6⟩ := each m (by omega)
    obtain ⟨_, h7, h8⟩ := World.cells?_some h5
    refine ⟨l ++ [x], vs ++ cs', by simp [h1], by rw [List.length_append, h2, h7, Nat.succ_mul], by rw [c.append, c.one]; exact repL_app h3 h6, fun i hi => ?_⟩
    rcases Nat.lt_or_ge i vs.length with hi' | hi'
    ·rw [List.getElem_append_left hi']; exact h4 i hi'
    ·rw [List.getElem_append_right hi']
     rw [List.length_append] at hi
     have := h8 (i - vs.length) (by omega)
     rw [add_adds, h2, show m * c.k + (i - m * c.k) = i by omega] at this
     rw [this, List.getElem?_eq_getElem (by omega)]
     simp only [h2]
  obtain ⟨l, vs, h1, h2, h3, h4⟩ := build len (Nat.le_refl _)
  obtain ⟨b, off, rfl, hseg⟩ := has_seg (hhas _ _ _ rfl) h4
  refine ⟨l, _, _, rfl, ?_, rfl⟩
  show _ ∧ _
  refine ⟨fun d hd => ?_, c.len l, by omega, .inr ⟨b, off, cap, vs, by rw [h1], by omega, nown b, hseg, h3⟩⟩
  rw [c.hE] at hd
  obtain ⟨x, _, hdx⟩ := List.mem_flatMap.1 hd
  exact hone x d hdx
theorem open3 {t : TypeId} {f0 f1 f2 : Field} {fuel : Nat} {cs : List Value} {x : DataW H × List MemPlace} (ht : P.underlying t = some (.struct #[f0, f1, f2])) (o0 : f0.offset = 0) (o1 : f1.offset = 1) (o2 : f2.offset = 2) (c : P.cellsOf t = 3)
  (c0 : P.cellsOf f0.type = 1) (c1 : P.cellsOf f1.type = 1) (c2 : P.cellsOf f2.type = 1) (h : DataW.trod enc P W 0 (fun _ => true) true fuel t cs = some x) :
  ∃ v0 v1 v2 y0 y1 y2 n, cs = [v0, v1, v2] ∧ DataW.trod enc P W 0 (fun _ => true) true n f0.type [v0] = some y0 ∧ DataW.trod enc P W 0 (fun _ => true) true n f1.type [v1] = some y1 ∧ DataW.trod enc P W 0 (fun _ => true) true n f2.type [v2] = some y2 := by
 obtain ⟨xs, n, _, rfl, hl, hlen, hf⟩ := DataW.trod_struct ht h
 rw [c] at hl
 match cs, hl with
 | [v0, v1, v2], _ =>
  match xs, hlen with
  | [y0, y1, y2], _ =>
   refine ⟨v0, v1, v2, y0, y1, y2, n, rfl, ?_, ?_, ?_⟩
   ·have := hf 0 f0 rfl; rw [o0, c0] at this; exact this
   ·have := hf 1 f1 rfl; rw [o1, c1] at this; exact this
   ·have := hf 2 f2 rfl; rw [o2, c2] at this; exact this
theorem rep_i64 {n : Int} {ti : TypeId} {m : Nat} {v : Value} {y : DataW H × List MemPlace} (hti : P.underlying ti = some (.int .i64)) (h : DataW.trod enc P W 0 (fun _ => true) true m ti [v] = some y) : ∃ n : Int, Rep W Mu.zero (.int .i64 n) v := by
 obtain ⟨n, hv, _, hw⟩ := DataW.trod_int hti h
 cases hv
 exact ⟨n, rfl, hw⟩
theorem open_graph {t ti ts te : TypeId} {f0 f1 f2 e0 e1 e2 : Field} {v : Value} {d : DataW H} {ps : List MemPlace} (ht : P.underlying t = some (.struct #[f0, f1, f2])) (o : f0.offset = 0 ∧ f1.offset = 1 ∧ f2.offset = 2) (y : f0.type = ti ∧ f1.type = ti ∧ f2.type = ts)
  (c : P.cellsOf t = 3) (ci : P.cellsOf ti = 1) (cs : P.cellsOf ts = 1) (ct : P.cellTypes P.depth t = some [ti, ti, ts]) (hti : P.underlying ti = some (.int .i64)) (hts : P.underlying ts = some (.slice te))
  (hte : P.underlying te = some (.struct #[e0, e1, e2])) (oe : e0.offset = 0 ∧ e1.offset = 1 ∧ e2.offset = 2) (ye : e0.type = ti ∧ e1.type = ti ∧ e2.type = ti) (ce : P.cellsOf te = 3)
  (hval : Value.okWide P W .any base t v) (h : DataW.Trod enc P W 0 (fun _ => true) true t v d ps) : ∃ g : TLabelsStatesEdges, Rep W Mu.zero (.agg [.int .i64 g.1, .int .i64 g.2.1, slE eFromLabelTo g.2.2]) v := by
 obtain ⟨y0, y1, y2⟩ := y
 obtain ⟨z0, z1, z2⟩ := ye
 simp only [Value.okWide, ht] at hval
 obtain ⟨arr, rfl, _, hrow⟩ := hval
 obtain ⟨fuel, hf⟩ := h
 obtain ⟨v0, v1, v2, a0, a1, a2, n, hcs, h0, h1, h2⟩ := open3 ht o.1 o.2.1 o.2.2 c (by rw [y0]; exact ci) (by rw [y1]; exact ci) (by rw [y2]; exact cs) hf
 have harr : arr = #[v0, v1, v2] := by
  have : arr.toList = [v0, v1, v2] := hcs
  cases arr
  simp_all
 subst harr
 rw [y0] at h0
 rw [y1] at h1
 rw [y2] at h2
 obtain ⟨l, r0⟩ := rep_i64 (n := 0) hti h0
 obtain ⟨s, r1⟩ := rep_i64 (n := 0) hti h1
 obtain ⟨es, _, _, r2, r2', r2''⟩ := open_rows (base := base) eFromLabelTo hts ce (fun x d hd => by
   have hd : d ∈ [HV.int .i64 x.1, HV.int .i64 x.2.1, HV.int .i64 x.2.2] := hd
   simp only [List.mem_cons, List.not_mem_nil, or_false] at hd
   rcases hd with rfl | rfl | rfl <;> rfl) (fun m cs' y hy => by
   obtain ⟨w0, w1, w2, b0, b1, b2, n', rfl, k0, k1, k2⟩ := open3 hte oe.1 oe.2.1 oe.2.2 ce (by rw [z0]; exact ci) (by rw [z1]; exact ci) (by rw [z2]; exact ci) hy
   rw [z0] at k0
   rw [z1] at k1
   rw [z2] at k2
   obtain ⟨p0, q0⟩ := rep_i64 (n := 0) hti k0
   obtain ⟨p1, q1⟩ := rep_i64 (n := 0) hti k1
   obtain ⟨p2, q2⟩ := rep_i64 (n := 0) hti k2
   exact ⟨(p0, p1, p2), _, _, rfl, q0, _, _, rfl, q1, _, _, rfl, q2, rfl⟩) (fun a len cap e => by
   cases e
   obtain ⟨tys, ht1, _, hcell⟩ := hrow
   rw [ct] at ht1
   cases ht1
   obtain ⟨u, hu, hok⟩ := hcell 2 (.slice (some a) len cap) rfl
   cases hu
   simp only [Cell.okWide, hts, Cell.ok] at hok
   exact hok.2.2) h2
 cases r2
 refine ⟨(l, s, es), ?_⟩
 show _ ∧ _
 refine ⟨fun d hd => ?_, _, rfl, _, _, rfl, r0, _, _, rfl, r1, _, _, rfl, r2', rfl⟩
 simp only [List.mem_cons, List.not_mem_nil, or_false] at hd
 rcases hd with rfl | rfl | rfl <;> rfl
end
end Go.AW
namespace Go.AW
open Go Go.ChangeShapes Go.WideShapes Go.ChangeAt Go.RowKit
section
variable {H : Type} {enc : TypeId × Value → H} {P : Program} {W : World} {base : Nat}
end
end Go.AW
namespace Go.AW
open Go Go.ChangeShapes Go.WideShapes Go.ChangeAt Go.RowKit
section
variable {H : Type} {enc : TypeId × Value → H} {P : Program} {W : World} {base : Nat}
end
end Go.AW
namespace Go.AW
open Go Go.ChangeShapes Go.WideShapes Go.ChangeAt Go.RowKit
section
variable {H : Type} {enc : TypeId × Value → H} {P : Program} {W : World} {base : Nat}
end
end Go.AW
namespace Go.Proofs.YtcbhgejpgkpneaaGreatDoor
open Go Go.AW Go.ChangeShapes Go.WideShapes Go.ChangeAt Go.RowKit Go.ChangeMaps
set_option linter.unusedVariables false
theorem ownM : ownKnob Tryz.prog.godebug = none := by kernel_rfl
theorem laidB : laidOutB Tryz.prog = true := by kernel_rfl
theorem wLaw (a0 : TLabelsStatesEdges) (a1 : Int) : Pure Tryz.prog 3 [HV.agg [HV.int .i64 a0.1, HV.int .i64 a0.2.1, slE eFromLabelTo a0.2.2], .int .i64 a1] (· = .bool true) := w_law12_SubsetResults (law_results a0 a1)
set_option maxRecDepth 100000 in
theorem liftedL (os : Os) (started : os.Started) (H : Type) (enc : TypeId × Value → H) :
  ReturnsInHanded {} Tryz.checked os 3 .any (fun w args => (Rows.subsetResultsSpec.pre enc Tryz.prog Tryz.f3 [] false w args ∧ laidMetH Tryz.prog Rows.subsetResultsRow.laid w) ∧ sizedMet enc Tryz.prog Tryz.f3 (OpenSpec.ofChange Rows.subsetResultsSpec) false w args) (Rows.subsetResultsSpec.post enc Tryz.prog Tryz.f3 false true false false) := by
 refine returnsInHanded_of_change_and (C := Tryz.checked) (X := fun w _ => laidMetH Tryz.prog Rows.subsetResultsRow.laid w) (fun _ _ _ hh h => h.of_heap hh) ownM started (by kernel_rfl) Tryz.func3
  (ChangeSpec.witness_shaped (enc := enc) (C := Tryz.checked) (os := os) (X := fun w _ => laidMetH Tryz.prog Rows.subsetResultsRow.laid w) false (World.laidAll Tryz.prog os Rows.subsetResultsRow.laid) #[.agg #[.int .i64 0, .int .i64 0, .slice none 0 0], .int .i64 0] 8 (World.laidAll_os _ _ _)
   (World.shaped_of_ZipB (by kernel_rfl) (by kernel_rfl)) (by kernel_rfl) (by kernel_rfl) (by kernel_rfl)
   (by rw [MakeChecks.laidMetH_plain _ _ _ (by kernel_rfl)]; exact laidMet_laidAll _ (by kernel_rfl) (by kernel_rfl))) ?_
 intro W base args ds gs before hval0 hW hcnd _ _ _
 have hval : ∀ (j : Nat) t v, Tryz.f3.params[j]? = some t → args[j]? = some v → Value.okWide Tryz.prog W .any base t v := hval0
 have hW' := hW
 obtain ⟨p, q, hA0, hV, rfl, hfz, hnd⟩ := hW
 have hA : DataW.TrodAll enc Tryz.prog W 0 (fun _ => true) true Tryz.f3.params.toList args.toList ds p := hA0
 rw [Tryz.params3] at hA hval
 obtain ⟨v0, vs0, d0, ds0, p0, q0, hargs, rfl, rfl, h0, r0⟩ := trodAll_cons hA
 obtain ⟨v1, vs1, d1, ds1, p1, q1, rfl, rfl, rfl, h1, r1⟩ := trodAll_cons r0
 obtain ⟨rfl, rfl, rfl⟩ := trodAll_nil r1
 obtain rfl : args = #[v0, v1] := by cases args; simp_all
 obtain ⟨rfl, rfl⟩ := trodVars_none hV
 obtain ⟨a0, hr0⟩ := open_graph Tryz.underlying24 ⟨rfl, rfl, rfl⟩ ⟨rfl, rfl, rfl⟩ (by kernel_rfl) (by kernel_rfl) (by kernel_rfl) (by kernel_rfl) Tryz.underlying3 Tryz.underlying22 Tryz.underlying49 ⟨rfl, rfl, rfl⟩ ⟨rfl, rfl, rfl⟩ (by kernel_rfl) (hval 0 24 v0 rfl rfl) h0
 obtain ⟨a1, _, hr1⟩ := open_num Tryz.underlying3 (hval 1 3 v1 rfl rfl) h1
 refine (calls_of_pure (vs := [v0, v1]) (wLaw a0 a1) ⟨_, _, rfl, hr0, _, _, rfl, hr1, rfl⟩).mono fun e W' ⟨he, hk⟩ => ?_
 subst he
 exact ⟨_, rfl, post_of_true laidB (by kernel_rfl) rfl Tryz.underlying4 rfl hW' hk rfl rfl rfl⟩
theorem subsetResultsProved : Rows.SubsetResultsSaid :=
 OpenClaim.holds_of_wide 3 Tryz.f3 rfl rfl rfl rfl rfl rfl rfl ⟨rfl, rfl, rfl, rfl, rfl⟩ rfl rfl rfl rfl rfl (by kernel_rfl) Tryz.func3 (by kernel_rfl)
  (of_decide_eq_true (by kernel_rfl)) (by unfold Func.isWrapper; first | (rw [if_pos (by decide +kernel)]; kernel_rfl) | (rw [if_neg (by decide +kernel)]; exact ⟨rfl, rfl⟩))
  (fun os started H enc _ => liftedL os started H enc)
theorem subsetResultsCardProved : Rows.SubsetResultsCardSaid :=
 Claim7.holds_tied_plain_at .later [] [.data, .data, .data] true (true, "74d1dceeb8736d3f7203f235bea05ccdf61779f7f1d55b3677ab7fda03faa997") false subsetResultsProved (fun _ h => by cases h) (by kernel_rfl) (fun _ h => by cases h) subsetResults_row_tie rfl ⟨rfl, rfl⟩ (by kernel_rfl) rfl
  (fun f fn hf hfn => by
   obtain rfl : f = 3 := Option.some.inj ((show Tryz.prog.funcNamed "groove/groovelaw12.SubsetResults" = some 3 by kernel_rfl).symm.trans hf) |>.symm
   obtain rfl : fn = Tryz.f3 := (Option.some.inj (Tryz.func3.symm.trans hfn)).symm
   exact ⟨by kernel_rfl, fun j t ht => by
    rw [Tryz.params3] at ht
    have hm : t ∈ [24, 3] := by simpa using Array.mem_of_getElem? ht
    have hall : ([24, 3].all fun u => !Tryz.prog.wantsStandIn u) = true := by kernel_rfl
    exact (show Tryz.prog.wantsStandIn t = false by simpa using List.all_eq_true.1 hall t hm)⟩)
  (by kernel_rfl)
#print axioms subsetResultsCardProved
end Go.Proofs.YtcbhgejpgkpneaaGreatDoor
