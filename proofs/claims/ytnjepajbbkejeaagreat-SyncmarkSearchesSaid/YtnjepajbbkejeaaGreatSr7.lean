/- SyncmarkSearches: for every input the law's function returns true, and the input reads as it did. -/
import Derived.Test.YtnjepajbbkejeaaGreatSr6
import Derived.ChangeMaps5
import Derived.HandedShaped
import Derived.OpenShut
import Derived.ProofKit
import Derived.SliceStrings
import Derived.Test.YtnjepajbbkejeaaGreatRows
import Derived.WalkKit
import Derived.WideKeyArgs
namespace Go.AW
open Go
set_option linter.unusedVariables false
set_option linter.unusedSimpArgs false
section
variable {g : Gr} {mark : List UInt8}
def encP (m s k f : Nat) : Nat := (s * (m + 1) + k) * 2 + f
def decP (m q : Nat) : TStateReadBadLeft := (((q / 2 / (m + 1) : Nat) : Int), ((q / 2 % (m + 1) : Nat) : Int), decide (q % 2 = 1), 0)
theorem dec_enc {m s k f : Nat} (hk : k ≤ m) (hf : f < 2) : decP m (encP m s k f) = ((s : Int), (k : Int), decide (f = 1), 0) := by
 unfold decP encP
 have h1 : ((s * (m + 1) + k) * 2 + f) / 2 = s * (m + 1) + k := by omega
 have h2 : ((s * (m + 1) + k) * 2 + f) % 2 = f := by omega
 rw [h1, h2, Nat.add_comm (s * (m + 1)) k, Nat.add_mul_div_right _ _ (Nat.succ_pos m), Nat.div_eq_of_lt (by omega), Nat.zero_add, Nat.add_mul_mod_self_right, Nat.mod_eq_of_lt (by omega)]
theorem enc_lt {m s k f S : Nat} (hs : s < S) (hk : k ≤ m) (hf : f < 2) : encP m s k f < S * (m + 1) * 2 := by
 unfold encP
 have : (s + 1) * (m + 1) ≤ S * (m + 1) := Nat.mul_le_mul_right _ hs
 rw [Nat.add_mul, Nat.one_mul] at this
 omega
theorem wS {S m : Nat} (hS : S ≤ 64) (hm : m ≤ 1000) : IntKind.wrap .i64 ((IntKind.wrap .i64 ((S : Int) * (IntKind.wrap .i64 ((m : Int) + 1)))) * 2) = ((S * (m + 1) * 2 : Nat) : Int) := by
 have hb : S * (m + 1) ≤ 64 * (m + 1) := Nat.mul_le_mul_right _ hS
 have e : (S : Int) * ((m : Int) + 1) = ((S * (m + 1) : Nat) : Int) := by rw [Int.natCast_mul]; rfl
 rw [w64 (n := (m : Int) + 1) (by omega) (by omega), e, w64 (n := ((S * (m + 1) : Nat) : Int)) (by omega) (by omega), w64 (by omega) (by omega)]
 omega
theorem wP0 {s m k : Nat} (hs : s ≤ 64) (hm : m ≤ 1000) (hk : k ≤ m) : IntKind.wrap .i64 ((IntKind.wrap .i64 ((IntKind.wrap .i64 ((s : Int) * (IntKind.wrap .i64 ((m : Int) + 1)))) + (k : Int))) * 2) = ((encP m s k 0 : Nat) : Int) := by
 have hb : s * (m + 1) ≤ 64 * (m + 1) := Nat.mul_le_mul_right _ hs
 have e : (s : Int) * ((m : Int) + 1) = ((s * (m + 1) : Nat) : Int) := by rw [Int.natCast_mul]; rfl
 unfold encP
 rw [w64 (n := (m : Int) + 1) (by omega) (by omega), e, w64 (n := ((s * (m + 1) : Nat) : Int)) (by omega) (by omega), w64 (n := ((s * (m + 1) : Nat) : Int) + k) (by omega) (by omega), w64 (by omega) (by omega)]
 omega
theorem wPf {s m k f : Nat} (hs : s ≤ 64) (hm : m ≤ 1000) (hk : k ≤ m) (hf : f < 2) : IntKind.wrap .i64 (((encP m s k 0 : Nat) : Int) + (f : Int)) = ((encP m s k f : Nat) : Int) := by
 have hb : s * (m + 1) ≤ 64 * (m + 1) := Nat.mul_le_mul_right _ hs
 unfold encP
 rw [w64 (by omega) (by omega)]
 omega
theorem canF_left : ∀ (n : Nat) (s r : Int) (b : Bool) (l l' : Int), canF g.2.2 mark n (s, r, b, l) = canF g.2.2 mark n (s, r, b, l')
 | 0, _, _, _, _, _ => rfl
 | n + 1, s, r, b, l, l' => by
  unfold canF
  refine congrArg (fun f => (leav g.2.2 s).any f) (funext fun x => ?_)
  exact canF_left n x.2.2 _ _ _ _
def canQ (g : Gr) (mark : List UInt8) (i : Nat) (q : Nat) : Bool := canF g.2.2 mark i (decP mark.length q)
def sizeQ (g : Gr) (mark : List UInt8) : Nat := g.2.1.toNat * (mark.length + 1) * 2
def canL (g : Gr) (mark : List UInt8) (i : Nat) : List Bool := (List.range (sizeQ g mark)).map (canQ g mark i)
theorem map_set {α : Type} {n : Nat} {F G : Nat → α} {e : Nat} {v : α} (h : ∀ q, q < n → G q = if q = e then v else F q) : ((List.range n).map F).set e v = (List.range n).map G := by
 refine List.ext_getElem (by simp) fun i h1 h2 => ?_
 rw [List.getElem_set]
 simp only [List.getElem_map, List.getElem_range]
 have hi : i < n := by simpa using h2
 rw [h i hi]
 by_cases e1 : e = i
 ·subst e1; rw [if_pos rfl]
 ·rw [if_neg e1, if_neg (fun h => e1 h.symm)]
theorem ixR {α : Type} {n e : Nat} {F : Nat → α} (h : e < n) : idx ((List.range n).map F) (e : Int) = some (F e) := by
 rw [ix (by simpa using h)]
 simp
theorem early_get {k : Nat} (hk : k ≤ mark.length) : idx (earlyT mark) (k : Int) = some (endsG mark mark k) := ixR (by omega)
theorem next_get {k q : Nat} (hk : k ≤ mark.length) : idx (nextT mark q) (k : Int) = some ((List.range q).map fun a => ((foll mark k (letters.getD a 0) : Nat) : Int)) := ixR (by omega)
def hitQ (g : Gr) (mark : List UInt8) (i q : Nat) (x : Ed) : Bool := decide (x.1 = (decP mark.length q).1) && canF g.2.2 mark i (stepF mark (decP mark.length q) x)
def stqL (g : Gr) (mark : List UInt8) (i j r : Nat) : List Bool := (List.range (sizeQ g mark)).map fun q => (g.2.2.take j).any (hitQ g mark i q) || ((g.2.2[j]?).any (hitQ g mark i q) && decide (q % (2 * (mark.length + 1)) < r))
theorem stqL_zero (i : Nat) : List.replicate (sizeQ g mark) false = stqL g mark i 0 0 := by
 refine List.ext_getElem (by simp [stqL]) fun j h1 h2 => ?_
 simp [stqL]
theorem stqL_next (i : Nat) {j : Nat} (hj : j < g.2.2.length) : stqL g mark i j (2 * (mark.length + 1)) = stqL g mark i (j + 1) 0 := by
 unfold stqL
 refine congrArg (fun f => (List.range (sizeQ g mark)).map f) (funext fun q => ?_)
 have h1 : decide (q % (2 * (mark.length + 1)) < 2 * (mark.length + 1)) = true := decide_eq_true (Nat.mod_lt _ (by omega))
 rw [h1, Bool.and_true, List.take_add_one, List.any_append, decide_eq_false (Nat.not_lt_zero _), Bool.and_false, Bool.or_false, List.getElem?_eq_getElem hj]
 simp
theorem stqL_last (i : Nat) : stqL g mark i g.2.2.length 0 = canL g mark (i + 1) := by
 unfold stqL canL
 refine congrArg (fun f => (List.range (sizeQ g mark)).map f) (funext fun q => ?_)
 rw [decide_eq_false (Nat.not_lt_zero _), Bool.and_false, Bool.or_false, List.take_length]
 unfold canQ canF
 unfold leav
 rw [List.any_filter]
 rfl
theorem hit_enc (hv : VG g) (h16 : g.1 ≤ 16) {i k f : Nat} {x : Ed} (hx : x ∈ g.2.2) (hk : k ≤ mark.length) (hf : f < 2) :
  hitQ g mark i (encP mark.length x.1.toNat k f) x = canQ g mark i (encP mark.length x.2.2.toNat (foll mark k (letters.getD x.2.1.toNat 0)) (if foll mark k (letters.getD x.2.1.toNat 0) = mark.length then 1 else f)) := by
 obtain ⟨e1, e2, e3, e4, e5, e6⟩ := hv.ed x hx
 unfold hitQ canQ
 have hfl := foll_le mark k (letters.getD x.2.1.toNat 0)
 rw [dec_enc hk hf, dec_enc hfl (by split <;> omega), decide_eq_true (by show x.1 = ((x.1.toNat : Nat) : Int); omega), Bool.true_and]
 show canF g.2.2 mark i (x.2.2, ((foll mark ((k : Nat) : Int).toNat (letters.getD x.2.1.toNat 0) : Nat) : Int), (decide (f = 1) || decide (foll mark ((k : Nat) : Int).toNat (letters.getD x.2.1.toNat 0) = mark.length)), (0 : Int) - 1) = _
 rw [Int.toNat_natCast, show ((x.2.2.toNat : Nat) : Int) = x.2.2 by omega]
 rw [show (decide (f = 1) || decide (foll mark k (letters.getD x.2.1.toNat 0) = mark.length)) = decide ((if foll mark k (letters.getD x.2.1.toNat 0) = mark.length then 1 else f) = 1) from by
  by_cases h : foll mark k (letters.getD x.2.1.toNat 0) = mark.length
  ·rw [if_pos h, decide_eq_true h, Bool.or_true]; rfl
  ·rw [if_neg h, decide_eq_false h, Bool.or_false]]
 exact canF_left _ _ _ _ _ _
theorem enc_inj {m s k f q : Nat} (hk : k ≤ m) (hf : f < 2) : q = encP m s k f ↔ q / 2 / (m + 1) = s ∧ q % (2 * (m + 1)) = 2 * k + f := by
 have hq : q / 2 / (m + 1) = q / (2 * (m + 1)) := Nat.div_div_eq_div_mul _ _ _
 rw [hq]
 have hd := Nat.div_add_mod q (2 * (m + 1))
 have hE : encP m s k f = 2 * (m + 1) * s + (2 * k + f) := by
  unfold encP
  rw [Nat.add_mul, Nat.mul_comm s (m + 1), Nat.mul_comm ((m + 1) * s) 2, ← Nat.mul_assoc]
  omega
 constructor
 ·rintro rfl
  rw [hE]
  refine ⟨?_, ?_⟩
  ·rw [Nat.mul_add_div (by omega), Nat.div_eq_of_lt (by omega), Nat.add_zero]
  ·rw [Nat.mul_add_mod, Nat.mod_eq_of_lt (by omega)]
 ·rintro ⟨h1, h2⟩
  rw [h1, h2] at hd
  omega
theorem stqL_set (hv : VG g) {i j k f : Nat} (hj : j < g.2.2.length) (hk : k ≤ mark.length) (hf : f < 2) (hh : hitQ g mark i (encP mark.length g.2.2[j].1.toNat k f) g.2.2[j] = true) :
  (stqL g mark i j (2 * k + f)).set (encP mark.length g.2.2[j].1.toNat k f) true = stqL g mark i j (2 * k + (f + 1)) := by
 unfold stqL
 refine map_set fun q hq => ?_
 rw [List.getElem?_eq_getElem hj, Option.any_some]
 by_cases e : q = encP mark.length g.2.2[j].1.toNat k f
 ·rw [if_pos e]
  have h2 := ((enc_inj hk hf).1 e).2
  rw [h2, decide_eq_true (by omega), Bool.and_true, e, hh, Bool.or_true]
 ·rw [if_neg e]
  by_cases hs : hitQ g mark i q g.2.2[j] = true
  ·have hst : q / 2 / (mark.length + 1) = g.2.2[j].1.toNat := by
    unfold hitQ at hs
    have := of_decide_eq_true (Bool.and_eq_true_iff.1 hs).1
    have h3 : g.2.2[j].1 = ((q / 2 / (mark.length + 1) : Nat) : Int) := this
    rw [h3, Int.toNat_natCast]
   have hne : q % (2 * (mark.length + 1)) ≠ 2 * k + f := fun h => e ((enc_inj hk hf).2 ⟨hst, h⟩)
   rw [hs, Bool.true_and, Bool.true_and]
   congr 1
   exact decide_eq_decide.2 (by omega)
  ·rw [Bool.eq_false_iff.2 hs, Bool.false_and, Bool.false_and]
theorem stqL_skip (hv : VG g) {i j k f : Nat} (hj : j < g.2.2.length) (hk : k ≤ mark.length) (hf : f < 2) (hh : hitQ g mark i (encP mark.length g.2.2[j].1.toNat k f) g.2.2[j] = false) :
  stqL g mark i j (2 * k + f) = stqL g mark i j (2 * k + (f + 1)) := by
 unfold stqL
 refine congrArg (fun f => (List.range (sizeQ g mark)).map f) (funext fun q => ?_)
 rw [List.getElem?_eq_getElem hj, Option.any_some]
 by_cases hs : hitQ g mark i q g.2.2[j] = true
 ·have hst : q / 2 / (mark.length + 1) = g.2.2[j].1.toNat := by
   unfold hitQ at hs
   have := of_decide_eq_true (Bool.and_eq_true_iff.1 hs).1
   have h3 : g.2.2[j].1 = ((q / 2 / (mark.length + 1) : Nat) : Int) := this
   rw [h3, Int.toNat_natCast]
  have hne : q % (2 * (mark.length + 1)) ≠ 2 * k + f := fun h => by
   have := (enc_inj hk hf).2 ⟨hst, h⟩
   rw [this, hh] at hs
   cases hs
  rw [hs, Bool.true_and, Bool.true_and]
  congr 1
  exact decide_eq_decide.2 (by omega)
 ·rw [Bool.eq_false_iff.2 hs, Bool.false_and, Bool.false_and]
def iniL (g : Gr) (mark : List UInt8) (e : Nat) : List Bool := (List.range (sizeQ g mark)).map fun q => if q < e then canQ g mark 0 q else false
theorem iniL_set {e : Nat} : (iniL g mark e).set e (canQ g mark 0 e) = iniL g mark (e + 1) := by
 refine map_set fun q _ => ?_
 by_cases h : q = e
 ·subst h; rw [if_pos rfl, if_pos (by omega)]
 ·rw [if_neg h]
  by_cases h2 : q < e
  ·rw [if_pos h2, if_pos (by omega)]
  ·rw [if_neg h2, if_neg (by omega)]
theorem iniL_zero : List.replicate (sizeQ g mark) false = iniL g mark 0 := by
 refine List.ext_getElem (by simp [iniL]) fun j h1 h2 => ?_
 simp [iniL]
theorem iniL_all {e : Nat} (h : sizeQ g mark ≤ e) : iniL g mark e = canL g mark 0 := by
 unfold iniL canL
 refine List.map_congr_left fun q hq => ?_
 rw [List.mem_range] at hq
 rw [if_pos (by omega)]
theorem ini_get {e i : Nat} (h : i < sizeQ g mark) : idx (iniL g mark e) (i : Int) = some (if i < e then canQ g mark 0 i else false) := ixR h
theorem stqL_get {i j r e : Nat} (h : e < sizeQ g mark) : ∃ b, idx (stqL g mark i j r) (e : Int) = some b := ⟨_, ixR h⟩
theorem canL_get {i e : Nat} (h : e < sizeQ g mark) : idx (canL g mark i) (e : Int) = some (canQ g mark i e) := ixR h
theorem big_max : 1000000 ≤ maxLen := by decide
theorem can54_eq (hv : VG g) (h16 : g.1 ≤ 16) (hm1 : mark ≠ []) (hm : mark.length ≤ 1000) {n : Nat} (hn : n ≤ 4096) : m_ref54_can g mark (n : Int) = some ((List.range (n + 1)).map (canL g mark)) := by
 have hl0 := hv.l1
 have hs0 := hv.s0
 have hs1 := hv.s1
 obtain ⟨S, hS⟩ := Int.eq_ofNat_of_zero_le hs0
 obtain ⟨L, hL⟩ := Int.eq_ofNat_of_zero_le (show 0 ≤ g.1 by omega)
 have hSz : sizeQ g mark = S * (mark.length + 1) * 2 := by unfold sizeQ; rw [hS, Int.toNat_natCast]
 have hSb : S * (mark.length + 1) ≤ 64 * (mark.length + 1) := Nat.mul_le_mul_right _ (by omega)
 have hmx := big_max
 unfold m_ref54_can
 rw [hL, tables54_eq hm1 hm (by omega), Option.bind_some, hS, wS (by omega) hm, ← hSz]
 have hsz : ((sizeQ g mark : Nat) : Int) ≤ 200000 := by omega
 rw [if_pos ⟨by omega, Int.le_refl _, by omega⟩, Int.toNat_natCast]
 refine bindL (loop_is (fun s => ((s : Int), iniL g mark (encP mark.length s 0 0))) S (canL g mark 0) (fun s hs => ?_) ?_ ?_) ?_
 ·dsimp only
  rw [if_pos (by omega)]
  refine bindL (loop_is (fun k => ((k : Int), iniL g mark (encP mark.length s k 0))) (mark.length + 1) (iniL g mark (encP mark.length (s + 1) 0 0)) (fun k hk => ?_) ?_ rfl) ?_
  ·dsimp only
   have hk' : k ≤ mark.length := by omega
   have hlt0 : encP mark.length s k 0 < sizeQ g mark := by rw [hSz]; exact enc_lt hs hk' (by omega)
   have hlt1 : encP mark.length s k 1 < sizeQ g mark := by rw [hSz]; exact enc_lt hs hk' (by omega)
   have he1 : encP mark.length s k 0 + 1 = encP mark.length s k 1 := rfl
   have he2 : encP mark.length s k 1 + 1 = encP mark.length s (k + 1) 0 := by unfold encP; omega
   rw [if_pos (by omega), early_get hk', Option.bind_some, wP0 (by omega) hm hk', ini_get hlt0, Option.bind_some, Int.toNat_natCast]
   have hw1 : IntKind.wrap .i64 (((encP mark.length s k 0 : Nat) : Int) + 1) = ((encP mark.length s k 1 : Nat) : Int) := wPf (f := 1) (by omega) hm hk' (by omega)
   have hc0 : endsG mark mark k = canQ g mark 0 (encP mark.length s k 0) := by
    unfold canQ
    rw [dec_enc hk' (by omega)]
    unfold canF endsF
    dsimp only
    rw [Int.toNat_natCast]
    exact (Bool.or_false _).symm
   have hc1 : true = canQ g mark 0 (encP mark.length s k 1) := by
    unfold canQ
    rw [dec_enc hk' (by omega)]
    unfold canF endsF
    exact (Bool.or_true _).symm
   rw [hw1, hc0, iniL_set, he1, ini_get hlt1, Option.bind_some, Int.toNat_natCast, hc1, iniL_set, he2, nx (n := 1001) (by omega) (by omega)]
  ·dsimp only
   rw [if_neg (by omega)]
   rw [show encP mark.length s (mark.length + 1) 0 = encP mark.length (s + 1) 0 0 from by unfold encP; rw [Nat.add_mul s 1, Nat.one_mul]; omega]
  ·rw [nx (n := S) (by omega) hs]
 ·dsimp only
  rw [if_neg (not_lt_int _), iniL_all (by rw [hSz]; unfold encP; omega)]
 ·rw [iniL_zero]
  rw [show encP mark.length 0 0 0 = 0 from by unfold encP; omega]
  rfl
 refine bindL (loop_is (fun i => ((i : Int), (List.range (i + 1)).map (canL g mark))) n ((List.range (n + 1)).map (canL g mark)) (fun i hi => ?_) ?_ rfl) rfl
 ·dsimp only
  rw [if_pos (by omega), if_pos ⟨by omega, Int.le_refl _, by omega⟩]
  refine bindL (loop_is (fun j => ((j : Int), stqL g mark i j 0)) g.2.2.length (canL g mark (i + 1)) (fun j hj => ?_) ?_ ?_) ?_
  ·dsimp only
   have hxm : g.2.2[j] ∈ g.2.2 := List.getElem_mem hj
   obtain ⟨e1, e2, e3, e4, e5, e6⟩ := hv.ed _ hxm
   rw [if_pos (by omega), ix hj, Option.bind_some]
   refine bindL (loop_is (fun k => ((k : Int), stqL g mark i j (2 * k))) (mark.length + 1) (stqL g mark i j (2 * (mark.length + 1))) (fun k hk => ?_) ?_ rfl) ?_
   ·dsimp only
    have hk' : k ≤ mark.length := by omega
    obtain ⟨a, ha⟩ := Int.eq_ofNat_of_zero_le e5
    obtain ⟨s, hs⟩ := Int.eq_ofNat_of_zero_le e1
    obtain ⟨t, ht⟩ := Int.eq_ofNat_of_zero_le e3
    have haL : a < L := by omega
    have hfl := foll_le mark k (letters.getD a 0)
    rw [if_pos (by omega), next_get hk', Option.bind_some, ha, ixR haL, Option.bind_some]
    refine bindL (loop_is (fun f => ((f : Int), stqL g mark i j (2 * k + f))) 2 (stqL g mark i j (2 * k + 2)) (fun f hf => ?_) ?_ rfl) ?_
    ·dsimp only
     have hT : IntKind.wrap .i64 ((IntKind.wrap .i64 ((IntKind.wrap .i64 (g.2.2[j].2.2 * (IntKind.wrap .i64 ((mark.length : Int) + 1)))) + ((foll mark k (letters.getD a 0) : Nat) : Int))) * 2) = ((encP mark.length t (foll mark k (letters.getD a 0)) 0 : Nat) : Int) := by
      rw [ht]; exact wP0 (by omega) hm hfl
     have hFr : IntKind.wrap .i64 ((IntKind.wrap .i64 ((IntKind.wrap .i64 (g.2.2[j].1 * (IntKind.wrap .i64 ((mark.length : Int) + 1)))) + (k : Int))) * 2) = ((encP mark.length s k 0 : Nat) : Int) := by
      rw [hs]; exact wP0 (by omega) hm hk'
     have hi1 : idx ((List.range (i + 1)).map (canL g mark)) (i : Int) = some (canL g mark i) := ixR (by omega)
     have hh := hit_enc (i := i) hv h16 hxm hk' hf
     rw [ht, hs, ha, Int.toNat_natCast, Int.toNat_natCast, Int.toNat_natCast] at hh
     have hltF : encP mark.length s k f < sizeQ g mark := by rw [hSz]; exact enc_lt (by omega) hk' hf
     have hs' : g.2.2[j].1.toNat = s := by rw [hs, Int.toNat_natCast]
     rw [hT, hFr, if_pos (by omega)]
     simp only [jp]
     have key : ∀ h : Nat, h < 2 → h = (if foll mark k (letters.getD a 0) = mark.length then 1 else f) → ((idx ((List.range (i + 1)).map (canL g mark)) (i : Int)).bind fun x55 => (idx ((List.range (i + 1)).map (canL g mark)) (i : Int)).bind fun x57 => (idx x57 (IntKind.wrap .i64 (((encP mark.length t (foll mark k (letters.getD a 0)) 0 : Nat) : Int) + (h : Int)))).bind fun x59 =>
       if x59 = true then (idx (stqL g mark i j (2 * k + f)) (IntKind.wrap .i64 (((encP mark.length s k 0 : Nat) : Int) + (f : Int)))).bind fun x61 => some (Stp.next (X := List Bool) (IntKind.wrap .i64 ((f : Int) + 1), (stqL g mark i j (2 * k + f)).set (IntKind.wrap .i64 (((encP mark.length s k 0 : Nat) : Int) + (f : Int))).toNat true))
       else some (Stp.next (IntKind.wrap .i64 ((f : Int) + 1), stqL g mark i j (2 * k + f)))) = some (Stp.next (((f + 1 : Nat) : Int), stqL g mark i j (2 * k + (f + 1)))) := by
      intro h hh2 hhe
      have hltT : encP mark.length t (foll mark k (letters.getD a 0)) h < sizeQ g mark := by rw [hSz]; exact enc_lt (by omega) hfl hh2
      rw [hi1, Option.bind_some, Option.bind_some, wPf (by omega) hm hfl hh2, wPf (by omega) hm hk' hf, canL_get hltT, Option.bind_some, nx (n := 2) (by omega) hf, Int.toNat_natCast]
      rw [← hhe] at hh
      by_cases hc : canQ g mark i (encP mark.length t (foll mark k (letters.getD a 0)) h) = true
      ·obtain ⟨b, hb⟩ := stqL_get (g := g) (mark := mark) (i := i) (j := j) (r := 2 * k + f) hltF
       rw [if_pos hc, hb, Option.bind_some]
       have := stqL_set (mark := mark) (i := i) hv hj hk' hf (by rw [hs', hh]; exact hc)
       rw [hs'] at this
       rw [this]
      ·rw [if_neg hc]
       rw [stqL_skip hv hj hk' hf (by rw [hs', hh]; exact Bool.eq_false_iff.2 hc)]
     by_cases hfm : foll mark k (letters.getD a 0) = mark.length
     ·rw [if_pos (by rw [hfm])]
      exact key 1 (by omega) (by rw [if_pos hfm])
     ·rw [if_neg (by omega)]
      exact key f hf (by rw [if_neg hfm])
    ·dsimp only
     rw [if_neg (by decide)]
    ·rw [nx (n := 1001) (by omega) (by omega)]
     rfl
   ·dsimp only
    rw [if_neg (by omega)]
   ·rw [nx (n := 1024) (by omega) (by have := hv.el; omega), stqL_next i hj]
  ·dsimp only
   rw [if_neg (not_lt_int _), stqL_last]
  ·rw [stqL_zero i]
   rfl
  ·rw [if_pos ⟨by simp; omega, by simp; omega⟩, nx (n := 4096) (by omega) (by omega), map_range_take _ (i + 1)]
 ·dsimp only
  rw [if_neg (not_lt_int _)]
theorem start_any (hv : VG g) (h16 : g.1 ≤ 16) (n : Nat) : (List.range g.2.1.toNat).any (fun s => canQ g mark n (encP mark.length s mark.length 0)) = decide (badsW g mark n ≠ []) := by
 have hb := badF_eq (mark := mark) hv h16 n
 rw [Bool.eq_iff_iff, decide_eq_true_eq, List.any_eq_true]
 have h2 : badsW g mark n ≠ [] ↔ startF g mark n ≠ [] := by
  unfold badF at hb
  by_cases hs : startF g mark n = []
  ·rw [if_pos hs] at hb
   have := congrArg Prod.snd hb
   have := of_decide_eq_false (show decide (badsW g mark n ≠ []) = false from this.symm)
   exact ⟨fun h => absurd h this, fun h => absurd hs h⟩
  ·rw [if_neg hs] at hb
   have := congrArg Prod.snd hb
   exact ⟨fun _ => hs, fun _ => of_decide_eq_true this.symm⟩
 rw [h2]
 have hq : ∀ s : Nat, canQ g mark n (encP mark.length s mark.length 0) = canP g.2.2 mark ((s : Int), (mark.length : Int), false, (n : Int)) := fun s => by
  unfold canQ canP
  rw [dec_enc (Nat.le_refl _) (by omega)]
  dsimp only
  rw [Int.toNat_natCast]
  exact canF_left _ _ _ _ _ _
 constructor
 ·rintro ⟨s, hs, hc⟩
  rw [List.mem_range] at hs
  rw [hq] at hc
  have : ((s : Int), (mark.length : Int), false, (n : Int)) ∈ startF g mark n := mem_startF.2 ⟨⟨Int.natCast_nonneg _, by dsimp only; omega⟩, rfl, hc⟩
  exact List.ne_nil_of_mem this
 ·intro h
  obtain ⟨p, hp⟩ := List.exists_mem_of_ne_nil _ h
  obtain ⟨⟨p0, p1⟩, p2, p3⟩ := mem_startF.1 hp
  refine ⟨p.1.toNat, List.mem_range.2 (by omega), ?_⟩
  rw [hq, show ((p.1.toNat : Nat) : Int) = p.1 by omega]
  rw [← p2]
  exact p3
theorem rcheck54 (g : Gr) (mark : List UInt8) : m_ref54_check g mark = m_syncmark_check g mark := by
 unfold m_ref54_check m_syncmark_check
 rw [Check_ref, rcheck]
theorem RefValid_eq (h : MOk54 g mark) {n : Nat} (hn : n ≤ 4096) : m_ref54_Valid g mark (n : Int) = some (decide (badsW g mark n = []), 0) := by
 obtain ⟨e, he, hz⟩ := check54_tot g mark
 obtain ⟨hv, h16, hm1, hm2, hm3⟩ := h
 have hs0 := hv.s0
 have hs1 := hv.s1
 obtain ⟨S, hS⟩ := Int.eq_ofNat_of_zero_le hs0
 unfold m_ref54_Valid
 rw [rcheck54, he, Option.bind_some, if_neg (by rw [hz.2 ⟨hv, h16, hm1, hm2, hm3⟩]; decide)]
 simp only [jp]
 rw [if_neg (by omega), if_neg (by rw [decide_eq_true_eq]; omega), can54_eq hv h16 hm1 (by omega) hn, Option.bind_some]
 refine lpL (loop_any (fun s => (s : Int)) S (fun s => canQ g mark n (encP mark.length s mark.length 0)) (.ret (false, 0)) (.go ()) (fun s hs => ?_) ?_ rfl) ?_
 ·have hlt : encP mark.length s mark.length 0 < sizeQ g mark := by unfold sizeQ; rw [hS, Int.toNat_natCast]; exact enc_lt hs (Nat.le_refl _) (by omega)
  rw [if_pos (by omega), ixR (by omega), Option.bind_some, wP0 (by omega) (by omega) (Nat.le_refl _), canL_get hlt, Option.bind_some, nx (n := S) (by omega) hs]
 ·rw [if_neg (by omega)]
 ·have := start_any (mark := mark) hv h16 n
  rw [hS, Int.toNat_natCast] at this
  rw [this]
  by_cases hb : badsW g mark n = []
  ·rw [if_neg (by rw [decide_eq_true_eq]; exact fun h => h hb), decide_eq_true hb]; rfl
  ·rw [if_pos (decide_eq_true hb), decide_eq_false hb]; rfl
end
end Go.AW
namespace Go.AW
open Go
set_option linter.unusedVariables false
set_option linter.unusedSimpArgs false
section
variable {g : Gr} {mark : List UInt8}
end
end Go.AW
namespace Go.AW
open Go
set_option linter.unusedVariables false
set_option linter.unusedSimpArgs false
section
variable {g : Gr} {mark : List UInt8}
end
end Go.AW
namespace Go.AW
open Go
set_option linter.unusedVariables false
set_option linter.unusedSimpArgs false
section
variable {g : Gr} {mark : List UInt8}
end
theorem long54 (mark : List UInt8) : ∃ b, m_law54_long mark = some b ∧ (b = false → mark.length ≤ 35) := by
 unfold m_law54_long
 simp only [jp]
 by_cases h1 : 6 < (mark.length : Int)
 ·rw [if_pos h1]
  by_cases h2 : (mark.length : Int) ≤ 32
  ·rw [if_pos h2]; exact ⟨true, rfl, by simp⟩
  ·rw [if_neg h2]
   exact ⟨_, rfl, fun h => by have := of_decide_eq_false h; omega⟩
 ·rw [if_neg h1]
  exact ⟨_, rfl, fun h => by have := of_decide_eq_false h; omega⟩
end Go.AW
namespace Go.AW
open Go
set_option linter.unusedVariables false
set_option linter.unusedSimpArgs false
section
variable {g : Gr} {mark : List UInt8}
theorem RefDamaged_loop {mark : List UInt8} (h1 : mark.length ≤ 32) {n : Nat} (hn : n ≤ 12) {l : List (List UInt8)} (hl : ∀ u ∈ l, u.length = n) (hm : l.length ≤ 1000000) :
    (loopW (S := Int × Int) (X := Int) (fun a8 =>
          if a8.2 < ((l).length : Int) then
           (idx l a8.2).bind fun x12 =>
           if mark.length + x12.length ≤ maxLen then
            if (mark ++ x12).length + mark.length ≤ maxLen then
             (loopW (S := Int × Int) (X := Int) (fun a16 =>
                 if (IntKind.wrap .i64 (a16.2 + ((mark).length : Int))) < (((mark ++ x12) ++ mark).length : Int) then
                  jp (fun (a20 : Int) =>
                    some (Stp.next (a20, IntKind.wrap .i64 (a16.2 + 1))))
                    fun k22 =>
                   (loopW (S := Int × Int) (X := Int) (fun a23 =>
                       if a23.2 < ((mark).length : Int) then
                        jp (fun (a27 : Int) =>
                          some (Stp.next (a27, IntKind.wrap .i64 (a23.2 + 1))))
                          fun k29 =>
                         (idx ((mark ++ x12) ++ mark) (IntKind.wrap .i64 (a16.2 + a23.2))).bind fun x30 =>
                         (idx mark a23.2).bind fun x32 =>
                         if (x30.toNat : Int) ≠ (x32.toNat : Int) then
                          k29 (IntKind.wrap .i64 (a23.1 + 1))
                         else
                          k29 a23.1
                       else
                        some (Stp.exit a23.1)) (0, 0)).bind fun a34 =>
                   jp (fun (a36 : Bool) =>
                     if a36 = true then
                      k22 a34
                     else
                      k22 a16.1)
                     fun k38 =>
                    if a16.1 < 0 then
                     k38 true
                    else
                     k38 (decide (a34 < a16.1))
                 else
                  some (Stp.exit a16.1)) (a8.1, 1)).bind fun a40 =>
             some (Stp.next (a40, IntKind.wrap .i64 (a8.2 + 1)))
            else none
           else none
          else
           some (Stp.exit a8.1)) ((-1), 0)) = some (minD (dists mark n l)) := by
  have hmx := maxB
  refine loop_is (fun i => (minD (dists mark n (l.take i)), (i : Int))) l.length _ (fun i hi => ?_) ?_ rfl
  · dsimp only
    have hu := hl _ (List.getElem_mem hi)
    rw [if_pos (lt_int hi), ix hi, Option.bind_some, if_pos (by omega), if_pos (by rw [List.length_append]; omega)]
    generalize hU : l[i] = u at hu
    have hW : (mark ++ u ++ mark).length = mark.length + n + mark.length := by rw [List.length_append, List.length_append, hu]
    refine bindL (loop_is (fun a => (minD (dists mark n (l.take i) ++ (List.range a).map (fun a => ((hamW mark (mark ++ u ++ mark) (a + 1) : Nat) : Int))), ((a + 1 : Nat) : Int))) (n + mark.length - 1) (minD (dists mark n (l.take (i + 1)))) (fun a ha => ?_) ?_ (by simp)) ?_
    · have hwn : IntKind.wrap .i64 (((a + 1 : Nat) : Int) + (mark.length : Int)) = ((a + 1 + mark.length : Nat) : Int) := by rw [w64 (by omega) (by omega)]; omega
      unfold jp
      dsimp only
      rw [hwn, if_pos (by omega)]
      refine bindL (loop_is (fun j => (((hamC mark (mark ++ u ++ mark) (a + 1) j : Nat) : Int), (j : Int))) mark.length ((hamW mark (mark ++ u ++ mark) (a + 1) : Nat) : Int) (fun j hj => ?_) ?_ rfl) ?_
      · dsimp only
        have hle := hamC_le mark (mark ++ u ++ mark) (a + 1) j
        have hlt : a + 1 + j < (mark ++ u ++ mark).length := by omega
        have hw1 : IntKind.wrap .i64 (((a + 1 : Nat) : Int) + (j : Int)) = ((a + 1 + j : Nat) : Int) := by rw [w64 (by omega) (by omega)]; omega
        rw [if_pos (lt_int hj), hw1, ix hlt, Option.bind_some, ix hj, Option.bind_some, nx (n := mark.length) (i := j) (by omega) hj, hamC_succ]
        have e1 : (mark ++ u ++ mark).getD (a + 1 + j) 0 = (mark ++ u ++ mark)[a + 1 + j] := by rw [List.getD_eq_getElem?_getD, List.getElem?_eq_getElem hlt]; rfl
        have e2 : mark.getD j 0 = mark[j] := by rw [List.getD_eq_getElem?_getD, List.getElem?_eq_getElem hj]; rfl
        rw [e1, e2]
        by_cases hne : (mark ++ u ++ mark)[a + 1 + j] = mark[j]
        · rw [if_neg (fun h => h (by rw [hne])), if_neg (fun h => h hne)]
          rfl
        · rw [if_pos (fun h => hne (UInt8.toNat_inj.1 (by omega))), if_pos hne, nx (n := 1000) (by omega) (by omega)]
      · dsimp only
        rw [if_neg (not_lt_int _)]
        rfl
      · rw [nx (n := 1000) (by omega) (by omega), List.range_succ, List.map_append, ← List.append_assoc]
        have hstep : minD ((dists mark n (l.take i) ++ (List.range a).map (fun a => ((hamW mark (mark ++ u ++ mark) (a + 1) : Nat) : Int))) ++ [((hamW mark (mark ++ u ++ mark) (a + 1) : Nat) : Int)]) = updD (minD (dists mark n (l.take i) ++ (List.range a).map (fun a => ((hamW mark (mark ++ u ++ mark) (a + 1) : Nat) : Int)))) ((hamW mark (mark ++ u ++ mark) (a + 1) : Nat) : Int) := by
          unfold minD
          rw [List.foldl_append]
          rfl
        rw [show List.map (fun a => ((hamW mark (mark ++ u ++ mark) (a + 1) : Nat) : Int)) [a] = [((hamW mark (mark ++ u ++ mark) (a + 1) : Nat) : Int)] from rfl, hstep]
        generalize minD (dists mark n (l.take i) ++ (List.range a).map (fun a => ((hamW mark (mark ++ u ++ mark) (a + 1) : Nat) : Int))) = z
        unfold updD
        by_cases h0 : z < 0
        · rw [if_pos h0, if_pos rfl, if_pos (.inl h0)]
        · rw [if_neg h0]
          by_cases h2 : ((hamW mark (mark ++ u ++ mark) (a + 1) : Nat) : Int) < z
          · rw [if_pos (decide_eq_true h2), if_pos (.inr h2)]
          · rw [if_neg (by rw [decide_eq_true_eq]; exact h2), if_neg (by omega)]
    · dsimp only
      rw [w64 (by omega) (by omega), if_neg (by omega)]
      have : dists mark n (l.take (i + 1)) = dists mark n (l.take i) ++ (List.range (n + mark.length - 1)).map (fun a => ((hamW mark (mark ++ u ++ mark) (a + 1) : Nat) : Int)) := by
        unfold dists
        rw [flatMap_take _ hi, hU]
      rw [this]
    · rw [nx (n := l.length) (by omega) hi]
  · dsimp only
    rw [if_neg (not_lt_int _), List.take_length]
theorem Damaged_both (g : Gr) (mark : List UInt8) (n : Int) (h3 : VG g → g.1 ≤ 16 → g.1 ≤ 3) (hn : n ≤ 5 ∨ 12 < n) : ∃ r, m_syncmark_Damaged g mark n = some r ∧ m_ref54_Damaged g mark n = some r := by
 obtain ⟨e, he, hz⟩ := check54_tot g mark
 have hr := rcheck54 g mark
 by_cases h0 : e = 0
 case neg =>
  refine ⟨(0, e), ?_, ?_⟩
  ·unfold m_syncmark_Damaged
   rw [he, Option.bind_some, if_pos h0]
  ·unfold m_ref54_Damaged
   rw [hr, he, Option.bind_some, if_pos h0]
 have hM := hz.1 h0
 by_cases hneg : n < 0 ∨ 12 < n
 ·refine ⟨(0, 2), ?_, ?_⟩
  ·unfold m_syncmark_Damaged jp
   dsimp only
   rw [he, Option.bind_some, if_neg (by omega)]
   by_cases h1 : n < 0
   ·rw [if_pos h1, if_pos rfl]
   ·rw [if_neg h1, if_pos (decide_eq_true (by omega))]
  ·unfold m_ref54_Damaged jp
   dsimp only
   rw [hr, he, Option.bind_some, if_neg (by omega)]
   by_cases h1 : n < 0
   ·rw [if_pos h1, if_pos rfl]
   ·rw [if_neg h1, if_pos (decide_eq_true (by omega))]
 ·obtain ⟨k, rfl⟩ := Int.eq_ofNat_of_zero_le (show 0 ≤ n by omega)
  have hk : k ≤ 6 := by omega
  have hv := hM.1
  have hg3 := h3 hv hM.2.1
  have hW := Words54 hv hg3 hk
  have hwl := words_len hv hg3 hk
  obtain ⟨r, hr1, hr2, _⟩ := Words_both g (k : Int)
  rw [hW] at hr1
  cases Option.some.inj hr1
  refine ⟨_, Damaged_eq hM (by omega) hW words_length (by omega), ?_⟩
  unfold m_ref54_Damaged
  rw [hr, he, Option.bind_some, if_neg (by omega)]
  have hL := RefDamaged_loop (mark := mark) hM.2.2.2.1 (n := k) (by omega) (words_length (g := g) (k := k)) (by omega)
  unfold jp at hL ⊢
  dsimp only at hL ⊢
  rw [if_neg (by omega), if_neg (by rw [decide_eq_true_eq]; omega), hr2, Option.bind_some, if_neg (by simp), hL, Option.bind_some]
  have := minD_nil (l := dists mark k ((allW (lets g) k).filter (accB g))) dists_nn
  by_cases h0 : dists mark k ((allW (lets g) k).filter (accB g)) = []
  ·rw [if_pos (this.2 h0), if_pos h0]
  ·rw [if_neg (fun h' => h0 (this.1 h')), if_neg h0]
theorem find_pre {q : Nat} {p : List UInt8 → Bool} {least most m : Nat} (h1 : least ≤ m) (h2 : m ≤ most) (hno : ∀ m', least ≤ m' → m' < m → ∀ w ∈ allW (letters.take q) m', p w = false) {pre rest : List (List UInt8)} {w : List UInt8} (he : allW (letters.take q) m = pre ++ w :: rest) (hpre : ∀ v ∈ pre, p v = false) (hp : p w = true) : (marksL q least most).find? p = some w := by
 refine find_at (j := m - least) (i := pre.length) (by omega) (fun j' hj' => hno _ (by omega) (by omega)) ?_ (fun i' hi' v hv => ?_) hp
 ·rw [show least + (m - least) = m by omega, he, List.getElem?_append_right (Nat.le_refl _), Nat.sub_self]
  rfl
 ·rw [show least + (m - least) = m by omega, he, List.getElem?_append_left hi'] at hv
  exact hpre v (List.mem_of_getElem? hv)
theorem letter_at {a : Nat} (h : a < 16) : ((letters.take (a + 1)).drop a) = [letters.getD a 0] := by
 have : ∀ b : Fin 16, ((letters.take (b.1 + 1)).drop b.1) = [letters.getD b.1 0] := by decide
 exact this ⟨a, h⟩
theorem RefSearch_range (hv : VG g) (h16 : g.1 ≤ 16) {n least most : Int} (h : n < 0 ∨ 4096 < n ∨ least < 1 ∨ most < least) : m_ref54_Search g n least most = some ([], 2) := by
 obtain ⟨e, he, hz⟩ := Check_tot g
 have h0 := hz.2 hv
 unfold m_ref54_Search
 rw [he, Option.bind_some, if_neg (by omega), if_neg (by omega)]
 unfold jp
 dsimp only
 by_cases a1 : n < 0
 ·rw [if_pos a1, if_pos rfl]
 rw [if_neg a1]
 by_cases a2 : 4096 < n
 ·rw [if_pos a2, if_pos rfl]
 rw [if_neg a2]
 by_cases a3 : least < 1
 ·rw [if_pos a3, if_pos rfl]
 rw [if_neg a3, if_pos (decide_eq_true (by omega))]
theorem lets_getD (hv : VG g) (h16 : g.1 ≤ 16) {a : Nat} (ha : a < (lets g).length) : (lets g)[a] = letters.getD a 0 := by
 have h1 := lets_len hv h16
 have hl : a < letters.length := by rw [letters_len]; omega
 have hs : (lets g)[a]? = some letters[a] := by
  unfold lets
  rw [List.getElem?_take, if_pos (by omega), List.getElem?_eq_getElem hl]
 rw [List.getElem?_eq_getElem ha] at hs
 rw [Option.some.inj hs, List.getD_eq_getElem?_getD, List.getElem?_eq_getElem hl]
 rfl
theorem lp_cases {V R Y : Type} {o : Option (Ou V R)} {M : V → Option Y} {Rt : R → Option Y} {C : Option Y → Prop} (Q : Ou V R → Prop) (h : ∃ x, o = some x ∧ Q x) (k : ∀ x, Q x → C (lpO (some x) M Rt)) : C (lpO o M Rt) := by
 obtain ⟨x, rfl, hq⟩ := h
 exact k x hq
theorem RefSearch_eq (hv : VG g) (h3 : g.1 ≤ 3) {k least most : Nat} (hk : k ≤ 4096) (h1 : 1 ≤ least) (h2 : least ≤ most) (hm4 : most ≤ 4) : m_ref54_Search g (k : Int) (least : Int) (most : Int) = some (firstV g k (marksL g.1.toNat least most)) := by
 obtain ⟨e, he, hz⟩ := Check_tot g
 have h0 := hz.2 hv
 have hl1 := hv.l1
 have hmx := maxB
 have hll := lets_len hv (show g.1 ≤ 16 by omega)
 have hgL : (g.1.toNat : Int) = g.1 := by omega
 have hpw : ∀ n : Nat, n ≤ 4 → (allW (lets g) n).length ≤ 4096 := fun n hn => by
  rw [allW_len, hll]
  exact pow_small (by omega) (by omega)
 unfold m_ref54_Search
 rw [he, Option.bind_some, if_neg (by omega), if_neg (by omega)]
 unfold jp
 dsimp only
 rw [if_neg (by omega), if_neg (by omega), if_neg (by omega), if_neg (by rw [decide_eq_true_eq]; omega), if_neg (by omega)]
 refine lpL (loop_is (fun i => (((g.1.toNat ^ i : Nat) : Int), (i : Int))) most (.go ()) (fun i hi => ?_) ?_ rfl) ?_
 ·dsimp only
  have hp : g.1.toNat ^ (i + 1) ≤ 4096 := pow_small (by omega) (by omega)
  have e : ((g.1.toNat ^ i : Nat) : Int) * g.1 = ((g.1.toNat ^ (i + 1) : Nat) : Int) := by rw [Nat.pow_succ, Int.natCast_mul, hgL]
  rw [if_pos (by omega), e, w64 (by omega) (by omega), if_neg (by omega), nx (n := 16) (by omega) (by omega)]
 ·dsimp only
  rw [if_neg (not_lt_int _)]
 ·refine lpGo11 ?_
  generalize hR : firstV g k (marksL g.1.toNat least most) = R
  have hfound : ∀ (j i a : Nat) (hi : i < (allW (lets g) j).length) (ha : a < (lets g).length), j < most → least ≤ j + 1 → (∀ m', least ≤ m' → m' ≤ j → ∀ w ∈ allW (lets g) m', validB g k w = false) → (∀ v ∈ nextW g j i a, validB g k v = false) → validB g k ((allW (lets g) j)[i] ++ [letters.getD a 0]) = true → R = ((allW (lets g) j)[i] ++ [letters.getD a 0], 0) := by
   intro j i a hi ha hjm hle hno hpre hV
   obtain ⟨rest, hrest⟩ := nextW_pre hi ha
   rw [lets_getD hv (by omega) ha, show (allW (lets g) j).getD i [] = (allW (lets g) j)[i] by simp [List.getD, hi]] at hrest
   have hf := find_pre (q := g.1.toNat) (p := validB g k) (least := least) (most := most) (m := j + 1) hle (by omega) (fun m' a1 a2 => hno m' a1 (by omega)) hrest hpre hV
   rw [← hR]
   unfold firstV
   rw [hf]
  refine lp_cases (C := fun o => o = some R) (fun x => x = Ou.ret R ∨ (x = Ou.go () ∧ ∀ m', least ≤ m' → m' ≤ most → ∀ w ∈ allW (lets g) m', validB g k w = false)) (loopN most (fun j s => s = (allW (lets g) j, ((j + 1 : Nat) : Int)) ∧ ∀ m', least ≤ m' → m' ≤ j → ∀ w ∈ allW (lets g) m', validB g k w = false) (fun j s hj ⟨hs, hno⟩ => ?_) (fun s ⟨hs, hno⟩ => ?_) 0 _ (Nat.zero_le _) ⟨rfl, fun m' a1 a2 => by omega⟩) (fun x hx => ?_)
  ·subst hs
   dsimp only
   rw [if_pos (by omega)]
   have hlj := hpw j (by omega)
   refine lp_cases (C := fun o => (∃ s', o = some (Stp.next s') ∧ s' = (allW (lets g) (j + 1), ((j + 1 + 1 : Nat) : Int)) ∧ ∀ m', least ≤ m' → m' ≤ j + 1 → ∀ w ∈ allW (lets g) m', validB g k w = false) ∨ ∃ x, o = some (Stp.exit x) ∧ (x = Ou.ret R ∨ (x = Ou.go () ∧ ∀ m', least ≤ m' → m' ≤ most → ∀ w ∈ allW (lets g) m', validB g k w = false))) (fun y => y = Ou.ret R ∨ (y = Ou.go (allW (lets g) (j + 1)) ∧ (least ≤ j + 1 → ∀ w ∈ allW (lets g) (j + 1), validB g k w = false))) (loopN (allW (lets g) j).length (fun i s => s = ((i : Int), nextW g j i 0) ∧ (least ≤ j + 1 → ∀ w ∈ nextW g j i 0, validB g k w = false)) (fun i s hi ⟨hs, hno2⟩ => ?_) (fun s ⟨hs, hno2⟩ => ?_) 0 _ (Nat.zero_le _) ⟨by rw [nextW_zero]; rfl, fun _ w h => by rw [nextW_zero] at h; cases h⟩) (fun y hy => ?_)
   ·subst hs
    dsimp only
    rw [if_pos (lt_int hi)]
    refine lp_cases (C := fun o => (∃ s', o = some (Stp.next s') ∧ s' = (((i + 1 : Nat) : Int), nextW g j (i + 1) 0) ∧ (least ≤ j + 1 → ∀ w ∈ nextW g j (i + 1) 0, validB g k w = false)) ∨ ∃ x, o = some (Stp.exit x) ∧ (x = Ou.ret R ∨ (x = Ou.go (allW (lets g) (j + 1)) ∧ (least ≤ j + 1 → ∀ w ∈ allW (lets g) (j + 1), validB g k w = false)))) (fun y => y = Ou.ret R ∨ (y = Ou.go (nextW g j (i + 1) 0) ∧ (least ≤ j + 1 → ∀ w ∈ nextW g j (i + 1) 0, validB g k w = false))) (loopN (lets g).length (fun a s => s = ((a : Int), nextW g j i a) ∧ (least ≤ j + 1 → ∀ w ∈ nextW g j i a, validB g k w = false)) (fun a s ha ⟨hs, hno3⟩ => ?_) (fun s ⟨hs, hno3⟩ => ?_) 0 _ (Nat.zero_le _) ⟨rfl, hno2⟩) (fun z hz => ?_)
    ·subst hs
     dsimp only
     have hwm := (mem_allW.1 (List.getElem_mem hi)).1
     have hwm2 := (mem_allW.1 (List.getElem_mem hi)).2
     have hnl := nextW_len (g := g) (i := j) (a := i) (b := a) (by omega) (by omega)
     have hla : ((([48, 49, 50, 51, 52, 53, 54, 55, 56, 57, 97, 98, 99, 100, 101, 102] : List UInt8).take (((a + 1 : Nat) : Int)).toNat).drop ((a : Int)).toNat) = [letters.getD a 0] := letter_at (by omega)
     have hnb := nextW_b (g := g) (i := j) (a := i) (b := a) ha
     rw [lets_getD hv (by omega) ha, show (allW (lets g) j).getD i [] = (allW (lets g) j)[i] by simp [List.getD, hi]] at hnb
     have hco : ∀ c ∈ (allW (lets g) j)[i] ++ [letters.getD a 0], c ∈ letters.take g.1.toNat := fun c hc => by
      rcases List.mem_append.1 hc with hc | hc
      ·exact hwm2 c hc
      ·rw [List.mem_singleton] at hc
       subst hc
       rw [← lets_getD hv (by omega) ha]
       exact List.getElem_mem ha
     rw [if_pos (by omega), ix hi, Option.bind_some, nx (n := 16) (by omega) (by omega), if_pos ⟨by omega, by omega, by show ((a + 1 : Nat) : Int) ≤ 16; omega⟩, hla, if_pos (by simp; omega), if_pos ⟨by simp; omega, by simp; omega⟩]
     by_cases hls : ((j + 1 : Nat) : Int) < (least : Int)
     ·rw [if_pos hls]
      exact .inl ⟨_, rfl, by rw [hnb], fun h => by omega⟩
     ·rw [if_neg hls, RefValid_eq (mark_ok hv (by omega) (by rw [List.length_append, List.length_singleton]; omega) (by rw [List.length_append, List.length_singleton]; omega) hco) hk, Option.bind_some]
      dsimp only
      by_cases hV : badsW g ((allW (lets g) j)[i] ++ [letters.getD a 0]) k = []
      ·rw [if_pos (decide_eq_true hV)]
       right
       refine ⟨_, rfl, .inl ?_⟩
       rw [hfound j i a hi ha hj (by omega) hno (hno3 (by omega)) (decide_eq_true hV)]
      ·rw [if_neg (by rw [decide_eq_true_eq]; exact hV)]
       refine .inl ⟨_, rfl, by rw [hnb], fun h w hw => ?_⟩
       rw [hnb] at hw
       rcases List.mem_append.1 hw with hw | hw
       ·exact hno3 h w hw
       ·rw [List.mem_singleton] at hw
        subst hw
        exact decide_eq_false hV
    ·subst hs
     dsimp only
     rw [if_neg (by omega)]
     exact ⟨_, rfl, .inr ⟨by rw [nextW_a hi], by rw [← nextW_a hi]; exact hno3⟩⟩
    ·rcases hz with rfl | ⟨rfl, hz⟩
     ·exact .inr ⟨_, rfl, .inl rfl⟩
     ·exact .inl ⟨_, rfl, by rw [nx (n := 4096) (by omega) (by omega)], hz⟩
   ·subst hs
    dsimp only
    rw [if_neg (not_lt_int _)]
    exact ⟨_, rfl, .inr ⟨by rw [nextW_all], by rw [← nextW_all]; exact hno2⟩⟩
   ·rcases hy with rfl | ⟨rfl, hy⟩
    ·exact .inr ⟨_, rfl, .inl rfl⟩
    ·refine .inl ⟨_, rfl, by rw [nx (n := 16) (by omega) (by omega)], fun m' a1 a2 => ?_⟩
     by_cases e : m' = j + 1
     ·subst e; exact hy a1
     ·exact hno m' a1 (by omega)
  ·subst hs
   dsimp only
   rw [if_neg (by omega)]
   exact ⟨_, rfl, .inr ⟨rfl, hno⟩⟩
  ·rcases hx with rfl | ⟨rfl, hno⟩
   ·rfl
   ·show some (([] : List UInt8), (20 : Int)) = some R
    rw [← hR]
    unfold firstV
    rw [List.find?_eq_none.2 fun w hw => by
     obtain ⟨⟨m1, m2⟩, m3⟩ := mem_marks.1 hw
     rw [hno w.length m1 m2 w (mem_allW.2 ⟨rfl, m3⟩)]
     decide]
theorem Search_both (g : Gr) (n least most : Int) (h3 : VG g → g.1 ≤ 16 → g.1 ≤ 3) (hm : most ≤ 4 ∨ 16 < most) : ∃ r, m_syncmark_Search g n least most = some r ∧ m_ref54_Search g n least most = some r := by
 obtain ⟨e, he, hz⟩ := Check_tot g
 by_cases h0 : e = 0
 case neg =>
  refine ⟨([], 1), ?_, ?_⟩
  ·unfold m_syncmark_Search
   rw [Check_ref, he, Option.bind_some, if_pos h0]
  ·unfold m_ref54_Search
   rw [he, Option.bind_some, if_pos h0]
 have hv := hz.1 h0
 by_cases h16 : 16 < g.1
 ·refine ⟨([], 12), ?_, ?_⟩
  ·unfold m_syncmark_Search
   rw [Check_ref, he, Option.bind_some, if_neg (by omega), if_pos h16]
  ·unfold m_ref54_Search
   rw [he, Option.bind_some, if_neg (by omega), if_pos h16]
 by_cases hr : n < 0 ∨ 4096 < n ∨ least < 1 ∨ most < least
 ·exact ⟨_, Search_range hv (by omega) hr, RefSearch_range hv (by omega) hr⟩
 by_cases hbig : 16 < most
 ·refine ⟨([], 4), ?_, ?_⟩
  ·unfold m_syncmark_Search jp
   dsimp only
   rw [Check_ref, he, Option.bind_some, if_neg (by omega), if_neg h16, if_neg (by omega), if_neg (by omega), if_neg (by omega), if_neg (by rw [decide_eq_true_eq]; omega), if_pos hbig]
  ·unfold m_ref54_Search jp
   dsimp only
   rw [he, Option.bind_some, if_neg (by omega), if_neg h16, if_neg (by omega), if_neg (by omega), if_neg (by omega), if_neg (by rw [decide_eq_true_eq]; omega), if_pos hbig]
 have hg3 := h3 hv (by omega)
 obtain ⟨k, rfl⟩ := Int.eq_ofNat_of_zero_le (show 0 ≤ n by omega)
 obtain ⟨a, rfl⟩ := Int.eq_ofNat_of_zero_le (show 0 ≤ least by omega)
 obtain ⟨b, rfl⟩ := Int.eq_ofNat_of_zero_le (show 0 ≤ most by omega)
 have hl1 := hv.l1
 exact ⟨_, Search_eq hv (by omega) (by omega) (by omega) (by omega) (by omega) (fun j hj => Nat.le_trans (pow_small (by omega) (by omega)) (by decide)), RefSearch_eq hv hg3 (by omega) (by omega) (by omega) (by omega)⟩
end
theorem law54_searches (g : Gr) (mark : List UInt8) (n least most : Int) : m_law54_SyncmarkSearches g mark n least most = some true := by
  obtain ⟨b, hb, hb2⟩ := great54_tot g
  obtain ⟨c, hc, hc2⟩ := long54 mark
  unfold m_law54_SyncmarkSearches jp
  dsimp only
  rw [hb, Option.bind_some]
  by_cases h1 : b = true
  · rw [if_pos h1, if_pos rfl]; rfl
  rw [if_neg h1, hc, Option.bind_some]
  by_cases h2 : c = true
  · rw [if_pos h2, if_pos rfl]; rfl
  rw [if_neg h2]
  have hg3 : VG g → g.1 ≤ 16 → g.1 ≤ 3 := fun hv h => (hb2 (Bool.eq_false_iff.2 h1) hv).2.2 h
  have key : ∀ x : Bool, (x = false → (most ≤ 4 ∨ 16 < most) ∧ (n ≤ 5 ∨ 12 < n)) → (if x = true then (m_law54_awake).bind fun x4 => some x4 else
    (m_syncmark_Search g n least most).bind fun x6 =>
    (m_ref54_Search g n least most).bind fun x8 =>
    (m_syncmark_Damaged g mark n).bind fun x10 =>
    (m_ref54_Damaged g mark n).bind fun x12 =>
     if x6.1 = x8.1 then
      if x6.2 = x8.2 then
       if x10.1 = x12.1 then
        if x10.2 = x12.2 then
         (m_law54_awake).bind fun x17 => some x17
        else some false
       else some false
      else some false
     else some false) = some true := by
    intro x hx
    cases x with
    | true => rfl
    | false =>
      rw [if_neg Bool.false_ne_true]
      obtain ⟨hm, hn⟩ := hx rfl
      obtain ⟨r, e1, e2⟩ := Search_both g n least most hg3 hm
      obtain ⟨s, e3, e4⟩ := Damaged_both g mark n hg3 hn
      rw [e1, e2, e3, e4]
      simp only [Option.bind_some, if_true]
      rfl
  by_cases h4 : 5 < n
  · rw [if_pos h4]
    by_cases h5 : n ≤ 4096
    · rw [if_pos h5]; exact key true (by simp)
    · rw [if_neg h5]
      by_cases h6 : 4 < most
      · rw [if_pos h6]; exact key _ fun h => ⟨by have := of_decide_eq_false h; omega, by omega⟩
      · rw [if_neg h6]; exact key _ fun _ => ⟨by omega, by omega⟩
  · rw [if_neg h4]
    by_cases h6 : 4 < most
    · rw [if_pos h6]; exact key _ fun h => ⟨by have := of_decide_eq_false h; omega, by omega⟩
    · rw [if_neg h6]; exact key _ fun _ => ⟨by omega, by omega⟩
end Go.AW
namespace Go.AW
open Go Go.ChangeShapes Go.WideShapes Go.ChangeAt Go.RowKit
def Kept (W W' : World) : Prop := W'.os = W.os ∧ W'.output = W.output ∧ W.heap.size ≤ W'.heap.size ∧ ∀ b : Nat, b < W.heap.size → W'.heap[b]? = W.heap[b]?
theorem Kept.frame {W W' : World} (h : Kept W W') (may : MemPlace → Prop) : W.keptBut W' may := by
 refine ⟨h.1, h.2.1, fun i hi => ?_⟩
 rw [h.2.2.2 i hi]
 cases W.heap[i]? with
 | none => rfl
 | some o => cases o with
  | cells c t fr => exact ⟨rfl, rfl, rfl, fun _ _ => rfl⟩
  | map es clock => exact .inr ⟨rfl, rfl⟩
  | _ => rfl
theorem Kept.frozen {W W' : World} (h : Kept W W') (a : Addr) (ha : a.block < W.heap.size) : W'.frozen? a = W.frozen? a := by
 simp only [World.frozen?, h.2.2.2 _ ha]
def Mu.zero : Mu := { nx := 0, loc := fun _ => none, held := fun _ => False }
theorem SR.zero (W : World) : SR W Mu.zero [] :=
 ⟨(fun _ _ _ h => by cases h), (fun _ _ _ h => by cases h), (fun _ _ h => by cases h), (fun _ _ _ _ _ h => by cases h), (fun _ h => h.elim)⟩
theorem calls_of_pure {P : Program} {f : FuncId} {args : List HV} {vs : List Value} {W : World} (hp : Pure P f args (· = .bool true)) (hr : RepL W Mu.zero args vs) (hgl : GlOk W Mu.zero := by exact fun _ h => by cases h) :
  Calls P f vs.toArray W fun e W' => e = .returned (.bool true) ∧ Kept W W' := by
 refine (hp.2 Mu.zero W vs (SR.zero W) hr hgl).mono ?_
 rintro e W' ⟨v, r, H', μ', rfl, ⟨rfl, _, _⟩, hs, hv, E⟩
 have hv' : v = .bool true := hv
 subst hv'
 exact ⟨rfl, E.os, E.output, E.size, fun b hb => E.keep b hb fun ⟨_, _, hl⟩ => by cases hl⟩
theorem rep_string {W : World} {μ : Mu} (s : ByteArray) (h : s.size ≤ maxLen) : Rep W μ (.str s.data.toList) (.string s) := by
 refine ⟨by cases s; simp, ?_⟩
 have : s.data.toList.length = s.size := by simp
 omega
theorem post_of_kept {H : Type} {enc : TypeId × Value → H} {P : Program} {f : Func} {s : ChangeSpec} {apart fresh handsOn again : Bool} {W W' : World} {args : Array Value} {v : Value} {ds gs : List (DataW H)} {before pa pv : List MemPlace}
  (hW : DataW.Whole enc P f.params.toList s.vars apart W args.toList ds gs before)
  (hres : ∀ (b : Nat) (sp : Nat → Bool) (hd : Bool), DataW.TrodAll enc P W' b sp hd f.resultTypes.toList (v.resultList f.resultTypes.size) (s.fn H (ds ++ gs)).results [])
  (hargs : ∀ sp : Nat → Bool, (∀ p ∈ before, sp p.block = true) → DataW.TrodAll enc P W' 0 sp true f.params.toList args.toList (s.fn H (ds ++ gs)).args pa)
  (hvars : ∀ sp : Nat → Bool, (∀ p ∈ before, sp p.block = true) → DataW.TrodVars enc P W' sp s.vars (s.fn H (ds ++ gs)).vars pv)
  (hps : before = pa ++ pv) (hk : Kept W W')
  (hok : ∀ (j : Nat) (t : TypeId) (r : Value), f.resultTypes[j]? = some t → (v.resultList f.resultTypes.size)[j]? = some r → Value.okWide P W' .any 0 t r) :
  s.post enc P f apart fresh handsOn again W args v W' := by
 have hold : ∀ p ∈ before, (fun b => decide (b < W.heap.size)) p.block = true := fun p hp => by simpa using hW.lt p hp
 refine ⟨ds, gs, before, [], pa, pv, hW, hres _ _ _, hargs _ hold, hvars _ hold, World.keptBut_mono (fun p hp => ⟨hp, ?_⟩) (hk.frame (· ∈ before)), fun _ => ?_⟩
 ·rw [hps, List.mem_append] at hp
  exact Or.inr hp
 ·have hlt := hW.lt
  obtain ⟨_, _, _, _, _, hz, hn⟩ := hW
  refine ⟨hok, _, _, ([] ++ pa) ++ pv, ⟨[] ++ pa, pv, trodAll_append (hargs _ (fun _ _ => rfl)) (hres _ _ _), hvars _ (fun _ _ => rfl), rfl, ?_, ?_⟩, ?_⟩
  ·intro b off hp
   have hp' : MemPlace.cell b off ∈ before := by rw [hps]; simpa using hp
   rw [hk.frozen _ (hlt _ hp')]
   exact hz b off hp'
  ·intro ha
   have := hn ha
   rw [hps] at this
   simpa using this
  ·intro p hp _
   rw [hps]
   simpa using hp
theorem rowAt_le {p : Program} {fits : TypeId → Bool} {d : Nat} {e : TypeId} {count off n : Nat} (h : rowAt p fits d e count off n = true) : off ≤ count * p.cellsOf e := by
 cases d with
 | zero => simp [rowAt] at h
 | succ d =>
  unfold rowAt at h
  simp only at h
  split at h
  ·cases h
  ·rename_i hs
   have hs' : 0 < p.cellsOf e := Nat.pos_of_ne_zero hs
   have hd := Nat.div_add_mod off (p.cellsOf e)
   rw [Nat.mul_comm] at hd
   simp only [Bool.or_eq_true, Bool.and_eq_true, beq_iff_eq, decide_eq_true_eq] at h
   rcases h with ⟨⟨h0, h1⟩, _⟩ | ⟨h1, _⟩
   ·rw [← hd, h0, Nat.add_zero]
    exact Nat.mul_le_mul_right _ (by omega)
   ·have hm := Nat.mod_lt off hs'
    have : (off / p.cellsOf e + 1) * p.cellsOf e ≤ count * p.cellsOf e := Nat.mul_le_mul_right _ h1
    rw [Nat.add_mul] at this
    omega
theorem liesAt_le {p : Program} {d : Nat} {e u : TypeId} {count off n : Nat} (h : liesAt p d e count off u n = true) : off ≤ count * p.cellsOf e := by
 induction d generalizing u n with
 | zero => simp [liesAt] at h
 | succ d ih =>
  unfold liesAt at h
  rw [Bool.or_eq_true] at h
  rcases h with h | h
  ·exact rowAt_le h
  ·split at h
   ·exact ih h
   ·cases h
theorem has_seg {P : Program} {W : World} {r : Reach} {base : Nat} {a : Addr} {e : TypeId} {cap : Nat} (h : W.has P r base a e cap) {vs : List Value} (hc : ∀ i (hi : i < vs.length), W.cell? (a.add i) = some vs[i]) :
  ∃ b off, a = ⟨b, off, none⟩ ∧ Seg W b off vs := by
 obtain ⟨_, hsp, row, cells, hsh, hl⟩ := h
 obtain ⟨b, off, spot⟩ := a
 dsimp only at hsp hsh hl
 subst hsp
 refine ⟨b, off, rfl, ?_⟩
 unfold World.shape? at hsh
 split at hsh
 ·rename_i cur e' fr hb
  simp only [Option.some.injEq, Prod.mk.injEq] at hsh
  obtain ⟨rfl, rfl⟩ := hsh
  have hoff : off ≤ cur.size := Nat.le_trans (liesAt_le hl) (Nat.div_mul_le_self _ _)
  have hget : ∀ i (hi : i < vs.length), cur.toList[off + i]? = some vs[i] := fun i hi => by
   have := hc i hi
   rw [add_plain] at this
   unfold World.cell? at this
   rw [hb] at this
   simpa using this
  refine ⟨cur, e', fr, cur.toList.take off, cur.toList.drop (off + vs.length), hb, ?_, by simp [hoff]⟩
  have hvs : vs = (cur.toList.drop off).take vs.length := by
   apply List.ext_getElem?
   intro i
   rcases Nat.lt_or_ge i vs.length with hi | hi
   ·rw [List.getElem?_take_of_lt hi, List.getElem?_drop, hget i hi, List.getElem?_eq_getElem hi]
   ·rw [List.getElem?_eq_none hi, List.getElem?_eq_none (by simp; omega)]
  have : vs ++ cur.toList.drop (off + vs.length) = cur.toList.drop off := by
   conv => lhs; arg 1; rw [hvs]
   rw [← List.drop_drop]
   exact List.take_append_drop _ _
  rw [List.append_assoc, this, List.take_append_drop]
 ·cases hsh
theorem nown (b : Nat) : ¬ Mu.zero.owns b := fun h => h.elim (fun ⟨_, _, h⟩ => by cases h) id
theorem open_num {H : Type} {enc : TypeId × Value → H} {P : Program} {W : World} {base : Nat} {t : TypeId} {k : IntKind} {v : Value} {d : DataW H} {ps : List MemPlace} (ht : P.underlying t = some (.int k))
  (hval : Value.okWide P W .any base t v) (h : DataW.Trod enc P W 0 (fun _ => true) true t v d ps) : ∃ n : Int, (Lit.int k n).wf = true ∧ Rep W Mu.zero (.int k n) v := by
 obtain ⟨n, rfl, _, _, hw⟩ := open_int ht hval h
 exact ⟨n, hw, rfl, hw⟩
theorem trodAll_stays {H : Type} {enc : TypeId × Value → H} {P : Program} (hl : laidOutB P = true) {W W' : World} {sp : Nat → Bool} : ∀ {ts : List TypeId} {vs : List Value} {ds : List (DataW H)} {ps : List MemPlace},
  (ts.all fun t => P.readableRec t && decide (t < P.types.size)) = true → DataW.TrodAll enc P W 0 (fun _ => true) true ts vs ds ps → (∀ p ∈ ps, W.sameAt W' p) → (∀ p ∈ ps, sp p.block = true) → DataW.TrodAll enc P W' 0 sp true ts vs ds ps
 | [], vs, ds, ps, _, h, _, _ => by
  obtain ⟨rfl, rfl, rfl⟩ := trodAll_nil h
  exact trodAll_mk0
 | t :: ts, vs, ds, ps, ht, h, h1, h2 => by
  obtain ⟨v, vs', d, ds', p, q, rfl, rfl, rfl, h3, h4⟩ := trodAll_cons h
  simp only [List.all_cons, Bool.and_eq_true, decide_eq_true_eq] at ht
  exact trodAll_cons_mk (WideElems.Trod_stays hl ht.1.1 ht.1.2 h3 (fun x hx => h1 x (List.mem_append_left _ hx)) (fun x hx => h2 x (List.mem_append_left _ hx)))
   (trodAll_stays hl ht.2 h4 (fun x hx => h1 x (List.mem_append_right _ hx)) (fun x hx => h2 x (List.mem_append_right _ hx)))
theorem Kept.same {W W' : World} (h : Kept W W') (p : MemPlace) (hp : p.block < W.heap.size) : W.sameAt W' p := by
 cases p with
 | cell b off =>
  show W'.cell? ⟨b, off, none⟩ = W.cell? ⟨b, off, none⟩
  unfold World.cell?
  rw [h.2.2.2 b hp]
 | map b => exact h.2.2.2 b hp
theorem post_of_true {H : Type} {enc : TypeId × Value → H} {P : Program} {f : Func} {s : ChangeSpec} {apart fresh handsOn again : Bool} {W W' : World} {args : Array Value} {ds gs : List (DataW H)} {before : List MemPlace} {t : TypeId}
  (hl : laidOutB P = true) (hps : (f.params.toList.all fun t => P.readableRec t && decide (t < P.types.size)) = true) (hres : f.resultTypes = #[t]) (ht : P.underlying t = some .bool) (hv : s.vars = [])
  (hW : DataW.Whole enc P f.params.toList s.vars apart W args.toList ds gs before) (hk : Kept W W')
  (h1 : (s.fn H (ds ++ gs)).results = [.lit (.bool true)]) (h2 : (s.fn H (ds ++ gs)).args = ds) (h3 : (s.fn H (ds ++ gs)).vars = []) :
  s.post enc P f apart fresh handsOn again W args (.bool true) W' := by
 have hlt := hW.lt
 have hW' := hW
 obtain ⟨p, q, hA, hV, rfl, _, _⟩ := hW
 rw [hv] at hV
 obtain ⟨rfl, rfl⟩ := trodVars_none hV
 refine post_of_kept (pa := p) (pv := []) hW' (fun _ _ _ => ?_) (fun sp hsp => ?_) (fun _ _ => ?_) (by simp) hk (ok_one hres rfl (okWide_bool_mk ht _))
 ·rw [hres, h1]
  exact trodAll_cons_mk (shut_bool ht _) trodAll_mk0
 ·rw [h2]
  exact trodAll_stays hl hps hA (fun x hx => hk.same x (hlt x (by simpa using hx))) (fun x hx => hsp x (by simpa using hx))
 ·rw [h3, hv]
  rfl
section
variable {H : Type} {enc : TypeId × Value → H} {P : Program} {W : World} {base : Nat}
theorem repL_app {μ : Mu} : ∀ {hs ks : List HV} {vs us : List Value}, RepL W μ hs vs → RepL W μ ks us → RepL W μ (hs ++ ks) (vs ++ us)
 | [], _, _, _, h, h' => by cases h; exact h'
 | _ :: _, _, _, _, ⟨x, xs, rfl, h1, h2⟩, h' => ⟨x, _, rfl, h1, repL_app h2 h'⟩
theorem add_adds (a : Addr) (i j : Nat) : (a.add i).add j = a.add (i + j) := by
 unfold Addr.add
 repeat' split
 all_goals simp_all [Nat.add_assoc]
theorem open_rows {α : Type} (c : EncL α) {fuel : Nat} {t e : TypeId} {cs : List Value} {x : DataW H × List MemPlace} (ht : P.underlying t = some (.slice e)) (hk : P.cellsOf e = c.k) (hone : ∀ x, ones (c.C x))
  (hel : ∀ n cs y, DataW.trod enc P W 0 (fun _ => true) true n e cs = some y → ∃ x : α, RepL W Mu.zero (c.C x) cs)
  (hhas : ∀ a len cap, cs = [.slice (some a) len cap] → W.has P .any base a e cap) (h : DataW.trod enc P W 0 (fun _ => true) true fuel t cs = some x) : ∃ l : List α, RepL W Mu.zero [slE c l] cs := by
 rcases DataW.trod_slice ht h with ⟨rfl, _⟩ | ⟨a, len, cap, elems, rest, n, _, rfl, _, _, hl, hm, hlen, hel', _, _⟩
 ·refine ⟨[], _, _, rfl, ?_, rfl⟩
  show _ ∧ _
  exact ⟨(by rw [c.nil]; exact fun _ h => nomatch h), (by rw [c.nil]; simp), Nat.zero_le _, .inl ⟨rfl, rfl⟩⟩
 ·have each : ∀ i, i < len → ∃ cs' x, W.cells? 0 (a.add (i * c.k)) c.k = some cs' ∧ RepL W Mu.zero (c.C x) cs' := fun i hi => by
   have h1 := hel' i hi
   rw [List.getElem?_eq_getElem (by omega), Option.bind_eq_some_iff, hk] at h1
   obtain ⟨cs', h2, h3⟩ := h1
   obtain ⟨x, hx⟩ := hel _ _ _ h3
   exact ⟨cs', x, h2, hx⟩
  have build : ∀ m, m ≤ len → ∃ (l : List α) (vs : List Value), l.length = m ∧ vs.length = m * c.k ∧ RepL W Mu.zero (c.E l) vs ∧ ∀ i (hi : i < vs.length), W.cell? (a.add i) = some vs[i] := by
   intro m
   induction m with
   | zero => exact fun _ => ⟨[], [], rfl, by simp, by rw [c.nil]; rfl, fun i hi => by simp at hi⟩
   | succ m ih =>
    intro hm
    obtain ⟨l, vs, h1, h2, h3, h4⟩ := ih (by omega)
    obtain ⟨cs', x, h5, h6⟩ := each m (by omega)
    obtain ⟨_, h7, h8⟩ := World.cells?_some h5
    refine ⟨l ++ [x], vs ++ cs', by simp [h1], by rw [List.length_append, h2, h7, Nat.succ_mul], by rw [c.append, c.one]; exact repL_app h3 h6, fun i hi => ?_⟩
    rcases Nat.lt_or_ge i vs.length with hi' | hi'
    ·rw [List.getElem_append_left hi']; exact h4 i hi'
    ·rw [List.getElem_append_right hi']
     rw [List.length_append] at hi
     have := h8 (i - vs.length) (by omega)
     rw [add_adds, h2, show m * c.k + (i - m * c.k) = i by omega] at this
     rw [this, List.getElem?_eq_getElem (by omega)]
     simp only [h2]
  obtain ⟨l, vs, h1, h2, h3, h4⟩ := build len (Nat.le_refl _)
  obtain ⟨b, off, rfl, hseg⟩ := has_seg (hhas _ _ _ rfl) h4
  refine ⟨l, _, _, rfl, ?_, rfl⟩
  show _ ∧ _
  refine ⟨fun d hd => ?_, c.len l, by omega, .inr ⟨b, off, cap, vs, by rw [h1], by omega, nown b, hseg, h3⟩⟩
  rw [c.hE] at hd
  obtain ⟨x, _, hdx⟩ := List.mem_flatMap.1 hd
  exact hone x d hdx
theorem open3 {t : TypeId} {f0 f1 f2 : Field} {fuel : Nat} {cs : List Value} {x : DataW H × List MemPlace} (ht : P.underlying t = some (.struct #[f0, f1, f2])) (o0 : f0.offset = 0) (o1 : f1.offset = 1) (o2 : f2.offset = 2) (c : P.cellsOf t = 3)
  (c0 : P.cellsOf f0.type = 1) (c1 : P.cellsOf f1.type = 1) (c2 : P.cellsOf f2.type = 1) (h : DataW.trod enc P W 0 (fun _ => true) true fuel t cs = some x) :
  ∃ v0 v1 v2 y0 y1 y2 n, cs = [v0, v1, v2] ∧ DataW.trod enc P W 0 (fun _ => true) true n f0.type [v0] = some y0 ∧ DataW.trod enc P W 0 (fun _ => true) true n f1.type [v1] = some y1 ∧ DataW.trod enc P W 0 (fun _ => true) true n f2.type [v2] = some y2 := by
 obtain ⟨xs, n, _, rfl, hl, hlen, hf⟩ := DataW.trod_struct ht h
 rw [c] at hl
 match cs, hl with
 | [v0, v1, v2], _ =>
  match xs, hlen with
  | [y0, y1, y2], _ =>
   refine ⟨v0, v1, v2, y0, y1, y2, n, rfl, ?_, ?_, ?_⟩
   ·have := hf 0 f0 rfl; rw [o0, c0] at this; exact this
   ·have := hf 1 f1 rfl; rw [o1, c1] at this; exact this
   ·have := hf 2 f2 rfl; rw [o2, c2] at this; exact this
theorem rep_i64 {n : Int} {ti : TypeId} {m : Nat} {v : Value} {y : DataW H × List MemPlace} (hti : P.underlying ti = some (.int .i64)) (h : DataW.trod enc P W 0 (fun _ => true) true m ti [v] = some y) : ∃ n : Int, Rep W Mu.zero (.int .i64 n) v := by
 obtain ⟨n, hv, _, hw⟩ := DataW.trod_int hti h
 cases hv
 exact ⟨n, rfl, hw⟩
theorem open_graph {t ti ts te : TypeId} {f0 f1 f2 e0 e1 e2 : Field} {v : Value} {d : DataW H} {ps : List MemPlace} (ht : P.underlying t = some (.struct #[f0, f1, f2])) (o : f0.offset = 0 ∧ f1.offset = 1 ∧ f2.offset = 2) (y : f0.type = ti ∧ f1.type = ti ∧ f2.type = ts)
  (c : P.cellsOf t = 3) (ci : P.cellsOf ti = 1) (cs : P.cellsOf ts = 1) (ct : P.cellTypes P.depth t = some [ti, ti, ts]) (hti : P.underlying ti = some (.int .i64)) (hts : P.underlying ts = some (.slice te))
  (hte : P.underlying te = some (.struct #[e0, e1, e2])) (oe : e0.offset = 0 ∧ e1.offset = 1 ∧ e2.offset = 2) (ye : e0.type = ti ∧ e1.type = ti ∧ e2.type = ti) (ce : P.cellsOf te = 3)
  (hval : Value.okWide P W .any base t v) (h : DataW.Trod enc P W 0 (fun _ => true) true t v d ps) : ∃ g : TLabelsStatesEdges, Rep W Mu.zero (.agg [.int .i64 g.1, .int .i64 g.2.1, slE eFromLabelTo g.2.2]) v := by
 obtain ⟨y0, y1, y2⟩ := y
 obtain ⟨z0, z1, z2⟩ := ye
 simp only [Value.okWide, ht] at hval
 obtain ⟨arr, rfl, _, hrow⟩ := hval
 obtain ⟨fuel, hf⟩ := h
 obtain ⟨v0, v1, v2, a0, a1, a2, n, hcs, h0, h1, h2⟩ := open3 ht o.1 o.2.1 o.2.2 c (by rw [y0]; exact ci) (by rw [y1]; exact ci) (by rw [y2]; exact cs) hf
 have harr : arr = #[v0, v1, v2] := by
  have : arr.toList = [v0, v1, v2] := hcs
  cases arr
  simp_all
 subst harr
 rw [y0] at h0
 rw [y1] at h1
 rw [y2] at h2
 obtain ⟨l, r0⟩ := rep_i64 (n := 0) hti h0
 obtain ⟨s, r1⟩ := rep_i64 (n := 0) hti h1
 obtain ⟨es, _, _, r2, r2', r2''⟩ := open_rows (base := base) eFromLabelTo hts ce (fun x d hd => by
   have hd : d ∈ [HV.int .i64 x.1, HV.int .i64 x.2.1, HV.int .i64 x.2.2] := hd
   simp only [List.mem_cons, List.not_mem_nil, or_false] at hd
   rcases hd with rfl | rfl | rfl <;> rfl) (fun m cs' y hy => by
   obtain ⟨w0, w1, w2, b0, b1, b2, n', rfl, k0, k1, k2⟩ := open3 hte oe.1 oe.2.1 oe.2.2 ce (by rw [z0]; exact ci) (by rw [z1]; exact ci) (by rw [z2]; exact ci) hy
   rw [z0] at k0
   rw [z1] at k1
   rw [z2] at k2
   obtain ⟨p0, q0⟩ := rep_i64 (n := 0) hti k0
   obtain ⟨p1, q1⟩ := rep_i64 (n := 0) hti k1
   obtain ⟨p2, q2⟩ := rep_i64 (n := 0) hti k2
   exact ⟨(p0, p1, p2), _, _, rfl, q0, _, _, rfl, q1, _, _, rfl, q2, rfl⟩) (fun a len cap e => by
   cases e
   obtain ⟨tys, ht1, _, hcell⟩ := hrow
   rw [ct] at ht1
   cases ht1
   obtain ⟨u, hu, hok⟩ := hcell 2 (.slice (some a) len cap) rfl
   cases hu
   simp only [Cell.okWide, hts, Cell.ok] at hok
   exact hok.2.2) h2
 cases r2
 refine ⟨(l, s, es), ?_⟩
 show _ ∧ _
 refine ⟨fun d hd => ?_, _, rfl, _, _, rfl, r0, _, _, rfl, r1, _, _, rfl, r2', rfl⟩
 simp only [List.mem_cons, List.not_mem_nil, or_false] at hd
 rcases hd with rfl | rfl | rfl <;> rfl
end
end Go.AW
namespace Go.AW
open Go Go.ChangeShapes Go.WideShapes Go.ChangeAt Go.RowKit
section
variable {H : Type} {enc : TypeId × Value → H} {P : Program} {W : World} {base : Nat}
end
end Go.AW
namespace Go.AW
open Go Go.ChangeShapes Go.WideShapes Go.ChangeAt Go.RowKit
section
variable {H : Type} {enc : TypeId × Value → H} {P : Program} {W : World} {base : Nat}
end
end Go.AW
namespace Go.AW
open Go Go.ChangeShapes Go.WideShapes Go.ChangeAt Go.RowKit
section
variable {H : Type} {enc : TypeId × Value → H} {P : Program} {W : World} {base : Nat}
end
end Go.AW
namespace Go.Proofs.YtnjepajbbkejeaaGreat
open Go Go.AW Go.ChangeShapes Go.WideShapes Go.ChangeAt Go.RowKit Go.ChangeMaps
set_option linter.unusedVariables false
theorem ownM : ownKnob Tryz.prog.godebug = none := by kernel_rfl
theorem laidB : laidOutB Tryz.prog = true := by kernel_rfl
theorem wLaw (a0 : TLabelsStatesEdges) (a1 : List UInt8) (a2 : Int) (a3 : Int) (a4 : Int) : Pure Tryz.prog 7 [HV.agg [HV.int .i64 a0.1, HV.int .i64 a0.2.1, slE eFromLabelTo a0.2.2], .str a1, .int .i64 a2, .int .i64 a3, .int .i64 a4] (· = .bool true) := w_law54_SyncmarkSearches (law54_searches a0 a1 a2 a3 a4)
set_option maxRecDepth 100000 in
theorem liftedL (os : Os) (started : os.Started) (H : Type) (enc : TypeId × Value → H) :
  ReturnsInHanded {} Tryz.checked os 7 .any (Rows.syncmarkSearchesSpec.pre6 enc Tryz.prog Tryz.f7 Rows.syncmarkSearchesRow.domain false) (Rows.syncmarkSearchesSpec.post enc Tryz.prog Tryz.f7 false true false false) := by
 refine returnsInHanded_of_change_shaped (C := Tryz.checked) ownM started (by kernel_rfl) Tryz.func7
  (ChangeSpec.witness6 (enc := enc) (C := Tryz.checked) false ⟨#[], #[.agg #[.int .i64 0, .int .i64 0, .slice none 0 0], .string ⟨#[]⟩, .int .i64 0, .int .i64 0, .int .i64 0], []⟩ 8 (by kernel_rfl) (by kernel_rfl) (by kernel_rfl) (by kernel_rfl)) ?_
 intro W base args ds gs before hval0 hW hcnd _ hsh _
 have hval : ∀ (j : Nat) t v, Tryz.f7.params[j]? = some t → args[j]? = some v → Value.okWide Tryz.prog W .any base t v := hval0
 have hW' := hW
 obtain ⟨p, q, hA0, hV, rfl, hfz, hnd⟩ := hW
 have hA : DataW.TrodAll enc Tryz.prog W 0 (fun _ => true) true Tryz.f7.params.toList args.toList ds p := hA0
 rw [Tryz.params7] at hA hval
 obtain ⟨v0, vs0, d0, ds0, p0, q0, hargs, rfl, rfl, h0, r0⟩ := trodAll_cons hA
 obtain ⟨v1, vs1, d1, ds1, p1, q1, rfl, rfl, rfl, h1, r1⟩ := trodAll_cons r0
 obtain ⟨v2, vs2, d2, ds2, p2, q2, rfl, rfl, rfl, h2, r2⟩ := trodAll_cons r1
 obtain ⟨v3, vs3, d3, ds3, p3, q3, rfl, rfl, rfl, h3, r3⟩ := trodAll_cons r2
 obtain ⟨v4, vs4, d4, ds4, p4, q4, rfl, rfl, rfl, h4, r4⟩ := trodAll_cons r3
 obtain ⟨rfl, rfl, rfl⟩ := trodAll_nil r4
 obtain rfl : args = #[v0, v1, v2, v3, v4] := by cases args; simp_all
 obtain ⟨rfl, rfl⟩ := trodVars_none hV
 obtain ⟨a0, hr0⟩ := open_graph Tryz.underlying24 ⟨rfl, rfl, rfl⟩ ⟨rfl, rfl, rfl⟩ (by kernel_rfl) (by kernel_rfl) (by kernel_rfl) (by kernel_rfl) Tryz.underlying3 Tryz.underlying22 Tryz.underlying44 ⟨rfl, rfl, rfl⟩ ⟨rfl, rfl, rfl⟩ (by kernel_rfl) (hval 0 24 v0 rfl rfl) h0
 obtain ⟨s1, rfl, _, _, l1⟩ := open_string Tryz.underlying9 (hval 1 9 v1 rfl rfl) h1
 obtain ⟨a2, _, hr2⟩ := open_num Tryz.underlying3 (hval 2 3 v2 rfl rfl) h2
 obtain ⟨a3, _, hr3⟩ := open_num Tryz.underlying3 (hval 3 3 v3 rfl rfl) h3
 obtain ⟨a4, _, hr4⟩ := open_num Tryz.underlying3 (hval 4 3 v4 rfl rfl) h4
 have hgl : GlOk W Mu.zero := fun g hg => by
  obtain rfl : g = 0 := by simpa [gNos] using hg
  exact ⟨Tryz.index.s1_3 W hsh, fun ⟨_, _, h⟩ => by cases h⟩
 refine (calls_of_pure (hgl := hgl) (vs := [v0, .string s1, v2, v3, v4]) (wLaw a0 s1.data.toList a2 a3 a4) ⟨_, _, rfl, hr0, _, _, rfl, rep_string s1 l1, _, _, rfl, hr2, _, _, rfl, hr3, _, _, rfl, hr4, rfl⟩).mono fun e W' ⟨he, hk⟩ => ?_
 subst he
 exact ⟨_, rfl, post_of_true laidB (by kernel_rfl) rfl Tryz.underlying4 rfl hW' hk rfl rfl rfl⟩
theorem syncmarkSearchesProved : Rows.SyncmarkSearchesSaid :=
 OpenClaim.holds_of_wide 7 Tryz.f7 rfl rfl rfl rfl rfl rfl rfl ⟨rfl, rfl, rfl, rfl, rfl⟩ rfl rfl rfl rfl rfl (by kernel_rfl) Tryz.func7 (by kernel_rfl)
  (of_decide_eq_true (by kernel_rfl)) (by unfold Func.isWrapper; first | (rw [if_pos (by decide +kernel)]; kernel_rfl) | (rw [if_neg (by decide +kernel)]; exact ⟨rfl, rfl⟩))
  (fun os started H enc _ => liftedL os started H enc)
#print axioms syncmarkSearchesProved
end Go.Proofs.YtnjepajbbkejeaaGreat
