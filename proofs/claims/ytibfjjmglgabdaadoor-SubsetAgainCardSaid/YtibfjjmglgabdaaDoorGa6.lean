/- SubsetAgain: for every input the law's function returns true, and the input reads as it did. The package-level variables that the row lists start as the program lays them; the card ties that to the text. -/
import Derived.Test.YtibfjjmglgabdaaDoorGa5
import Derived.ChangeMaps5
import Derived.Handy
import Derived.Lay
import Derived.OpenShut
import Derived.ProofKit
import Derived.SevenTiedAt
import Derived.SliceStrings
import Derived.Test.YtibfjjmglgabdaaDoorCards
import Derived.Test.YtibfjjmglgabdaaDoorRows
import Derived.Test.YtibfjjmglgabdaaDoorTie
import Derived.WalkKit
import Derived.WideKeyArgs
/- Graphs of sets: the number of words. -/
namespace Go.AW
open Go
set_option linter.unusedSimpArgs false
set_option linter.unusedVariables false

theorem getD_lt {α : Type} {l : List α} {d : α} {i : Nat} (h : i < l.length) : l.getD i d = l[i] := by simp [List.getD, h]

section
variable {g : Gr}
def bz (n : Nat) : TNegMag := (false, be n)
/-- an edge carries the number of its beginning to its end -/
def addE (c : List Nat) (nxt : List Nat) (x : Ed) : List Nat := nxt.set x.2.2.toNat (nxt.getD x.2.2.toNat 0 + c.getD x.1.toNat 0)
def cstep (E : List Ed) (n : Nat) (c : List Nat) : List Nat := E.foldl (addE c) (List.replicate n 0)
def cinit (n : Nat) : List Nat := (List.replicate n 0).set 0 1
def crun (E : List Ed) (n : Nat) : Nat → List Nat
  | 0 => cinit n
  | k + 1 => cstep E n (crun E n k)
def csum (c : List Nat) : Nat := c.foldl (· + ·) 0

theorem addE_len (c nxt : List Nat) (x : Ed) : (addE c nxt x).length = nxt.length := List.length_set
theorem foldE_len (c : List Nat) : ∀ (E : List Ed) (nxt : List Nat), (E.foldl (addE c) nxt).length = nxt.length
  | [], _ => rfl
  | x :: E, nxt => by rw [List.foldl_cons, foldE_len c E, addE_len]
theorem cstep_len (E : List Ed) (n : Nat) (c : List Nat) : (cstep E n c).length = n := by unfold cstep; rw [foldE_len]; simp
theorem crun_len (E : List Ed) (n : Nat) : ∀ k, (crun E n k).length = n
  | 0 => by simp [crun, cinit]
  | k + 1 => cstep_len _ _ _

theorem addE_le {c nxt : List Nat} {x : Ed} {M B : Nat} (hc : ∀ y ∈ c, y ≤ M) (hn : ∀ y ∈ nxt, y ≤ B) : ∀ y ∈ addE c nxt x, y ≤ B + M := by
  intro y hy
  have hgc : c.getD x.1.toNat 0 ≤ M := by
    by_cases h : x.1.toNat < c.length
    · exact hc _ (getD_mem h)
    · simp [List.getD, h]
  have hgn : nxt.getD x.2.2.toNat 0 ≤ B := by
    by_cases h : x.2.2.toNat < nxt.length
    · exact hn _ (getD_mem h)
    · simp [List.getD, h]
  rcases List.mem_or_eq_of_mem_set hy with h | rfl
  · have := hn y h; omega
  · omega
theorem foldE_le {c : List Nat} {M : Nat} (hc : ∀ y ∈ c, y ≤ M) : ∀ (E : List Ed) (nxt : List Nat) (B : Nat), (∀ y ∈ nxt, y ≤ B) → ∀ y ∈ E.foldl (addE c) nxt, y ≤ B + E.length * M
  | [], nxt, B, hn => fun y hy => by have := hn y hy; simp; exact this
  | x :: E, nxt, B, hn => fun y hy => by
    have := foldE_le hc E (addE c nxt x) (B + M) (addE_le hc hn) y hy
    rw [List.length_cons, Nat.succ_mul]
    omega
theorem cstep_le {E : List Ed} {n M : Nat} {c : List Nat} (hc : ∀ y ∈ c, y ≤ M) (hE : E.length ≤ 1024) : ∀ y ∈ cstep E n c, y ≤ 1024 * M := fun y hy => by
  have := foldE_le hc E (List.replicate n 0) 0 (fun y hy => by rw [(List.mem_replicate.1 hy).2]; exact Nat.le_refl _) y hy
  have h2 : E.length * M ≤ 1024 * M := Nat.mul_le_mul_right _ hE
  omega
theorem crun_le {E : List Ed} {n : Nat} (hE : E.length ≤ 1024) : ∀ k, ∀ y ∈ crun E n k, y ≤ 1024 ^ k
  | 0 => fun y hy => by
    rcases List.mem_or_eq_of_mem_set hy with h | rfl
    · rw [(List.mem_replicate.1 h).2]; simp
    · simp
  | k + 1 => fun y hy => by
    have := cstep_le (crun_le hE k) hE y hy
    rw [Nat.pow_succ, Nat.mul_comm]
    exact this
theorem be_small {n k : Nat} (hk : k ≤ 40) (h : n ≤ 2048 * 1024 ^ k) : (be n).length ≤ 1099511627776 := by
  have h1 : (1024 : Nat) ^ k ≤ 1024 ^ 40 := Nat.pow_le_pow_right (by decide) hk
  have h2 : 2048 * 1024 ^ k ≤ 2048 * 1024 ^ 40 := Nat.mul_le_mul_left _ h1
  have h3 : (2048 * 1024 ^ 40 : Nat) < 256 ^ 60 := by decide
  have := be_len (n := n) 60 (by omega)
  omega

theorem bz_at {l : List Nat} {i : Nat} (h : i < l.length) : idx (l.map bz) (i : Int) = some (bz l[i]) := by
  rw [ix (by simpa using h)]
  simp
theorem bz_set (l : List Nat) (i n : Nat) : (l.map bz).set i (bz n) = (l.set i n).map bz := by rw [List.map_set]
theorem bz_zero (n : Nat) : List.replicate n ((false, ([] : List UInt8)) : TNegMag) = (List.replicate n 0).map bz := by
  rw [List.map_replicate]
  unfold bz
  rw [be0]
theorem bz_add {a b k : Nat} (hk : k ≤ 40) (ha : a ≤ 2048 * 1024 ^ k) (hb : b ≤ 2048 * 1024 ^ k) : m_integer_Add (bz a) (bz b) = some (bz (a + b)) := Add_spec (be_small hk ha) (be_small hk hb)

/-- what Count gives, the graph's errors being e -/
def countE (g : Gr) (e n : Int) : TNegMag × Int :=
  if e ≠ 0 then ((false, []), 1) else if n < 0 ∨ 4096 < n then ((false, []), 2)
  else if (buildE g e).2.2 ≠ 0 ∨ (buildE g e).1.2.1 = 0 then ((false, []), (buildE g e).2.2)
  else (bz (csum (crun (buildE g e).1.2.2 (buildE g e).2.1.length n.toNat)), 0)

theorem csum_snoc (c : List Nat) (x : Nat) : csum (c ++ [x]) = csum c + x := by simp [csum, List.foldl_append]
theorem csum_le {c : List Nat} {M : Nat} (h : ∀ y ∈ c, y ≤ M) : csum c ≤ c.length * M := by
  have : ∀ (c : List Nat) (s : Nat), (∀ y ∈ c, y ≤ M) → c.foldl (· + ·) s ≤ s + c.length * M := by
    intro c
    induction c with
    | nil => intro s _; simp
    | cons x c ih =>
      intro s hc
      have h1 := ih (s + x) fun y hy => hc y (List.mem_cons_of_mem _ hy)
      have h2 := hc x (List.mem_cons_self ..)
      rw [List.foldl_cons, List.length_cons, Nat.succ_mul]
      omega
  have := this c 0 h
  unfold csum
  omega

theorem Count_eq {e : Int} (he : m_ref09_Check g = some e) (hz : e = 0 ↔ VG g) {n : Int} (hn : n ≤ 40 ∨ 4096 < n) : m_subset_Count g n = some (countE g e n) := by
  unfold m_subset_Count countE
  rw [Check_ref, he, Option.bind_some]
  by_cases h0 : e = 0
  case neg => rw [if_pos h0, if_pos h0]
  rw [if_neg (show ¬ e ≠ 0 from fun h => h h0), if_neg (show ¬ e ≠ 0 from fun h => h h0)]
  simp only [jp]
  by_cases c1 : n < 0
  · rw [if_pos c1, if_pos trivial, if_pos (.inl c1)]
  rw [if_neg c1]
  by_cases c2 : 4096 < n
  · rw [if_pos (decide_eq_true c2), if_pos (.inr c2)]
  rw [if_neg (by simpa using c2), if_neg (show ¬ (n < 0 ∨ 4096 < n) from fun h => h.elim c1 c2), Build_eq he hz, Option.bind_some]
  by_cases hb : (buildE g e).2.2 = 0
  case neg => rw [if_pos hb, if_pos trivial, if_pos (.inl hb)]
  rw [if_neg (by simpa using hb)]
  by_cases hs : (buildE g e).1.2.1 = 0
  case pos => rw [if_pos (decide_eq_true hs), if_pos (.inr hs)]
  rw [if_neg (show ¬ decide ((buildE g e).1.2.1 = 0) = true by simpa using hs), if_neg (show ¬ ((buildE g e).2.2 ≠ 0 ∨ (buildE g e).1.2.1 = 0) from fun h => h.elim (fun h => h hb) hs)]
  have hv := hz.1 h0
  have hne : g.2.1 ≠ 0 := fun h => by
    unfold buildE buildG at hs
    rw [if_neg (show ¬ e ≠ 0 from fun h => h h0), if_pos h] at hs
    exact hs rfl
  have hpos : 0 < g.2.1 := by have := hv.s0; omega
  have hbe : buildE g e = buildR g (upto g.2.1) := by
    unfold buildE buildG
    rw [if_neg (show ¬ e ≠ 0 from fun h => h h0), if_neg hne]
  rcases buildR_cases (upto_ok g) (upto_ne hpos) with h | ⟨E, L, hS, hrun, h⟩
  · rw [hbe, h] at hb; cases hb
  rw [hbe, h]
  dsimp only
  have hL := hS.s1
  have hE := hS.s2
  have hlp := hS.len_pos
  have hg : 0 ≤ (L.length : Int) ∧ (L.length : Int) ≤ (L.length : Int) ∧ (L.length : Int) * 24 ≤ 281474976710656 := by omega
  rw [if_pos hg, of_spec (by decide) (by decide), Option.bind_some, ix0 (by simp; omega), Option.bind_some]
  simp only [Int.toNat_natCast]
  rw [bz_zero]
  have hn40 : n.toNat ≤ 40 := by omega
  refine bindL (loop_is (fun k => ((crun E L.length k).map bz, (k : Int))) n.toNat ((crun E L.length n.toNat).map bz) (fun k hk => ?_) ?_ ?_) ?_
  · dsimp only
    rw [if_pos (by omega), if_pos hg]
    have hck := crun_le (n := L.length) hE k
    have hlen := crun_len E L.length k
    refine bindL (loop_is (fun m => ((m : Int), ((E.take m).foldl (addE (crun E L.length k)) (List.replicate L.length 0)).map bz)) E.length ((crun E L.length (k + 1)).map bz) (fun m hm => ?_) ?_ rfl) ?_
    · dsimp only
      obtain ⟨j, lab, hj, hlab, hnz, hx⟩ := hS.mem.1 (List.getElem_mem hm)
      have hto := hS.to_lt hj hlab hnz
      have e1 : E[m].1 = (j : Int) := by rw [hx]
      have e2 : E[m].2.2 = ((L.idxOf (stepL g (L.getD j []) (lab : Int)) : Nat) : Int) := by rw [hx]
      generalize hto' : L.idxOf (stepL g (L.getD j []) (lab : Int)) = t at hto e2
      have hN : ((E.take m).foldl (addE (crun E L.length k)) (List.replicate L.length 0)).length = L.length := by rw [foldE_len]; simp
      have hB := foldE_le hck (E.take m) (List.replicate L.length 0) 0 (fun y hy => by rw [(List.mem_replicate.1 hy).2]; exact Nat.le_refl _)
      have htk : E.take (m + 1) = E.take m ++ [E[m]] := by rw [List.take_add_one, List.getElem?_eq_getElem hm]; rfl
      rw [if_pos (lt_int hm), ix hm]
      simp only [Option.bind_some]
      rw [e1, e2, bz_at (by omega), bz_at (by omega)]
      simp only [Option.bind_some]
      have hml : (E.take m).length ≤ 1024 := by simp; omega
      have hmul : (E.take m).length * 1024 ^ k ≤ 1024 * 1024 ^ k := Nat.mul_le_mul_right _ hml
      have hb1 := hB _ (List.getElem_mem (show t < _ by omega))
      have hb2 := hck _ (List.getElem_mem (show j < _ by omega))
      rw [bz_add (k := k) (by omega) (by omega) (by omega)]
      simp only [Option.bind_some, Int.toNat_natCast]
      rw [bz_set, nx (by omega : E.length ≤ _) hm, htk, List.foldl_append]
      simp only [List.foldl_cons, List.foldl_nil]
      congr 4
      rw [show ∀ (c nx : List Nat) (x : Ed), addE c nx x = nx.set x.2.2.toNat (nx.getD x.2.2.toNat 0 + c.getD x.1.toNat 0) from fun _ _ _ => rfl, e1, e2]
      simp only [Int.toNat_natCast]
      congr 1
      rw [getD_lt (show t < _ by omega), getD_lt (show j < _ by omega)]
    · dsimp only
      rw [if_neg (not_lt_int _), List.take_length]
      rfl
    · rw [w64 (by omega) (by omega)]
      rfl
  · dsimp only
    rw [if_neg (by omega)]
  · show _ = ((cinit L.length).map bz, (0 : Int))
    unfold cinit
    rw [← bz_set]
    rfl
  · have hcn := crun_le (n := L.length) hE n.toNat
    have hlen := crun_len E L.length n.toNat
    generalize hcc : crun E L.length n.toNat = c at *
    refine bindL (loop_is (fun k => ((k : Int), (bz (csum (c.take k))).1, (bz (csum (c.take k))).2)) c.length (bz (csum c)) (fun k hk => ?_) ?_ (by simp [csum, bz, be0])) rfl
    · dsimp only
      rw [if_pos (by simp; omega), bz_at hk]
      simp only [Option.bind_some]
      have hs1 : csum (c.take k) ≤ 64 * 1024 ^ n.toNat := by
        have h1 := csum_le (c := c.take k) (M := 1024 ^ n.toNat) fun y hy => hcn y (List.mem_of_mem_take hy)
        have h2 : (c.take k).length ≤ 64 := by simp; omega
        have h3 : (c.take k).length * 1024 ^ n.toNat ≤ 64 * 1024 ^ n.toNat := Nat.mul_le_mul_right _ h2
        omega
      have hb2 := hcn _ (List.getElem_mem hk)
      have := bz_add (k := n.toNat) hn40 (a := csum (c.take k)) (b := c[k]) (by omega) (by omega)
      rw [show ((bz (csum (c.take k))).1, (bz (csum (c.take k))).2) = bz (csum (c.take k)) from rfl, this]
      simp only [Option.bind_some]
      rw [nx (by omega : c.length ≤ _) hk, show c.take (k + 1) = c.take k ++ [c[k]] by rw [List.take_add_one, List.getElem?_eq_getElem hk]; rfl, csum_snoc]
    · dsimp only
      rw [if_neg (by simp), List.take_length]
end
end Go.AW

/- The anchor of chapter 12; SubsetBuilds. -/
namespace Go.AW
open Go
set_option linter.unusedSimpArgs false
set_option linter.unusedVariables false

def even12 : Gr := (2, 2, [(0, 0, 1), (0, 1, 0), (1, 0, 0)])
theorem even12_ok : VG even12 where
  l1 := by decide
  l2 := by decide
  s0 := by decide
  s1 := by decide
  el := by decide
  ed := by decide
  ord := fun i h => match i, h with
    | 0, _ => show cmp3 (0, 0, 1) (0, 1, 0) < 0 by decide
    | 1, _ => show cmp3 (0, 1, 0) (1, 0, 0) < 0 by decide
    | _ + 2, h => absurd h (by simp [even12])

theorem be_7 : be 7 = [7] := by
  rw [be, if_neg (by decide), show 7 / 256 = 0 from rfl, be0]
  rfl

theorem awake12_eq : m_law12_awakeG = some true := by
  obtain ⟨e, he, hz⟩ := Check_tot even12
  have h0 := hz.2 even12_ok
  subst h0
  have hB := Build_eq he hz
  have hF := Focus_eq he hz
  have hC := Count_eq he hz (n := 3) (.inl (by decide))
  have b : buildE even12 0 = ((2, 3, [(0, 0, 0), (0, 1, 1), (1, 0, 2), (1, 1, 1), (2, 0, 1)]), [[0, 1], [0], [1]], 0) := by decide +kernel
  have f : focusE even12 0 = ([1], 0, true, 0) := by unfold focusE; rw [b]; decide +kernel
  have c : countE even12 0 3 = ((false, [7]), 0) := by
    unfold countE
    rw [b, if_neg (by decide), if_neg (by decide), if_neg (by decide)]
    have : csum (crun [(0, 0, 0), (0, 1, 1), (1, 0, 2), (1, 1, 1), (2, 0, 1)] 3 3) = 7 := by decide +kernel
    show (bz (csum (crun [(0, 0, 0), (0, 1, 1), (1, 0, 2), (1, 1, 1), (2, 0, 1)] 3 3)), (0 : Int)) = _
    rw [this]
    unfold bz
    rw [be_7]
  unfold m_law12_awakeG
  have h4 : m_law12_even = some even12 := rfl
  simp only [h4, Option.bind_some, hB, hF, hC, b, f, c, jp]
  have h7 : m_ref01_Of 7 = some (false, [7]) := by
    unfold m_ref01_Of m_ref01_mag
    rfl
  rw [SameSets_eq (by decide) (by decide), Same12_eq (by decide), h7]
  decide +kernel

section
variable {g : Gr} {e : Int}
theorem great12_tot (g : Gr) : ∃ b, m_law12_great g = some b := by
  unfold m_law12_great m_ref09_Great
  simp only [jp]
  by_cases h1 : (30 : Int) < (g.2.2.length : Int)
  · rw [if_pos h1]; exact ⟨_, rfl⟩
  · rw [if_neg h1]
    by_cases h2 : 10 < g.2.1
    · rw [if_pos h2]; exact ⟨_, rfl⟩
    · rw [if_neg h2]; exact ⟨_, rfl⟩
end
end Go.AW

/- The anchor of chapter 12. -/
namespace Go.AW
open Go Go.Proofs
theorem w_law12_awake {r : Bool} (h : m_law12_awake = some r) : Pure Tryd.prog 10 [] (· = HV.bool r) := by
  cases h
  exact w_law12_awakeG awake12_eq
end Go.AW

namespace Go.AW
open Go Go.Proofs
set_option linter.unusedVariables false
set_option maxHeartbeats 1600000 in
set_option maxRecDepth 100000 in
theorem w_ref09_Great {p0 : TLabelsStatesEdges} {r : Bool} (h : m_ref09_Great p0 = some r) : Pure Tryd.prog 28 [HV.agg [HV.int .i64 p0.1, HV.int .i64 p0.2.1, slE eFromLabelTo p0.2.2]] (· = HV.bool r) := by
 unfold m_ref09_Great at h
 refine Pure.of_body Tryd.func28 rfl rfl (Nat.le_of_ble_eq_true rfl) fun hf => ?_
 unfold Tryd.f28
 dsimp only [enumS, Nat.reduceAdd]
 refine AW.rgs rfl fun K hK => ?_
 refine b_op rfl (o_box rfl rfl rfl ?_)
 refine mv rfl rfl ?_
 refine b_fin hK (s' := ⟨[(1, HV.fptr [HV.int .i64 p0.1, HV.int .i64 p0.2.1, slE eFromLabelTo p0.2.2] 0)], []⟩) (le_q rfl rfl) ?_
 clear hK K
 refine AW.seqJ h (S := Bool) (V := Unit) (fun a v => ⟨[(2, HV.bool a)], []⟩) (fun a1 w2 h => ?_) (fun k3 h => ?_)
 ·refine AW.ret ?_
  have h := Option.some.inj h
  subst h
  exact ret_pure (hs := [HV.bool a1]) (q := HV.bool a1) (.inr rfl) (resT rfl rfl) rfl trivial
 ·refine AW.rg rfl fun K hK => ?_
  refine bv rfl (v_fieldAddrF fo24_2 rfl) ?_
  refine bv rfl (v_loadF ty22 rfl (l_lit rfl rfl)) ?_
  refine bv rfl (v_lenF rfl rfl ty22 rfl) ?_
  refine bv rfl (v_bin rfl rfl b_gtr) ?_
  refine mv rfl rfl ?_
  by_cases hg5 : 30 < ((p0.2.2).length : Int)
  ·have h := ifT hg5 h
   refine b_F rfl rfl rfl rfl rfl (decide_eq_true hg5) ?_
   refine b_F rfl rfl rfl rfl rfl rfl ?_
   refine b_F rfl rfl rfl rfl rfl rfl ?_
   refine b_F rfl rfl rfl rfl rfl rfl ?_
   refine b_U rfl rfl rfl rfl rfl ?_
   refine b_U rfl rfl rfl rfl rfl ?_
   refine b_U rfl rfl rfl rfl rfl ?_
   refine b_F rfl rfl rfl rfl rfl rfl ?_
   refine bv rfl (v_pickT rfl rfl rfl) ?_
   refine mv rfl rfl ?_
   refine b_nil (hK _ ?_)
   clear hK K
   exact to_le (s' := ⟨[(2, HV.bool true)], []⟩) (AS.le_of ⟨rfl, trivial⟩ trivial) ⟨true, (), h, rfl⟩
  ·have h := ifF hg5 h
   refine b_T rfl rfl rfl rfl (decide_eq_false hg5) (o_val rfl (v_fieldAddrF fo24_1 rfl) ?_)
   refine b_T rfl rfl rfl rfl rfl (o_val rfl (v_loadF ty3 rfl (l_lit rfl rfl)) ?_)
   refine b_T rfl rfl rfl rfl rfl (o_val rfl (v_bin rfl rfl b_gtr) ?_)
   refine b_T rfl rfl rfl rfl rfl (o_val rfl (mv_val rfl rfl).2 ?_)
   by_cases hg4 : 10 < p0.2.1
   ·have h := ifT hg4 h
    refine b_T rfl rfl rfl rfl (decide_eq_true hg4) (o_val rfl (v_fieldAddrF fo24_1 rfl) ?_)
    refine b_T rfl rfl rfl rfl rfl (o_val rfl (v_loadF ty3 rfl (l_lit rfl rfl)) ?_)
    refine b_T rfl rfl rfl rfl rfl (o_val rfl (v_bin rfl rfl b_leq) ?_)
    refine b_T rfl rfl rfl rfl rfl (o_val rfl (v_pickT rfl rfl rfl) ?_)
    refine bv rfl (v_pickF rfl rfl rfl) ?_
    refine mv rfl rfl ?_
    refine b_nil (hK _ ?_)
    clear hK K
    exact to_le (s' := ⟨[(2, HV.bool (decide (p0.2.1 ≤ 64)))], []⟩) (AS.le_of ⟨rfl, trivial⟩ trivial) ⟨decide (p0.2.1 ≤ 64), (), h, rfl⟩
   ·have h := ifF hg4 h
    refine b_F rfl rfl rfl rfl rfl (decide_eq_false hg4) ?_
    refine b_F rfl rfl rfl rfl rfl rfl ?_
    refine b_F rfl rfl rfl rfl rfl rfl ?_
    refine b_T rfl rfl rfl rfl rfl (o_val rfl (v_pickF rfl rfl rfl) ?_)
    refine bv rfl (v_pickF rfl rfl rfl) ?_
    refine mv rfl rfl ?_
    refine b_nil (hK _ ?_)
    clear hK K
    exact to_le (s' := ⟨[(2, HV.bool false)], []⟩) (AS.le_of ⟨rfl, trivial⟩ trivial) ⟨false, (), h, rfl⟩

set_option maxHeartbeats 1600000 in
set_option maxRecDepth 100000 in
theorem w_law12_great {p0 : TLabelsStatesEdges} {r : Bool} (h : m_law12_great p0 = some r) : Pure Tryd.prog 8 [HV.agg [HV.int .i64 p0.1, HV.int .i64 p0.2.1, slE eFromLabelTo p0.2.2]] (· = HV.bool r) := by
 unfold m_law12_great at h
 refine Pure.of_body Tryd.func8 rfl rfl (Nat.le_of_ble_eq_true rfl) fun hf => ?_
 unfold Tryd.f8
 dsimp only [enumS, Nat.reduceAdd]
 refine AW.rgs rfl fun K hK => ?_
 refine b_op rfl (o_box rfl rfl rfl ?_)
 refine mv rfl rfl ?_
 refine b_fin hK (s' := ⟨[(1, HV.fptr [HV.int .i64 p0.1, HV.int .i64 p0.2.1, slE eFromLabelTo p0.2.2] 0)], []⟩) (le_q rfl rfl) ?_
 clear hK K
 refine AW.rgs rfl fun K hK => ?_
 refine bv rfl (v_loadF ty24 rfl (l_litA rfl (Nat.le_of_ble_eq_true rfl) rfl)) ?_
 obtain ⟨x1, h2, h⟩ := bS h
 refine b_op rfl (o_call rfl rfl rfl rfl (ACallD.pure0 (w_ref09_Great h2)) ?_)
 refine mv rfl rfl ?_
 refine b_fin hK (s' := ⟨[(2, HV.bool x1)], []⟩) (le_q rfl rfl) ?_
 clear hK K
 refine AW.ret ?_
 have h := Option.some.inj h
 subst h
 exact ret_pure (hs := [HV.bool x1]) (q := HV.bool x1) (.inr rfl) (resT rfl rfl) rfl trivial

set_option maxHeartbeats 1600000 in
set_option maxRecDepth 100000 in
theorem w_slices_Equal_Lint_int {p0 : List (Int)} {p1 : List (Int)} {r : Bool} (h : m_slices_Equal_Lint_int p0 p1 = some r) : Pure Tryd.prog 14 [slE eInt p0, slE eInt p1] (· = HV.bool r) := by
 unfold m_slices_Equal_Lint_int at h
 refine Pure.of_body Tryd.func14 rfl rfl (Nat.le_of_ble_eq_true rfl) fun hf => ?_
 unfold Tryd.f14
 dsimp only [enumS, Nat.reduceAdd]
 refine AW.rgs rfl fun K hK => ?_
 refine mv rfl rfl ?_
 refine b_fin hK (s' := ⟨[(0, slE eInt p0), (1, slE eInt p1)], []⟩) (le_q rfl rfl) ?_
 clear hK K
 refine AW.seq ?_
 refine AW.rgs rfl fun K hK => ?_
 refine mv rfl rfl ?_
 refine bv rfl (v_lenF rfl rfl ty30 rfl) ?_
 refine mv rfl rfl ?_
 refine bv rfl (v_lenF rfl rfl ty30 rfl) ?_
 refine bv rfl (v_bin rfl rfl b_neq) ?_
 refine b_fin hK (s' := ⟨[(0, slE eInt p0), (1, slE eInt p1), (10, HV.bool (decide (((p0).length : Int) ≠ ((p1).length : Int))))], []⟩) (le_q rfl rfl) ?_
 clear hK K
 refine AW.cond rfl (fun hc => ?_) (fun hc => ?_)
 ·have hc := of_decide_eq_true hc
  have h := ifT hc h
  refine AW.rgs rfl fun K hK => ?_
  refine mv rfl rfl ?_
  refine b_fin hK (s' := ⟨[(4, HV.bool false)], []⟩) (le_q rfl rfl) ?_
  clear hK K
  refine AW.ret ?_
  have h := Option.some.inj h
  subst h
  exact ret_pure (hs := [HV.bool false]) (q := HV.bool false) (.inr rfl) (resT rfl rfl) rfl trivial
 ·have hc := of_decide_eq_false hc
  have h := ifF hc h
  refine AW.skip ?_
  refine AW.seq ?_
  refine AW.rgs rfl fun K hK => ?_
  refine mv rfl rfl ?_
  refine bv rfl (v_lenF rfl rfl ty30 rfl) ?_
  refine mv rfl rfl ?_
  refine b_fin hK (s' := ⟨[(0, slE eInt p0), (1, slE eInt p1), (12, HV.int .i64 ((p0).length : Int)), (13, HV.int .i64 0)], []⟩) (le_q rfl rfl) ?_
  clear hK K
  refine AW.lpR h (by first | exact up_then | exact up_to) (S := Int) (V := Unit) (fun a v => ⟨[(0, slE eInt p0), (1, slE eInt p1), (12, HV.int .i64 ((p0).length : Int)), (13, HV.int .i64 a)], []⟩) ?_ (X := Unit) (W := Unit) (fun a v => ⟨[], []⟩) (fun a9 w10 h => ?_) (fun a1 w2 st3 h hr4=> ?_)
  ·exact to_le (s' := ⟨[(0, slE eInt p0), (1, slE eInt p1), (12, HV.int .i64 ((p0).length : Int)), (13, HV.int .i64 0)], []⟩) (AS.le_of ⟨rfl, rfl, rfl, rfl, trivial⟩ trivial) ⟨(), rfl⟩
  ·refine AW.rgs rfl fun K hK => ?_
   refine mv rfl rfl ?_
   refine b_fin hK (s' := ⟨[(4, HV.bool true)], []⟩) (le_q rfl rfl) ?_
   clear hK K
   refine AW.ret ?_
   have h := Option.some.inj h
   subst h
   exact ret_pure (hs := [HV.bool true]) (q := HV.bool true) (.inr rfl) (resT rfl rfl) rfl trivial
  ·refine AW.rgs rfl fun K hK => ?_
   refine bv rfl (v_bin rfl rfl b_lss) ?_
   refine b_fin hK (s' := ⟨[(0, slE eInt p0), (1, slE eInt p1), (12, HV.int .i64 ((p0).length : Int)), (13, HV.int .i64 a1), (14, HV.bool (decide (a1 < ((p0).length : Int))))], []⟩) (le_q rfl rfl) ?_
   clear hK K
   refine AW.cseq rfl (fun hc => ?_) (fun hc => ?_)
   ·have hc := of_decide_eq_true hc
    have h := ifT hc h
    refine AW.skip ?_
    refine AW.seq (AW.block ?_)
    refine AW.rgs rfl fun K hK => ?_
    refine mv rfl rfl ?_
    refine mv rfl rfl ?_
    refine b_fin hK (s' := ⟨[(0, slE eInt p0), (1, slE eInt p1), (5, HV.int .i64 a1), (12, HV.int .i64 ((p0).length : Int)), (13, HV.int .i64 a1)], []⟩) (le_q rfl rfl) ?_
    clear hK K
    refine AW.dgs 9 follows rfl rfl fun K hK => ?_
    refine sm rfl rfl ?_
    refine sm rfl rfl ?_
    obtain ⟨x5, h6, h⟩ := bS h
    refine sv rfl (v_idxF ty30 es30 rfl rfl (idx_lt h6)) ?_
    refine sv rfl (v_loadF ty3 rfl (l_cell eInt h6 (o := 0) rfl rfl)) ?_
    refine sm rfl rfl ?_
    refine sm rfl rfl ?_
    obtain ⟨x7, h8, h⟩ := bS h
    refine sv rfl (v_idxF ty30 es30 rfl rfl (idx_lt h8)) ?_
    refine sv rfl (v_loadF ty3 rfl (l_cell eInt h8 (o := 0) rfl rfl)) ?_
    refine sv rfl (v_bin rfl rfl b_neq) ?_
    refine s_nil ?_
    refine b_fin hK (s' := ⟨[(0, slE eInt p0), (1, slE eInt p1), (12, HV.int .i64 ((p0).length : Int)), (13, HV.int .i64 a1), (24, HV.bool (decide (x5 ≠ x7)))], []⟩) (le_q rfl rfl) ?_
    clear hK K
    refine AW.cond rfl (fun hc => ?_) (fun hc => ?_)
    ·have hc := of_decide_eq_true hc
     have h := ifT hc h
     refine AW.rgs rfl fun K hK => ?_
     refine mv rfl rfl ?_
     refine b_fin hK (s' := ⟨[(4, HV.bool false)], []⟩) (le_q rfl rfl) ?_
     clear hK K
     have h := hr4 _ h
     refine AW.ret ?_
     have h := Option.some.inj h
     subst h
     exact ret_pure (hs := [HV.bool false]) (q := HV.bool false) (.inr rfl) (resT rfl rfl) rfl trivial
    ·have hc := of_decide_eq_false hc
     have h := ifF hc h
     refine AW.skip ?_
     refine AW.rg rfl fun K hK => ?_
     refine bv rfl (v_bin rfl rfl b_add) ?_
     refine mv rfl rfl ?_
     refine b_nil (hK _ ?_)
     clear hK K
     exact to_le (s' := ⟨[(0, slE eInt p0), (1, slE eInt p1), (12, HV.int .i64 ((p0).length : Int)), (13, HV.int .i64 (IntKind.wrap .i64 (a1 + 1)))], []⟩) (AS.le_of ⟨rfl, rfl, rfl, rfl, trivial⟩ trivial) ⟨IntKind.wrap .i64 (a1 + 1), (), h, rfl⟩
   ·have hc := of_decide_eq_false hc
    have h := ifF hc h
    refine AW.exit ?_
    exact to_le (s' := ⟨[], []⟩) (AS.le_of trivial trivial) ⟨(), (), h, rfl⟩

set_option maxHeartbeats 1600000 in
set_option maxRecDepth 100000 in
theorem w_subset_check {p0 : TLabelsStatesEdges} {p1 : List (Int)} {r : Int} (h : m_subset_check p0 p1 = some r) : Pure Tryd.prog 43 [HV.agg [HV.int .i64 p0.1, HV.int .i64 p0.2.1, slE eFromLabelTo p0.2.2], slE eInt p1] (· = HV.int .i64 r) := by
 unfold m_subset_check at h
 refine Pure.of_body Tryd.func43 rfl rfl (Nat.le_of_ble_eq_true rfl) fun hf => ?_
 unfold Tryd.f43
 dsimp only [enumS, Nat.reduceAdd]
 refine AW.rgs rfl fun K hK => ?_
 refine b_op rfl (o_box rfl rfl rfl ?_)
 refine mv rfl rfl ?_
 refine b_fin hK (s' := ⟨[(1, slE eInt p1), (2, HV.fptr [HV.int .i64 p0.1, HV.int .i64 p0.2.1, slE eFromLabelTo p0.2.2] 0)], []⟩) (le_q rfl rfl) ?_
 clear hK K
 refine AW.seq ?_
 refine AW.rgs rfl fun K hK => ?_
 refine mv rfl rfl ?_
 refine bv rfl (v_lenF rfl rfl ty30 rfl) ?_
 refine bv rfl (v_bin rfl rfl b_eql) ?_
 refine b_fin hK (s' := ⟨[(1, slE eInt p1), (2, HV.fptr [HV.int .i64 p0.1, HV.int .i64 p0.2.1, slE eFromLabelTo p0.2.2] 0), (9, HV.bool (decide (((p1).length : Int) = 0)))], []⟩) (le_q rfl rfl) ?_
 clear hK K
 refine AW.cond rfl (fun hc => ?_) (fun hc => ?_)
 ·have hc := of_decide_eq_true hc
  have h := ifT hc h
  refine AW.rgs rfl fun K hK => ?_
  refine mv rfl rfl ?_
  refine b_fin hK (s' := ⟨[(4, HV.int .i64 5)], []⟩) (le_q rfl rfl) ?_
  clear hK K
  refine AW.ret ?_
  have h := Option.some.inj h
  subst h
  exact ret_pure (hs := [HV.int .i64 5]) (q := HV.int .i64 5) (.inr rfl) (resT rfl rfl) rfl trivial
 ·have hc := of_decide_eq_false hc
  have h := ifF hc h
  refine AW.skip ?_
  refine AW.seq ?_
  refine AW.rgs rfl fun K hK => ?_
  refine mv rfl rfl ?_
  refine bv rfl (v_lenF rfl rfl ty30 rfl) ?_
  refine mv rfl rfl ?_
  refine b_fin hK (s' := ⟨[(1, slE eInt p1), (2, HV.fptr [HV.int .i64 p0.1, HV.int .i64 p0.2.1, slE eFromLabelTo p0.2.2] 0), (10, slE eInt p1), (11, HV.int .i64 ((p1).length : Int)), (12, HV.int .i64 0)], []⟩) (le_q rfl rfl) ?_
  clear hK K
  refine AW.lpR h (by first | exact up_then | exact up_to) (S := Int) (V := Unit) (fun a v => ⟨[(1, slE eInt p1), (2, HV.fptr [HV.int .i64 p0.1, HV.int .i64 p0.2.1, slE eFromLabelTo p0.2.2] 0), (10, slE eInt p1), (11, HV.int .i64 ((p1).length : Int)), (12, HV.int .i64 a)], []⟩) ?_ (X := Unit) (W := Unit) (fun a v => ⟨[], []⟩) (fun a17 w18 h => ?_) (fun a1 w2 st3 h hr4=> ?_)
  ·exact to_le (s' := ⟨[(1, slE eInt p1), (2, HV.fptr [HV.int .i64 p0.1, HV.int .i64 p0.2.1, slE eFromLabelTo p0.2.2] 0), (10, slE eInt p1), (11, HV.int .i64 ((p1).length : Int)), (12, HV.int .i64 0)], []⟩) (AS.le_of ⟨rfl, rfl, rfl, rfl, rfl, trivial⟩ trivial) ⟨(), rfl⟩
  ·refine AW.rgs rfl fun K hK => ?_
   refine mv rfl rfl ?_
   refine b_fin hK (s' := ⟨[(4, HV.int .i64 0)], []⟩) (le_q rfl rfl) ?_
   clear hK K
   refine AW.ret ?_
   have h := Option.some.inj h
   subst h
   exact ret_pure (hs := [HV.int .i64 0]) (q := HV.int .i64 0) (.inr rfl) (resT rfl rfl) rfl trivial
  ·refine AW.rgs rfl fun K hK => ?_
   refine bv rfl (v_bin rfl rfl b_lss) ?_
   refine b_fin hK (s' := ⟨[(1, slE eInt p1), (2, HV.fptr [HV.int .i64 p0.1, HV.int .i64 p0.2.1, slE eFromLabelTo p0.2.2] 0), (10, slE eInt p1), (11, HV.int .i64 ((p1).length : Int)), (12, HV.int .i64 a1), (13, HV.bool (decide (a1 < ((p1).length : Int))))], []⟩) (le_q rfl rfl) ?_
   clear hK K
   refine AW.cseq rfl (fun hc => ?_) (fun hc => ?_)
   ·have hc := of_decide_eq_true hc
    have h := ifT hc h
    refine AW.skip ?_
    refine AW.seq (AW.block ?_)
    refine AW.rgs rfl fun K hK => ?_
    refine mv rfl rfl ?_
    obtain ⟨x5, h6, h⟩ := bS h
    refine bv rfl (v_idxF ty30 es30 rfl rfl (idx_lt h6)) ?_
    refine bv rfl (v_loadF ty3 rfl (l_cell eInt h6 (o := 0) rfl rfl)) ?_
    refine mv rfl rfl ?_
    refine mv rfl rfl ?_
    refine b_fin hK (s' := ⟨[(1, slE eInt p1), (2, HV.fptr [HV.int .i64 p0.1, HV.int .i64 p0.2.1, slE eFromLabelTo p0.2.2] 0), (5, HV.int .i64 a1), (6, HV.int .i64 x5), (10, slE eInt p1), (11, HV.int .i64 ((p1).length : Int)), (12, HV.int .i64 a1)], []⟩) (le_q rfl rfl) ?_
    clear hK K
    refine AW.seq ?_
    refine AW.seqJ h (S := Bool) (V := Unit) (fun a v => ⟨[(1, slE eInt p1), (2, HV.fptr [HV.int .i64 p0.1, HV.int .i64 p0.2.1, slE eFromLabelTo p0.2.2] 0), (5, HV.int .i64 a1), (6, HV.int .i64 x5), (10, slE eInt p1), (11, HV.int .i64 ((p1).length : Int)), (12, HV.int .i64 a1), (24, HV.bool a)], []⟩) (fun a7 w8 h => ?_) (fun k9 h => ?_)
    ·refine AW.cond rfl (fun hc => ?_) (fun hc => ?_)
     ·have h := ifT hc h
      refine AW.rgs rfl fun K hK => ?_
      refine mv rfl rfl ?_
      refine b_fin hK (s' := ⟨[(4, HV.int .i64 25)], []⟩) (le_q rfl rfl) ?_
      clear hK K
      have h := hr4 _ h
      refine AW.ret ?_
      have h := Option.some.inj h
      subst h
      exact ret_pure (hs := [HV.int .i64 25]) (q := HV.int .i64 25) (.inr rfl) (resT rfl rfl) rfl trivial
     ·have h := ifF (bF' hc) h
      refine AW.skip ?_
      refine AW.seqJ h (S := Bool) (V := Unit) (fun a v => ⟨[(1, slE eInt p1), (2, HV.fptr [HV.int .i64 p0.1, HV.int .i64 p0.2.1, slE eFromLabelTo p0.2.2] 0), (10, slE eInt p1), (11, HV.int .i64 ((p1).length : Int)), (12, HV.int .i64 a1), (35, HV.bool a)], []⟩) (fun a10 w11 h => ?_) (fun k12 h => ?_)
      ·refine AW.cond rfl (fun hc => ?_) (fun hc => ?_)
       ·have h := ifT hc h
        refine AW.rgs rfl fun K hK => ?_
        refine mv rfl rfl ?_
        refine b_fin hK (s' := ⟨[(4, HV.int .i64 10)], []⟩) (le_q rfl rfl) ?_
        clear hK K
        have h := hr4 _ h
        refine AW.ret ?_
        have h := Option.some.inj h
        subst h
        exact ret_pure (hs := [HV.int .i64 10]) (q := HV.int .i64 10) (.inr rfl) (resT rfl rfl) rfl trivial
       ·have h := ifF (bF' hc) h
        refine AW.skip ?_
        refine AW.rg rfl fun K hK => ?_
        refine bv rfl (v_bin rfl rfl b_add) ?_
        refine mv rfl rfl ?_
        refine b_nil (hK _ ?_)
        clear hK K
        exact to_le (s' := ⟨[(1, slE eInt p1), (2, HV.fptr [HV.int .i64 p0.1, HV.int .i64 p0.2.1, slE eFromLabelTo p0.2.2] 0), (10, slE eInt p1), (11, HV.int .i64 ((p1).length : Int)), (12, HV.int .i64 (IntKind.wrap .i64 (a1 + 1)))], []⟩) (AS.le_of ⟨rfl, rfl, rfl, rfl, rfl, trivial⟩ trivial) ⟨IntKind.wrap .i64 (a1 + 1), (), h, rfl⟩
      ·refine AW.rg rfl fun K hK => ?_
       refine mv rfl rfl ?_
       refine bv rfl (v_bin rfl rfl b_gtr) ?_
       refine mv rfl rfl ?_
       by_cases hg15 : 0 < a1
       ·have h := ifT hg15 h
        refine b_T rfl rfl rfl rfl (decide_eq_true hg15) (o_val rfl (mv_val rfl rfl).2 ?_)
        refine b_T rfl rfl rfl rfl rfl (o_val rfl (mv_val rfl rfl).2 ?_)
        refine b_T rfl rfl rfl rfl rfl (o_val rfl (mv_val rfl rfl).2 ?_)
        refine b_T rfl rfl rfl rfl rfl (o_val rfl (v_bin rfl rfl b_sub) ?_)
        obtain ⟨x13, h14, h⟩ := bS h
        refine b_T rfl rfl rfl rfl rfl (o_val rfl (v_idxF ty30 es30 rfl rfl (idx_lt h14)) ?_)
        refine b_T rfl rfl rfl rfl rfl (o_val rfl (v_loadF ty3 rfl (l_cell eInt h14 (o := 0) rfl rfl)) ?_)
        refine b_T rfl rfl rfl rfl rfl (o_val rfl (v_bin rfl rfl b_leq) ?_)
        refine bv rfl (v_pickT rfl rfl rfl) ?_
        refine b_nil (hK _ ?_)
        clear hK K
        exact to_le (s' := ⟨[(1, slE eInt p1), (2, HV.fptr [HV.int .i64 p0.1, HV.int .i64 p0.2.1, slE eFromLabelTo p0.2.2] 0), (10, slE eInt p1), (11, HV.int .i64 ((p1).length : Int)), (12, HV.int .i64 a1), (35, HV.bool (decide (x5 ≤ x13)))], []⟩) (AS.le_of ⟨rfl, rfl, rfl, rfl, rfl, rfl, trivial⟩ trivial) ⟨decide (x5 ≤ x13), (), h, rfl⟩
       ·have h := ifF hg15 h
        refine b_F rfl rfl rfl rfl rfl (decide_eq_false hg15) ?_
        refine b_F rfl rfl rfl rfl rfl rfl ?_
        refine b_F rfl rfl rfl rfl rfl rfl ?_
        refine b_F rfl rfl rfl rfl rfl rfl ?_
        refine b_F rfl rfl rfl rfl rfl rfl ?_
        refine b_F rfl rfl rfl rfl rfl rfl ?_
        refine b_F rfl rfl rfl rfl rfl rfl ?_
        refine bv rfl (v_pickF rfl rfl rfl) ?_
        refine b_nil (hK _ ?_)
        clear hK K
        exact to_le (s' := ⟨[(1, slE eInt p1), (2, HV.fptr [HV.int .i64 p0.1, HV.int .i64 p0.2.1, slE eFromLabelTo p0.2.2] 0), (10, slE eInt p1), (11, HV.int .i64 ((p1).length : Int)), (12, HV.int .i64 a1), (35, HV.bool false)], []⟩) (AS.le_of ⟨rfl, rfl, rfl, rfl, rfl, rfl, trivial⟩ trivial) ⟨false, (), h, rfl⟩
    ·refine AW.rg rfl fun K hK => ?_
     refine mv rfl rfl ?_
     refine bv rfl (v_bin rfl rfl b_lss) ?_
     refine mv rfl rfl ?_
     by_cases hg16 : x5 < 0
     ·have h := ifT hg16 h
      refine b_F rfl rfl rfl rfl rfl (decide_eq_true hg16) ?_
      refine b_F rfl rfl rfl rfl rfl rfl ?_
      refine b_F rfl rfl rfl rfl rfl rfl ?_
      refine b_F rfl rfl rfl rfl rfl rfl ?_
      refine bv rfl (v_pickT rfl rfl rfl) ?_
      refine b_nil (hK _ ?_)
      clear hK K
      exact to_le (s' := ⟨[(1, slE eInt p1), (2, HV.fptr [HV.int .i64 p0.1, HV.int .i64 p0.2.1, slE eFromLabelTo p0.2.2] 0), (5, HV.int .i64 a1), (6, HV.int .i64 x5), (10, slE eInt p1), (11, HV.int .i64 ((p1).length : Int)), (12, HV.int .i64 a1), (24, HV.bool true)], []⟩) (AS.le_of ⟨rfl, rfl, rfl, rfl, rfl, rfl, rfl, rfl, trivial⟩ trivial) ⟨true, (), h, rfl⟩
     ·have h := ifF hg16 h
      refine b_T rfl rfl rfl rfl (decide_eq_false hg16) (o_val rfl (mv_val rfl rfl).2 ?_)
      refine b_T rfl rfl rfl rfl rfl (o_val rfl (v_fieldAddrF fo24_1 rfl) ?_)
      refine b_T rfl rfl rfl rfl rfl (o_val rfl (v_loadF ty3 rfl (l_lit rfl rfl)) ?_)
      refine b_T rfl rfl rfl rfl rfl (o_val rfl (v_bin rfl rfl b_geq) ?_)
      refine bv rfl (v_pickF rfl rfl rfl) ?_
      refine b_nil (hK _ ?_)
      clear hK K
      exact to_le (s' := ⟨[(1, slE eInt p1), (2, HV.fptr [HV.int .i64 p0.1, HV.int .i64 p0.2.1, slE eFromLabelTo p0.2.2] 0), (5, HV.int .i64 a1), (6, HV.int .i64 x5), (10, slE eInt p1), (11, HV.int .i64 ((p1).length : Int)), (12, HV.int .i64 a1), (24, HV.bool (decide (p0.2.1 ≤ x5)))], []⟩) (AS.le_of ⟨rfl, rfl, rfl, rfl, rfl, rfl, rfl, rfl, trivial⟩ trivial) ⟨decide (p0.2.1 ≤ x5), (), h, rfl⟩
   ·have hc := of_decide_eq_false hc
    have h := ifF hc h
    refine AW.exit ?_
    exact to_le (s' := ⟨[], []⟩) (AS.le_of trivial trivial) ⟨(), (), h, rfl⟩

set_option maxHeartbeats 1600000 in
set_option maxRecDepth 100000 in
theorem w_subset_From {p0 : TLabelsStatesEdges} {p1 : List (Int)} {r : TLabelsStatesEdges × (List (List (Int))) × Int} (h : m_subset_From p0 p1 = some r) : Pure Tryd.prog 18 [HV.agg [HV.int .i64 p0.1, HV.int .i64 p0.2.1, slE eFromLabelTo p0.2.2], slE eInt p1] (· = HV.tup [HV.agg [HV.int .i64 r.1.1, HV.int .i64 r.1.2.1, slE eFromLabelTo r.1.2.2], slE (eSl eInt) r.2.1, HV.int .i64 r.2.2]) := by
 unfold m_subset_From at h
 refine Pure.of_body Tryd.func18 rfl rfl (Nat.le_of_ble_eq_true rfl) fun hf => ?_
 unfold Tryd.f18
 dsimp only [enumS, Nat.reduceAdd]
 refine AW.rgs rfl fun K hK => ?_
 refine b_op rfl (o_box rfl rfl rfl ?_)
 refine b_op rfl (o_alloc (fid := 18) (zs := [HV.int .i64 0, HV.int .i64 0, HV.v (.slice none 0 0)]) 18004 rfl rfl ty24 rfl (fun v1 => ?_))
 refine mv rfl rfl ?_
 refine mv rfl rfl ?_
 refine b_fin hK (s' := ⟨[(1, slE eInt p1), (2, HV.fptr [HV.int .i64 p0.1, HV.int .i64 p0.2.1, slE eFromLabelTo p0.2.2] 0), (4, HV.ptr 18004 v1 0)], [(18004, v1, .arr 3 24 [HV.int .i64 0, HV.int .i64 0, HV.v (.slice none 0 0)])]⟩) (le_q rfl rfl) ?_
 clear hK K
 refine AW.seq ?_
 refine AW.rgs rfl fun K hK => ?_
 refine bv rfl (v_loadF ty24 rfl (l_litA rfl (Nat.le_of_ble_eq_true rfl) rfl)) ?_
 obtain ⟨x2, h3, h⟩ := bS h
 refine b_op rfl (o_call rfl rfl rfl rfl (ACallD.pure0 (w_graph_Check h3)) ?_)
 refine bv rfl (v_bin rfl rfl b_neq) ?_
 refine b_fin hK (s' := ⟨[(1, slE eInt p1), (2, HV.fptr [HV.int .i64 p0.1, HV.int .i64 p0.2.1, slE eFromLabelTo p0.2.2] 0), (4, HV.ptr 18004 v1 0), (10, HV.bool (decide (x2 ≠ 0)))], [(18004, v1, .arr 3 24 [HV.int .i64 0, HV.int .i64 0, HV.v (.slice none 0 0)])]⟩) (le_q rfl rfl) ?_
 clear hK K
 refine AW.cond rfl (fun hc => ?_) (fun hc => ?_)
 ·have hc := of_decide_eq_true hc
  have h := ifT hc h
  refine AW.rgs rfl fun K hK => ?_
  refine b_op rfl (o_build (cs := [HV.int .i64 0, HV.int .i64 0, HV.v (.slice none 0 0)]) rfl (bl_of ty24 rfl rfl rfl rfl) ?_)
  refine b_op rfl (o_store (cs := [HV.int .i64 0, HV.int .i64 0, HV.v (.slice none 0 0)]) (zs := [HV.int .i64 0, HV.int .i64 0, HV.v (.slice none 0 0)]) rfl rfl rfl ty24 rfl rfl rfl rfl rfl ?_)
  refine mv rfl rfl ?_
  refine mv rfl rfl ?_
  refine b_fin hK (s' := ⟨[(4, HV.ptr 18004 v1 0), (5, HV.v (.slice none 0 0)), (6, HV.int .i64 1)], [(18004, v1, .arr 3 24 [HV.int .i64 0, HV.int .i64 0, HV.v (.slice none 0 0)])]⟩) (le_q rfl rfl) ?_
  clear hK K
  refine AW.to (to_weak ⟨[(4, HV.ptr 18004 v1 0), (5, slE (eSl eInt) ([] : List (List (Int)))), (6, HV.int .i64 1)], [(18004, v1, .arr 3 24 [HV.int .i64 0, HV.int .i64 0, HV.v (.slice none 0 0)])]⟩ ⟨⟨_, rfl, .refl _⟩, ⟨_, rfl, .nil _⟩, ⟨_, rfl, .refl _⟩, trivial⟩ ⟨rfl, trivial⟩ ?_)
  refine AW.to (to_cells 18004 v1 (ds := [HV.int .i64 0, HV.int .i64 0, slE eFromLabelTo ([] : List TFromLabelTo)]) rfl (.cons (.refl _) <| .cons (.refl _) <| .cons (.nil _) <| .nil) ?_)
  refine AW.ret ?_
  have h := Option.some.inj h
  subst h
  exact ret_pure (hs := [HV.agg [HV.int .i64 0, HV.int .i64 0, slE eFromLabelTo ([] : List TFromLabelTo)], slE (eSl eInt) ([] : List (List (Int))), HV.int .i64 1]) (q := HV.tup [HV.agg [HV.int .i64 0, HV.int .i64 0, slE eFromLabelTo ([] : List TFromLabelTo)], slE (eSl eInt) ([] : List (List (Int))), HV.int .i64 1]) (.inr rfl) (resP ty24 rfl rfl (l_litA rfl (Nat.le_of_ble_eq_true rfl) rfl) (resT rfl (resT rfl rfl))) rfl ⟨⟨trivial, trivial, (clean_slE fun _ _ => ⟨trivial, trivial, trivial, trivial⟩), trivial⟩, (clean_slE fun _ _ => ⟨(clean_slE fun _ _ => ⟨trivial, trivial⟩), trivial⟩), trivial, trivial⟩
 ·have hc := of_decide_eq_false hc
  have h := ifF hc h
  refine AW.skip ?_
  refine AW.seq ?_
  refine AW.rgs rfl fun K hK => ?_
  refine bv rfl (v_loadF ty24 rfl (l_litA rfl (Nat.le_of_ble_eq_true rfl) rfl)) ?_
  refine mv rfl rfl ?_
  obtain ⟨x4, h5, h⟩ := bS h
  refine b_op rfl (o_call rfl rfl rfl rfl (ACallD.pure0 (w_subset_check h5)) ?_)
  refine mv rfl rfl ?_
  refine b_fin hK (s' := ⟨[(1, slE eInt p1), (2, HV.fptr [HV.int .i64 p0.1, HV.int .i64 p0.2.1, slE eFromLabelTo p0.2.2] 0), (4, HV.ptr 18004 v1 0), (7, HV.int .i64 x4)], [(18004, v1, .arr 3 24 [HV.int .i64 0, HV.int .i64 0, HV.v (.slice none 0 0)])]⟩) (le_q rfl rfl) ?_
  clear hK K
  refine AW.rgs rfl fun K hK => ?_
  refine mv rfl rfl ?_
  refine bv rfl (v_bin rfl rfl b_neq) ?_
  refine b_fin hK (s' := ⟨[(1, slE eInt p1), (2, HV.fptr [HV.int .i64 p0.1, HV.int .i64 p0.2.1, slE eFromLabelTo p0.2.2] 0), (4, HV.ptr 18004 v1 0), (7, HV.int .i64 x4), (16, HV.bool (decide (x4 ≠ 0)))], [(18004, v1, .arr 3 24 [HV.int .i64 0, HV.int .i64 0, HV.v (.slice none 0 0)])]⟩) (le_q rfl rfl) ?_
  clear hK K
  refine AW.cond rfl (fun hc => ?_) (fun hc => ?_)
  ·have hc := of_decide_eq_true hc
   have h := ifT hc h
   refine AW.rgs rfl fun K hK => ?_
   refine b_op rfl (o_build (cs := [HV.int .i64 0, HV.int .i64 0, HV.v (.slice none 0 0)]) rfl (bl_of ty24 rfl rfl rfl rfl) ?_)
   refine mv rfl rfl ?_
   refine b_op rfl (o_store (cs := [HV.int .i64 0, HV.int .i64 0, HV.v (.slice none 0 0)]) (zs := [HV.int .i64 0, HV.int .i64 0, HV.v (.slice none 0 0)]) rfl rfl rfl ty24 rfl rfl rfl rfl rfl ?_)
   refine mv rfl rfl ?_
   refine mv rfl rfl ?_
   refine b_fin hK (s' := ⟨[(4, HV.ptr 18004 v1 0), (5, HV.v (.slice none 0 0)), (6, HV.int .i64 x4)], [(18004, v1, .arr 3 24 [HV.int .i64 0, HV.int .i64 0, HV.v (.slice none 0 0)])]⟩) (le_q rfl rfl) ?_
   clear hK K
   refine AW.to (to_weak ⟨[(4, HV.ptr 18004 v1 0), (5, slE (eSl eInt) ([] : List (List (Int)))), (6, HV.int .i64 x4)], [(18004, v1, .arr 3 24 [HV.int .i64 0, HV.int .i64 0, HV.v (.slice none 0 0)])]⟩ ⟨⟨_, rfl, .refl _⟩, ⟨_, rfl, .nil _⟩, ⟨_, rfl, .refl _⟩, trivial⟩ ⟨rfl, trivial⟩ ?_)
   refine AW.to (to_cells 18004 v1 (ds := [HV.int .i64 0, HV.int .i64 0, slE eFromLabelTo ([] : List TFromLabelTo)]) rfl (.cons (.refl _) <| .cons (.refl _) <| .cons (.nil _) <| .nil) ?_)
   refine AW.ret ?_
   have h := Option.some.inj h
   subst h
   exact ret_pure (hs := [HV.agg [HV.int .i64 0, HV.int .i64 0, slE eFromLabelTo ([] : List TFromLabelTo)], slE (eSl eInt) ([] : List (List (Int))), HV.int .i64 x4]) (q := HV.tup [HV.agg [HV.int .i64 0, HV.int .i64 0, slE eFromLabelTo ([] : List TFromLabelTo)], slE (eSl eInt) ([] : List (List (Int))), HV.int .i64 x4]) (.inr rfl) (resP ty24 rfl rfl (l_litA rfl (Nat.le_of_ble_eq_true rfl) rfl) (resT rfl (resT rfl rfl))) rfl ⟨⟨trivial, trivial, (clean_slE fun _ _ => ⟨trivial, trivial, trivial, trivial⟩), trivial⟩, (clean_slE fun _ _ => ⟨(clean_slE fun _ _ => ⟨trivial, trivial⟩), trivial⟩), trivial, trivial⟩
  ·have hc := of_decide_eq_false hc
   have h := ifF hc h
   refine AW.skip ?_
   refine AW.rgs rfl fun K hK => ?_
   refine bv rfl (v_loadF ty24 rfl (l_litA rfl (Nat.le_of_ble_eq_true rfl) rfl)) ?_
   refine mv rfl rfl ?_
   obtain ⟨x6, h7, h⟩ := bS h
   refine b_op rfl (o_call rfl rfl rfl rfl (ACallD.pure0 (w_subset_build h7)) ?_)
   refine bv rfl (v_extract rfl rfl) ?_
   refine bv rfl (v_extract rfl rfl) ?_
   refine bv rfl (v_extract rfl rfl) ?_
   refine b_op rfl (o_store (cs := [HV.int .i64 x6.1.1, HV.int .i64 x6.1.2.1, slE eFromLabelTo x6.1.2.2]) (zs := [HV.int .i64 x6.1.1, HV.int .i64 x6.1.2.1, slE eFromLabelTo x6.1.2.2]) rfl rfl rfl ty24 rfl rfl rfl rfl rfl ?_)
   refine mv rfl rfl ?_
   refine mv rfl rfl ?_
   refine b_fin hK (s' := ⟨[(4, HV.ptr 18004 v1 0), (5, slE (eSl eInt) x6.2.1), (6, HV.int .i64 x6.2.2)], [(18004, v1, .arr 3 24 [HV.int .i64 x6.1.1, HV.int .i64 x6.1.2.1, slE eFromLabelTo x6.1.2.2])]⟩) (le_q rfl rfl) ?_
   clear hK K
   refine AW.ret ?_
   have h := Option.some.inj h
   subst h
   exact ret_pure (hs := [HV.agg [HV.int .i64 x6.1.1, HV.int .i64 x6.1.2.1, slE eFromLabelTo x6.1.2.2], slE (eSl eInt) x6.2.1, HV.int .i64 x6.2.2]) (q := HV.tup [HV.agg [HV.int .i64 x6.1.1, HV.int .i64 x6.1.2.1, slE eFromLabelTo x6.1.2.2], slE (eSl eInt) x6.2.1, HV.int .i64 x6.2.2]) (.inr rfl) (resP ty24 rfl rfl (l_litA rfl (Nat.le_of_ble_eq_true rfl) rfl) (resT rfl (resT rfl rfl))) rfl ⟨⟨trivial, trivial, (clean_slE fun _ _ => ⟨trivial, trivial, trivial, trivial⟩), trivial⟩, (clean_slE fun _ _ => ⟨(clean_slE fun _ _ => ⟨trivial, trivial⟩), trivial⟩), trivial, trivial⟩

end Go.AW

namespace Go.AW
open Go Go.Proofs
set_option linter.unusedVariables false
set_option maxHeartbeats 1600000 in
set_option maxRecDepth 100000 in
theorem w_graph_Deterministic {p0 : TLabelsStatesEdges} {r : Bool × Int} (h : m_graph_Deterministic p0 = some r) : Pure Tryd.prog 22 [HV.agg [HV.int .i64 p0.1, HV.int .i64 p0.2.1, slE eFromLabelTo p0.2.2]] (· = HV.tup [HV.bool r.1, HV.int .i64 r.2]) := by
 unfold m_graph_Deterministic at h
 refine Pure.of_body Tryd.func22 rfl rfl (Nat.le_of_ble_eq_true rfl) fun hf => ?_
 unfold Tryd.f22
 dsimp only [enumS, Nat.reduceAdd]
 refine AW.rgs rfl fun K hK => ?_
 refine b_op rfl (o_box rfl rfl rfl ?_)
 refine mv rfl rfl ?_
 refine mv rfl rfl ?_
 refine b_fin hK (s' := ⟨[(1, HV.fptr [HV.int .i64 p0.1, HV.int .i64 p0.2.1, slE eFromLabelTo p0.2.2] 0)], []⟩) (le_q rfl rfl) ?_
 clear hK K
 refine AW.seq ?_
 refine AW.rgs rfl fun K hK => ?_
 refine bv rfl (v_loadF ty24 rfl (l_litA rfl (Nat.le_of_ble_eq_true rfl) rfl)) ?_
 obtain ⟨x1, h2, h⟩ := bS h
 refine b_op rfl (o_call rfl rfl rfl rfl (ACallD.pure0 (w_graph_Check h2)) ?_)
 refine bv rfl (v_bin rfl rfl b_neq) ?_
 refine b_fin hK (s' := ⟨[(1, HV.fptr [HV.int .i64 p0.1, HV.int .i64 p0.2.1, slE eFromLabelTo p0.2.2] 0), (9, HV.bool (decide (x1 ≠ 0)))], []⟩) (le_q rfl rfl) ?_
 clear hK K
 refine AW.cond rfl (fun hc => ?_) (fun hc => ?_)
 ·have hc := of_decide_eq_true hc
  have h := ifT hc h
  refine AW.rgs rfl fun K hK => ?_
  refine mv rfl rfl ?_
  refine mv rfl rfl ?_
  refine b_fin hK (s' := ⟨[(2, HV.bool false), (3, HV.int .i64 1)], []⟩) (le_q rfl rfl) ?_
  clear hK K
  refine AW.ret ?_
  have h := Option.some.inj h
  subst h
  exact ret_pure (hs := [HV.bool false, HV.int .i64 1]) (q := HV.tup [HV.bool false, HV.int .i64 1]) (.inr rfl) (resT rfl (resT rfl rfl)) rfl ⟨trivial, trivial, trivial⟩
 ·have hc := of_decide_eq_false hc
  have h := ifF hc h
  refine AW.skip ?_
  refine AW.seq ?_
  refine AW.rgs rfl fun K hK => ?_
  refine mv rfl rfl ?_
  refine b_fin hK (s' := ⟨[(1, HV.fptr [HV.int .i64 p0.1, HV.int .i64 p0.2.1, slE eFromLabelTo p0.2.2] 0), (4, HV.int .i64 1)], []⟩) (le_q rfl rfl) ?_
  clear hK K
  refine AW.lpR h (by first | exact up_then | exact up_to) (S := Int) (V := Unit) (fun a v => ⟨[(1, HV.fptr [HV.int .i64 p0.1, HV.int .i64 p0.2.1, slE eFromLabelTo p0.2.2] 0), (4, HV.int .i64 a)], []⟩) ?_ (X := Unit) (W := Unit) (fun a v => ⟨[], []⟩) (fun a12 w13 h => ?_) (fun a3 w4 st5 h hr6=> ?_)
  ·exact to_le (s' := ⟨[(1, HV.fptr [HV.int .i64 p0.1, HV.int .i64 p0.2.1, slE eFromLabelTo p0.2.2] 0), (4, HV.int .i64 1)], []⟩) (AS.le_of ⟨rfl, rfl, trivial⟩ trivial) ⟨(), rfl⟩
  ·refine AW.rgs rfl fun K hK => ?_
   refine mv rfl rfl ?_
   refine mv rfl rfl ?_
   refine b_fin hK (s' := ⟨[(2, HV.bool true), (3, HV.int .i64 0)], []⟩) (le_q rfl rfl) ?_
   clear hK K
   refine AW.ret ?_
   have h := Option.some.inj h
   subst h
   exact ret_pure (hs := [HV.bool true, HV.int .i64 0]) (q := HV.tup [HV.bool true, HV.int .i64 0]) (.inr rfl) (resT rfl (resT rfl rfl)) rfl ⟨trivial, trivial, trivial⟩
  ·refine AW.seq ?_
   refine AW.rgs rfl fun K hK => ?_
   refine mv rfl rfl ?_
   refine bv rfl (v_fieldAddrF fo24_2 rfl) ?_
   refine bv rfl (v_loadF ty22 rfl (l_lit rfl rfl)) ?_
   refine bv rfl (v_lenF rfl rfl ty22 rfl) ?_
   refine bv rfl (v_bin rfl rfl b_lss) ?_
   refine b_fin hK (s' := ⟨[(1, HV.fptr [HV.int .i64 p0.1, HV.int .i64 p0.2.1, slE eFromLabelTo p0.2.2] 0), (4, HV.int .i64 a3), (14, HV.bool (decide (a3 < ((p0.2.2).length : Int))))], []⟩) (le_q rfl rfl) ?_
   clear hK K
   refine AW.cond rfl (fun hc => ?_) (fun hc => ?_)
   ·have hc := of_decide_eq_true hc
    have h := ifT hc h
    refine AW.skip ?_
    refine AW.seq (AW.block ?_)
    refine AW.dls follows fun K hK F hF => ?_
    obtain ⟨x70401, h70402, h⟩ := bS h
    obtain ⟨x70901, h70902, h⟩ := bS h
    refine l_go (L' := []) hF rfl (s' := ⟨[(1, HV.fptr [HV.int .i64 p0.1, HV.int .i64 p0.2.1, slE eFromLabelTo p0.2.2] 0), (4, HV.int .i64 a3)], []⟩) ?_ (le_q rfl rfl)
    have g7_27 : ∀ (v71101 : Nat) (v71201 : Nat), F [0, 1, 2, 3, 4, 5, 6, 7, 8, 9, 10, 11, 12, 13, 14] ⟨[(1, HV.fptr [HV.int .i64 p0.1, HV.int .i64 p0.2.1, slE eFromLabelTo p0.2.2] 0), (4, HV.int .i64 a3), (5, HV.ptr 22005 v71101 0), (6, HV.ptr 22006 v71201 0)], [(22005, v71101, .arr 3 49 [HV.int .i64 x70401.1, HV.int .i64 x70401.2.1, HV.int .i64 x70401.2.2]), (22006, v71201, .arr 3 49 [HV.int .i64 x70901.1, HV.int .i64 x70901.2.1, HV.int .i64 x70901.2.2])]⟩ := by
     intro v71101 v71201
     refine l_done hF rfl rfl (hK _ (AW.to (to_le (s' := ⟨[(1, HV.fptr [HV.int .i64 p0.1, HV.int .i64 p0.2.1, slE eFromLabelTo p0.2.2] 0), (4, HV.int .i64 a3), (5, HV.ptr 22005 v71101 0), (6, HV.ptr 22006 v71201 0)], [(22005, v71101, .arr 3 49 [HV.int .i64 x70401.1, HV.int .i64 x70401.2.1, HV.int .i64 x70401.2.2]), (22006, v71201, .arr 3 49 [HV.int .i64 x70901.1, HV.int .i64 x70901.2.1, HV.int .i64 x70901.2.2])]⟩) (le_q rfl rfl) ?_)))
     first | clear hF F hK K | clear hK K
     refine AW.seqJ h (S := Bool) (V := Unit) (fun a v => ⟨[(1, HV.fptr [HV.int .i64 p0.1, HV.int .i64 p0.2.1, slE eFromLabelTo p0.2.2] 0), (4, HV.int .i64 a3), (39, HV.bool a)], []⟩) (fun a8 w9 h => ?_) (fun k10 h => ?_)
     ·refine AW.cond rfl (fun hc => ?_) (fun hc => ?_)
      ·have h := ifT hc h
       refine AW.rgs rfl fun K hK => ?_
       refine mv rfl rfl ?_
       refine mv rfl rfl ?_
       refine b_fin hK (s' := ⟨[(2, HV.bool false), (3, HV.int .i64 0)], []⟩) (le_q rfl rfl) ?_
       first | clear hF F hK K | clear hK K
       have h := hr6 _ h
       refine AW.ret ?_
       have h := Option.some.inj h
       subst h
       exact ret_pure (hs := [HV.bool false, HV.int .i64 0]) (q := HV.tup [HV.bool false, HV.int .i64 0]) (.inr rfl) (resT rfl (resT rfl rfl)) rfl ⟨trivial, trivial, trivial⟩
      ·have h := ifF (bF' hc) h
       refine AW.skip ?_
       refine AW.rg rfl fun K hK => ?_
       refine mv rfl rfl ?_
       refine bv rfl (v_bin rfl rfl b_add) ?_
       refine mv rfl rfl ?_
       refine b_nil (hK _ ?_)
       first | clear hF F hK K | clear hK K
       exact to_le (s' := ⟨[(1, HV.fptr [HV.int .i64 p0.1, HV.int .i64 p0.2.1, slE eFromLabelTo p0.2.2] 0), (4, HV.int .i64 (IntKind.wrap .i64 (a3 + 1)))], []⟩) (AS.le_of ⟨rfl, rfl, trivial⟩ trivial) ⟨IntKind.wrap .i64 (a3 + 1), (), h, rfl⟩
     ·refine AW.rg rfl fun K hK => ?_
      refine bv rfl (v_fieldAddrP fo49_0 rfl rfl) ?_
      refine bv rfl (v_loadP ty3 rfl rfl (l_lit rfl rfl)) ?_
      refine bv rfl (v_fieldAddrP fo49_0 rfl rfl) ?_
      refine bv rfl (v_loadP ty3 rfl rfl (l_lit rfl rfl)) ?_
      refine bv rfl (v_bin rfl rfl b_eql) ?_
      refine mv rfl rfl ?_
      by_cases hg11 : x70401.1 = x70901.1
      ·have h := ifT hg11 h
       refine b_T rfl rfl rfl rfl (decide_eq_true hg11) (o_val rfl (v_fieldAddrP fo49_1 rfl rfl) ?_)
       refine b_T rfl rfl rfl rfl rfl (o_val rfl (v_loadP ty3 rfl rfl (l_lit rfl rfl)) ?_)
       refine b_T rfl rfl rfl rfl rfl (o_val rfl (v_fieldAddrP fo49_1 rfl rfl) ?_)
       refine b_T rfl rfl rfl rfl rfl (o_val rfl (v_loadP ty3 rfl rfl (l_lit rfl rfl)) ?_)
       refine b_T rfl rfl rfl rfl rfl (o_val rfl (v_bin rfl rfl b_eql) ?_)
       refine bv rfl (v_pickT rfl rfl rfl) ?_
       refine b_nil (hK _ ?_)
       first | clear hF F hK K | clear hK K
       exact to_le (s' := ⟨[(1, HV.fptr [HV.int .i64 p0.1, HV.int .i64 p0.2.1, slE eFromLabelTo p0.2.2] 0), (4, HV.int .i64 a3), (39, HV.bool (decide (x70401.2.1 = x70901.2.1)))], []⟩) (AS.le_of ⟨rfl, rfl, rfl, trivial⟩ trivial) ⟨decide (x70401.2.1 = x70901.2.1), (), h, rfl⟩
      ·have h := ifF hg11 h
       refine b_F rfl rfl rfl rfl rfl (decide_eq_false hg11) ?_
       refine b_F rfl rfl rfl rfl rfl rfl ?_
       refine b_F rfl rfl rfl rfl rfl rfl ?_
       refine b_F rfl rfl rfl rfl rfl rfl ?_
       refine b_F rfl rfl rfl rfl rfl rfl ?_
       refine bv rfl (v_pickF rfl rfl rfl) ?_
       refine b_nil (hK _ ?_)
       first | clear hF F hK K | clear hK K
       exact to_le (s' := ⟨[(1, HV.fptr [HV.int .i64 p0.1, HV.int .i64 p0.2.1, slE eFromLabelTo p0.2.2] 0), (4, HV.int .i64 a3), (39, HV.bool false)], []⟩) (AS.le_of ⟨rfl, rfl, rfl, trivial⟩ trivial) ⟨false, (), h, rfl⟩
    have g7_26 : ∀ (v71101 : Nat) (v71201 : Nat), F [0, 1, 2, 3, 4, 5, 6, 7, 8, 9, 10, 11, 12, 13] ⟨[(1, HV.fptr [HV.int .i64 p0.1, HV.int .i64 p0.2.1, slE eFromLabelTo p0.2.2] 0), (4, HV.int .i64 a3), (5, HV.ptr 22005 v71101 0), (6, HV.ptr 22006 v71201 0), (27, HV.agg [HV.int .i64 x70901.1, HV.int .i64 x70901.2.1, HV.int .i64 x70901.2.2])], [(22005, v71101, .arr 3 49 [HV.int .i64 x70401.1, HV.int .i64 x70401.2.1, HV.int .i64 x70401.2.2]), (22006, v71201, .arr 3 49 [HV.int .i64 0, HV.int .i64 0, HV.int .i64 0])]⟩ := by
     intro v71101 v71201
     refine l_step hF rfl [14] rfl rfl ⟨?_, trivial⟩
     ·refine l_op rfl rfl rfl (o_store (cs := [HV.int .i64 x70901.1, HV.int .i64 x70901.2.1, HV.int .i64 x70901.2.2]) (zs := [HV.int .i64 x70901.1, HV.int .i64 x70901.2.1, HV.int .i64 x70901.2.2]) rfl rfl rfl ty49 rfl rfl rfl rfl rfl ?_)
      exact b_nil (l_go hF rfl (g7_27 v71101 v71201) (le_q rfl rfl))
    have g7_25 : ∀ (v71101 : Nat) (v71201 : Nat), F [0, 1, 2, 3, 4, 5, 6, 7, 8, 9, 10, 11, 12] ⟨[(1, HV.fptr [HV.int .i64 p0.1, HV.int .i64 p0.2.1, slE eFromLabelTo p0.2.2] 0), (4, HV.int .i64 a3), (5, HV.ptr 22005 v71101 0), (6, HV.ptr 22006 v71201 0), (22, HV.agg [HV.int .i64 x70401.1, HV.int .i64 x70401.2.1, HV.int .i64 x70401.2.2]), (27, HV.agg [HV.int .i64 x70901.1, HV.int .i64 x70901.2.1, HV.int .i64 x70901.2.2])], [(22005, v71101, .arr 3 49 [HV.int .i64 0, HV.int .i64 0, HV.int .i64 0]), (22006, v71201, .arr 3 49 [HV.int .i64 0, HV.int .i64 0, HV.int .i64 0])]⟩ := by
     intro v71101 v71201
     refine l_step hF rfl [13] rfl rfl ⟨?_, trivial⟩
     ·refine l_op rfl rfl rfl (o_store (cs := [HV.int .i64 x70401.1, HV.int .i64 x70401.2.1, HV.int .i64 x70401.2.2]) (zs := [HV.int .i64 x70401.1, HV.int .i64 x70401.2.1, HV.int .i64 x70401.2.2]) rfl rfl rfl ty49 rfl rfl rfl rfl rfl ?_)
      exact b_nil (l_go hF rfl (g7_26 v71101 v71201) (le_q rfl rfl))
    have g7_31 : ∀ (v71101 : Nat) (v71201 : Nat), F [0, 1, 2, 3, 4, 5, 6, 7, 8, 9, 11, 12, 13] ⟨[(1, HV.fptr [HV.int .i64 p0.1, HV.int .i64 p0.2.1, slE eFromLabelTo p0.2.2] 0), (4, HV.int .i64 a3), (5, HV.ptr 22005 v71101 0), (6, HV.ptr 22006 v71201 0), (26, HV.fptr (eFromLabelTo.E p0.2.2) ((a3).toNat * eFromLabelTo.k))], [(22005, v71101, .arr 3 49 [HV.int .i64 x70401.1, HV.int .i64 x70401.2.1, HV.int .i64 x70401.2.2]), (22006, v71201, .arr 3 49 [HV.int .i64 0, HV.int .i64 0, HV.int .i64 0])]⟩ := by
     intro v71101 v71201
     refine l_step hF rfl [10] rfl rfl ⟨?_, trivial⟩
     ·refine l_op rfl rfl rfl (o_val rfl (v_loadF ty49 rfl (l_agg eFromLabelTo h70902 rfl rfl)) ?_)
      exact b_nil (l_go hF rfl (g7_26 v71101 v71201) (le_q rfl rfl))
    have g7_24 : ∀ (v71101 : Nat) (v71201 : Nat), F [0, 1, 2, 3, 4, 6, 7, 8, 9, 10, 11, 12] ⟨[(1, HV.fptr [HV.int .i64 p0.1, HV.int .i64 p0.2.1, slE eFromLabelTo p0.2.2] 0), (4, HV.int .i64 a3), (5, HV.ptr 22005 v71101 0), (6, HV.ptr 22006 v71201 0), (21, HV.fptr (eFromLabelTo.E p0.2.2) ((IntKind.wrap .i64 (a3 - 1)).toNat * eFromLabelTo.k)), (27, HV.agg [HV.int .i64 x70901.1, HV.int .i64 x70901.2.1, HV.int .i64 x70901.2.2])], [(22005, v71101, .arr 3 49 [HV.int .i64 0, HV.int .i64 0, HV.int .i64 0]), (22006, v71201, .arr 3 49 [HV.int .i64 0, HV.int .i64 0, HV.int .i64 0])]⟩ := by
     intro v71101 v71201
     refine l_step hF rfl [5] rfl rfl ⟨?_, trivial⟩
     ·refine l_op rfl rfl rfl (o_val rfl (v_loadF ty49 rfl (l_agg eFromLabelTo h70402 rfl rfl)) ?_)
      exact b_nil (l_go hF rfl (g7_25 v71101 v71201) (le_q rfl rfl))
    have g7_30 : ∀ (v71101 : Nat) (v71201 : Nat), F [0, 1, 2, 3, 4, 5, 6, 7, 8, 9, 11, 12] ⟨[(1, HV.fptr [HV.int .i64 p0.1, HV.int .i64 p0.2.1, slE eFromLabelTo p0.2.2] 0), (4, HV.int .i64 a3), (5, HV.ptr 22005 v71101 0), (6, HV.ptr 22006 v71201 0), (22, HV.agg [HV.int .i64 x70401.1, HV.int .i64 x70401.2.1, HV.int .i64 x70401.2.2]), (26, HV.fptr (eFromLabelTo.E p0.2.2) ((a3).toNat * eFromLabelTo.k))], [(22005, v71101, .arr 3 49 [HV.int .i64 0, HV.int .i64 0, HV.int .i64 0]), (22006, v71201, .arr 3 49 [HV.int .i64 0, HV.int .i64 0, HV.int .i64 0])]⟩ := by
     intro v71101 v71201
     refine l_step hF rfl [10, 13] rfl rfl ⟨?_, ?_, trivial⟩
     ·refine l_op rfl rfl rfl (o_val rfl (v_loadF ty49 rfl (l_agg eFromLabelTo h70902 rfl rfl)) ?_)
      exact b_nil (l_go hF rfl (g7_25 v71101 v71201) (le_q rfl rfl))
     ·refine l_op rfl rfl rfl (o_store (cs := [HV.int .i64 x70401.1, HV.int .i64 x70401.2.1, HV.int .i64 x70401.2.2]) (zs := [HV.int .i64 x70401.1, HV.int .i64 x70401.2.1, HV.int .i64 x70401.2.2]) rfl rfl rfl ty49 rfl rfl rfl rfl rfl ?_)
      exact b_nil (l_go hF rfl (g7_31 v71101 v71201) (le_q rfl rfl))
    have g7_39 : ∀ (v71101 : Nat) (v71201 : Nat), F [0, 1, 2, 3, 4, 5, 6, 7, 8, 11, 12, 13] ⟨[(1, HV.fptr [HV.int .i64 p0.1, HV.int .i64 p0.2.1, slE eFromLabelTo p0.2.2] 0), (4, HV.int .i64 a3), (5, HV.ptr 22005 v71101 0), (6, HV.ptr 22006 v71201 0), (24, slE eFromLabelTo p0.2.2), (25, HV.int .i64 a3)], [(22005, v71101, .arr 3 49 [HV.int .i64 x70401.1, HV.int .i64 x70401.2.1, HV.int .i64 x70401.2.2]), (22006, v71201, .arr 3 49 [HV.int .i64 0, HV.int .i64 0, HV.int .i64 0])]⟩ := by
     intro v71101 v71201
     refine l_take (i := 9) hF rfl rfl rfl (v_idxF ty22 es22 rfl rfl (idx_lt h70902)) ?_
     exact l_go hF rfl (g7_31 v71101 v71201) (le_q rfl rfl)
    have g7_49 : ∀ (v71201 : Nat), F [0, 1, 2, 3, 4, 5, 6, 7, 8, 9, 10, 12] ⟨[(1, HV.fptr [HV.int .i64 p0.1, HV.int .i64 p0.2.1, slE eFromLabelTo p0.2.2] 0), (4, HV.int .i64 a3), (6, HV.ptr 22006 v71201 0), (22, HV.agg [HV.int .i64 x70401.1, HV.int .i64 x70401.2.1, HV.int .i64 x70401.2.2]), (27, HV.agg [HV.int .i64 x70901.1, HV.int .i64 x70901.2.1, HV.int .i64 x70901.2.2])], [(22006, v71201, .arr 3 49 [HV.int .i64 0, HV.int .i64 0, HV.int .i64 0])]⟩ := by
     intro v71201
     refine l_step hF rfl [11] rfl rfl ⟨?_, trivial⟩
     ·refine l_op rfl rfl rfl (o_alloc (fid := 22) (zs := [HV.int .i64 0, HV.int .i64 0, HV.int .i64 0]) 22005 rfl rfl ty49 rfl (fun v71101 => ?_))
      exact b_nil (l_go hF rfl (g7_25 v71101 v71201) (le_q rfl rfl))
    have g7_71 : ∀ (v71101 : Nat), F [0, 1, 2, 3, 4, 5, 6, 7, 8, 9, 10, 11] ⟨[(1, HV.fptr [HV.int .i64 p0.1, HV.int .i64 p0.2.1, slE eFromLabelTo p0.2.2] 0), (4, HV.int .i64 a3), (5, HV.ptr 22005 v71101 0), (22, HV.agg [HV.int .i64 x70401.1, HV.int .i64 x70401.2.1, HV.int .i64 x70401.2.2]), (27, HV.agg [HV.int .i64 x70901.1, HV.int .i64 x70901.2.1, HV.int .i64 x70901.2.2])], [(22005, v71101, .arr 3 49 [HV.int .i64 0, HV.int .i64 0, HV.int .i64 0])]⟩ := by
     intro v71101
     refine l_step hF rfl [12] rfl rfl ⟨?_, trivial⟩
     ·refine l_op rfl rfl rfl (o_alloc (fid := 22) (zs := [HV.int .i64 0, HV.int .i64 0, HV.int .i64 0]) 22006 rfl rfl ty49 rfl (fun v71201 => ?_))
      exact b_nil (l_go hF rfl (g7_25 v71101 v71201) (le_q rfl rfl))
    have g7_23 : ∀ (v71101 : Nat) (v71201 : Nat), F [0, 1, 2, 3, 6, 7, 8, 9, 10, 11, 12] ⟨[(1, HV.fptr [HV.int .i64 p0.1, HV.int .i64 p0.2.1, slE eFromLabelTo p0.2.2] 0), (4, HV.int .i64 a3), (5, HV.ptr 22005 v71101 0), (6, HV.ptr 22006 v71201 0), (18, slE eFromLabelTo p0.2.2), (20, HV.int .i64 (IntKind.wrap .i64 (a3 - 1))), (27, HV.agg [HV.int .i64 x70901.1, HV.int .i64 x70901.2.1, HV.int .i64 x70901.2.2])], [(22005, v71101, .arr 3 49 [HV.int .i64 0, HV.int .i64 0, HV.int .i64 0]), (22006, v71201, .arr 3 49 [HV.int .i64 0, HV.int .i64 0, HV.int .i64 0])]⟩ := by
     intro v71101 v71201
     refine l_take (i := 4) hF rfl rfl rfl (v_idxF ty22 es22 rfl rfl (idx_lt h70402)) ?_
     exact l_go hF rfl (g7_24 v71101 v71201) (le_q rfl rfl)
    have g7_29 : ∀ (v71101 : Nat) (v71201 : Nat), F [0, 1, 2, 3, 4, 6, 7, 8, 9, 11, 12] ⟨[(1, HV.fptr [HV.int .i64 p0.1, HV.int .i64 p0.2.1, slE eFromLabelTo p0.2.2] 0), (4, HV.int .i64 a3), (5, HV.ptr 22005 v71101 0), (6, HV.ptr 22006 v71201 0), (21, HV.fptr (eFromLabelTo.E p0.2.2) ((IntKind.wrap .i64 (a3 - 1)).toNat * eFromLabelTo.k)), (26, HV.fptr (eFromLabelTo.E p0.2.2) ((a3).toNat * eFromLabelTo.k))], [(22005, v71101, .arr 3 49 [HV.int .i64 0, HV.int .i64 0, HV.int .i64 0]), (22006, v71201, .arr 3 49 [HV.int .i64 0, HV.int .i64 0, HV.int .i64 0])]⟩ := by
     intro v71101 v71201
     refine l_step hF rfl [5, 10] rfl rfl ⟨?_, ?_, trivial⟩
     ·refine l_op rfl rfl rfl (o_val rfl (v_loadF ty49 rfl (l_agg eFromLabelTo h70402 rfl rfl)) ?_)
      exact b_nil (l_go hF rfl (g7_30 v71101 v71201) (le_q rfl rfl))
     ·refine l_op rfl rfl rfl (o_val rfl (v_loadF ty49 rfl (l_agg eFromLabelTo h70902 rfl rfl)) ?_)
      exact b_nil (l_go hF rfl (g7_24 v71101 v71201) (le_q rfl rfl))
    have g7_37 : ∀ (v71101 : Nat) (v71201 : Nat), F [0, 1, 2, 3, 4, 5, 6, 7, 8, 11, 12] ⟨[(1, HV.fptr [HV.int .i64 p0.1, HV.int .i64 p0.2.1, slE eFromLabelTo p0.2.2] 0), (4, HV.int .i64 a3), (5, HV.ptr 22005 v71101 0), (6, HV.ptr 22006 v71201 0), (22, HV.agg [HV.int .i64 x70401.1, HV.int .i64 x70401.2.1, HV.int .i64 x70401.2.2]), (24, slE eFromLabelTo p0.2.2), (25, HV.int .i64 a3)], [(22005, v71101, .arr 3 49 [HV.int .i64 0, HV.int .i64 0, HV.int .i64 0]), (22006, v71201, .arr 3 49 [HV.int .i64 0, HV.int .i64 0, HV.int .i64 0])]⟩ := by
     intro v71101 v71201
     refine l_take (i := 9) hF rfl rfl rfl (v_idxF ty22 es22 rfl rfl (idx_lt h70902)) ?_
     exact l_go hF rfl (g7_30 v71101 v71201) (le_q rfl rfl)
    have g7_38 : ∀ (v71101 : Nat) (v71201 : Nat), F [0, 1, 2, 3, 4, 5, 6, 8, 11, 12, 13] ⟨[(1, HV.fptr [HV.int .i64 p0.1, HV.int .i64 p0.2.1, slE eFromLabelTo p0.2.2] 0), (4, HV.int .i64 a3), (5, HV.ptr 22005 v71101 0), (6, HV.ptr 22006 v71201 0), (23, HV.fptr [HV.int .i64 p0.1, HV.int .i64 p0.2.1, slE eFromLabelTo p0.2.2] 2), (25, HV.int .i64 a3)], [(22005, v71101, .arr 3 49 [HV.int .i64 x70401.1, HV.int .i64 x70401.2.1, HV.int .i64 x70401.2.2]), (22006, v71201, .arr 3 49 [HV.int .i64 0, HV.int .i64 0, HV.int .i64 0])]⟩ := by
     intro v71101 v71201
     refine l_step hF rfl [7] rfl rfl ⟨?_, trivial⟩
     ·refine l_op rfl rfl rfl (o_val rfl (v_loadF ty22 rfl (l_lit rfl rfl)) ?_)
      exact b_nil (l_go hF rfl (g7_39 v71101 v71201) (le_q rfl rfl))
    have g7_48 : ∀ (v71201 : Nat), F [0, 1, 2, 3, 4, 6, 7, 8, 9, 10, 12] ⟨[(1, HV.fptr [HV.int .i64 p0.1, HV.int .i64 p0.2.1, slE eFromLabelTo p0.2.2] 0), (4, HV.int .i64 a3), (6, HV.ptr 22006 v71201 0), (21, HV.fptr (eFromLabelTo.E p0.2.2) ((IntKind.wrap .i64 (a3 - 1)).toNat * eFromLabelTo.k)), (27, HV.agg [HV.int .i64 x70901.1, HV.int .i64 x70901.2.1, HV.int .i64 x70901.2.2])], [(22006, v71201, .arr 3 49 [HV.int .i64 0, HV.int .i64 0, HV.int .i64 0])]⟩ := by
     intro v71201
     refine l_step hF rfl [5, 11] rfl rfl ⟨?_, ?_, trivial⟩
     ·refine l_op rfl rfl rfl (o_val rfl (v_loadF ty49 rfl (l_agg eFromLabelTo h70402 rfl rfl)) ?_)
      exact b_nil (l_go hF rfl (g7_49 v71201) (le_q rfl rfl))
     ·refine l_op rfl rfl rfl (o_alloc (fid := 22) (zs := [HV.int .i64 0, HV.int .i64 0, HV.int .i64 0]) 22005 rfl rfl ty49 rfl (fun v71101 => ?_))
      exact b_nil (l_go hF rfl (g7_24 v71101 v71201) (le_q rfl rfl))
    have g7_52 : ∀ (v71201 : Nat), F [0, 1, 2, 3, 4, 5, 6, 7, 8, 9, 12] ⟨[(1, HV.fptr [HV.int .i64 p0.1, HV.int .i64 p0.2.1, slE eFromLabelTo p0.2.2] 0), (4, HV.int .i64 a3), (6, HV.ptr 22006 v71201 0), (22, HV.agg [HV.int .i64 x70401.1, HV.int .i64 x70401.2.1, HV.int .i64 x70401.2.2]), (26, HV.fptr (eFromLabelTo.E p0.2.2) ((a3).toNat * eFromLabelTo.k))], [(22006, v71201, .arr 3 49 [HV.int .i64 0, HV.int .i64 0, HV.int .i64 0])]⟩ := by
     intro v71201
     refine l_step hF rfl [10, 11] rfl rfl ⟨?_, ?_, trivial⟩
     ·refine l_op rfl rfl rfl (o_val rfl (v_loadF ty49 rfl (l_agg eFromLabelTo h70902 rfl rfl)) ?_)
      exact b_nil (l_go hF rfl (g7_49 v71201) (le_q rfl rfl))
     ·refine l_op rfl rfl rfl (o_alloc (fid := 22) (zs := [HV.int .i64 0, HV.int .i64 0, HV.int .i64 0]) 22005 rfl rfl ty49 rfl (fun v71101 => ?_))
      exact b_nil (l_go hF rfl (g7_30 v71101 v71201) (le_q rfl rfl))
    have g7_70 : ∀ (v71101 : Nat), F [0, 1, 2, 3, 4, 6, 7, 8, 9, 10, 11] ⟨[(1, HV.fptr [HV.int .i64 p0.1, HV.int .i64 p0.2.1, slE eFromLabelTo p0.2.2] 0), (4, HV.int .i64 a3), (5, HV.ptr 22005 v71101 0), (21, HV.fptr (eFromLabelTo.E p0.2.2) ((IntKind.wrap .i64 (a3 - 1)).toNat * eFromLabelTo.k)), (27, HV.agg [HV.int .i64 x70901.1, HV.int .i64 x70901.2.1, HV.int .i64 x70901.2.2])], [(22005, v71101, .arr 3 49 [HV.int .i64 0, HV.int .i64 0, HV.int .i64 0])]⟩ := by
     intro v71101
     refine l_step hF rfl [5, 12] rfl rfl ⟨?_, ?_, trivial⟩
     ·refine l_op rfl rfl rfl (o_val rfl (v_loadF ty49 rfl (l_agg eFromLabelTo h70402 rfl rfl)) ?_)
      exact b_nil (l_go hF rfl (g7_71 v71101) (le_q rfl rfl))
     ·refine l_op rfl rfl rfl (o_alloc (fid := 22) (zs := [HV.int .i64 0, HV.int .i64 0, HV.int .i64 0]) 22006 rfl rfl ty49 rfl (fun v71201 => ?_))
      exact b_nil (l_go hF rfl (g7_24 v71101 v71201) (le_q rfl rfl))
    have g7_74 : ∀ (v71101 : Nat), F [0, 1, 2, 3, 4, 5, 6, 7, 8, 9, 11] ⟨[(1, HV.fptr [HV.int .i64 p0.1, HV.int .i64 p0.2.1, slE eFromLabelTo p0.2.2] 0), (4, HV.int .i64 a3), (5, HV.ptr 22005 v71101 0), (22, HV.agg [HV.int .i64 x70401.1, HV.int .i64 x70401.2.1, HV.int .i64 x70401.2.2]), (26, HV.fptr (eFromLabelTo.E p0.2.2) ((a3).toNat * eFromLabelTo.k))], [(22005, v71101, .arr 3 49 [HV.int .i64 0, HV.int .i64 0, HV.int .i64 0])]⟩ := by
     intro v71101
     refine l_step hF rfl [10, 12] rfl rfl ⟨?_, ?_, trivial⟩
     ·refine l_op rfl rfl rfl (o_val rfl (v_loadF ty49 rfl (l_agg eFromLabelTo h70902 rfl rfl)) ?_)
      exact b_nil (l_go hF rfl (g7_71 v71101) (le_q rfl rfl))
     ·refine l_op rfl rfl rfl (o_alloc (fid := 22) (zs := [HV.int .i64 0, HV.int .i64 0, HV.int .i64 0]) 22006 rfl rfl ty49 rfl (fun v71201 => ?_))
      exact b_nil (l_go hF rfl (g7_30 v71101 v71201) (le_q rfl rfl))
    have g7_90 : F [0, 1, 2, 3, 4, 5, 6, 7, 8, 9, 10] ⟨[(1, HV.fptr [HV.int .i64 p0.1, HV.int .i64 p0.2.1, slE eFromLabelTo p0.2.2] 0), (4, HV.int .i64 a3), (22, HV.agg [HV.int .i64 x70401.1, HV.int .i64 x70401.2.1, HV.int .i64 x70401.2.2]), (27, HV.agg [HV.int .i64 x70901.1, HV.int .i64 x70901.2.1, HV.int .i64 x70901.2.2])], []⟩ := by
     refine l_step hF rfl [11, 12] rfl rfl ⟨?_, ?_, trivial⟩
     ·refine l_op rfl rfl rfl (o_alloc (fid := 22) (zs := [HV.int .i64 0, HV.int .i64 0, HV.int .i64 0]) 22005 rfl rfl ty49 rfl (fun v71101 => ?_))
      exact b_nil (l_go hF rfl (g7_71 v71101) (le_q rfl rfl))
     ·refine l_op rfl rfl rfl (o_alloc (fid := 22) (zs := [HV.int .i64 0, HV.int .i64 0, HV.int .i64 0]) 22006 rfl rfl ty49 rfl (fun v71201 => ?_))
      exact b_nil (l_go hF rfl (g7_49 v71201) (le_q rfl rfl))
    have g7_21 : ∀ (v71101 : Nat) (v71201 : Nat), F [0, 1, 2, 6, 7, 8, 9, 10, 11, 12] ⟨[(1, HV.fptr [HV.int .i64 p0.1, HV.int .i64 p0.2.1, slE eFromLabelTo p0.2.2] 0), (4, HV.int .i64 a3), (5, HV.ptr 22005 v71101 0), (6, HV.ptr 22006 v71201 0), (18, slE eFromLabelTo p0.2.2), (19, HV.int .i64 a3), (27, HV.agg [HV.int .i64 x70901.1, HV.int .i64 x70901.2.1, HV.int .i64 x70901.2.2])], [(22005, v71101, .arr 3 49 [HV.int .i64 0, HV.int .i64 0, HV.int .i64 0]), (22006, v71201, .arr 3 49 [HV.int .i64 0, HV.int .i64 0, HV.int .i64 0])]⟩ := by
     intro v71101 v71201
     refine l_step hF rfl [3] rfl rfl ⟨?_, trivial⟩
     ·refine l_op rfl rfl rfl (o_val rfl (v_bin rfl rfl b_sub) ?_)
      exact b_nil (l_go hF rfl (g7_23 v71101 v71201) (le_q rfl rfl))
    have g7_22 : ∀ (v71101 : Nat) (v71201 : Nat), F [0, 2, 3, 6, 7, 8, 9, 10, 11, 12] ⟨[(1, HV.fptr [HV.int .i64 p0.1, HV.int .i64 p0.2.1, slE eFromLabelTo p0.2.2] 0), (4, HV.int .i64 a3), (5, HV.ptr 22005 v71101 0), (6, HV.ptr 22006 v71201 0), (17, HV.fptr [HV.int .i64 p0.1, HV.int .i64 p0.2.1, slE eFromLabelTo p0.2.2] 2), (20, HV.int .i64 (IntKind.wrap .i64 (a3 - 1))), (27, HV.agg [HV.int .i64 x70901.1, HV.int .i64 x70901.2.1, HV.int .i64 x70901.2.2])], [(22005, v71101, .arr 3 49 [HV.int .i64 0, HV.int .i64 0, HV.int .i64 0]), (22006, v71201, .arr 3 49 [HV.int .i64 0, HV.int .i64 0, HV.int .i64 0])]⟩ := by
     intro v71101 v71201
     refine l_step hF rfl [1] rfl rfl ⟨?_, trivial⟩
     ·refine l_op rfl rfl rfl (o_val rfl (v_loadF ty22 rfl (l_lit rfl rfl)) ?_)
      exact b_nil (l_go hF rfl (g7_23 v71101 v71201) (le_q rfl rfl))
    have g7_28 : ∀ (v71101 : Nat) (v71201 : Nat), F [0, 1, 2, 3, 6, 7, 8, 9, 11, 12] ⟨[(1, HV.fptr [HV.int .i64 p0.1, HV.int .i64 p0.2.1, slE eFromLabelTo p0.2.2] 0), (4, HV.int .i64 a3), (5, HV.ptr 22005 v71101 0), (6, HV.ptr 22006 v71201 0), (18, slE eFromLabelTo p0.2.2), (20, HV.int .i64 (IntKind.wrap .i64 (a3 - 1))), (26, HV.fptr (eFromLabelTo.E p0.2.2) ((a3).toNat * eFromLabelTo.k))], [(22005, v71101, .arr 3 49 [HV.int .i64 0, HV.int .i64 0, HV.int .i64 0]), (22006, v71201, .arr 3 49 [HV.int .i64 0, HV.int .i64 0, HV.int .i64 0])]⟩ := by
     intro v71101 v71201
     refine l_take (i := 4) hF rfl rfl rfl (v_idxF ty22 es22 rfl rfl (idx_lt h70402)) ?_
     exact l_go hF rfl (g7_29 v71101 v71201) (le_q rfl rfl)
    have g7_35 : ∀ (v71101 : Nat) (v71201 : Nat), F [0, 1, 2, 3, 4, 5, 6, 8, 11, 12] ⟨[(1, HV.fptr [HV.int .i64 p0.1, HV.int .i64 p0.2.1, slE eFromLabelTo p0.2.2] 0), (4, HV.int .i64 a3), (5, HV.ptr 22005 v71101 0), (6, HV.ptr 22006 v71201 0), (22, HV.agg [HV.int .i64 x70401.1, HV.int .i64 x70401.2.1, HV.int .i64 x70401.2.2]), (23, HV.fptr [HV.int .i64 p0.1, HV.int .i64 p0.2.1, slE eFromLabelTo p0.2.2] 2), (25, HV.int .i64 a3)], [(22005, v71101, .arr 3 49 [HV.int .i64 0, HV.int .i64 0, HV.int .i64 0]), (22006, v71201, .arr 3 49 [HV.int .i64 0, HV.int .i64 0, HV.int .i64 0])]⟩ := by
     intro v71101 v71201
     refine l_step hF rfl [7, 13] rfl rfl ⟨?_, ?_, trivial⟩
     ·refine l_op rfl rfl rfl (o_val rfl (v_loadF ty22 rfl (l_lit rfl rfl)) ?_)
      exact b_nil (l_go hF rfl (g7_37 v71101 v71201) (le_q rfl rfl))
     ·refine l_op rfl rfl rfl (o_store (cs := [HV.int .i64 x70401.1, HV.int .i64 x70401.2.1, HV.int .i64 x70401.2.2]) (zs := [HV.int .i64 x70401.1, HV.int .i64 x70401.2.1, HV.int .i64 x70401.2.2]) rfl rfl rfl ty49 rfl rfl rfl rfl rfl ?_)
      exact b_nil (l_go hF rfl (g7_38 v71101 v71201) (le_q rfl rfl))
    have g7_36 : ∀ (v71101 : Nat) (v71201 : Nat), F [0, 1, 2, 3, 4, 6, 7, 8, 11, 12] ⟨[(1, HV.fptr [HV.int .i64 p0.1, HV.int .i64 p0.2.1, slE eFromLabelTo p0.2.2] 0), (4, HV.int .i64 a3), (5, HV.ptr 22005 v71101 0), (6, HV.ptr 22006 v71201 0), (21, HV.fptr (eFromLabelTo.E p0.2.2) ((IntKind.wrap .i64 (a3 - 1)).toNat * eFromLabelTo.k)), (24, slE eFromLabelTo p0.2.2), (25, HV.int .i64 a3)], [(22005, v71101, .arr 3 49 [HV.int .i64 0, HV.int .i64 0, HV.int .i64 0]), (22006, v71201, .arr 3 49 [HV.int .i64 0, HV.int .i64 0, HV.int .i64 0])]⟩ := by
     intro v71101 v71201
     refine l_take (i := 9) hF rfl rfl rfl (v_idxF ty22 es22 rfl rfl (idx_lt h70902)) ?_
     exact l_go hF rfl (g7_29 v71101 v71201) (le_q rfl rfl)
    have g7_47 : ∀ (v71201 : Nat), F [0, 1, 2, 3, 6, 7, 8, 9, 10, 12] ⟨[(1, HV.fptr [HV.int .i64 p0.1, HV.int .i64 p0.2.1, slE eFromLabelTo p0.2.2] 0), (4, HV.int .i64 a3), (6, HV.ptr 22006 v71201 0), (18, slE eFromLabelTo p0.2.2), (20, HV.int .i64 (IntKind.wrap .i64 (a3 - 1))), (27, HV.agg [HV.int .i64 x70901.1, HV.int .i64 x70901.2.1, HV.int .i64 x70901.2.2])], [(22006, v71201, .arr 3 49 [HV.int .i64 0, HV.int .i64 0, HV.int .i64 0])]⟩ := by
     intro v71201
     refine l_take (i := 4) hF rfl rfl rfl (v_idxF ty22 es22 rfl rfl (idx_lt h70402)) ?_
     exact l_go hF rfl (g7_48 v71201) (le_q rfl rfl)
    have g7_51 : ∀ (v71201 : Nat), F [0, 1, 2, 3, 4, 6, 7, 8, 9, 12] ⟨[(1, HV.fptr [HV.int .i64 p0.1, HV.int .i64 p0.2.1, slE eFromLabelTo p0.2.2] 0), (4, HV.int .i64 a3), (6, HV.ptr 22006 v71201 0), (21, HV.fptr (eFromLabelTo.E p0.2.2) ((IntKind.wrap .i64 (a3 - 1)).toNat * eFromLabelTo.k)), (26, HV.fptr (eFromLabelTo.E p0.2.2) ((a3).toNat * eFromLabelTo.k))], [(22006, v71201, .arr 3 49 [HV.int .i64 0, HV.int .i64 0, HV.int .i64 0])]⟩ := by
     intro v71201
     refine l_step hF rfl [5, 10, 11] rfl rfl ⟨?_, ?_, ?_, trivial⟩
     ·refine l_op rfl rfl rfl (o_val rfl (v_loadF ty49 rfl (l_agg eFromLabelTo h70402 rfl rfl)) ?_)
      exact b_nil (l_go hF rfl (g7_52 v71201) (le_q rfl rfl))
     ·refine l_op rfl rfl rfl (o_val rfl (v_loadF ty49 rfl (l_agg eFromLabelTo h70902 rfl rfl)) ?_)
      exact b_nil (l_go hF rfl (g7_48 v71201) (le_q rfl rfl))
     ·refine l_op rfl rfl rfl (o_alloc (fid := 22) (zs := [HV.int .i64 0, HV.int .i64 0, HV.int .i64 0]) 22005 rfl rfl ty49 rfl (fun v71101 => ?_))
      exact b_nil (l_go hF rfl (g7_29 v71101 v71201) (le_q rfl rfl))
    have g7_58 : ∀ (v71201 : Nat), F [0, 1, 2, 3, 4, 5, 6, 7, 8, 12] ⟨[(1, HV.fptr [HV.int .i64 p0.1, HV.int .i64 p0.2.1, slE eFromLabelTo p0.2.2] 0), (4, HV.int .i64 a3), (6, HV.ptr 22006 v71201 0), (22, HV.agg [HV.int .i64 x70401.1, HV.int .i64 x70401.2.1, HV.int .i64 x70401.2.2]), (24, slE eFromLabelTo p0.2.2), (25, HV.int .i64 a3)], [(22006, v71201, .arr 3 49 [HV.int .i64 0, HV.int .i64 0, HV.int .i64 0])]⟩ := by
     intro v71201
     refine l_take (i := 9) hF rfl rfl rfl (v_idxF ty22 es22 rfl rfl (idx_lt h70902)) ?_
     exact l_go hF rfl (g7_52 v71201) (le_q rfl rfl)
    have g7_69 : ∀ (v71101 : Nat), F [0, 1, 2, 3, 6, 7, 8, 9, 10, 11] ⟨[(1, HV.fptr [HV.int .i64 p0.1, HV.int .i64 p0.2.1, slE eFromLabelTo p0.2.2] 0), (4, HV.int .i64 a3), (5, HV.ptr 22005 v71101 0), (18, slE eFromLabelTo p0.2.2), (20, HV.int .i64 (IntKind.wrap .i64 (a3 - 1))), (27, HV.agg [HV.int .i64 x70901.1, HV.int .i64 x70901.2.1, HV.int .i64 x70901.2.2])], [(22005, v71101, .arr 3 49 [HV.int .i64 0, HV.int .i64 0, HV.int .i64 0])]⟩ := by
     intro v71101
     refine l_take (i := 4) hF rfl rfl rfl (v_idxF ty22 es22 rfl rfl (idx_lt h70402)) ?_
     exact l_go hF rfl (g7_70 v71101) (le_q rfl rfl)
    have g7_73 : ∀ (v71101 : Nat), F [0, 1, 2, 3, 4, 6, 7, 8, 9, 11] ⟨[(1, HV.fptr [HV.int .i64 p0.1, HV.int .i64 p0.2.1, slE eFromLabelTo p0.2.2] 0), (4, HV.int .i64 a3), (5, HV.ptr 22005 v71101 0), (21, HV.fptr (eFromLabelTo.E p0.2.2) ((IntKind.wrap .i64 (a3 - 1)).toNat * eFromLabelTo.k)), (26, HV.fptr (eFromLabelTo.E p0.2.2) ((a3).toNat * eFromLabelTo.k))], [(22005, v71101, .arr 3 49 [HV.int .i64 0, HV.int .i64 0, HV.int .i64 0])]⟩ := by
     intro v71101
     refine l_step hF rfl [5, 10, 12] rfl rfl ⟨?_, ?_, ?_, trivial⟩
     ·refine l_op rfl rfl rfl (o_val rfl (v_loadF ty49 rfl (l_agg eFromLabelTo h70402 rfl rfl)) ?_)
      exact b_nil (l_go hF rfl (g7_74 v71101) (le_q rfl rfl))
     ·refine l_op rfl rfl rfl (o_val rfl (v_loadF ty49 rfl (l_agg eFromLabelTo h70902 rfl rfl)) ?_)
      exact b_nil (l_go hF rfl (g7_70 v71101) (le_q rfl rfl))
     ·refine l_op rfl rfl rfl (o_alloc (fid := 22) (zs := [HV.int .i64 0, HV.int .i64 0, HV.int .i64 0]) 22006 rfl rfl ty49 rfl (fun v71201 => ?_))
      exact b_nil (l_go hF rfl (g7_29 v71101 v71201) (le_q rfl rfl))
    have g7_80 : ∀ (v71101 : Nat), F [0, 1, 2, 3, 4, 5, 6, 7, 8, 11] ⟨[(1, HV.fptr [HV.int .i64 p0.1, HV.int .i64 p0.2.1, slE eFromLabelTo p0.2.2] 0), (4, HV.int .i64 a3), (5, HV.ptr 22005 v71101 0), (22, HV.agg [HV.int .i64 x70401.1, HV.int .i64 x70401.2.1, HV.int .i64 x70401.2.2]), (24, slE eFromLabelTo p0.2.2), (25, HV.int .i64 a3)], [(22005, v71101, .arr 3 49 [HV.int .i64 0, HV.int .i64 0, HV.int .i64 0])]⟩ := by
     intro v71101
     refine l_take (i := 9) hF rfl rfl rfl (v_idxF ty22 es22 rfl rfl (idx_lt h70902)) ?_
     exact l_go hF rfl (g7_74 v71101) (le_q rfl rfl)
    have g7_89 : F [0, 1, 2, 3, 4, 6, 7, 8, 9, 10] ⟨[(1, HV.fptr [HV.int .i64 p0.1, HV.int .i64 p0.2.1, slE eFromLabelTo p0.2.2] 0), (4, HV.int .i64 a3), (21, HV.fptr (eFromLabelTo.E p0.2.2) ((IntKind.wrap .i64 (a3 - 1)).toNat * eFromLabelTo.k)), (27, HV.agg [HV.int .i64 x70901.1, HV.int .i64 x70901.2.1, HV.int .i64 x70901.2.2])], []⟩ := by
     refine l_step hF rfl [5, 11, 12] rfl rfl ⟨?_, ?_, ?_, trivial⟩
     ·refine l_op rfl rfl rfl (o_val rfl (v_loadF ty49 rfl (l_agg eFromLabelTo h70402 rfl rfl)) ?_)
      exact b_nil (l_go hF rfl (g7_90) (le_q rfl rfl))
     ·refine l_op rfl rfl rfl (o_alloc (fid := 22) (zs := [HV.int .i64 0, HV.int .i64 0, HV.int .i64 0]) 22005 rfl rfl ty49 rfl (fun v71101 => ?_))
      exact b_nil (l_go hF rfl (g7_70 v71101) (le_q rfl rfl))
     ·refine l_op rfl rfl rfl (o_alloc (fid := 22) (zs := [HV.int .i64 0, HV.int .i64 0, HV.int .i64 0]) 22006 rfl rfl ty49 rfl (fun v71201 => ?_))
      exact b_nil (l_go hF rfl (g7_48 v71201) (le_q rfl rfl))
    have g7_93 : F [0, 1, 2, 3, 4, 5, 6, 7, 8, 9] ⟨[(1, HV.fptr [HV.int .i64 p0.1, HV.int .i64 p0.2.1, slE eFromLabelTo p0.2.2] 0), (4, HV.int .i64 a3), (22, HV.agg [HV.int .i64 x70401.1, HV.int .i64 x70401.2.1, HV.int .i64 x70401.2.2]), (26, HV.fptr (eFromLabelTo.E p0.2.2) ((a3).toNat * eFromLabelTo.k))], []⟩ := by
     refine l_step hF rfl [10, 11, 12] rfl rfl ⟨?_, ?_, ?_, trivial⟩
     ·refine l_op rfl rfl rfl (o_val rfl (v_loadF ty49 rfl (l_agg eFromLabelTo h70902 rfl rfl)) ?_)
      exact b_nil (l_go hF rfl (g7_90) (le_q rfl rfl))
     ·refine l_op rfl rfl rfl (o_alloc (fid := 22) (zs := [HV.int .i64 0, HV.int .i64 0, HV.int .i64 0]) 22005 rfl rfl ty49 rfl (fun v71101 => ?_))
      exact b_nil (l_go hF rfl (g7_74 v71101) (le_q rfl rfl))
     ·refine l_op rfl rfl rfl (o_alloc (fid := 22) (zs := [HV.int .i64 0, HV.int .i64 0, HV.int .i64 0]) 22006 rfl rfl ty49 rfl (fun v71201 => ?_))
      exact b_nil (l_go hF rfl (g7_52 v71201) (le_q rfl rfl))
    have g7_18 : ∀ (v71101 : Nat) (v71201 : Nat), F [0, 1, 2, 6, 7, 8, 9, 11, 12] ⟨[(1, HV.fptr [HV.int .i64 p0.1, HV.int .i64 p0.2.1, slE eFromLabelTo p0.2.2] 0), (4, HV.int .i64 a3), (5, HV.ptr 22005 v71101 0), (6, HV.ptr 22006 v71201 0), (18, slE eFromLabelTo p0.2.2), (19, HV.int .i64 a3), (26, HV.fptr (eFromLabelTo.E p0.2.2) ((a3).toNat * eFromLabelTo.k))], [(22005, v71101, .arr 3 49 [HV.int .i64 0, HV.int .i64 0, HV.int .i64 0]), (22006, v71201, .arr 3 49 [HV.int .i64 0, HV.int .i64 0, HV.int .i64 0])]⟩ := by
     intro v71101 v71201
     refine l_step hF rfl [3, 10] rfl rfl ⟨?_, ?_, trivial⟩
     ·refine l_op rfl rfl rfl (o_val rfl (v_bin rfl rfl b_sub) ?_)
      exact b_nil (l_go hF rfl (g7_28 v71101 v71201) (le_q rfl rfl))
     ·refine l_op rfl rfl rfl (o_val rfl (v_loadF ty49 rfl (l_agg eFromLabelTo h70902 rfl rfl)) ?_)
      exact b_nil (l_go hF rfl (g7_21 v71101 v71201) (le_q rfl rfl))
    have g7_19 : ∀ (v71101 : Nat) (v71201 : Nat), F [0, 2, 3, 6, 7, 8, 9, 11, 12] ⟨[(1, HV.fptr [HV.int .i64 p0.1, HV.int .i64 p0.2.1, slE eFromLabelTo p0.2.2] 0), (4, HV.int .i64 a3), (5, HV.ptr 22005 v71101 0), (6, HV.ptr 22006 v71201 0), (17, HV.fptr [HV.int .i64 p0.1, HV.int .i64 p0.2.1, slE eFromLabelTo p0.2.2] 2), (20, HV.int .i64 (IntKind.wrap .i64 (a3 - 1))), (26, HV.fptr (eFromLabelTo.E p0.2.2) ((a3).toNat * eFromLabelTo.k))], [(22005, v71101, .arr 3 49 [HV.int .i64 0, HV.int .i64 0, HV.int .i64 0]), (22006, v71201, .arr 3 49 [HV.int .i64 0, HV.int .i64 0, HV.int .i64 0])]⟩ := by
     intro v71101 v71201
     refine l_step hF rfl [1, 10] rfl rfl ⟨?_, ?_, trivial⟩
     ·refine l_op rfl rfl rfl (o_val rfl (v_loadF ty22 rfl (l_lit rfl rfl)) ?_)
      exact b_nil (l_go hF rfl (g7_28 v71101 v71201) (le_q rfl rfl))
     ·refine l_op rfl rfl rfl (o_val rfl (v_loadF ty49 rfl (l_agg eFromLabelTo h70902 rfl rfl)) ?_)
      exact b_nil (l_go hF rfl (g7_22 v71101 v71201) (le_q rfl rfl))
    have g7_20 : ∀ (v71101 : Nat) (v71201 : Nat), F [0, 2, 6, 7, 8, 9, 10, 11, 12] ⟨[(1, HV.fptr [HV.int .i64 p0.1, HV.int .i64 p0.2.1, slE eFromLabelTo p0.2.2] 0), (4, HV.int .i64 a3), (5, HV.ptr 22005 v71101 0), (6, HV.ptr 22006 v71201 0), (17, HV.fptr [HV.int .i64 p0.1, HV.int .i64 p0.2.1, slE eFromLabelTo p0.2.2] 2), (19, HV.int .i64 a3), (27, HV.agg [HV.int .i64 x70901.1, HV.int .i64 x70901.2.1, HV.int .i64 x70901.2.2])], [(22005, v71101, .arr 3 49 [HV.int .i64 0, HV.int .i64 0, HV.int .i64 0]), (22006, v71201, .arr 3 49 [HV.int .i64 0, HV.int .i64 0, HV.int .i64 0])]⟩ := by
     intro v71101 v71201
     refine l_step hF rfl [1, 3] rfl rfl ⟨?_, ?_, trivial⟩
     ·refine l_op rfl rfl rfl (o_val rfl (v_loadF ty22 rfl (l_lit rfl rfl)) ?_)
      exact b_nil (l_go hF rfl (g7_21 v71101 v71201) (le_q rfl rfl))
     ·refine l_op rfl rfl rfl (o_val rfl (v_bin rfl rfl b_sub) ?_)
      exact b_nil (l_go hF rfl (g7_22 v71101 v71201) (le_q rfl rfl))
    have g7_34 : ∀ (v71101 : Nat) (v71201 : Nat), F [0, 1, 2, 3, 4, 6, 8, 11, 12] ⟨[(1, HV.fptr [HV.int .i64 p0.1, HV.int .i64 p0.2.1, slE eFromLabelTo p0.2.2] 0), (4, HV.int .i64 a3), (5, HV.ptr 22005 v71101 0), (6, HV.ptr 22006 v71201 0), (21, HV.fptr (eFromLabelTo.E p0.2.2) ((IntKind.wrap .i64 (a3 - 1)).toNat * eFromLabelTo.k)), (23, HV.fptr [HV.int .i64 p0.1, HV.int .i64 p0.2.1, slE eFromLabelTo p0.2.2] 2), (25, HV.int .i64 a3)], [(22005, v71101, .arr 3 49 [HV.int .i64 0, HV.int .i64 0, HV.int .i64 0]), (22006, v71201, .arr 3 49 [HV.int .i64 0, HV.int .i64 0, HV.int .i64 0])]⟩ := by
     intro v71101 v71201
     refine l_step hF rfl [5, 7] rfl rfl ⟨?_, ?_, trivial⟩
     ·refine l_op rfl rfl rfl (o_val rfl (v_loadF ty49 rfl (l_agg eFromLabelTo h70402 rfl rfl)) ?_)
      exact b_nil (l_go hF rfl (g7_35 v71101 v71201) (le_q rfl rfl))
     ·refine l_op rfl rfl rfl (o_val rfl (v_loadF ty22 rfl (l_lit rfl rfl)) ?_)
      exact b_nil (l_go hF rfl (g7_36 v71101 v71201) (le_q rfl rfl))
    have g7_45 : ∀ (v71201 : Nat), F [0, 1, 2, 6, 7, 8, 9, 10, 12] ⟨[(1, HV.fptr [HV.int .i64 p0.1, HV.int .i64 p0.2.1, slE eFromLabelTo p0.2.2] 0), (4, HV.int .i64 a3), (6, HV.ptr 22006 v71201 0), (18, slE eFromLabelTo p0.2.2), (19, HV.int .i64 a3), (27, HV.agg [HV.int .i64 x70901.1, HV.int .i64 x70901.2.1, HV.int .i64 x70901.2.2])], [(22006, v71201, .arr 3 49 [HV.int .i64 0, HV.int .i64 0, HV.int .i64 0])]⟩ := by
     intro v71201
     refine l_step hF rfl [3, 11] rfl rfl ⟨?_, ?_, trivial⟩
     ·refine l_op rfl rfl rfl (o_val rfl (v_bin rfl rfl b_sub) ?_)
      exact b_nil (l_go hF rfl (g7_47 v71201) (le_q rfl rfl))
     ·refine l_op rfl rfl rfl (o_alloc (fid := 22) (zs := [HV.int .i64 0, HV.int .i64 0, HV.int .i64 0]) 22005 rfl rfl ty49 rfl (fun v71101 => ?_))
      exact b_nil (l_go hF rfl (g7_21 v71101 v71201) (le_q rfl rfl))
    have g7_46 : ∀ (v71201 : Nat), F [0, 2, 3, 6, 7, 8, 9, 10, 12] ⟨[(1, HV.fptr [HV.int .i64 p0.1, HV.int .i64 p0.2.1, slE eFromLabelTo p0.2.2] 0), (4, HV.int .i64 a3), (6, HV.ptr 22006 v71201 0), (17, HV.fptr [HV.int .i64 p0.1, HV.int .i64 p0.2.1, slE eFromLabelTo p0.2.2] 2), (20, HV.int .i64 (IntKind.wrap .i64 (a3 - 1))), (27, HV.agg [HV.int .i64 x70901.1, HV.int .i64 x70901.2.1, HV.int .i64 x70901.2.2])], [(22006, v71201, .arr 3 49 [HV.int .i64 0, HV.int .i64 0, HV.int .i64 0])]⟩ := by
     intro v71201
     refine l_step hF rfl [1, 11] rfl rfl ⟨?_, ?_, trivial⟩
     ·refine l_op rfl rfl rfl (o_val rfl (v_loadF ty22 rfl (l_lit rfl rfl)) ?_)
      exact b_nil (l_go hF rfl (g7_47 v71201) (le_q rfl rfl))
     ·refine l_op rfl rfl rfl (o_alloc (fid := 22) (zs := [HV.int .i64 0, HV.int .i64 0, HV.int .i64 0]) 22005 rfl rfl ty49 rfl (fun v71101 => ?_))
      exact b_nil (l_go hF rfl (g7_22 v71101 v71201) (le_q rfl rfl))
    have g7_50 : ∀ (v71201 : Nat), F [0, 1, 2, 3, 6, 7, 8, 9, 12] ⟨[(1, HV.fptr [HV.int .i64 p0.1, HV.int .i64 p0.2.1, slE eFromLabelTo p0.2.2] 0), (4, HV.int .i64 a3), (6, HV.ptr 22006 v71201 0), (18, slE eFromLabelTo p0.2.2), (20, HV.int .i64 (IntKind.wrap .i64 (a3 - 1))), (26, HV.fptr (eFromLabelTo.E p0.2.2) ((a3).toNat * eFromLabelTo.k))], [(22006, v71201, .arr 3 49 [HV.int .i64 0, HV.int .i64 0, HV.int .i64 0])]⟩ := by
     intro v71201
     refine l_take (i := 4) hF rfl rfl rfl (v_idxF ty22 es22 rfl rfl (idx_lt h70402)) ?_
     exact l_go hF rfl (g7_51 v71201) (le_q rfl rfl)
    have g7_56 : ∀ (v71201 : Nat), F [0, 1, 2, 3, 4, 5, 6, 8, 12] ⟨[(1, HV.fptr [HV.int .i64 p0.1, HV.int .i64 p0.2.1, slE eFromLabelTo p0.2.2] 0), (4, HV.int .i64 a3), (6, HV.ptr 22006 v71201 0), (22, HV.agg [HV.int .i64 x70401.1, HV.int .i64 x70401.2.1, HV.int .i64 x70401.2.2]), (23, HV.fptr [HV.int .i64 p0.1, HV.int .i64 p0.2.1, slE eFromLabelTo p0.2.2] 2), (25, HV.int .i64 a3)], [(22006, v71201, .arr 3 49 [HV.int .i64 0, HV.int .i64 0, HV.int .i64 0])]⟩ := by
     intro v71201
     refine l_step hF rfl [7, 11] rfl rfl ⟨?_, ?_, trivial⟩
     ·refine l_op rfl rfl rfl (o_val rfl (v_loadF ty22 rfl (l_lit rfl rfl)) ?_)
      exact b_nil (l_go hF rfl (g7_58 v71201) (le_q rfl rfl))
     ·refine l_op rfl rfl rfl (o_alloc (fid := 22) (zs := [HV.int .i64 0, HV.int .i64 0, HV.int .i64 0]) 22005 rfl rfl ty49 rfl (fun v71101 => ?_))
      exact b_nil (l_go hF rfl (g7_35 v71101 v71201) (le_q rfl rfl))
    have g7_57 : ∀ (v71201 : Nat), F [0, 1, 2, 3, 4, 6, 7, 8, 12] ⟨[(1, HV.fptr [HV.int .i64 p0.1, HV.int .i64 p0.2.1, slE eFromLabelTo p0.2.2] 0), (4, HV.int .i64 a3), (6, HV.ptr 22006 v71201 0), (21, HV.fptr (eFromLabelTo.E p0.2.2) ((IntKind.wrap .i64 (a3 - 1)).toNat * eFromLabelTo.k)), (24, slE eFromLabelTo p0.2.2), (25, HV.int .i64 a3)], [(22006, v71201, .arr 3 49 [HV.int .i64 0, HV.int .i64 0, HV.int .i64 0])]⟩ := by
     intro v71201
     refine l_take (i := 9) hF rfl rfl rfl (v_idxF ty22 es22 rfl rfl (idx_lt h70902)) ?_
     exact l_go hF rfl (g7_51 v71201) (le_q rfl rfl)
    have g7_67 : ∀ (v71101 : Nat), F [0, 1, 2, 6, 7, 8, 9, 10, 11] ⟨[(1, HV.fptr [HV.int .i64 p0.1, HV.int .i64 p0.2.1, slE eFromLabelTo p0.2.2] 0), (4, HV.int .i64 a3), (5, HV.ptr 22005 v71101 0), (18, slE eFromLabelTo p0.2.2), (19, HV.int .i64 a3), (27, HV.agg [HV.int .i64 x70901.1, HV.int .i64 x70901.2.1, HV.int .i64 x70901.2.2])], [(22005, v71101, .arr 3 49 [HV.int .i64 0, HV.int .i64 0, HV.int .i64 0])]⟩ := by
     intro v71101
     refine l_step hF rfl [3, 12] rfl rfl ⟨?_, ?_, trivial⟩
     ·refine l_op rfl rfl rfl (o_val rfl (v_bin rfl rfl b_sub) ?_)
      exact b_nil (l_go hF rfl (g7_69 v71101) (le_q rfl rfl))
     ·refine l_op rfl rfl rfl (o_alloc (fid := 22) (zs := [HV.int .i64 0, HV.int .i64 0, HV.int .i64 0]) 22006 rfl rfl ty49 rfl (fun v71201 => ?_))
      exact b_nil (l_go hF rfl (g7_21 v71101 v71201) (le_q rfl rfl))
    have g7_68 : ∀ (v71101 : Nat), F [0, 2, 3, 6, 7, 8, 9, 10, 11] ⟨[(1, HV.fptr [HV.int .i64 p0.1, HV.int .i64 p0.2.1, slE eFromLabelTo p0.2.2] 0), (4, HV.int .i64 a3), (5, HV.ptr 22005 v71101 0), (17, HV.fptr [HV.int .i64 p0.1, HV.int .i64 p0.2.1, slE eFromLabelTo p0.2.2] 2), (20, HV.int .i64 (IntKind.wrap .i64 (a3 - 1))), (27, HV.agg [HV.int .i64 x70901.1, HV.int .i64 x70901.2.1, HV.int .i64 x70901.2.2])], [(22005, v71101, .arr 3 49 [HV.int .i64 0, HV.int .i64 0, HV.int .i64 0])]⟩ := by
     intro v71101
     refine l_step hF rfl [1, 12] rfl rfl ⟨?_, ?_, trivial⟩
     ·refine l_op rfl rfl rfl (o_val rfl (v_loadF ty22 rfl (l_lit rfl rfl)) ?_)
      exact b_nil (l_go hF rfl (g7_69 v71101) (le_q rfl rfl))
     ·refine l_op rfl rfl rfl (o_alloc (fid := 22) (zs := [HV.int .i64 0, HV.int .i64 0, HV.int .i64 0]) 22006 rfl rfl ty49 rfl (fun v71201 => ?_))
      exact b_nil (l_go hF rfl (g7_22 v71101 v71201) (le_q rfl rfl))
    have g7_72 : ∀ (v71101 : Nat), F [0, 1, 2, 3, 6, 7, 8, 9, 11] ⟨[(1, HV.fptr [HV.int .i64 p0.1, HV.int .i64 p0.2.1, slE eFromLabelTo p0.2.2] 0), (4, HV.int .i64 a3), (5, HV.ptr 22005 v71101 0), (18, slE eFromLabelTo p0.2.2), (20, HV.int .i64 (IntKind.wrap .i64 (a3 - 1))), (26, HV.fptr (eFromLabelTo.E p0.2.2) ((a3).toNat * eFromLabelTo.k))], [(22005, v71101, .arr 3 49 [HV.int .i64 0, HV.int .i64 0, HV.int .i64 0])]⟩ := by
     intro v71101
     refine l_take (i := 4) hF rfl rfl rfl (v_idxF ty22 es22 rfl rfl (idx_lt h70402)) ?_
     exact l_go hF rfl (g7_73 v71101) (le_q rfl rfl)
    have g7_78 : ∀ (v71101 : Nat), F [0, 1, 2, 3, 4, 5, 6, 8, 11] ⟨[(1, HV.fptr [HV.int .i64 p0.1, HV.int .i64 p0.2.1, slE eFromLabelTo p0.2.2] 0), (4, HV.int .i64 a3), (5, HV.ptr 22005 v71101 0), (22, HV.agg [HV.int .i64 x70401.1, HV.int .i64 x70401.2.1, HV.int .i64 x70401.2.2]), (23, HV.fptr [HV.int .i64 p0.1, HV.int .i64 p0.2.1, slE eFromLabelTo p0.2.2] 2), (25, HV.int .i64 a3)], [(22005, v71101, .arr 3 49 [HV.int .i64 0, HV.int .i64 0, HV.int .i64 0])]⟩ := by
     intro v71101
     refine l_step hF rfl [7, 12] rfl rfl ⟨?_, ?_, trivial⟩
     ·refine l_op rfl rfl rfl (o_val rfl (v_loadF ty22 rfl (l_lit rfl rfl)) ?_)
      exact b_nil (l_go hF rfl (g7_80 v71101) (le_q rfl rfl))
     ·refine l_op rfl rfl rfl (o_alloc (fid := 22) (zs := [HV.int .i64 0, HV.int .i64 0, HV.int .i64 0]) 22006 rfl rfl ty49 rfl (fun v71201 => ?_))
      exact b_nil (l_go hF rfl (g7_35 v71101 v71201) (le_q rfl rfl))
    have g7_79 : ∀ (v71101 : Nat), F [0, 1, 2, 3, 4, 6, 7, 8, 11] ⟨[(1, HV.fptr [HV.int .i64 p0.1, HV.int .i64 p0.2.1, slE eFromLabelTo p0.2.2] 0), (4, HV.int .i64 a3), (5, HV.ptr 22005 v71101 0), (21, HV.fptr (eFromLabelTo.E p0.2.2) ((IntKind.wrap .i64 (a3 - 1)).toNat * eFromLabelTo.k)), (24, slE eFromLabelTo p0.2.2), (25, HV.int .i64 a3)], [(22005, v71101, .arr 3 49 [HV.int .i64 0, HV.int .i64 0, HV.int .i64 0])]⟩ := by
     intro v71101
     refine l_take (i := 9) hF rfl rfl rfl (v_idxF ty22 es22 rfl rfl (idx_lt h70902)) ?_
     exact l_go hF rfl (g7_73 v71101) (le_q rfl rfl)
    have g7_88 : F [0, 1, 2, 3, 6, 7, 8, 9, 10] ⟨[(1, HV.fptr [HV.int .i64 p0.1, HV.int .i64 p0.2.1, slE eFromLabelTo p0.2.2] 0), (4, HV.int .i64 a3), (18, slE eFromLabelTo p0.2.2), (20, HV.int .i64 (IntKind.wrap .i64 (a3 - 1))), (27, HV.agg [HV.int .i64 x70901.1, HV.int .i64 x70901.2.1, HV.int .i64 x70901.2.2])], []⟩ := by
     refine l_take (i := 4) hF rfl rfl rfl (v_idxF ty22 es22 rfl rfl (idx_lt h70402)) ?_
     exact l_go hF rfl (g7_89) (le_q rfl rfl)
    have g7_92 : F [0, 1, 2, 3, 4, 6, 7, 8, 9] ⟨[(1, HV.fptr [HV.int .i64 p0.1, HV.int .i64 p0.2.1, slE eFromLabelTo p0.2.2] 0), (4, HV.int .i64 a3), (21, HV.fptr (eFromLabelTo.E p0.2.2) ((IntKind.wrap .i64 (a3 - 1)).toNat * eFromLabelTo.k)), (26, HV.fptr (eFromLabelTo.E p0.2.2) ((a3).toNat * eFromLabelTo.k))], []⟩ := by
     refine l_step hF rfl [5, 10, 11, 12] rfl rfl ⟨?_, ?_, ?_, ?_, trivial⟩
     ·refine l_op rfl rfl rfl (o_val rfl (v_loadF ty49 rfl (l_agg eFromLabelTo h70402 rfl rfl)) ?_)
      exact b_nil (l_go hF rfl (g7_93) (le_q rfl rfl))
     ·refine l_op rfl rfl rfl (o_val rfl (v_loadF ty49 rfl (l_agg eFromLabelTo h70902 rfl rfl)) ?_)
      exact b_nil (l_go hF rfl (g7_89) (le_q rfl rfl))
     ·refine l_op rfl rfl rfl (o_alloc (fid := 22) (zs := [HV.int .i64 0, HV.int .i64 0, HV.int .i64 0]) 22005 rfl rfl ty49 rfl (fun v71101 => ?_))
      exact b_nil (l_go hF rfl (g7_73 v71101) (le_q rfl rfl))
     ·refine l_op rfl rfl rfl (o_alloc (fid := 22) (zs := [HV.int .i64 0, HV.int .i64 0, HV.int .i64 0]) 22006 rfl rfl ty49 rfl (fun v71201 => ?_))
      exact b_nil (l_go hF rfl (g7_51 v71201) (le_q rfl rfl))
    have g7_99 : F [0, 1, 2, 3, 4, 5, 6, 7, 8] ⟨[(1, HV.fptr [HV.int .i64 p0.1, HV.int .i64 p0.2.1, slE eFromLabelTo p0.2.2] 0), (4, HV.int .i64 a3), (22, HV.agg [HV.int .i64 x70401.1, HV.int .i64 x70401.2.1, HV.int .i64 x70401.2.2]), (24, slE eFromLabelTo p0.2.2), (25, HV.int .i64 a3)], []⟩ := by
     refine l_take (i := 9) hF rfl rfl rfl (v_idxF ty22 es22 rfl rfl (idx_lt h70902)) ?_
     exact l_go hF rfl (g7_93) (le_q rfl rfl)
    have g7_17 : ∀ (v71101 : Nat) (v71201 : Nat), F [0, 2, 6, 7, 8, 9, 11, 12] ⟨[(1, HV.fptr [HV.int .i64 p0.1, HV.int .i64 p0.2.1, slE eFromLabelTo p0.2.2] 0), (4, HV.int .i64 a3), (5, HV.ptr 22005 v71101 0), (6, HV.ptr 22006 v71201 0), (17, HV.fptr [HV.int .i64 p0.1, HV.int .i64 p0.2.1, slE eFromLabelTo p0.2.2] 2), (19, HV.int .i64 a3), (26, HV.fptr (eFromLabelTo.E p0.2.2) ((a3).toNat * eFromLabelTo.k))], [(22005, v71101, .arr 3 49 [HV.int .i64 0, HV.int .i64 0, HV.int .i64 0]), (22006, v71201, .arr 3 49 [HV.int .i64 0, HV.int .i64 0, HV.int .i64 0])]⟩ := by
     intro v71101 v71201
     refine l_step hF rfl [1, 3, 10] rfl rfl ⟨?_, ?_, ?_, trivial⟩
     ·refine l_op rfl rfl rfl (o_val rfl (v_loadF ty22 rfl (l_lit rfl rfl)) ?_)
      exact b_nil (l_go hF rfl (g7_18 v71101 v71201) (le_q rfl rfl))
     ·refine l_op rfl rfl rfl (o_val rfl (v_bin rfl rfl b_sub) ?_)
      exact b_nil (l_go hF rfl (g7_19 v71101 v71201) (le_q rfl rfl))
     ·refine l_op rfl rfl rfl (o_val rfl (v_loadF ty49 rfl (l_agg eFromLabelTo h70902 rfl rfl)) ?_)
      exact b_nil (l_go hF rfl (g7_20 v71101 v71201) (le_q rfl rfl))
    have g7_32 : ∀ (v71101 : Nat) (v71201 : Nat), F [0, 1, 2, 3, 6, 8, 11, 12] ⟨[(1, HV.fptr [HV.int .i64 p0.1, HV.int .i64 p0.2.1, slE eFromLabelTo p0.2.2] 0), (4, HV.int .i64 a3), (5, HV.ptr 22005 v71101 0), (6, HV.ptr 22006 v71201 0), (18, slE eFromLabelTo p0.2.2), (20, HV.int .i64 (IntKind.wrap .i64 (a3 - 1))), (23, HV.fptr [HV.int .i64 p0.1, HV.int .i64 p0.2.1, slE eFromLabelTo p0.2.2] 2), (25, HV.int .i64 a3)], [(22005, v71101, .arr 3 49 [HV.int .i64 0, HV.int .i64 0, HV.int .i64 0]), (22006, v71201, .arr 3 49 [HV.int .i64 0, HV.int .i64 0, HV.int .i64 0])]⟩ := by
     intro v71101 v71201
     refine l_take (i := 4) hF rfl rfl rfl (v_idxF ty22 es22 rfl rfl (idx_lt h70402)) ?_
     exact l_go hF rfl (g7_34 v71101 v71201) (le_q rfl rfl)
    have g7_33 : ∀ (v71101 : Nat) (v71201 : Nat), F [0, 2, 3, 6, 7, 8, 11, 12] ⟨[(1, HV.fptr [HV.int .i64 p0.1, HV.int .i64 p0.2.1, slE eFromLabelTo p0.2.2] 0), (4, HV.int .i64 a3), (5, HV.ptr 22005 v71101 0), (6, HV.ptr 22006 v71201 0), (17, HV.fptr [HV.int .i64 p0.1, HV.int .i64 p0.2.1, slE eFromLabelTo p0.2.2] 2), (20, HV.int .i64 (IntKind.wrap .i64 (a3 - 1))), (24, slE eFromLabelTo p0.2.2), (25, HV.int .i64 a3)], [(22005, v71101, .arr 3 49 [HV.int .i64 0, HV.int .i64 0, HV.int .i64 0]), (22006, v71201, .arr 3 49 [HV.int .i64 0, HV.int .i64 0, HV.int .i64 0])]⟩ := by
     intro v71101 v71201
     refine l_take (i := 9) hF rfl rfl rfl (v_idxF ty22 es22 rfl rfl (idx_lt h70902)) ?_
     exact l_go hF rfl (g7_19 v71101 v71201) (le_q rfl rfl)
    have g7_40 : ∀ (v71101 : Nat) (v71201 : Nat), F [0, 1, 2, 6, 7, 8, 11, 12] ⟨[(1, HV.fptr [HV.int .i64 p0.1, HV.int .i64 p0.2.1, slE eFromLabelTo p0.2.2] 0), (4, HV.int .i64 a3), (5, HV.ptr 22005 v71101 0), (6, HV.ptr 22006 v71201 0), (18, slE eFromLabelTo p0.2.2), (19, HV.int .i64 a3), (24, slE eFromLabelTo p0.2.2), (25, HV.int .i64 a3)], [(22005, v71101, .arr 3 49 [HV.int .i64 0, HV.int .i64 0, HV.int .i64 0]), (22006, v71201, .arr 3 49 [HV.int .i64 0, HV.int .i64 0, HV.int .i64 0])]⟩ := by
     intro v71101 v71201
     refine l_take (i := 9) hF rfl rfl rfl (v_idxF ty22 es22 rfl rfl (idx_lt h70902)) ?_
     exact l_go hF rfl (g7_18 v71101 v71201) (le_q rfl rfl)
    have g7_42 : ∀ (v71201 : Nat), F [0, 1, 2, 6, 7, 8, 9, 12] ⟨[(1, HV.fptr [HV.int .i64 p0.1, HV.int .i64 p0.2.1, slE eFromLabelTo p0.2.2] 0), (4, HV.int .i64 a3), (6, HV.ptr 22006 v71201 0), (18, slE eFromLabelTo p0.2.2), (19, HV.int .i64 a3), (26, HV.fptr (eFromLabelTo.E p0.2.2) ((a3).toNat * eFromLabelTo.k))], [(22006, v71201, .arr 3 49 [HV.int .i64 0, HV.int .i64 0, HV.int .i64 0])]⟩ := by
     intro v71201
     refine l_step hF rfl [3, 10, 11] rfl rfl ⟨?_, ?_, ?_, trivial⟩
     ·refine l_op rfl rfl rfl (o_val rfl (v_bin rfl rfl b_sub) ?_)
      exact b_nil (l_go hF rfl (g7_50 v71201) (le_q rfl rfl))
     ·refine l_op rfl rfl rfl (o_val rfl (v_loadF ty49 rfl (l_agg eFromLabelTo h70902 rfl rfl)) ?_)
      exact b_nil (l_go hF rfl (g7_45 v71201) (le_q rfl rfl))
     ·refine l_op rfl rfl rfl (o_alloc (fid := 22) (zs := [HV.int .i64 0, HV.int .i64 0, HV.int .i64 0]) 22005 rfl rfl ty49 rfl (fun v71101 => ?_))
      exact b_nil (l_go hF rfl (g7_18 v71101 v71201) (le_q rfl rfl))
    have g7_43 : ∀ (v71201 : Nat), F [0, 2, 3, 6, 7, 8, 9, 12] ⟨[(1, HV.fptr [HV.int .i64 p0.1, HV.int .i64 p0.2.1, slE eFromLabelTo p0.2.2] 0), (4, HV.int .i64 a3), (6, HV.ptr 22006 v71201 0), (17, HV.fptr [HV.int .i64 p0.1, HV.int .i64 p0.2.1, slE eFromLabelTo p0.2.2] 2), (20, HV.int .i64 (IntKind.wrap .i64 (a3 - 1))), (26, HV.fptr (eFromLabelTo.E p0.2.2) ((a3).toNat * eFromLabelTo.k))], [(22006, v71201, .arr 3 49 [HV.int .i64 0, HV.int .i64 0, HV.int .i64 0])]⟩ := by
     intro v71201
     refine l_step hF rfl [1, 10, 11] rfl rfl ⟨?_, ?_, ?_, trivial⟩
     ·refine l_op rfl rfl rfl (o_val rfl (v_loadF ty22 rfl (l_lit rfl rfl)) ?_)
      exact b_nil (l_go hF rfl (g7_50 v71201) (le_q rfl rfl))
     ·refine l_op rfl rfl rfl (o_val rfl (v_loadF ty49 rfl (l_agg eFromLabelTo h70902 rfl rfl)) ?_)
      exact b_nil (l_go hF rfl (g7_46 v71201) (le_q rfl rfl))
     ·refine l_op rfl rfl rfl (o_alloc (fid := 22) (zs := [HV.int .i64 0, HV.int .i64 0, HV.int .i64 0]) 22005 rfl rfl ty49 rfl (fun v71101 => ?_))
      exact b_nil (l_go hF rfl (g7_19 v71101 v71201) (le_q rfl rfl))
    have g7_44 : ∀ (v71201 : Nat), F [0, 2, 6, 7, 8, 9, 10, 12] ⟨[(1, HV.fptr [HV.int .i64 p0.1, HV.int .i64 p0.2.1, slE eFromLabelTo p0.2.2] 0), (4, HV.int .i64 a3), (6, HV.ptr 22006 v71201 0), (17, HV.fptr [HV.int .i64 p0.1, HV.int .i64 p0.2.1, slE eFromLabelTo p0.2.2] 2), (19, HV.int .i64 a3), (27, HV.agg [HV.int .i64 x70901.1, HV.int .i64 x70901.2.1, HV.int .i64 x70901.2.2])], [(22006, v71201, .arr 3 49 [HV.int .i64 0, HV.int .i64 0, HV.int .i64 0])]⟩ := by
     intro v71201
     refine l_step hF rfl [1, 3, 11] rfl rfl ⟨?_, ?_, ?_, trivial⟩
     ·refine l_op rfl rfl rfl (o_val rfl (v_loadF ty22 rfl (l_lit rfl rfl)) ?_)
      exact b_nil (l_go hF rfl (g7_45 v71201) (le_q rfl rfl))
     ·refine l_op rfl rfl rfl (o_val rfl (v_bin rfl rfl b_sub) ?_)
      exact b_nil (l_go hF rfl (g7_46 v71201) (le_q rfl rfl))
     ·refine l_op rfl rfl rfl (o_alloc (fid := 22) (zs := [HV.int .i64 0, HV.int .i64 0, HV.int .i64 0]) 22005 rfl rfl ty49 rfl (fun v71101 => ?_))
      exact b_nil (l_go hF rfl (g7_20 v71101 v71201) (le_q rfl rfl))
    have g7_55 : ∀ (v71201 : Nat), F [0, 1, 2, 3, 4, 6, 8, 12] ⟨[(1, HV.fptr [HV.int .i64 p0.1, HV.int .i64 p0.2.1, slE eFromLabelTo p0.2.2] 0), (4, HV.int .i64 a3), (6, HV.ptr 22006 v71201 0), (21, HV.fptr (eFromLabelTo.E p0.2.2) ((IntKind.wrap .i64 (a3 - 1)).toNat * eFromLabelTo.k)), (23, HV.fptr [HV.int .i64 p0.1, HV.int .i64 p0.2.1, slE eFromLabelTo p0.2.2] 2), (25, HV.int .i64 a3)], [(22006, v71201, .arr 3 49 [HV.int .i64 0, HV.int .i64 0, HV.int .i64 0])]⟩ := by
     intro v71201
     refine l_step hF rfl [5, 7, 11] rfl rfl ⟨?_, ?_, ?_, trivial⟩
     ·refine l_op rfl rfl rfl (o_val rfl (v_loadF ty49 rfl (l_agg eFromLabelTo h70402 rfl rfl)) ?_)
      exact b_nil (l_go hF rfl (g7_56 v71201) (le_q rfl rfl))
     ·refine l_op rfl rfl rfl (o_val rfl (v_loadF ty22 rfl (l_lit rfl rfl)) ?_)
      exact b_nil (l_go hF rfl (g7_57 v71201) (le_q rfl rfl))
     ·refine l_op rfl rfl rfl (o_alloc (fid := 22) (zs := [HV.int .i64 0, HV.int .i64 0, HV.int .i64 0]) 22005 rfl rfl ty49 rfl (fun v71101 => ?_))
      exact b_nil (l_go hF rfl (g7_34 v71101 v71201) (le_q rfl rfl))
    have g7_64 : ∀ (v71101 : Nat), F [0, 1, 2, 6, 7, 8, 9, 11] ⟨[(1, HV.fptr [HV.int .i64 p0.1, HV.int .i64 p0.2.1, slE eFromLabelTo p0.2.2] 0), (4, HV.int .i64 a3), (5, HV.ptr 22005 v71101 0), (18, slE eFromLabelTo p0.2.2), (19, HV.int .i64 a3), (26, HV.fptr (eFromLabelTo.E p0.2.2) ((a3).toNat * eFromLabelTo.k))], [(22005, v71101, .arr 3 49 [HV.int .i64 0, HV.int .i64 0, HV.int .i64 0])]⟩ := by
     intro v71101
     refine l_step hF rfl [3, 10, 12] rfl rfl ⟨?_, ?_, ?_, trivial⟩
     ·refine l_op rfl rfl rfl (o_val rfl (v_bin rfl rfl b_sub) ?_)
      exact b_nil (l_go hF rfl (g7_72 v71101) (le_q rfl rfl))
     ·refine l_op rfl rfl rfl (o_val rfl (v_loadF ty49 rfl (l_agg eFromLabelTo h70902 rfl rfl)) ?_)
      exact b_nil (l_go hF rfl (g7_67 v71101) (le_q rfl rfl))
     ·refine l_op rfl rfl rfl (o_alloc (fid := 22) (zs := [HV.int .i64 0, HV.int .i64 0, HV.int .i64 0]) 22006 rfl rfl ty49 rfl (fun v71201 => ?_))
      exact b_nil (l_go hF rfl (g7_18 v71101 v71201) (le_q rfl rfl))
    have g7_65 : ∀ (v71101 : Nat), F [0, 2, 3, 6, 7, 8, 9, 11] ⟨[(1, HV.fptr [HV.int .i64 p0.1, HV.int .i64 p0.2.1, slE eFromLabelTo p0.2.2] 0), (4, HV.int .i64 a3), (5, HV.ptr 22005 v71101 0), (17, HV.fptr [HV.int .i64 p0.1, HV.int .i64 p0.2.1, slE eFromLabelTo p0.2.2] 2), (20, HV.int .i64 (IntKind.wrap .i64 (a3 - 1))), (26, HV.fptr (eFromLabelTo.E p0.2.2) ((a3).toNat * eFromLabelTo.k))], [(22005, v71101, .arr 3 49 [HV.int .i64 0, HV.int .i64 0, HV.int .i64 0])]⟩ := by
     intro v71101
     refine l_step hF rfl [1, 10, 12] rfl rfl ⟨?_, ?_, ?_, trivial⟩
     ·refine l_op rfl rfl rfl (o_val rfl (v_loadF ty22 rfl (l_lit rfl rfl)) ?_)
      exact b_nil (l_go hF rfl (g7_72 v71101) (le_q rfl rfl))
     ·refine l_op rfl rfl rfl (o_val rfl (v_loadF ty49 rfl (l_agg eFromLabelTo h70902 rfl rfl)) ?_)
      exact b_nil (l_go hF rfl (g7_68 v71101) (le_q rfl rfl))
     ·refine l_op rfl rfl rfl (o_alloc (fid := 22) (zs := [HV.int .i64 0, HV.int .i64 0, HV.int .i64 0]) 22006 rfl rfl ty49 rfl (fun v71201 => ?_))
      exact b_nil (l_go hF rfl (g7_19 v71101 v71201) (le_q rfl rfl))
    have g7_66 : ∀ (v71101 : Nat), F [0, 2, 6, 7, 8, 9, 10, 11] ⟨[(1, HV.fptr [HV.int .i64 p0.1, HV.int .i64 p0.2.1, slE eFromLabelTo p0.2.2] 0), (4, HV.int .i64 a3), (5, HV.ptr 22005 v71101 0), (17, HV.fptr [HV.int .i64 p0.1, HV.int .i64 p0.2.1, slE eFromLabelTo p0.2.2] 2), (19, HV.int .i64 a3), (27, HV.agg [HV.int .i64 x70901.1, HV.int .i64 x70901.2.1, HV.int .i64 x70901.2.2])], [(22005, v71101, .arr 3 49 [HV.int .i64 0, HV.int .i64 0, HV.int .i64 0])]⟩ := by
     intro v71101
     refine l_step hF rfl [1, 3, 12] rfl rfl ⟨?_, ?_, ?_, trivial⟩
     ·refine l_op rfl rfl rfl (o_val rfl (v_loadF ty22 rfl (l_lit rfl rfl)) ?_)
      exact b_nil (l_go hF rfl (g7_67 v71101) (le_q rfl rfl))
     ·refine l_op rfl rfl rfl (o_val rfl (v_bin rfl rfl b_sub) ?_)
      exact b_nil (l_go hF rfl (g7_68 v71101) (le_q rfl rfl))
     ·refine l_op rfl rfl rfl (o_alloc (fid := 22) (zs := [HV.int .i64 0, HV.int .i64 0, HV.int .i64 0]) 22006 rfl rfl ty49 rfl (fun v71201 => ?_))
      exact b_nil (l_go hF rfl (g7_20 v71101 v71201) (le_q rfl rfl))
    have g7_77 : ∀ (v71101 : Nat), F [0, 1, 2, 3, 4, 6, 8, 11] ⟨[(1, HV.fptr [HV.int .i64 p0.1, HV.int .i64 p0.2.1, slE eFromLabelTo p0.2.2] 0), (4, HV.int .i64 a3), (5, HV.ptr 22005 v71101 0), (21, HV.fptr (eFromLabelTo.E p0.2.2) ((IntKind.wrap .i64 (a3 - 1)).toNat * eFromLabelTo.k)), (23, HV.fptr [HV.int .i64 p0.1, HV.int .i64 p0.2.1, slE eFromLabelTo p0.2.2] 2), (25, HV.int .i64 a3)], [(22005, v71101, .arr 3 49 [HV.int .i64 0, HV.int .i64 0, HV.int .i64 0])]⟩ := by
     intro v71101
     refine l_step hF rfl [5, 7, 12] rfl rfl ⟨?_, ?_, ?_, trivial⟩
     ·refine l_op rfl rfl rfl (o_val rfl (v_loadF ty49 rfl (l_agg eFromLabelTo h70402 rfl rfl)) ?_)
      exact b_nil (l_go hF rfl (g7_78 v71101) (le_q rfl rfl))
     ·refine l_op rfl rfl rfl (o_val rfl (v_loadF ty22 rfl (l_lit rfl rfl)) ?_)
      exact b_nil (l_go hF rfl (g7_79 v71101) (le_q rfl rfl))
     ·refine l_op rfl rfl rfl (o_alloc (fid := 22) (zs := [HV.int .i64 0, HV.int .i64 0, HV.int .i64 0]) 22006 rfl rfl ty49 rfl (fun v71201 => ?_))
      exact b_nil (l_go hF rfl (g7_34 v71101 v71201) (le_q rfl rfl))
    have g7_86 : F [0, 1, 2, 6, 7, 8, 9, 10] ⟨[(1, HV.fptr [HV.int .i64 p0.1, HV.int .i64 p0.2.1, slE eFromLabelTo p0.2.2] 0), (4, HV.int .i64 a3), (18, slE eFromLabelTo p0.2.2), (19, HV.int .i64 a3), (27, HV.agg [HV.int .i64 x70901.1, HV.int .i64 x70901.2.1, HV.int .i64 x70901.2.2])], []⟩ := by
     refine l_step hF rfl [3, 11, 12] rfl rfl ⟨?_, ?_, ?_, trivial⟩
     ·refine l_op rfl rfl rfl (o_val rfl (v_bin rfl rfl b_sub) ?_)
      exact b_nil (l_go hF rfl (g7_88) (le_q rfl rfl))
     ·refine l_op rfl rfl rfl (o_alloc (fid := 22) (zs := [HV.int .i64 0, HV.int .i64 0, HV.int .i64 0]) 22005 rfl rfl ty49 rfl (fun v71101 => ?_))
      exact b_nil (l_go hF rfl (g7_67 v71101) (le_q rfl rfl))
     ·refine l_op rfl rfl rfl (o_alloc (fid := 22) (zs := [HV.int .i64 0, HV.int .i64 0, HV.int .i64 0]) 22006 rfl rfl ty49 rfl (fun v71201 => ?_))
      exact b_nil (l_go hF rfl (g7_45 v71201) (le_q rfl rfl))
    have g7_87 : F [0, 2, 3, 6, 7, 8, 9, 10] ⟨[(1, HV.fptr [HV.int .i64 p0.1, HV.int .i64 p0.2.1, slE eFromLabelTo p0.2.2] 0), (4, HV.int .i64 a3), (17, HV.fptr [HV.int .i64 p0.1, HV.int .i64 p0.2.1, slE eFromLabelTo p0.2.2] 2), (20, HV.int .i64 (IntKind.wrap .i64 (a3 - 1))), (27, HV.agg [HV.int .i64 x70901.1, HV.int .i64 x70901.2.1, HV.int .i64 x70901.2.2])], []⟩ := by
     refine l_step hF rfl [1, 11, 12] rfl rfl ⟨?_, ?_, ?_, trivial⟩
     ·refine l_op rfl rfl rfl (o_val rfl (v_loadF ty22 rfl (l_lit rfl rfl)) ?_)
      exact b_nil (l_go hF rfl (g7_88) (le_q rfl rfl))
     ·refine l_op rfl rfl rfl (o_alloc (fid := 22) (zs := [HV.int .i64 0, HV.int .i64 0, HV.int .i64 0]) 22005 rfl rfl ty49 rfl (fun v71101 => ?_))
      exact b_nil (l_go hF rfl (g7_68 v71101) (le_q rfl rfl))
     ·refine l_op rfl rfl rfl (o_alloc (fid := 22) (zs := [HV.int .i64 0, HV.int .i64 0, HV.int .i64 0]) 22006 rfl rfl ty49 rfl (fun v71201 => ?_))
      exact b_nil (l_go hF rfl (g7_46 v71201) (le_q rfl rfl))
    have g7_91 : F [0, 1, 2, 3, 6, 7, 8, 9] ⟨[(1, HV.fptr [HV.int .i64 p0.1, HV.int .i64 p0.2.1, slE eFromLabelTo p0.2.2] 0), (4, HV.int .i64 a3), (18, slE eFromLabelTo p0.2.2), (20, HV.int .i64 (IntKind.wrap .i64 (a3 - 1))), (26, HV.fptr (eFromLabelTo.E p0.2.2) ((a3).toNat * eFromLabelTo.k))], []⟩ := by
     refine l_take (i := 4) hF rfl rfl rfl (v_idxF ty22 es22 rfl rfl (idx_lt h70402)) ?_
     exact l_go hF rfl (g7_92) (le_q rfl rfl)
    have g7_97 : F [0, 1, 2, 3, 4, 5, 6, 8] ⟨[(1, HV.fptr [HV.int .i64 p0.1, HV.int .i64 p0.2.1, slE eFromLabelTo p0.2.2] 0), (4, HV.int .i64 a3), (22, HV.agg [HV.int .i64 x70401.1, HV.int .i64 x70401.2.1, HV.int .i64 x70401.2.2]), (23, HV.fptr [HV.int .i64 p0.1, HV.int .i64 p0.2.1, slE eFromLabelTo p0.2.2] 2), (25, HV.int .i64 a3)], []⟩ := by
     refine l_step hF rfl [7, 11, 12] rfl rfl ⟨?_, ?_, ?_, trivial⟩
     ·refine l_op rfl rfl rfl (o_val rfl (v_loadF ty22 rfl (l_lit rfl rfl)) ?_)
      exact b_nil (l_go hF rfl (g7_99) (le_q rfl rfl))
     ·refine l_op rfl rfl rfl (o_alloc (fid := 22) (zs := [HV.int .i64 0, HV.int .i64 0, HV.int .i64 0]) 22005 rfl rfl ty49 rfl (fun v71101 => ?_))
      exact b_nil (l_go hF rfl (g7_78 v71101) (le_q rfl rfl))
     ·refine l_op rfl rfl rfl (o_alloc (fid := 22) (zs := [HV.int .i64 0, HV.int .i64 0, HV.int .i64 0]) 22006 rfl rfl ty49 rfl (fun v71201 => ?_))
      exact b_nil (l_go hF rfl (g7_56 v71201) (le_q rfl rfl))
    have g7_98 : F [0, 1, 2, 3, 4, 6, 7, 8] ⟨[(1, HV.fptr [HV.int .i64 p0.1, HV.int .i64 p0.2.1, slE eFromLabelTo p0.2.2] 0), (4, HV.int .i64 a3), (21, HV.fptr (eFromLabelTo.E p0.2.2) ((IntKind.wrap .i64 (a3 - 1)).toNat * eFromLabelTo.k)), (24, slE eFromLabelTo p0.2.2), (25, HV.int .i64 a3)], []⟩ := by
     refine l_take (i := 9) hF rfl rfl rfl (v_idxF ty22 es22 rfl rfl (idx_lt h70902)) ?_
     exact l_go hF rfl (g7_92) (le_q rfl rfl)
    have g7_14 : ∀ (v71101 : Nat) (v71201 : Nat), F [0, 1, 2, 6, 8, 11, 12] ⟨[(1, HV.fptr [HV.int .i64 p0.1, HV.int .i64 p0.2.1, slE eFromLabelTo p0.2.2] 0), (4, HV.int .i64 a3), (5, HV.ptr 22005 v71101 0), (6, HV.ptr 22006 v71201 0), (18, slE eFromLabelTo p0.2.2), (19, HV.int .i64 a3), (23, HV.fptr [HV.int .i64 p0.1, HV.int .i64 p0.2.1, slE eFromLabelTo p0.2.2] 2), (25, HV.int .i64 a3)], [(22005, v71101, .arr 3 49 [HV.int .i64 0, HV.int .i64 0, HV.int .i64 0]), (22006, v71201, .arr 3 49 [HV.int .i64 0, HV.int .i64 0, HV.int .i64 0])]⟩ := by
     intro v71101 v71201
     refine l_step hF rfl [3, 7] rfl rfl ⟨?_, ?_, trivial⟩
     ·refine l_op rfl rfl rfl (o_val rfl (v_bin rfl rfl b_sub) ?_)
      exact b_nil (l_go hF rfl (g7_32 v71101 v71201) (le_q rfl rfl))
     ·refine l_op rfl rfl rfl (o_val rfl (v_loadF ty22 rfl (l_lit rfl rfl)) ?_)
      exact b_nil (l_go hF rfl (g7_40 v71101 v71201) (le_q rfl rfl))
    have g7_15 : ∀ (v71101 : Nat) (v71201 : Nat), F [0, 2, 3, 6, 8, 11, 12] ⟨[(1, HV.fptr [HV.int .i64 p0.1, HV.int .i64 p0.2.1, slE eFromLabelTo p0.2.2] 0), (4, HV.int .i64 a3), (5, HV.ptr 22005 v71101 0), (6, HV.ptr 22006 v71201 0), (17, HV.fptr [HV.int .i64 p0.1, HV.int .i64 p0.2.1, slE eFromLabelTo p0.2.2] 2), (20, HV.int .i64 (IntKind.wrap .i64 (a3 - 1))), (23, HV.fptr [HV.int .i64 p0.1, HV.int .i64 p0.2.1, slE eFromLabelTo p0.2.2] 2), (25, HV.int .i64 a3)], [(22005, v71101, .arr 3 49 [HV.int .i64 0, HV.int .i64 0, HV.int .i64 0]), (22006, v71201, .arr 3 49 [HV.int .i64 0, HV.int .i64 0, HV.int .i64 0])]⟩ := by
     intro v71101 v71201
     refine l_step hF rfl [1, 7] rfl rfl ⟨?_, ?_, trivial⟩
     ·refine l_op rfl rfl rfl (o_val rfl (v_loadF ty22 rfl (l_lit rfl rfl)) ?_)
      exact b_nil (l_go hF rfl (g7_32 v71101 v71201) (le_q rfl rfl))
     ·refine l_op rfl rfl rfl (o_val rfl (v_loadF ty22 rfl (l_lit rfl rfl)) ?_)
      exact b_nil (l_go hF rfl (g7_33 v71101 v71201) (le_q rfl rfl))
    have g7_16 : ∀ (v71101 : Nat) (v71201 : Nat), F [0, 2, 6, 7, 8, 11, 12] ⟨[(1, HV.fptr [HV.int .i64 p0.1, HV.int .i64 p0.2.1, slE eFromLabelTo p0.2.2] 0), (4, HV.int .i64 a3), (5, HV.ptr 22005 v71101 0), (6, HV.ptr 22006 v71201 0), (17, HV.fptr [HV.int .i64 p0.1, HV.int .i64 p0.2.1, slE eFromLabelTo p0.2.2] 2), (19, HV.int .i64 a3), (24, slE eFromLabelTo p0.2.2), (25, HV.int .i64 a3)], [(22005, v71101, .arr 3 49 [HV.int .i64 0, HV.int .i64 0, HV.int .i64 0]), (22006, v71201, .arr 3 49 [HV.int .i64 0, HV.int .i64 0, HV.int .i64 0])]⟩ := by
     intro v71101 v71201
     refine l_take (i := 9) hF rfl rfl rfl (v_idxF ty22 es22 rfl rfl (idx_lt h70902)) ?_
     exact l_go hF rfl (g7_17 v71101 v71201) (le_q rfl rfl)
    have g7_41 : ∀ (v71201 : Nat), F [0, 2, 6, 7, 8, 9, 12] ⟨[(1, HV.fptr [HV.int .i64 p0.1, HV.int .i64 p0.2.1, slE eFromLabelTo p0.2.2] 0), (4, HV.int .i64 a3), (6, HV.ptr 22006 v71201 0), (17, HV.fptr [HV.int .i64 p0.1, HV.int .i64 p0.2.1, slE eFromLabelTo p0.2.2] 2), (19, HV.int .i64 a3), (26, HV.fptr (eFromLabelTo.E p0.2.2) ((a3).toNat * eFromLabelTo.k))], [(22006, v71201, .arr 3 49 [HV.int .i64 0, HV.int .i64 0, HV.int .i64 0])]⟩ := by
     intro v71201
     refine l_step hF rfl [1, 3, 10, 11] rfl rfl ⟨?_, ?_, ?_, ?_, trivial⟩
     ·refine l_op rfl rfl rfl (o_val rfl (v_loadF ty22 rfl (l_lit rfl rfl)) ?_)
      exact b_nil (l_go hF rfl (g7_42 v71201) (le_q rfl rfl))
     ·refine l_op rfl rfl rfl (o_val rfl (v_bin rfl rfl b_sub) ?_)
      exact b_nil (l_go hF rfl (g7_43 v71201) (le_q rfl rfl))
     ·refine l_op rfl rfl rfl (o_val rfl (v_loadF ty49 rfl (l_agg eFromLabelTo h70902 rfl rfl)) ?_)
      exact b_nil (l_go hF rfl (g7_44 v71201) (le_q rfl rfl))
     ·refine l_op rfl rfl rfl (o_alloc (fid := 22) (zs := [HV.int .i64 0, HV.int .i64 0, HV.int .i64 0]) 22005 rfl rfl ty49 rfl (fun v71101 => ?_))
      exact b_nil (l_go hF rfl (g7_17 v71101 v71201) (le_q rfl rfl))
    have g7_53 : ∀ (v71201 : Nat), F [0, 1, 2, 3, 6, 8, 12] ⟨[(1, HV.fptr [HV.int .i64 p0.1, HV.int .i64 p0.2.1, slE eFromLabelTo p0.2.2] 0), (4, HV.int .i64 a3), (6, HV.ptr 22006 v71201 0), (18, slE eFromLabelTo p0.2.2), (20, HV.int .i64 (IntKind.wrap .i64 (a3 - 1))), (23, HV.fptr [HV.int .i64 p0.1, HV.int .i64 p0.2.1, slE eFromLabelTo p0.2.2] 2), (25, HV.int .i64 a3)], [(22006, v71201, .arr 3 49 [HV.int .i64 0, HV.int .i64 0, HV.int .i64 0])]⟩ := by
     intro v71201
     refine l_take (i := 4) hF rfl rfl rfl (v_idxF ty22 es22 rfl rfl (idx_lt h70402)) ?_
     exact l_go hF rfl (g7_55 v71201) (le_q rfl rfl)
    have g7_54 : ∀ (v71201 : Nat), F [0, 2, 3, 6, 7, 8, 12] ⟨[(1, HV.fptr [HV.int .i64 p0.1, HV.int .i64 p0.2.1, slE eFromLabelTo p0.2.2] 0), (4, HV.int .i64 a3), (6, HV.ptr 22006 v71201 0), (17, HV.fptr [HV.int .i64 p0.1, HV.int .i64 p0.2.1, slE eFromLabelTo p0.2.2] 2), (20, HV.int .i64 (IntKind.wrap .i64 (a3 - 1))), (24, slE eFromLabelTo p0.2.2), (25, HV.int .i64 a3)], [(22006, v71201, .arr 3 49 [HV.int .i64 0, HV.int .i64 0, HV.int .i64 0])]⟩ := by
     intro v71201
     refine l_take (i := 9) hF rfl rfl rfl (v_idxF ty22 es22 rfl rfl (idx_lt h70902)) ?_
     exact l_go hF rfl (g7_43 v71201) (le_q rfl rfl)
    have g7_59 : ∀ (v71201 : Nat), F [0, 1, 2, 6, 7, 8, 12] ⟨[(1, HV.fptr [HV.int .i64 p0.1, HV.int .i64 p0.2.1, slE eFromLabelTo p0.2.2] 0), (4, HV.int .i64 a3), (6, HV.ptr 22006 v71201 0), (18, slE eFromLabelTo p0.2.2), (19, HV.int .i64 a3), (24, slE eFromLabelTo p0.2.2), (25, HV.int .i64 a3)], [(22006, v71201, .arr 3 49 [HV.int .i64 0, HV.int .i64 0, HV.int .i64 0])]⟩ := by
     intro v71201
     refine l_take (i := 9) hF rfl rfl rfl (v_idxF ty22 es22 rfl rfl (idx_lt h70902)) ?_
     exact l_go hF rfl (g7_42 v71201) (le_q rfl rfl)
    have g7_63 : ∀ (v71101 : Nat), F [0, 2, 6, 7, 8, 9, 11] ⟨[(1, HV.fptr [HV.int .i64 p0.1, HV.int .i64 p0.2.1, slE eFromLabelTo p0.2.2] 0), (4, HV.int .i64 a3), (5, HV.ptr 22005 v71101 0), (17, HV.fptr [HV.int .i64 p0.1, HV.int .i64 p0.2.1, slE eFromLabelTo p0.2.2] 2), (19, HV.int .i64 a3), (26, HV.fptr (eFromLabelTo.E p0.2.2) ((a3).toNat * eFromLabelTo.k))], [(22005, v71101, .arr 3 49 [HV.int .i64 0, HV.int .i64 0, HV.int .i64 0])]⟩ := by
     intro v71101
     refine l_step hF rfl [1, 3, 10, 12] rfl rfl ⟨?_, ?_, ?_, ?_, trivial⟩
     ·refine l_op rfl rfl rfl (o_val rfl (v_loadF ty22 rfl (l_lit rfl rfl)) ?_)
      exact b_nil (l_go hF rfl (g7_64 v71101) (le_q rfl rfl))
     ·refine l_op rfl rfl rfl (o_val rfl (v_bin rfl rfl b_sub) ?_)
      exact b_nil (l_go hF rfl (g7_65 v71101) (le_q rfl rfl))
     ·refine l_op rfl rfl rfl (o_val rfl (v_loadF ty49 rfl (l_agg eFromLabelTo h70902 rfl rfl)) ?_)
      exact b_nil (l_go hF rfl (g7_66 v71101) (le_q rfl rfl))
     ·refine l_op rfl rfl rfl (o_alloc (fid := 22) (zs := [HV.int .i64 0, HV.int .i64 0, HV.int .i64 0]) 22006 rfl rfl ty49 rfl (fun v71201 => ?_))
      exact b_nil (l_go hF rfl (g7_17 v71101 v71201) (le_q rfl rfl))
    have g7_75 : ∀ (v71101 : Nat), F [0, 1, 2, 3, 6, 8, 11] ⟨[(1, HV.fptr [HV.int .i64 p0.1, HV.int .i64 p0.2.1, slE eFromLabelTo p0.2.2] 0), (4, HV.int .i64 a3), (5, HV.ptr 22005 v71101 0), (18, slE eFromLabelTo p0.2.2), (20, HV.int .i64 (IntKind.wrap .i64 (a3 - 1))), (23, HV.fptr [HV.int .i64 p0.1, HV.int .i64 p0.2.1, slE eFromLabelTo p0.2.2] 2), (25, HV.int .i64 a3)], [(22005, v71101, .arr 3 49 [HV.int .i64 0, HV.int .i64 0, HV.int .i64 0])]⟩ := by
     intro v71101
     refine l_take (i := 4) hF rfl rfl rfl (v_idxF ty22 es22 rfl rfl (idx_lt h70402)) ?_
     exact l_go hF rfl (g7_77 v71101) (le_q rfl rfl)
    have g7_76 : ∀ (v71101 : Nat), F [0, 2, 3, 6, 7, 8, 11] ⟨[(1, HV.fptr [HV.int .i64 p0.1, HV.int .i64 p0.2.1, slE eFromLabelTo p0.2.2] 0), (4, HV.int .i64 a3), (5, HV.ptr 22005 v71101 0), (17, HV.fptr [HV.int .i64 p0.1, HV.int .i64 p0.2.1, slE eFromLabelTo p0.2.2] 2), (20, HV.int .i64 (IntKind.wrap .i64 (a3 - 1))), (24, slE eFromLabelTo p0.2.2), (25, HV.int .i64 a3)], [(22005, v71101, .arr 3 49 [HV.int .i64 0, HV.int .i64 0, HV.int .i64 0])]⟩ := by
     intro v71101
     refine l_take (i := 9) hF rfl rfl rfl (v_idxF ty22 es22 rfl rfl (idx_lt h70902)) ?_
     exact l_go hF rfl (g7_65 v71101) (le_q rfl rfl)
    have g7_81 : ∀ (v71101 : Nat), F [0, 1, 2, 6, 7, 8, 11] ⟨[(1, HV.fptr [HV.int .i64 p0.1, HV.int .i64 p0.2.1, slE eFromLabelTo p0.2.2] 0), (4, HV.int .i64 a3), (5, HV.ptr 22005 v71101 0), (18, slE eFromLabelTo p0.2.2), (19, HV.int .i64 a3), (24, slE eFromLabelTo p0.2.2), (25, HV.int .i64 a3)], [(22005, v71101, .arr 3 49 [HV.int .i64 0, HV.int .i64 0, HV.int .i64 0])]⟩ := by
     intro v71101
     refine l_take (i := 9) hF rfl rfl rfl (v_idxF ty22 es22 rfl rfl (idx_lt h70902)) ?_
     exact l_go hF rfl (g7_64 v71101) (le_q rfl rfl)
    have g7_83 : F [0, 1, 2, 6, 7, 8, 9] ⟨[(1, HV.fptr [HV.int .i64 p0.1, HV.int .i64 p0.2.1, slE eFromLabelTo p0.2.2] 0), (4, HV.int .i64 a3), (18, slE eFromLabelTo p0.2.2), (19, HV.int .i64 a3), (26, HV.fptr (eFromLabelTo.E p0.2.2) ((a3).toNat * eFromLabelTo.k))], []⟩ := by
     refine l_step hF rfl [3, 10, 11, 12] rfl rfl ⟨?_, ?_, ?_, ?_, trivial⟩
     ·refine l_op rfl rfl rfl (o_val rfl (v_bin rfl rfl b_sub) ?_)
      exact b_nil (l_go hF rfl (g7_91) (le_q rfl rfl))
     ·refine l_op rfl rfl rfl (o_val rfl (v_loadF ty49 rfl (l_agg eFromLabelTo h70902 rfl rfl)) ?_)
      exact b_nil (l_go hF rfl (g7_86) (le_q rfl rfl))
     ·refine l_op rfl rfl rfl (o_alloc (fid := 22) (zs := [HV.int .i64 0, HV.int .i64 0, HV.int .i64 0]) 22005 rfl rfl ty49 rfl (fun v71101 => ?_))
      exact b_nil (l_go hF rfl (g7_64 v71101) (le_q rfl rfl))
     ·refine l_op rfl rfl rfl (o_alloc (fid := 22) (zs := [HV.int .i64 0, HV.int .i64 0, HV.int .i64 0]) 22006 rfl rfl ty49 rfl (fun v71201 => ?_))
      exact b_nil (l_go hF rfl (g7_42 v71201) (le_q rfl rfl))
    have g7_84 : F [0, 2, 3, 6, 7, 8, 9] ⟨[(1, HV.fptr [HV.int .i64 p0.1, HV.int .i64 p0.2.1, slE eFromLabelTo p0.2.2] 0), (4, HV.int .i64 a3), (17, HV.fptr [HV.int .i64 p0.1, HV.int .i64 p0.2.1, slE eFromLabelTo p0.2.2] 2), (20, HV.int .i64 (IntKind.wrap .i64 (a3 - 1))), (26, HV.fptr (eFromLabelTo.E p0.2.2) ((a3).toNat * eFromLabelTo.k))], []⟩ := by
     refine l_step hF rfl [1, 10, 11, 12] rfl rfl ⟨?_, ?_, ?_, ?_, trivial⟩
     ·refine l_op rfl rfl rfl (o_val rfl (v_loadF ty22 rfl (l_lit rfl rfl)) ?_)
      exact b_nil (l_go hF rfl (g7_91) (le_q rfl rfl))
     ·refine l_op rfl rfl rfl (o_val rfl (v_loadF ty49 rfl (l_agg eFromLabelTo h70902 rfl rfl)) ?_)
      exact b_nil (l_go hF rfl (g7_87) (le_q rfl rfl))
     ·refine l_op rfl rfl rfl (o_alloc (fid := 22) (zs := [HV.int .i64 0, HV.int .i64 0, HV.int .i64 0]) 22005 rfl rfl ty49 rfl (fun v71101 => ?_))
      exact b_nil (l_go hF rfl (g7_65 v71101) (le_q rfl rfl))
     ·refine l_op rfl rfl rfl (o_alloc (fid := 22) (zs := [HV.int .i64 0, HV.int .i64 0, HV.int .i64 0]) 22006 rfl rfl ty49 rfl (fun v71201 => ?_))
      exact b_nil (l_go hF rfl (g7_43 v71201) (le_q rfl rfl))
    have g7_85 : F [0, 2, 6, 7, 8, 9, 10] ⟨[(1, HV.fptr [HV.int .i64 p0.1, HV.int .i64 p0.2.1, slE eFromLabelTo p0.2.2] 0), (4, HV.int .i64 a3), (17, HV.fptr [HV.int .i64 p0.1, HV.int .i64 p0.2.1, slE eFromLabelTo p0.2.2] 2), (19, HV.int .i64 a3), (27, HV.agg [HV.int .i64 x70901.1, HV.int .i64 x70901.2.1, HV.int .i64 x70901.2.2])], []⟩ := by
     refine l_step hF rfl [1, 3, 11, 12] rfl rfl ⟨?_, ?_, ?_, ?_, trivial⟩
     ·refine l_op rfl rfl rfl (o_val rfl (v_loadF ty22 rfl (l_lit rfl rfl)) ?_)
      exact b_nil (l_go hF rfl (g7_86) (le_q rfl rfl))
     ·refine l_op rfl rfl rfl (o_val rfl (v_bin rfl rfl b_sub) ?_)
      exact b_nil (l_go hF rfl (g7_87) (le_q rfl rfl))
     ·refine l_op rfl rfl rfl (o_alloc (fid := 22) (zs := [HV.int .i64 0, HV.int .i64 0, HV.int .i64 0]) 22005 rfl rfl ty49 rfl (fun v71101 => ?_))
      exact b_nil (l_go hF rfl (g7_66 v71101) (le_q rfl rfl))
     ·refine l_op rfl rfl rfl (o_alloc (fid := 22) (zs := [HV.int .i64 0, HV.int .i64 0, HV.int .i64 0]) 22006 rfl rfl ty49 rfl (fun v71201 => ?_))
      exact b_nil (l_go hF rfl (g7_44 v71201) (le_q rfl rfl))
    have g7_96 : F [0, 1, 2, 3, 4, 6, 8] ⟨[(1, HV.fptr [HV.int .i64 p0.1, HV.int .i64 p0.2.1, slE eFromLabelTo p0.2.2] 0), (4, HV.int .i64 a3), (21, HV.fptr (eFromLabelTo.E p0.2.2) ((IntKind.wrap .i64 (a3 - 1)).toNat * eFromLabelTo.k)), (23, HV.fptr [HV.int .i64 p0.1, HV.int .i64 p0.2.1, slE eFromLabelTo p0.2.2] 2), (25, HV.int .i64 a3)], []⟩ := by
     refine l_step hF rfl [5, 7, 11, 12] rfl rfl ⟨?_, ?_, ?_, ?_, trivial⟩
     ·refine l_op rfl rfl rfl (o_val rfl (v_loadF ty49 rfl (l_agg eFromLabelTo h70402 rfl rfl)) ?_)
      exact b_nil (l_go hF rfl (g7_97) (le_q rfl rfl))
     ·refine l_op rfl rfl rfl (o_val rfl (v_loadF ty22 rfl (l_lit rfl rfl)) ?_)
      exact b_nil (l_go hF rfl (g7_98) (le_q rfl rfl))
     ·refine l_op rfl rfl rfl (o_alloc (fid := 22) (zs := [HV.int .i64 0, HV.int .i64 0, HV.int .i64 0]) 22005 rfl rfl ty49 rfl (fun v71101 => ?_))
      exact b_nil (l_go hF rfl (g7_77 v71101) (le_q rfl rfl))
     ·refine l_op rfl rfl rfl (o_alloc (fid := 22) (zs := [HV.int .i64 0, HV.int .i64 0, HV.int .i64 0]) 22006 rfl rfl ty49 rfl (fun v71201 => ?_))
      exact b_nil (l_go hF rfl (g7_55 v71201) (le_q rfl rfl))
    have g7_10 : ∀ (v71201 : Nat), F [0, 1, 2, 6, 8, 12] ⟨[(1, HV.fptr [HV.int .i64 p0.1, HV.int .i64 p0.2.1, slE eFromLabelTo p0.2.2] 0), (4, HV.int .i64 a3), (6, HV.ptr 22006 v71201 0), (18, slE eFromLabelTo p0.2.2), (19, HV.int .i64 a3), (23, HV.fptr [HV.int .i64 p0.1, HV.int .i64 p0.2.1, slE eFromLabelTo p0.2.2] 2), (25, HV.int .i64 a3)], [(22006, v71201, .arr 3 49 [HV.int .i64 0, HV.int .i64 0, HV.int .i64 0])]⟩ := by
     intro v71201
     refine l_step hF rfl [3, 7, 11] rfl rfl ⟨?_, ?_, ?_, trivial⟩
     ·refine l_op rfl rfl rfl (o_val rfl (v_bin rfl rfl b_sub) ?_)
      exact b_nil (l_go hF rfl (g7_53 v71201) (le_q rfl rfl))
     ·refine l_op rfl rfl rfl (o_val rfl (v_loadF ty22 rfl (l_lit rfl rfl)) ?_)
      exact b_nil (l_go hF rfl (g7_59 v71201) (le_q rfl rfl))
     ·refine l_op rfl rfl rfl (o_alloc (fid := 22) (zs := [HV.int .i64 0, HV.int .i64 0, HV.int .i64 0]) 22005 rfl rfl ty49 rfl (fun v71101 => ?_))
      exact b_nil (l_go hF rfl (g7_14 v71101 v71201) (le_q rfl rfl))
    have g7_11 : ∀ (v71201 : Nat), F [0, 2, 3, 6, 8, 12] ⟨[(1, HV.fptr [HV.int .i64 p0.1, HV.int .i64 p0.2.1, slE eFromLabelTo p0.2.2] 0), (4, HV.int .i64 a3), (6, HV.ptr 22006 v71201 0), (17, HV.fptr [HV.int .i64 p0.1, HV.int .i64 p0.2.1, slE eFromLabelTo p0.2.2] 2), (20, HV.int .i64 (IntKind.wrap .i64 (a3 - 1))), (23, HV.fptr [HV.int .i64 p0.1, HV.int .i64 p0.2.1, slE eFromLabelTo p0.2.2] 2), (25, HV.int .i64 a3)], [(22006, v71201, .arr 3 49 [HV.int .i64 0, HV.int .i64 0, HV.int .i64 0])]⟩ := by
     intro v71201
     refine l_step hF rfl [1, 7, 11] rfl rfl ⟨?_, ?_, ?_, trivial⟩
     ·refine l_op rfl rfl rfl (o_val rfl (v_loadF ty22 rfl (l_lit rfl rfl)) ?_)
      exact b_nil (l_go hF rfl (g7_53 v71201) (le_q rfl rfl))
     ·refine l_op rfl rfl rfl (o_val rfl (v_loadF ty22 rfl (l_lit rfl rfl)) ?_)
      exact b_nil (l_go hF rfl (g7_54 v71201) (le_q rfl rfl))
     ·refine l_op rfl rfl rfl (o_alloc (fid := 22) (zs := [HV.int .i64 0, HV.int .i64 0, HV.int .i64 0]) 22005 rfl rfl ty49 rfl (fun v71101 => ?_))
      exact b_nil (l_go hF rfl (g7_15 v71101 v71201) (le_q rfl rfl))
    have g7_12 : ∀ (v71201 : Nat), F [0, 2, 6, 7, 8, 12] ⟨[(1, HV.fptr [HV.int .i64 p0.1, HV.int .i64 p0.2.1, slE eFromLabelTo p0.2.2] 0), (4, HV.int .i64 a3), (6, HV.ptr 22006 v71201 0), (17, HV.fptr [HV.int .i64 p0.1, HV.int .i64 p0.2.1, slE eFromLabelTo p0.2.2] 2), (19, HV.int .i64 a3), (24, slE eFromLabelTo p0.2.2), (25, HV.int .i64 a3)], [(22006, v71201, .arr 3 49 [HV.int .i64 0, HV.int .i64 0, HV.int .i64 0])]⟩ := by
     intro v71201
     refine l_take (i := 9) hF rfl rfl rfl (v_idxF ty22 es22 rfl rfl (idx_lt h70902)) ?_
     exact l_go hF rfl (g7_41 v71201) (le_q rfl rfl)
    have g7_13 : ∀ (v71101 : Nat) (v71201 : Nat), F [0, 2, 6, 8, 11, 12] ⟨[(1, HV.fptr [HV.int .i64 p0.1, HV.int .i64 p0.2.1, slE eFromLabelTo p0.2.2] 0), (4, HV.int .i64 a3), (5, HV.ptr 22005 v71101 0), (6, HV.ptr 22006 v71201 0), (17, HV.fptr [HV.int .i64 p0.1, HV.int .i64 p0.2.1, slE eFromLabelTo p0.2.2] 2), (19, HV.int .i64 a3), (23, HV.fptr [HV.int .i64 p0.1, HV.int .i64 p0.2.1, slE eFromLabelTo p0.2.2] 2), (25, HV.int .i64 a3)], [(22005, v71101, .arr 3 49 [HV.int .i64 0, HV.int .i64 0, HV.int .i64 0]), (22006, v71201, .arr 3 49 [HV.int .i64 0, HV.int .i64 0, HV.int .i64 0])]⟩ := by
     intro v71101 v71201
     refine l_step hF rfl [1, 3, 7] rfl rfl ⟨?_, ?_, ?_, trivial⟩
     ·refine l_op rfl rfl rfl (o_val rfl (v_loadF ty22 rfl (l_lit rfl rfl)) ?_)
      exact b_nil (l_go hF rfl (g7_14 v71101 v71201) (le_q rfl rfl))
     ·refine l_op rfl rfl rfl (o_val rfl (v_bin rfl rfl b_sub) ?_)
      exact b_nil (l_go hF rfl (g7_15 v71101 v71201) (le_q rfl rfl))
     ·refine l_op rfl rfl rfl (o_val rfl (v_loadF ty22 rfl (l_lit rfl rfl)) ?_)
      exact b_nil (l_go hF rfl (g7_16 v71101 v71201) (le_q rfl rfl))
    have g7_60 : ∀ (v71101 : Nat), F [0, 1, 2, 6, 8, 11] ⟨[(1, HV.fptr [HV.int .i64 p0.1, HV.int .i64 p0.2.1, slE eFromLabelTo p0.2.2] 0), (4, HV.int .i64 a3), (5, HV.ptr 22005 v71101 0), (18, slE eFromLabelTo p0.2.2), (19, HV.int .i64 a3), (23, HV.fptr [HV.int .i64 p0.1, HV.int .i64 p0.2.1, slE eFromLabelTo p0.2.2] 2), (25, HV.int .i64 a3)], [(22005, v71101, .arr 3 49 [HV.int .i64 0, HV.int .i64 0, HV.int .i64 0])]⟩ := by
     intro v71101
     refine l_step hF rfl [3, 7, 12] rfl rfl ⟨?_, ?_, ?_, trivial⟩
     ·refine l_op rfl rfl rfl (o_val rfl (v_bin rfl rfl b_sub) ?_)
      exact b_nil (l_go hF rfl (g7_75 v71101) (le_q rfl rfl))
     ·refine l_op rfl rfl rfl (o_val rfl (v_loadF ty22 rfl (l_lit rfl rfl)) ?_)
      exact b_nil (l_go hF rfl (g7_81 v71101) (le_q rfl rfl))
     ·refine l_op rfl rfl rfl (o_alloc (fid := 22) (zs := [HV.int .i64 0, HV.int .i64 0, HV.int .i64 0]) 22006 rfl rfl ty49 rfl (fun v71201 => ?_))
      exact b_nil (l_go hF rfl (g7_14 v71101 v71201) (le_q rfl rfl))
    have g7_61 : ∀ (v71101 : Nat), F [0, 2, 3, 6, 8, 11] ⟨[(1, HV.fptr [HV.int .i64 p0.1, HV.int .i64 p0.2.1, slE eFromLabelTo p0.2.2] 0), (4, HV.int .i64 a3), (5, HV.ptr 22005 v71101 0), (17, HV.fptr [HV.int .i64 p0.1, HV.int .i64 p0.2.1, slE eFromLabelTo p0.2.2] 2), (20, HV.int .i64 (IntKind.wrap .i64 (a3 - 1))), (23, HV.fptr [HV.int .i64 p0.1, HV.int .i64 p0.2.1, slE eFromLabelTo p0.2.2] 2), (25, HV.int .i64 a3)], [(22005, v71101, .arr 3 49 [HV.int .i64 0, HV.int .i64 0, HV.int .i64 0])]⟩ := by
     intro v71101
     refine l_step hF rfl [1, 7, 12] rfl rfl ⟨?_, ?_, ?_, trivial⟩
     ·refine l_op rfl rfl rfl (o_val rfl (v_loadF ty22 rfl (l_lit rfl rfl)) ?_)
      exact b_nil (l_go hF rfl (g7_75 v71101) (le_q rfl rfl))
     ·refine l_op rfl rfl rfl (o_val rfl (v_loadF ty22 rfl (l_lit rfl rfl)) ?_)
      exact b_nil (l_go hF rfl (g7_76 v71101) (le_q rfl rfl))
     ·refine l_op rfl rfl rfl (o_alloc (fid := 22) (zs := [HV.int .i64 0, HV.int .i64 0, HV.int .i64 0]) 22006 rfl rfl ty49 rfl (fun v71201 => ?_))
      exact b_nil (l_go hF rfl (g7_15 v71101 v71201) (le_q rfl rfl))
    have g7_62 : ∀ (v71101 : Nat), F [0, 2, 6, 7, 8, 11] ⟨[(1, HV.fptr [HV.int .i64 p0.1, HV.int .i64 p0.2.1, slE eFromLabelTo p0.2.2] 0), (4, HV.int .i64 a3), (5, HV.ptr 22005 v71101 0), (17, HV.fptr [HV.int .i64 p0.1, HV.int .i64 p0.2.1, slE eFromLabelTo p0.2.2] 2), (19, HV.int .i64 a3), (24, slE eFromLabelTo p0.2.2), (25, HV.int .i64 a3)], [(22005, v71101, .arr 3 49 [HV.int .i64 0, HV.int .i64 0, HV.int .i64 0])]⟩ := by
     intro v71101
     refine l_take (i := 9) hF rfl rfl rfl (v_idxF ty22 es22 rfl rfl (idx_lt h70902)) ?_
     exact l_go hF rfl (g7_63 v71101) (le_q rfl rfl)
    have g7_82 : F [0, 2, 6, 7, 8, 9] ⟨[(1, HV.fptr [HV.int .i64 p0.1, HV.int .i64 p0.2.1, slE eFromLabelTo p0.2.2] 0), (4, HV.int .i64 a3), (17, HV.fptr [HV.int .i64 p0.1, HV.int .i64 p0.2.1, slE eFromLabelTo p0.2.2] 2), (19, HV.int .i64 a3), (26, HV.fptr (eFromLabelTo.E p0.2.2) ((a3).toNat * eFromLabelTo.k))], []⟩ := by
     refine l_step hF rfl [1, 3, 10, 11, 12] rfl rfl ⟨?_, ?_, ?_, ?_, ?_, trivial⟩
     ·refine l_op rfl rfl rfl (o_val rfl (v_loadF ty22 rfl (l_lit rfl rfl)) ?_)
      exact b_nil (l_go hF rfl (g7_83) (le_q rfl rfl))
     ·refine l_op rfl rfl rfl (o_val rfl (v_bin rfl rfl b_sub) ?_)
      exact b_nil (l_go hF rfl (g7_84) (le_q rfl rfl))
     ·refine l_op rfl rfl rfl (o_val rfl (v_loadF ty49 rfl (l_agg eFromLabelTo h70902 rfl rfl)) ?_)
      exact b_nil (l_go hF rfl (g7_85) (le_q rfl rfl))
     ·refine l_op rfl rfl rfl (o_alloc (fid := 22) (zs := [HV.int .i64 0, HV.int .i64 0, HV.int .i64 0]) 22005 rfl rfl ty49 rfl (fun v71101 => ?_))
      exact b_nil (l_go hF rfl (g7_63 v71101) (le_q rfl rfl))
     ·refine l_op rfl rfl rfl (o_alloc (fid := 22) (zs := [HV.int .i64 0, HV.int .i64 0, HV.int .i64 0]) 22006 rfl rfl ty49 rfl (fun v71201 => ?_))
      exact b_nil (l_go hF rfl (g7_41 v71201) (le_q rfl rfl))
    have g7_94 : F [0, 1, 2, 3, 6, 8] ⟨[(1, HV.fptr [HV.int .i64 p0.1, HV.int .i64 p0.2.1, slE eFromLabelTo p0.2.2] 0), (4, HV.int .i64 a3), (18, slE eFromLabelTo p0.2.2), (20, HV.int .i64 (IntKind.wrap .i64 (a3 - 1))), (23, HV.fptr [HV.int .i64 p0.1, HV.int .i64 p0.2.1, slE eFromLabelTo p0.2.2] 2), (25, HV.int .i64 a3)], []⟩ := by
     refine l_take (i := 4) hF rfl rfl rfl (v_idxF ty22 es22 rfl rfl (idx_lt h70402)) ?_
     exact l_go hF rfl (g7_96) (le_q rfl rfl)
    have g7_95 : F [0, 2, 3, 6, 7, 8] ⟨[(1, HV.fptr [HV.int .i64 p0.1, HV.int .i64 p0.2.1, slE eFromLabelTo p0.2.2] 0), (4, HV.int .i64 a3), (17, HV.fptr [HV.int .i64 p0.1, HV.int .i64 p0.2.1, slE eFromLabelTo p0.2.2] 2), (20, HV.int .i64 (IntKind.wrap .i64 (a3 - 1))), (24, slE eFromLabelTo p0.2.2), (25, HV.int .i64 a3)], []⟩ := by
     refine l_take (i := 9) hF rfl rfl rfl (v_idxF ty22 es22 rfl rfl (idx_lt h70902)) ?_
     exact l_go hF rfl (g7_84) (le_q rfl rfl)
    have g7_100 : F [0, 1, 2, 6, 7, 8] ⟨[(1, HV.fptr [HV.int .i64 p0.1, HV.int .i64 p0.2.1, slE eFromLabelTo p0.2.2] 0), (4, HV.int .i64 a3), (18, slE eFromLabelTo p0.2.2), (19, HV.int .i64 a3), (24, slE eFromLabelTo p0.2.2), (25, HV.int .i64 a3)], []⟩ := by
     refine l_take (i := 9) hF rfl rfl rfl (v_idxF ty22 es22 rfl rfl (idx_lt h70902)) ?_
     exact l_go hF rfl (g7_83) (le_q rfl rfl)
    have g7_5 : F [0, 1, 2, 6, 8] ⟨[(1, HV.fptr [HV.int .i64 p0.1, HV.int .i64 p0.2.1, slE eFromLabelTo p0.2.2] 0), (4, HV.int .i64 a3), (18, slE eFromLabelTo p0.2.2), (19, HV.int .i64 a3), (23, HV.fptr [HV.int .i64 p0.1, HV.int .i64 p0.2.1, slE eFromLabelTo p0.2.2] 2), (25, HV.int .i64 a3)], []⟩ := by
     refine l_step hF rfl [3, 7, 11, 12] rfl rfl ⟨?_, ?_, ?_, ?_, trivial⟩
     ·refine l_op rfl rfl rfl (o_val rfl (v_bin rfl rfl b_sub) ?_)
      exact b_nil (l_go hF rfl (g7_94) (le_q rfl rfl))
     ·refine l_op rfl rfl rfl (o_val rfl (v_loadF ty22 rfl (l_lit rfl rfl)) ?_)
      exact b_nil (l_go hF rfl (g7_100) (le_q rfl rfl))
     ·refine l_op rfl rfl rfl (o_alloc (fid := 22) (zs := [HV.int .i64 0, HV.int .i64 0, HV.int .i64 0]) 22005 rfl rfl ty49 rfl (fun v71101 => ?_))
      exact b_nil (l_go hF rfl (g7_60 v71101) (le_q rfl rfl))
     ·refine l_op rfl rfl rfl (o_alloc (fid := 22) (zs := [HV.int .i64 0, HV.int .i64 0, HV.int .i64 0]) 22006 rfl rfl ty49 rfl (fun v71201 => ?_))
      exact b_nil (l_go hF rfl (g7_10 v71201) (le_q rfl rfl))
    have g7_6 : F [0, 2, 3, 6, 8] ⟨[(1, HV.fptr [HV.int .i64 p0.1, HV.int .i64 p0.2.1, slE eFromLabelTo p0.2.2] 0), (4, HV.int .i64 a3), (17, HV.fptr [HV.int .i64 p0.1, HV.int .i64 p0.2.1, slE eFromLabelTo p0.2.2] 2), (20, HV.int .i64 (IntKind.wrap .i64 (a3 - 1))), (23, HV.fptr [HV.int .i64 p0.1, HV.int .i64 p0.2.1, slE eFromLabelTo p0.2.2] 2), (25, HV.int .i64 a3)], []⟩ := by
     refine l_step hF rfl [1, 7, 11, 12] rfl rfl ⟨?_, ?_, ?_, ?_, trivial⟩
     ·refine l_op rfl rfl rfl (o_val rfl (v_loadF ty22 rfl (l_lit rfl rfl)) ?_)
      exact b_nil (l_go hF rfl (g7_94) (le_q rfl rfl))
     ·refine l_op rfl rfl rfl (o_val rfl (v_loadF ty22 rfl (l_lit rfl rfl)) ?_)
      exact b_nil (l_go hF rfl (g7_95) (le_q rfl rfl))
     ·refine l_op rfl rfl rfl (o_alloc (fid := 22) (zs := [HV.int .i64 0, HV.int .i64 0, HV.int .i64 0]) 22005 rfl rfl ty49 rfl (fun v71101 => ?_))
      exact b_nil (l_go hF rfl (g7_61 v71101) (le_q rfl rfl))
     ·refine l_op rfl rfl rfl (o_alloc (fid := 22) (zs := [HV.int .i64 0, HV.int .i64 0, HV.int .i64 0]) 22006 rfl rfl ty49 rfl (fun v71201 => ?_))
      exact b_nil (l_go hF rfl (g7_11 v71201) (le_q rfl rfl))
    have g7_7 : F [0, 2, 6, 7, 8] ⟨[(1, HV.fptr [HV.int .i64 p0.1, HV.int .i64 p0.2.1, slE eFromLabelTo p0.2.2] 0), (4, HV.int .i64 a3), (17, HV.fptr [HV.int .i64 p0.1, HV.int .i64 p0.2.1, slE eFromLabelTo p0.2.2] 2), (19, HV.int .i64 a3), (24, slE eFromLabelTo p0.2.2), (25, HV.int .i64 a3)], []⟩ := by
     refine l_take (i := 9) hF rfl rfl rfl (v_idxF ty22 es22 rfl rfl (idx_lt h70902)) ?_
     exact l_go hF rfl (g7_82) (le_q rfl rfl)
    have g7_8 : ∀ (v71101 : Nat), F [0, 2, 6, 8, 11] ⟨[(1, HV.fptr [HV.int .i64 p0.1, HV.int .i64 p0.2.1, slE eFromLabelTo p0.2.2] 0), (4, HV.int .i64 a3), (5, HV.ptr 22005 v71101 0), (17, HV.fptr [HV.int .i64 p0.1, HV.int .i64 p0.2.1, slE eFromLabelTo p0.2.2] 2), (19, HV.int .i64 a3), (23, HV.fptr [HV.int .i64 p0.1, HV.int .i64 p0.2.1, slE eFromLabelTo p0.2.2] 2), (25, HV.int .i64 a3)], [(22005, v71101, .arr 3 49 [HV.int .i64 0, HV.int .i64 0, HV.int .i64 0])]⟩ := by
     intro v71101
     refine l_step hF rfl [1, 3, 7, 12] rfl rfl ⟨?_, ?_, ?_, ?_, trivial⟩
     ·refine l_op rfl rfl rfl (o_val rfl (v_loadF ty22 rfl (l_lit rfl rfl)) ?_)
      exact b_nil (l_go hF rfl (g7_60 v71101) (le_q rfl rfl))
     ·refine l_op rfl rfl rfl (o_val rfl (v_bin rfl rfl b_sub) ?_)
      exact b_nil (l_go hF rfl (g7_61 v71101) (le_q rfl rfl))
     ·refine l_op rfl rfl rfl (o_val rfl (v_loadF ty22 rfl (l_lit rfl rfl)) ?_)
      exact b_nil (l_go hF rfl (g7_62 v71101) (le_q rfl rfl))
     ·refine l_op rfl rfl rfl (o_alloc (fid := 22) (zs := [HV.int .i64 0, HV.int .i64 0, HV.int .i64 0]) 22006 rfl rfl ty49 rfl (fun v71201 => ?_))
      exact b_nil (l_go hF rfl (g7_13 v71101 v71201) (le_q rfl rfl))
    have g7_9 : ∀ (v71201 : Nat), F [0, 2, 6, 8, 12] ⟨[(1, HV.fptr [HV.int .i64 p0.1, HV.int .i64 p0.2.1, slE eFromLabelTo p0.2.2] 0), (4, HV.int .i64 a3), (6, HV.ptr 22006 v71201 0), (17, HV.fptr [HV.int .i64 p0.1, HV.int .i64 p0.2.1, slE eFromLabelTo p0.2.2] 2), (19, HV.int .i64 a3), (23, HV.fptr [HV.int .i64 p0.1, HV.int .i64 p0.2.1, slE eFromLabelTo p0.2.2] 2), (25, HV.int .i64 a3)], [(22006, v71201, .arr 3 49 [HV.int .i64 0, HV.int .i64 0, HV.int .i64 0])]⟩ := by
     intro v71201
     refine l_step hF rfl [1, 3, 7, 11] rfl rfl ⟨?_, ?_, ?_, ?_, trivial⟩
     ·refine l_op rfl rfl rfl (o_val rfl (v_loadF ty22 rfl (l_lit rfl rfl)) ?_)
      exact b_nil (l_go hF rfl (g7_10 v71201) (le_q rfl rfl))
     ·refine l_op rfl rfl rfl (o_val rfl (v_bin rfl rfl b_sub) ?_)
      exact b_nil (l_go hF rfl (g7_11 v71201) (le_q rfl rfl))
     ·refine l_op rfl rfl rfl (o_val rfl (v_loadF ty22 rfl (l_lit rfl rfl)) ?_)
      exact b_nil (l_go hF rfl (g7_12 v71201) (le_q rfl rfl))
     ·refine l_op rfl rfl rfl (o_alloc (fid := 22) (zs := [HV.int .i64 0, HV.int .i64 0, HV.int .i64 0]) 22005 rfl rfl ty49 rfl (fun v71101 => ?_))
      exact b_nil (l_go hF rfl (g7_13 v71101 v71201) (le_q rfl rfl))
    have g7_4 : F [0, 2, 6, 8] ⟨[(1, HV.fptr [HV.int .i64 p0.1, HV.int .i64 p0.2.1, slE eFromLabelTo p0.2.2] 0), (4, HV.int .i64 a3), (17, HV.fptr [HV.int .i64 p0.1, HV.int .i64 p0.2.1, slE eFromLabelTo p0.2.2] 2), (19, HV.int .i64 a3), (23, HV.fptr [HV.int .i64 p0.1, HV.int .i64 p0.2.1, slE eFromLabelTo p0.2.2] 2), (25, HV.int .i64 a3)], []⟩ := by
     refine l_step hF rfl [1, 3, 7, 11, 12] rfl rfl ⟨?_, ?_, ?_, ?_, ?_, trivial⟩
     ·refine l_op rfl rfl rfl (o_val rfl (v_loadF ty22 rfl (l_lit rfl rfl)) ?_)
      exact b_nil (l_go hF rfl (g7_5) (le_q rfl rfl))
     ·refine l_op rfl rfl rfl (o_val rfl (v_bin rfl rfl b_sub) ?_)
      exact b_nil (l_go hF rfl (g7_6) (le_q rfl rfl))
     ·refine l_op rfl rfl rfl (o_val rfl (v_loadF ty22 rfl (l_lit rfl rfl)) ?_)
      exact b_nil (l_go hF rfl (g7_7) (le_q rfl rfl))
     ·refine l_op rfl rfl rfl (o_alloc (fid := 22) (zs := [HV.int .i64 0, HV.int .i64 0, HV.int .i64 0]) 22005 rfl rfl ty49 rfl (fun v71101 => ?_))
      exact b_nil (l_go hF rfl (g7_8 v71101) (le_q rfl rfl))
     ·refine l_op rfl rfl rfl (o_alloc (fid := 22) (zs := [HV.int .i64 0, HV.int .i64 0, HV.int .i64 0]) 22006 rfl rfl ty49 rfl (fun v71201 => ?_))
      exact b_nil (l_go hF rfl (g7_9 v71201) (le_q rfl rfl))
    have g7_3 : F [0, 2, 6] ⟨[(1, HV.fptr [HV.int .i64 p0.1, HV.int .i64 p0.2.1, slE eFromLabelTo p0.2.2] 0), (4, HV.int .i64 a3), (17, HV.fptr [HV.int .i64 p0.1, HV.int .i64 p0.2.1, slE eFromLabelTo p0.2.2] 2), (19, HV.int .i64 a3), (23, HV.fptr [HV.int .i64 p0.1, HV.int .i64 p0.2.1, slE eFromLabelTo p0.2.2] 2)], []⟩ := by
     refine l_take (i := 8) hF rfl rfl rfl (mv_val rfl rfl).2 ?_
     exact l_go hF rfl (g7_4) (le_q rfl rfl)
    have g7_2 : F [0, 2] ⟨[(1, HV.fptr [HV.int .i64 p0.1, HV.int .i64 p0.2.1, slE eFromLabelTo p0.2.2] 0), (4, HV.int .i64 a3), (17, HV.fptr [HV.int .i64 p0.1, HV.int .i64 p0.2.1, slE eFromLabelTo p0.2.2] 2), (19, HV.int .i64 a3)], []⟩ := by
     refine l_take (i := 6) hF rfl rfl rfl (v_fieldAddrF fo24_2 rfl) ?_
     exact l_go hF rfl (g7_3) (le_q rfl rfl)
    have g7_1 : F [0] ⟨[(1, HV.fptr [HV.int .i64 p0.1, HV.int .i64 p0.2.1, slE eFromLabelTo p0.2.2] 0), (4, HV.int .i64 a3), (17, HV.fptr [HV.int .i64 p0.1, HV.int .i64 p0.2.1, slE eFromLabelTo p0.2.2] 2)], []⟩ := by
     refine l_take (i := 2) hF rfl rfl rfl (mv_val rfl rfl).2 ?_
     exact l_go hF rfl (g7_2) (le_q rfl rfl)
    have g7_0 : F [] ⟨[(1, HV.fptr [HV.int .i64 p0.1, HV.int .i64 p0.2.1, slE eFromLabelTo p0.2.2] 0), (4, HV.int .i64 a3)], []⟩ := by
     refine l_take (i := 0) hF rfl rfl rfl (v_fieldAddrF fo24_2 rfl) ?_
     exact l_go hF rfl (g7_1) (le_q rfl rfl)
    exact g7_0
   ·have hc := of_decide_eq_false hc
    have h := ifF hc h
    refine AW.exit ?_
    exact to_le (s' := ⟨[], []⟩) (AS.le_of trivial trivial) ⟨(), (), h, rfl⟩

end Go.AW

namespace Go.AW
open Go Go.Proofs
set_option linter.unusedVariables false
set_option maxHeartbeats 1600000 in
set_option maxRecDepth 100000 in
theorem w_slices_Equal_Lapi_Edge_api_Edge {p0 : List (TFromLabelTo)} {p1 : List (TFromLabelTo)} {r : Bool} (h : m_slices_Equal_Lapi_Edge_api_Edge p0 p1 = some r) : Pure Tryd.prog 46 [slE eFromLabelTo p0, slE eFromLabelTo p1] (· = HV.bool r) := by
 unfold m_slices_Equal_Lapi_Edge_api_Edge at h
 refine Pure.of_body Tryd.func46 rfl rfl (Nat.le_of_ble_eq_true rfl) fun hf => ?_
 unfold Tryd.f46
 dsimp only [enumS, Nat.reduceAdd]
 refine AW.rgs rfl fun K hK => ?_
 refine mv rfl rfl ?_
 refine b_fin hK (s' := ⟨[(0, slE eFromLabelTo p0), (1, slE eFromLabelTo p1)], []⟩) (le_q rfl rfl) ?_
 clear hK K
 refine AW.seq ?_
 refine AW.rgs rfl fun K hK => ?_
 refine mv rfl rfl ?_
 refine bv rfl (v_lenF rfl rfl ty22 rfl) ?_
 refine mv rfl rfl ?_
 refine bv rfl (v_lenF rfl rfl ty22 rfl) ?_
 refine bv rfl (v_bin rfl rfl b_neq) ?_
 refine b_fin hK (s' := ⟨[(0, slE eFromLabelTo p0), (1, slE eFromLabelTo p1), (10, HV.bool (decide (((p0).length : Int) ≠ ((p1).length : Int))))], []⟩) (le_q rfl rfl) ?_
 clear hK K
 refine AW.cond rfl (fun hc => ?_) (fun hc => ?_)
 ·have hc := of_decide_eq_true hc
  have h := ifT hc h
  refine AW.rgs rfl fun K hK => ?_
  refine mv rfl rfl ?_
  refine b_fin hK (s' := ⟨[(4, HV.bool false)], []⟩) (le_q rfl rfl) ?_
  clear hK K
  refine AW.ret ?_
  have h := Option.some.inj h
  subst h
  exact ret_pure (hs := [HV.bool false]) (q := HV.bool false) (.inr rfl) (resT rfl rfl) rfl trivial
 ·have hc := of_decide_eq_false hc
  have h := ifF hc h
  refine AW.skip ?_
  refine AW.seq ?_
  refine AW.rgs rfl fun K hK => ?_
  refine mv rfl rfl ?_
  refine bv rfl (v_lenF rfl rfl ty22 rfl) ?_
  refine mv rfl rfl ?_
  refine b_fin hK (s' := ⟨[(0, slE eFromLabelTo p0), (1, slE eFromLabelTo p1), (12, HV.int .i64 ((p0).length : Int)), (13, HV.int .i64 0)], []⟩) (le_q rfl rfl) ?_
  clear hK K
  refine AW.lpR h (by first | exact up_then | exact up_to) (S := Int) (V := Unit) (fun a v => ⟨[(0, slE eFromLabelTo p0), (1, slE eFromLabelTo p1), (12, HV.int .i64 ((p0).length : Int)), (13, HV.int .i64 a)], []⟩) ?_ (X := Unit) (W := Unit) (fun a v => ⟨[], []⟩) (fun a9 w10 h => ?_) (fun a1 w2 st3 h hr4=> ?_)
  ·exact to_le (s' := ⟨[(0, slE eFromLabelTo p0), (1, slE eFromLabelTo p1), (12, HV.int .i64 ((p0).length : Int)), (13, HV.int .i64 0)], []⟩) (AS.le_of ⟨rfl, rfl, rfl, rfl, trivial⟩ trivial) ⟨(), rfl⟩
  ·refine AW.rgs rfl fun K hK => ?_
   refine mv rfl rfl ?_
   refine b_fin hK (s' := ⟨[(4, HV.bool true)], []⟩) (le_q rfl rfl) ?_
   clear hK K
   refine AW.ret ?_
   have h := Option.some.inj h
   subst h
   exact ret_pure (hs := [HV.bool true]) (q := HV.bool true) (.inr rfl) (resT rfl rfl) rfl trivial
  ·refine AW.rgs rfl fun K hK => ?_
   refine bv rfl (v_bin rfl rfl b_lss) ?_
   refine b_fin hK (s' := ⟨[(0, slE eFromLabelTo p0), (1, slE eFromLabelTo p1), (12, HV.int .i64 ((p0).length : Int)), (13, HV.int .i64 a1), (14, HV.bool (decide (a1 < ((p0).length : Int))))], []⟩) (le_q rfl rfl) ?_
   clear hK K
   refine AW.cseq rfl (fun hc => ?_) (fun hc => ?_)
   ·have hc := of_decide_eq_true hc
    have h := ifT hc h
    refine AW.skip ?_
    refine AW.seq (AW.block ?_)
    refine AW.rgs rfl fun K hK => ?_
    refine mv rfl rfl ?_
    refine mv rfl rfl ?_
    refine b_fin hK (s' := ⟨[(0, slE eFromLabelTo p0), (1, slE eFromLabelTo p1), (5, HV.int .i64 a1), (12, HV.int .i64 ((p0).length : Int)), (13, HV.int .i64 a1)], []⟩) (le_q rfl rfl) ?_
    clear hK K
    refine AW.dgs 9 follows rfl rfl fun K hK => ?_
    refine sm rfl rfl ?_
    refine sm rfl rfl ?_
    obtain ⟨x5, h6, h⟩ := bS h
    refine sv rfl (v_idxF ty22 es22 rfl rfl (idx_lt h6)) ?_
    refine sv rfl (v_loadF ty49 rfl (l_agg eFromLabelTo h6 rfl rfl)) ?_
    refine sm rfl rfl ?_
    refine sm rfl rfl ?_
    obtain ⟨x7, h8, h⟩ := bS h
    refine sv rfl (v_idxF ty22 es22 rfl rfl (idx_lt h8)) ?_
    refine sv rfl (v_loadF ty49 rfl (l_agg eFromLabelTo h8 rfl rfl)) ?_
    refine sv rfl (v_bin rfl rfl (b_aneq (hk49 _ _ _) (hk49 _ _ _) hc49 (hq49 _ _))) ?_
    refine s_nil ?_
    refine b_fin hK (s' := ⟨[(0, slE eFromLabelTo p0), (1, slE eFromLabelTo p1), (12, HV.int .i64 ((p0).length : Int)), (13, HV.int .i64 a1), (24, HV.bool (!decide (x5 = x7)))], []⟩) (le_q rfl rfl) ?_
    clear hK K
    refine AW.cond rfl (fun hc => ?_) (fun hc => ?_)
    ·have hc := notT hc
     have h := ifF hc h
     refine AW.rgs rfl fun K hK => ?_
     refine mv rfl rfl ?_
     refine b_fin hK (s' := ⟨[(4, HV.bool false)], []⟩) (le_q rfl rfl) ?_
     clear hK K
     have h := hr4 _ h
     refine AW.ret ?_
     have h := Option.some.inj h
     subst h
     exact ret_pure (hs := [HV.bool false]) (q := HV.bool false) (.inr rfl) (resT rfl rfl) rfl trivial
    ·have hc := notF hc
     have h := ifT hc h
     refine AW.skip ?_
     refine AW.rg rfl fun K hK => ?_
     refine bv rfl (v_bin rfl rfl b_add) ?_
     refine mv rfl rfl ?_
     refine b_nil (hK _ ?_)
     clear hK K
     exact to_le (s' := ⟨[(0, slE eFromLabelTo p0), (1, slE eFromLabelTo p1), (12, HV.int .i64 ((p0).length : Int)), (13, HV.int .i64 (IntKind.wrap .i64 (a1 + 1)))], []⟩) (AS.le_of ⟨rfl, rfl, rfl, rfl, trivial⟩ trivial) ⟨IntKind.wrap .i64 (a1 + 1), (), h, rfl⟩
   ·have hc := of_decide_eq_false hc
    have h := ifF hc h
    refine AW.exit ?_
    exact to_le (s' := ⟨[], []⟩) (AS.le_of trivial trivial) ⟨(), (), h, rfl⟩

set_option maxHeartbeats 1600000 in
set_option maxRecDepth 100000 in
theorem w_graph_Same {p0 : TLabelsStatesEdges} {p1 : TLabelsStatesEdges} {r : Bool} (h : m_graph_Same p0 p1 = some r) : Pure Tryd.prog 24 [HV.agg [HV.int .i64 p0.1, HV.int .i64 p0.2.1, slE eFromLabelTo p0.2.2], HV.agg [HV.int .i64 p1.1, HV.int .i64 p1.2.1, slE eFromLabelTo p1.2.2]] (· = HV.bool r) := by
 unfold m_graph_Same at h
 refine Pure.of_body Tryd.func24 rfl rfl (Nat.le_of_ble_eq_true rfl) fun hf => ?_
 unfold Tryd.f24
 dsimp only [enumS, Nat.reduceAdd]
 refine AW.rgs rfl fun K hK => ?_
 refine b_op rfl (o_box rfl rfl rfl ?_)
 refine b_op rfl (o_box rfl rfl rfl ?_)
 refine mv rfl rfl ?_
 refine b_fin hK (s' := ⟨[(2, HV.fptr [HV.int .i64 p0.1, HV.int .i64 p0.2.1, slE eFromLabelTo p0.2.2] 0), (3, HV.fptr [HV.int .i64 p1.1, HV.int .i64 p1.2.1, slE eFromLabelTo p1.2.2] 0)], []⟩) (le_q rfl rfl) ?_
 clear hK K
 refine AW.seqJ h (S := Bool) (V := Unit) (fun a v => ⟨[(4, HV.bool a)], []⟩) (fun a1 w2 h => ?_) (fun k3 h => ?_)
 ·refine AW.ret ?_
  have h := Option.some.inj h
  subst h
  exact ret_pure (hs := [HV.bool a1]) (q := HV.bool a1) (.inr rfl) (resT rfl rfl) rfl trivial
 ·refine AW.rg rfl fun K hK => ?_
  refine bv rfl (v_fieldAddrF fo24_0 rfl) ?_
  refine bv rfl (v_loadF ty3 rfl (l_lit rfl rfl)) ?_
  refine bv rfl (v_fieldAddrF fo24_0 rfl) ?_
  refine bv rfl (v_loadF ty3 rfl (l_lit rfl rfl)) ?_
  refine bv rfl (v_bin rfl rfl b_eql) ?_
  refine mv rfl rfl ?_
  by_cases hg7 : p0.1 = p1.1
  ·have h := ifT hg7 h
   refine b_T rfl rfl rfl rfl (decide_eq_true hg7) (o_val rfl (v_fieldAddrF fo24_1 rfl) ?_)
   refine b_T rfl rfl rfl rfl rfl (o_val rfl (v_loadF ty3 rfl (l_lit rfl rfl)) ?_)
   refine b_T rfl rfl rfl rfl rfl (o_val rfl (v_fieldAddrF fo24_1 rfl) ?_)
   refine b_T rfl rfl rfl rfl rfl (o_val rfl (v_loadF ty3 rfl (l_lit rfl rfl)) ?_)
   refine b_T rfl rfl rfl rfl rfl (o_val rfl (v_bin rfl rfl b_eql) ?_)
   refine bv rfl (v_pickT rfl rfl rfl) ?_
   refine mv rfl rfl ?_
   by_cases hg6 : p0.2.1 = p1.2.1
   ·have h := ifT hg6 h
    refine b_T rfl rfl rfl rfl (decide_eq_true hg6) (o_val rfl (v_fieldAddrF fo24_2 rfl) ?_)
    refine b_T rfl rfl rfl rfl rfl (o_val rfl (v_loadF ty22 rfl (l_lit rfl rfl)) ?_)
    refine b_T rfl rfl rfl rfl rfl (o_val rfl (v_fieldAddrF fo24_2 rfl) ?_)
    refine b_T rfl rfl rfl rfl rfl (o_val rfl (v_loadF ty22 rfl (l_lit rfl rfl)) ?_)
    obtain ⟨x4, h5, h⟩ := bS h
    refine b_T rfl rfl rfl rfl rfl (o_call rfl rfl rfl rfl (ACallD.pure0 (w_slices_Equal_Lapi_Edge_api_Edge h5)) ?_)
    refine bv rfl (v_pickT rfl rfl rfl) ?_
    refine mv rfl rfl ?_
    refine b_nil (hK _ ?_)
    clear hK K
    exact to_le (s' := ⟨[(4, HV.bool x4)], []⟩) (AS.le_of ⟨rfl, trivial⟩ trivial) ⟨x4, (), h, rfl⟩
   ·have h := ifF hg6 h
    refine b_F rfl rfl rfl rfl rfl (decide_eq_false hg6) ?_
    refine b_F rfl rfl rfl rfl rfl rfl ?_
    refine b_F rfl rfl rfl rfl rfl rfl ?_
    refine b_F rfl rfl rfl rfl rfl rfl ?_
    refine b_F rfl rfl rfl rfl rfl rfl ?_
    refine bv rfl (v_pickF rfl rfl rfl) ?_
    refine mv rfl rfl ?_
    refine b_nil (hK _ ?_)
    clear hK K
    exact to_le (s' := ⟨[(4, HV.bool false)], []⟩) (AS.le_of ⟨rfl, trivial⟩ trivial) ⟨false, (), h, rfl⟩
  ·have h := ifF hg7 h
   refine b_F rfl rfl rfl rfl rfl (decide_eq_false hg7) ?_
   refine b_F rfl rfl rfl rfl rfl rfl ?_
   refine b_F rfl rfl rfl rfl rfl rfl ?_
   refine b_F rfl rfl rfl rfl rfl rfl ?_
   refine b_F rfl rfl rfl rfl rfl rfl ?_
   refine bv rfl (v_pickF rfl rfl rfl) ?_
   refine mv rfl rfl ?_
   refine b_F rfl rfl rfl rfl rfl rfl ?_
   refine b_F rfl rfl rfl rfl rfl rfl ?_
   refine b_F rfl rfl rfl rfl rfl rfl ?_
   refine b_F rfl rfl rfl rfl rfl rfl ?_
   refine b_F rfl rfl rfl rfl rfl rfl ?_
   refine bv rfl (v_pickF rfl rfl rfl) ?_
   refine mv rfl rfl ?_
   refine b_nil (hK _ ?_)
   clear hK K
   exact to_le (s' := ⟨[(4, HV.bool false)], []⟩) (AS.le_of ⟨rfl, trivial⟩ trivial) ⟨false, (), h, rfl⟩

set_option maxHeartbeats 1600000 in
set_option maxRecDepth 100000 in
theorem w_law12_SubsetAgain_1 {p0 : List (Int)} {r : Bool} (h : m_law12_SubsetAgain_1 p0 = some r) : Pure Tryd.prog 26 [slE eInt p0] (· = HV.bool r) := by
 unfold m_law12_SubsetAgain_1 at h
 refine Pure.of_body Tryd.func26 rfl rfl (Nat.le_of_ble_eq_true rfl) fun hf => ?_
 unfold Tryd.f26
 dsimp only [enumS, Nat.reduceAdd]
 refine AW.rgs rfl fun K hK => ?_
 refine mv rfl rfl ?_
 refine b_fin hK (s' := ⟨[(0, slE eInt p0)], []⟩) (le_q rfl rfl) ?_
 clear hK K
 refine AW.rgs rfl fun K hK => ?_
 refine mv rfl rfl ?_
 refine bv rfl (v_lenF rfl rfl ty30 rfl) ?_
 refine bv rfl (v_bin rfl rfl b_neq) ?_
 refine mv rfl rfl ?_
 refine b_fin hK (s' := ⟨[(2, HV.bool (decide (((p0).length : Int) ≠ 1)))], []⟩) (le_q rfl rfl) ?_
 clear hK K
 refine AW.ret ?_
 have h := Option.some.inj h
 subst h
 exact ret_pure (hs := [HV.bool (decide (((p0).length : Int) ≠ 1))]) (q := HV.bool (decide (((p0).length : Int) ≠ 1))) (.inr rfl) (resT rfl rfl) rfl trivial

set_option maxHeartbeats 1600000 in
set_option maxRecDepth 100000 in
theorem w_slices_IndexFunc_LLint_Lint {p0 : List (List (Int))} {p1 : (List (Int)) → Option (Bool)} {g1 : FuncId} {z1 : List HV} {r : Int} (h : m_slices_IndexFunc_LLint_Lint p0 p1 = some r) (hf1 : ∀ a0 b, p1 a0 = some b → Pure Tryd.prog g1 ([slE eInt a0] ++ z1) (· = HV.bool b)) : Pure Tryd.prog 47 [slE (eSl eInt) p0, HV.fn (.func g1) [] z1] (· = HV.int .i64 r) := by
 unfold m_slices_IndexFunc_LLint_Lint at h
 refine Pure.of_body Tryd.func47 rfl rfl (Nat.le_of_ble_eq_true rfl) fun hf => ?_
 unfold Tryd.f47
 dsimp only [enumS, Nat.reduceAdd]
 refine AW.rgs rfl fun K hK => ?_
 refine mv rfl rfl ?_
 refine b_fin hK (s' := ⟨[(0, slE (eSl eInt) p0), (1, HV.fn (.func g1) [] z1)], []⟩) (le_q rfl rfl) ?_
 clear hK K
 refine AW.seq ?_
 refine AW.rgs rfl fun K hK => ?_
 refine mv rfl rfl ?_
 refine bv rfl (v_lenF rfl rfl ty39 rfl) ?_
 refine mv rfl rfl ?_
 refine b_fin hK (s' := ⟨[(0, slE (eSl eInt) p0), (1, HV.fn (.func g1) [] z1), (7, HV.int .i64 ((p0).length : Int)), (8, HV.int .i64 0)], []⟩) (le_q rfl rfl) ?_
 clear hK K
 refine AW.lpR h (by first | exact up_then | exact up_to) (S := Int) (V := Unit) (fun a v => ⟨[(0, slE (eSl eInt) p0), (1, HV.fn (.func g1) [] z1), (7, HV.int .i64 ((p0).length : Int)), (8, HV.int .i64 a)], []⟩) ?_ (X := Unit) (W := Unit) (fun a v => ⟨[], []⟩) (fun a9 w10 h => ?_) (fun a1 w2 st3 h hr4=> ?_)
 ·exact to_le (s' := ⟨[(0, slE (eSl eInt) p0), (1, HV.fn (.func g1) [] z1), (7, HV.int .i64 ((p0).length : Int)), (8, HV.int .i64 0)], []⟩) (AS.le_of ⟨rfl, rfl, rfl, rfl, trivial⟩ trivial) ⟨(), rfl⟩
 ·refine AW.rgs rfl fun K hK => ?_
  refine mv rfl rfl ?_
  refine b_fin hK (s' := ⟨[(4, HV.int .i64 (-1))], []⟩) (le_q rfl rfl) ?_
  clear hK K
  refine AW.ret ?_
  have h := Option.some.inj h
  subst h
  exact ret_pure (hs := [HV.int .i64 (-1)]) (q := HV.int .i64 (-1)) (.inr rfl) (resT rfl rfl) rfl trivial
 ·refine AW.rgs rfl fun K hK => ?_
  refine bv rfl (v_bin rfl rfl b_lss) ?_
  refine b_fin hK (s' := ⟨[(0, slE (eSl eInt) p0), (1, HV.fn (.func g1) [] z1), (7, HV.int .i64 ((p0).length : Int)), (8, HV.int .i64 a1), (9, HV.bool (decide (a1 < ((p0).length : Int))))], []⟩) (le_q rfl rfl) ?_
  clear hK K
  refine AW.cseq rfl (fun hc => ?_) (fun hc => ?_)
  ·have hc := of_decide_eq_true hc
   have h := ifT hc h
   refine AW.skip ?_
   refine AW.seq (AW.block ?_)
   refine AW.rgs rfl fun K hK => ?_
   refine mv rfl rfl ?_
   refine mv rfl rfl ?_
   refine b_fin hK (s' := ⟨[(0, slE (eSl eInt) p0), (1, HV.fn (.func g1) [] z1), (5, HV.int .i64 a1), (7, HV.int .i64 ((p0).length : Int)), (8, HV.int .i64 a1)], []⟩) (le_q rfl rfl) ?_
   clear hK K
   refine AW.rgs rfl fun K hK => ?_
   refine mv rfl rfl ?_
   refine mv rfl rfl ?_
   refine mv rfl rfl ?_
   obtain ⟨x5, h6, h⟩ := bS h
   refine bv rfl (v_idxF ty39 es39 rfl rfl (idx_lt h6)) ?_
   refine bv rfl (v_loadF ty30 rfl (l_cell (eSl eInt) h6 (o := 0) rfl rfl)) ?_
   obtain ⟨x7, h8, h⟩ := bS h
   refine b_op rfl (o_call rfl rfl rfl rfl (ACallD.pure0 (hf1 _ _ h8)) ?_)
   refine b_fin hK (s' := ⟨[(0, slE (eSl eInt) p0), (1, HV.fn (.func g1) [] z1), (5, HV.int .i64 a1), (7, HV.int .i64 ((p0).length : Int)), (8, HV.int .i64 a1), (16, HV.bool x7)], []⟩) (le_q rfl rfl) ?_
   clear hK K
   refine AW.cond rfl (fun hc => ?_) (fun hc => ?_)
   ·have h := ifT hc h
    refine AW.rgs rfl fun K hK => ?_
    refine mv rfl rfl ?_
    refine mv rfl rfl ?_
    refine b_fin hK (s' := ⟨[(4, HV.int .i64 a1)], []⟩) (le_q rfl rfl) ?_
    clear hK K
    have h := hr4 _ h
    refine AW.ret ?_
    have h := Option.some.inj h
    subst h
    exact ret_pure (hs := [HV.int .i64 a1]) (q := HV.int .i64 a1) (.inr rfl) (resT rfl rfl) rfl trivial
   ·have h := ifF (bF' hc) h
    refine AW.skip ?_
    refine AW.rg rfl fun K hK => ?_
    refine bv rfl (v_bin rfl rfl b_add) ?_
    refine mv rfl rfl ?_
    refine b_nil (hK _ ?_)
    clear hK K
    exact to_le (s' := ⟨[(0, slE (eSl eInt) p0), (1, HV.fn (.func g1) [] z1), (7, HV.int .i64 ((p0).length : Int)), (8, HV.int .i64 (IntKind.wrap .i64 (a1 + 1)))], []⟩) (AS.le_of ⟨rfl, rfl, rfl, rfl, trivial⟩ trivial) ⟨IntKind.wrap .i64 (a1 + 1), (), h, rfl⟩
  ·have hc := of_decide_eq_false hc
   have h := ifF hc h
   refine AW.exit ?_
   exact to_le (s' := ⟨[], []⟩) (AS.le_of trivial trivial) ⟨(), (), h, rfl⟩

set_option maxHeartbeats 1600000 in
set_option maxRecDepth 100000 in
theorem w_slices_ContainsFunc_LLint_Lint {p0 : List (List (Int))} {r : Bool} (h : m_slices_ContainsFunc_LLint_Lint p0 = some r) : Pure Tryd.prog 25 [slE (eSl eInt) p0, HV.fn (.func 26) [] []] (· = HV.bool r) := by
 unfold m_slices_ContainsFunc_LLint_Lint at h
 refine Pure.of_body Tryd.func25 rfl rfl (Nat.le_of_ble_eq_true rfl) fun hf => ?_
 unfold Tryd.f25
 dsimp only [enumS, Nat.reduceAdd]
 refine AW.rgs rfl fun K hK => ?_
 refine mv rfl rfl ?_
 refine b_fin hK (s' := ⟨[(0, slE (eSl eInt) p0), (1, HV.fn (.func 26) [] [])], []⟩) (le_q rfl rfl) ?_
 clear hK K
 refine AW.rgs rfl fun K hK => ?_
 refine mv rfl rfl ?_
 refine mv rfl rfl ?_
 obtain ⟨x1, h2, h⟩ := bS h
 refine b_op rfl (o_call rfl rfl rfl rfl (ACallD.pure0 (w_slices_IndexFunc_LLint_Lint h2 (fun _ _ h => w_law12_SubsetAgain_1 h))) ?_)
 refine bv rfl (v_bin rfl rfl b_geq) ?_
 refine mv rfl rfl ?_
 refine b_fin hK (s' := ⟨[(4, HV.bool (decide (0 ≤ x1)))], []⟩) (le_q rfl rfl) ?_
 clear hK K
 refine AW.ret ?_
 have h := Option.some.inj h
 subst h
 exact ret_pure (hs := [HV.bool (decide (0 ≤ x1))]) (q := HV.bool (decide (0 ≤ x1))) (.inr rfl) (resT rfl rfl) rfl trivial

set_option maxHeartbeats 1600000 in
set_option maxRecDepth 100000 in
theorem w_law12_SubsetAgain {p0 : TLabelsStatesEdges} {p1 : Int} {r : Bool} (h : m_law12_SubsetAgain p0 p1 = some r) : Pure Tryd.prog 6 [HV.agg [HV.int .i64 p0.1, HV.int .i64 p0.2.1, slE eFromLabelTo p0.2.2], HV.int .u8 p1] (· = HV.bool r) := by
 unfold m_law12_SubsetAgain at h
 refine Pure.of_body Tryd.func6 rfl rfl (Nat.le_of_ble_eq_true rfl) fun hf => ?_
 unfold Tryd.f6
 dsimp only [enumS, Nat.reduceAdd]
 refine AW.rgs rfl fun K hK => ?_
 refine b_op rfl (o_box rfl rfl rfl ?_)
 refine mv rfl rfl ?_
 refine b_fin hK (s' := ⟨[(1, HV.int .u8 p1), (2, HV.fptr [HV.int .i64 p0.1, HV.int .i64 p0.2.1, slE eFromLabelTo p0.2.2] 0)], []⟩) (le_q rfl rfl) ?_
 clear hK K
 refine AW.seq ?_
 refine AW.seqJ h (S := Bool) (V := Unit) (fun a v => ⟨[(1, HV.int .u8 p1), (2, HV.fptr [HV.int .i64 p0.1, HV.int .i64 p0.2.1, slE eFromLabelTo p0.2.2] 0), (25, HV.bool a)], []⟩) (fun a1 w2 h => ?_) (fun k3 h => ?_)
 ·refine AW.cond rfl (fun hc => ?_) (fun hc => ?_)
  ·have h := ifT hc h
   refine AW.rgs rfl fun K hK => ?_
   obtain ⟨x4, h5, h⟩ := bS h
   refine b_op rfl (o_call rfl rfl rfl rfl (ACallD.pure0 (w_law12_awake h5)) ?_)
   refine mv rfl rfl ?_
   refine b_fin hK (s' := ⟨[(4, HV.bool x4)], []⟩) (le_q rfl rfl) ?_
   clear hK K
   refine AW.ret ?_
   have h := Option.some.inj h
   subst h
   exact ret_pure (hs := [HV.bool x4]) (q := HV.bool x4) (.inr rfl) (resT rfl rfl) rfl trivial
  ·have h := ifF (bF' hc) h
   refine AW.skip ?_
   refine AW.rgs rfl fun K hK => ?_
   refine bv rfl (v_loadF ty24 rfl (l_litA rfl (Nat.le_of_ble_eq_true rfl) rfl)) ?_
   obtain ⟨x6, h7, h⟩ := bS h
   refine b_op rfl (o_call rfl rfl rfl rfl (ACallD.pure0 (w_subset_Build h7)) ?_)
   refine mv rfl rfl ?_
   refine bv rfl (v_extract rfl rfl) ?_
   refine bv rfl (v_extract rfl rfl) ?_
   refine bv rfl (v_extract rfl rfl) ?_
   refine b_op rfl (o_alloc (fid := 6) (zs := [HV.int .i64 0, HV.int .i64 0, HV.v (.slice none 0 0)]) 6005 rfl rfl ty24 rfl (fun v8 => ?_))
   refine b_op rfl (o_store (cs := [HV.int .i64 x6.1.1, HV.int .i64 x6.1.2.1, slE eFromLabelTo x6.1.2.2]) (zs := [HV.int .i64 x6.1.1, HV.int .i64 x6.1.2.1, slE eFromLabelTo x6.1.2.2]) rfl rfl rfl ty24 rfl rfl rfl rfl rfl ?_)
   refine mv rfl rfl ?_
   refine mv rfl rfl ?_
   refine b_fin hK (s' := ⟨[(1, HV.int .u8 p1), (2, HV.fptr [HV.int .i64 p0.1, HV.int .i64 p0.2.1, slE eFromLabelTo p0.2.2] 0), (5, HV.ptr 6005 v8 0), (7, HV.int .i64 x6.2.2)], [(6005, v8, .arr 3 24 [HV.int .i64 x6.1.1, HV.int .i64 x6.1.2.1, slE eFromLabelTo x6.1.2.2])]⟩) (le_q rfl rfl) ?_
   clear hK K
   refine AW.seq ?_
   refine AW.rgs rfl fun K hK => ?_
   refine mv rfl rfl ?_
   refine bv rfl (v_bin rfl rfl b_neq) ?_
   refine b_fin hK (s' := ⟨[(1, HV.int .u8 p1), (2, HV.fptr [HV.int .i64 p0.1, HV.int .i64 p0.2.1, slE eFromLabelTo p0.2.2] 0), (5, HV.ptr 6005 v8 0), (34, HV.bool (decide (x6.2.2 ≠ 0)))], [(6005, v8, .arr 3 24 [HV.int .i64 x6.1.1, HV.int .i64 x6.1.2.1, slE eFromLabelTo x6.1.2.2])]⟩) (le_q rfl rfl) ?_
   clear hK K
   refine AW.cond rfl (fun hc => ?_) (fun hc => ?_)
   ·have hc := of_decide_eq_true hc
    have h := ifT hc h
    refine AW.rgs rfl fun K hK => ?_
    obtain ⟨x9, h10, h⟩ := bS h
    refine b_op rfl (o_call rfl rfl rfl rfl (ACallD.pure0 (w_law12_awake h10)) ?_)
    refine mv rfl rfl ?_
    refine b_fin hK (s' := ⟨[(4, HV.bool x9)], []⟩) (le_q rfl rfl) ?_
    clear hK K
    refine AW.ret ?_
    have h := Option.some.inj h
    subst h
    exact ret_pure (hs := [HV.bool x9]) (q := HV.bool x9) (.inr rfl) (resT rfl rfl) rfl trivial
   ·have hc := of_decide_eq_false hc
    have h := ifF hc h
    refine AW.skip ?_
    refine AW.rgs rfl fun K hK => ?_
    refine bv rfl (v_loadP ty24 rfl rfl (l_litA rfl (Nat.le_of_ble_eq_true rfl) rfl)) ?_
    refine b_op rfl (o_bsl rfl rfl (as_of (cs := [HV.int .i64 0]) ty30 ty3 rfl rfl rfl rfl rfl) ?_)
    obtain ⟨x11, h12, h⟩ := bS h
    refine b_op rfl (o_call rfl rfl rfl rfl (ACallD.pure0 (w_subset_From h12)) ?_)
    refine mv rfl rfl ?_
    refine bv rfl (v_extract rfl rfl) ?_
    refine bv rfl (v_extract rfl rfl) ?_
    refine bv rfl (v_extract rfl rfl) ?_
    refine b_op rfl (o_alloc (fid := 6) (zs := [HV.int .i64 0, HV.int .i64 0, HV.v (.slice none 0 0)]) 6008 rfl rfl ty24 rfl (fun v13 => ?_))
    refine b_op rfl (o_store (cs := [HV.int .i64 x11.1.1, HV.int .i64 x11.1.2.1, slE eFromLabelTo x11.1.2.2]) (zs := [HV.int .i64 x11.1.1, HV.int .i64 x11.1.2.1, slE eFromLabelTo x11.1.2.2]) rfl rfl rfl ty24 rfl rfl rfl rfl rfl ?_)
    refine mv rfl rfl ?_
    refine mv rfl rfl ?_
    refine b_fin hK (s' := ⟨[(1, HV.int .u8 p1), (2, HV.fptr [HV.int .i64 p0.1, HV.int .i64 p0.2.1, slE eFromLabelTo p0.2.2] 0), (5, HV.ptr 6005 v8 0), (8, HV.ptr 6008 v13 0), (9, slE (eSl eInt) x11.2.1), (10, HV.int .i64 x11.2.2)], [(6005, v8, .arr 3 24 [HV.int .i64 x6.1.1, HV.int .i64 x6.1.2.1, slE eFromLabelTo x6.1.2.2]), (6008, v13, .arr 3 24 [HV.int .i64 x11.1.1, HV.int .i64 x11.1.2.1, slE eFromLabelTo x11.1.2.2])]⟩) (le_q rfl rfl) ?_
    clear hK K
    refine AW.seq ?_
    refine AW.seqJ h (S := Bool) (V := Unit) (fun a v => ⟨[(1, HV.int .u8 p1), (2, HV.fptr [HV.int .i64 p0.1, HV.int .i64 p0.2.1, slE eFromLabelTo p0.2.2] 0), (9, slE (eSl eInt) x11.2.1), (50, HV.bool a)], []⟩) (fun a14 w15 h => ?_) (fun k16 h => ?_)
    ·refine AW.cond rfl (fun hc => ?_) (fun hc => ?_)
     ·have h := ifT hc h
      refine AW.rgs rfl fun K hK => ?_
      refine mv rfl rfl ?_
      refine b_fin hK (s' := ⟨[(4, HV.bool false)], []⟩) (le_q rfl rfl) ?_
      clear hK K
      refine AW.ret ?_
      have h := Option.some.inj h
      subst h
      exact ret_pure (hs := [HV.bool false]) (q := HV.bool false) (.inr rfl) (resT rfl rfl) rfl trivial
     ·have h := ifF (bF' hc) h
      refine AW.skip ?_
      refine AW.seq ?_
      refine AW.rgs rfl fun K hK => ?_
      refine mv rfl rfl ?_
      refine bv rfl (v_lenF rfl rfl ty39 rfl) ?_
      refine mv rfl rfl ?_
      refine b_fin hK (s' := ⟨[(1, HV.int .u8 p1), (2, HV.fptr [HV.int .i64 p0.1, HV.int .i64 p0.2.1, slE eFromLabelTo p0.2.2] 0), (51, slE (eSl eInt) x11.2.1), (52, HV.int .i64 ((x11.2.1).length : Int)), (53, HV.int .i64 0)], []⟩) (le_q rfl rfl) ?_
      clear hK K
      refine AW.lpR h (by first | exact up_then | exact up_to) (S := Int) (V := Unit) (fun a v => ⟨[(1, HV.int .u8 p1), (2, HV.fptr [HV.int .i64 p0.1, HV.int .i64 p0.2.1, slE eFromLabelTo p0.2.2] 0), (51, slE (eSl eInt) x11.2.1), (52, HV.int .i64 ((x11.2.1).length : Int)), (53, HV.int .i64 a)], []⟩) ?_ (X := Unit) (W := Unit) (fun a v => ⟨[(1, HV.int .u8 p1), (2, HV.fptr [HV.int .i64 p0.1, HV.int .i64 p0.2.1, slE eFromLabelTo p0.2.2] 0)], []⟩) (fun a25 w26 h => ?_) (fun a17 w18 st19 h hr20=> ?_)
      ·exact to_le (s' := ⟨[(1, HV.int .u8 p1), (2, HV.fptr [HV.int .i64 p0.1, HV.int .i64 p0.2.1, slE eFromLabelTo p0.2.2] 0), (51, slE (eSl eInt) x11.2.1), (52, HV.int .i64 ((x11.2.1).length : Int)), (53, HV.int .i64 0)], []⟩) (AS.le_of ⟨rfl, rfl, rfl, rfl, rfl, trivial⟩ trivial) ⟨(), rfl⟩
      ·refine AW.rgs rfl fun K hK => ?_
       refine bv rfl (v_loadF ty24 rfl (l_litA rfl (Nat.le_of_ble_eq_true rfl) rfl)) ?_
       obtain ⟨x27, h28, h⟩ := bS h
       refine b_op rfl (o_call rfl rfl rfl rfl (ACallD.pure0 (w_graph_Deterministic h28)) ?_)
       refine mv rfl rfl ?_
       refine bv rfl (v_extract rfl rfl) ?_
       refine bv rfl (v_extract rfl rfl) ?_
       refine mv rfl rfl ?_
       refine mv rfl rfl ?_
       refine b_fin hK (s' := ⟨[(1, HV.int .u8 p1), (2, HV.fptr [HV.int .i64 p0.1, HV.int .i64 p0.2.1, slE eFromLabelTo p0.2.2] 0), (10, HV.int .i64 x27.2), (13, HV.bool x27.1)], []⟩) (le_q rfl rfl) ?_
       clear hK K
       refine AW.seq ?_
       refine AW.seqJ h (S := Bool) (V := Unit) (fun a v => ⟨[(1, HV.int .u8 p1), (2, HV.fptr [HV.int .i64 p0.1, HV.int .i64 p0.2.1, slE eFromLabelTo p0.2.2] 0), (10, HV.int .i64 x27.2), (74, HV.bool a)], []⟩) (fun a29 w30 h => ?_) (fun k31 h => ?_)
       ·refine AW.cond rfl (fun hc => ?_) (fun hc => ?_)
        ·have h := ifT hc h
         refine AW.seqJ h (S := Bool) (V := Unit) (fun a v => ⟨[(4, HV.bool a)], []⟩) (fun a32 w33 h => ?_) (fun k34 h => ?_)
         ·refine AW.ret ?_
          have h := Option.some.inj h
          subst h
          exact ret_pure (hs := [HV.bool a32]) (q := HV.bool a32) (.inr rfl) (resT rfl rfl) rfl trivial
         ·refine AW.rg rfl fun K hK => ?_
          refine mv rfl rfl ?_
          refine bv rfl (v_bin rfl rfl b_eql) ?_
          refine mv rfl rfl ?_
          by_cases hg37 : x27.2 = 0
          ·have h := ifT hg37 h
           obtain ⟨x35, h36, h⟩ := bS h
           refine b_T rfl rfl rfl rfl (decide_eq_true hg37) (o_call rfl rfl rfl rfl (ACallD.pure0 (w_law12_awake h36)) ?_)
           refine bv rfl (v_pickT rfl rfl rfl) ?_
           refine mv rfl rfl ?_
           refine b_nil (hK _ ?_)
           clear hK K
           exact to_le (s' := ⟨[(4, HV.bool x35)], []⟩) (AS.le_of ⟨rfl, trivial⟩ trivial) ⟨x35, (), h, rfl⟩
          ·have h := ifF hg37 h
           refine b_F rfl rfl rfl rfl rfl (decide_eq_false hg37) ?_
           refine bv rfl (v_pickF rfl rfl rfl) ?_
           refine mv rfl rfl ?_
           refine b_nil (hK _ ?_)
           clear hK K
           exact to_le (s' := ⟨[(4, HV.bool false)], []⟩) (AS.le_of ⟨rfl, trivial⟩ trivial) ⟨false, (), h, rfl⟩
        ·have h := ifF (bF' hc) h
         refine AW.skip ?_
         refine AW.dgs 14 follows rfl rfl fun K hK => ?_
         refine sv rfl (v_loadF ty24 rfl (l_litA rfl (Nat.le_of_ble_eq_true rfl) rfl)) ?_
         refine sm rfl rfl ?_
         refine sv rfl (v_convI ty5 ty3 rfl) ?_
         refine sv rfl (v_fieldAddrF fo24_1 rfl) ?_
         refine sv rfl (v_loadF ty3 rfl (l_lit rfl rfl)) ?_
         obtain ⟨h38, h⟩ := ifN h
         refine sv rfl (v_bin rfl rfl (b_rem h38)) ?_
         refine s_op rfl rfl (ops_bsl rfl rfl (as_of (cs := [HV.int .i64 (Int.tmod (IntKind.wrap .i64 p1) p0.2.1)]) ty30 ty3 rfl rfl rfl rfl rfl) ?_)
         obtain ⟨x39, h40, h⟩ := bS h
         refine s_op rfl rfl (ops_call rfl rfl rfl rfl (ACallD.pure0 (w_subset_From h40)) ?_)
         refine sm rfl rfl ?_
         refine sv rfl (v_extract rfl rfl) ?_
         refine sv rfl (v_extract rfl rfl) ?_
         refine sv rfl (v_extract rfl rfl) ?_
         refine sm rfl rfl ?_
         refine sm rfl rfl ?_
         refine s_nil ?_
         refine b_fin hK (s' := ⟨[(9, slE (eSl eInt) x39.2.1), (10, HV.int .i64 x39.2.2)], []⟩) (le_q rfl rfl) ?_
         clear hK K
         refine AW.seqJ h (S := Bool) (V := Unit) (fun a v => ⟨[(4, HV.bool a)], []⟩) (fun a41 w42 h => ?_) (fun k43 h => ?_)
         ·refine AW.ret ?_
          have h := Option.some.inj h
          subst h
          exact ret_pure (hs := [HV.bool a41]) (q := HV.bool a41) (.inr rfl) (resT rfl rfl) rfl trivial
         ·refine AW.rg rfl fun K hK => ?_
          refine mv rfl rfl ?_
          refine bv rfl (v_bin rfl rfl b_eql) ?_
          refine mv rfl rfl ?_
          by_cases hg49 : x39.2.2 = 0
          ·have h := ifT hg49 h
           refine b_T rfl rfl rfl rfl (decide_eq_true hg49) (o_val rfl (mv_val rfl rfl).2 ?_)
           obtain ⟨x44, h45, h⟩ := bS h
           refine b_T rfl rfl rfl rfl rfl (o_call rfl rfl rfl rfl (ACallD.pure0 (w_slices_ContainsFunc_LLint_Lint h45)) ?_)
           refine b_T rfl rfl rfl rfl rfl (o_val rfl (v_not rfl) ?_)
           refine bv rfl (v_pickT rfl rfl rfl) ?_
           refine mv rfl rfl ?_
           by_cases hg48 : (!x44) = true
           ·have h := ifT hg48 h
            obtain ⟨x46, h47, h⟩ := bS h
            refine b_T rfl rfl rfl rfl hg48 (o_call rfl rfl rfl rfl (ACallD.pure0 (w_law12_awake h47)) ?_)
            refine bv rfl (v_pickT rfl rfl rfl) ?_
            refine mv rfl rfl ?_
            refine b_nil (hK _ ?_)
            clear hK K
            exact to_le (s' := ⟨[(4, HV.bool x46)], []⟩) (AS.le_of ⟨rfl, trivial⟩ trivial) ⟨x46, (), h, rfl⟩
           ·have h := ifF hg48 h
            refine b_F rfl rfl rfl rfl rfl (bF hg48) ?_
            refine bv rfl (v_pickF rfl rfl rfl) ?_
            refine mv rfl rfl ?_
            refine b_nil (hK _ ?_)
            clear hK K
            exact to_le (s' := ⟨[(4, HV.bool false)], []⟩) (AS.le_of ⟨rfl, trivial⟩ trivial) ⟨false, (), h, rfl⟩
          ·have h := ifF hg49 h
           refine b_F rfl rfl rfl rfl rfl (decide_eq_false hg49) ?_
           refine b_F rfl rfl rfl rfl rfl rfl ?_
           refine b_F rfl rfl rfl rfl rfl rfl ?_
           refine bv rfl (v_pickF rfl rfl rfl) ?_
           refine mv rfl rfl ?_
           refine b_F rfl rfl rfl rfl rfl rfl ?_
           refine bv rfl (v_pickF rfl rfl rfl) ?_
           refine mv rfl rfl ?_
           refine b_nil (hK _ ?_)
           clear hK K
           exact to_le (s' := ⟨[(4, HV.bool false)], []⟩) (AS.le_of ⟨rfl, trivial⟩ trivial) ⟨false, (), h, rfl⟩
       ·refine AW.rg rfl fun K hK => ?_
        refine mv rfl rfl ?_
        refine bv rfl (v_bin rfl rfl b_neq) ?_
        refine mv rfl rfl ?_
        by_cases hg50 : x27.2 ≠ 0
        ·have h := ifT hg50 h
         refine b_F rfl rfl rfl rfl rfl (decide_eq_true hg50) ?_
         refine b_F rfl rfl rfl rfl rfl rfl ?_
         refine bv rfl (v_pickT rfl rfl rfl) ?_
         refine b_nil (hK _ ?_)
         clear hK K
         exact to_le (s' := ⟨[(1, HV.int .u8 p1), (2, HV.fptr [HV.int .i64 p0.1, HV.int .i64 p0.2.1, slE eFromLabelTo p0.2.2] 0), (10, HV.int .i64 x27.2), (74, HV.bool true)], []⟩) (AS.le_of ⟨rfl, rfl, rfl, rfl, trivial⟩ trivial) ⟨true, (), h, rfl⟩
        ·have h := ifF hg50 h
         refine b_T rfl rfl rfl rfl (decide_eq_false hg50) (o_val rfl (mv_val rfl rfl).2 ?_)
         refine b_T rfl rfl rfl rfl rfl (o_val rfl (v_not rfl) ?_)
         refine bv rfl (v_pickF rfl rfl rfl) ?_
         refine b_nil (hK _ ?_)
         clear hK K
         exact to_le (s' := ⟨[(1, HV.int .u8 p1), (2, HV.fptr [HV.int .i64 p0.1, HV.int .i64 p0.2.1, slE eFromLabelTo p0.2.2] 0), (10, HV.int .i64 x27.2), (74, HV.bool (!x27.1))], []⟩) (AS.le_of ⟨rfl, rfl, rfl, rfl, trivial⟩ trivial) ⟨!x27.1, (), h, rfl⟩
      ·refine AW.rgs rfl fun K hK => ?_
       refine bv rfl (v_bin rfl rfl b_lss) ?_
       refine b_fin hK (s' := ⟨[(1, HV.int .u8 p1), (2, HV.fptr [HV.int .i64 p0.1, HV.int .i64 p0.2.1, slE eFromLabelTo p0.2.2] 0), (51, slE (eSl eInt) x11.2.1), (52, HV.int .i64 ((x11.2.1).length : Int)), (53, HV.int .i64 a17), (54, HV.bool (decide (a17 < ((x11.2.1).length : Int))))], []⟩) (le_q rfl rfl) ?_
       clear hK K
       refine AW.cseq rfl (fun hc => ?_) (fun hc => ?_)
       ·have hc := of_decide_eq_true hc
        have h := ifT hc h
        refine AW.skip ?_
        refine AW.seq (AW.block ?_)
        refine AW.rgs rfl fun K hK => ?_
        refine mv rfl rfl ?_
        obtain ⟨x21, h22, h⟩ := bS h
        refine bv rfl (v_idxF ty39 es39 rfl rfl (idx_lt h22)) ?_
        refine bv rfl (v_loadF ty30 rfl (l_cell (eSl eInt) h22 (o := 0) rfl rfl)) ?_
        refine mv rfl rfl ?_
        refine mv rfl rfl ?_
        refine b_fin hK (s' := ⟨[(1, HV.int .u8 p1), (2, HV.fptr [HV.int .i64 p0.1, HV.int .i64 p0.2.1, slE eFromLabelTo p0.2.2] 0), (11, HV.int .i64 a17), (12, slE eInt x21), (51, slE (eSl eInt) x11.2.1), (52, HV.int .i64 ((x11.2.1).length : Int)), (53, HV.int .i64 a17)], []⟩) (le_q rfl rfl) ?_
        clear hK K
        refine AW.rgs rfl fun K hK => ?_
        refine mv rfl rfl ?_
        refine mv rfl rfl ?_
        refine b_op rfl (o_bsl rfl rfl (as_of (cs := [HV.int .i64 a17]) ty30 ty3 rfl rfl rfl rfl rfl) ?_)
        obtain ⟨x23, h24, h⟩ := bS h
        refine b_op rfl (o_call rfl rfl rfl rfl (ACallD.pure0 (w_slices_Equal_Lint_int h24)) ?_)
        refine bv rfl (v_not rfl) ?_
        refine b_fin hK (s' := ⟨[(1, HV.int .u8 p1), (2, HV.fptr [HV.int .i64 p0.1, HV.int .i64 p0.2.1, slE eFromLabelTo p0.2.2] 0), (51, slE (eSl eInt) x11.2.1), (52, HV.int .i64 ((x11.2.1).length : Int)), (53, HV.int .i64 a17), (62, HV.bool (!x23))], []⟩) (le_q rfl rfl) ?_
        clear hK K
        refine AW.cond rfl (fun hc => ?_) (fun hc => ?_)
        ·have h := ifT hc h
         refine AW.rgs rfl fun K hK => ?_
         refine mv rfl rfl ?_
         refine b_fin hK (s' := ⟨[(4, HV.bool false)], []⟩) (le_q rfl rfl) ?_
         clear hK K
         have h := hr20 _ h
         refine AW.ret ?_
         have h := Option.some.inj h
         subst h
         exact ret_pure (hs := [HV.bool false]) (q := HV.bool false) (.inr rfl) (resT rfl rfl) rfl trivial
        ·have h := ifF (bF' hc) h
         refine AW.skip ?_
         refine AW.rg rfl fun K hK => ?_
         refine bv rfl (v_bin rfl rfl b_add) ?_
         refine mv rfl rfl ?_
         refine b_nil (hK _ ?_)
         clear hK K
         exact to_le (s' := ⟨[(1, HV.int .u8 p1), (2, HV.fptr [HV.int .i64 p0.1, HV.int .i64 p0.2.1, slE eFromLabelTo p0.2.2] 0), (51, slE (eSl eInt) x11.2.1), (52, HV.int .i64 ((x11.2.1).length : Int)), (53, HV.int .i64 (IntKind.wrap .i64 (a17 + 1)))], []⟩) (AS.le_of ⟨rfl, rfl, rfl, rfl, rfl, trivial⟩ trivial) ⟨IntKind.wrap .i64 (a17 + 1), (), h, rfl⟩
       ·have hc := of_decide_eq_false hc
        have h := ifF hc h
        refine AW.exit ?_
        exact to_le (s' := ⟨[(1, HV.int .u8 p1), (2, HV.fptr [HV.int .i64 p0.1, HV.int .i64 p0.2.1, slE eFromLabelTo p0.2.2] 0)], []⟩) (AS.le_of ⟨rfl, rfl, trivial⟩ trivial) ⟨(), (), h, rfl⟩
    ·refine AW.rg rfl fun K hK => ?_
     refine mv rfl rfl ?_
     refine bv rfl (v_bin rfl rfl b_neq) ?_
     refine mv rfl rfl ?_
     by_cases hg53 : x11.2.2 ≠ 0
     ·have h := ifT hg53 h
      refine b_F rfl rfl rfl rfl rfl (decide_eq_true hg53) ?_
      refine b_F rfl rfl rfl rfl rfl rfl ?_
      refine b_F rfl rfl rfl rfl rfl rfl ?_
      refine b_F rfl rfl rfl rfl rfl rfl ?_
      refine bv rfl (v_pickT rfl rfl rfl) ?_
      refine b_nil (hK _ ?_)
      clear hK K
      exact to_le (s' := ⟨[(1, HV.int .u8 p1), (2, HV.fptr [HV.int .i64 p0.1, HV.int .i64 p0.2.1, slE eFromLabelTo p0.2.2] 0), (9, slE (eSl eInt) x11.2.1), (50, HV.bool true)], []⟩) (AS.le_of ⟨rfl, rfl, rfl, rfl, trivial⟩ trivial) ⟨true, (), h, rfl⟩
     ·have h := ifF hg53 h
      refine b_T rfl rfl rfl rfl (decide_eq_false hg53) (o_val rfl (v_loadP ty24 rfl rfl (l_litA rfl (Nat.le_of_ble_eq_true rfl) rfl)) ?_)
      refine b_T rfl rfl rfl rfl rfl (o_val rfl (v_loadP ty24 rfl rfl (l_litA rfl (Nat.le_of_ble_eq_true rfl) rfl)) ?_)
      obtain ⟨x51, h52, h⟩ := bS h
      refine b_T rfl rfl rfl rfl rfl (o_call rfl rfl rfl rfl (ACallD.pure0 (w_graph_Same h52)) ?_)
      refine b_T rfl rfl rfl rfl rfl (o_val rfl (v_not rfl) ?_)
      refine bv rfl (v_pickF rfl rfl rfl) ?_
      refine b_nil (hK _ ?_)
      clear hK K
      exact to_le (s' := ⟨[(1, HV.int .u8 p1), (2, HV.fptr [HV.int .i64 p0.1, HV.int .i64 p0.2.1, slE eFromLabelTo p0.2.2] 0), (9, slE (eSl eInt) x11.2.1), (50, HV.bool (!x51))], []⟩) (AS.le_of ⟨rfl, rfl, rfl, rfl, trivial⟩ trivial) ⟨!x51, (), h, rfl⟩
 ·refine AW.rg rfl fun K hK => ?_
  refine bv rfl (v_loadF ty24 rfl (l_litA rfl (Nat.le_of_ble_eq_true rfl) rfl)) ?_
  obtain ⟨x54, h55, h⟩ := bS h
  refine b_op rfl (o_call rfl rfl rfl rfl (ACallD.pure0 (w_law12_great h55)) ?_)
  refine mv rfl rfl ?_
  by_cases hg59 : x54 = true
  ·have h := ifT hg59 h
   refine b_F rfl rfl rfl rfl rfl hg59 ?_
   refine b_F rfl rfl rfl rfl rfl rfl ?_
   refine b_F rfl rfl rfl rfl rfl rfl ?_
   refine bv rfl (v_pickT rfl rfl rfl) ?_
   refine mv rfl rfl ?_
   refine b_F rfl rfl rfl rfl rfl rfl ?_
   refine b_F rfl rfl rfl rfl rfl rfl ?_
   refine b_F rfl rfl rfl rfl rfl rfl ?_
   refine bv rfl (v_pickT rfl rfl rfl) ?_
   refine b_nil (hK _ ?_)
   clear hK K
   exact to_le (s' := ⟨[(1, HV.int .u8 p1), (2, HV.fptr [HV.int .i64 p0.1, HV.int .i64 p0.2.1, slE eFromLabelTo p0.2.2] 0), (25, HV.bool true)], []⟩) (AS.le_of ⟨rfl, rfl, rfl, trivial⟩ trivial) ⟨true, (), h, rfl⟩
  ·have h := ifF hg59 h
   refine b_T rfl rfl rfl rfl (bF hg59) (o_val rfl (v_loadF ty24 rfl (l_litA rfl (Nat.le_of_ble_eq_true rfl) rfl)) ?_)
   obtain ⟨x56, h57, h⟩ := bS h
   refine b_T rfl rfl rfl rfl rfl (o_call rfl rfl rfl rfl (ACallD.pure0 (w_graph_Check h57)) ?_)
   refine b_T rfl rfl rfl rfl rfl (o_val rfl (v_bin rfl rfl b_neq) ?_)
   refine bv rfl (v_pickF rfl rfl rfl) ?_
   refine mv rfl rfl ?_
   by_cases hg58 : x56 ≠ 0
   ·have h := ifT hg58 h
    refine b_F rfl rfl rfl rfl rfl (decide_eq_true hg58) ?_
    refine b_F rfl rfl rfl rfl rfl rfl ?_
    refine b_F rfl rfl rfl rfl rfl rfl ?_
    refine bv rfl (v_pickT rfl rfl rfl) ?_
    refine b_nil (hK _ ?_)
    clear hK K
    exact to_le (s' := ⟨[(1, HV.int .u8 p1), (2, HV.fptr [HV.int .i64 p0.1, HV.int .i64 p0.2.1, slE eFromLabelTo p0.2.2] 0), (25, HV.bool true)], []⟩) (AS.le_of ⟨rfl, rfl, rfl, trivial⟩ trivial) ⟨true, (), h, rfl⟩
   ·have h := ifF hg58 h
    refine b_T rfl rfl rfl rfl (decide_eq_false hg58) (o_val rfl (v_fieldAddrF fo24_1 rfl) ?_)
    refine b_T rfl rfl rfl rfl rfl (o_val rfl (v_loadF ty3 rfl (l_lit rfl rfl)) ?_)
    refine b_T rfl rfl rfl rfl rfl (o_val rfl (v_bin rfl rfl b_eql) ?_)
    refine bv rfl (v_pickF rfl rfl rfl) ?_
    refine b_nil (hK _ ?_)
    clear hK K
    exact to_le (s' := ⟨[(1, HV.int .u8 p1), (2, HV.fptr [HV.int .i64 p0.1, HV.int .i64 p0.2.1, slE eFromLabelTo p0.2.2] 0), (25, HV.bool (decide (p0.2.1 = 0)))], []⟩) (AS.le_of ⟨rfl, rfl, rfl, trivial⟩ trivial) ⟨decide (p0.2.1 = 0), (), h, rfl⟩

end Go.AW



/- SubsetSets. -/
namespace Go.AW
open Go
set_option linter.unusedSimpArgs false
set_option linter.unusedVariables false

/-- two edges next to each other with one beginning and one label -/
def twinB (E : List Ed) (i : Nat) : Bool := decide ((E.getD i (0, 0, 0)).1 = (E.getD (i + 1) (0, 0, 0)).1) && decide ((E.getD i (0, 0, 0)).2.1 = (E.getD (i + 1) (0, 0, 0)).2.1)
def detB (E : List Ed) : Bool := !(List.range (E.length - 1)).any (twinB E)

theorem Det_eq {g : Gr} {e : Int} (he : m_ref09_Check g = some e) (hz : e = 0 ↔ VG g) : m_graph_Deterministic g = some (if e ≠ 0 then (false, 1) else (detB g.2.2, 0)) := by
  unfold m_graph_Deterministic
  rw [Check_ref, he, Option.bind_some]
  by_cases h0 : e = 0
  case neg => rw [if_pos h0, if_pos h0]
  rw [if_neg (show ¬ e ≠ 0 from fun h => h h0), if_neg (show ¬ e ≠ 0 from fun h => h h0)]
  have hel := (hz.1 h0).el
  refine lpL (loop_any (fun i => ((i + 1 : Nat) : Int)) (g.2.2.length - 1) (twinB g.2.2) (Ou.ret (false, 0)) (Ou.go ()) (fun i hi => ?_) (by rw [if_neg (by omega)]) rfl) ?_
  · have hi1 : i + 1 < g.2.2.length := by omega
    have e3 : IntKind.wrap .i64 (((i + 1 : Nat) : Int) - 1) = (i : Int) := by rw [w64 (by omega) (by omega)]; omega
    simp only [jp]
    rw [if_pos (by omega), e3, ix (by omega : i < g.2.2.length), ix hi1, Option.bind_some, Option.bind_some]
    unfold twinB
    rw [getD_lt (show i < g.2.2.length by omega), getD_lt hi1, nx (by omega : g.2.2.length ≤ _) hi1]
    by_cases c1 : (g.2.2[i]'(by omega)).1 = g.2.2[i + 1].1
    · rw [if_pos c1]
      simp [c1]
    · rw [if_neg c1]
      simp [c1]
  · unfold detB
    cases (List.range (g.2.2.length - 1)).any (twinB g.2.2) <;> rfl

theorem Det_ok {g : Gr} (he : m_ref09_Check g = some 0) (hv : VG g) : m_graph_Deterministic g = some (detB g.2.2, 0) := by
  rw [Det_eq he ⟨fun _ => hv, fun _ => rfl⟩, if_neg (by decide)]
theorem no0 : ¬ (0 : Int) ≠ 0 := fun h => h rfl

section
variable {g : Gr} {a : List Int} {E : List Ed} {L : List (List Int)}
theorem Sets.inj (h : Sets g a E L) {i k : Nat} (hi : i < L.length) (hk : k < L.length) (e : L[i] = L[k]) : i = k := by
  have h1 := h.idx_at hi
  have h2 := h.idx_at hk
  rw [getD_lt hi] at h1
  rw [getD_lt hk] at h2
  rw [← h1, ← h2, e]

end
end Go.AW

/- SubsetAgain. -/
namespace Go.AW
open Go
set_option linter.unusedSimpArgs false
set_option linter.unusedVariables false

theorem nodup_sub_len {α : Type} [DecidableEq α] : ∀ {l m : List α}, l.Nodup → (∀ x ∈ l, x ∈ m) → l.length ≤ m.length
  | [], _, _, _ => Nat.zero_le _
  | x :: l, m, hn, hs => by
    obtain ⟨s, t, rfl⟩ := List.append_of_mem (hs x (List.mem_cons_self ..))
    obtain ⟨h1, h2⟩ := List.nodup_cons.1 hn
    have := nodup_sub_len (m := s ++ t) h2 fun y hy => by
      have hy2 := hs y (List.mem_cons_of_mem _ hy)
      rcases List.mem_append.1 hy2 with h | h
      · exact List.mem_append_left _ h
      · rcases List.mem_cons.1 h with h | h
        · subst h; exact absurd hy h1
        · exact List.mem_append_right _ h
    simp only [List.length_append, List.length_cons] at *
    omega

theorem cmp3_iff {x y : Ed} : cmp3 x y < 0 ↔ x.1 < y.1 ∨ x.1 = y.1 ∧ (x.2.1 < y.2.1 ∨ x.2.1 = y.2.1 ∧ x.2.2 < y.2.2) := by
  unfold cmp3
  repeat' split
  all_goals first
    | (constructor <;> intro h <;> omega)

section
variable {g : Gr}
theorem vg_pair (hv : VG g) : ∀ (i d : Nat) (h : i + 1 + d < g.2.2.length), cmp3 (g.2.2[i]'(by omega)) g.2.2[i + 1 + d] < 0
  | i, 0, h => hv.ord i h
  | i, d + 1, h => by
    have h1 := vg_pair hv i d (by omega)
    have h2 := hv.ord (i + 1 + d) (by omega)
    rw [cmp3_iff] at h1 h2 ⊢
    have e : i + 1 + (d + 1) = i + 1 + d + 1 := by omega
    simp only [e]
    omega
theorem det_uniq (hv : VG g) (hd : detB g.2.2 = true) {x y : Ed} (hx : x ∈ g.2.2) (hy : y ∈ g.2.2) (h1 : x.1 = y.1) (h2 : x.2.1 = y.2.1) : x = y := by
  obtain ⟨i, hi, rfl⟩ := List.getElem_of_mem hx
  obtain ⟨j, hj, rfl⟩ := List.getElem_of_mem hy
  have no : ∀ i j (hi : i < g.2.2.length) (hj : j < g.2.2.length), i < j → g.2.2[i].1 = g.2.2[j].1 → g.2.2[i].2.1 = g.2.2[j].2.1 → False := by
    intro i j hi hj hij h1 h2
    have ha := hv.ord i (by omega)
    rw [cmp3_iff] at ha
    have hb : g.2.2[i + 1].1 ≤ g.2.2[j].1 ∧ (g.2.2[i + 1].1 = g.2.2[j].1 → g.2.2[i + 1].2.1 ≤ g.2.2[j].2.1) := by
      by_cases e : j = i + 1
      · subst e; exact ⟨Int.le_refl _, fun _ => Int.le_refl _⟩
      · obtain ⟨d, rfl⟩ : ∃ d, j = i + 1 + 1 + d := ⟨j - i - 2, by omega⟩
        have := vg_pair hv (i + 1) d hj
        rw [cmp3_iff] at this
        omega
    have ht : twinB g.2.2 i = true := by
      unfold twinB
      rw [getD_lt hi, getD_lt (show i + 1 < g.2.2.length by omega)]
      simp only [Bool.and_eq_true, decide_eq_true_eq]
      omega
    unfold detB at hd
    rw [Bool.not_eq_true'] at hd
    have := List.any_eq_true.2 ⟨i, List.mem_range.2 (show i < g.2.2.length - 1 by omega), ht⟩
    rw [hd] at this
    cases this
  by_cases e : i = j
  · subst e; rfl
  · rcases Nat.lt_or_gt_of_ne e with h | h
    · exact (no i j hi hj h h1 h2).elim
    · exact (no j i hj hi h h1.symm h2.symm).elim

/-- a step of one state in a deterministic graph -/
theorem step_one (hv : VG g) (hd : detB g.2.2 = true) {b : List Int} (hb : b.length = 1) (c : Int) (hz : stepL g b c ≠ []) : (stepL g b c).length = 1 ∧ ∃ x y, b = [x] ∧ stepL g b c = [y] ∧ (x, c, y) ∈ g.2.2 := by
  obtain ⟨x, rfl⟩ := List.length_eq_one_iff.1 hb
  have huni : ∀ t t', t ∈ stepL g [x] c → t' ∈ stepL g [x] c → t = t' := fun t t' h h' => by
    obtain ⟨e, he, e1, e2, e3⟩ := (mem_stepL hv).1 h
    obtain ⟨f, hf, f1, f2, f3⟩ := (mem_stepL hv).1 h'
    have e3 := List.mem_singleton.1 e3
    have f3 := List.mem_singleton.1 f3
    have := det_uniq hv hd he hf (e3.trans f3.symm) (e2.trans f2.symm)
    rw [← e1, ← f1, this]
  have hasc := (stepL_ok g [x] c).1
  cases hs : stepL g [x] c with
  | nil => exact absurd hs hz
  | cons t l =>
    cases l with
    | nil =>
      refine ⟨rfl, x, t, rfl, rfl, ?_⟩
      have ht : t ∈ stepL g [x] c := by rw [hs]; simp
      obtain ⟨⟨e1, e2, e3⟩, he, h1, h2, h3⟩ := (mem_stepL hv).1 ht
      have h3 := List.mem_singleton.1 h3
      dsimp only at h1 h2 h3
      subst h1; subst h2; subst h3
      exact he
    | cons t' l =>
      rw [hs] at hasc
      have h1 := (List.pairwise_cons.1 hasc).1 t' (by simp)
      have := huni t t' (by rw [hs]; simp) (by rw [hs]; simp)
      omega

/-- the edges of the first m sets -/
def partE (g : Gr) (m : Nat) (L : List (List Int)) : List Ed := (List.range m).flatMap fun j => rowE g j (L.getD j []) L g.1.toNat
theorem partE_mem {m : Nat} {L : List (List Int)} {e : Ed} : e ∈ partE g m L ↔ ∃ j lab : Nat, j < m ∧ lab < g.1.toNat ∧ stepL g (L.getD j []) (lab : Int) ≠ [] ∧ e = ((j : Int), (lab : Int), ((L.idxOf (stepL g (L.getD j []) (lab : Int)) : Nat) : Int)) := by
  unfold partE
  simp only [List.mem_flatMap, List.mem_range, rowE, List.mem_filterMap]
  constructor
  · rintro ⟨j, hj, lab, hlab, he⟩
    split at he
    · cases he
    · rename_i hz
      exact ⟨j, lab, hj, hlab, hz, (Option.some.inj he).symm⟩
  · rintro ⟨j, lab, hj, hlab, hz, rfl⟩
    exact ⟨j, hj, lab, hlab, by rw [if_neg hz]⟩
theorem partE_asc (m : Nat) (L : List (List Int)) : (partE g m L).Pairwise fun x y => x.1 < y.1 ∨ x.1 = y.1 ∧ x.2.1 < y.2.1 := by
  unfold partE
  rw [List.pairwise_flatMap]
  refine ⟨fun j _ => ?_, ?_⟩
  · unfold rowE
    rw [List.pairwise_filterMap]
    refine List.Pairwise.imp (R := (· < ·)) ?_ (List.pairwise_lt_range (n := g.1.toNat))
    intro x y hxy e he e' he'
    split at he
    · cases he
    · split at he'
      · cases he'
      · cases he; cases he'
        exact .inr ⟨rfl, by dsimp only; omega⟩
  · refine List.Pairwise.imp (R := (· < ·)) ?_ (List.pairwise_lt_range (n := m))
    intro x y hxy e he e' he'
    rw [rowE_from he, rowE_from he']
    exact .inl (by omega)

theorem ones_len {L : List (List Int)} (hnd : L.Nodup) (hg : ∀ x ∈ L, SetOk g x) (h1 : ∀ x ∈ L, x.length = 1) (hv : VG g) : L.length ≤ 64 := by
  have := nodup_sub_len (m := (upto g.2.1).map fun x => [x]) hnd fun b hb => by
    obtain ⟨x, rfl⟩ := List.length_eq_one_iff.1 (h1 b hb)
    exact List.mem_map.2 ⟨x, mem_upto.2 ((hg _ hb).2 x (by simp)), rfl⟩
  rw [List.length_map, upto_len] at this
  have := hv.s1
  omega
theorem ones_edges (hv : VG g) (hd : detB g.2.2 = true) {L : List (List Int)} (hnd : L.Nodup) (h1 : ∀ x ∈ L, x.length = 1) {m : Nat} (hm : m ≤ L.length) : (partE g m L).length ≤ 1024 := by
  let f : Ed → Ed := fun e => ((L.getD e.1.toNat []).getD 0 0, e.2.1, (stepL g (L.getD e.1.toNat []) e.2.1).getD 0 0)
  have hl : ((partE g m L).map f).length ≤ g.2.2.length := by
    refine nodup_sub_len ?_ fun x hx => ?_
    · unfold List.Nodup
      rw [List.pairwise_map]
      refine List.Pairwise.imp_of_mem ?_ (partE_asc m L)
      intro x y hx hy hxy he
      obtain ⟨j, lab, hj, hlab, hz, rfl⟩ := partE_mem.1 hx
      obtain ⟨j', lab', hj', hlab', hz', rfl⟩ := partE_mem.1 hy
      have hj2 : j < L.length := by omega
      have hj2' : j' < L.length := by omega
      simp only [f, Prod.mk.injEq, Int.toNat_natCast] at he
      dsimp only at hxy
      obtain ⟨e1, e2, _⟩ := he
      have hne : j ≠ j' := by omega
      obtain ⟨x, hx⟩ := List.length_eq_one_iff.1 (h1 _ (getD_mem (d := []) hj2))
      obtain ⟨y, hy⟩ := List.length_eq_one_iff.1 (h1 _ (getD_mem (d := []) hj2'))
      rw [hx, hy] at e1
      have e1 : x = y := e1
      have hxy2 : L[j] = L[j'] := by
        rw [← getD_lt (d := []) hj2, ← getD_lt (d := []) hj2', hx, hy, e1]
      have a1 := List.Nodup.idxOf_getElem hnd j hj2
      have a2 := List.Nodup.idxOf_getElem hnd j' hj2'
      rw [hxy2, a2] at a1
      exact hne a1.symm
    · obtain ⟨e, he, rfl⟩ := List.mem_map.1 hx
      obtain ⟨j, lab, hj, hlab, hz, rfl⟩ := partE_mem.1 he
      obtain ⟨_, x, y, e1, e2, e3⟩ := step_one hv hd (h1 _ (getD_mem (d := []) (show j < L.length by omega))) (lab : Int) hz
      simp only [f, Int.toNat_natCast]
      rw [e2, e1]
      exact e3
  rw [List.length_map] at hl
  have := hv.el
  omega

theorem browN_one (hv : VG g) (hd : detB g.2.2 = true) {i : Nat} {b : List Int} {st : BS} (hb : b.length = 1) (h : ∀ x ∈ st.2, x.length = 1) : ∀ n, ∀ x ∈ (browN g i b n st).2, x.length = 1
  | 0 => h
  | n + 1 => by
    rw [browN_succ]
    unfold bstep
    split
    · exact browN_one hv hd hb h n
    · rename_i hz
      dsimp only
      split
      · exact browN_one hv hd hb h n
      · intro x hx
        rcases List.mem_append.1 hx with hx | hx
        · exact browN_one hv hd hb h n x hx
        · rw [List.mem_singleton.1 hx]; exact (step_one hv hd hb _ hz).1

theorem brun_det (hv : VG g) (hd : detB g.2.2 = true) : ∀ f i st, (∀ x ∈ st.2, x.length = 1) → st.2.Nodup → Good g st → (∀ L', st.2 <+: L' → st.1 = partE g i L') → i ≤ st.2.length → i + f = 66 → ∃ st', brun g f i st = some st' ∧ ∀ x ∈ st'.2, x.length = 1
  | 0, i, st, h1, hnd, hg, _, hi, hf => by
    have := ones_len hnd hg h1 hv
    omega
  | f + 1, i, st, h1, hnd, hg, hform, hi, hf => by
    unfold brun
    by_cases hlt : i < st.2.length
    · rw [if_pos hlt]
      have hgr := browN_grow (g := g) i (st.2.getD i []) st g.1.toNat
      have hpre : st.2 <+: (brow g i st).2 := hgr.2.1
      have hlen := hpre.length_le
      have k1 : ∀ x ∈ (brow g i st).2, x.length = 1 := browN_one hv hd (h1 _ (getD_mem hlt)) h1 _
      have k2 : (brow g i st).2.Nodup := browN_nd hnd _
      have k3 : Good g (brow g i st) := browN_good hg _
      have k4 : ∀ L', (brow g i st).2 <+: L' → (brow g i st).1 = partE g (i + 1) L' := fun L' hL' => by
        unfold partE
        rw [List.range_succ, List.flatMap_append]
        have := hform L' (hpre.trans hL')
        unfold partE at this
        rw [← this]
        simp only [List.flatMap_cons, List.flatMap_nil, List.append_nil]
        rw [pre_getD (hpre.trans hL') hlt]
        exact (browN_form i (st.2.getD i []) st g.1.toNat L' hL').1
      have hsm : small (brow g i st) := ⟨ones_len k2 k3 k1 hv, by
        rw [k4 _ (List.prefix_refl _)]
        exact ones_edges hv hd k2 k1 (by omega)⟩
      rw [if_pos hsm]
      exact brun_det hv hd f (i + 1) _ k1 k2 k3 k4 (by omega) (by omega)
    · rw [if_neg hlt]
      exact ⟨st, rfl, h1⟩

/-- the sets of one number each -/
def oneL (n : Nat) : List (List Int) := (List.range n).map fun (j : Nat) => [(j : Int)]
theorem oneL_len (n : Nat) : (oneL n).length = n := by simp [oneL]
theorem oneL_succ (n : Nat) : oneL (n + 1) = oneL n ++ [[(n : Int)]] := by simp [oneL, List.range_succ]
theorem oneL_mem {n t : Nat} : [(t : Int)] ∈ oneL n ↔ t < n := by
  simp only [oneL, List.mem_map, List.mem_range]
  constructor
  · rintro ⟨j, hj, h⟩
    have : (j : Int) = (t : Int) := by simpa using h
    omega
  · intro h; exact ⟨t, h, rfl⟩
theorem oneL_at {n i : Nat} (h : i < (oneL n).length) : (oneL n)[i] = [(i : Int)] := by simp [oneL]
theorem oneL_idx {n t : Nat} (h : t < n) : (oneL n).idxOf [(t : Int)] = t := by
  refine idxOf_at (by rw [oneL_len]; exact h) (oneL_at _) fun hm => ?_
  obtain ⟨k, hk, he⟩ := List.getElem_of_mem hm
  rw [List.getElem_take, oneL_at] at he
  have : (k : Int) = (t : Int) := by simpa using he
  simp at hk
  omega

variable {a : List Int} {E : List Ed} {L : List (List Int)}
/-- a step in a graph of sets -/
theorem Sets.step (hv : VG g) (h : Sets g a E L) {j lab : Nat} (hj : j < L.length) (hlab : lab < g.1.toNat) :
    stepL (g.1, (L.length : Int), E) [(j : Int)] (lab : Int) = if stepL g (L.getD j []) (lab : Int) = [] then [] else [((L.idxOf (stepL g (L.getD j []) (lab : Int)) : Nat) : Int)] := by
  refine asc_uniq (stepL_ok _ _ _).1 (by split <;> simp) fun t => ?_
  rw [mem_stepL (h.vg hv)]
  constructor
  · rintro ⟨e, he, e1, e2, e3⟩
    obtain ⟨j', lab', hj', hlab', hz, rfl⟩ := h.mem.1 he
    have e3 := List.mem_singleton.1 e3
    dsimp only at e1 e2 e3
    have ej : j' = j := by omega
    have el : lab' = lab := by omega
    subst ej; subst el
    rw [if_neg hz, ← e1]
    simp
  · intro ht
    split at ht
    · cases ht
    · rename_i hz
      exact ⟨((j : Int), (lab : Int), t), h.mem.2 ⟨j, lab, hj, hlab, hz, by rw [List.mem_singleton.1 ht]⟩, rfl, rfl, by simp⟩

/-- the search in the graph of sets goes beside the search for it -/
theorem Sets.beside_step (hv : VG g) (h : Sets g a E L) {st : BS} {i lab : Nat} (hi : i < st.2.length) (hlab : lab < g.1.toNat) (hp : (bstep g i (L.getD i []) st lab).2 <+: L) (hp0 : st.2 <+: L) :
    bstep (g.1, (L.length : Int), E) i [(i : Int)] (st.1, oneL st.2.length) lab = ((bstep g i (L.getD i []) st lab).1, oneL (bstep g i (L.getD i []) st lab).2.length) := by
  have hle := hp0.length_le
  have hst := h.step hv (j := i) (lab := lab) (by omega) hlab
  unfold bstep at hp ⊢
  rw [hst]
  by_cases hz : stepL g (L.getD i []) (lab : Int) = []
  · rw [if_pos hz, if_pos rfl, if_pos hz]
  · rw [if_neg hz] at hp
    rw [if_neg hz, if_neg hz, if_neg (by simp)]
    dsimp only at hp ⊢
    by_cases hm : stepL g (L.getD i []) (lab : Int) ∈ st.2
    · have hlt := idxOf_lt hm
      rw [if_pos hm, idxOf_pre hp0 hm, if_pos (oneL_mem.2 hlt), oneL_idx hlt]
    · rw [if_neg hm] at hp
      have e : L.idxOf (stepL g (L.getD i []) (lab : Int)) = st.2.length := by
        rw [idxOf_pre hp (by simp), List.idxOf_append, if_neg hm, List.idxOf_cons_self]
        simp
      have hno : [((st.2.length : Nat) : Int)] ∉ oneL st.2.length := fun hx => Nat.lt_irrefl _ (oneL_mem.1 hx)
      rw [if_neg hm, e, if_neg hno, idxOf_no hno, idxOf_no hm, oneL_len, List.length_append, List.length_singleton, oneL_succ]
theorem Sets.beside_row (hv : VG g) (h : Sets g a E L) {st : BS} {i : Nat} (hi : i < st.2.length) : ∀ n, n ≤ g.1.toNat → (browN g i (L.getD i []) n st).2 <+: L → browN (g.1, (L.length : Int), E) i [(i : Int)] n (st.1, oneL st.2.length) = ((browN g i (L.getD i []) n st).1, oneL (browN g i (L.getD i []) n st).2.length)
  | 0, _, _ => rfl
  | n + 1, hn, hp => by
    rw [browN_succ] at hp
    rw [browN_succ, browN_succ]
    have hg1 := (bstep_grow (g := g) i (L.getD i []) (browN g i (L.getD i []) n st) n).2.1
    have hp0 := hg1.trans hp
    have hg2 := (browN_grow (g := g) i (L.getD i []) st n).2.1.length_le
    rw [h.beside_row hv hi n (by omega) hp0]
    exact h.beside_step hv (by omega) (by omega) hp hp0

theorem brun_pre : ∀ f i (st st' : BS), brun g f i st = some st' → st.2 <+: st'.2
  | 0, _, _, _, h => by cases h
  | f + 1, i, st, st', h => by
    unfold brun at h
    by_cases hlt : i < st.2.length
    · rw [if_pos hlt] at h
      by_cases hsm : small (brow g i st)
      · rw [if_pos hsm] at h
        exact (browN_grow (g := g) i (st.2.getD i []) st g.1.toNat).2.1.trans (brun_pre f (i + 1) _ _ h)
      · rw [if_neg hsm] at h; cases h
    · rw [if_neg hlt] at h
      cases h
      exact List.prefix_refl _
theorem Sets.beside (hv : VG g) (h : Sets g a E L) : ∀ f i (st : BS), brun g f i st = some (E, L) → brun (g.1, (L.length : Int), E) f i (st.1, oneL st.2.length) = some (E, oneL L.length)
  | 0, _, _, hr => by cases hr
  | f + 1, i, st, hr => by
    unfold brun at hr ⊢
    dsimp only
    rw [oneL_len]
    by_cases hlt : i < st.2.length
    · rw [if_pos hlt] at hr ⊢
      by_cases hsm : small (brow g i st)
      · rw [if_pos hsm] at hr
        have hp := brun_pre _ _ _ _ hr
        have hp2 := (browN_grow (g := g) i (st.2.getD i []) st g.1.toNat).2.1.trans hp
        have hgd := pre_getD hp2 hlt
        have hrow : brow (g.1, (L.length : Int), E) i (st.1, oneL st.2.length) = ((brow g i st).1, oneL (brow g i st).2.length) := by
          unfold brow at hp ⊢
          dsimp only
          rw [getD_lt (by rw [oneL_len]; exact hlt), oneL_at, ← hgd]
          rw [← hgd] at hp
          exact h.beside_row hv hlt _ (Nat.le_refl _) hp
        have hsm2 : small ((brow g i st).1, oneL (brow g i st).2.length) := ⟨by dsimp only; rw [oneL_len]; exact hsm.1, hsm.2⟩
        rw [hrow, if_pos hsm2]
        exact h.beside hv f (i + 1) _ hr
      · rw [if_neg hsm] at hr; cases hr
    · rw [if_neg hlt] at hr ⊢
      cases hr
      rfl

theorem EqE_eq {b c : List Ed} (hm : b.length ≤ 1000000) : m_slices_Equal_Lapi_Edge_api_Edge b c = some (decide (b = c)) := by
  unfold m_slices_Equal_Lapi_Edge_api_Edge
  by_cases hl : b.length = c.length
  · rw [if_neg (by omega)]
    refine lpL (loop_eqL (fun i => (i : Int)) b c hl (Ou.ret false) (Ou.go ()) (fun i h1 h2 => ?_) (by rw [if_neg (not_lt_int _)]) rfl) ?_
    · rw [if_pos (lt_int h1), ix h1, ix h2, Option.bind_some, Option.bind_some, nx (by omega : b.length ≤ _) h1]
      by_cases he : b[i] = c[i]
      · rw [if_pos he, if_neg (by simpa using he)]
      · rw [if_neg he, if_pos he]
    · by_cases he : b = c <;> simp [he, lpO]
  · rw [if_pos (by omega)]
    have : ¬ b = c := fun e => hl (by rw [e])
    simp [this]

theorem law_again (g : Gr) (s : Int) (hs0 : 0 ≤ s) (hs1 : s < 256) : m_law12_SubsetAgain g s = some true := by
  obtain ⟨b, hb⟩ := great12_tot g
  unfold m_law12_SubsetAgain
  simp only [jp]
  rw [hb, Option.bind_some]
  cases b with
  | true => rfl
  | false =>
    rw [if_neg (show ¬ false = true by decide)]
    obtain ⟨e, he, hz⟩ := Check_tot g
    rw [Check_ref, he, Option.bind_some]
    by_cases h0 : e = 0
    case neg => rw [if_pos h0]; rfl
    rw [if_neg (show ¬ e ≠ 0 from fun h => h h0)]
    by_cases hn : g.2.1 = 0
    · rw [if_pos (decide_eq_true hn)]; rfl
    rw [if_neg (show ¬ decide (g.2.1 = 0) = true by simpa using hn), Build_eq he hz, Option.bind_some]
    have hv := hz.1 h0
    have hsn := hv.s0
    have hs64 := hv.s1
    have hbe : buildE g e = buildR g (upto g.2.1) := by
      unfold buildE buildG
      rw [if_neg (show ¬ e ≠ 0 from fun h => h h0), if_neg hn]
    rw [hbe]
    rcases buildR_cases (upto_ok g) (upto_ne (by omega)) with h | ⟨E, L, hS, hrun, h⟩
    · rw [h]; rfl
    rw [h]
    dsimp only
    rw [if_neg no0]
    have hv2 := hS.vg hv
    have hL := hS.s1
    have hE := hS.s2
    have hlp := hS.len_pos
    obtain ⟨e2, he2, hz2⟩ := Check_tot (g.1, (L.length : Int), E)
    have h02 := hz2.2 hv2
    subst h02
    have hs0' : SetOk (g.1, (L.length : Int), E) [0] := ⟨by simp, fun x hx => by rw [List.mem_singleton.1 hx]; dsimp only; omega⟩
    have hfr : fromR (g.1, (L.length : Int), E) 0 [0] = ((g.1, (L.length : Int), E), oneL L.length, 0) := by
      have hb2 := hS.beside hv 66 0 ([], [upto g.2.1]) hrun
      unfold fromR
      rw [if_neg no0, if_neg (by simp), checkS_zero hs0']
      simp only [pick3]
      unfold buildR
      have e1 : (([], [[0]]) : BS) = (([] : List Ed), oneL ([upto g.2.1] : List (List Int)).length) := rfl
      rw [e1, hb2]
      dsimp only
      rw [oneL_len]
    rw [From_eq he2 hz2 (by simp), hfr, Option.bind_some]
    dsimp only
    have hsame : m_graph_Same (g.1, (L.length : Int), E) (g.1, (L.length : Int), E) = some true := by
      unfold m_graph_Same
      simp only [jp]
      rw [if_pos trivial, if_pos trivial, EqE_eq (by omega), Option.bind_some]
      simp
    rw [if_neg no0, hsame, Option.bind_some, if_neg (show ¬ (!true) = true by decide)]
    refine lpL (loop_is (fun i => (i : Int)) (oneL L.length).length (Ou.go ()) (fun i hi => ?_) (by rw [if_neg (not_lt_int _)]) rfl) ?_
    · have hi2 := hi
      rw [oneL_len] at hi2
      rw [if_pos (lt_int hi), ix hi, Option.bind_some, oneL_at, EqI_eq (by simp), Option.bind_some, decide_eq_true (rfl : [(i : Int)] = [(i : Int)]), if_neg (show ¬ (!true) = true by decide), nx (by rw [oneL_len]; omega) hi]
    · simp only [lpO]
      rw [h0] at he
      rw [Det_ok he hv, Option.bind_some]
      dsimp only
      rw [if_neg no0]
      by_cases hd : detB g.2.2 = true
      case neg =>
        rw [Bool.not_eq_true] at hd
        rw [hd, if_pos (by decide)]
        rfl
      have hw : IntKind.wrap .i64 s = s := w64 (by omega) (by omega)
      have ht0 : 0 ≤ Int.tmod s g.2.1 := Int.tmod_nonneg _ hs0
      have ht1 : Int.tmod s g.2.1 < g.2.1 := Int.tmod_lt_of_pos _ (by omega)
      rw [hd, if_neg (show ¬ (!true) = true by decide), if_pos hn, hw]
      have hso : SetOk g [Int.tmod s g.2.1] := ⟨by simp, fun x hx => by rw [List.mem_singleton.1 hx]; exact ⟨ht0, ht1⟩⟩
      obtain ⟨st', hst, h1⟩ := brun_det hv hd 66 0 ([], [[Int.tmod s g.2.1]]) (fun x hx => by rw [List.mem_singleton.1 hx]; rfl) (by simp) (good_one hso) (fun L' _ => by simp [partE]) (by simp) rfl
      have hsz := (brun_sets hso (by simp) hst).s1
      have hfr2 : fromR g 0 [Int.tmod s g.2.1] = ((g.1, (st'.2.length : Int), st'.1), st'.2, 0) := by
        unfold fromR
        rw [if_neg no0, if_neg (by simp), checkS_zero hso]
        simp only [pick3]
        unfold buildR
        rw [hst]
      rw [From_eq he ⟨fun _ => hv, fun _ => rfl⟩ (by simp), hfr2, Option.bind_some]
      dsimp only
      have hcon : m_slices_ContainsFunc_LLint_Lint st'.2 = some false := by
        unfold m_slices_ContainsFunc_LLint_Lint m_slices_IndexFunc_LLint_Lint m_law12_SubsetAgain_1
        refine bindL (lpL (loop_is (fun i => (i : Int)) st'.2.length (Ou.go ()) (fun i hi => ?_) (by rw [if_neg (not_lt_int _)]) rfl) rfl) (by decide)
        have := h1 _ (List.getElem_mem hi)
        rw [if_pos (lt_int hi), ix hi, Option.bind_some, Option.bind_some, if_neg (by simp [this]), nx (by omega : st'.2.length ≤ _) hi]
      rw [if_pos rfl, hcon, Option.bind_some, if_pos (by decide)]
      rfl
end
end Go.AW

namespace Go.AW
open Go Go.ChangeShapes Go.WideShapes Go.ChangeAt Go.RowKit

/-- of what was there nothing turns -/
def Kept (W W' : World) : Prop := W'.os = W.os ∧ W'.output = W.output ∧ W.heap.size ≤ W'.heap.size ∧ ∀ b : Nat, b < W.heap.size → W'.heap[b]? = W.heap[b]?

theorem Kept.frame {W W' : World} (h : Kept W W') (may : MemPlace → Prop) : W.keptBut W' may := by
  refine ⟨h.1, h.2.1, fun i hi => ?_⟩
  rw [h.2.2.2 i hi]
  cases W.heap[i]? with
  | none => rfl
  | some o => cases o with
    | cells c t fr => exact ⟨rfl, rfl, rfl, fun _ _ => rfl⟩
    | map es clock => exact .inr ⟨rfl, rfl⟩
    | _ => rfl

theorem Kept.frozen {W W' : World} (h : Kept W W') (a : Addr) (ha : a.block < W.heap.size) : W'.frozen? a = W.frozen? a := by
  simp only [World.frozen?, h.2.2.2 _ ha]

def Mu.zero : Mu := { nx := 0, loc := fun _ => none, held := fun _ => False }

theorem SR.zero (W : World) : SR W Mu.zero [] :=
  ⟨(fun _ _ _ h => by cases h), (fun _ _ _ h => by cases h), (fun _ _ h => by cases h), (fun _ _ _ _ _ h => by cases h), (fun _ h => h.elim)⟩

theorem calls_of_pure {P : Program} {f : FuncId} {args : List HV} {vs : List Value} {W : World} (hp : Pure P f args (· = .bool true)) (hr : RepL W Mu.zero args vs) :
    Calls P f vs.toArray W fun e W' => e = .returned (.bool true) ∧ Kept W W' := by
  refine (hp.2 Mu.zero W vs (SR.zero W) hr).mono ?_
  rintro e W' ⟨v, r, H', μ', rfl, ⟨rfl, _, _⟩, hs, hv, E⟩
  have hv' : v = .bool true := hv
  subst hv'
  exact ⟨rfl, E.os, E.output, E.size, fun b hb => E.keep b hb fun ⟨_, _, hl⟩ => by cases hl⟩

theorem post_of_kept {H : Type} {enc : TypeId × Value → H} {P : Program} {f : Func} {s : ChangeSpec} {apart fresh handsOn again : Bool} {W W' : World} {args : Array Value} {v : Value} {ds gs : List (DataW H)} {before pa pv : List MemPlace}
    (hW : DataW.Whole enc P f.params.toList s.vars apart W args.toList ds gs before)
    (hres : ∀ (b : Nat) (sp : Nat → Bool) (hd : Bool), DataW.TrodAll enc P W' b sp hd f.resultTypes.toList (v.resultList f.resultTypes.size) (s.fn H (ds ++ gs)).results [])
    (hargs : ∀ sp : Nat → Bool, (∀ p ∈ before, sp p.block = true) → DataW.TrodAll enc P W' 0 sp true f.params.toList args.toList (s.fn H (ds ++ gs)).args pa)
    (hvars : ∀ sp : Nat → Bool, (∀ p ∈ before, sp p.block = true) → DataW.TrodVars enc P W' sp s.vars (s.fn H (ds ++ gs)).vars pv)
    (hps : before = pa ++ pv) (hk : Kept W W')
    (hok : ∀ (j : Nat) (t : TypeId) (r : Value), f.resultTypes[j]? = some t → (v.resultList f.resultTypes.size)[j]? = some r → Value.okWide P W' .any 0 t r) :
    s.post enc P f apart fresh handsOn again W args v W' := by
  have hold : ∀ p ∈ before, (fun b => decide (b < W.heap.size)) p.block = true := fun p hp => by simpa using hW.lt p hp
  refine ⟨ds, gs, before, [], pa, pv, hW, hres _ _ _, hargs _ hold, hvars _ hold, World.keptBut_mono (fun p hp => ⟨hp, ?_⟩) (hk.frame (· ∈ before)), fun _ => ?_⟩
  · rw [hps, List.mem_append] at hp
    exact Or.inr hp
  · have hlt := hW.lt
    obtain ⟨_, _, _, _, _, hz, hn⟩ := hW
    refine ⟨hok, _, _, ([] ++ pa) ++ pv, ⟨[] ++ pa, pv, trodAll_append (hargs _ (fun _ _ => rfl)) (hres _ _ _), hvars _ (fun _ _ => rfl), rfl, ?_, ?_⟩, ?_⟩
    · intro b off hp
      have hp' : MemPlace.cell b off ∈ before := by rw [hps]; simpa using hp
      rw [hk.frozen _ (hlt _ hp')]
      exact hz b off hp'
    · intro ha
      have := hn ha
      rw [hps] at this
      simpa using this
    · intro p hp _
      rw [hps]
      simpa using hp
end Go.AW

/- Arguments: from what is read of them to what the layer says of them; and the law's end for any arguments. -/
namespace Go.AW
open Go Go.ChangeShapes Go.WideShapes Go.ChangeAt Go.RowKit

theorem rowAt_le {p : Program} {fits : TypeId → Bool} {d : Nat} {e : TypeId} {count off n : Nat} (h : rowAt p fits d e count off n = true) : off ≤ count * p.cellsOf e := by
  cases d with
  | zero => simp [rowAt] at h
  | succ d =>
    unfold rowAt at h
    simp only at h
    split at h
    · cases h
    · rename_i hs
      have hs' : 0 < p.cellsOf e := Nat.pos_of_ne_zero hs
      have hd := Nat.div_add_mod off (p.cellsOf e)
      rw [Nat.mul_comm] at hd
      simp only [Bool.or_eq_true, Bool.and_eq_true, beq_iff_eq, decide_eq_true_eq] at h
      rcases h with ⟨⟨h0, h1⟩, _⟩ | ⟨h1, _⟩
      · rw [← hd, h0, Nat.add_zero]
        exact Nat.mul_le_mul_right _ (by omega)
      · have hm := Nat.mod_lt off hs'
        have : (off / p.cellsOf e + 1) * p.cellsOf e ≤ count * p.cellsOf e := Nat.mul_le_mul_right _ h1
        rw [Nat.add_mul] at this
        omega

theorem liesAt_le {p : Program} {d : Nat} {e u : TypeId} {count off n : Nat} (h : liesAt p d e count off u n = true) : off ≤ count * p.cellsOf e := by
  induction d generalizing u n with
  | zero => simp [liesAt] at h
  | succ d ih =>
    unfold liesAt at h
    rw [Bool.or_eq_true] at h
    rcases h with h | h
    · exact rowAt_le h
    · split at h
      · exact ih h
      · cases h

/-- where an argument's slice lies -/
theorem has_seg {P : Program} {W : World} {r : Reach} {base : Nat} {a : Addr} {e : TypeId} {cap : Nat} (h : W.has P r base a e cap) {vs : List Value} (hc : ∀ i (hi : i < vs.length), W.cell? (a.add i) = some vs[i]) :
    ∃ b off, a = ⟨b, off, none⟩ ∧ Seg W b off vs := by
  obtain ⟨_, hsp, row, cells, hsh, hl⟩ := h
  obtain ⟨b, off, spot⟩ := a
  dsimp only at hsp hsh hl
  subst hsp
  refine ⟨b, off, rfl, ?_⟩
  unfold World.shape? at hsh
  split at hsh
  · rename_i cur e' fr hb
    simp only [Option.some.injEq, Prod.mk.injEq] at hsh
    obtain ⟨rfl, rfl⟩ := hsh
    have hoff : off ≤ cur.size := Nat.le_trans (liesAt_le hl) (Nat.div_mul_le_self _ _)
    have hget : ∀ i (hi : i < vs.length), cur.toList[off + i]? = some vs[i] := fun i hi => by
      have := hc i hi
      rw [add_plain] at this
      unfold World.cell? at this
      rw [hb] at this
      simpa using this
    refine ⟨cur, e', fr, cur.toList.take off, cur.toList.drop (off + vs.length), hb, ?_, by simp [hoff]⟩
    have hvs : vs = (cur.toList.drop off).take vs.length := by
      apply List.ext_getElem?
      intro i
      rcases Nat.lt_or_ge i vs.length with hi | hi
      · rw [List.getElem?_take_of_lt hi, List.getElem?_drop, hget i hi, List.getElem?_eq_getElem hi]
      · rw [List.getElem?_eq_none hi, List.getElem?_eq_none (by simp; omega)]
    have : vs ++ cur.toList.drop (off + vs.length) = cur.toList.drop off := by
      conv => lhs; arg 1; rw [hvs]
      rw [← List.drop_drop]
      exact List.take_append_drop _ _
    rw [List.append_assoc, this, List.take_append_drop]
  · cases hsh

theorem nown (b : Nat) : ¬ Mu.zero.owns b := fun h => h.elim (fun ⟨_, _, h⟩ => by cases h) id

/-- a number -/
theorem open_num {H : Type} {enc : TypeId × Value → H} {P : Program} {W : World} {base : Nat} {t : TypeId} {k : IntKind} {v : Value} {d : DataW H} {ps : List MemPlace} (ht : P.underlying t = some (.int k))
    (hval : Value.okWide P W .any base t v) (h : DataW.Trod enc P W 0 (fun _ => true) true t v d ps) : ∃ n : Int, (Lit.int k n).wf = true ∧ Rep W Mu.zero (.int k n) v := by
  obtain ⟨n, rfl, _, _, hw⟩ := open_int ht hval h
  exact ⟨n, hw, rfl, hw⟩

/-- a byte -/
theorem open_u8 {H : Type} {enc : TypeId × Value → H} {P : Program} {W : World} {base : Nat} {t : TypeId} {v : Value} {d : DataW H} {ps : List MemPlace} (ht : P.underlying t = some (.int .u8))
    (hval : Value.okWide P W .any base t v) (h : DataW.Trod enc P W 0 (fun _ => true) true t v d ps) : ∃ b : UInt8, Rep W Mu.zero (.int .u8 (b.toNat : Int)) v := by
  obtain ⟨n, hw, hr⟩ := open_num ht hval h
  have hw' : (0 : Int) ≤ n ∧ n ≤ 255 := by
    simp only [Lit.wf, Bool.and_eq_true, decide_eq_true_eq] at hw
    exact hw
  refine ⟨UInt8.ofNat n.toNat, ?_⟩
  have : ((UInt8.ofNat n.toNat).toNat : Int) = n := by
    rw [UInt8.toNat_ofNat']
    omega
  rw [this]
  exact hr

/-- the arguments read again -/
theorem trodAll_stays {H : Type} {enc : TypeId × Value → H} {P : Program} (hl : laidOutB P = true) {W W' : World} {sp : Nat → Bool} : ∀ {ts : List TypeId} {vs : List Value} {ds : List (DataW H)} {ps : List MemPlace},
    (ts.all fun t => P.readableRec t && decide (t < P.types.size)) = true → DataW.TrodAll enc P W 0 (fun _ => true) true ts vs ds ps → (∀ p ∈ ps, W.sameAt W' p) → (∀ p ∈ ps, sp p.block = true) → DataW.TrodAll enc P W' 0 sp true ts vs ds ps
  | [], vs, ds, ps, _, h, _, _ => by
    obtain ⟨rfl, rfl, rfl⟩ := trodAll_nil h
    exact trodAll_mk0
  | t :: ts, vs, ds, ps, ht, h, h1, h2 => by
    obtain ⟨v, vs', d, ds', p, q, rfl, rfl, rfl, h3, h4⟩ := trodAll_cons h
    simp only [List.all_cons, Bool.and_eq_true, decide_eq_true_eq] at ht
    exact trodAll_cons_mk (WideElems.Trod_stays hl ht.1.1 ht.1.2 h3 (fun x hx => h1 x (List.mem_append_left _ hx)) (fun x hx => h2 x (List.mem_append_left _ hx)))
      (trodAll_stays hl ht.2 h4 (fun x hx => h1 x (List.mem_append_right _ hx)) (fun x hx => h2 x (List.mem_append_right _ hx)))

theorem Kept.same {W W' : World} (h : Kept W W') (p : MemPlace) (hp : p.block < W.heap.size) : W.sameAt W' p := by
  cases p with
  | cell b off =>
    show W'.cell? ⟨b, off, none⟩ = W.cell? ⟨b, off, none⟩
    unfold World.cell?
    rw [h.2.2.2 b hp]
  | map b => exact h.2.2.2 b hp

/-- A LAW'S END: true, and the arguments read as they did. -/
theorem post_of_true {H : Type} {enc : TypeId × Value → H} {P : Program} {f : Func} {s : ChangeSpec} {apart fresh handsOn again : Bool} {W W' : World} {args : Array Value} {ds gs : List (DataW H)} {before : List MemPlace} {t : TypeId}
    (hl : laidOutB P = true) (hps : (f.params.toList.all fun t => P.readableRec t && decide (t < P.types.size)) = true) (hres : f.resultTypes = #[t]) (ht : P.underlying t = some .bool) (hv : s.vars = [])
    (hW : DataW.Whole enc P f.params.toList s.vars apart W args.toList ds gs before) (hk : Kept W W')
    (h1 : (s.fn H (ds ++ gs)).results = [.lit (.bool true)]) (h2 : (s.fn H (ds ++ gs)).args = ds) (h3 : (s.fn H (ds ++ gs)).vars = []) :
    s.post enc P f apart fresh handsOn again W args (.bool true) W' := by
  have hlt := hW.lt
  have hW' := hW
  obtain ⟨p, q, hA, hV, rfl, _, _⟩ := hW
  rw [hv] at hV
  obtain ⟨rfl, rfl⟩ := trodVars_none hV
  refine post_of_kept (pa := p) (pv := []) hW' (fun _ _ _ => ?_) (fun sp hsp => ?_) (fun _ _ => ?_) (by simp) hk (ok_one hres rfl (okWide_bool_mk ht _))
  · rw [hres, h1]
    exact trodAll_cons_mk (shut_bool ht _) trodAll_mk0
  · rw [h2]
    exact trodAll_stays hl hps hA (fun x hx => hk.same x (hlt x (by simpa using hx))) (fun x hx => hsp x (by simpa using hx))
  · rw [h3, hv]
    rfl
end Go.AW

/- Arguments that are graphs: what is read of them, and what the layer says of them. -/
namespace Go.AW
open Go Go.ChangeShapes Go.WideShapes Go.ChangeAt Go.RowKit

section
variable {H : Type} {enc : TypeId × Value → H} {P : Program} {W : World} {base : Nat}

theorem repL_app {μ : Mu} : ∀ {hs ks : List HV} {vs us : List Value}, RepL W μ hs vs → RepL W μ ks us → RepL W μ (hs ++ ks) (vs ++ us)
  | [], _, _, _, h, h' => by cases h; exact h'
  | _ :: _, _, _, _, ⟨x, xs, rfl, h1, h2⟩, h' => ⟨x, _, rfl, h1, repL_app h2 h'⟩

theorem add_adds (a : Addr) (i j : Nat) : (a.add i).add j = a.add (i + j) := by
  unfold Addr.add
  repeat' split
  all_goals simp_all [Nat.add_assoc]

theorem open_rows {α : Type} (c : EncL α) {fuel : Nat} {t e : TypeId} {cs : List Value} {x : DataW H × List MemPlace} (ht : P.underlying t = some (.slice e)) (hk : P.cellsOf e = c.k) (hone : ∀ x, ones (c.C x))
    (hel : ∀ n cs y, DataW.trod enc P W 0 (fun _ => true) true n e cs = some y → ∃ x : α, RepL W Mu.zero (c.C x) cs)
    (hhas : ∀ a len cap, cs = [.slice (some a) len cap] → W.has P .any base a e cap) (h : DataW.trod enc P W 0 (fun _ => true) true fuel t cs = some x) : ∃ l : List α, RepL W Mu.zero [slE c l] cs := by
  rcases DataW.trod_slice ht h with ⟨rfl, _⟩ | ⟨a, len, cap, elems, rest, n, _, rfl, _, _, hl, hm, hlen, hel', _, _⟩
  · refine ⟨[], _, _, rfl, ?_, rfl⟩
    show _ ∧ _
    exact ⟨(by rw [c.nil]; exact fun _ h => nomatch h), (by rw [c.nil]; simp), Nat.zero_le _, .inl ⟨rfl, rfl⟩⟩
  · have each : ∀ i, i < len → ∃ cs' x, W.cells? 0 (a.add (i * c.k)) c.k = some cs' ∧ RepL W Mu.zero (c.C x) cs' := fun i hi => by
      have h1 := hel' i hi
      rw [List.getElem?_eq_getElem (by omega), Option.bind_eq_some_iff, hk] at h1
      obtain ⟨cs', h2, h3⟩ := h1
      obtain ⟨x, hx⟩ := hel _ _ _ h3
      exact ⟨cs', x, h2, hx⟩
    have build : ∀ m, m ≤ len → ∃ (l : List α) (vs : List Value), l.length = m ∧ vs.length = m * c.k ∧ RepL W Mu.zero (c.E l) vs ∧ ∀ i (hi : i < vs.length), W.cell? (a.add i) = some vs[i] := by
      intro m
      induction m with
      | zero => exact fun _ => ⟨[], [], rfl, by simp, by rw [c.nil]; rfl, fun i hi => by simp at hi⟩
      | succ m ih =>
        intro hm
        obtain ⟨l, vs, h1, h2, h3, h4⟩ := ih (by omega)
        obtain ⟨cs', x, h5, h6⟩ := each m (by omega)
        obtain ⟨_, h7, h8⟩ := World.cells?_some h5
        refine ⟨l ++ [x], vs ++ cs', by simp [h1], by rw [List.length_append, h2, h7, Nat.succ_mul], by rw [c.append, c.one]; exact repL_app h3 h6, fun i hi => ?_⟩
        rcases Nat.lt_or_ge i vs.length with hi' | hi'
        · rw [List.getElem_append_left hi']; exact h4 i hi'
        · rw [List.getElem_append_right hi']
          rw [List.length_append] at hi
          have := h8 (i - vs.length) (by omega)
          rw [add_adds, h2, show m * c.k + (i - m * c.k) = i by omega] at this
          rw [this, List.getElem?_eq_getElem (by omega)]
          simp only [h2]
    obtain ⟨l, vs, h1, h2, h3, h4⟩ := build len (Nat.le_refl _)
    obtain ⟨b, off, rfl, hseg⟩ := has_seg (hhas _ _ _ rfl) h4
    refine ⟨l, _, _, rfl, ?_, rfl⟩
    show _ ∧ _
    refine ⟨fun d hd => ?_, c.len l, by omega, .inr ⟨b, off, cap, vs, by rw [h1], by omega, nown b, hseg, h3⟩⟩
    rw [c.hE] at hd
    obtain ⟨x, _, hdx⟩ := List.mem_flatMap.1 hd
    exact hone x d hdx

theorem open3 {t : TypeId} {f0 f1 f2 : Field} {fuel : Nat} {cs : List Value} {x : DataW H × List MemPlace} (ht : P.underlying t = some (.struct #[f0, f1, f2])) (o0 : f0.offset = 0) (o1 : f1.offset = 1) (o2 : f2.offset = 2) (c : P.cellsOf t = 3)
    (c0 : P.cellsOf f0.type = 1) (c1 : P.cellsOf f1.type = 1) (c2 : P.cellsOf f2.type = 1) (h : DataW.trod enc P W 0 (fun _ => true) true fuel t cs = some x) :
    ∃ v0 v1 v2 y0 y1 y2 n, cs = [v0, v1, v2] ∧ DataW.trod enc P W 0 (fun _ => true) true n f0.type [v0] = some y0 ∧ DataW.trod enc P W 0 (fun _ => true) true n f1.type [v1] = some y1 ∧ DataW.trod enc P W 0 (fun _ => true) true n f2.type [v2] = some y2 := by
  obtain ⟨xs, n, _, rfl, hl, hlen, hf⟩ := DataW.trod_struct ht h
  rw [c] at hl
  match cs, hl with
  | [v0, v1, v2], _ =>
    match xs, hlen with
    | [y0, y1, y2], _ =>
      refine ⟨v0, v1, v2, y0, y1, y2, n, rfl, ?_, ?_, ?_⟩
      · have := hf 0 f0 rfl; rw [o0, c0] at this; exact this
      · have := hf 1 f1 rfl; rw [o1, c1] at this; exact this
      · have := hf 2 f2 rfl; rw [o2, c2] at this; exact this

theorem rep_i64 {n : Int} {ti : TypeId} {m : Nat} {v : Value} {y : DataW H × List MemPlace} (hti : P.underlying ti = some (.int .i64)) (h : DataW.trod enc P W 0 (fun _ => true) true m ti [v] = some y) : ∃ n : Int, Rep W Mu.zero (.int .i64 n) v := by
  obtain ⟨n, hv, _, hw⟩ := DataW.trod_int hti h
  cases hv
  exact ⟨n, rfl, hw⟩

/-- a graph -/
theorem open_graph {t ti ts te : TypeId} {f0 f1 f2 e0 e1 e2 : Field} {v : Value} {d : DataW H} {ps : List MemPlace} (ht : P.underlying t = some (.struct #[f0, f1, f2])) (o : f0.offset = 0 ∧ f1.offset = 1 ∧ f2.offset = 2) (y : f0.type = ti ∧ f1.type = ti ∧ f2.type = ts)
    (c : P.cellsOf t = 3) (ci : P.cellsOf ti = 1) (cs : P.cellsOf ts = 1) (ct : P.cellTypes P.depth t = some [ti, ti, ts]) (hti : P.underlying ti = some (.int .i64)) (hts : P.underlying ts = some (.slice te))
    (hte : P.underlying te = some (.struct #[e0, e1, e2])) (oe : e0.offset = 0 ∧ e1.offset = 1 ∧ e2.offset = 2) (ye : e0.type = ti ∧ e1.type = ti ∧ e2.type = ti) (ce : P.cellsOf te = 3)
    (hval : Value.okWide P W .any base t v) (h : DataW.Trod enc P W 0 (fun _ => true) true t v d ps) : ∃ g : TLabelsStatesEdges, Rep W Mu.zero (.agg [.int .i64 g.1, .int .i64 g.2.1, slE eFromLabelTo g.2.2]) v := by
  obtain ⟨y0, y1, y2⟩ := y
  obtain ⟨z0, z1, z2⟩ := ye
  simp only [Value.okWide, ht] at hval
  obtain ⟨arr, rfl, _, hrow⟩ := hval
  obtain ⟨fuel, hf⟩ := h
  obtain ⟨v0, v1, v2, a0, a1, a2, n, hcs, h0, h1, h2⟩ := open3 ht o.1 o.2.1 o.2.2 c (by rw [y0]; exact ci) (by rw [y1]; exact ci) (by rw [y2]; exact cs) hf
  have harr : arr = #[v0, v1, v2] := by
    have : arr.toList = [v0, v1, v2] := hcs
    cases arr
    simp_all
  subst harr
  rw [y0] at h0
  rw [y1] at h1
  rw [y2] at h2
  obtain ⟨l, r0⟩ := rep_i64 (n := 0) hti h0
  obtain ⟨s, r1⟩ := rep_i64 (n := 0) hti h1
  obtain ⟨es, _, _, r2, r2', r2''⟩ := open_rows (base := base) eFromLabelTo hts ce (fun x d hd => by
      have hd : d ∈ [HV.int .i64 x.1, HV.int .i64 x.2.1, HV.int .i64 x.2.2] := hd
      simp only [List.mem_cons, List.not_mem_nil, or_false] at hd
      rcases hd with rfl | rfl | rfl <;> rfl) (fun m cs' y hy => by
      obtain ⟨w0, w1, w2, b0, b1, b2, n', rfl, k0, k1, k2⟩ := open3 hte oe.1 oe.2.1 oe.2.2 ce (by rw [z0]; exact ci) (by rw [z1]; exact ci) (by rw [z2]; exact ci) hy
      rw [z0] at k0
      rw [z1] at k1
      rw [z2] at k2
      obtain ⟨p0, q0⟩ := rep_i64 (n := 0) hti k0
      obtain ⟨p1, q1⟩ := rep_i64 (n := 0) hti k1
      obtain ⟨p2, q2⟩ := rep_i64 (n := 0) hti k2
      exact ⟨(p0, p1, p2), _, _, rfl, q0, _, _, rfl, q1, _, _, rfl, q2, rfl⟩) (fun a len cap e => by
      cases e
      obtain ⟨tys, ht1, _, hcell⟩ := hrow
      rw [ct] at ht1
      cases ht1
      obtain ⟨u, hu, hok⟩ := hcell 2 (.slice (some a) len cap) rfl
      cases hu
      simp only [Cell.okWide, hts, Cell.ok] at hok
      exact hok.2.2) h2
  cases r2
  refine ⟨(l, s, es), ?_⟩
  show _ ∧ _
  refine ⟨fun d hd => ?_, _, rfl, _, _, rfl, r0, _, _, rfl, r1, _, _, rfl, r2', rfl⟩
  simp only [List.mem_cons, List.not_mem_nil, or_false] at hd
  rcases hd with rfl | rfl | rfl <;> rfl
end
end Go.AW

/- Arguments that are lists of numbers. -/
namespace Go.AW
open Go Go.ChangeShapes Go.WideShapes Go.ChangeAt Go.RowKit
section
variable {H : Type} {enc : TypeId × Value → H} {P : Program} {W : World} {base : Nat}
end
end Go.AW

namespace Go.Proofs.YtibfjjmglgabdaaDoor
open Go Go.AW Go.ChangeShapes Go.WideShapes Go.ChangeAt Go.RowKit Go.ChangeMaps
set_option linter.unusedVariables false

theorem ownM : ownKnob Tryd.prog.godebug = none := by kernel_rfl
theorem laidB : laidOutB Tryd.prog = true := by kernel_rfl

theorem wLaw (a0 : TLabelsStatesEdges) (a1 : UInt8) : Pure Tryd.prog 6 [HV.agg [HV.int .i64 a0.1, HV.int .i64 a0.2.1, slE eFromLabelTo a0.2.2], .int .u8 a1.toNat] (· = .bool true) := w_law12_SubsetAgain (law_again a0 a1.toNat (Int.natCast_nonneg _) (by have := a1.toNat_lt; omega))

set_option maxRecDepth 100000 in
theorem liftedL (os : Os) (started : os.Started) (H : Type) (enc : TypeId × Value → H) :
    ReturnsInHanded {} Tryd.checked os 6 .any (fun w args => (Rows.subsetAgainSpec.pre enc Tryd.prog Tryd.f6 [] false w args ∧ laidMetH Tryd.prog Rows.subsetAgainRow.laid w) ∧ sizedMet enc Tryd.prog Tryd.f6 (OpenSpec.ofChange Rows.subsetAgainSpec) false w args) (Rows.subsetAgainSpec.post enc Tryd.prog Tryd.f6 false true false false) := by
  refine returnsInHanded_of_change_and (C := Tryd.checked) (X := fun w _ => laidMetH Tryd.prog Rows.subsetAgainRow.laid w) (fun _ _ _ hh h => h.of_heap hh) ownM started (by kernel_rfl) Tryd.func6
    (ChangeSpec.witness_shaped (enc := enc) (C := Tryd.checked) (os := os) (X := fun w _ => laidMetH Tryd.prog Rows.subsetAgainRow.laid w) false (World.laidAll Tryd.prog os Rows.subsetAgainRow.laid) #[.agg #[.int .i64 0, .int .i64 0, .slice none 0 0], .int .u8 0] 8 (World.laidAll_os _ _ _)
      (World.shaped_of_ZipB (by kernel_rfl) (by kernel_rfl)) (by kernel_rfl) (by kernel_rfl) (by kernel_rfl)
      (by rw [MakeChecks.laidMetH_plain _ _ _ (by kernel_rfl)]; exact laidMet_laidAll _ (by kernel_rfl) (by kernel_rfl))) ?_
  intro W base args ds gs before hval0 hW hcnd _ _ _
  have hval : ∀ (j : Nat) t v, Tryd.f6.params[j]? = some t → args[j]? = some v → Value.okWide Tryd.prog W .any base t v := hval0
  have hW' := hW
  obtain ⟨p, q, hA0, hV, rfl, hfz, hnd⟩ := hW
  have hA : DataW.TrodAll enc Tryd.prog W 0 (fun _ => true) true Tryd.f6.params.toList args.toList ds p := hA0
  rw [Tryd.params6] at hA hval
  obtain ⟨v0, vs0, d0, ds0, p0, q0, hargs, rfl, rfl, h0, r0⟩ := trodAll_cons hA
  obtain ⟨v1, vs1, d1, ds1, p1, q1, rfl, rfl, rfl, h1, r1⟩ := trodAll_cons r0
  obtain ⟨rfl, rfl, rfl⟩ := trodAll_nil r1
  obtain rfl : args = #[v0, v1] := by cases args; simp_all
  obtain ⟨rfl, rfl⟩ := trodVars_none hV
  obtain ⟨a0, hr0⟩ := open_graph Tryd.underlying24 ⟨rfl, rfl, rfl⟩ ⟨rfl, rfl, rfl⟩ (by kernel_rfl) (by kernel_rfl) (by kernel_rfl) (by kernel_rfl) Tryd.underlying3 Tryd.underlying22 Tryd.underlying49 ⟨rfl, rfl, rfl⟩ ⟨rfl, rfl, rfl⟩ (by kernel_rfl) (hval 0 24 v0 rfl rfl) h0
  obtain ⟨a1, hr1⟩ := open_u8 Tryd.underlying5 (hval 1 5 v1 rfl rfl) h1
  refine (calls_of_pure (vs := [v0, v1]) (wLaw a0 a1) ⟨_, _, rfl, hr0, _, _, rfl, hr1, rfl⟩).mono fun e W' ⟨he, hk⟩ => ?_
  subst he
  exact ⟨_, rfl, post_of_true laidB (by kernel_rfl) rfl Tryd.underlying4 rfl hW' hk rfl rfl rfl⟩

theorem subsetAgainProved : Rows.SubsetAgainSaid :=
  OpenClaim.holds_of_wide 6 Tryd.f6 rfl rfl rfl rfl rfl rfl rfl ⟨rfl, rfl, rfl, rfl, rfl⟩ rfl rfl rfl rfl rfl (by kernel_rfl) Tryd.func6 (by kernel_rfl)
    (of_decide_eq_true (by kernel_rfl)) (by unfold Func.isWrapper; first | (rw [if_pos (by decide +kernel)]; kernel_rfl) | (rw [if_neg (by decide +kernel)]; exact ⟨rfl, rfl⟩))
    (fun os started H enc _ => liftedL os started H enc)
theorem subsetAgainCardProved : Rows.SubsetAgainCardSaid :=
  Claim7.holds_tied_plain_at .later [] [.data, .data, .data] true (true, "5f2bcb0e1707f4173c1cea7fa27a34a29ed9402e095b813ed716ce170741e310") false subsetAgainProved (fun _ h => by cases h) (by kernel_rfl) (fun _ h => by cases h) subsetAgain_row_tie rfl ⟨rfl, rfl⟩ (by kernel_rfl) rfl
    (fun f fn hf hfn => by
      obtain rfl : f = 6 := Option.some.inj ((show Tryd.prog.funcNamed "groove/groovelaw12.SubsetAgain" = some 6 by kernel_rfl).symm.trans hf) |>.symm
      obtain rfl : fn = Tryd.f6 := (Option.some.inj (Tryd.func6.symm.trans hfn)).symm
      exact ⟨by kernel_rfl, fun j t ht => by
        rw [Tryd.params6] at ht
        have hm : t ∈ [24, 5] := by simpa using Array.mem_of_getElem? ht
        have hall : ([24, 5].all fun u => !Tryd.prog.wantsStandIn u) = true := by kernel_rfl
        exact (show Tryd.prog.wantsStandIn t = false by simpa using List.all_eq_true.1 hall t hm)⟩)
    (by kernel_rfl)
#print axioms subsetAgainCardProved
end Go.Proofs.YtibfjjmglgabdaaDoor
