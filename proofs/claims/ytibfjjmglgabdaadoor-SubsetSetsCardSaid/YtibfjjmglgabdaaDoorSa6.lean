import Derived.Test.YtibfjjmglgabdaaDoorSa5
import Derived.OpenShut
import Derived.ProofKit
import Derived.SliceStrings
import Derived.WalkKit
import Derived.WideKeyArgs
/- Graphs of sets: the number of words. -/
namespace Go.AW
open Go
set_option linter.unusedSimpArgs false
set_option linter.unusedVariables false

theorem getD_lt {α : Type} {l : List α} {d : α} {i : Nat} (h : i < l.length) : l.getD i d = l[i] := by simp [List.getD, h]

section
variable {g : Gr}
def bz (n : Nat) : TNegMag := (false, be n)
/-- an edge carries the number of its beginning to its end -/
def addE (c : List Nat) (nxt : List Nat) (x : Ed) : List Nat := nxt.set x.2.2.toNat (nxt.getD x.2.2.toNat 0 + c.getD x.1.toNat 0)
def cstep (E : List Ed) (n : Nat) (c : List Nat) : List Nat := E.foldl (addE c) (List.replicate n 0)
def cinit (n : Nat) : List Nat := (List.replicate n 0).set 0 1
def crun (E : List Ed) (n : Nat) : Nat → List Nat
  | 0 => cinit n
  | k + 1 => cstep E n (crun E n k)
def csum (c : List Nat) : Nat := c.foldl (· + ·) 0

theorem addE_len (c nxt : List Nat) (x : Ed) : (addE c nxt x).length = nxt.length := List.length_set
theorem foldE_len (c : List Nat) : ∀ (E : List Ed) (nxt : List Nat), (E.foldl (addE c) nxt).length = nxt.length
  | [], _ => rfl
  | x :: E, nxt => by rw [List.foldl_cons, foldE_len c E, addE_len]
theorem cstep_len (E : List Ed) (n : Nat) (c : List Nat) : (cstep E n c).length = n := by unfold cstep; rw [foldE_len]; simp
theorem crun_len (E : List Ed) (n : Nat) : ∀ k, (crun E n k).length = n
  | 0 => by simp [crun, cinit]
  | k + 1 => cstep_len _ _ _

theorem addE_le {c nxt : List Nat} {x : Ed} {M B : Nat} (hc : ∀ y ∈ c, y ≤ M) (hn : ∀ y ∈ nxt, y ≤ B) : ∀ y ∈ addE c nxt x, y ≤ B + M := by
  intro y hy
  have hgc : c.getD x.1.toNat 0 ≤ M := by
    by_cases h : x.1.toNat < c.length
    · exact hc _ (getD_mem h)
    · simp [List.getD, h]
  have hgn : nxt.getD x.2.2.toNat 0 ≤ B := by
    by_cases h : x.2.2.toNat < nxt.length
    · exact hn _ (getD_mem h)
    · simp [List.getD, h]
  rcases List.mem_or_eq_of_mem_set hy with h | rfl
  · have := hn y h; omega
  · omega
theorem foldE_le {c : List Nat} {M : Nat} (hc : ∀ y ∈ c, y ≤ M) : ∀ (E : List Ed) (nxt : List Nat) (B : Nat), (∀ y ∈ nxt, y ≤ B) → ∀ y ∈ E.foldl (addE c) nxt, y ≤ B + E.length * M
  | [], nxt, B, hn => fun y hy => by have := hn y hy; simp; exact this
  | x :: E, nxt, B, hn => fun y hy => by
    have := foldE_le hc E (addE c nxt x) (B + M) (addE_le hc hn) y hy
    rw [List.length_cons, Nat.succ_mul]
    omega
theorem cstep_le {E : List Ed} {n M : Nat} {c : List Nat} (hc : ∀ y ∈ c, y ≤ M) (hE : E.length ≤ 1024) : ∀ y ∈ cstep E n c, y ≤ 1024 * M := fun y hy => by
  have := foldE_le hc E (List.replicate n 0) 0 (fun y hy => by rw [(List.mem_replicate.1 hy).2]; exact Nat.le_refl _) y hy
  have h2 : E.length * M ≤ 1024 * M := Nat.mul_le_mul_right _ hE
  omega
theorem crun_le {E : List Ed} {n : Nat} (hE : E.length ≤ 1024) : ∀ k, ∀ y ∈ crun E n k, y ≤ 1024 ^ k
  | 0 => fun y hy => by
    rcases List.mem_or_eq_of_mem_set hy with h | rfl
    · rw [(List.mem_replicate.1 h).2]; simp
    · simp
  | k + 1 => fun y hy => by
    have := cstep_le (crun_le hE k) hE y hy
    rw [Nat.pow_succ, Nat.mul_comm]
    exact this
theorem be_small {n k : Nat} (hk : k ≤ 40) (h : n ≤ 2048 * 1024 ^ k) : (be n).length ≤ 1099511627776 := by
  have h1 : (1024 : Nat) ^ k ≤ 1024 ^ 40 := Nat.pow_le_pow_right (by decide) hk
  have h2 : 2048 * 1024 ^ k ≤ 2048 * 1024 ^ 40 := Nat.mul_le_mul_left _ h1
  have h3 : (2048 * 1024 ^ 40 : Nat) < 256 ^ 60 := by decide
  have := be_len (n := n) 60 (by omega)
  omega

theorem bz_at {l : List Nat} {i : Nat} (h : i < l.length) : idx (l.map bz) (i : Int) = some (bz l[i]) := by
  rw [ix (by simpa using h)]
  simp
theorem bz_set (l : List Nat) (i n : Nat) : (l.map bz).set i (bz n) = (l.set i n).map bz := by rw [List.map_set]
theorem bz_zero (n : Nat) : List.replicate n ((false, ([] : List UInt8)) : TNegMag) = (List.replicate n 0).map bz := by
  rw [List.map_replicate]
  unfold bz
  rw [be0]
theorem bz_add {a b k : Nat} (hk : k ≤ 40) (ha : a ≤ 2048 * 1024 ^ k) (hb : b ≤ 2048 * 1024 ^ k) : m_integer_Add (bz a) (bz b) = some (bz (a + b)) := Add_spec (be_small hk ha) (be_small hk hb)

/-- what Count gives, the graph's errors being e -/
def countE (g : Gr) (e n : Int) : TNegMag × Int :=
  if e ≠ 0 then ((false, []), 1) else if n < 0 ∨ 4096 < n then ((false, []), 2)
  else if (buildE g e).2.2 ≠ 0 ∨ (buildE g e).1.2.1 = 0 then ((false, []), (buildE g e).2.2)
  else (bz (csum (crun (buildE g e).1.2.2 (buildE g e).2.1.length n.toNat)), 0)

theorem csum_snoc (c : List Nat) (x : Nat) : csum (c ++ [x]) = csum c + x := by simp [csum, List.foldl_append]
theorem csum_le {c : List Nat} {M : Nat} (h : ∀ y ∈ c, y ≤ M) : csum c ≤ c.length * M := by
  have : ∀ (c : List Nat) (s : Nat), (∀ y ∈ c, y ≤ M) → c.foldl (· + ·) s ≤ s + c.length * M := by
    intro c
    induction c with
    | nil => intro s _; simp
    | cons x c ih =>
      intro s hc
      have h1 := ih (s + x) fun y hy => hc y (List.mem_cons_of_mem _ hy)
      have h2 := hc x (List.mem_cons_self ..)
      rw [List.foldl_cons, List.length_cons, Nat.succ_mul]
      omega
  have := this c 0 h
  unfold csum
  omega

theorem Count_eq {e : Int} (he : m_ref09_Check g = some e) (hz : e = 0 ↔ VG g) {n : Int} (hn : n ≤ 40 ∨ 4096 < n) : m_subset_Count g n = some (countE g e n) := by
  unfold m_subset_Count countE
  rw [Check_ref, he, Option.bind_some]
  by_cases h0 : e = 0
  case neg => rw [if_pos h0, if_pos h0]
  rw [if_neg (show ¬ e ≠ 0 from fun h => h h0), if_neg (show ¬ e ≠ 0 from fun h => h h0)]
  simp only [jp]
  by_cases c1 : n < 0
  · rw [if_pos c1, if_pos trivial, if_pos (.inl c1)]
  rw [if_neg c1]
  by_cases c2 : 4096 < n
  · rw [if_pos (decide_eq_true c2), if_pos (.inr c2)]
  rw [if_neg (by simpa using c2), if_neg (show ¬ (n < 0 ∨ 4096 < n) from fun h => h.elim c1 c2), Build_eq he hz, Option.bind_some]
  by_cases hb : (buildE g e).2.2 = 0
  case neg => rw [if_pos hb, if_pos trivial, if_pos (.inl hb)]
  rw [if_neg (by simpa using hb)]
  by_cases hs : (buildE g e).1.2.1 = 0
  case pos => rw [if_pos (decide_eq_true hs), if_pos (.inr hs)]
  rw [if_neg (show ¬ decide ((buildE g e).1.2.1 = 0) = true by simpa using hs), if_neg (show ¬ ((buildE g e).2.2 ≠ 0 ∨ (buildE g e).1.2.1 = 0) from fun h => h.elim (fun h => h hb) hs)]
  have hv := hz.1 h0
  have hne : g.2.1 ≠ 0 := fun h => by
    unfold buildE buildG at hs
    rw [if_neg (show ¬ e ≠ 0 from fun h => h h0), if_pos h] at hs
    exact hs rfl
  have hpos : 0 < g.2.1 := by have := hv.s0; omega
  have hbe : buildE g e = buildR g (upto g.2.1) := by
    unfold buildE buildG
    rw [if_neg (show ¬ e ≠ 0 from fun h => h h0), if_neg hne]
  rcases buildR_cases (upto_ok g) (upto_ne hpos) with h | ⟨E, L, hS, hrun, h⟩
  · rw [hbe, h] at hb; cases hb
  rw [hbe, h]
  dsimp only
  have hL := hS.s1
  have hE := hS.s2
  have hlp := hS.len_pos
  have hg : 0 ≤ (L.length : Int) ∧ (L.length : Int) ≤ (L.length : Int) ∧ (L.length : Int) * 24 ≤ 281474976710656 := by omega
  rw [if_pos hg, of_spec (by decide) (by decide), Option.bind_some, ix0 (by simp; omega), Option.bind_some]
  simp only [Int.toNat_natCast]
  rw [bz_zero]
  have hn40 : n.toNat ≤ 40 := by omega
  refine bindL (loop_is (fun k => ((crun E L.length k).map bz, (k : Int))) n.toNat ((crun E L.length n.toNat).map bz) (fun k hk => ?_) ?_ ?_) ?_
  · dsimp only
    rw [if_pos (by omega), if_pos hg]
    have hck := crun_le (n := L.length) hE k
    have hlen := crun_len E L.length k
    refine bindL (loop_is (fun m => ((m : Int), ((E.take m).foldl (addE (crun E L.length k)) (List.replicate L.length 0)).map bz)) E.length ((crun E L.length (k + 1)).map bz) (fun m hm => ?_) ?_ rfl) ?_
    · dsimp only
      obtain ⟨j, lab, hj, hlab, hnz, hx⟩ := hS.mem.1 (List.getElem_mem hm)
      have hto := hS.to_lt hj hlab hnz
      have e1 : E[m].1 = (j : Int) := by rw [hx]
      have e2 : E[m].2.2 = ((L.idxOf (stepL g (L.getD j []) (lab : Int)) : Nat) : Int) := by rw [hx]
      generalize hto' : L.idxOf (stepL g (L.getD j []) (lab : Int)) = t at hto e2
      have hN : ((E.take m).foldl (addE (crun E L.length k)) (List.replicate L.length 0)).length = L.length := by rw [foldE_len]; simp
      have hB := foldE_le hck (E.take m) (List.replicate L.length 0) 0 (fun y hy => by rw [(List.mem_replicate.1 hy).2]; exact Nat.le_refl _)
      have htk : E.take (m + 1) = E.take m ++ [E[m]] := by rw [List.take_add_one, List.getElem?_eq_getElem hm]; rfl
      rw [if_pos (lt_int hm), ix hm]
      simp only [Option.bind_some]
      rw [e1, e2, bz_at (by omega), bz_at (by omega)]
      simp only [Option.bind_some]
      have hml : (E.take m).length ≤ 1024 := by simp; omega
      have hmul : (E.take m).length * 1024 ^ k ≤ 1024 * 1024 ^ k := Nat.mul_le_mul_right _ hml
      have hb1 := hB _ (List.getElem_mem (show t < _ by omega))
      have hb2 := hck _ (List.getElem_mem (show j < _ by omega))
      rw [bz_add (k := k) (by omega) (by omega) (by omega)]
      simp only [Option.bind_some, Int.toNat_natCast]
      rw [bz_set, nx (by omega : E.length ≤ _) hm, htk, List.foldl_append]
      simp only [List.foldl_cons, List.foldl_nil]
      congr 4
      rw [show ∀ (c nx : List Nat) (x : Ed), addE c nx x = nx.set x.2.2.toNat (nx.getD x.2.2.toNat 0 + c.getD x.1.toNat 0) from fun _ _ _ => rfl, e1, e2]
      simp only [Int.toNat_natCast]
      congr 1
      rw [getD_lt (show t < _ by omega), getD_lt (show j < _ by omega)]
    · dsimp only
      rw [if_neg (not_lt_int _), List.take_length]
      rfl
    · rw [w64 (by omega) (by omega)]
      rfl
  · dsimp only
    rw [if_neg (by omega)]
  · show _ = ((cinit L.length).map bz, (0 : Int))
    unfold cinit
    rw [← bz_set]
    rfl
  · have hcn := crun_le (n := L.length) hE n.toNat
    have hlen := crun_len E L.length n.toNat
    generalize hcc : crun E L.length n.toNat = c at *
    refine bindL (loop_is (fun k => ((k : Int), (bz (csum (c.take k))).1, (bz (csum (c.take k))).2)) c.length (bz (csum c)) (fun k hk => ?_) ?_ (by simp [csum, bz, be0])) rfl
    · dsimp only
      rw [if_pos (by simp; omega), bz_at hk]
      simp only [Option.bind_some]
      have hs1 : csum (c.take k) ≤ 64 * 1024 ^ n.toNat := by
        have h1 := csum_le (c := c.take k) (M := 1024 ^ n.toNat) fun y hy => hcn y (List.mem_of_mem_take hy)
        have h2 : (c.take k).length ≤ 64 := by simp; omega
        have h3 : (c.take k).length * 1024 ^ n.toNat ≤ 64 * 1024 ^ n.toNat := Nat.mul_le_mul_right _ h2
        omega
      have hb2 := hcn _ (List.getElem_mem hk)
      have := bz_add (k := n.toNat) hn40 (a := csum (c.take k)) (b := c[k]) (by omega) (by omega)
      rw [show ((bz (csum (c.take k))).1, (bz (csum (c.take k))).2) = bz (csum (c.take k)) from rfl, this]
      simp only [Option.bind_some]
      rw [nx (by omega : c.length ≤ _) hk, show c.take (k + 1) = c.take k ++ [c[k]] by rw [List.take_add_one, List.getElem?_eq_getElem hk]; rfl, csum_snoc]
    · dsimp only
      rw [if_neg (by simp), List.take_length]
end
end Go.AW

/- The anchor of chapter 12; SubsetBuilds. -/
namespace Go.AW
open Go
set_option linter.unusedSimpArgs false
set_option linter.unusedVariables false

def even12 : Gr := (2, 2, [(0, 0, 1), (0, 1, 0), (1, 0, 0)])
theorem even12_ok : VG even12 where
  l1 := by decide
  l2 := by decide
  s0 := by decide
  s1 := by decide
  el := by decide
  ed := by decide
  ord := fun i h => match i, h with
    | 0, _ => show cmp3 (0, 0, 1) (0, 1, 0) < 0 by decide
    | 1, _ => show cmp3 (0, 1, 0) (1, 0, 0) < 0 by decide
    | _ + 2, h => absurd h (by simp [even12])

theorem be_7 : be 7 = [7] := by
  rw [be, if_neg (by decide), show 7 / 256 = 0 from rfl, be0]
  rfl

theorem awake12_eq : m_law12_awakeG = some true := by
  obtain ⟨e, he, hz⟩ := Check_tot even12
  have h0 := hz.2 even12_ok
  subst h0
  have hB := Build_eq he hz
  have hF := Focus_eq he hz
  have hC := Count_eq he hz (n := 3) (.inl (by decide))
  have b : buildE even12 0 = ((2, 3, [(0, 0, 0), (0, 1, 1), (1, 0, 2), (1, 1, 1), (2, 0, 1)]), [[0, 1], [0], [1]], 0) := by decide +kernel
  have f : focusE even12 0 = ([1], 0, true, 0) := by unfold focusE; rw [b]; decide +kernel
  have c : countE even12 0 3 = ((false, [7]), 0) := by
    unfold countE
    rw [b, if_neg (by decide), if_neg (by decide), if_neg (by decide)]
    have : csum (crun [(0, 0, 0), (0, 1, 1), (1, 0, 2), (1, 1, 1), (2, 0, 1)] 3 3) = 7 := by decide +kernel
    show (bz (csum (crun [(0, 0, 0), (0, 1, 1), (1, 0, 2), (1, 1, 1), (2, 0, 1)] 3 3)), (0 : Int)) = _
    rw [this]
    unfold bz
    rw [be_7]
  unfold m_law12_awakeG
  have h4 : m_law12_even = some even12 := rfl
  simp only [h4, Option.bind_some, hB, hF, hC, b, f, c, jp]
  have h7 : m_ref01_Of 7 = some (false, [7]) := by
    unfold m_ref01_Of m_ref01_mag
    rfl
  rw [SameSets_eq (by decide) (by decide), Same12_eq (by decide), h7]
  decide +kernel

section
variable {g : Gr} {e : Int}
theorem great12_tot (g : Gr) : ∃ b, m_law12_great g = some b := by
  unfold m_law12_great m_ref09_Great
  simp only [jp]
  by_cases h1 : (30 : Int) < (g.2.2.length : Int)
  · rw [if_pos h1]; exact ⟨_, rfl⟩
  · rw [if_neg h1]
    by_cases h2 : 10 < g.2.1
    · rw [if_pos h2]; exact ⟨_, rfl⟩
    · rw [if_neg h2]; exact ⟨_, rfl⟩
end
end Go.AW

/- The anchor of chapter 12. -/
namespace Go.AW
open Go Go.Proofs
theorem w_law12_awake {r : Bool} (h : m_law12_awake = some r) : Pure Tryd.prog 10 [] (· = HV.bool r) := by
  cases h
  exact w_law12_awakeG awake12_eq
end Go.AW

namespace Go.AW
open Go Go.Proofs
set_option linter.unusedVariables false
set_option maxHeartbeats 1600000 in
set_option maxRecDepth 100000 in
theorem w_ref09_Great {p0 : TLabelsStatesEdges} {r : Bool} (h : m_ref09_Great p0 = some r) : Pure Tryd.prog 28 [HV.agg [HV.int .i64 p0.1, HV.int .i64 p0.2.1, slE eFromLabelTo p0.2.2]] (· = HV.bool r) := by
 unfold m_ref09_Great at h
 refine Pure.of_body Tryd.func28 rfl rfl (Nat.le_of_ble_eq_true rfl) fun hf => ?_
 unfold Tryd.f28
 dsimp only [enumS, Nat.reduceAdd]
 refine AW.rgs rfl fun K hK => ?_
 refine b_op rfl (o_box rfl rfl rfl ?_)
 refine mv rfl rfl ?_
 refine b_fin hK (s' := ⟨[(1, HV.fptr [HV.int .i64 p0.1, HV.int .i64 p0.2.1, slE eFromLabelTo p0.2.2] 0)], []⟩) (le_q rfl rfl) ?_
 clear hK K
 refine AW.seqJ h (S := Bool) (V := Unit) (fun a v => ⟨[(2, HV.bool a)], []⟩) (fun a1 w2 h => ?_) (fun k3 h => ?_)
 ·refine AW.ret ?_
  have h := Option.some.inj h
  subst h
  exact ret_pure (hs := [HV.bool a1]) (q := HV.bool a1) (.inr rfl) (resT rfl rfl) rfl trivial
 ·refine AW.rg rfl fun K hK => ?_
  refine bv rfl (v_fieldAddrF fo24_2 rfl) ?_
  refine bv rfl (v_loadF ty22 rfl (l_lit rfl rfl)) ?_
  refine bv rfl (v_lenF rfl rfl ty22 rfl) ?_
  refine bv rfl (v_bin rfl rfl b_gtr) ?_
  refine mv rfl rfl ?_
  by_cases hg5 : 30 < ((p0.2.2).length : Int)
  ·have h := ifT hg5 h
   refine b_F rfl rfl rfl rfl rfl (decide_eq_true hg5) ?_
   refine b_F rfl rfl rfl rfl rfl rfl ?_
   refine b_F rfl rfl rfl rfl rfl rfl ?_
   refine b_F rfl rfl rfl rfl rfl rfl ?_
   refine b_U rfl rfl rfl rfl rfl ?_
   refine b_U rfl rfl rfl rfl rfl ?_
   refine b_U rfl rfl rfl rfl rfl ?_
   refine b_F rfl rfl rfl rfl rfl rfl ?_
   refine bv rfl (v_pickT rfl rfl rfl) ?_
   refine mv rfl rfl ?_
   refine b_nil (hK _ ?_)
   clear hK K
   exact to_le (s' := ⟨[(2, HV.bool true)], []⟩) (AS.le_of ⟨rfl, trivial⟩ trivial) ⟨true, (), h, rfl⟩
  ·have h := ifF hg5 h
   refine b_T rfl rfl rfl rfl (decide_eq_false hg5) (o_val rfl (v_fieldAddrF fo24_1 rfl) ?_)
   refine b_T rfl rfl rfl rfl rfl (o_val rfl (v_loadF ty3 rfl (l_lit rfl rfl)) ?_)
   refine b_T rfl rfl rfl rfl rfl (o_val rfl (v_bin rfl rfl b_gtr) ?_)
   refine b_T rfl rfl rfl rfl rfl (o_val rfl (mv_val rfl rfl).2 ?_)
   by_cases hg4 : 10 < p0.2.1
   ·have h := ifT hg4 h
    refine b_T rfl rfl rfl rfl (decide_eq_true hg4) (o_val rfl (v_fieldAddrF fo24_1 rfl) ?_)
    refine b_T rfl rfl rfl rfl rfl (o_val rfl (v_loadF ty3 rfl (l_lit rfl rfl)) ?_)
    refine b_T rfl rfl rfl rfl rfl (o_val rfl (v_bin rfl rfl b_leq) ?_)
    refine b_T rfl rfl rfl rfl rfl (o_val rfl (v_pickT rfl rfl rfl) ?_)
    refine bv rfl (v_pickF rfl rfl rfl) ?_
    refine mv rfl rfl ?_
    refine b_nil (hK _ ?_)
    clear hK K
    exact to_le (s' := ⟨[(2, HV.bool (decide (p0.2.1 ≤ 64)))], []⟩) (AS.le_of ⟨rfl, trivial⟩ trivial) ⟨decide (p0.2.1 ≤ 64), (), h, rfl⟩
   ·have h := ifF hg4 h
    refine b_F rfl rfl rfl rfl rfl (decide_eq_false hg4) ?_
    refine b_F rfl rfl rfl rfl rfl rfl ?_
    refine b_F rfl rfl rfl rfl rfl rfl ?_
    refine b_T rfl rfl rfl rfl rfl (o_val rfl (v_pickF rfl rfl rfl) ?_)
    refine bv rfl (v_pickF rfl rfl rfl) ?_
    refine mv rfl rfl ?_
    refine b_nil (hK _ ?_)
    clear hK K
    exact to_le (s' := ⟨[(2, HV.bool false)], []⟩) (AS.le_of ⟨rfl, trivial⟩ trivial) ⟨false, (), h, rfl⟩

set_option maxHeartbeats 1600000 in
set_option maxRecDepth 100000 in
theorem w_law12_great {p0 : TLabelsStatesEdges} {r : Bool} (h : m_law12_great p0 = some r) : Pure Tryd.prog 8 [HV.agg [HV.int .i64 p0.1, HV.int .i64 p0.2.1, slE eFromLabelTo p0.2.2]] (· = HV.bool r) := by
 unfold m_law12_great at h
 refine Pure.of_body Tryd.func8 rfl rfl (Nat.le_of_ble_eq_true rfl) fun hf => ?_
 unfold Tryd.f8
 dsimp only [enumS, Nat.reduceAdd]
 refine AW.rgs rfl fun K hK => ?_
 refine b_op rfl (o_box rfl rfl rfl ?_)
 refine mv rfl rfl ?_
 refine b_fin hK (s' := ⟨[(1, HV.fptr [HV.int .i64 p0.1, HV.int .i64 p0.2.1, slE eFromLabelTo p0.2.2] 0)], []⟩) (le_q rfl rfl) ?_
 clear hK K
 refine AW.rgs rfl fun K hK => ?_
 refine bv rfl (v_loadF ty24 rfl (l_litA rfl (Nat.le_of_ble_eq_true rfl) rfl)) ?_
 obtain ⟨x1, h2, h⟩ := bS h
 refine b_op rfl (o_call rfl rfl rfl rfl (ACallD.pure0 (w_ref09_Great h2)) ?_)
 refine mv rfl rfl ?_
 refine b_fin hK (s' := ⟨[(2, HV.bool x1)], []⟩) (le_q rfl rfl) ?_
 clear hK K
 refine AW.ret ?_
 have h := Option.some.inj h
 subst h
 exact ret_pure (hs := [HV.bool x1]) (q := HV.bool x1) (.inr rfl) (resT rfl rfl) rfl trivial

set_option maxHeartbeats 1600000 in
set_option maxRecDepth 100000 in
theorem w_slices_Equal_Lint_int {p0 : List (Int)} {p1 : List (Int)} {r : Bool} (h : m_slices_Equal_Lint_int p0 p1 = some r) : Pure Tryd.prog 14 [slE eInt p0, slE eInt p1] (· = HV.bool r) := by
 unfold m_slices_Equal_Lint_int at h
 refine Pure.of_body Tryd.func14 rfl rfl (Nat.le_of_ble_eq_true rfl) fun hf => ?_
 unfold Tryd.f14
 dsimp only [enumS, Nat.reduceAdd]
 refine AW.rgs rfl fun K hK => ?_
 refine mv rfl rfl ?_
 refine b_fin hK (s' := ⟨[(0, slE eInt p0), (1, slE eInt p1)], []⟩) (le_q rfl rfl) ?_
 clear hK K
 refine AW.seq ?_
 refine AW.rgs rfl fun K hK => ?_
 refine mv rfl rfl ?_
 refine bv rfl (v_lenF rfl rfl ty30 rfl) ?_
 refine mv rfl rfl ?_
 refine bv rfl (v_lenF rfl rfl ty30 rfl) ?_
 refine bv rfl (v_bin rfl rfl b_neq) ?_
 refine b_fin hK (s' := ⟨[(0, slE eInt p0), (1, slE eInt p1), (10, HV.bool (decide (((p0).length : Int) ≠ ((p1).length : Int))))], []⟩) (le_q rfl rfl) ?_
 clear hK K
 refine AW.cond rfl (fun hc => ?_) (fun hc => ?_)
 ·have hc := of_decide_eq_true hc
  have h := ifT hc h
  refine AW.rgs rfl fun K hK => ?_
  refine mv rfl rfl ?_
  refine b_fin hK (s' := ⟨[(4, HV.bool false)], []⟩) (le_q rfl rfl) ?_
  clear hK K
  refine AW.ret ?_
  have h := Option.some.inj h
  subst h
  exact ret_pure (hs := [HV.bool false]) (q := HV.bool false) (.inr rfl) (resT rfl rfl) rfl trivial
 ·have hc := of_decide_eq_false hc
  have h := ifF hc h
  refine AW.skip ?_
  refine AW.seq ?_
  refine AW.rgs rfl fun K hK => ?_
  refine mv rfl rfl ?_
  refine bv rfl (v_lenF rfl rfl ty30 rfl) ?_
  refine mv rfl rfl ?_
  refine b_fin hK (s' := ⟨[(0, slE eInt p0), (1, slE eInt p1), (12, HV.int .i64 ((p0).length : Int)), (13, HV.int .i64 0)], []⟩) (le_q rfl rfl) ?_
  clear hK K
  refine AW.lpR h (by first | exact up_then | exact up_to) (S := Int) (V := Unit) (fun a v => ⟨[(0, slE eInt p0), (1, slE eInt p1), (12, HV.int .i64 ((p0).length : Int)), (13, HV.int .i64 a)], []⟩) ?_ (X := Unit) (W := Unit) (fun a v => ⟨[], []⟩) (fun a9 w10 h => ?_) (fun a1 w2 st3 h hr4=> ?_)
  ·exact to_le (s' := ⟨[(0, slE eInt p0), (1, slE eInt p1), (12, HV.int .i64 ((p0).length : Int)), (13, HV.int .i64 0)], []⟩) (AS.le_of ⟨rfl, rfl, rfl, rfl, trivial⟩ trivial) ⟨(), rfl⟩
  ·refine AW.rgs rfl fun K hK => ?_
   refine mv rfl rfl ?_
   refine b_fin hK (s' := ⟨[(4, HV.bool true)], []⟩) (le_q rfl rfl) ?_
   clear hK K
   refine AW.ret ?_
   have h := Option.some.inj h
   subst h
   exact ret_pure (hs := [HV.bool true]) (q := HV.bool true) (.inr rfl) (resT rfl rfl) rfl trivial
  ·refine AW.rgs rfl fun K hK => ?_
   refine bv rfl (v_bin rfl rfl b_lss) ?_
   refine b_fin hK (s' := ⟨[(0, slE eInt p0), (1, slE eInt p1), (12, HV.int .i64 ((p0).length : Int)), (13, HV.int .i64 a1), (14, HV.bool (decide (a1 < ((p0).length : Int))))], []⟩) (le_q rfl rfl) ?_
   clear hK K
   refine AW.cseq rfl (fun hc => ?_) (fun hc => ?_)
   ·have hc := of_decide_eq_true hc
    have h := ifT hc h
    refine AW.skip ?_
    refine AW.seq (AW.block ?_)
    refine AW.rgs rfl fun K hK => ?_
    refine mv rfl rfl ?_
    refine mv rfl rfl ?_
    refine b_fin hK (s' := ⟨[(0, slE eInt p0), (1, slE eInt p1), (5, HV.int .i64 a1), (12, HV.int .i64 ((p0).length : Int)), (13, HV.int .i64 a1)], []⟩) (le_q rfl rfl) ?_
    clear hK K
    refine AW.dgs 9 follows rfl rfl fun K hK => ?_
    refine sm rfl rfl ?_
    refine sm rfl rfl ?_
    obtain ⟨x5, h6, h⟩ := bS h
    refine sv rfl (v_idxF ty30 es30 rfl rfl (idx_lt h6)) ?_
    refine sv rfl (v_loadF ty3 rfl (l_cell eInt h6 (o := 0) rfl rfl)) ?_
    refine sm rfl rfl ?_
    refine sm rfl rfl ?_
    obtain ⟨x7, h8, h⟩ := bS h
    refine sv rfl (v_idxF ty30 es30 rfl rfl (idx_lt h8)) ?_
    refine sv rfl (v_loadF ty3 rfl (l_cell eInt h8 (o := 0) rfl rfl)) ?_
    refine sv rfl (v_bin rfl rfl b_neq) ?_
    refine s_nil ?_
    refine b_fin hK (s' := ⟨[(0, slE eInt p0), (1, slE eInt p1), (12, HV.int .i64 ((p0).length : Int)), (13, HV.int .i64 a1), (24, HV.bool (decide (x5 ≠ x7)))], []⟩) (le_q rfl rfl) ?_
    clear hK K
    refine AW.cond rfl (fun hc => ?_) (fun hc => ?_)
    ·have hc := of_decide_eq_true hc
     have h := ifT hc h
     refine AW.rgs rfl fun K hK => ?_
     refine mv rfl rfl ?_
     refine b_fin hK (s' := ⟨[(4, HV.bool false)], []⟩) (le_q rfl rfl) ?_
     clear hK K
     have h := hr4 _ h
     refine AW.ret ?_
     have h := Option.some.inj h
     subst h
     exact ret_pure (hs := [HV.bool false]) (q := HV.bool false) (.inr rfl) (resT rfl rfl) rfl trivial
    ·have hc := of_decide_eq_false hc
     have h := ifF hc h
     refine AW.skip ?_
     refine AW.rg rfl fun K hK => ?_
     refine bv rfl (v_bin rfl rfl b_add) ?_
     refine mv rfl rfl ?_
     refine b_nil (hK _ ?_)
     clear hK K
     exact to_le (s' := ⟨[(0, slE eInt p0), (1, slE eInt p1), (12, HV.int .i64 ((p0).length : Int)), (13, HV.int .i64 (IntKind.wrap .i64 (a1 + 1)))], []⟩) (AS.le_of ⟨rfl, rfl, rfl, rfl, trivial⟩ trivial) ⟨IntKind.wrap .i64 (a1 + 1), (), h, rfl⟩
   ·have hc := of_decide_eq_false hc
    have h := ifF hc h
    refine AW.exit ?_
    exact to_le (s' := ⟨[], []⟩) (AS.le_of trivial trivial) ⟨(), (), h, rfl⟩

set_option maxHeartbeats 1600000 in
set_option maxRecDepth 100000 in
theorem w_subset_check {p0 : TLabelsStatesEdges} {p1 : List (Int)} {r : Int} (h : m_subset_check p0 p1 = some r) : Pure Tryd.prog 43 [HV.agg [HV.int .i64 p0.1, HV.int .i64 p0.2.1, slE eFromLabelTo p0.2.2], slE eInt p1] (· = HV.int .i64 r) := by
 unfold m_subset_check at h
 refine Pure.of_body Tryd.func43 rfl rfl (Nat.le_of_ble_eq_true rfl) fun hf => ?_
 unfold Tryd.f43
 dsimp only [enumS, Nat.reduceAdd]
 refine AW.rgs rfl fun K hK => ?_
 refine b_op rfl (o_box rfl rfl rfl ?_)
 refine mv rfl rfl ?_
 refine b_fin hK (s' := ⟨[(1, slE eInt p1), (2, HV.fptr [HV.int .i64 p0.1, HV.int .i64 p0.2.1, slE eFromLabelTo p0.2.2] 0)], []⟩) (le_q rfl rfl) ?_
 clear hK K
 refine AW.seq ?_
 refine AW.rgs rfl fun K hK => ?_
 refine mv rfl rfl ?_
 refine bv rfl (v_lenF rfl rfl ty30 rfl) ?_
 refine bv rfl (v_bin rfl rfl b_eql) ?_
 refine b_fin hK (s' := ⟨[(1, slE eInt p1), (2, HV.fptr [HV.int .i64 p0.1, HV.int .i64 p0.2.1, slE eFromLabelTo p0.2.2] 0), (9, HV.bool (decide (((p1).length : Int) = 0)))], []⟩) (le_q rfl rfl) ?_
 clear hK K
 refine AW.cond rfl (fun hc => ?_) (fun hc => ?_)
 ·have hc := of_decide_eq_true hc
  have h := ifT hc h
  refine AW.rgs rfl fun K hK => ?_
  refine mv rfl rfl ?_
  refine b_fin hK (s' := ⟨[(4, HV.int .i64 5)], []⟩) (le_q rfl rfl) ?_
  clear hK K
  refine AW.ret ?_
  have h := Option.some.inj h
  subst h
  exact ret_pure (hs := [HV.int .i64 5]) (q := HV.int .i64 5) (.inr rfl) (resT rfl rfl) rfl trivial
 ·have hc := of_decide_eq_false hc
  have h := ifF hc h
  refine AW.skip ?_
  refine AW.seq ?_
  refine AW.rgs rfl fun K hK => ?_
  refine mv rfl rfl ?_
  refine bv rfl (v_lenF rfl rfl ty30 rfl) ?_
  refine mv rfl rfl ?_
  refine b_fin hK (s' := ⟨[(1, slE eInt p1), (2, HV.fptr [HV.int .i64 p0.1, HV.int .i64 p0.2.1, slE eFromLabelTo p0.2.2] 0), (10, slE eInt p1), (11, HV.int .i64 ((p1).length : Int)), (12, HV.int .i64 0)], []⟩) (le_q rfl rfl) ?_
  clear hK K
  refine AW.lpR h (by first | exact up_then | exact up_to) (S := Int) (V := Unit) (fun a v => ⟨[(1, slE eInt p1), (2, HV.fptr [HV.int .i64 p0.1, HV.int .i64 p0.2.1, slE eFromLabelTo p0.2.2] 0), (10, slE eInt p1), (11, HV.int .i64 ((p1).length : Int)), (12, HV.int .i64 a)], []⟩) ?_ (X := Unit) (W := Unit) (fun a v => ⟨[], []⟩) (fun a17 w18 h => ?_) (fun a1 w2 st3 h hr4=> ?_)
  ·exact to_le (s' := ⟨[(1, slE eInt p1), (2, HV.fptr [HV.int .i64 p0.1, HV.int .i64 p0.2.1, slE eFromLabelTo p0.2.2] 0), (10, slE eInt p1), (11, HV.int .i64 ((p1).length : Int)), (12, HV.int .i64 0)], []⟩) (AS.le_of ⟨rfl, rfl, rfl, rfl, rfl, trivial⟩ trivial) ⟨(), rfl⟩
  ·refine AW.rgs rfl fun K hK => ?_
   refine mv rfl rfl ?_
   refine b_fin hK (s' := ⟨[(4, HV.int .i64 0)], []⟩) (le_q rfl rfl) ?_
   clear hK K
   refine AW.ret ?_
   have h := Option.some.inj h
   subst h
   exact ret_pure (hs := [HV.int .i64 0]) (q := HV.int .i64 0) (.inr rfl) (resT rfl rfl) rfl trivial
  ·refine AW.rgs rfl fun K hK => ?_
   refine bv rfl (v_bin rfl rfl b_lss) ?_
   refine b_fin hK (s' := ⟨[(1, slE eInt p1), (2, HV.fptr [HV.int .i64 p0.1, HV.int .i64 p0.2.1, slE eFromLabelTo p0.2.2] 0), (10, slE eInt p1), (11, HV.int .i64 ((p1).length : Int)), (12, HV.int .i64 a1), (13, HV.bool (decide (a1 < ((p1).length : Int))))], []⟩) (le_q rfl rfl) ?_
   clear hK K
   refine AW.cseq rfl (fun hc => ?_) (fun hc => ?_)
   ·have hc := of_decide_eq_true hc
    have h := ifT hc h
    refine AW.skip ?_
    refine AW.seq (AW.block ?_)
    refine AW.rgs rfl fun K hK => ?_
    refine mv rfl rfl ?_
    obtain ⟨x5, h6, h⟩ := bS h
    refine bv rfl (v_idxF ty30 es30 rfl rfl (idx_lt h6)) ?_
    refine bv rfl (v_loadF ty3 rfl (l_cell eInt h6 (o := 0) rfl rfl)) ?_
    refine mv rfl rfl ?_
    refine mv rfl rfl ?_
    refine b_fin hK (s' := ⟨[(1, slE eInt p1), (2, HV.fptr [HV.int .i64 p0.1, HV.int .i64 p0.2.1, slE eFromLabelTo p0.2.2] 0), (5, HV.int .i64 a1), (6, HV.int .i64 x5), (10, slE eInt p1), (11, HV.int .i64 ((p1).length : Int)), (12, HV.int .i64 a1)], []⟩) (le_q rfl rfl) ?_
    clear hK K
    refine AW.seq ?_
    refine AW.seqJ h (S := Bool) (V := Unit) (fun a v => ⟨[(1, slE eInt p1), (2, HV.fptr [HV.int .i64 p0.1, HV.int .i64 p0.2.1, slE eFromLabelTo p0.2.2] 0), (5, HV.int .i64 a1), (6, HV.int .i64 x5), (10, slE eInt p1), (11, HV.int .i64 ((p1).length : Int)), (12, HV.int .i64 a1), (24, HV.bool a)], []⟩) (fun a7 w8 h => ?_) (fun k9 h => ?_)
    ·refine AW.cond rfl (fun hc => ?_) (fun hc => ?_)
     ·have h := ifT hc h
      refine AW.rgs rfl fun K hK => ?_
      refine mv rfl rfl ?_
      refine b_fin hK (s' := ⟨[(4, HV.int .i64 25)], []⟩) (le_q rfl rfl) ?_
      clear hK K
      have h := hr4 _ h
      refine AW.ret ?_
      have h := Option.some.inj h
      subst h
      exact ret_pure (hs := [HV.int .i64 25]) (q := HV.int .i64 25) (.inr rfl) (resT rfl rfl) rfl trivial
     ·have h := ifF (bF' hc) h
      refine AW.skip ?_
      refine AW.seqJ h (S := Bool) (V := Unit) (fun a v => ⟨[(1, slE eInt p1), (2, HV.fptr [HV.int .i64 p0.1, HV.int .i64 p0.2.1, slE eFromLabelTo p0.2.2] 0), (10, slE eInt p1), (11, HV.int .i64 ((p1).length : Int)), (12, HV.int .i64 a1), (35, HV.bool a)], []⟩) (fun a10 w11 h => ?_) (fun k12 h => ?_)
      ·refine AW.cond rfl (fun hc => ?_) (fun hc => ?_)
       ·have h := ifT hc h
        refine AW.rgs rfl fun K hK => ?_
        refine mv rfl rfl ?_
        refine b_fin hK (s' := ⟨[(4, HV.int .i64 10)], []⟩) (le_q rfl rfl) ?_
        clear hK K
        have h := hr4 _ h
        refine AW.ret ?_
        have h := Option.some.inj h
        subst h
        exact ret_pure (hs := [HV.int .i64 10]) (q := HV.int .i64 10) (.inr rfl) (resT rfl rfl) rfl trivial
       ·have h := ifF (bF' hc) h
        refine AW.skip ?_
        refine AW.rg rfl fun K hK => ?_
        refine bv rfl (v_bin rfl rfl b_add) ?_
        refine mv rfl rfl ?_
        refine b_nil (hK _ ?_)
        clear hK K
        exact to_le (s' := ⟨[(1, slE eInt p1), (2, HV.fptr [HV.int .i64 p0.1, HV.int .i64 p0.2.1, slE eFromLabelTo p0.2.2] 0), (10, slE eInt p1), (11, HV.int .i64 ((p1).length : Int)), (12, HV.int .i64 (IntKind.wrap .i64 (a1 + 1)))], []⟩) (AS.le_of ⟨rfl, rfl, rfl, rfl, rfl, trivial⟩ trivial) ⟨IntKind.wrap .i64 (a1 + 1), (), h, rfl⟩
      ·refine AW.rg rfl fun K hK => ?_
       refine mv rfl rfl ?_
       refine bv rfl (v_bin rfl rfl b_gtr) ?_
       refine mv rfl rfl ?_
       by_cases hg15 : 0 < a1
       ·have h := ifT hg15 h
        refine b_T rfl rfl rfl rfl (decide_eq_true hg15) (o_val rfl (mv_val rfl rfl).2 ?_)
        refine b_T rfl rfl rfl rfl rfl (o_val rfl (mv_val rfl rfl).2 ?_)
        refine b_T rfl rfl rfl rfl rfl (o_val rfl (mv_val rfl rfl).2 ?_)
        refine b_T rfl rfl rfl rfl rfl (o_val rfl (v_bin rfl rfl b_sub) ?_)
        obtain ⟨x13, h14, h⟩ := bS h
        refine b_T rfl rfl rfl rfl rfl (o_val rfl (v_idxF ty30 es30 rfl rfl (idx_lt h14)) ?_)
        refine b_T rfl rfl rfl rfl rfl (o_val rfl (v_loadF ty3 rfl (l_cell eInt h14 (o := 0) rfl rfl)) ?_)
        refine b_T rfl rfl rfl rfl rfl (o_val rfl (v_bin rfl rfl b_leq) ?_)
        refine bv rfl (v_pickT rfl rfl rfl) ?_
        refine b_nil (hK _ ?_)
        clear hK K
        exact to_le (s' := ⟨[(1, slE eInt p1), (2, HV.fptr [HV.int .i64 p0.1, HV.int .i64 p0.2.1, slE eFromLabelTo p0.2.2] 0), (10, slE eInt p1), (11, HV.int .i64 ((p1).length : Int)), (12, HV.int .i64 a1), (35, HV.bool (decide (x5 ≤ x13)))], []⟩) (AS.le_of ⟨rfl, rfl, rfl, rfl, rfl, rfl, trivial⟩ trivial) ⟨decide (x5 ≤ x13), (), h, rfl⟩
       ·have h := ifF hg15 h
        refine b_F rfl rfl rfl rfl rfl (decide_eq_false hg15) ?_
        refine b_F rfl rfl rfl rfl rfl rfl ?_
        refine b_F rfl rfl rfl rfl rfl rfl ?_
        refine b_F rfl rfl rfl rfl rfl rfl ?_
        refine b_F rfl rfl rfl rfl rfl rfl ?_
        refine b_F rfl rfl rfl rfl rfl rfl ?_
        refine b_F rfl rfl rfl rfl rfl rfl ?_
        refine bv rfl (v_pickF rfl rfl rfl) ?_
        refine b_nil (hK _ ?_)
        clear hK K
        exact to_le (s' := ⟨[(1, slE eInt p1), (2, HV.fptr [HV.int .i64 p0.1, HV.int .i64 p0.2.1, slE eFromLabelTo p0.2.2] 0), (10, slE eInt p1), (11, HV.int .i64 ((p1).length : Int)), (12, HV.int .i64 a1), (35, HV.bool false)], []⟩) (AS.le_of ⟨rfl, rfl, rfl, rfl, rfl, rfl, trivial⟩ trivial) ⟨false, (), h, rfl⟩
    ·refine AW.rg rfl fun K hK => ?_
     refine mv rfl rfl ?_
     refine bv rfl (v_bin rfl rfl b_lss) ?_
     refine mv rfl rfl ?_
     by_cases hg16 : x5 < 0
     ·have h := ifT hg16 h
      refine b_F rfl rfl rfl rfl rfl (decide_eq_true hg16) ?_
      refine b_F rfl rfl rfl rfl rfl rfl ?_
      refine b_F rfl rfl rfl rfl rfl rfl ?_
      refine b_F rfl rfl rfl rfl rfl rfl ?_
      refine bv rfl (v_pickT rfl rfl rfl) ?_
      refine b_nil (hK _ ?_)
      clear hK K
      exact to_le (s' := ⟨[(1, slE eInt p1), (2, HV.fptr [HV.int .i64 p0.1, HV.int .i64 p0.2.1, slE eFromLabelTo p0.2.2] 0), (5, HV.int .i64 a1), (6, HV.int .i64 x5), (10, slE eInt p1), (11, HV.int .i64 ((p1).length : Int)), (12, HV.int .i64 a1), (24, HV.bool true)], []⟩) (AS.le_of ⟨rfl, rfl, rfl, rfl, rfl, rfl, rfl, rfl, trivial⟩ trivial) ⟨true, (), h, rfl⟩
     ·have h := ifF hg16 h
      refine b_T rfl rfl rfl rfl (decide_eq_false hg16) (o_val rfl (mv_val rfl rfl).2 ?_)
      refine b_T rfl rfl rfl rfl rfl (o_val rfl (v_fieldAddrF fo24_1 rfl) ?_)
      refine b_T rfl rfl rfl rfl rfl (o_val rfl (v_loadF ty3 rfl (l_lit rfl rfl)) ?_)
      refine b_T rfl rfl rfl rfl rfl (o_val rfl (v_bin rfl rfl b_geq) ?_)
      refine bv rfl (v_pickF rfl rfl rfl) ?_
      refine b_nil (hK _ ?_)
      clear hK K
      exact to_le (s' := ⟨[(1, slE eInt p1), (2, HV.fptr [HV.int .i64 p0.1, HV.int .i64 p0.2.1, slE eFromLabelTo p0.2.2] 0), (5, HV.int .i64 a1), (6, HV.int .i64 x5), (10, slE eInt p1), (11, HV.int .i64 ((p1).length : Int)), (12, HV.int .i64 a1), (24, HV.bool (decide (p0.2.1 ≤ x5)))], []⟩) (AS.le_of ⟨rfl, rfl, rfl, rfl, rfl, rfl, rfl, rfl, trivial⟩ trivial) ⟨decide (p0.2.1 ≤ x5), (), h, rfl⟩
   ·have hc := of_decide_eq_false hc
    have h := ifF hc h
    refine AW.exit ?_
    exact to_le (s' := ⟨[], []⟩) (AS.le_of trivial trivial) ⟨(), (), h, rfl⟩

set_option maxHeartbeats 1600000 in
set_option maxRecDepth 100000 in
theorem w_subset_From {p0 : TLabelsStatesEdges} {p1 : List (Int)} {r : TLabelsStatesEdges × (List (List (Int))) × Int} (h : m_subset_From p0 p1 = some r) : Pure Tryd.prog 18 [HV.agg [HV.int .i64 p0.1, HV.int .i64 p0.2.1, slE eFromLabelTo p0.2.2], slE eInt p1] (· = HV.tup [HV.agg [HV.int .i64 r.1.1, HV.int .i64 r.1.2.1, slE eFromLabelTo r.1.2.2], slE (eSl eInt) r.2.1, HV.int .i64 r.2.2]) := by
 unfold m_subset_From at h
 refine Pure.of_body Tryd.func18 rfl rfl (Nat.le_of_ble_eq_true rfl) fun hf => ?_
 unfold Tryd.f18
 dsimp only [enumS, Nat.reduceAdd]
 refine AW.rgs rfl fun K hK => ?_
 refine b_op rfl (o_box rfl rfl rfl ?_)
 refine b_op rfl (o_alloc (fid := 18) (zs := [HV.int .i64 0, HV.int .i64 0, HV.v (.slice none 0 0)]) 18004 rfl rfl ty24 rfl (fun v1 => ?_))
 refine mv rfl rfl ?_
 refine mv rfl rfl ?_
 refine b_fin hK (s' := ⟨[(1, slE eInt p1), (2, HV.fptr [HV.int .i64 p0.1, HV.int .i64 p0.2.1, slE eFromLabelTo p0.2.2] 0), (4, HV.ptr 18004 v1 0)], [(18004, v1, .arr 3 24 [HV.int .i64 0, HV.int .i64 0, HV.v (.slice none 0 0)])]⟩) (le_q rfl rfl) ?_
 clear hK K
 refine AW.seq ?_
 refine AW.rgs rfl fun K hK => ?_
 refine bv rfl (v_loadF ty24 rfl (l_litA rfl (Nat.le_of_ble_eq_true rfl) rfl)) ?_
 obtain ⟨x2, h3, h⟩ := bS h
 refine b_op rfl (o_call rfl rfl rfl rfl (ACallD.pure0 (w_graph_Check h3)) ?_)
 refine bv rfl (v_bin rfl rfl b_neq) ?_
 refine b_fin hK (s' := ⟨[(1, slE eInt p1), (2, HV.fptr [HV.int .i64 p0.1, HV.int .i64 p0.2.1, slE eFromLabelTo p0.2.2] 0), (4, HV.ptr 18004 v1 0), (10, HV.bool (decide (x2 ≠ 0)))], [(18004, v1, .arr 3 24 [HV.int .i64 0, HV.int .i64 0, HV.v (.slice none 0 0)])]⟩) (le_q rfl rfl) ?_
 clear hK K
 refine AW.cond rfl (fun hc => ?_) (fun hc => ?_)
 ·have hc := of_decide_eq_true hc
  have h := ifT hc h
  refine AW.rgs rfl fun K hK => ?_
  refine b_op rfl (o_build (cs := [HV.int .i64 0, HV.int .i64 0, HV.v (.slice none 0 0)]) rfl (bl_of ty24 rfl rfl rfl rfl) ?_)
  refine b_op rfl (o_store (cs := [HV.int .i64 0, HV.int .i64 0, HV.v (.slice none 0 0)]) (zs := [HV.int .i64 0, HV.int .i64 0, HV.v (.slice none 0 0)]) rfl rfl rfl ty24 rfl rfl rfl rfl rfl ?_)
  refine mv rfl rfl ?_
  refine mv rfl rfl ?_
  refine b_fin hK (s' := ⟨[(4, HV.ptr 18004 v1 0), (5, HV.v (.slice none 0 0)), (6, HV.int .i64 1)], [(18004, v1, .arr 3 24 [HV.int .i64 0, HV.int .i64 0, HV.v (.slice none 0 0)])]⟩) (le_q rfl rfl) ?_
  clear hK K
  refine AW.to (to_weak ⟨[(4, HV.ptr 18004 v1 0), (5, slE (eSl eInt) ([] : List (List (Int)))), (6, HV.int .i64 1)], [(18004, v1, .arr 3 24 [HV.int .i64 0, HV.int .i64 0, HV.v (.slice none 0 0)])]⟩ ⟨⟨_, rfl, .refl _⟩, ⟨_, rfl, .nil _⟩, ⟨_, rfl, .refl _⟩, trivial⟩ ⟨rfl, trivial⟩ ?_)
  refine AW.to (to_cells 18004 v1 (ds := [HV.int .i64 0, HV.int .i64 0, slE eFromLabelTo ([] : List TFromLabelTo)]) rfl (.cons (.refl _) <| .cons (.refl _) <| .cons (.nil _) <| .nil) ?_)
  refine AW.ret ?_
  have h := Option.some.inj h
  subst h
  exact ret_pure (hs := [HV.agg [HV.int .i64 0, HV.int .i64 0, slE eFromLabelTo ([] : List TFromLabelTo)], slE (eSl eInt) ([] : List (List (Int))), HV.int .i64 1]) (q := HV.tup [HV.agg [HV.int .i64 0, HV.int .i64 0, slE eFromLabelTo ([] : List TFromLabelTo)], slE (eSl eInt) ([] : List (List (Int))), HV.int .i64 1]) (.inr rfl) (resP ty24 rfl rfl (l_litA rfl (Nat.le_of_ble_eq_true rfl) rfl) (resT rfl (resT rfl rfl))) rfl ⟨⟨trivial, trivial, (clean_slE fun _ _ => ⟨trivial, trivial, trivial, trivial⟩), trivial⟩, (clean_slE fun _ _ => ⟨(clean_slE fun _ _ => ⟨trivial, trivial⟩), trivial⟩), trivial, trivial⟩
 ·have hc := of_decide_eq_false hc
  have h := ifF hc h
  refine AW.skip ?_
  refine AW.seq ?_
  refine AW.rgs rfl fun K hK => ?_
  refine bv rfl (v_loadF ty24 rfl (l_litA rfl (Nat.le_of_ble_eq_true rfl) rfl)) ?_
  refine mv rfl rfl ?_
  obtain ⟨x4, h5, h⟩ := bS h
  refine b_op rfl (o_call rfl rfl rfl rfl (ACallD.pure0 (w_subset_check h5)) ?_)
  refine mv rfl rfl ?_
  refine b_fin hK (s' := ⟨[(1, slE eInt p1), (2, HV.fptr [HV.int .i64 p0.1, HV.int .i64 p0.2.1, slE eFromLabelTo p0.2.2] 0), (4, HV.ptr 18004 v1 0), (7, HV.int .i64 x4)], [(18004, v1, .arr 3 24 [HV.int .i64 0, HV.int .i64 0, HV.v (.slice none 0 0)])]⟩) (le_q rfl rfl) ?_
  clear hK K
  refine AW.rgs rfl fun K hK => ?_
  refine mv rfl rfl ?_
  refine bv rfl (v_bin rfl rfl b_neq) ?_
  refine b_fin hK (s' := ⟨[(1, slE eInt p1), (2, HV.fptr [HV.int .i64 p0.1, HV.int .i64 p0.2.1, slE eFromLabelTo p0.2.2] 0), (4, HV.ptr 18004 v1 0), (7, HV.int .i64 x4), (16, HV.bool (decide (x4 ≠ 0)))], [(18004, v1, .arr 3 24 [HV.int .i64 0, HV.int .i64 0, HV.v (.slice none 0 0)])]⟩) (le_q rfl rfl) ?_
  clear hK K
  refine AW.cond rfl (fun hc => ?_) (fun hc => ?_)
  ·have hc := of_decide_eq_true hc
   have h := ifT hc h
   refine AW.rgs rfl fun K hK => ?_
   refine b_op rfl (o_build (cs := [HV.int .i64 0, HV.int .i64 0, HV.v (.slice none 0 0)]) rfl (bl_of ty24 rfl rfl rfl rfl) ?_)
   refine mv rfl rfl ?_
   refine b_op rfl (o_store (cs := [HV.int .i64 0, HV.int .i64 0, HV.v (.slice none 0 0)]) (zs := [HV.int .i64 0, HV.int .i64 0, HV.v (.slice none 0 0)]) rfl rfl rfl ty24 rfl rfl rfl rfl rfl ?_)
   refine mv rfl rfl ?_
   refine mv rfl rfl ?_
   refine b_fin hK (s' := ⟨[(4, HV.ptr 18004 v1 0), (5, HV.v (.slice none 0 0)), (6, HV.int .i64 x4)], [(18004, v1, .arr 3 24 [HV.int .i64 0, HV.int .i64 0, HV.v (.slice none 0 0)])]⟩) (le_q rfl rfl) ?_
   clear hK K
   refine AW.to (to_weak ⟨[(4, HV.ptr 18004 v1 0), (5, slE (eSl eInt) ([] : List (List (Int)))), (6, HV.int .i64 x4)], [(18004, v1, .arr 3 24 [HV.int .i64 0, HV.int .i64 0, HV.v (.slice none 0 0)])]⟩ ⟨⟨_, rfl, .refl _⟩, ⟨_, rfl, .nil _⟩, ⟨_, rfl, .refl _⟩, trivial⟩ ⟨rfl, trivial⟩ ?_)
   refine AW.to (to_cells 18004 v1 (ds := [HV.int .i64 0, HV.int .i64 0, slE eFromLabelTo ([] : List TFromLabelTo)]) rfl (.cons (.refl _) <| .cons (.refl _) <| .cons (.nil _) <| .nil) ?_)
   refine AW.ret ?_
   have h := Option.some.inj h
   subst h
   exact ret_pure (hs := [HV.agg [HV.int .i64 0, HV.int .i64 0, slE eFromLabelTo ([] : List TFromLabelTo)], slE (eSl eInt) ([] : List (List (Int))), HV.int .i64 x4]) (q := HV.tup [HV.agg [HV.int .i64 0, HV.int .i64 0, slE eFromLabelTo ([] : List TFromLabelTo)], slE (eSl eInt) ([] : List (List (Int))), HV.int .i64 x4]) (.inr rfl) (resP ty24 rfl rfl (l_litA rfl (Nat.le_of_ble_eq_true rfl) rfl) (resT rfl (resT rfl rfl))) rfl ⟨⟨trivial, trivial, (clean_slE fun _ _ => ⟨trivial, trivial, trivial, trivial⟩), trivial⟩, (clean_slE fun _ _ => ⟨(clean_slE fun _ _ => ⟨trivial, trivial⟩), trivial⟩), trivial, trivial⟩
  ·have hc := of_decide_eq_false hc
   have h := ifF hc h
   refine AW.skip ?_
   refine AW.rgs rfl fun K hK => ?_
   refine bv rfl (v_loadF ty24 rfl (l_litA rfl (Nat.le_of_ble_eq_true rfl) rfl)) ?_
   refine mv rfl rfl ?_
   obtain ⟨x6, h7, h⟩ := bS h
   refine b_op rfl (o_call rfl rfl rfl rfl (ACallD.pure0 (w_subset_build h7)) ?_)
   refine bv rfl (v_extract rfl rfl) ?_
   refine bv rfl (v_extract rfl rfl) ?_
   refine bv rfl (v_extract rfl rfl) ?_
   refine b_op rfl (o_store (cs := [HV.int .i64 x6.1.1, HV.int .i64 x6.1.2.1, slE eFromLabelTo x6.1.2.2]) (zs := [HV.int .i64 x6.1.1, HV.int .i64 x6.1.2.1, slE eFromLabelTo x6.1.2.2]) rfl rfl rfl ty24 rfl rfl rfl rfl rfl ?_)
   refine mv rfl rfl ?_
   refine mv rfl rfl ?_
   refine b_fin hK (s' := ⟨[(4, HV.ptr 18004 v1 0), (5, slE (eSl eInt) x6.2.1), (6, HV.int .i64 x6.2.2)], [(18004, v1, .arr 3 24 [HV.int .i64 x6.1.1, HV.int .i64 x6.1.2.1, slE eFromLabelTo x6.1.2.2])]⟩) (le_q rfl rfl) ?_
   clear hK K
   refine AW.ret ?_
   have h := Option.some.inj h
   subst h
   exact ret_pure (hs := [HV.agg [HV.int .i64 x6.1.1, HV.int .i64 x6.1.2.1, slE eFromLabelTo x6.1.2.2], slE (eSl eInt) x6.2.1, HV.int .i64 x6.2.2]) (q := HV.tup [HV.agg [HV.int .i64 x6.1.1, HV.int .i64 x6.1.2.1, slE eFromLabelTo x6.1.2.2], slE (eSl eInt) x6.2.1, HV.int .i64 x6.2.2]) (.inr rfl) (resP ty24 rfl rfl (l_litA rfl (Nat.le_of_ble_eq_true rfl) rfl) (resT rfl (resT rfl rfl))) rfl ⟨⟨trivial, trivial, (clean_slE fun _ _ => ⟨trivial, trivial, trivial, trivial⟩), trivial⟩, (clean_slE fun _ _ => ⟨(clean_slE fun _ _ => ⟨trivial, trivial⟩), trivial⟩), trivial, trivial⟩

end Go.AW

namespace Go.AW
open Go Go.Proofs
set_option linter.unusedVariables false
set_option maxHeartbeats 1600000 in
set_option maxRecDepth 100000 in
theorem w_graph_Deterministic {p0 : TLabelsStatesEdges} {r : Bool × Int} (h : m_graph_Deterministic p0 = some r) : Pure Tryd.prog 22 [HV.agg [HV.int .i64 p0.1, HV.int .i64 p0.2.1, slE eFromLabelTo p0.2.2]] (· = HV.tup [HV.bool r.1, HV.int .i64 r.2]) := by
 unfold m_graph_Deterministic at h
 refine Pure.of_body Tryd.func22 rfl rfl (Nat.le_of_ble_eq_true rfl) fun hf => ?_
 unfold Tryd.f22
 dsimp only [enumS, Nat.reduceAdd]
 refine AW.rgs rfl fun K hK => ?_
 refine b_op rfl (o_box rfl rfl rfl ?_)
 refine mv rfl rfl ?_
 refine mv rfl rfl ?_
 refine b_fin hK (s' := ⟨[(1, HV.fptr [HV.int .i64 p0.1, HV.int .i64 p0.2.1, slE eFromLabelTo p0.2.2] 0)], []⟩) (le_q rfl rfl) ?_
 clear hK K
 refine AW.seq ?_
 refine AW.rgs rfl fun K hK => ?_
 refine bv rfl (v_loadF ty24 rfl (l_litA rfl (Nat.le_of_ble_eq_true rfl) rfl)) ?_
 obtain ⟨x1, h2, h⟩ := bS h
 refine b_op rfl (o_call rfl rfl rfl rfl (ACallD.pure0 (w_graph_Check h2)) ?_)
 refine bv rfl (v_bin rfl rfl b_neq) ?_
 refine b_fin hK (s' := ⟨[(1, HV.fptr [HV.int .i64 p0.1, HV.int .i64 p0.2.1, slE eFromLabelTo p0.2.2] 0), (9, HV.bool (decide (x1 ≠ 0)))], []⟩) (le_q rfl rfl) ?_
 clear hK K
 refine AW.cond rfl (fun hc => ?_) (fun hc => ?_)
 ·have hc := of_decide_eq_true hc
  have h := ifT hc h
  refine AW.rgs rfl fun K hK => ?_
  refine mv rfl rfl ?_
  refine mv rfl rfl ?_
  refine b_fin hK (s' := ⟨[(2, HV.bool false), (3, HV.int .i64 1)], []⟩) (le_q rfl rfl) ?_
  clear hK K
  refine AW.ret ?_
  have h := Option.some.inj h
  subst h
  exact ret_pure (hs := [HV.bool false, HV.int .i64 1]) (q := HV.tup [HV.bool false, HV.int .i64 1]) (.inr rfl) (resT rfl (resT rfl rfl)) rfl ⟨trivial, trivial, trivial⟩
 ·have hc := of_decide_eq_false hc
  have h := ifF hc h
  refine AW.skip ?_
  refine AW.seq ?_
  refine AW.rgs rfl fun K hK => ?_
  refine mv rfl rfl ?_
  refine b_fin hK (s' := ⟨[(1, HV.fptr [HV.int .i64 p0.1, HV.int .i64 p0.2.1, slE eFromLabelTo p0.2.2] 0), (4, HV.int .i64 1)], []⟩) (le_q rfl rfl) ?_
  clear hK K
  refine AW.lpR h (by first | exact up_then | exact up_to) (S := Int) (V := Unit) (fun a v => ⟨[(1, HV.fptr [HV.int .i64 p0.1, HV.int .i64 p0.2.1, slE eFromLabelTo p0.2.2] 0), (4, HV.int .i64 a)], []⟩) ?_ (X := Unit) (W := Unit) (fun a v => ⟨[], []⟩) (fun a12 w13 h => ?_) (fun a3 w4 st5 h hr6=> ?_)
  ·exact to_le (s' := ⟨[(1, HV.fptr [HV.int .i64 p0.1, HV.int .i64 p0.2.1, slE eFromLabelTo p0.2.2] 0), (4, HV.int .i64 1)], []⟩) (AS.le_of ⟨rfl, rfl, trivial⟩ trivial) ⟨(), rfl⟩
  ·refine AW.rgs rfl fun K hK => ?_
   refine mv rfl rfl ?_
   refine mv rfl rfl ?_
   refine b_fin hK (s' := ⟨[(2, HV.bool true), (3, HV.int .i64 0)], []⟩) (le_q rfl rfl) ?_
   clear hK K
   refine AW.ret ?_
   have h := Option.some.inj h
   subst h
   exact ret_pure (hs := [HV.bool true, HV.int .i64 0]) (q := HV.tup [HV.bool true, HV.int .i64 0]) (.inr rfl) (resT rfl (resT rfl rfl)) rfl ⟨trivial, trivial, trivial⟩
  ·refine AW.seq ?_
   refine AW.rgs rfl fun K hK => ?_
   refine mv rfl rfl ?_
   refine bv rfl (v_fieldAddrF fo24_2 rfl) ?_
   refine bv rfl (v_loadF ty22 rfl (l_lit rfl rfl)) ?_
   refine bv rfl (v_lenF rfl rfl ty22 rfl) ?_
   refine bv rfl (v_bin rfl rfl b_lss) ?_
   refine b_fin hK (s' := ⟨[(1, HV.fptr [HV.int .i64 p0.1, HV.int .i64 p0.2.1, slE eFromLabelTo p0.2.2] 0), (4, HV.int .i64 a3), (14, HV.bool (decide (a3 < ((p0.2.2).length : Int))))], []⟩) (le_q rfl rfl) ?_
   clear hK K
   refine AW.cond rfl (fun hc => ?_) (fun hc => ?_)
   ·have hc := of_decide_eq_true hc
    have h := ifT hc h
    refine AW.skip ?_
    refine AW.seq (AW.block ?_)
    refine AW.dls follows fun K hK F hF => ?_
    obtain ⟨x70401, h70402, h⟩ := bS h
    obtain ⟨x70901, h70902, h⟩ := bS h
    refine l_go (L' := []) hF rfl (s' := ⟨[(1, HV.fptr [HV.int .i64 p0.1, HV.int .i64 p0.2.1, slE eFromLabelTo p0.2.2] 0), (4, HV.int .i64 a3)], []⟩) ?_ (le_q rfl rfl)
    have g7_27 : ∀ (v71101 : Nat) (v71201 : Nat), F [0, 1, 2, 3, 4, 5, 6, 7, 8, 9, 10, 11, 12, 13, 14] ⟨[(1, HV.fptr [HV.int .i64 p0.1, HV.int .i64 p0.2.1, slE eFromLabelTo p0.2.2] 0), (4, HV.int .i64 a3), (5, HV.ptr 22005 v71101 0), (6, HV.ptr 22006 v71201 0)], [(22005, v71101, .arr 3 49 [HV.int .i64 x70401.1, HV.int .i64 x70401.2.1, HV.int .i64 x70401.2.2]), (22006, v71201, .arr 3 49 [HV.int .i64 x70901.1, HV.int .i64 x70901.2.1, HV.int .i64 x70901.2.2])]⟩ := by
     intro v71101 v71201
     refine l_done hF rfl rfl (hK _ (AW.to (to_le (s' := ⟨[(1, HV.fptr [HV.int .i64 p0.1, HV.int .i64 p0.2.1, slE eFromLabelTo p0.2.2] 0), (4, HV.int .i64 a3), (5, HV.ptr 22005 v71101 0), (6, HV.ptr 22006 v71201 0)], [(22005, v71101, .arr 3 49 [HV.int .i64 x70401.1, HV.int .i64 x70401.2.1, HV.int .i64 x70401.2.2]), (22006, v71201, .arr 3 49 [HV.int .i64 x70901.1, HV.int .i64 x70901.2.1, HV.int .i64 x70901.2.2])]⟩) (le_q rfl rfl) ?_)))
     first | clear hF F hK K | clear hK K
     refine AW.seqJ h (S := Bool) (V := Unit) (fun a v => ⟨[(1, HV.fptr [HV.int .i64 p0.1, HV.int .i64 p0.2.1, slE eFromLabelTo p0.2.2] 0), (4, HV.int .i64 a3), (39, HV.bool a)], []⟩) (fun a8 w9 h => ?_) (fun k10 h => ?_)
     ·refine AW.cond rfl (fun hc => ?_) (fun hc => ?_)
      ·have h := ifT hc h
       refine AW.rgs rfl fun K hK => ?_
       refine mv rfl rfl ?_
       refine mv rfl rfl ?_
       refine b_fin hK (s' := ⟨[(2, HV.bool false), (3, HV.int .i64 0)], []⟩) (le_q rfl rfl) ?_
       first | clear hF F hK K | clear hK K
       have h := hr6 _ h
       refine AW.ret ?_
       have h := Option.some.inj h
       subst h
       exact ret_pure (hs := [HV.bool false, HV.int .i64 0]) (q := HV.tup [HV.bool false, HV.int .i64 0]) (.inr rfl) (resT rfl (resT rfl rfl)) rfl ⟨trivial, trivial, trivial⟩
      ·have h := ifF (bF' hc) h
       refine AW.skip ?_
       refine AW.rg rfl fun K hK => ?_
       refine mv rfl rfl ?_
       refine bv rfl (v_bin rfl rfl b_add) ?_
       refine mv rfl rfl ?_
       refine b_nil (hK _ ?_)
       first | clear hF F hK K | clear hK K
       exact to_le (s' := ⟨[(1, HV.fptr [HV.int .i64 p0.1, HV.int .i64 p0.2.1, slE eFromLabelTo p0.2.2] 0), (4, HV.int .i64 (IntKind.wrap .i64 (a3 + 1)))], []⟩) (AS.le_of ⟨rfl, rfl, trivial⟩ trivial) ⟨IntKind.wrap .i64 (a3 + 1), (), h, rfl⟩
     ·refine AW.rg rfl fun K hK => ?_
      refine bv rfl (v_fieldAddrP fo49_0 rfl rfl) ?_
      refine bv rfl (v_loadP ty3 rfl rfl (l_lit rfl rfl)) ?_
      refine bv rfl (v_fieldAddrP fo49_0 rfl rfl) ?_
      refine bv rfl (v_loadP ty3 rfl rfl (l_lit rfl rfl)) ?_
      refine bv rfl (v_bin rfl rfl b_eql) ?_
      refine mv rfl rfl ?_
      by_cases hg11 : x70401.1 = x70901.1
      ·have h := ifT hg11 h
       refine b_T rfl rfl rfl rfl (decide_eq_true hg11) (o_val rfl (v_fieldAddrP fo49_1 rfl rfl) ?_)
       refine b_T rfl rfl rfl rfl rfl (o_val rfl (v_loadP ty3 rfl rfl (l_lit rfl rfl)) ?_)
       refine b_T rfl rfl rfl rfl rfl (o_val rfl (v_fieldAddrP fo49_1 rfl rfl) ?_)
       refine b_T rfl rfl rfl rfl rfl (o_val rfl (v_loadP ty3 rfl rfl (l_lit rfl rfl)) ?_)
       refine b_T rfl rfl rfl rfl rfl (o_val rfl (v_bin rfl rfl b_eql) ?_)
       refine bv rfl (v_pickT rfl rfl rfl) ?_
       refine b_nil (hK _ ?_)
       first | clear hF F hK K | clear hK K
       exact to_le (s' := ⟨[(1, HV.fptr [HV.int .i64 p0.1, HV.int .i64 p0.2.1, slE eFromLabelTo p0.2.2] 0), (4, HV.int .i64 a3), (39, HV.bool (decide (x70401.2.1 = x70901.2.1)))], []⟩) (AS.le_of ⟨rfl, rfl, rfl, trivial⟩ trivial) ⟨decide (x70401.2.1 = x70901.2.1), (), h, rfl⟩
      ·have h := ifF hg11 h
       refine b_F rfl rfl rfl rfl rfl (decide_eq_false hg11) ?_
       refine b_F rfl rfl rfl rfl rfl rfl ?_
       refine b_F rfl rfl rfl rfl rfl rfl ?_
       refine b_F rfl rfl rfl rfl rfl rfl ?_
       refine b_F rfl rfl rfl rfl rfl rfl ?_
       refine bv rfl (v_pickF rfl rfl rfl) ?_
       refine b_nil (hK _ ?_)
       first | clear hF F hK K | clear hK K
       exact to_le (s' := ⟨[(1, HV.fptr [HV.int .i64 p0.1, HV.int .i64 p0.2.1, slE eFromLabelTo p0.2.2] 0), (4, HV.int .i64 a3), (39, HV.bool false)], []⟩) (AS.le_of ⟨rfl, rfl, rfl, trivial⟩ trivial) ⟨false, (), h, rfl⟩
    have g7_26 : ∀ (v71101 : Nat) (v71201 : Nat), F [0, 1, 2, 3, 4, 5, 6, 7, 8, 9, 10, 11, 12, 13] ⟨[(1, HV.fptr [HV.int .i64 p0.1, HV.int .i64 p0.2.1, slE eFromLabelTo p0.2.2] 0), (4, HV.int .i64 a3), (5, HV.ptr 22005 v71101 0), (6, HV.ptr 22006 v71201 0), (27, HV.agg [HV.int .i64 x70901.1, HV.int .i64 x70901.2.1, HV.int .i64 x70901.2.2])], [(22005, v71101, .arr 3 49 [HV.int .i64 x70401.1, HV.int .i64 x70401.2.1, HV.int .i64 x70401.2.2]), (22006, v71201, .arr 3 49 [HV.int .i64 0, HV.int .i64 0, HV.int .i64 0])]⟩ := by
     intro v71101 v71201
     refine l_step hF rfl [14] rfl rfl ⟨?_, trivial⟩
     ·refine l_op rfl rfl rfl (o_store (cs := [HV.int .i64 x70901.1, HV.int .i64 x70901.2.1, HV.int .i64 x70901.2.2]) (zs := [HV.int .i64 x70901.1, HV.int .i64 x70901.2.1, HV.int .i64 x70901.2.2]) rfl rfl rfl ty49 rfl rfl rfl rfl rfl ?_)
      exact b_nil (l_go hF rfl (g7_27 v71101 v71201) (le_q rfl rfl))
    have g7_25 : ∀ (v71101 : Nat) (v71201 : Nat), F [0, 1, 2, 3, 4, 5, 6, 7, 8, 9, 10, 11, 12] ⟨[(1, HV.fptr [HV.int .i64 p0.1, HV.int .i64 p0.2.1, slE eFromLabelTo p0.2.2] 0), (4, HV.int .i64 a3), (5, HV.ptr 22005 v71101 0), (6, HV.ptr 22006 v71201 0), (22, HV.agg [HV.int .i64 x70401.1, HV.int .i64 x70401.2.1, HV.int .i64 x70401.2.2]), (27, HV.agg [HV.int .i64 x70901.1, HV.int .i64 x70901.2.1, HV.int .i64 x70901.2.2])], [(22005, v71101, .arr 3 49 [HV.int .i64 0, HV.int .i64 0, HV.int .i64 0]), (22006, v71201, .arr 3 49 [HV.int .i64 0, HV.int .i64 0, HV.int .i64 0])]⟩ := by
     intro v71101 v71201
     refine l_step hF rfl [13] rfl rfl ⟨?_, trivial⟩
     ·refine l_op rfl rfl rfl (o_store (cs := [HV.int .i64 x70401.1, HV.int .i64 x70401.2.1, HV.int .i64 x70401.2.2]) (zs := [HV.int .i64 x70401.1, HV.int .i64 x70401.2.1, HV.int .i64 x70401.2.2]) rfl rfl rfl ty49 rfl rfl rfl rfl rfl ?_)
      exact b_nil (l_go hF rfl (g7_26 v71101 v71201) (le_q rfl rfl))
    have g7_31 : ∀ (v71101 : Nat) (v71201 : Nat), F [0, 1, 2, 3, 4, 5, 6, 7, 8, 9, 11, 12, 13] ⟨[(1, HV.fptr [HV.int .i64 p0.1, HV.int .i64 p0.2.1, slE eFromLabelTo p0.2.2] 0), (4, HV.int .i64 a3), (5, HV.ptr 22005 v71101 0), (6, HV.ptr 22006 v71201 0), (26, HV.fptr (eFromLabelTo.E p0.2.2) ((a3).toNat * eFromLabelTo.k))], [(22005, v71101, .arr 3 49 [HV.int .i64 x70401.1, HV.int .i64 x70401.2.1, HV.int .i64 x70401.2.2]), (22006, v71201, .arr 3 49 [HV.int .i64 0, HV.int .i64 0, HV.int .i64 0])]⟩ := by
     intro v71101 v71201
     refine l_step hF rfl [10] rfl rfl ⟨?_, trivial⟩
     ·refine l_op rfl rfl rfl (o_val rfl (v_loadF ty49 rfl (l_agg eFromLabelTo h70902 rfl rfl)) ?_)
      exact b_nil (l_go hF rfl (g7_26 v71101 v71201) (le_q rfl rfl))
    have g7_24 : ∀ (v71101 : Nat) (v71201 : Nat), F [0, 1, 2, 3, 4, 6, 7, 8, 9, 10, 11, 12] ⟨[(1, HV.fptr [HV.int .i64 p0.1, HV.int .i64 p0.2.1, slE eFromLabelTo p0.2.2] 0), (4, HV.int .i64 a3), (5, HV.ptr 22005 v71101 0), (6, HV.ptr 22006 v71201 0), (21, HV.fptr (eFromLabelTo.E p0.2.2) ((IntKind.wrap .i64 (a3 - 1)).toNat * eFromLabelTo.k)), (27, HV.agg [HV.int .i64 x70901.1, HV.int .i64 x70901.2.1, HV.int .i64 x70901.2.2])], [(22005, v71101, .arr 3 49 [HV.int .i64 0, HV.int .i64 0, HV.int .i64 0]), (22006, v71201, .arr 3 49 [HV.int .i64 0, HV.int .i64 0, HV.int .i64 0])]⟩ := by
     intro v71101 v71201
     refine l_step hF rfl [5] rfl rfl ⟨?_, trivial⟩
     ·refine l_op rfl rfl rfl (o_val rfl (v_loadF ty49 rfl (l_agg eFromLabelTo h70402 rfl rfl)) ?_)
      exact b_nil (l_go hF rfl (g7_25 v71101 v71201) (le_q rfl rfl))
    have g7_30 : ∀ (v71101 : Nat) (v71201 : Nat), F [0, 1, 2, 3, 4, 5, 6, 7, 8, 9, 11, 12] ⟨[(1, HV.fptr [HV.int .i64 p0.1, HV.int .i64 p0.2.1, slE eFromLabelTo p0.2.2] 0), (4, HV.int .i64 a3), (5, HV.ptr 22005 v71101 0), (6, HV.ptr 22006 v71201 0), (22, HV.agg [HV.int .i64 x70401.1, HV.int .i64 x70401.2.1, HV.int .i64 x70401.2.2]), (26, HV.fptr (eFromLabelTo.E p0.2.2) ((a3).toNat * eFromLabelTo.k))], [(22005, v71101, .arr 3 49 [HV.int .i64 0, HV.int .i64 0, HV.int .i64 0]), (22006, v71201, .arr 3 49 [HV.int .i64 0, HV.int .i64 0, HV.int .i64 0])]⟩ := by
     intro v71101 v71201
     refine l_step hF rfl [10, 13] rfl rfl ⟨?_, ?_, trivial⟩
     ·refine l_op rfl rfl rfl (o_val rfl (v_loadF ty49 rfl (l_agg eFromLabelTo h70902 rfl rfl)) ?_)
      exact b_nil (l_go hF rfl (g7_25 v71101 v71201) (le_q rfl rfl))
     ·refine l_op rfl rfl rfl (o_store (cs := [HV.int .i64 x70401.1, HV.int .i64 x70401.2.1, HV.int .i64 x70401.2.2]) (zs := [HV.int .i64 x70401.1, HV.int .i64 x70401.2.1, HV.int .i64 x70401.2.2]) rfl rfl rfl ty49 rfl rfl rfl rfl rfl ?_)
      exact b_nil (l_go hF rfl (g7_31 v71101 v71201) (le_q rfl rfl))
    have g7_39 : ∀ (v71101 : Nat) (v71201 : Nat), F [0, 1, 2, 3, 4, 5, 6, 7, 8, 11, 12, 13] ⟨[(1, HV.fptr [HV.int .i64 p0.1, HV.int .i64 p0.2.1, slE eFromLabelTo p0.2.2] 0), (4, HV.int .i64 a3), (5, HV.ptr 22005 v71101 0), (6, HV.ptr 22006 v71201 0), (24, slE eFromLabelTo p0.2.2), (25, HV.int .i64 a3)], [(22005, v71101, .arr 3 49 [HV.int .i64 x70401.1, HV.int .i64 x70401.2.1, HV.int .i64 x70401.2.2]), (22006, v71201, .arr 3 49 [HV.int .i64 0, HV.int .i64 0, HV.int .i64 0])]⟩ := by
     intro v71101 v71201
     refine l_take (i := 9) hF rfl rfl rfl (v_idxF ty22 es22 rfl rfl (idx_lt h70902)) ?_
     exact l_go hF rfl (g7_31 v71101 v71201) (le_q rfl rfl)
    have g7_49 : ∀ (v71201 : Nat), F [0, 1, 2, 3, 4, 5, 6, 7, 8, 9, 10, 12] ⟨[(1, HV.fptr [HV.int .i64 p0.1, HV.int .i64 p0.2.1, slE eFromLabelTo p0.2.2] 0), (4, HV.int .i64 a3), (6, HV.ptr 22006 v71201 0), (22, HV.agg [HV.int .i64 x70401.1, HV.int .i64 x70401.2.1, HV.int .i64 x70401.2.2]), (27, HV.agg [HV.int .i64 x70901.1, HV.int .i64 x70901.2.1, HV.int .i64 x70901.2.2])], [(22006, v71201, .arr 3 49 [HV.int .i64 0, HV.int .i64 0, HV.int .i64 0])]⟩ := by
     intro v71201
     refine l_step hF rfl [11] rfl rfl ⟨?_, trivial⟩
     ·refine l_op rfl rfl rfl (o_alloc (fid := 22) (zs := [HV.int .i64 0, HV.int .i64 0, HV.int .i64 0]) 22005 rfl rfl ty49 rfl (fun v71101 => ?_))
      exact b_nil (l_go hF rfl (g7_25 v71101 v71201) (le_q rfl rfl))
    have g7_71 : ∀ (v71101 : Nat), F [0, 1, 2, 3, 4, 5, 6, 7, 8, 9, 10, 11] ⟨[(1, HV.fptr [HV.int .i64 p0.1, HV.int .i64 p0.2.1, slE eFromLabelTo p0.2.2] 0), (4, HV.int .i64 a3), (5, HV.ptr 22005 v71101 0), (22, HV.agg [HV.int .i64 x70401.1, HV.int .i64 x70401.2.1, HV.int .i64 x70401.2.2]), (27, HV.agg [HV.int .i64 x70901.1, HV.int .i64 x70901.2.1, HV.int .i64 x70901.2.2])], [(22005, v71101, .arr 3 49 [HV.int .i64 0, HV.int .i64 0, HV.int .i64 0])]⟩ := by
     intro v71101
     refine l_step hF rfl [12] rfl rfl ⟨?_, trivial⟩
     ·refine l_op rfl rfl rfl (o_alloc (fid := 22) (zs := [HV.int .i64 0, HV.int .i64 0, HV.int .i64 0]) 22006 rfl rfl ty49 rfl (fun v71201 => ?_))
      exact b_nil (l_go hF rfl (g7_25 v71101 v71201) (le_q rfl rfl))
    have g7_23 : ∀ (v71101 : Nat) (v71201 : Nat), F [0, 1, 2, 3, 6, 7, 8, 9, 10, 11, 12] ⟨[(1, HV.fptr [HV.int .i64 p0.1, HV.int .i64 p0.2.1, slE eFromLabelTo p0.2.2] 0), (4, HV.int .i64 a3), (5, HV.ptr 22005 v71101 0), (6, HV.ptr 22006 v71201 0), (18, slE eFromLabelTo p0.2.2), (20, HV.int .i64 (IntKind.wrap .i64 (a3 - 1))), (27, HV.agg [HV.int .i64 x70901.1, HV.int .i64 x70901.2.1, HV.int .i64 x70901.2.2])], [(22005, v71101, .arr 3 49 [HV.int .i64 0, HV.int .i64 0, HV.int .i64 0]), (22006, v71201, .arr 3 49 [HV.int .i64 0, HV.int .i64 0, HV.int .i64 0])]⟩ := by
     intro v71101 v71201
     refine l_take (i := 4) hF rfl rfl rfl (v_idxF ty22 es22 rfl rfl (idx_lt h70402)) ?_
     exact l_go hF rfl (g7_24 v71101 v71201) (le_q rfl rfl)
    have g7_29 : ∀ (v71101 : Nat) (v71201 : Nat), F [0, 1, 2, 3, 4, 6, 7, 8, 9, 11, 12] ⟨[(1, HV.fptr [HV.int .i64 p0.1, HV.int .i64 p0.2.1, slE eFromLabelTo p0.2.2] 0), (4, HV.int .i64 a3), (5, HV.ptr 22005 v71101 0), (6, HV.ptr 22006 v71201 0), (21, HV.fptr (eFromLabelTo.E p0.2.2) ((IntKind.wrap .i64 (a3 - 1)).toNat * eFromLabelTo.k)), (26, HV.fptr (eFromLabelTo.E p0.2.2) ((a3).toNat * eFromLabelTo.k))], [(22005, v71101, .arr 3 49 [HV.int .i64 0, HV.int .i64 0, HV.int .i64 0]), (22006, v71201, .arr 3 49 [HV.int .i64 0, HV.int .i64 0, HV.int .i64 0])]⟩ := by
     intro v71101 v71201
     refine l_step hF rfl [5, 10] rfl rfl ⟨?_, ?_, trivial⟩
     ·refine l_op rfl rfl rfl (o_val rfl (v_loadF ty49 rfl (l_agg eFromLabelTo h70402 rfl rfl)) ?_)
      exact b_nil (l_go hF rfl (g7_30 v71101 v71201) (le_q rfl rfl))
     ·refine l_op rfl rfl rfl (o_val rfl (v_loadF ty49 rfl (l_agg eFromLabelTo h70902 rfl rfl)) ?_)
      exact b_nil (l_go hF rfl (g7_24 v71101 v71201) (le_q rfl rfl))
    have g7_37 : ∀ (v71101 : Nat) (v71201 : Nat), F [0, 1, 2, 3, 4, 5, 6, 7, 8, 11, 12] ⟨[(1, HV.fptr [HV.int .i64 p0.1, HV.int .i64 p0.2.1, slE eFromLabelTo p0.2.2] 0), (4, HV.int .i64 a3), (5, HV.ptr 22005 v71101 0), (6, HV.ptr 22006 v71201 0), (22, HV.agg [HV.int .i64 x70401.1, HV.int .i64 x70401.2.1, HV.int .i64 x70401.2.2]), (24, slE eFromLabelTo p0.2.2), (25, HV.int .i64 a3)], [(22005, v71101, .arr 3 49 [HV.int .i64 0, HV.int .i64 0, HV.int .i64 0]), (22006, v71201, .arr 3 49 [HV.int .i64 0, HV.int .i64 0, HV.int .i64 0])]⟩ := by
     intro v71101 v71201
     refine l_take (i := 9) hF rfl rfl rfl (v_idxF ty22 es22 rfl rfl (idx_lt h70902)) ?_
     exact l_go hF rfl (g7_30 v71101 v71201) (le_q rfl rfl)
    have g7_38 : ∀ (v71101 : Nat) (v71201 : Nat), F [0, 1, 2, 3, 4, 5, 6, 8, 11, 12, 13] ⟨[(1, HV.fptr [HV.int .i64 p0.1, HV.int .i64 p0.2.1, slE eFromLabelTo p0.2.2] 0), (4, HV.int .i64 a3), (5, HV.ptr 22005 v71101 0), (6, HV.ptr 22006 v71201 0), (23, HV.fptr [HV.int .i64 p0.1, HV.int .i64 p0.2.1, slE eFromLabelTo p0.2.2] 2), (25, HV.int .i64 a3)], [(22005, v71101, .arr 3 49 [HV.int .i64 x70401.1, HV.int .i64 x70401.2.1, HV.int .i64 x70401.2.2]), (22006, v71201, .arr 3 49 [HV.int .i64 0, HV.int .i64 0, HV.int .i64 0])]⟩ := by
     intro v71101 v71201
     refine l_step hF rfl [7] rfl rfl ⟨?_, trivial⟩
     ·refine l_op rfl rfl rfl (o_val rfl (v_loadF ty22 rfl (l_lit rfl rfl)) ?_)
      exact b_nil (l_go hF rfl (g7_39 v71101 v71201) (le_q rfl rfl))
    have g7_48 : ∀ (v71201 : Nat), F [0, 1, 2, 3, 4, 6, 7, 8, 9, 10, 12] ⟨[(1, HV.fptr [HV.int .i64 p0.1, HV.int .i64 p0.2.1, slE eFromLabelTo p0.2.2] 0), (4, HV.int .i64 a3), (6, HV.ptr 22006 v71201 0), (21, HV.fptr (eFromLabelTo.E p0.2.2) ((IntKind.wrap .i64 (a3 - 1)).toNat * eFromLabelTo.k)), (27, HV.agg [HV.int .i64 x70901.1, HV.int .i64 x70901.2.1, HV.int .i64 x70901.2.2])], [(22006, v71201, .arr 3 49 [HV.int .i64 0, HV.int .i64 0, HV.int .i64 0])]⟩ := by
     intro v71201
     refine l_step hF rfl [5, 11] rfl rfl ⟨?_, ?_, trivial⟩
     ·refine l_op rfl rfl rfl (o_val rfl (v_loadF ty49 rfl (l_agg eFromLabelTo h70402 rfl rfl)) ?_)
      exact b_nil (l_go hF rfl (g7_49 v71201) (le_q rfl rfl))
     ·refine l_op rfl rfl rfl (o_alloc (fid := 22) (zs := [HV.int .i64 0, HV.int .i64 0, HV.int .i64 0]) 22005 rfl rfl ty49 rfl (fun v71101 => ?_))
      exact b_nil (l_go hF rfl (g7_24 v71101 v71201) (le_q rfl rfl))
    have g7_52 : ∀ (v71201 : Nat), F [0, 1, 2, 3, 4, 5, 6, 7, 8, 9, 12] ⟨[(1, HV.fptr [HV.int .i64 p0.1, HV.int .i64 p0.2.1, slE eFromLabelTo p0.2.2] 0), (4, HV.int .i64 a3), (6, HV.ptr 22006 v71201 0), (22, HV.agg [HV.int .i64 x70401.1, HV.int .i64 x70401.2.1, HV.int .i64 x70401.2.2]), (26, HV.fptr (eFromLabelTo.E p0.2.2) ((a3).toNat * eFromLabelTo.k))], [(22006, v71201, .arr 3 49 [HV.int .i64 0, HV.int .i64 0, HV.int .i64 0])]⟩ := by
     intro v71201
     refine l_step hF rfl [10, 11] rfl rfl ⟨?_, ?_, trivial⟩
     ·refine l_op rfl rfl rfl (o_val rfl (v_loadF ty49 rfl (l_agg eFromLabelTo h70902 rfl rfl)) ?_)
      exact b_nil (l_go hF rfl (g7_49 v71201) (le_q rfl rfl))
     ·refine l_op rfl rfl rfl (o_alloc (fid := 22) (zs := [HV.int .i64 0, HV.int .i64 0, HV.int .i64 0]) 22005 rfl rfl ty49 rfl (fun v71101 => ?_))
      exact b_nil (l_go hF rfl (g7_30 v71101 v71201) (le_q rfl rfl))
    have g7_70 : ∀ (v71101 : Nat), F [0, 1, 2, 3, 4, 6, 7, 8, 9, 10, 11] ⟨[(1, HV.fptr [HV.int .i64 p0.1, HV.int .i64 p0.2.1, slE eFromLabelTo p0.2.2] 0), (4, HV.int .i64 a3), (5, HV.ptr 22005 v71101 0), (21, HV.fptr (eFromLabelTo.E p0.2.2) ((IntKind.wrap .i64 (a3 - 1)).toNat * eFromLabelTo.k)), (27, HV.agg [HV.int .i64 x70901.1, HV.int .i64 x70901.2.1, HV.int .i64 x70901.2.2])], [(22005, v71101, .arr 3 49 [HV.int .i64 0, HV.int .i64 0, HV.int .i64 0])]⟩ := by
     intro v71101
     refine l_step hF rfl [5, 12] rfl rfl ⟨?_, ?_, trivial⟩
     ·refine l_op rfl rfl rfl (o_val rfl (v_loadF ty49 rfl (l_agg eFromLabelTo h70402 rfl rfl)) ?_)
      exact b_nil (l_go hF rfl (g7_71 v71101) (le_q rfl rfl))
     ·refine l_op rfl rfl rfl (o_alloc (fid := 22) (zs := [HV.int .i64 0, HV.int .i64 0, HV.int .i64 0]) 22006 rfl rfl ty49 rfl (fun v71201 => ?_))
      exact b_nil (l_go hF rfl (g7_24 v71101 v71201) (le_q rfl rfl))
    have g7_74 : ∀ (v71101 : Nat), F [0, 1, 2, 3, 4, 5, 6, 7, 8, 9, 11] ⟨[(1, HV.fptr [HV.int .i64 p0.1, HV.int .i64 p0.2.1, slE eFromLabelTo p0.2.2] 0), (4, HV.int .i64 a3), (5, HV.ptr 22005 v71101 0), (22, HV.agg [HV.int .i64 x70401.1, HV.int .i64 x70401.2.1, HV.int .i64 x70401.2.2]), (26, HV.fptr (eFromLabelTo.E p0.2.2) ((a3).toNat * eFromLabelTo.k))], [(22005, v71101, .arr 3 49 [HV.int .i64 0, HV.int .i64 0, HV.int .i64 0])]⟩ := by
     intro v71101
     refine l_step hF rfl [10, 12] rfl rfl ⟨?_, ?_, trivial⟩
     ·refine l_op rfl rfl rfl (o_val rfl (v_loadF ty49 rfl (l_agg eFromLabelTo h70902 rfl rfl)) ?_)
      exact b_nil (l_go hF rfl (g7_71 v71101) (le_q rfl rfl))
     ·refine l_op rfl rfl rfl (o_alloc (fid := 22) (zs := [HV.int .i64 0, HV.int .i64 0, HV.int .i64 0]) 22006 rfl rfl ty49 rfl (fun v71201 => ?_))
      exact b_nil (l_go hF rfl (g7_30 v71101 v71201) (le_q rfl rfl))
    have g7_90 : F [0, 1, 2, 3, 4, 5, 6, 7, 8, 9, 10] ⟨[(1, HV.fptr [HV.int .i64 p0.1, HV.int .i64 p0.2.1, slE eFromLabelTo p0.2.2] 0), (4, HV.int .i64 a3), (22, HV.agg [HV.int .i64 x70401.1, HV.int .i64 x70401.2.1, HV.int .i64 x70401.2.2]), (27, HV.agg [HV.int .i64 x70901.1, HV.int .i64 x70901.2.1, HV.int .i64 x70901.2.2])], []⟩ := by
     refine l_step hF rfl [11, 12] rfl rfl ⟨?_, ?_, trivial⟩
     ·refine l_op rfl rfl rfl (o_alloc (fid := 22) (zs := [HV.int .i64 0, HV.int .i64 0, HV.int .i64 0]) 22005 rfl rfl ty49 rfl (fun v71101 => ?_))
      exact b_nil (l_go hF rfl (g7_71 v71101) (le_q rfl rfl))
     ·refine l_op rfl rfl rfl (o_alloc (fid := 22) (zs := [HV.int .i64 0, HV.int .i64 0, HV.int .i64 0]) 22006 rfl rfl ty49 rfl (fun v71201 => ?_))
      exact b_nil (l_go hF rfl (g7_49 v71201) (le_q rfl rfl))
    have g7_21 : ∀ (v71101 : Nat) (v71201 : Nat), F [0, 1, 2, 6, 7, 8, 9, 10, 11, 12] ⟨[(1, HV.fptr [HV.int .i64 p0.1, HV.int .i64 p0.2.1, slE eFromLabelTo p0.2.2] 0), (4, HV.int .i64 a3), (5, HV.ptr 22005 v71101 0), (6, HV.ptr 22006 v71201 0), (18, slE eFromLabelTo p0.2.2), (19, HV.int .i64 a3), (27, HV.agg [HV.int .i64 x70901.1, HV.int .i64 x70901.2.1, HV.int .i64 x70901.2.2])], [(22005, v71101, .arr 3 49 [HV.int .i64 0, HV.int .i64 0, HV.int .i64 0]), (22006, v71201, .arr 3 49 [HV.int .i64 0, HV.int .i64 0, HV.int .i64 0])]⟩ := by
     intro v71101 v71201
     refine l_step hF rfl [3] rfl rfl ⟨?_, trivial⟩
     ·refine l_op rfl rfl rfl (o_val rfl (v_bin rfl rfl b_sub) ?_)
      exact b_nil (l_go hF rfl (g7_23 v71101 v71201) (le_q rfl rfl))
    have g7_22 : ∀ (v71101 : Nat) (v71201 : Nat), F [0, 2, 3, 6, 7, 8, 9, 10, 11, 12] ⟨[(1, HV.fptr [HV.int .i64 p0.1, HV.int .i64 p0.2.1, slE eFromLabelTo p0.2.2] 0), (4, HV.int .i64 a3), (5, HV.ptr 22005 v71101 0), (6, HV.ptr 22006 v71201 0), (17, HV.fptr [HV.int .i64 p0.1, HV.int .i64 p0.2.1, slE eFromLabelTo p0.2.2] 2), (20, HV.int .i64 (IntKind.wrap .i64 (a3 - 1))), (27, HV.agg [HV.int .i64 x70901.1, HV.int .i64 x70901.2.1, HV.int .i64 x70901.2.2])], [(22005, v71101, .arr 3 49 [HV.int .i64 0, HV.int .i64 0, HV.int .i64 0]), (22006, v71201, .arr 3 49 [HV.int .i64 0, HV.int .i64 0, HV.int .i64 0])]⟩ := by
     intro v71101 v71201
     refine l_step hF rfl [1] rfl rfl ⟨?_, trivial⟩
     ·refine l_op rfl rfl rfl (o_val rfl (v_loadF ty22 rfl (l_lit rfl rfl)) ?_)
      exact b_nil (l_go hF rfl (g7_23 v71101 v71201) (le_q rfl rfl))
    have g7_28 : ∀ (v71101 : Nat) (v71201 : Nat), F [0, 1, 2, 3, 6, 7, 8, 9, 11, 12] ⟨[(1, HV.fptr [HV.int .i64 p0.1, HV.int .i64 p0.2.1, slE eFromLabelTo p0.2.2] 0), (4, HV.int .i64 a3), (5, HV.ptr 22005 v71101 0), (6, HV.ptr 22006 v71201 0), (18, slE eFromLabelTo p0.2.2), (20, HV.int .i64 (IntKind.wrap .i64 (a3 - 1))), (26, HV.fptr (eFromLabelTo.E p0.2.2) ((a3).toNat * eFromLabelTo.k))], [(22005, v71101, .arr 3 49 [HV.int .i64 0, HV.int .i64 0, HV.int .i64 0]), (22006, v71201, .arr 3 49 [HV.int .i64 0, HV.int .i64 0, HV.int .i64 0])]⟩ := by
     intro v71101 v71201
     refine l_take (i := 4) hF rfl rfl rfl (v_idxF ty22 es22 rfl rfl (idx_lt h70402)) ?_
     exact l_go hF rfl (g7_29 v71101 v71201) (le_q rfl rfl)
    have g7_35 : ∀ (v71101 : Nat) (v71201 : Nat), F [0, 1, 2, 3, 4, 5, 6, 8, 11, 12] ⟨[(1, HV.fptr [HV.int .i64 p0.1, HV.int .i64 p0.2.1, slE eFromLabelTo p0.2.2] 0), (4, HV.int .i64 a3), (5, HV.ptr 22005 v71101 0), (6, HV.ptr 22006 v71201 0), (22, HV.agg [HV.int .i64 x70401.1, HV.int .i64 x70401.2.1, HV.int .i64 x70401.2.2]), (23, HV.fptr [HV.int .i64 p0.1, HV.int .i64 p0.2.1, slE eFromLabelTo p0.2.2] 2), (25, HV.int .i64 a3)], [(22005, v71101, .arr 3 49 [HV.int .i64 0, HV.int .i64 0, HV.int .i64 0]), (22006, v71201, .arr 3 49 [HV.int .i64 0, HV.int .i64 0, HV.int .i64 0])]⟩ := by
     intro v71101 v71201
     refine l_step hF rfl [7, 13] rfl rfl ⟨?_, ?_, trivial⟩
     ·refine l_op rfl rfl rfl (o_val rfl (v_loadF ty22 rfl (l_lit rfl rfl)) ?_)
      exact b_nil (l_go hF rfl (g7_37 v71101 v71201) (le_q rfl rfl))
     ·refine l_op rfl rfl rfl (o_store (cs := [HV.int .i64 x70401.1, HV.int .i64 x70401.2.1, HV.int .i64 x70401.2.2]) (zs := [HV.int .i64 x70401.1, HV.int .i64 x70401.2.1, HV.int .i64 x70401.2.2]) rfl rfl rfl ty49 rfl rfl rfl rfl rfl ?_)
      exact b_nil (l_go hF rfl (g7_38 v71101 v71201) (le_q rfl rfl))
    have g7_36 : ∀ (v71101 : Nat) (v71201 : Nat), F [0, 1, 2, 3, 4, 6, 7, 8, 11, 12] ⟨[(1, HV.fptr [HV.int .i64 p0.1, HV.int .i64 p0.2.1, slE eFromLabelTo p0.2.2] 0), (4, HV.int .i64 a3), (5, HV.ptr 22005 v71101 0), (6, HV.ptr 22006 v71201 0), (21, HV.fptr (eFromLabelTo.E p0.2.2) ((IntKind.wrap .i64 (a3 - 1)).toNat * eFromLabelTo.k)), (24, slE eFromLabelTo p0.2.2), (25, HV.int .i64 a3)], [(22005, v71101, .arr 3 49 [HV.int .i64 0, HV.int .i64 0, HV.int .i64 0]), (22006, v71201, .arr 3 49 [HV.int .i64 0, HV.int .i64 0, HV.int .i64 0])]⟩ := by
     intro v71101 v71201
     refine l_take (i := 9) hF rfl rfl rfl (v_idxF ty22 es22 rfl rfl (idx_lt h70902)) ?_
     exact l_go hF rfl (g7_29 v71101 v71201) (le_q rfl rfl)
    have g7_47 : ∀ (v71201 : Nat), F [0, 1, 2, 3, 6, 7, 8, 9, 10, 12] ⟨[(1, HV.fptr [HV.int .i64 p0.1, HV.int .i64 p0.2.1, slE eFromLabelTo p0.2.2] 0), (4, HV.int .i64 a3), (6, HV.ptr 22006 v71201 0), (18, slE eFromLabelTo p0.2.2), (20, HV.int .i64 (IntKind.wrap .i64 (a3 - 1))), (27, HV.agg [HV.int .i64 x70901.1, HV.int .i64 x70901.2.1, HV.int .i64 x70901.2.2])], [(22006, v71201, .arr 3 49 [HV.int .i64 0, HV.int .i64 0, HV.int .i64 0])]⟩ := by
     intro v71201
     refine l_take (i := 4) hF rfl rfl rfl (v_idxF ty22 es22 rfl rfl (idx_lt h70402)) ?_
     exact l_go hF rfl (g7_48 v71201) (le_q rfl rfl)
    have g7_51 : ∀ (v71201 : Nat), F [0, 1, 2, 3, 4, 6, 7, 8, 9, 12] ⟨[(1, HV.fptr [HV.int .i64 p0.1, HV.int .i64 p0.2.1, slE eFromLabelTo p0.2.2] 0), (4, HV.int .i64 a3), (6, HV.ptr 22006 v71201 0), (21, HV.fptr (eFromLabelTo.E p0.2.2) ((IntKind.wrap .i64 (a3 - 1)).toNat * eFromLabelTo.k)), (26, HV.fptr (eFromLabelTo.E p0.2.2) ((a3).toNat * eFromLabelTo.k))], [(22006, v71201, .arr 3 49 [HV.int .i64 0, HV.int .i64 0, HV.int .i64 0])]⟩ := by
     intro v71201
     refine l_step hF rfl [5, 10, 11] rfl rfl ⟨?_, ?_, ?_, trivial⟩
     ·refine l_op rfl rfl rfl (o_val rfl (v_loadF ty49 rfl (l_agg eFromLabelTo h70402 rfl rfl)) ?_)
      exact b_nil (l_go hF rfl (g7_52 v71201) (le_q rfl rfl))
     ·refine l_op rfl rfl rfl (o_val rfl (v_loadF ty49 rfl (l_agg eFromLabelTo h70902 rfl rfl)) ?_)
      exact b_nil (l_go hF rfl (g7_48 v71201) (le_q rfl rfl))
     ·refine l_op rfl rfl rfl (o_alloc (fid := 22) (zs := [HV.int .i64 0, HV.int .i64 0, HV.int .i64 0]) 22005 rfl rfl ty49 rfl (fun v71101 => ?_))
      exact b_nil (l_go hF rfl (g7_29 v71101 v71201) (le_q rfl rfl))
    have g7_58 : ∀ (v71201 : Nat), F [0, 1, 2, 3, 4, 5, 6, 7, 8, 12] ⟨[(1, HV.fptr [HV.int .i64 p0.1, HV.int .i64 p0.2.1, slE eFromLabelTo p0.2.2] 0), (4, HV.int .i64 a3), (6, HV.ptr 22006 v71201 0), (22, HV.agg [HV.int .i64 x70401.1, HV.int .i64 x70401.2.1, HV.int .i64 x70401.2.2]), (24, slE eFromLabelTo p0.2.2), (25, HV.int .i64 a3)], [(22006, v71201, .arr 3 49 [HV.int .i64 0, HV.int .i64 0, HV.int .i64 0])]⟩ := by
     intro v71201
     refine l_take (i := 9) hF rfl rfl rfl (v_idxF ty22 es22 rfl rfl (idx_lt h70902)) ?_
     exact l_go hF rfl (g7_52 v71201) (le_q rfl rfl)
    have g7_69 : ∀ (v71101 : Nat), F [0, 1, 2, 3, 6, 7, 8, 9, 10, 11] ⟨[(1, HV.fptr [HV.int .i64 p0.1, HV.int .i64 p0.2.1, slE eFromLabelTo p0.2.2] 0), (4, HV.int .i64 a3), (5, HV.ptr 22005 v71101 0), (18, slE eFromLabelTo p0.2.2), (20, HV.int .i64 (IntKind.wrap .i64 (a3 - 1))), (27, HV.agg [HV.int .i64 x70901.1, HV.int .i64 x70901.2.1, HV.int .i64 x70901.2.2])], [(22005, v71101, .arr 3 49 [HV.int .i64 0, HV.int .i64 0, HV.int .i64 0])]⟩ := by
     intro v71101
     refine l_take (i := 4) hF rfl rfl rfl (v_idxF ty22 es22 rfl rfl (idx_lt h70402)) ?_
     exact l_go hF rfl (g7_70 v71101) (le_q rfl rfl)
    have g7_73 : ∀ (v71101 : Nat), F [0, 1, 2, 3, 4, 6, 7, 8, 9, 11] ⟨[(1, HV.fptr [HV.int .i64 p0.1, HV.int .i64 p0.2.1, slE eFromLabelTo p0.2.2] 0), (4, HV.int .i64 a3), (5, HV.ptr 22005 v71101 0), (21, HV.fptr (eFromLabelTo.E p0.2.2) ((IntKind.wrap .i64 (a3 - 1)).toNat * eFromLabelTo.k)), (26, HV.fptr (eFromLabelTo.E p0.2.2) ((a3).toNat * eFromLabelTo.k))], [(22005, v71101, .arr 3 49 [HV.int .i64 0, HV.int .i64 0, HV.int .i64 0])]⟩ := by
     intro v71101
     refine l_step hF rfl [5, 10, 12] rfl rfl ⟨?_, ?_, ?_, trivial⟩
     ·refine l_op rfl rfl rfl (o_val rfl (v_loadF ty49 rfl (l_agg eFromLabelTo h70402 rfl rfl)) ?_)
      exact b_nil (l_go hF rfl (g7_74 v71101) (le_q rfl rfl))
     ·refine l_op rfl rfl rfl (o_val rfl (v_loadF ty49 rfl (l_agg eFromLabelTo h70902 rfl rfl)) ?_)
      exact b_nil (l_go hF rfl (g7_70 v71101) (le_q rfl rfl))
     ·refine l_op rfl rfl rfl (o_alloc (fid := 22) (zs := [HV.int .i64 0, HV.int .i64 0, HV.int .i64 0]) 22006 rfl rfl ty49 rfl (fun v71201 => ?_))
      exact b_nil (l_go hF rfl (g7_29 v71101 v71201) (le_q rfl rfl))
    have g7_80 : ∀ (v71101 : Nat), F [0, 1, 2, 3, 4, 5, 6, 7, 8, 11] ⟨[(1, HV.fptr [HV.int .i64 p0.1, HV.int .i64 p0.2.1, slE eFromLabelTo p0.2.2] 0), (4, HV.int .i64 a3), (5, HV.ptr 22005 v71101 0), (22, HV.agg [HV.int .i64 x70401.1, HV.int .i64 x70401.2.1, HV.int .i64 x70401.2.2]), (24, slE eFromLabelTo p0.2.2), (25, HV.int .i64 a3)], [(22005, v71101, .arr 3 49 [HV.int .i64 0, HV.int .i64 0, HV.int .i64 0])]⟩ := by
     intro v71101
     refine l_take (i := 9) hF rfl rfl rfl (v_idxF ty22 es22 rfl rfl (idx_lt h70902)) ?_
     exact l_go hF rfl (g7_74 v71101) (le_q rfl rfl)
    have g7_89 : F [0, 1, 2, 3, 4, 6, 7, 8, 9, 10] ⟨[(1, HV.fptr [HV.int .i64 p0.1, HV.int .i64 p0.2.1, slE eFromLabelTo p0.2.2] 0), (4, HV.int .i64 a3), (21, HV.fptr (eFromLabelTo.E p0.2.2) ((IntKind.wrap .i64 (a3 - 1)).toNat * eFromLabelTo.k)), (27, HV.agg [HV.int .i64 x70901.1, HV.int .i64 x70901.2.1, HV.int .i64 x70901.2.2])], []⟩ := by
     refine l_step hF rfl [5, 11, 12] rfl rfl ⟨?_, ?_, ?_, trivial⟩
     ·refine l_op rfl rfl rfl (o_val rfl (v_loadF ty49 rfl (l_agg eFromLabelTo h70402 rfl rfl)) ?_)
      exact b_nil (l_go hF rfl (g7_90) (le_q rfl rfl))
     ·refine l_op rfl rfl rfl (o_alloc (fid := 22) (zs := [HV.int .i64 0, HV.int .i64 0, HV.int .i64 0]) 22005 rfl rfl ty49 rfl (fun v71101 => ?_))
      exact b_nil (l_go hF rfl (g7_70 v71101) (le_q rfl rfl))
     ·refine l_op rfl rfl rfl (o_alloc (fid := 22) (zs := [HV.int .i64 0, HV.int .i64 0, HV.int .i64 0]) 22006 rfl rfl ty49 rfl (fun v71201 => ?_))
      exact b_nil (l_go hF rfl (g7_48 v71201) (le_q rfl rfl))
    have g7_93 : F [0, 1, 2, 3, 4, 5, 6, 7, 8, 9] ⟨[(1, HV.fptr [HV.int .i64 p0.1, HV.int .i64 p0.2.1, slE eFromLabelTo p0.2.2] 0), (4, HV.int .i64 a3), (22, HV.agg [HV.int .i64 x70401.1, HV.int .i64 x70401.2.1, HV.int .i64 x70401.2.2]), (26, HV.fptr (eFromLabelTo.E p0.2.2) ((a3).toNat * eFromLabelTo.k))], []⟩ := by
     refine l_step hF rfl [10, 11, 12] rfl rfl ⟨?_, ?_, ?_, trivial⟩
     ·refine l_op rfl rfl rfl (o_val rfl (v_loadF ty49 rfl (l_agg eFromLabelTo h70902 rfl rfl)) ?_)
      exact b_nil (l_go hF rfl (g7_90) (le_q rfl rfl))
     ·refine l_op rfl rfl rfl (o_alloc (fid := 22) (zs := [HV.int .i64 0, HV.int .i64 0, HV.int .i64 0]) 22005 rfl rfl ty49 rfl (fun v71101 => ?_))
      exact b_nil (l_go hF rfl (g7_74 v71101) (le_q rfl rfl))
     ·refine l_op rfl rfl rfl (o_alloc (fid := 22) (zs := [HV.int .i64 0, HV.int .i64 0, HV.int .i64 0]) 22006 rfl rfl ty49 rfl (fun v71201 => ?_))
      exact b_nil (l_go hF rfl (g7_52 v71201) (le_q rfl rfl))
    have g7_18 : ∀ (v71101 : Nat) (v71201 : Nat), F [0, 1, 2, 6, 7, 8, 9, 11, 12] ⟨[(1, HV.fptr [HV.int .i64 p0.1, HV.int .i64 p0.2.1, slE eFromLabelTo p0.2.2] 0), (4, HV.int .i64 a3), (5, HV.ptr 22005 v71101 0), (6, HV.ptr 22006 v71201 0), (18, slE eFromLabelTo p0.2.2), (19, HV.int .i64 a3), (26, HV.fptr (eFromLabelTo.E p0.2.2) ((a3).toNat * eFromLabelTo.k))], [(22005, v71101, .arr 3 49 [HV.int .i64 0, HV.int .i64 0, HV.int .i64 0]), (22006, v71201, .arr 3 49 [HV.int .i64 0, HV.int .i64 0, HV.int .i64 0])]⟩ := by
     intro v71101 v71201
     refine l_step hF rfl [3, 10] rfl rfl ⟨?_, ?_, trivial⟩
     ·refine l_op rfl rfl rfl (o_val rfl (v_bin rfl rfl b_sub) ?_)
      exact b_nil (l_go hF rfl (g7_28 v71101 v71201) (le_q rfl rfl))
     ·refine l_op rfl rfl rfl (o_val rfl (v_loadF ty49 rfl (l_agg eFromLabelTo h70902 rfl rfl)) ?_)
      exact b_nil (l_go hF rfl (g7_21 v71101 v71201) (le_q rfl rfl))
    have g7_19 : ∀ (v71101 : Nat) (v71201 : Nat), F [0, 2, 3, 6, 7, 8, 9, 11, 12] ⟨[(1, HV.fptr [HV.int .i64 p0.1, HV.int .i64 p0.2.1, slE eFromLabelTo p0.2.2] 0), (4, HV.int .i64 a3), (5, HV.ptr 22005 v71101 0), (6, HV.ptr 22006 v71201 0), (17, HV.fptr [HV.int .i64 p0.1, HV.int .i64 p0.2.1, slE eFromLabelTo p0.2.2] 2), (20, HV.int .i64 (IntKind.wrap .i64 (a3 - 1))), (26, HV.fptr (eFromLabelTo.E p0.2.2) ((a3).toNat * eFromLabelTo.k))], [(22005, v71101, .arr 3 49 [HV.int .i64 0, HV.int .i64 0, HV.int .i64 0]), (22006, v71201, .arr 3 49 [HV.int .i64 0, HV.int .i64 0, HV.int .i64 0])]⟩ := by
     intro v71101 v71201
     refine l_step hF rfl [1, 10] rfl rfl ⟨?_, ?_, trivial⟩
     ·refine l_op rfl rfl rfl (o_val rfl (v_loadF ty22 rfl (l_lit rfl rfl)) ?_)
      exact b_nil (l_go hF rfl (g7_28 v71101 v71201) (le_q rfl rfl))
     ·refine l_op rfl rfl rfl (o_val rfl (v_loadF ty49 rfl (l_agg eFromLabelTo h70902 rfl rfl)) ?_)
      exact b_nil (l_go hF rfl (g7_22 v71101 v71201) (le_q rfl rfl))
    have g7_20 : ∀ (v71101 : Nat) (v71201 : Nat), F [0, 2, 6, 7, 8, 9, 10, 11, 12] ⟨[(1, HV.fptr [HV.int .i64 p0.1, HV.int .i64 p0.2.1, slE eFromLabelTo p0.2.2] 0), (4, HV.int .i64 a3), (5, HV.ptr 22005 v71101 0), (6, HV.ptr 22006 v71201 0), (17, HV.fptr [HV.int .i64 p0.1, HV.int .i64 p0.2.1, slE eFromLabelTo p0.2.2] 2), (19, HV.int .i64 a3), (27, HV.agg [HV.int .i64 x70901.1, HV.int .i64 x70901.2.1, HV.int .i64 x70901.2.2])], [(22005, v71101, .arr 3 49 [HV.int .i64 0, HV.int .i64 0, HV.int .i64 0]), (22006, v71201, .arr 3 49 [HV.int .i64 0, HV.int .i64 0, HV.int .i64 0])]⟩ := by
     intro v71101 v71201
     refine l_step hF rfl [1, 3] rfl rfl ⟨?_, ?_, trivial⟩
     ·refine l_op rfl rfl rfl (o_val rfl (v_loadF ty22 rfl (l_lit rfl rfl)) ?_)
      exact b_nil (l_go hF rfl (g7_21 v71101 v71201) (le_q rfl rfl))
     ·refine l_op rfl rfl rfl (o_val rfl (v_bin rfl rfl b_sub) ?_)
      exact b_nil (l_go hF rfl (g7_22 v71101 v71201) (le_q rfl rfl))
    have g7_34 : ∀ (v71101 : Nat) (v71201 : Nat), F [0, 1, 2, 3, 4, 6, 8, 11, 12] ⟨[(1, HV.fptr [HV.int .i64 p0.1, HV.int .i64 p0.2.1, slE eFromLabelTo p0.2.2] 0), (4, HV.int .i64 a3), (5, HV.ptr 22005 v71101 0), (6, HV.ptr 22006 v71201 0), (21, HV.fptr (eFromLabelTo.E p0.2.2) ((IntKind.wrap .i64 (a3 - 1)).toNat * eFromLabelTo.k)), (23, HV.fptr [HV.int .i64 p0.1, HV.int .i64 p0.2.1, slE eFromLabelTo p0.2.2] 2), (25, HV.int .i64 a3)], [(22005, v71101, .arr 3 49 [HV.int .i64 0, HV.int .i64 0, HV.int .i64 0]), (22006, v71201, .arr 3 49 [HV.int .i64 0, HV.int .i64 0, HV.int .i64 0])]⟩ := by
     intro v71101 v71201
     refine l_step hF rfl [5, 7] rfl rfl ⟨?_, ?_, trivial⟩
     ·refine l_op rfl rfl rfl (o_val rfl (v_loadF ty49 rfl (l_agg eFromLabelTo h70402 rfl rfl)) ?_)
      exact b_nil (l_go hF rfl (g7_35 v71101 v71201) (le_q rfl rfl))
     ·refine l_op rfl rfl rfl (o_val rfl (v_loadF ty22 rfl (l_lit rfl rfl)) ?_)
      exact b_nil (l_go hF rfl (g7_36 v71101 v71201) (le_q rfl rfl))
    have g7_45 : ∀ (v71201 : Nat), F [0, 1, 2, 6, 7, 8, 9, 10, 12] ⟨[(1, HV.fptr [HV.int .i64 p0.1, HV.int .i64 p0.2.1, slE eFromLabelTo p0.2.2] 0), (4, HV.int .i64 a3), (6, HV.ptr 22006 v71201 0), (18, slE eFromLabelTo p0.2.2), (19, HV.int .i64 a3), (27, HV.agg [HV.int .i64 x70901.1, HV.int .i64 x70901.2.1, HV.int .i64 x70901.2.2])], [(22006, v71201, .arr 3 49 [HV.int .i64 0, HV.int .i64 0, HV.int .i64 0])]⟩ := by
     intro v71201
     refine l_step hF rfl [3, 11] rfl rfl ⟨?_, ?_, trivial⟩
     ·refine l_op rfl rfl rfl (o_val rfl (v_bin rfl rfl b_sub) ?_)
      exact b_nil (l_go hF rfl (g7_47 v71201) (le_q rfl rfl))
     ·refine l_op rfl rfl rfl (o_alloc (fid := 22) (zs := [HV.int .i64 0, HV.int .i64 0, HV.int .i64 0]) 22005 rfl rfl ty49 rfl (fun v71101 => ?_))
      exact b_nil (l_go hF rfl (g7_21 v71101 v71201) (le_q rfl rfl))
    have g7_46 : ∀ (v71201 : Nat), F [0, 2, 3, 6, 7, 8, 9, 10, 12] ⟨[(1, HV.fptr [HV.int .i64 p0.1, HV.int .i64 p0.2.1, slE eFromLabelTo p0.2.2] 0), (4, HV.int .i64 a3), (6, HV.ptr 22006 v71201 0), (17, HV.fptr [HV.int .i64 p0.1, HV.int .i64 p0.2.1, slE eFromLabelTo p0.2.2] 2), (20, HV.int .i64 (IntKind.wrap .i64 (a3 - 1))), (27, HV.agg [HV.int .i64 x70901.1, HV.int .i64 x70901.2.1, HV.int .i64 x70901.2.2])], [(22006, v71201, .arr 3 49 [HV.int .i64 0, HV.int .i64 0, HV.int .i64 0])]⟩ := by
     intro v71201
     refine l_step hF rfl [1, 11] rfl rfl ⟨?_, ?_, trivial⟩
     ·refine l_op rfl rfl rfl (o_val rfl (v_loadF ty22 rfl (l_lit rfl rfl)) ?_)
      exact b_nil (l_go hF rfl (g7_47 v71201) (le_q rfl rfl))
     ·refine l_op rfl rfl rfl (o_alloc (fid := 22) (zs := [HV.int .i64 0, HV.int .i64 0, HV.int .i64 0]) 22005 rfl rfl ty49 rfl (fun v71101 => ?_))
      exact b_nil (l_go hF rfl (g7_22 v71101 v71201) (le_q rfl rfl))
    have g7_50 : ∀ (v71201 : Nat), F [0, 1, 2, 3, 6, 7, 8, 9, 12] ⟨[(1, HV.fptr [HV.int .i64 p0.1, HV.int .i64 p0.2.1, slE eFromLabelTo p0.2.2] 0), (4, HV.int .i64 a3), (6, HV.ptr 22006 v71201 0), (18, slE eFromLabelTo p0.2.2), (20, HV.int .i64 (IntKind.wrap .i64 (a3 - 1))), (26, HV.fptr (eFromLabelTo.E p0.2.2) ((a3).toNat * eFromLabelTo.k))], [(22006, v71201, .arr 3 49 [HV.int .i64 0, HV.int .i64 0, HV.int .i64 0])]⟩ := by
     intro v71201
     refine l_take (i := 4) hF rfl rfl rfl (v_idxF ty22 es22 rfl rfl (idx_lt h70402)) ?_
     exact l_go hF rfl (g7_51 v71201) (le_q rfl rfl)
    have g7_56 : ∀ (v71201 : Nat), F [0, 1, 2, 3, 4, 5, 6, 8, 12] ⟨[(1, HV.fptr [HV.int .i64 p0.1, HV.int .i64 p0.2.1, slE eFromLabelTo p0.2.2] 0), (4, HV.int .i64 a3), (6, HV.ptr 22006 v71201 0), (22, HV.agg [HV.int .i64 x70401.1, HV.int .i64 x70401.2.1, HV.int .i64 x70401.2.2]), (23, HV.fptr [HV.int .i64 p0.1, HV.int .i64 p0.2.1, slE eFromLabelTo p0.2.2] 2), (25, HV.int .i64 a3)], [(22006, v71201, .arr 3 49 [HV.int .i64 0, HV.int .i64 0, HV.int .i64 0])]⟩ := by
     intro v71201
     refine l_step hF rfl [7, 11] rfl rfl ⟨?_, ?_, trivial⟩
     ·refine l_op rfl rfl rfl (o_val rfl (v_loadF ty22 rfl (l_lit rfl rfl)) ?_)
      exact b_nil (l_go hF rfl (g7_58 v71201) (le_q rfl rfl))
     ·refine l_op rfl rfl rfl (o_alloc (fid := 22) (zs := [HV.int .i64 0, HV.int .i64 0, HV.int .i64 0]) 22005 rfl rfl ty49 rfl (fun v71101 => ?_))
      exact b_nil (l_go hF rfl (g7_35 v71101 v71201) (le_q rfl rfl))
    have g7_57 : ∀ (v71201 : Nat), F [0, 1, 2, 3, 4, 6, 7, 8, 12] ⟨[(1, HV.fptr [HV.int .i64 p0.1, HV.int .i64 p0.2.1, slE eFromLabelTo p0.2.2] 0), (4, HV.int .i64 a3), (6, HV.ptr 22006 v71201 0), (21, HV.fptr (eFromLabelTo.E p0.2.2) ((IntKind.wrap .i64 (a3 - 1)).toNat * eFromLabelTo.k)), (24, slE eFromLabelTo p0.2.2), (25, HV.int .i64 a3)], [(22006, v71201, .arr 3 49 [HV.int .i64 0, HV.int .i64 0, HV.int .i64 0])]⟩ := by
     intro v71201
     refine l_take (i := 9) hF rfl rfl rfl (v_idxF ty22 es22 rfl rfl (idx_lt h70902)) ?_
     exact l_go hF rfl (g7_51 v71201) (le_q rfl rfl)
    have g7_67 : ∀ (v71101 : Nat), F [0, 1, 2, 6, 7, 8, 9, 10, 11] ⟨[(1, HV.fptr [HV.int .i64 p0.1, HV.int .i64 p0.2.1, slE eFromLabelTo p0.2.2] 0), (4, HV.int .i64 a3), (5, HV.ptr 22005 v71101 0), (18, slE eFromLabelTo p0.2.2), (19, HV.int .i64 a3), (27, HV.agg [HV.int .i64 x70901.1, HV.int .i64 x70901.2.1, HV.int .i64 x70901.2.2])], [(22005, v71101, .arr 3 49 [HV.int .i64 0, HV.int .i64 0, HV.int .i64 0])]⟩ := by
     intro v71101
     refine l_step hF rfl [3, 12] rfl rfl ⟨?_, ?_, trivial⟩
     ·refine l_op rfl rfl rfl (o_val rfl (v_bin rfl rfl b_sub) ?_)
      exact b_nil (l_go hF rfl (g7_69 v71101) (le_q rfl rfl))
     ·refine l_op rfl rfl rfl (o_alloc (fid := 22) (zs := [HV.int .i64 0, HV.int .i64 0, HV.int .i64 0]) 22006 rfl rfl ty49 rfl (fun v71201 => ?_))
      exact b_nil (l_go hF rfl (g7_21 v71101 v71201) (le_q rfl rfl))
    have g7_68 : ∀ (v71101 : Nat), F [0, 2, 3, 6, 7, 8, 9, 10, 11] ⟨[(1, HV.fptr [HV.int .i64 p0.1, HV.int .i64 p0.2.1, slE eFromLabelTo p0.2.2] 0), (4, HV.int .i64 a3), (5, HV.ptr 22005 v71101 0), (17, HV.fptr [HV.int .i64 p0.1, HV.int .i64 p0.2.1, slE eFromLabelTo p0.2.2] 2), (20, HV.int .i64 (IntKind.wrap .i64 (a3 - 1))), (27, HV.agg [HV.int .i64 x70901.1, HV.int .i64 x70901.2.1, HV.int .i64 x70901.2.2])], [(22005, v71101, .arr 3 49 [HV.int .i64 0, HV.int .i64 0, HV.int .i64 0])]⟩ := by
     intro v71101
     refine l_step hF rfl [1, 12] rfl rfl ⟨?_, ?_, trivial⟩
     ·refine l_op rfl rfl rfl (o_val rfl (v_loadF ty22 rfl (l_lit rfl rfl)) ?_)
      exact b_nil (l_go hF rfl (g7_69 v71101) (le_q rfl rfl))
     ·refine l_op rfl rfl rfl (o_alloc (fid := 22) (zs := [HV.int .i64 0, HV.int .i64 0, HV.int .i64 0]) 22006 rfl rfl ty49 rfl (fun v71201 => ?_))
      exact b_nil (l_go hF rfl (g7_22 v71101 v71201) (le_q rfl rfl))
    have g7_72 : ∀ (v71101 : Nat), F [0, 1, 2, 3, 6, 7, 8, 9, 11] ⟨[(1, HV.fptr [HV.int .i64 p0.1, HV.int .i64 p0.2.1, slE eFromLabelTo p0.2.2] 0), (4, HV.int .i64 a3), (5, HV.ptr 22005 v71101 0), (18, slE eFromLabelTo p0.2.2), (20, HV.int .i64 (IntKind.wrap .i64 (a3 - 1))), (26, HV.fptr (eFromLabelTo.E p0.2.2) ((a3).toNat * eFromLabelTo.k))], [(22005, v71101, .arr 3 49 [HV.int .i64 0, HV.int .i64 0, HV.int .i64 0])]⟩ := by
     intro v71101
     refine l_take (i := 4) hF rfl rfl rfl (v_idxF ty22 es22 rfl rfl (idx_lt h70402)) ?_
     exact l_go hF rfl (g7_73 v71101) (le_q rfl rfl)
    have g7_78 : ∀ (v71101 : Nat), F [0, 1, 2, 3, 4, 5, 6, 8, 11] ⟨[(1, HV.fptr [HV.int .i64 p0.1, HV.int .i64 p0.2.1, slE eFromLabelTo p0.2.2] 0), (4, HV.int .i64 a3), (5, HV.ptr 22005 v71101 0), (22, HV.agg [HV.int .i64 x70401.1, HV.int .i64 x70401.2.1, HV.int .i64 x70401.2.2]), (23, HV.fptr [HV.int .i64 p0.1, HV.int .i64 p0.2.1, slE eFromLabelTo p0.2.2] 2), (25, HV.int .i64 a3)], [(22005, v71101, .arr 3 49 [HV.int .i64 0, HV.int .i64 0, HV.int .i64 0])]⟩ := by
     intro v71101
     refine l_step hF rfl [7, 12] rfl rfl ⟨?_, ?_, trivial⟩
     ·refine l_op rfl rfl rfl (o_val rfl (v_loadF ty22 rfl (l_lit rfl rfl)) ?_)
      exact b_nil (l_go hF rfl (g7_80 v71101) (le_q rfl rfl))
     ·refine l_op rfl rfl rfl (o_alloc (fid := 22) (zs := [HV.int .i64 0, HV.int .i64 0, HV.int .i64 0]) 22006 rfl rfl ty49 rfl (fun v71201 => ?_))
      exact b_nil (l_go hF rfl (g7_35 v71101 v71201) (le_q rfl rfl))
    have g7_79 : ∀ (v71101 : Nat), F [0, 1, 2, 3, 4, 6, 7, 8, 11] ⟨[(1, HV.fptr [HV.int .i64 p0.1, HV.int .i64 p0.2.1, slE eFromLabelTo p0.2.2] 0), (4, HV.int .i64 a3), (5, HV.ptr 22005 v71101 0), (21, HV.fptr (eFromLabelTo.E p0.2.2) ((IntKind.wrap .i64 (a3 - 1)).toNat * eFromLabelTo.k)), (24, slE eFromLabelTo p0.2.2), (25, HV.int .i64 a3)], [(22005, v71101, .arr 3 49 [HV.int .i64 0, HV.int .i64 0, HV.int .i64 0])]⟩ := by
     intro v71101
     refine l_take (i := 9) hF rfl rfl rfl (v_idxF ty22 es22 rfl rfl (idx_lt h70902)) ?_
     exact l_go hF rfl (g7_73 v71101) (le_q rfl rfl)
    have g7_88 : F [0, 1, 2, 3, 6, 7, 8, 9, 10] ⟨[(1, HV.fptr [HV.int .i64 p0.1, HV.int .i64 p0.2.1, slE eFromLabelTo p0.2.2] 0), (4, HV.int .i64 a3), (18, slE eFromLabelTo p0.2.2), (20, HV.int .i64 (IntKind.wrap .i64 (a3 - 1))), (27, HV.agg [HV.int .i64 x70901.1, HV.int .i64 x70901.2.1, HV.int .i64 x70901.2.2])], []⟩ := by
     refine l_take (i := 4) hF rfl rfl rfl (v_idxF ty22 es22 rfl rfl (idx_lt h70402)) ?_
     exact l_go hF rfl (g7_89) (le_q rfl rfl)
    have g7_92 : F [0, 1, 2, 3, 4, 6, 7, 8, 9] ⟨[(1, HV.fptr [HV.int .i64 p0.1, HV.int .i64 p0.2.1, slE eFromLabelTo p0.2.2] 0), (4, HV.int .i64 a3), (21, HV.fptr (eFromLabelTo.E p0.2.2) ((IntKind.wrap .i64 (a3 - 1)).toNat * eFromLabelTo.k)), (26, HV.fptr (eFromLabelTo.E p0.2.2) ((a3).toNat * eFromLabelTo.k))], []⟩ := by
     refine l_step hF rfl [5, 10, 11, 12] rfl rfl ⟨?_, ?_, ?_, ?_, trivial⟩
     ·refine l_op rfl rfl rfl (o_val rfl (v_loadF ty49 rfl (l_agg eFromLabelTo h70402 rfl rfl)) ?_)
      exact b_nil (l_go hF rfl (g7_93) (le_q rfl rfl))
     ·refine l_op rfl rfl rfl (o_val rfl (v_loadF ty49 rfl (l_agg eFromLabelTo h70902 rfl rfl)) ?_)
      exact b_nil (l_go hF rfl (g7_89) (le_q rfl rfl))
     ·refine l_op rfl rfl rfl (o_alloc (fid := 22) (zs := [HV.int .i64 0, HV.int .i64 0, HV.int .i64 0]) 22005 rfl rfl ty49 rfl (fun v71101 => ?_))
      exact b_nil (l_go hF rfl (g7_73 v71101) (le_q rfl rfl))
     ·refine l_op rfl rfl rfl (o_alloc (fid := 22) (zs := [HV.int .i64 0, HV.int .i64 0, HV.int .i64 0]) 22006 rfl rfl ty49 rfl (fun v71201 => ?_))
      exact b_nil (l_go hF rfl (g7_51 v71201) (le_q rfl rfl))
    have g7_99 : F [0, 1, 2, 3, 4, 5, 6, 7, 8] ⟨[(1, HV.fptr [HV.int .i64 p0.1, HV.int .i64 p0.2.1, slE eFromLabelTo p0.2.2] 0), (4, HV.int .i64 a3), (22, HV.agg [HV.int .i64 x70401.1, HV.int .i64 x70401.2.1, HV.int .i64 x70401.2.2]), (24, slE eFromLabelTo p0.2.2), (25, HV.int .i64 a3)], []⟩ := by
     refine l_take (i := 9) hF rfl rfl rfl (v_idxF ty22 es22 rfl rfl (idx_lt h70902)) ?_
     exact l_go hF rfl (g7_93) (le_q rfl rfl)
    have g7_17 : ∀ (v71101 : Nat) (v71201 : Nat), F [0, 2, 6, 7, 8, 9, 11, 12] ⟨[(1, HV.fptr [HV.int .i64 p0.1, HV.int .i64 p0.2.1, slE eFromLabelTo p0.2.2] 0), (4, HV.int .i64 a3), (5, HV.ptr 22005 v71101 0), (6, HV.ptr 22006 v71201 0), (17, HV.fptr [HV.int .i64 p0.1, HV.int .i64 p0.2.1, slE eFromLabelTo p0.2.2] 2), (19, HV.int .i64 a3), (26, HV.fptr (eFromLabelTo.E p0.2.2) ((a3).toNat * eFromLabelTo.k))], [(22005, v71101, .arr 3 49 [HV.int .i64 0, HV.int .i64 0, HV.int .i64 0]), (22006, v71201, .arr 3 49 [HV.int .i64 0, HV.int .i64 0, HV.int .i64 0])]⟩ := by
     intro v71101 v71201
     refine l_step hF rfl [1, 3, 10] rfl rfl ⟨?_, ?_, ?_, trivial⟩
     ·refine l_op rfl rfl rfl (o_val rfl (v_loadF ty22 rfl (l_lit rfl rfl)) ?_)
      exact b_nil (l_go hF rfl (g7_18 v71101 v71201) (le_q rfl rfl))
     ·refine l_op rfl rfl rfl (o_val rfl (v_bin rfl rfl b_sub) ?_)
      exact b_nil (l_go hF rfl (g7_19 v71101 v71201) (le_q rfl rfl))
     ·refine l_op rfl rfl rfl (o_val rfl (v_loadF ty49 rfl (l_agg eFromLabelTo h70902 rfl rfl)) ?_)
      exact b_nil (l_go hF rfl (g7_20 v71101 v71201) (le_q rfl rfl))
    have g7_32 : ∀ (v71101 : Nat) (v71201 : Nat), F [0, 1, 2, 3, 6, 8, 11, 12] ⟨[(1, HV.fptr [HV.int .i64 p0.1, HV.int .i64 p0.2.1, slE eFromLabelTo p0.2.2] 0), (4, HV.int .i64 a3), (5, HV.ptr 22005 v71101 0), (6, HV.ptr 22006 v71201 0), (18, slE eFromLabelTo p0.2.2), (20, HV.int .i64 (IntKind.wrap .i64 (a3 - 1))), (23, HV.fptr [HV.int .i64 p0.1, HV.int .i64 p0.2.1, slE eFromLabelTo p0.2.2] 2), (25, HV.int .i64 a3)], [(22005, v71101, .arr 3 49 [HV.int .i64 0, HV.int .i64 0, HV.int .i64 0]), (22006, v71201, .arr 3 49 [HV.int .i64 0, HV.int .i64 0, HV.int .i64 0])]⟩ := by
     intro v71101 v71201
     refine l_take (i := 4) hF rfl rfl rfl (v_idxF ty22 es22 rfl rfl (idx_lt h70402)) ?_
     exact l_go hF rfl (g7_34 v71101 v71201) (le_q rfl rfl)
    have g7_33 : ∀ (v71101 : Nat) (v71201 : Nat), F [0, 2, 3, 6, 7, 8, 11, 12] ⟨[(1, HV.fptr [HV.int .i64 p0.1, HV.int .i64 p0.2.1, slE eFromLabelTo p0.2.2] 0), (4, HV.int .i64 a3), (5, HV.ptr 22005 v71101 0), (6, HV.ptr 22006 v71201 0), (17, HV.fptr [HV.int .i64 p0.1, HV.int .i64 p0.2.1, slE eFromLabelTo p0.2.2] 2), (20, HV.int .i64 (IntKind.wrap .i64 (a3 - 1))), (24, slE eFromLabelTo p0.2.2), (25, HV.int .i64 a3)], [(22005, v71101, .arr 3 49 [HV.int .i64 0, HV.int .i64 0, HV.int .i64 0]), (22006, v71201, .arr 3 49 [HV.int .i64 0, HV.int .i64 0, HV.int .i64 0])]⟩ := by
     intro v71101 v71201
     refine l_take (i := 9) hF rfl rfl rfl (v_idxF ty22 es22 rfl rfl (idx_lt h70902)) ?_
     exact l_go hF rfl (g7_19 v71101 v71201) (le_q rfl rfl)
    have g7_40 : ∀ (v71101 : Nat) (v71201 : Nat), F [0, 1, 2, 6, 7, 8, 11, 12] ⟨[(1, HV.fptr [HV.int .i64 p0.1, HV.int .i64 p0.2.1, slE eFromLabelTo p0.2.2] 0), (4, HV.int .i64 a3), (5, HV.ptr 22005 v71101 0), (6, HV.ptr 22006 v71201 0), (18, slE eFromLabelTo p0.2.2), (19, HV.int .i64 a3), (24, slE eFromLabelTo p0.2.2), (25, HV.int .i64 a3)], [(22005, v71101, .arr 3 49 [HV.int .i64 0, HV.int .i64 0, HV.int .i64 0]), (22006, v71201, .arr 3 49 [HV.int .i64 0, HV.int .i64 0, HV.int .i64 0])]⟩ := by
     intro v71101 v71201
     refine l_take (i := 9) hF rfl rfl rfl (v_idxF ty22 es22 rfl rfl (idx_lt h70902)) ?_
     exact l_go hF rfl (g7_18 v71101 v71201) (le_q rfl rfl)
    have g7_42 : ∀ (v71201 : Nat), F [0, 1, 2, 6, 7, 8, 9, 12] ⟨[(1, HV.fptr [HV.int .i64 p0.1, HV.int .i64 p0.2.1, slE eFromLabelTo p0.2.2] 0), (4, HV.int .i64 a3), (6, HV.ptr 22006 v71201 0), (18, slE eFromLabelTo p0.2.2), (19, HV.int .i64 a3), (26, HV.fptr (eFromLabelTo.E p0.2.2) ((a3).toNat * eFromLabelTo.k))], [(22006, v71201, .arr 3 49 [HV.int .i64 0, HV.int .i64 0, HV.int .i64 0])]⟩ := by
     intro v71201
     refine l_step hF rfl [3, 10, 11] rfl rfl ⟨?_, ?_, ?_, trivial⟩
     ·refine l_op rfl rfl rfl (o_val rfl (v_bin rfl rfl b_sub) ?_)
      exact b_nil (l_go hF rfl (g7_50 v71201) (le_q rfl rfl))
     ·refine l_op rfl rfl rfl (o_val rfl (v_loadF ty49 rfl (l_agg eFromLabelTo h70902 rfl rfl)) ?_)
      exact b_nil (l_go hF rfl (g7_45 v71201) (le_q rfl rfl))
     ·refine l_op rfl rfl rfl (o_alloc (fid := 22) (zs := [HV.int .i64 0, HV.int .i64 0, HV.int .i64 0]) 22005 rfl rfl ty49 rfl (fun v71101 => ?_))
      exact b_nil (l_go hF rfl (g7_18 v71101 v71201) (le_q rfl rfl))
    have g7_43 : ∀ (v71201 : Nat), F [0, 2, 3, 6, 7, 8, 9, 12] ⟨[(1, HV.fptr [HV.int .i64 p0.1, HV.int .i64 p0.2.1, slE eFromLabelTo p0.2.2] 0), (4, HV.int .i64 a3), (6, HV.ptr 22006 v71201 0), (17, HV.fptr [HV.int .i64 p0.1, HV.int .i64 p0.2.1, slE eFromLabelTo p0.2.2] 2), (20, HV.int .i64 (IntKind.wrap .i64 (a3 - 1))), (26, HV.fptr (eFromLabelTo.E p0.2.2) ((a3).toNat * eFromLabelTo.k))], [(22006, v71201, .arr 3 49 [HV.int .i64 0, HV.int .i64 0, HV.int .i64 0])]⟩ := by
     intro v71201
     refine l_step hF rfl [1, 10, 11] rfl rfl ⟨?_, ?_, ?_, trivial⟩
     ·refine l_op rfl rfl rfl (o_val rfl (v_loadF ty22 rfl (l_lit rfl rfl)) ?_)
      exact b_nil (l_go hF rfl (g7_50 v71201) (le_q rfl rfl))
     ·refine l_op rfl rfl rfl (o_val rfl (v_loadF ty49 rfl (l_agg eFromLabelTo h70902 rfl rfl)) ?_)
      exact b_nil (l_go hF rfl (g7_46 v71201) (le_q rfl rfl))
     ·refine l_op rfl rfl rfl (o_alloc (fid := 22) (zs := [HV.int .i64 0, HV.int .i64 0, HV.int .i64 0]) 22005 rfl rfl ty49 rfl (fun v71101 => ?_))
      exact b_nil (l_go hF rfl (g7_19 v71101 v71201) (le_q rfl rfl))
    have g7_44 : ∀ (v71201 : Nat), F [0, 2, 6, 7, 8, 9, 10, 12] ⟨[(1, HV.fptr [HV.int .i64 p0.1, HV.int .i64 p0.2.1, slE eFromLabelTo p0.2.2] 0), (4, HV.int .i64 a3), (6, HV.ptr 22006 v71201 0), (17, HV.fptr [HV.int .i64 p0.1, HV.int .i64 p0.2.1, slE eFromLabelTo p0.2.2] 2), (19, HV.int .i64 a3), (27, HV.agg [HV.int .i64 x70901.1, HV.int .i64 x70901.2.1, HV.int .i64 x70901.2.2])], [(22006, v71201, .arr 3 49 [HV.int .i64 0, HV.int .i64 0, HV.int .i64 0])]⟩ := by
     intro v71201
     refine l_step hF rfl [1, 3, 11] rfl rfl ⟨?_, ?_, ?_, trivial⟩
     ·refine l_op rfl rfl rfl (o_val rfl (v_loadF ty22 rfl (l_lit rfl rfl)) ?_)
      exact b_nil (l_go hF rfl (g7_45 v71201) (le_q rfl rfl))
     ·refine l_op rfl rfl rfl (o_val rfl (v_bin rfl rfl b_sub) ?_)
      exact b_nil (l_go hF rfl (g7_46 v71201) (le_q rfl rfl))
     ·refine l_op rfl rfl rfl (o_alloc (fid := 22) (zs := [HV.int .i64 0, HV.int .i64 0, HV.int .i64 0]) 22005 rfl rfl ty49 rfl (fun v71101 => ?_))
      exact b_nil (l_go hF rfl (g7_20 v71101 v71201) (le_q rfl rfl))
    have g7_55 : ∀ (v71201 : Nat), F [0, 1, 2, 3, 4, 6, 8, 12] ⟨[(1, HV.fptr [HV.int .i64 p0.1, HV.int .i64 p0.2.1, slE eFromLabelTo p0.2.2] 0), (4, HV.int .i64 a3), (6, HV.ptr 22006 v71201 0), (21, HV.fptr (eFromLabelTo.E p0.2.2) ((IntKind.wrap .i64 (a3 - 1)).toNat * eFromLabelTo.k)), (23, HV.fptr [HV.int .i64 p0.1, HV.int .i64 p0.2.1, slE eFromLabelTo p0.2.2] 2), (25, HV.int .i64 a3)], [(22006, v71201, .arr 3 49 [HV.int .i64 0, HV.int .i64 0, HV.int .i64 0])]⟩ := by
     intro v71201
     refine l_step hF rfl [5, 7, 11] rfl rfl ⟨?_, ?_, ?_, trivial⟩
     ·refine l_op rfl rfl rfl (o_val rfl (v_loadF ty49 rfl (l_agg eFromLabelTo h70402 rfl rfl)) ?_)
      exact b_nil (l_go hF rfl (g7_56 v71201) (le_q rfl rfl))
     ·refine l_op rfl rfl rfl (o_val rfl (v_loadF ty22 rfl (l_lit rfl rfl)) ?_)
      exact b_nil (l_go hF rfl (g7_57 v71201) (le_q rfl rfl))
     ·refine l_op rfl rfl rfl (o_alloc (fid := 22) (zs := [HV.int .i64 0, HV.int .i64 0, HV.int .i64 0]) 22005 rfl rfl ty49 rfl (fun v71101 => ?_))
      exact b_nil (l_go hF rfl (g7_34 v71101 v71201) (le_q rfl rfl))
    have g7_64 : ∀ (v71101 : Nat), F [0, 1, 2, 6, 7, 8, 9, 11] ⟨[(1, HV.fptr [HV.int .i64 p0.1, HV.int .i64 p0.2.1, slE eFromLabelTo p0.2.2] 0), (4, HV.int .i64 a3), (5, HV.ptr 22005 v71101 0), (18, slE eFromLabelTo p0.2.2), (19, HV.int .i64 a3), (26, HV.fptr (eFromLabelTo.E p0.2.2) ((a3).toNat * eFromLabelTo.k))], [(22005, v71101, .arr 3 49 [HV.int .i64 0, HV.int .i64 0, HV.int .i64 0])]⟩ := by
     intro v71101
     refine l_step hF rfl [3, 10, 12] rfl rfl ⟨?_, ?_, ?_, trivial⟩
     ·refine l_op rfl rfl rfl (o_val rfl (v_bin rfl rfl b_sub) ?_)
      exact b_nil (l_go hF rfl (g7_72 v71101) (le_q rfl rfl))
     ·refine l_op rfl rfl rfl (o_val rfl (v_loadF ty49 rfl (l_agg eFromLabelTo h70902 rfl rfl)) ?_)
      exact b_nil (l_go hF rfl (g7_67 v71101) (le_q rfl rfl))
     ·refine l_op rfl rfl rfl (o_alloc (fid := 22) (zs := [HV.int .i64 0, HV.int .i64 0, HV.int .i64 0]) 22006 rfl rfl ty49 rfl (fun v71201 => ?_))
      exact b_nil (l_go hF rfl (g7_18 v71101 v71201) (le_q rfl rfl))
    have g7_65 : ∀ (v71101 : Nat), F [0, 2, 3, 6, 7, 8, 9, 11] ⟨[(1, HV.fptr [HV.int .i64 p0.1, HV.int .i64 p0.2.1, slE eFromLabelTo p0.2.2] 0), (4, HV.int .i64 a3), (5, HV.ptr 22005 v71101 0), (17, HV.fptr [HV.int .i64 p0.1, HV.int .i64 p0.2.1, slE eFromLabelTo p0.2.2] 2), (20, HV.int .i64 (IntKind.wrap .i64 (a3 - 1))), (26, HV.fptr (eFromLabelTo.E p0.2.2) ((a3).toNat * eFromLabelTo.k))], [(22005, v71101, .arr 3 49 [HV.int .i64 0, HV.int .i64 0, HV.int .i64 0])]⟩ := by
     intro v71101
     refine l_step hF rfl [1, 10, 12] rfl rfl ⟨?_, ?_, ?_, trivial⟩
     ·refine l_op rfl rfl rfl (o_val rfl (v_loadF ty22 rfl (l_lit rfl rfl)) ?_)
      exact b_nil (l_go hF rfl (g7_72 v71101) (le_q rfl rfl))
     ·refine l_op rfl rfl rfl (o_val rfl (v_loadF ty49 rfl (l_agg eFromLabelTo h70902 rfl rfl)) ?_)
      exact b_nil (l_go hF rfl (g7_68 v71101) (le_q rfl rfl))
     ·refine l_op rfl rfl rfl (o_alloc (fid := 22) (zs := [HV.int .i64 0, HV.int .i64 0, HV.int .i64 0]) 22006 rfl rfl ty49 rfl (fun v71201 => ?_))
      exact b_nil (l_go hF rfl (g7_19 v71101 v71201) (le_q rfl rfl))
    have g7_66 : ∀ (v71101 : Nat), F [0, 2, 6, 7, 8, 9, 10, 11] ⟨[(1, HV.fptr [HV.int .i64 p0.1, HV.int .i64 p0.2.1, slE eFromLabelTo p0.2.2] 0), (4, HV.int .i64 a3), (5, HV.ptr 22005 v71101 0), (17, HV.fptr [HV.int .i64 p0.1, HV.int .i64 p0.2.1, slE eFromLabelTo p0.2.2] 2), (19, HV.int .i64 a3), (27, HV.agg [HV.int .i64 x70901.1, HV.int .i64 x70901.2.1, HV.int .i64 x70901.2.2])], [(22005, v71101, .arr 3 49 [HV.int .i64 0, HV.int .i64 0, HV.int .i64 0])]⟩ := by
     intro v71101
     refine l_step hF rfl [1, 3, 12] rfl rfl ⟨?_, ?_, ?_, trivial⟩
     ·refine l_op rfl rfl rfl (o_val rfl (v_loadF ty22 rfl (l_lit rfl rfl)) ?_)
      exact b_nil (l_go hF rfl (g7_67 v71101) (le_q rfl rfl))
     ·refine l_op rfl rfl rfl (o_val rfl (v_bin rfl rfl b_sub) ?_)
      exact b_nil (l_go hF rfl (g7_68 v71101) (le_q rfl rfl))
     ·refine l_op rfl rfl rfl (o_alloc (fid := 22) (zs := [HV.int .i64 0, HV.int .i64 0, HV.int .i64 0]) 22006 rfl rfl ty49 rfl (fun v71201 => ?_))
      exact b_nil (l_go hF rfl (g7_20 v71101 v71201) (le_q rfl rfl))
    have g7_77 : ∀ (v71101 : Nat), F [0, 1, 2, 3, 4, 6, 8, 11] ⟨[(1, HV.fptr [HV.int .i64 p0.1, HV.int .i64 p0.2.1, slE eFromLabelTo p0.2.2] 0), (4, HV.int .i64 a3), (5, HV.ptr 22005 v71101 0), (21, HV.fptr (eFromLabelTo.E p0.2.2) ((IntKind.wrap .i64 (a3 - 1)).toNat * eFromLabelTo.k)), (23, HV.fptr [HV.int .i64 p0.1, HV.int .i64 p0.2.1, slE eFromLabelTo p0.2.2] 2), (25, HV.int .i64 a3)], [(22005, v71101, .arr 3 49 [HV.int .i64 0, HV.int .i64 0, HV.int .i64 0])]⟩ := by
     intro v71101
     refine l_step hF rfl [5, 7, 12] rfl rfl ⟨?_, ?_, ?_, trivial⟩
     ·refine l_op rfl rfl rfl (o_val rfl (v_loadF ty49 rfl (l_agg eFromLabelTo h70402 rfl rfl)) ?_)
      exact b_nil (l_go hF rfl (g7_78 v71101) (le_q rfl rfl))
     ·refine l_op rfl rfl rfl (o_val rfl (v_loadF ty22 rfl (l_lit rfl rfl)) ?_)
      exact b_nil (l_go hF rfl (g7_79 v71101) (le_q rfl rfl))
     ·refine l_op rfl rfl rfl (o_alloc (fid := 22) (zs := [HV.int .i64 0, HV.int .i64 0, HV.int .i64 0]) 22006 rfl rfl ty49 rfl (fun v71201 => ?_))
      exact b_nil (l_go hF rfl (g7_34 v71101 v71201) (le_q rfl rfl))
    have g7_86 : F [0, 1, 2, 6, 7, 8, 9, 10] ⟨[(1, HV.fptr [HV.int .i64 p0.1, HV.int .i64 p0.2.1, slE eFromLabelTo p0.2.2] 0), (4, HV.int .i64 a3), (18, slE eFromLabelTo p0.2.2), (19, HV.int .i64 a3), (27, HV.agg [HV.int .i64 x70901.1, HV.int .i64 x70901.2.1, HV.int .i64 x70901.2.2])], []⟩ := by
     refine l_step hF rfl [3, 11, 12] rfl rfl ⟨?_, ?_, ?_, trivial⟩
     ·refine l_op rfl rfl rfl (o_val rfl (v_bin rfl rfl b_sub) ?_)
      exact b_nil (l_go hF rfl (g7_88) (le_q rfl rfl))
     ·refine l_op rfl rfl rfl (o_alloc (fid := 22) (zs := [HV.int .i64 0, HV.int .i64 0, HV.int .i64 0]) 22005 rfl rfl ty49 rfl (fun v71101 => ?_))
      exact b_nil (l_go hF rfl (g7_67 v71101) (le_q rfl rfl))
     ·refine l_op rfl rfl rfl (o_alloc (fid := 22) (zs := [HV.int .i64 0, HV.int .i64 0, HV.int .i64 0]) 22006 rfl rfl ty49 rfl (fun v71201 => ?_))
      exact b_nil (l_go hF rfl (g7_45 v71201) (le_q rfl rfl))
    have g7_87 : F [0, 2, 3, 6, 7, 8, 9, 10] ⟨[(1, HV.fptr [HV.int .i64 p0.1, HV.int .i64 p0.2.1, slE eFromLabelTo p0.2.2] 0), (4, HV.int .i64 a3), (17, HV.fptr [HV.int .i64 p0.1, HV.int .i64 p0.2.1, slE eFromLabelTo p0.2.2] 2), (20, HV.int .i64 (IntKind.wrap .i64 (a3 - 1))), (27, HV.agg [HV.int .i64 x70901.1, HV.int .i64 x70901.2.1, HV.int .i64 x70901.2.2])], []⟩ := by
     refine l_step hF rfl [1, 11, 12] rfl rfl ⟨?_, ?_, ?_, trivial⟩
     ·refine l_op rfl rfl rfl (o_val rfl (v_loadF ty22 rfl (l_lit rfl rfl)) ?_)
      exact b_nil (l_go hF rfl (g7_88) (le_q rfl rfl))
     ·refine l_op rfl rfl rfl (o_alloc (fid := 22) (zs := [HV.int .i64 0, HV.int .i64 0, HV.int .i64 0]) 22005 rfl rfl ty49 rfl (fun v71101 => ?_))
      exact b_nil (l_go hF rfl (g7_68 v71101) (le_q rfl rfl))
     ·refine l_op rfl rfl rfl (o_alloc (fid := 22) (zs := [HV.int .i64 0, HV.int .i64 0, HV.int .i64 0]) 22006 rfl rfl ty49 rfl (fun v71201 => ?_))
      exact b_nil (l_go hF rfl (g7_46 v71201) (le_q rfl rfl))
    have g7_91 : F [0, 1, 2, 3, 6, 7, 8, 9] ⟨[(1, HV.fptr [HV.int .i64 p0.1, HV.int .i64 p0.2.1, slE eFromLabelTo p0.2.2] 0), (4, HV.int .i64 a3), (18, slE eFromLabelTo p0.2.2), (20, HV.int .i64 (IntKind.wrap .i64 (a3 - 1))), (26, HV.fptr (eFromLabelTo.E p0.2.2) ((a3).toNat * eFromLabelTo.k))], []⟩ := by
     refine l_take (i := 4) hF rfl rfl rfl (v_idxF ty22 es22 rfl rfl (idx_lt h70402)) ?_
     exact l_go hF rfl (g7_92) (le_q rfl rfl)
    have g7_97 : F [0, 1, 2, 3, 4, 5, 6, 8] ⟨[(1, HV.fptr [HV.int .i64 p0.1, HV.int .i64 p0.2.1, slE eFromLabelTo p0.2.2] 0), (4, HV.int .i64 a3), (22, HV.agg [HV.int .i64 x70401.1, HV.int .i64 x70401.2.1, HV.int .i64 x70401.2.2]), (23, HV.fptr [HV.int .i64 p0.1, HV.int .i64 p0.2.1, slE eFromLabelTo p0.2.2] 2), (25, HV.int .i64 a3)], []⟩ := by
     refine l_step hF rfl [7, 11, 12] rfl rfl ⟨?_, ?_, ?_, trivial⟩
     ·refine l_op rfl rfl rfl (o_val rfl (v_loadF ty22 rfl (l_lit rfl rfl)) ?_)
      exact b_nil (l_go hF rfl (g7_99) (le_q rfl rfl))
     ·refine l_op rfl rfl rfl (o_alloc (fid := 22) (zs := [HV.int .i64 0, HV.int .i64 0, HV.int .i64 0]) 22005 rfl rfl ty49 rfl (fun v71101 => ?_))
      exact b_nil (l_go hF rfl (g7_78 v71101) (le_q rfl rfl))
     ·refine l_op rfl rfl rfl (o_alloc (fid := 22) (zs := [HV.int .i64 0, HV.int .i64 0, HV.int .i64 0]) 22006 rfl rfl ty49 rfl (fun v71201 => ?_))
      exact b_nil (l_go hF rfl (g7_56 v71201) (le_q rfl rfl))
    have g7_98 : F [0, 1, 2, 3, 4, 6, 7, 8] ⟨[(1, HV.fptr [HV.int .i64 p0.1, HV.int .i64 p0.2.1, slE eFromLabelTo p0.2.2] 0), (4, HV.int .i64 a3), (21, HV.fptr (eFromLabelTo.E p0.2.2) ((IntKind.wrap .i64 (a3 - 1)).toNat * eFromLabelTo.k)), (24, slE eFromLabelTo p0.2.2), (25, HV.int .i64 a3)], []⟩ := by
     refine l_take (i := 9) hF rfl rfl rfl (v_idxF ty22 es22 rfl rfl (idx_lt h70902)) ?_
     exact l_go hF rfl (g7_92) (le_q rfl rfl)
    have g7_14 : ∀ (v71101 : Nat) (v71201 : Nat), F [0, 1, 2, 6, 8, 11, 12] ⟨[(1, HV.fptr [HV.int .i64 p0.1, HV.int .i64 p0.2.1, slE eFromLabelTo p0.2.2] 0), (4, HV.int .i64 a3), (5, HV.ptr 22005 v71101 0), (6, HV.ptr 22006 v71201 0), (18, slE eFromLabelTo p0.2.2), (19, HV.int .i64 a3), (23, HV.fptr [HV.int .i64 p0.1, HV.int .i64 p0.2.1, slE eFromLabelTo p0.2.2] 2), (25, HV.int .i64 a3)], [(22005, v71101, .arr 3 49 [HV.int .i64 0, HV.int .i64 0, HV.int .i64 0]), (22006, v71201, .arr 3 49 [HV.int .i64 0, HV.int .i64 0, HV.int .i64 0])]⟩ := by
     intro v71101 v71201
     refine l_step hF rfl [3, 7] rfl rfl ⟨?_, ?_, trivial⟩
     ·refine l_op rfl rfl rfl (o_val rfl (v_bin rfl rfl b_sub) ?_)
      exact b_nil (l_go hF rfl (g7_32 v71101 v71201) (le_q rfl rfl))
     ·refine l_op rfl rfl rfl (o_val rfl (v_loadF ty22 rfl (l_lit rfl rfl)) ?_)
      exact b_nil (l_go hF rfl (g7_40 v71101 v71201) (le_q rfl rfl))
    have g7_15 : ∀ (v71101 : Nat) (v71201 : Nat), F [0, 2, 3, 6, 8, 11, 12] ⟨[(1, HV.fptr [HV.int .i64 p0.1, HV.int .i64 p0.2.1, slE eFromLabelTo p0.2.2] 0), (4, HV.int .i64 a3), (5, HV.ptr 22005 v71101 0), (6, HV.ptr 22006 v71201 0), (17, HV.fptr [HV.int .i64 p0.1, HV.int .i64 p0.2.1, slE eFromLabelTo p0.2.2] 2), (20, HV.int .i64 (IntKind.wrap .i64 (a3 - 1))), (23, HV.fptr [HV.int .i64 p0.1, HV.int .i64 p0.2.1, slE eFromLabelTo p0.2.2] 2), (25, HV.int .i64 a3)], [(22005, v71101, .arr 3 49 [HV.int .i64 0, HV.int .i64 0, HV.int .i64 0]), (22006, v71201, .arr 3 49 [HV.int .i64 0, HV.int .i64 0, HV.int .i64 0])]⟩ := by
     intro v71101 v71201
     refine l_step hF rfl [1, 7] rfl rfl ⟨?_, ?_, trivial⟩
     ·refine l_op rfl rfl rfl (o_val rfl (v_loadF ty22 rfl (l_lit rfl rfl)) ?_)
      exact b_nil (l_go hF rfl (g7_32 v71101 v71201) (le_q rfl rfl))
     ·refine l_op rfl rfl rfl (o_val rfl (v_loadF ty22 rfl (l_lit rfl rfl)) ?_)
      exact b_nil (l_go hF rfl (g7_33 v71101 v71201) (le_q rfl rfl))
    have g7_16 : ∀ (v71101 : Nat) (v71201 : Nat), F [0, 2, 6, 7, 8, 11, 12] ⟨[(1, HV.fptr [HV.int .i64 p0.1, HV.int .i64 p0.2.1, slE eFromLabelTo p0.2.2] 0), (4, HV.int .i64 a3), (5, HV.ptr 22005 v71101 0), (6, HV.ptr 22006 v71201 0), (17, HV.fptr [HV.int .i64 p0.1, HV.int .i64 p0.2.1, slE eFromLabelTo p0.2.2] 2), (19, HV.int .i64 a3), (24, slE eFromLabelTo p0.2.2), (25, HV.int .i64 a3)], [(22005, v71101, .arr 3 49 [HV.int .i64 0, HV.int .i64 0, HV.int .i64 0]), (22006, v71201, .arr 3 49 [HV.int .i64 0, HV.int .i64 0, HV.int .i64 0])]⟩ := by
     intro v71101 v71201
     refine l_take (i := 9) hF rfl rfl rfl (v_idxF ty22 es22 rfl rfl (idx_lt h70902)) ?_
     exact l_go hF rfl (g7_17 v71101 v71201) (le_q rfl rfl)
    have g7_41 : ∀ (v71201 : Nat), F [0, 2, 6, 7, 8, 9, 12] ⟨[(1, HV.fptr [HV.int .i64 p0.1, HV.int .i64 p0.2.1, slE eFromLabelTo p0.2.2] 0), (4, HV.int .i64 a3), (6, HV.ptr 22006 v71201 0), (17, HV.fptr [HV.int .i64 p0.1, HV.int .i64 p0.2.1, slE eFromLabelTo p0.2.2] 2), (19, HV.int .i64 a3), (26, HV.fptr (eFromLabelTo.E p0.2.2) ((a3).toNat * eFromLabelTo.k))], [(22006, v71201, .arr 3 49 [HV.int .i64 0, HV.int .i64 0, HV.int .i64 0])]⟩ := by
     intro v71201
     refine l_step hF rfl [1, 3, 10, 11] rfl rfl ⟨?_, ?_, ?_, ?_, trivial⟩
     ·refine l_op rfl rfl rfl (o_val rfl (v_loadF ty22 rfl (l_lit rfl rfl)) ?_)
      exact b_nil (l_go hF rfl (g7_42 v71201) (le_q rfl rfl))
     ·refine l_op rfl rfl rfl (o_val rfl (v_bin rfl rfl b_sub) ?_)
      exact b_nil (l_go hF rfl (g7_43 v71201) (le_q rfl rfl))
     ·refine l_op rfl rfl rfl (o_val rfl (v_loadF ty49 rfl (l_agg eFromLabelTo h70902 rfl rfl)) ?_)
      exact b_nil (l_go hF rfl (g7_44 v71201) (le_q rfl rfl))
     ·refine l_op rfl rfl rfl (o_alloc (fid := 22) (zs := [HV.int .i64 0, HV.int .i64 0, HV.int .i64 0]) 22005 rfl rfl ty49 rfl (fun v71101 => ?_))
      exact b_nil (l_go hF rfl (g7_17 v71101 v71201) (le_q rfl rfl))
    have g7_53 : ∀ (v71201 : Nat), F [0, 1, 2, 3, 6, 8, 12] ⟨[(1, HV.fptr [HV.int .i64 p0.1, HV.int .i64 p0.2.1, slE eFromLabelTo p0.2.2] 0), (4, HV.int .i64 a3), (6, HV.ptr 22006 v71201 0), (18, slE eFromLabelTo p0.2.2), (20, HV.int .i64 (IntKind.wrap .i64 (a3 - 1))), (23, HV.fptr [HV.int .i64 p0.1, HV.int .i64 p0.2.1, slE eFromLabelTo p0.2.2] 2), (25, HV.int .i64 a3)], [(22006, v71201, .arr 3 49 [HV.int .i64 0, HV.int .i64 0, HV.int .i64 0])]⟩ := by
     intro v71201
     refine l_take (i := 4) hF rfl rfl rfl (v_idxF ty22 es22 rfl rfl (idx_lt h70402)) ?_
     exact l_go hF rfl (g7_55 v71201) (le_q rfl rfl)
    have g7_54 : ∀ (v71201 : Nat), F [0, 2, 3, 6, 7, 8, 12] ⟨[(1, HV.fptr [HV.int .i64 p0.1, HV.int .i64 p0.2.1, slE eFromLabelTo p0.2.2] 0), (4, HV.int .i64 a3), (6, HV.ptr 22006 v71201 0), (17, HV.fptr [HV.int .i64 p0.1, HV.int .i64 p0.2.1, slE eFromLabelTo p0.2.2] 2), (20, HV.int .i64 (IntKind.wrap .i64 (a3 - 1))), (24, slE eFromLabelTo p0.2.2), (25, HV.int .i64 a3)], [(22006, v71201, .arr 3 49 [HV.int .i64 0, HV.int .i64 0, HV.int .i64 0])]⟩ := by
     intro v71201
     refine l_take (i := 9) hF rfl rfl rfl (v_idxF ty22 es22 rfl rfl (idx_lt h70902)) ?_
     exact l_go hF rfl (g7_43 v71201) (le_q rfl rfl)
    have g7_59 : ∀ (v71201 : Nat), F [0, 1, 2, 6, 7, 8, 12] ⟨[(1, HV.fptr [HV.int .i64 p0.1, HV.int .i64 p0.2.1, slE eFromLabelTo p0.2.2] 0), (4, HV.int .i64 a3), (6, HV.ptr 22006 v71201 0), (18, slE eFromLabelTo p0.2.2), (19, HV.int .i64 a3), (24, slE eFromLabelTo p0.2.2), (25, HV.int .i64 a3)], [(22006, v71201, .arr 3 49 [HV.int .i64 0, HV.int .i64 0, HV.int .i64 0])]⟩ := by
     intro v71201
     refine l_take (i := 9) hF rfl rfl rfl (v_idxF ty22 es22 rfl rfl (idx_lt h70902)) ?_
     exact l_go hF rfl (g7_42 v71201) (le_q rfl rfl)
    have g7_63 : ∀ (v71101 : Nat), F [0, 2, 6, 7, 8, 9, 11] ⟨[(1, HV.fptr [HV.int .i64 p0.1, HV.int .i64 p0.2.1, slE eFromLabelTo p0.2.2] 0), (4, HV.int .i64 a3), (5, HV.ptr 22005 v71101 0), (17, HV.fptr [HV.int .i64 p0.1, HV.int .i64 p0.2.1, slE eFromLabelTo p0.2.2] 2), (19, HV.int .i64 a3), (26, HV.fptr (eFromLabelTo.E p0.2.2) ((a3).toNat * eFromLabelTo.k))], [(22005, v71101, .arr 3 49 [HV.int .i64 0, HV.int .i64 0, HV.int .i64 0])]⟩ := by
     intro v71101
     refine l_step hF rfl [1, 3, 10, 12] rfl rfl ⟨?_, ?_, ?_, ?_, trivial⟩
     ·refine l_op rfl rfl rfl (o_val rfl (v_loadF ty22 rfl (l_lit rfl rfl)) ?_)
      exact b_nil (l_go hF rfl (g7_64 v71101) (le_q rfl rfl))
     ·refine l_op rfl rfl rfl (o_val rfl (v_bin rfl rfl b_sub) ?_)
      exact b_nil (l_go hF rfl (g7_65 v71101) (le_q rfl rfl))
     ·refine l_op rfl rfl rfl (o_val rfl (v_loadF ty49 rfl (l_agg eFromLabelTo h70902 rfl rfl)) ?_)
      exact b_nil (l_go hF rfl (g7_66 v71101) (le_q rfl rfl))
     ·refine l_op rfl rfl rfl (o_alloc (fid := 22) (zs := [HV.int .i64 0, HV.int .i64 0, HV.int .i64 0]) 22006 rfl rfl ty49 rfl (fun v71201 => ?_))
      exact b_nil (l_go hF rfl (g7_17 v71101 v71201) (le_q rfl rfl))
    have g7_75 : ∀ (v71101 : Nat), F [0, 1, 2, 3, 6, 8, 11] ⟨[(1, HV.fptr [HV.int .i64 p0.1, HV.int .i64 p0.2.1, slE eFromLabelTo p0.2.2] 0), (4, HV.int .i64 a3), (5, HV.ptr 22005 v71101 0), (18, slE eFromLabelTo p0.2.2), (20, HV.int .i64 (IntKind.wrap .i64 (a3 - 1))), (23, HV.fptr [HV.int .i64 p0.1, HV.int .i64 p0.2.1, slE eFromLabelTo p0.2.2] 2), (25, HV.int .i64 a3)], [(22005, v71101, .arr 3 49 [HV.int .i64 0, HV.int .i64 0, HV.int .i64 0])]⟩ := by
     intro v71101
     refine l_take (i := 4) hF rfl rfl rfl (v_idxF ty22 es22 rfl rfl (idx_lt h70402)) ?_
     exact l_go hF rfl (g7_77 v71101) (le_q rfl rfl)
    have g7_76 : ∀ (v71101 : Nat), F [0, 2, 3, 6, 7, 8, 11] ⟨[(1, HV.fptr [HV.int .i64 p0.1, HV.int .i64 p0.2.1, slE eFromLabelTo p0.2.2] 0), (4, HV.int .i64 a3), (5, HV.ptr 22005 v71101 0), (17, HV.fptr [HV.int .i64 p0.1, HV.int .i64 p0.2.1, slE eFromLabelTo p0.2.2] 2), (20, HV.int .i64 (IntKind.wrap .i64 (a3 - 1))), (24, slE eFromLabelTo p0.2.2), (25, HV.int .i64 a3)], [(22005, v71101, .arr 3 49 [HV.int .i64 0, HV.int .i64 0, HV.int .i64 0])]⟩ := by
     intro v71101
     refine l_take (i := 9) hF rfl rfl rfl (v_idxF ty22 es22 rfl rfl (idx_lt h70902)) ?_
     exact l_go hF rfl (g7_65 v71101) (le_q rfl rfl)
    have g7_81 : ∀ (v71101 : Nat), F [0, 1, 2, 6, 7, 8, 11] ⟨[(1, HV.fptr [HV.int .i64 p0.1, HV.int .i64 p0.2.1, slE eFromLabelTo p0.2.2] 0), (4, HV.int .i64 a3), (5, HV.ptr 22005 v71101 0), (18, slE eFromLabelTo p0.2.2), (19, HV.int .i64 a3), (24, slE eFromLabelTo p0.2.2), (25, HV.int .i64 a3)], [(22005, v71101, .arr 3 49 [HV.int .i64 0, HV.int .i64 0, HV.int .i64 0])]⟩ := by
     intro v71101
     refine l_take (i := 9) hF rfl rfl rfl (v_idxF ty22 es22 rfl rfl (idx_lt h70902)) ?_
     exact l_go hF rfl (g7_64 v71101) (le_q rfl rfl)
    have g7_83 : F [0, 1, 2, 6, 7, 8, 9] ⟨[(1, HV.fptr [HV.int .i64 p0.1, HV.int .i64 p0.2.1, slE eFromLabelTo p0.2.2] 0), (4, HV.int .i64 a3), (18, slE eFromLabelTo p0.2.2), (19, HV.int .i64 a3), (26, HV.fptr (eFromLabelTo.E p0.2.2) ((a3).toNat * eFromLabelTo.k))], []⟩ := by
     refine l_step hF rfl [3, 10, 11, 12] rfl rfl ⟨?_, ?_, ?_, ?_, trivial⟩
     ·refine l_op rfl rfl rfl (o_val rfl (v_bin rfl rfl b_sub) ?_)
      exact b_nil (l_go hF rfl (g7_91) (le_q rfl rfl))
     ·refine l_op rfl rfl rfl (o_val rfl (v_loadF ty49 rfl (l_agg eFromLabelTo h70902 rfl rfl)) ?_)
      exact b_nil (l_go hF rfl (g7_86) (le_q rfl rfl))
     ·refine l_op rfl rfl rfl (o_alloc (fid := 22) (zs := [HV.int .i64 0, HV.int .i64 0, HV.int .i64 0]) 22005 rfl rfl ty49 rfl (fun v71101 => ?_))
      exact b_nil (l_go hF rfl (g7_64 v71101) (le_q rfl rfl))
     ·refine l_op rfl rfl rfl (o_alloc (fid := 22) (zs := [HV.int .i64 0, HV.int .i64 0, HV.int .i64 0]) 22006 rfl rfl ty49 rfl (fun v71201 => ?_))
      exact b_nil (l_go hF rfl (g7_42 v71201) (le_q rfl rfl))
    have g7_84 : F [0, 2, 3, 6, 7, 8, 9] ⟨[(1, HV.fptr [HV.int .i64 p0.1, HV.int .i64 p0.2.1, slE eFromLabelTo p0.2.2] 0), (4, HV.int .i64 a3), (17, HV.fptr [HV.int .i64 p0.1, HV.int .i64 p0.2.1, slE eFromLabelTo p0.2.2] 2), (20, HV.int .i64 (IntKind.wrap .i64 (a3 - 1))), (26, HV.fptr (eFromLabelTo.E p0.2.2) ((a3).toNat * eFromLabelTo.k))], []⟩ := by
     refine l_step hF rfl [1, 10, 11, 12] rfl rfl ⟨?_, ?_, ?_, ?_, trivial⟩
     ·refine l_op rfl rfl rfl (o_val rfl (v_loadF ty22 rfl (l_lit rfl rfl)) ?_)
      exact b_nil (l_go hF rfl (g7_91) (le_q rfl rfl))
     ·refine l_op rfl rfl rfl (o_val rfl (v_loadF ty49 rfl (l_agg eFromLabelTo h70902 rfl rfl)) ?_)
      exact b_nil (l_go hF rfl (g7_87) (le_q rfl rfl))
     ·refine l_op rfl rfl rfl (o_alloc (fid := 22) (zs := [HV.int .i64 0, HV.int .i64 0, HV.int .i64 0]) 22005 rfl rfl ty49 rfl (fun v71101 => ?_))
      exact b_nil (l_go hF rfl (g7_65 v71101) (le_q rfl rfl))
     ·refine l_op rfl rfl rfl (o_alloc (fid := 22) (zs := [HV.int .i64 0, HV.int .i64 0, HV.int .i64 0]) 22006 rfl rfl ty49 rfl (fun v71201 => ?_))
      exact b_nil (l_go hF rfl (g7_43 v71201) (le_q rfl rfl))
    have g7_85 : F [0, 2, 6, 7, 8, 9, 10] ⟨[(1, HV.fptr [HV.int .i64 p0.1, HV.int .i64 p0.2.1, slE eFromLabelTo p0.2.2] 0), (4, HV.int .i64 a3), (17, HV.fptr [HV.int .i64 p0.1, HV.int .i64 p0.2.1, slE eFromLabelTo p0.2.2] 2), (19, HV.int .i64 a3), (27, HV.agg [HV.int .i64 x70901.1, HV.int .i64 x70901.2.1, HV.int .i64 x70901.2.2])], []⟩ := by
     refine l_step hF rfl [1, 3, 11, 12] rfl rfl ⟨?_, ?_, ?_, ?_, trivial⟩
     ·refine l_op rfl rfl rfl (o_val rfl (v_loadF ty22 rfl (l_lit rfl rfl)) ?_)
      exact b_nil (l_go hF rfl (g7_86) (le_q rfl rfl))
     ·refine l_op rfl rfl rfl (o_val rfl (v_bin rfl rfl b_sub) ?_)
      exact b_nil (l_go hF rfl (g7_87) (le_q rfl rfl))
     ·refine l_op rfl rfl rfl (o_alloc (fid := 22) (zs := [HV.int .i64 0, HV.int .i64 0, HV.int .i64 0]) 22005 rfl rfl ty49 rfl (fun v71101 => ?_))
      exact b_nil (l_go hF rfl (g7_66 v71101) (le_q rfl rfl))
     ·refine l_op rfl rfl rfl (o_alloc (fid := 22) (zs := [HV.int .i64 0, HV.int .i64 0, HV.int .i64 0]) 22006 rfl rfl ty49 rfl (fun v71201 => ?_))
      exact b_nil (l_go hF rfl (g7_44 v71201) (le_q rfl rfl))
    have g7_96 : F [0, 1, 2, 3, 4, 6, 8] ⟨[(1, HV.fptr [HV.int .i64 p0.1, HV.int .i64 p0.2.1, slE eFromLabelTo p0.2.2] 0), (4, HV.int .i64 a3), (21, HV.fptr (eFromLabelTo.E p0.2.2) ((IntKind.wrap .i64 (a3 - 1)).toNat * eFromLabelTo.k)), (23, HV.fptr [HV.int .i64 p0.1, HV.int .i64 p0.2.1, slE eFromLabelTo p0.2.2] 2), (25, HV.int .i64 a3)], []⟩ := by
     refine l_step hF rfl [5, 7, 11, 12] rfl rfl ⟨?_, ?_, ?_, ?_, trivial⟩
     ·refine l_op rfl rfl rfl (o_val rfl (v_loadF ty49 rfl (l_agg eFromLabelTo h70402 rfl rfl)) ?_)
      exact b_nil (l_go hF rfl (g7_97) (le_q rfl rfl))
     ·refine l_op rfl rfl rfl (o_val rfl (v_loadF ty22 rfl (l_lit rfl rfl)) ?_)
      exact b_nil (l_go hF rfl (g7_98) (le_q rfl rfl))
     ·refine l_op rfl rfl rfl (o_alloc (fid := 22) (zs := [HV.int .i64 0, HV.int .i64 0, HV.int .i64 0]) 22005 rfl rfl ty49 rfl (fun v71101 => ?_))
      exact b_nil (l_go hF rfl (g7_77 v71101) (le_q rfl rfl))
     ·refine l_op rfl rfl rfl (o_alloc (fid := 22) (zs := [HV.int .i64 0, HV.int .i64 0, HV.int .i64 0]) 22006 rfl rfl ty49 rfl (fun v71201 => ?_))
      exact b_nil (l_go hF rfl (g7_55 v71201) (le_q rfl rfl))
    have g7_10 : ∀ (v71201 : Nat), F [0, 1, 2, 6, 8, 12] ⟨[(1, HV.fptr [HV.int .i64 p0.1, HV.int .i64 p0.2.1, slE eFromLabelTo p0.2.2] 0), (4, HV.int .i64 a3), (6, HV.ptr 22006 v71201 0), (18, slE eFromLabelTo p0.2.2), (19, HV.int .i64 a3), (23, HV.fptr [HV.int .i64 p0.1, HV.int .i64 p0.2.1, slE eFromLabelTo p0.2.2] 2), (25, HV.int .i64 a3)], [(22006, v71201, .arr 3 49 [HV.int .i64 0, HV.int .i64 0, HV.int .i64 0])]⟩ := by
     intro v71201
     refine l_step hF rfl [3, 7, 11] rfl rfl ⟨?_, ?_, ?_, trivial⟩
     ·refine l_op rfl rfl rfl (o_val rfl (v_bin rfl rfl b_sub) ?_)
      exact b_nil (l_go hF rfl (g7_53 v71201) (le_q rfl rfl))
     ·refine l_op rfl rfl rfl (o_val rfl (v_loadF ty22 rfl (l_lit rfl rfl)) ?_)
      exact b_nil (l_go hF rfl (g7_59 v71201) (le_q rfl rfl))
     ·refine l_op rfl rfl rfl (o_alloc (fid := 22) (zs := [HV.int .i64 0, HV.int .i64 0, HV.int .i64 0]) 22005 rfl rfl ty49 rfl (fun v71101 => ?_))
      exact b_nil (l_go hF rfl (g7_14 v71101 v71201) (le_q rfl rfl))
    have g7_11 : ∀ (v71201 : Nat), F [0, 2, 3, 6, 8, 12] ⟨[(1, HV.fptr [HV.int .i64 p0.1, HV.int .i64 p0.2.1, slE eFromLabelTo p0.2.2] 0), (4, HV.int .i64 a3), (6, HV.ptr 22006 v71201 0), (17, HV.fptr [HV.int .i64 p0.1, HV.int .i64 p0.2.1, slE eFromLabelTo p0.2.2] 2), (20, HV.int .i64 (IntKind.wrap .i64 (a3 - 1))), (23, HV.fptr [HV.int .i64 p0.1, HV.int .i64 p0.2.1, slE eFromLabelTo p0.2.2] 2), (25, HV.int .i64 a3)], [(22006, v71201, .arr 3 49 [HV.int .i64 0, HV.int .i64 0, HV.int .i64 0])]⟩ := by
     intro v71201
     refine l_step hF rfl [1, 7, 11] rfl rfl ⟨?_, ?_, ?_, trivial⟩
     ·refine l_op rfl rfl rfl (o_val rfl (v_loadF ty22 rfl (l_lit rfl rfl)) ?_)
      exact b_nil (l_go hF rfl (g7_53 v71201) (le_q rfl rfl))
     ·refine l_op rfl rfl rfl (o_val rfl (v_loadF ty22 rfl (l_lit rfl rfl)) ?_)
      exact b_nil (l_go hF rfl (g7_54 v71201) (le_q rfl rfl))
     ·refine l_op rfl rfl rfl (o_alloc (fid := 22) (zs := [HV.int .i64 0, HV.int .i64 0, HV.int .i64 0]) 22005 rfl rfl ty49 rfl (fun v71101 => ?_))
      exact b_nil (l_go hF rfl (g7_15 v71101 v71201) (le_q rfl rfl))
    have g7_12 : ∀ (v71201 : Nat), F [0, 2, 6, 7, 8, 12] ⟨[(1, HV.fptr [HV.int .i64 p0.1, HV.int .i64 p0.2.1, slE eFromLabelTo p0.2.2] 0), (4, HV.int .i64 a3), (6, HV.ptr 22006 v71201 0), (17, HV.fptr [HV.int .i64 p0.1, HV.int .i64 p0.2.1, slE eFromLabelTo p0.2.2] 2), (19, HV.int .i64 a3), (24, slE eFromLabelTo p0.2.2), (25, HV.int .i64 a3)], [(22006, v71201, .arr 3 49 [HV.int .i64 0, HV.int .i64 0, HV.int .i64 0])]⟩ := by
     intro v71201
     refine l_take (i := 9) hF rfl rfl rfl (v_idxF ty22 es22 rfl rfl (idx_lt h70902)) ?_
     exact l_go hF rfl (g7_41 v71201) (le_q rfl rfl)
    have g7_13 : ∀ (v71101 : Nat) (v71201 : Nat), F [0, 2, 6, 8, 11, 12] ⟨[(1, HV.fptr [HV.int .i64 p0.1, HV.int .i64 p0.2.1, slE eFromLabelTo p0.2.2] 0), (4, HV.int .i64 a3), (5, HV.ptr 22005 v71101 0), (6, HV.ptr 22006 v71201 0), (17, HV.fptr [HV.int .i64 p0.1, HV.int .i64 p0.2.1, slE eFromLabelTo p0.2.2] 2), (19, HV.int .i64 a3), (23, HV.fptr [HV.int .i64 p0.1, HV.int .i64 p0.2.1, slE eFromLabelTo p0.2.2] 2), (25, HV.int .i64 a3)], [(22005, v71101, .arr 3 49 [HV.int .i64 0, HV.int .i64 0, HV.int .i64 0]), (22006, v71201, .arr 3 49 [HV.int .i64 0, HV.int .i64 0, HV.int .i64 0])]⟩ := by
     intro v71101 v71201
     refine l_step hF rfl [1, 3, 7] rfl rfl ⟨?_, ?_, ?_, trivial⟩
     ·refine l_op rfl rfl rfl (o_val rfl (v_loadF ty22 rfl (l_lit rfl rfl)) ?_)
      exact b_nil (l_go hF rfl (g7_14 v71101 v71201) (le_q rfl rfl))
     ·refine l_op rfl rfl rfl (o_val rfl (v_bin rfl rfl b_sub) ?_)
      exact b_nil (l_go hF rfl (g7_15 v71101 v71201) (le_q rfl rfl))
     ·refine l_op rfl rfl rfl (o_val rfl (v_loadF ty22 rfl (l_lit rfl rfl)) ?_)
      exact b_nil (l_go hF rfl (g7_16 v71101 v71201) (le_q rfl rfl))
    have g7_60 : ∀ (v71101 : Nat), F [0, 1, 2, 6, 8, 11] ⟨[(1, HV.fptr [HV.int .i64 p0.1, HV.int .i64 p0.2.1, slE eFromLabelTo p0.2.2] 0), (4, HV.int .i64 a3), (5, HV.ptr 22005 v71101 0), (18, slE eFromLabelTo p0.2.2), (19, HV.int .i64 a3), (23, HV.fptr [HV.int .i64 p0.1, HV.int .i64 p0.2.1, slE eFromLabelTo p0.2.2] 2), (25, HV.int .i64 a3)], [(22005, v71101, .arr 3 49 [HV.int .i64 0, HV.int .i64 0, HV.int .i64 0])]⟩ := by
     intro v71101
     refine l_step hF rfl [3, 7, 12] rfl rfl ⟨?_, ?_, ?_, trivial⟩
     ·refine l_op rfl rfl rfl (o_val rfl (v_bin rfl rfl b_sub) ?_)
      exact b_nil (l_go hF rfl (g7_75 v71101) (le_q rfl rfl))
     ·refine l_op rfl rfl rfl (o_val rfl (v_loadF ty22 rfl (l_lit rfl rfl)) ?_)
      exact b_nil (l_go hF rfl (g7_81 v71101) (le_q rfl rfl))
     ·refine l_op rfl rfl rfl (o_alloc (fid := 22) (zs := [HV.int .i64 0, HV.int .i64 0, HV.int .i64 0]) 22006 rfl rfl ty49 rfl (fun v71201 => ?_))
      exact b_nil (l_go hF rfl (g7_14 v71101 v71201) (le_q rfl rfl))
    have g7_61 : ∀ (v71101 : Nat), F [0, 2, 3, 6, 8, 11] ⟨[(1, HV.fptr [HV.int .i64 p0.1, HV.int .i64 p0.2.1, slE eFromLabelTo p0.2.2] 0), (4, HV.int .i64 a3), (5, HV.ptr 22005 v71101 0), (17, HV.fptr [HV.int .i64 p0.1, HV.int .i64 p0.2.1, slE eFromLabelTo p0.2.2] 2), (20, HV.int .i64 (IntKind.wrap .i64 (a3 - 1))), (23, HV.fptr [HV.int .i64 p0.1, HV.int .i64 p0.2.1, slE eFromLabelTo p0.2.2] 2), (25, HV.int .i64 a3)], [(22005, v71101, .arr 3 49 [HV.int .i64 0, HV.int .i64 0, HV.int .i64 0])]⟩ := by
     intro v71101
     refine l_step hF rfl [1, 7, 12] rfl rfl ⟨?_, ?_, ?_, trivial⟩
     ·refine l_op rfl rfl rfl (o_val rfl (v_loadF ty22 rfl (l_lit rfl rfl)) ?_)
      exact b_nil (l_go hF rfl (g7_75 v71101) (le_q rfl rfl))
     ·refine l_op rfl rfl rfl (o_val rfl (v_loadF ty22 rfl (l_lit rfl rfl)) ?_)
      exact b_nil (l_go hF rfl (g7_76 v71101) (le_q rfl rfl))
     ·refine l_op rfl rfl rfl (o_alloc (fid := 22) (zs := [HV.int .i64 0, HV.int .i64 0, HV.int .i64 0]) 22006 rfl rfl ty49 rfl (fun v71201 => ?_))
      exact b_nil (l_go hF rfl (g7_15 v71101 v71201) (le_q rfl rfl))
    have g7_62 : ∀ (v71101 : Nat), F [0, 2, 6, 7, 8, 11] ⟨[(1, HV.fptr [HV.int .i64 p0.1, HV.int .i64 p0.2.1, slE eFromLabelTo p0.2.2] 0), (4, HV.int .i64 a3), (5, HV.ptr 22005 v71101 0), (17, HV.fptr [HV.int .i64 p0.1, HV.int .i64 p0.2.1, slE eFromLabelTo p0.2.2] 2), (19, HV.int .i64 a3), (24, slE eFromLabelTo p0.2.2), (25, HV.int .i64 a3)], [(22005, v71101, .arr 3 49 [HV.int .i64 0, HV.int .i64 0, HV.int .i64 0])]⟩ := by
     intro v71101
     refine l_take (i := 9) hF rfl rfl rfl (v_idxF ty22 es22 rfl rfl (idx_lt h70902)) ?_
     exact l_go hF rfl (g7_63 v71101) (le_q rfl rfl)
    have g7_82 : F [0, 2, 6, 7, 8, 9] ⟨[(1, HV.fptr [HV.int .i64 p0.1, HV.int .i64 p0.2.1, slE eFromLabelTo p0.2.2] 0), (4, HV.int .i64 a3), (17, HV.fptr [HV.int .i64 p0.1, HV.int .i64 p0.2.1, slE eFromLabelTo p0.2.2] 2), (19, HV.int .i64 a3), (26, HV.fptr (eFromLabelTo.E p0.2.2) ((a3).toNat * eFromLabelTo.k))], []⟩ := by
     refine l_step hF rfl [1, 3, 10, 11, 12] rfl rfl ⟨?_, ?_, ?_, ?_, ?_, trivial⟩
     ·refine l_op rfl rfl rfl (o_val rfl (v_loadF ty22 rfl (l_lit rfl rfl)) ?_)
      exact b_nil (l_go hF rfl (g7_83) (le_q rfl rfl))
     ·refine l_op rfl rfl rfl (o_val rfl (v_bin rfl rfl b_sub) ?_)
      exact b_nil (l_go hF rfl (g7_84) (le_q rfl rfl))
     ·refine l_op rfl rfl rfl (o_val rfl (v_loadF ty49 rfl (l_agg eFromLabelTo h70902 rfl rfl)) ?_)
      exact b_nil (l_go hF rfl (g7_85) (le_q rfl rfl))
     ·refine l_op rfl rfl rfl (o_alloc (fid := 22) (zs := [HV.int .i64 0, HV.int .i64 0, HV.int .i64 0]) 22005 rfl rfl ty49 rfl (fun v71101 => ?_))
      exact b_nil (l_go hF rfl (g7_63 v71101) (le_q rfl rfl))
     ·refine l_op rfl rfl rfl (o_alloc (fid := 22) (zs := [HV.int .i64 0, HV.int .i64 0, HV.int .i64 0]) 22006 rfl rfl ty49 rfl (fun v71201 => ?_))
      exact b_nil (l_go hF rfl (g7_41 v71201) (le_q rfl rfl))
    have g7_94 : F [0, 1, 2, 3, 6, 8] ⟨[(1, HV.fptr [HV.int .i64 p0.1, HV.int .i64 p0.2.1, slE eFromLabelTo p0.2.2] 0), (4, HV.int .i64 a3), (18, slE eFromLabelTo p0.2.2), (20, HV.int .i64 (IntKind.wrap .i64 (a3 - 1))), (23, HV.fptr [HV.int .i64 p0.1, HV.int .i64 p0.2.1, slE eFromLabelTo p0.2.2] 2), (25, HV.int .i64 a3)], []⟩ := by
     refine l_take (i := 4) hF rfl rfl rfl (v_idxF ty22 es22 rfl rfl (idx_lt h70402)) ?_
     exact l_go hF rfl (g7_96) (le_q rfl rfl)
    have g7_95 : F [0, 2, 3, 6, 7, 8] ⟨[(1, HV.fptr [HV.int .i64 p0.1, HV.int .i64 p0.2.1, slE eFromLabelTo p0.2.2] 0), (4, HV.int .i64 a3), (17, HV.fptr [HV.int .i64 p0.1, HV.int .i64 p0.2.1, slE eFromLabelTo p0.2.2] 2), (20, HV.int .i64 (IntKind.wrap .i64 (a3 - 1))), (24, slE eFromLabelTo p0.2.2), (25, HV.int .i64 a3)], []⟩ := by
     refine l_take (i := 9) hF rfl rfl rfl (v_idxF ty22 es22 rfl rfl (idx_lt h70902)) ?_
     exact l_go hF rfl (g7_84) (le_q rfl rfl)
    have g7_100 : F [0, 1, 2, 6, 7, 8] ⟨[(1, HV.fptr [HV.int .i64 p0.1, HV.int .i64 p0.2.1, slE eFromLabelTo p0.2.2] 0), (4, HV.int .i64 a3), (18, slE eFromLabelTo p0.2.2), (19, HV.int .i64 a3), (24, slE eFromLabelTo p0.2.2), (25, HV.int .i64 a3)], []⟩ := by
     refine l_take (i := 9) hF rfl rfl rfl (v_idxF ty22 es22 rfl rfl (idx_lt h70902)) ?_
     exact l_go hF rfl (g7_83) (le_q rfl rfl)
    have g7_5 : F [0, 1, 2, 6, 8] ⟨[(1, HV.fptr [HV.int .i64 p0.1, HV.int .i64 p0.2.1, slE eFromLabelTo p0.2.2] 0), (4, HV.int .i64 a3), (18, slE eFromLabelTo p0.2.2), (19, HV.int .i64 a3), (23, HV.fptr [HV.int .i64 p0.1, HV.int .i64 p0.2.1, slE eFromLabelTo p0.2.2] 2), (25, HV.int .i64 a3)], []⟩ := by
     refine l_step hF rfl [3, 7, 11, 12] rfl rfl ⟨?_, ?_, ?_, ?_, trivial⟩
     ·refine l_op rfl rfl rfl (o_val rfl (v_bin rfl rfl b_sub) ?_)
      exact b_nil (l_go hF rfl (g7_94) (le_q rfl rfl))
     ·refine l_op rfl rfl rfl (o_val rfl (v_loadF ty22 rfl (l_lit rfl rfl)) ?_)
      exact b_nil (l_go hF rfl (g7_100) (le_q rfl rfl))
     ·refine l_op rfl rfl rfl (o_alloc (fid := 22) (zs := [HV.int .i64 0, HV.int .i64 0, HV.int .i64 0]) 22005 rfl rfl ty49 rfl (fun v71101 => ?_))
      exact b_nil (l_go hF rfl (g7_60 v71101) (le_q rfl rfl))
     ·refine l_op rfl rfl rfl (o_alloc (fid := 22) (zs := [HV.int .i64 0, HV.int .i64 0, HV.int .i64 0]) 22006 rfl rfl ty49 rfl (fun v71201 => ?_))
      exact b_nil (l_go hF rfl (g7_10 v71201) (le_q rfl rfl))
    have g7_6 : F [0, 2, 3, 6, 8] ⟨[(1, HV.fptr [HV.int .i64 p0.1, HV.int .i64 p0.2.1, slE eFromLabelTo p0.2.2] 0), (4, HV.int .i64 a3), (17, HV.fptr [HV.int .i64 p0.1, HV.int .i64 p0.2.1, slE eFromLabelTo p0.2.2] 2), (20, HV.int .i64 (IntKind.wrap .i64 (a3 - 1))), (23, HV.fptr [HV.int .i64 p0.1, HV.int .i64 p0.2.1, slE eFromLabelTo p0.2.2] 2), (25, HV.int .i64 a3)], []⟩ := by
     refine l_step hF rfl [1, 7, 11, 12] rfl rfl ⟨?_, ?_, ?_, ?_, trivial⟩
     ·refine l_op rfl rfl rfl (o_val rfl (v_loadF ty22 rfl (l_lit rfl rfl)) ?_)
      exact b_nil (l_go hF rfl (g7_94) (le_q rfl rfl))
     ·refine l_op rfl rfl rfl (o_val rfl (v_loadF ty22 rfl (l_lit rfl rfl)) ?_)
      exact b_nil (l_go hF rfl (g7_95) (le_q rfl rfl))
     ·refine l_op rfl rfl rfl (o_alloc (fid := 22) (zs := [HV.int .i64 0, HV.int .i64 0, HV.int .i64 0]) 22005 rfl rfl ty49 rfl (fun v71101 => ?_))
      exact b_nil (l_go hF rfl (g7_61 v71101) (le_q rfl rfl))
     ·refine l_op rfl rfl rfl (o_alloc (fid := 22) (zs := [HV.int .i64 0, HV.int .i64 0, HV.int .i64 0]) 22006 rfl rfl ty49 rfl (fun v71201 => ?_))
      exact b_nil (l_go hF rfl (g7_11 v71201) (le_q rfl rfl))
    have g7_7 : F [0, 2, 6, 7, 8] ⟨[(1, HV.fptr [HV.int .i64 p0.1, HV.int .i64 p0.2.1, slE eFromLabelTo p0.2.2] 0), (4, HV.int .i64 a3), (17, HV.fptr [HV.int .i64 p0.1, HV.int .i64 p0.2.1, slE eFromLabelTo p0.2.2] 2), (19, HV.int .i64 a3), (24, slE eFromLabelTo p0.2.2), (25, HV.int .i64 a3)], []⟩ := by
     refine l_take (i := 9) hF rfl rfl rfl (v_idxF ty22 es22 rfl rfl (idx_lt h70902)) ?_
     exact l_go hF rfl (g7_82) (le_q rfl rfl)
    have g7_8 : ∀ (v71101 : Nat), F [0, 2, 6, 8, 11] ⟨[(1, HV.fptr [HV.int .i64 p0.1, HV.int .i64 p0.2.1, slE eFromLabelTo p0.2.2] 0), (4, HV.int .i64 a3), (5, HV.ptr 22005 v71101 0), (17, HV.fptr [HV.int .i64 p0.1, HV.int .i64 p0.2.1, slE eFromLabelTo p0.2.2] 2), (19, HV.int .i64 a3), (23, HV.fptr [HV.int .i64 p0.1, HV.int .i64 p0.2.1, slE eFromLabelTo p0.2.2] 2), (25, HV.int .i64 a3)], [(22005, v71101, .arr 3 49 [HV.int .i64 0, HV.int .i64 0, HV.int .i64 0])]⟩ := by
     intro v71101
     refine l_step hF rfl [1, 3, 7, 12] rfl rfl ⟨?_, ?_, ?_, ?_, trivial⟩
     ·refine l_op rfl rfl rfl (o_val rfl (v_loadF ty22 rfl (l_lit rfl rfl)) ?_)
      exact b_nil (l_go hF rfl (g7_60 v71101) (le_q rfl rfl))
     ·refine l_op rfl rfl rfl (o_val rfl (v_bin rfl rfl b_sub) ?_)
      exact b_nil (l_go hF rfl (g7_61 v71101) (le_q rfl rfl))
     ·refine l_op rfl rfl rfl (o_val rfl (v_loadF ty22 rfl (l_lit rfl rfl)) ?_)
      exact b_nil (l_go hF rfl (g7_62 v71101) (le_q rfl rfl))
     ·refine l_op rfl rfl rfl (o_alloc (fid := 22) (zs := [HV.int .i64 0, HV.int .i64 0, HV.int .i64 0]) 22006 rfl rfl ty49 rfl (fun v71201 => ?_))
      exact b_nil (l_go hF rfl (g7_13 v71101 v71201) (le_q rfl rfl))
    have g7_9 : ∀ (v71201 : Nat), F [0, 2, 6, 8, 12] ⟨[(1, HV.fptr [HV.int .i64 p0.1, HV.int .i64 p0.2.1, slE eFromLabelTo p0.2.2] 0), (4, HV.int .i64 a3), (6, HV.ptr 22006 v71201 0), (17, HV.fptr [HV.int .i64 p0.1, HV.int .i64 p0.2.1, slE eFromLabelTo p0.2.2] 2), (19, HV.int .i64 a3), (23, HV.fptr [HV.int .i64 p0.1, HV.int .i64 p0.2.1, slE eFromLabelTo p0.2.2] 2), (25, HV.int .i64 a3)], [(22006, v71201, .arr 3 49 [HV.int .i64 0, HV.int .i64 0, HV.int .i64 0])]⟩ := by
     intro v71201
     refine l_step hF rfl [1, 3, 7, 11] rfl rfl ⟨?_, ?_, ?_, ?_, trivial⟩
     ·refine l_op rfl rfl rfl (o_val rfl (v_loadF ty22 rfl (l_lit rfl rfl)) ?_)
      exact b_nil (l_go hF rfl (g7_10 v71201) (le_q rfl rfl))
     ·refine l_op rfl rfl rfl (o_val rfl (v_bin rfl rfl b_sub) ?_)
      exact b_nil (l_go hF rfl (g7_11 v71201) (le_q rfl rfl))
     ·refine l_op rfl rfl rfl (o_val rfl (v_loadF ty22 rfl (l_lit rfl rfl)) ?_)
      exact b_nil (l_go hF rfl (g7_12 v71201) (le_q rfl rfl))
     ·refine l_op rfl rfl rfl (o_alloc (fid := 22) (zs := [HV.int .i64 0, HV.int .i64 0, HV.int .i64 0]) 22005 rfl rfl ty49 rfl (fun v71101 => ?_))
      exact b_nil (l_go hF rfl (g7_13 v71101 v71201) (le_q rfl rfl))
    have g7_4 : F [0, 2, 6, 8] ⟨[(1, HV.fptr [HV.int .i64 p0.1, HV.int .i64 p0.2.1, slE eFromLabelTo p0.2.2] 0), (4, HV.int .i64 a3), (17, HV.fptr [HV.int .i64 p0.1, HV.int .i64 p0.2.1, slE eFromLabelTo p0.2.2] 2), (19, HV.int .i64 a3), (23, HV.fptr [HV.int .i64 p0.1, HV.int .i64 p0.2.1, slE eFromLabelTo p0.2.2] 2), (25, HV.int .i64 a3)], []⟩ := by
     refine l_step hF rfl [1, 3, 7, 11, 12] rfl rfl ⟨?_, ?_, ?_, ?_, ?_, trivial⟩
     ·refine l_op rfl rfl rfl (o_val rfl (v_loadF ty22 rfl (l_lit rfl rfl)) ?_)
      exact b_nil (l_go hF rfl (g7_5) (le_q rfl rfl))
     ·refine l_op rfl rfl rfl (o_val rfl (v_bin rfl rfl b_sub) ?_)
      exact b_nil (l_go hF rfl (g7_6) (le_q rfl rfl))
     ·refine l_op rfl rfl rfl (o_val rfl (v_loadF ty22 rfl (l_lit rfl rfl)) ?_)
      exact b_nil (l_go hF rfl (g7_7) (le_q rfl rfl))
     ·refine l_op rfl rfl rfl (o_alloc (fid := 22) (zs := [HV.int .i64 0, HV.int .i64 0, HV.int .i64 0]) 22005 rfl rfl ty49 rfl (fun v71101 => ?_))
      exact b_nil (l_go hF rfl (g7_8 v71101) (le_q rfl rfl))
     ·refine l_op rfl rfl rfl (o_alloc (fid := 22) (zs := [HV.int .i64 0, HV.int .i64 0, HV.int .i64 0]) 22006 rfl rfl ty49 rfl (fun v71201 => ?_))
      exact b_nil (l_go hF rfl (g7_9 v71201) (le_q rfl rfl))
    have g7_3 : F [0, 2, 6] ⟨[(1, HV.fptr [HV.int .i64 p0.1, HV.int .i64 p0.2.1, slE eFromLabelTo p0.2.2] 0), (4, HV.int .i64 a3), (17, HV.fptr [HV.int .i64 p0.1, HV.int .i64 p0.2.1, slE eFromLabelTo p0.2.2] 2), (19, HV.int .i64 a3), (23, HV.fptr [HV.int .i64 p0.1, HV.int .i64 p0.2.1, slE eFromLabelTo p0.2.2] 2)], []⟩ := by
     refine l_take (i := 8) hF rfl rfl rfl (mv_val rfl rfl).2 ?_
     exact l_go hF rfl (g7_4) (le_q rfl rfl)
    have g7_2 : F [0, 2] ⟨[(1, HV.fptr [HV.int .i64 p0.1, HV.int .i64 p0.2.1, slE eFromLabelTo p0.2.2] 0), (4, HV.int .i64 a3), (17, HV.fptr [HV.int .i64 p0.1, HV.int .i64 p0.2.1, slE eFromLabelTo p0.2.2] 2), (19, HV.int .i64 a3)], []⟩ := by
     refine l_take (i := 6) hF rfl rfl rfl (v_fieldAddrF fo24_2 rfl) ?_
     exact l_go hF rfl (g7_3) (le_q rfl rfl)
    have g7_1 : F [0] ⟨[(1, HV.fptr [HV.int .i64 p0.1, HV.int .i64 p0.2.1, slE eFromLabelTo p0.2.2] 0), (4, HV.int .i64 a3), (17, HV.fptr [HV.int .i64 p0.1, HV.int .i64 p0.2.1, slE eFromLabelTo p0.2.2] 2)], []⟩ := by
     refine l_take (i := 2) hF rfl rfl rfl (mv_val rfl rfl).2 ?_
     exact l_go hF rfl (g7_2) (le_q rfl rfl)
    have g7_0 : F [] ⟨[(1, HV.fptr [HV.int .i64 p0.1, HV.int .i64 p0.2.1, slE eFromLabelTo p0.2.2] 0), (4, HV.int .i64 a3)], []⟩ := by
     refine l_take (i := 0) hF rfl rfl rfl (v_fieldAddrF fo24_2 rfl) ?_
     exact l_go hF rfl (g7_1) (le_q rfl rfl)
    exact g7_0
   ·have hc := of_decide_eq_false hc
    have h := ifF hc h
    refine AW.exit ?_
    exact to_le (s' := ⟨[], []⟩) (AS.le_of trivial trivial) ⟨(), (), h, rfl⟩

end Go.AW

namespace Go.AW
open Go Go.Proofs
set_option linter.unusedVariables false
set_option maxHeartbeats 1600000 in
set_option maxRecDepth 100000 in
theorem w_ref09_Compare {p0 : TFromLabelTo} {p1 : TFromLabelTo} {r : Int} (h : m_ref09_Compare p0 p1 = some r) : Pure Tryd.prog 45 [HV.agg [HV.int .i64 p0.1, HV.int .i64 p0.2.1, HV.int .i64 p0.2.2], HV.agg [HV.int .i64 p1.1, HV.int .i64 p1.2.1, HV.int .i64 p1.2.2]] (· = HV.int .i64 r) := by
 unfold m_ref09_Compare at h
 refine Pure.of_body Tryd.func45 rfl rfl (Nat.le_of_ble_eq_true rfl) fun hf => ?_
 unfold Tryd.f45
 dsimp only [enumS, Nat.reduceAdd]
 refine AW.rgs rfl fun K hK => ?_
 refine b_op rfl (o_box rfl rfl rfl ?_)
 refine b_op rfl (o_box rfl rfl rfl ?_)
 refine mv rfl rfl ?_
 refine b_fin hK (s' := ⟨[(2, HV.fptr [HV.int .i64 p0.1, HV.int .i64 p0.2.1, HV.int .i64 p0.2.2] 0), (3, HV.fptr [HV.int .i64 p1.1, HV.int .i64 p1.2.1, HV.int .i64 p1.2.2] 0)], []⟩) (le_q rfl rfl) ?_
 clear hK K
 refine AW.dgs 16 follows rfl rfl fun K hK => ?_
 refine sv rfl (v_fieldAddrF fo49_0 rfl) ?_
 refine sv rfl (v_loadF ty3 rfl (l_lit rfl rfl)) ?_
 refine sv rfl (v_fieldAddrF fo49_1 rfl) ?_
 refine sv rfl (v_loadF ty3 rfl (l_lit rfl rfl)) ?_
 refine sv rfl (v_fieldAddrF fo49_2 rfl) ?_
 refine sv rfl (v_loadF ty3 rfl (l_lit rfl rfl)) ?_
 refine s_op rfl rfl (ops_bsl rfl rfl (as_of (cs := [HV.int .i64 p0.1, HV.int .i64 p0.2.1, HV.int .i64 p0.2.2]) ty30 ty3 rfl rfl rfl rfl rfl) ?_)
 refine sv rfl (v_fieldAddrF fo49_0 rfl) ?_
 refine sv rfl (v_loadF ty3 rfl (l_lit rfl rfl)) ?_
 refine sv rfl (v_fieldAddrF fo49_1 rfl) ?_
 refine sv rfl (v_loadF ty3 rfl (l_lit rfl rfl)) ?_
 refine sv rfl (v_fieldAddrF fo49_2 rfl) ?_
 refine sv rfl (v_loadF ty3 rfl (l_lit rfl rfl)) ?_
 refine s_op rfl rfl (ops_bsl rfl rfl (as_of (cs := [HV.int .i64 p1.1, HV.int .i64 p1.2.1, HV.int .i64 p1.2.2]) ty30 ty3 rfl rfl rfl rfl rfl) ?_)
 refine sm rfl rfl ?_
 refine sm rfl rfl ?_
 refine s_nil ?_
 refine b_fin hK (s' := ⟨[(5, slE eInt [p0.1, p0.2.1, p0.2.2]), (6, slE eInt [p1.1, p1.2.1, p1.2.2])], []⟩) (le_q rfl rfl) ?_
 clear hK K
 refine AW.seq ?_
 refine AW.rgs rfl fun K hK => ?_
 refine mv rfl rfl ?_
 refine b_fin hK (s' := ⟨[(5, slE eInt [p0.1, p0.2.1, p0.2.2]), (6, slE eInt [p1.1, p1.2.1, p1.2.2]), (7, HV.int .i64 0)], []⟩) (le_q rfl rfl) ?_
 clear hK K
 refine AW.lpR h (by first | exact up_then | exact up_to) (S := Int) (V := Unit) (fun a v => ⟨[(5, slE eInt [p0.1, p0.2.1, p0.2.2]), (6, slE eInt [p1.1, p1.2.1, p1.2.2]), (7, HV.int .i64 a)], []⟩) ?_ (X := Unit) (W := Unit) (fun a v => ⟨[], []⟩) (fun a13 w14 h => ?_) (fun a1 w2 st3 h hr4=> ?_)
 ·exact to_le (s' := ⟨[(5, slE eInt [p0.1, p0.2.1, p0.2.2]), (6, slE eInt [p1.1, p1.2.1, p1.2.2]), (7, HV.int .i64 0)], []⟩) (AS.le_of ⟨rfl, rfl, rfl, trivial⟩ trivial) ⟨(), rfl⟩
 ·refine AW.rgs rfl fun K hK => ?_
  refine mv rfl rfl ?_
  refine b_fin hK (s' := ⟨[(4, HV.int .i64 0)], []⟩) (le_q rfl rfl) ?_
  clear hK K
  refine AW.ret ?_
  have h := Option.some.inj h
  subst h
  exact ret_pure (hs := [HV.int .i64 0]) (q := HV.int .i64 0) (.inr rfl) (resT rfl rfl) rfl trivial
 ·refine AW.seq ?_
  refine AW.rgs rfl fun K hK => ?_
  refine mv rfl rfl ?_
  refine bv rfl (v_bin rfl rfl b_lss) ?_
  refine b_fin hK (s' := ⟨[(5, slE eInt [p0.1, p0.2.1, p0.2.2]), (6, slE eInt [p1.1, p1.2.1, p1.2.2]), (7, HV.int .i64 a1), (23, HV.bool (decide (a1 < 3)))], []⟩) (le_q rfl rfl) ?_
  clear hK K
  refine AW.cond rfl (fun hc => ?_) (fun hc => ?_)
  ·have hc := of_decide_eq_true hc
   have h := ifT hc h
   refine AW.skip ?_
   refine AW.seq (AW.block ?_)
   refine AW.seq ?_
   refine AW.dgs 9 follows rfl rfl fun K hK => ?_
   refine sm rfl rfl ?_
   refine sm rfl rfl ?_
   obtain ⟨x5, h6, h⟩ := bS h
   refine sv rfl (v_idxF ty30 es30 rfl rfl (idx_lt h6)) ?_
   refine sv rfl (v_loadF ty3 rfl (l_cell eInt h6 (o := 0) rfl rfl)) ?_
   refine sm rfl rfl ?_
   refine sm rfl rfl ?_
   obtain ⟨x7, h8, h⟩ := bS h
   refine sv rfl (v_idxF ty30 es30 rfl rfl (idx_lt h8)) ?_
   refine sv rfl (v_loadF ty3 rfl (l_cell eInt h8 (o := 0) rfl rfl)) ?_
   refine sv rfl (v_bin rfl rfl b_lss) ?_
   refine s_nil ?_
   refine b_fin hK (s' := ⟨[(5, slE eInt [p0.1, p0.2.1, p0.2.2]), (6, slE eInt [p1.1, p1.2.1, p1.2.2]), (7, HV.int .i64 a1), (34, HV.bool (decide (x5 < x7)))], []⟩) (le_q rfl rfl) ?_
   clear hK K
   refine AW.cond rfl (fun hc => ?_) (fun hc => ?_)
   ·have hc := of_decide_eq_true hc
    have h := ifT hc h
    refine AW.rgs rfl fun K hK => ?_
    refine mv rfl rfl ?_
    refine b_fin hK (s' := ⟨[(4, HV.int .i64 (-1))], []⟩) (le_q rfl rfl) ?_
    clear hK K
    have h := hr4 _ h
    refine AW.ret ?_
    have h := Option.some.inj h
    subst h
    exact ret_pure (hs := [HV.int .i64 (-1)]) (q := HV.int .i64 (-1)) (.inr rfl) (resT rfl rfl) rfl trivial
   ·have hc := of_decide_eq_false hc
    have h := ifF hc h
    refine AW.skip ?_
    refine AW.dgs 9 follows rfl rfl fun K hK => ?_
    refine sm rfl rfl ?_
    refine sm rfl rfl ?_
    obtain ⟨x9, h10, h⟩ := bS h
    refine sv rfl (v_idxF ty30 es30 rfl rfl (idx_lt h10)) ?_
    refine sv rfl (v_loadF ty3 rfl (l_cell eInt h10 (o := 0) rfl rfl)) ?_
    refine sm rfl rfl ?_
    refine sm rfl rfl ?_
    obtain ⟨x11, h12, h⟩ := bS h
    refine sv rfl (v_idxF ty30 es30 rfl rfl (idx_lt h12)) ?_
    refine sv rfl (v_loadF ty3 rfl (l_cell eInt h12 (o := 0) rfl rfl)) ?_
    refine sv rfl (v_bin rfl rfl b_gtr) ?_
    refine s_nil ?_
    refine b_fin hK (s' := ⟨[(5, slE eInt [p0.1, p0.2.1, p0.2.2]), (6, slE eInt [p1.1, p1.2.1, p1.2.2]), (7, HV.int .i64 a1), (43, HV.bool (decide (x11 < x9)))], []⟩) (le_q rfl rfl) ?_
    clear hK K
    refine AW.cond rfl (fun hc => ?_) (fun hc => ?_)
    ·have hc := of_decide_eq_true hc
     have h := ifT hc h
     refine AW.rgs rfl fun K hK => ?_
     refine mv rfl rfl ?_
     refine b_fin hK (s' := ⟨[(4, HV.int .i64 1)], []⟩) (le_q rfl rfl) ?_
     clear hK K
     have h := hr4 _ h
     refine AW.ret ?_
     have h := Option.some.inj h
     subst h
     exact ret_pure (hs := [HV.int .i64 1]) (q := HV.int .i64 1) (.inr rfl) (resT rfl rfl) rfl trivial
    ·have hc := of_decide_eq_false hc
     have h := ifF hc h
     refine AW.skip ?_
     refine AW.rg rfl fun K hK => ?_
     refine mv rfl rfl ?_
     refine bv rfl (v_bin rfl rfl b_add) ?_
     refine mv rfl rfl ?_
     refine b_nil (hK _ ?_)
     clear hK K
     exact to_le (s' := ⟨[(5, slE eInt [p0.1, p0.2.1, p0.2.2]), (6, slE eInt [p1.1, p1.2.1, p1.2.2]), (7, HV.int .i64 (IntKind.wrap .i64 (a1 + 1)))], []⟩) (AS.le_of ⟨rfl, rfl, rfl, trivial⟩ trivial) ⟨IntKind.wrap .i64 (a1 + 1), (), h, rfl⟩
  ·have hc := of_decide_eq_false hc
   have h := ifF hc h
   refine AW.exit ?_
   exact to_le (s' := ⟨[], []⟩) (AS.le_of trivial trivial) ⟨(), (), h, rfl⟩

set_option maxHeartbeats 1600000 in
set_option maxRecDepth 100000 in
theorem w_ref09_Check {p0 : TLabelsStatesEdges} {r : Int} (h : m_ref09_Check p0 = some r) : Pure Tryd.prog 23 [HV.agg [HV.int .i64 p0.1, HV.int .i64 p0.2.1, slE eFromLabelTo p0.2.2]] (· = HV.int .i64 r) := by
 unfold m_ref09_Check at h
 refine Pure.of_body Tryd.func23 rfl rfl (Nat.le_of_ble_eq_true rfl) fun hf => ?_
 unfold Tryd.f23
 dsimp only [enumS, Nat.reduceAdd]
 refine AW.rgs rfl fun K hK => ?_
 refine b_op rfl (o_box rfl rfl rfl ?_)
 refine mv rfl rfl ?_
 refine b_fin hK (s' := ⟨[(1, HV.fptr [HV.int .i64 p0.1, HV.int .i64 p0.2.1, slE eFromLabelTo p0.2.2] 0)], []⟩) (le_q rfl rfl) ?_
 clear hK K
 refine AW.seq ?_
 refine AW.seqJ h (S := Bool) (V := Unit) (fun a v => ⟨[(1, HV.fptr [HV.int .i64 p0.1, HV.int .i64 p0.2.1, slE eFromLabelTo p0.2.2] 0), (12, HV.bool a)], []⟩) (fun a1 w2 h => ?_) (fun k3 h => ?_)
 ·refine AW.cond rfl (fun hc => ?_) (fun hc => ?_)
  ·have h := ifT hc h
   refine AW.rgs rfl fun K hK => ?_
   refine mv rfl rfl ?_
   refine b_fin hK (s' := ⟨[(2, HV.int .i64 12)], []⟩) (le_q rfl rfl) ?_
   clear hK K
   refine AW.ret ?_
   have h := Option.some.inj h
   subst h
   exact ret_pure (hs := [HV.int .i64 12]) (q := HV.int .i64 12) (.inr rfl) (resT rfl rfl) rfl trivial
  ·have h := ifF (bF' hc) h
   refine AW.skip ?_
   refine AW.seq ?_
   refine AW.rgs rfl fun K hK => ?_
   refine bv rfl (v_fieldAddrF fo24_1 rfl) ?_
   refine bv rfl (v_loadF ty3 rfl (l_lit rfl rfl)) ?_
   refine bv rfl (v_bin rfl rfl b_lss) ?_
   refine b_fin hK (s' := ⟨[(1, HV.fptr [HV.int .i64 p0.1, HV.int .i64 p0.2.1, slE eFromLabelTo p0.2.2] 0), (15, HV.bool (decide (p0.2.1 < 0)))], []⟩) (le_q rfl rfl) ?_
   clear hK K
   refine AW.cond rfl (fun hc => ?_) (fun hc => ?_)
   ·have hc := of_decide_eq_true hc
    have h := ifT hc h
    refine AW.rgs rfl fun K hK => ?_
    refine mv rfl rfl ?_
    refine b_fin hK (s' := ⟨[(2, HV.int .i64 2)], []⟩) (le_q rfl rfl) ?_
    clear hK K
    refine AW.ret ?_
    have h := Option.some.inj h
    subst h
    exact ret_pure (hs := [HV.int .i64 2]) (q := HV.int .i64 2) (.inr rfl) (resT rfl rfl) rfl trivial
   ·have hc := of_decide_eq_false hc
    have h := ifF hc h
    refine AW.skip ?_
    refine AW.seq ?_
    refine AW.seqJ h (S := Bool) (V := Unit) (fun a v => ⟨[(1, HV.fptr [HV.int .i64 p0.1, HV.int .i64 p0.2.1, slE eFromLabelTo p0.2.2] 0), (24, HV.bool a)], []⟩) (fun a4 w5 h => ?_) (fun k6 h => ?_)
    ·refine AW.cond rfl (fun hc => ?_) (fun hc => ?_)
     ·have h := ifT hc h
      refine AW.rgs rfl fun K hK => ?_
      refine mv rfl rfl ?_
      refine b_fin hK (s' := ⟨[(2, HV.int .i64 4)], []⟩) (le_q rfl rfl) ?_
      clear hK K
      refine AW.ret ?_
      have h := Option.some.inj h
      subst h
      exact ret_pure (hs := [HV.int .i64 4]) (q := HV.int .i64 4) (.inr rfl) (resT rfl rfl) rfl trivial
     ·have h := ifF (bF' hc) h
      refine AW.skip ?_
      refine AW.seq ?_
      refine AW.rgs rfl fun K hK => ?_
      refine mv rfl rfl ?_
      refine b_fin hK (s' := ⟨[(1, HV.fptr [HV.int .i64 p0.1, HV.int .i64 p0.2.1, slE eFromLabelTo p0.2.2] 0), (3, HV.int .i64 0)], []⟩) (le_q rfl rfl) ?_
      clear hK K
      refine AW.lpR h (by first | exact up_then | exact up_to) (S := Int) (V := Unit) (fun a v => ⟨[(1, HV.fptr [HV.int .i64 p0.1, HV.int .i64 p0.2.1, slE eFromLabelTo p0.2.2] 0), (3, HV.int .i64 a)], []⟩) ?_ (X := Unit) (W := Unit) (fun a v => ⟨[], []⟩) (fun a30 w31 h => ?_) (fun a7 w8 st9 h hr10=> ?_)
      ·exact to_le (s' := ⟨[(1, HV.fptr [HV.int .i64 p0.1, HV.int .i64 p0.2.1, slE eFromLabelTo p0.2.2] 0), (3, HV.int .i64 0)], []⟩) (AS.le_of ⟨rfl, rfl, trivial⟩ trivial) ⟨(), rfl⟩
      ·refine AW.rgs rfl fun K hK => ?_
       refine mv rfl rfl ?_
       refine b_fin hK (s' := ⟨[(2, HV.int .i64 0)], []⟩) (le_q rfl rfl) ?_
       clear hK K
       refine AW.ret ?_
       have h := Option.some.inj h
       subst h
       exact ret_pure (hs := [HV.int .i64 0]) (q := HV.int .i64 0) (.inr rfl) (resT rfl rfl) rfl trivial
      ·refine AW.seq ?_
       refine AW.rgs rfl fun K hK => ?_
       refine mv rfl rfl ?_
       refine bv rfl (v_fieldAddrF fo24_2 rfl) ?_
       refine bv rfl (v_loadF ty22 rfl (l_lit rfl rfl)) ?_
       refine bv rfl (v_lenF rfl rfl ty22 rfl) ?_
       refine bv rfl (v_bin rfl rfl b_lss) ?_
       refine b_fin hK (s' := ⟨[(1, HV.fptr [HV.int .i64 p0.1, HV.int .i64 p0.2.1, slE eFromLabelTo p0.2.2] 0), (3, HV.int .i64 a7), (29, HV.bool (decide (a7 < ((p0.2.2).length : Int))))], []⟩) (le_q rfl rfl) ?_
       clear hK K
       refine AW.cond rfl (fun hc => ?_) (fun hc => ?_)
       ·have hc := of_decide_eq_true hc
        have h := ifT hc h
        refine AW.skip ?_
        refine AW.seq (AW.block ?_)
        refine AW.rgs rfl fun K hK => ?_
        refine bv rfl (v_fieldAddrF fo24_2 rfl) ?_
        refine bv rfl (v_loadF ty22 rfl (l_lit rfl rfl)) ?_
        refine mv rfl rfl ?_
        obtain ⟨x11, h12, h⟩ := bS h
        refine bv rfl (v_idxF ty22 es22 rfl rfl (idx_lt h12)) ?_
        refine bv rfl (v_loadF ty49 rfl (l_agg eFromLabelTo h12 rfl rfl)) ?_
        refine b_op rfl (o_alloc (fid := 23) (zs := [HV.int .i64 0, HV.int .i64 0, HV.int .i64 0]) 23004 rfl rfl ty49 rfl (fun v13 => ?_))
        refine b_op rfl (o_store (cs := [HV.int .i64 x11.1, HV.int .i64 x11.2.1, HV.int .i64 x11.2.2]) (zs := [HV.int .i64 x11.1, HV.int .i64 x11.2.1, HV.int .i64 x11.2.2]) rfl rfl rfl ty49 rfl rfl rfl rfl rfl ?_)
        refine b_fin hK (s' := ⟨[(1, HV.fptr [HV.int .i64 p0.1, HV.int .i64 p0.2.1, slE eFromLabelTo p0.2.2] 0), (3, HV.int .i64 a7), (4, HV.ptr 23004 v13 0)], [(23004, v13, .arr 3 49 [HV.int .i64 x11.1, HV.int .i64 x11.2.1, HV.int .i64 x11.2.2])]⟩) (le_q rfl rfl) ?_
        clear hK K
        refine AW.seq ?_
        refine AW.seqJ h (S := Bool) (V := Unit) (fun a v => ⟨[(1, HV.fptr [HV.int .i64 p0.1, HV.int .i64 p0.2.1, slE eFromLabelTo p0.2.2] 0), (3, HV.int .i64 a7), (4, HV.ptr 23004 v13 0), (70, HV.bool a)], [(23004, v13, .arr 3 49 [HV.int .i64 x11.1, HV.int .i64 x11.2.1, HV.int .i64 x11.2.2])]⟩) (fun a14 w15 h => ?_) (fun k16 h => ?_)
        ·refine AW.cond rfl (fun hc => ?_) (fun hc => ?_)
         ·have h := ifT hc h
          refine AW.rgs rfl fun K hK => ?_
          refine mv rfl rfl ?_
          refine b_fin hK (s' := ⟨[(2, HV.int .i64 2)], []⟩) (le_q rfl rfl) ?_
          clear hK K
          have h := hr10 _ h
          refine AW.ret ?_
          have h := Option.some.inj h
          subst h
          exact ret_pure (hs := [HV.int .i64 2]) (q := HV.int .i64 2) (.inr rfl) (resT rfl rfl) rfl trivial
         ·have h := ifF (bF' hc) h
          refine AW.skip ?_
          refine AW.seqJ h (S := Bool) (V := Unit) (fun a v => ⟨[(1, HV.fptr [HV.int .i64 p0.1, HV.int .i64 p0.2.1, slE eFromLabelTo p0.2.2] 0), (3, HV.int .i64 a7), (83, HV.bool a)], []⟩) (fun a17 w18 h => ?_) (fun k19 h => ?_)
          ·refine AW.cond rfl (fun hc => ?_) (fun hc => ?_)
           ·have h := ifT hc h
            refine AW.rgs rfl fun K hK => ?_
            refine mv rfl rfl ?_
            refine b_fin hK (s' := ⟨[(2, HV.int .i64 10)], []⟩) (le_q rfl rfl) ?_
            clear hK K
            have h := hr10 _ h
            refine AW.ret ?_
            have h := Option.some.inj h
            subst h
            exact ret_pure (hs := [HV.int .i64 10]) (q := HV.int .i64 10) (.inr rfl) (resT rfl rfl) rfl trivial
           ·have h := ifF (bF' hc) h
            refine AW.skip ?_
            refine AW.rg rfl fun K hK => ?_
            refine mv rfl rfl ?_
            refine bv rfl (v_bin rfl rfl b_add) ?_
            refine mv rfl rfl ?_
            refine b_nil (hK _ ?_)
            clear hK K
            exact to_le (s' := ⟨[(1, HV.fptr [HV.int .i64 p0.1, HV.int .i64 p0.2.1, slE eFromLabelTo p0.2.2] 0), (3, HV.int .i64 (IntKind.wrap .i64 (a7 + 1)))], []⟩) (AS.le_of ⟨rfl, rfl, trivial⟩ trivial) ⟨IntKind.wrap .i64 (a7 + 1), (), h, rfl⟩
          ·refine AW.dg 13 follows rfl rfl fun K hK => ?_
           refine sm rfl rfl ?_
           refine sv rfl (v_bin rfl rfl b_gtr) ?_
           refine sm rfl rfl ?_
           by_cases hg24 : 0 < a7
           ·have h := ifT hg24 h
            refine s_T rfl rfl rfl rfl rfl (decide_eq_true hg24) (ops_val rfl (v_fieldAddrF fo24_2 rfl) ?_)
            refine s_T rfl rfl rfl rfl rfl rfl (ops_val rfl (v_loadF ty22 rfl (l_lit rfl rfl)) ?_)
            refine s_T rfl rfl rfl rfl rfl rfl (ops_val rfl (mv_val rfl rfl).2 ?_)
            refine s_T rfl rfl rfl rfl rfl rfl (ops_val rfl (v_bin rfl rfl b_sub) ?_)
            obtain ⟨x20, h21, h⟩ := bS h
            refine s_T rfl rfl rfl rfl rfl rfl (ops_val rfl (v_idxF ty22 es22 rfl rfl (idx_lt h21)) ?_)
            refine s_T rfl rfl rfl rfl rfl rfl (ops_val rfl (v_loadF ty49 rfl (l_agg eFromLabelTo h21 rfl rfl)) ?_)
            refine s_T rfl rfl rfl rfl rfl rfl (ops_val rfl (v_loadP ty49 rfl rfl (l_litA rfl (Nat.le_of_ble_eq_true rfl) rfl)) ?_)
            obtain ⟨x22, h23, h⟩ := bS h
            refine s_T rfl rfl rfl rfl rfl rfl (ops_call rfl rfl rfl rfl (ACallD.pure0 (w_ref09_Compare h23)) ?_)
            refine s_T rfl rfl rfl rfl rfl rfl (ops_val rfl (v_bin rfl rfl b_geq) ?_)
            refine sv rfl (v_pickT rfl rfl rfl) ?_
            refine s_nil ?_
            refine b_nil (hK _ ?_)
            clear hK K
            exact to_le (s' := ⟨[(1, HV.fptr [HV.int .i64 p0.1, HV.int .i64 p0.2.1, slE eFromLabelTo p0.2.2] 0), (3, HV.int .i64 a7), (83, HV.bool (decide (0 ≤ x22)))], []⟩) (AS.le_of ⟨rfl, rfl, rfl, trivial⟩ trivial) ⟨decide (0 ≤ x22), (), h, rfl⟩
           ·have h := ifF hg24 h
            refine s_F rfl rfl rfl rfl rfl (decide_eq_false hg24) ?_
            refine s_F rfl rfl rfl rfl rfl rfl ?_
            refine s_F rfl rfl rfl rfl rfl rfl ?_
            refine s_F rfl rfl rfl rfl rfl rfl ?_
            refine s_F rfl rfl rfl rfl rfl rfl ?_
            refine s_F rfl rfl rfl rfl rfl rfl ?_
            refine s_F rfl rfl rfl rfl rfl rfl ?_
            refine s_F rfl rfl rfl rfl rfl rfl ?_
            refine s_F rfl rfl rfl rfl rfl rfl ?_
            refine sv rfl (v_pickF rfl rfl rfl) ?_
            refine s_nil ?_
            refine b_nil (hK _ ?_)
            clear hK K
            exact to_le (s' := ⟨[(1, HV.fptr [HV.int .i64 p0.1, HV.int .i64 p0.2.1, slE eFromLabelTo p0.2.2] 0), (3, HV.int .i64 a7), (83, HV.bool false)], []⟩) (AS.le_of ⟨rfl, rfl, rfl, trivial⟩ trivial) ⟨false, (), h, rfl⟩
        ·refine AW.rg rfl fun K hK => ?_
         refine bv rfl (v_fieldAddrP fo49_0 rfl rfl) ?_
         refine bv rfl (v_loadP ty3 rfl rfl (l_lit rfl rfl)) ?_
         refine bv rfl (v_bin rfl rfl b_lss) ?_
         refine mv rfl rfl ?_
         by_cases hg29 : x11.1 < 0
         ·have h := ifT hg29 h
          refine b_F rfl rfl rfl rfl rfl (decide_eq_true hg29) ?_
          refine b_F rfl rfl rfl rfl rfl rfl ?_
          refine b_F rfl rfl rfl rfl rfl rfl ?_
          refine b_F rfl rfl rfl rfl rfl rfl ?_
          refine b_F rfl rfl rfl rfl rfl rfl ?_
          refine bv rfl (v_pickT rfl rfl rfl) ?_
          refine mv rfl rfl ?_
          refine b_F rfl rfl rfl rfl rfl rfl ?_
          refine b_F rfl rfl rfl rfl rfl rfl ?_
          refine b_F rfl rfl rfl rfl rfl rfl ?_
          refine bv rfl (v_pickT rfl rfl rfl) ?_
          refine mv rfl rfl ?_
          refine b_F rfl rfl rfl rfl rfl rfl ?_
          refine b_F rfl rfl rfl rfl rfl rfl ?_
          refine b_F rfl rfl rfl rfl rfl rfl ?_
          refine b_F rfl rfl rfl rfl rfl rfl ?_
          refine b_F rfl rfl rfl rfl rfl rfl ?_
          refine bv rfl (v_pickT rfl rfl rfl) ?_
          refine mv rfl rfl ?_
          refine b_F rfl rfl rfl rfl rfl rfl ?_
          refine b_F rfl rfl rfl rfl rfl rfl ?_
          refine b_F rfl rfl rfl rfl rfl rfl ?_
          refine bv rfl (v_pickT rfl rfl rfl) ?_
          refine mv rfl rfl ?_
          refine b_F rfl rfl rfl rfl rfl rfl ?_
          refine b_F rfl rfl rfl rfl rfl rfl ?_
          refine b_F rfl rfl rfl rfl rfl rfl ?_
          refine b_F rfl rfl rfl rfl rfl rfl ?_
          refine b_F rfl rfl rfl rfl rfl rfl ?_
          refine bv rfl (v_pickT rfl rfl rfl) ?_
          refine b_nil (hK _ ?_)
          clear hK K
          exact to_le (s' := ⟨[(1, HV.fptr [HV.int .i64 p0.1, HV.int .i64 p0.2.1, slE eFromLabelTo p0.2.2] 0), (3, HV.int .i64 a7), (4, HV.ptr 23004 v13 0), (70, HV.bool true)], [(23004, v13, .arr 3 49 [HV.int .i64 x11.1, HV.int .i64 x11.2.1, HV.int .i64 x11.2.2])]⟩) (AS.le_of ⟨rfl, rfl, rfl, rfl, trivial⟩ ⟨rfl, trivial⟩) ⟨true, (), h, rfl⟩
         ·have h := ifF hg29 h
          refine b_T rfl rfl rfl rfl (decide_eq_false hg29) (o_val rfl (v_fieldAddrP fo49_0 rfl rfl) ?_)
          refine b_T rfl rfl rfl rfl rfl (o_val rfl (v_loadP ty3 rfl rfl (l_lit rfl rfl)) ?_)
          refine b_T rfl rfl rfl rfl rfl (o_val rfl (v_fieldAddrF fo24_1 rfl) ?_)
          refine b_T rfl rfl rfl rfl rfl (o_val rfl (v_loadF ty3 rfl (l_lit rfl rfl)) ?_)
          refine b_T rfl rfl rfl rfl rfl (o_val rfl (v_bin rfl rfl b_geq) ?_)
          refine bv rfl (v_pickF rfl rfl rfl) ?_
          refine mv rfl rfl ?_
          by_cases hg28 : p0.2.1 ≤ x11.1
          ·have h := ifT hg28 h
           refine b_F rfl rfl rfl rfl rfl (decide_eq_true hg28) ?_
           refine b_F rfl rfl rfl rfl rfl rfl ?_
           refine b_F rfl rfl rfl rfl rfl rfl ?_
           refine bv rfl (v_pickT rfl rfl rfl) ?_
           refine mv rfl rfl ?_
           refine b_F rfl rfl rfl rfl rfl rfl ?_
           refine b_F rfl rfl rfl rfl rfl rfl ?_
           refine b_F rfl rfl rfl rfl rfl rfl ?_
           refine b_F rfl rfl rfl rfl rfl rfl ?_
           refine b_F rfl rfl rfl rfl rfl rfl ?_
           refine bv rfl (v_pickT rfl rfl rfl) ?_
           refine mv rfl rfl ?_
           refine b_F rfl rfl rfl rfl rfl rfl ?_
           refine b_F rfl rfl rfl rfl rfl rfl ?_
           refine b_F rfl rfl rfl rfl rfl rfl ?_
           refine bv rfl (v_pickT rfl rfl rfl) ?_
           refine mv rfl rfl ?_
           refine b_F rfl rfl rfl rfl rfl rfl ?_
           refine b_F rfl rfl rfl rfl rfl rfl ?_
           refine b_F rfl rfl rfl rfl rfl rfl ?_
           refine b_F rfl rfl rfl rfl rfl rfl ?_
           refine b_F rfl rfl rfl rfl rfl rfl ?_
           refine bv rfl (v_pickT rfl rfl rfl) ?_
           refine b_nil (hK _ ?_)
           clear hK K
           exact to_le (s' := ⟨[(1, HV.fptr [HV.int .i64 p0.1, HV.int .i64 p0.2.1, slE eFromLabelTo p0.2.2] 0), (3, HV.int .i64 a7), (4, HV.ptr 23004 v13 0), (70, HV.bool true)], [(23004, v13, .arr 3 49 [HV.int .i64 x11.1, HV.int .i64 x11.2.1, HV.int .i64 x11.2.2])]⟩) (AS.le_of ⟨rfl, rfl, rfl, rfl, trivial⟩ ⟨rfl, trivial⟩) ⟨true, (), h, rfl⟩
          ·have h := ifF hg28 h
           refine b_T rfl rfl rfl rfl (decide_eq_false hg28) (o_val rfl (v_fieldAddrP fo49_2 rfl rfl) ?_)
           refine b_T rfl rfl rfl rfl rfl (o_val rfl (v_loadP ty3 rfl rfl (l_lit rfl rfl)) ?_)
           refine b_T rfl rfl rfl rfl rfl (o_val rfl (v_bin rfl rfl b_lss) ?_)
           refine bv rfl (v_pickF rfl rfl rfl) ?_
           refine mv rfl rfl ?_
           by_cases hg27 : x11.2.2 < 0
           ·have h := ifT hg27 h
            refine b_F rfl rfl rfl rfl rfl (decide_eq_true hg27) ?_
            refine b_F rfl rfl rfl rfl rfl rfl ?_
            refine b_F rfl rfl rfl rfl rfl rfl ?_
            refine b_F rfl rfl rfl rfl rfl rfl ?_
            refine b_F rfl rfl rfl rfl rfl rfl ?_
            refine bv rfl (v_pickT rfl rfl rfl) ?_
            refine mv rfl rfl ?_
            refine b_F rfl rfl rfl rfl rfl rfl ?_
            refine b_F rfl rfl rfl rfl rfl rfl ?_
            refine b_F rfl rfl rfl rfl rfl rfl ?_
            refine bv rfl (v_pickT rfl rfl rfl) ?_
            refine mv rfl rfl ?_
            refine b_F rfl rfl rfl rfl rfl rfl ?_
            refine b_F rfl rfl rfl rfl rfl rfl ?_
            refine b_F rfl rfl rfl rfl rfl rfl ?_
            refine b_F rfl rfl rfl rfl rfl rfl ?_
            refine b_F rfl rfl rfl rfl rfl rfl ?_
            refine bv rfl (v_pickT rfl rfl rfl) ?_
            refine b_nil (hK _ ?_)
            clear hK K
            exact to_le (s' := ⟨[(1, HV.fptr [HV.int .i64 p0.1, HV.int .i64 p0.2.1, slE eFromLabelTo p0.2.2] 0), (3, HV.int .i64 a7), (4, HV.ptr 23004 v13 0), (70, HV.bool true)], [(23004, v13, .arr 3 49 [HV.int .i64 x11.1, HV.int .i64 x11.2.1, HV.int .i64 x11.2.2])]⟩) (AS.le_of ⟨rfl, rfl, rfl, rfl, trivial⟩ ⟨rfl, trivial⟩) ⟨true, (), h, rfl⟩
           ·have h := ifF hg27 h
            refine b_T rfl rfl rfl rfl (decide_eq_false hg27) (o_val rfl (v_fieldAddrP fo49_2 rfl rfl) ?_)
            refine b_T rfl rfl rfl rfl rfl (o_val rfl (v_loadP ty3 rfl rfl (l_lit rfl rfl)) ?_)
            refine b_T rfl rfl rfl rfl rfl (o_val rfl (v_fieldAddrF fo24_1 rfl) ?_)
            refine b_T rfl rfl rfl rfl rfl (o_val rfl (v_loadF ty3 rfl (l_lit rfl rfl)) ?_)
            refine b_T rfl rfl rfl rfl rfl (o_val rfl (v_bin rfl rfl b_geq) ?_)
            refine bv rfl (v_pickF rfl rfl rfl) ?_
            refine mv rfl rfl ?_
            by_cases hg26 : p0.2.1 ≤ x11.2.2
            ·have h := ifT hg26 h
             refine b_F rfl rfl rfl rfl rfl (decide_eq_true hg26) ?_
             refine b_F rfl rfl rfl rfl rfl rfl ?_
             refine b_F rfl rfl rfl rfl rfl rfl ?_
             refine bv rfl (v_pickT rfl rfl rfl) ?_
             refine mv rfl rfl ?_
             refine b_F rfl rfl rfl rfl rfl rfl ?_
             refine b_F rfl rfl rfl rfl rfl rfl ?_
             refine b_F rfl rfl rfl rfl rfl rfl ?_
             refine b_F rfl rfl rfl rfl rfl rfl ?_
             refine b_F rfl rfl rfl rfl rfl rfl ?_
             refine bv rfl (v_pickT rfl rfl rfl) ?_
             refine b_nil (hK _ ?_)
             clear hK K
             exact to_le (s' := ⟨[(1, HV.fptr [HV.int .i64 p0.1, HV.int .i64 p0.2.1, slE eFromLabelTo p0.2.2] 0), (3, HV.int .i64 a7), (4, HV.ptr 23004 v13 0), (70, HV.bool true)], [(23004, v13, .arr 3 49 [HV.int .i64 x11.1, HV.int .i64 x11.2.1, HV.int .i64 x11.2.2])]⟩) (AS.le_of ⟨rfl, rfl, rfl, rfl, trivial⟩ ⟨rfl, trivial⟩) ⟨true, (), h, rfl⟩
            ·have h := ifF hg26 h
             refine b_T rfl rfl rfl rfl (decide_eq_false hg26) (o_val rfl (v_fieldAddrP fo49_1 rfl rfl) ?_)
             refine b_T rfl rfl rfl rfl rfl (o_val rfl (v_loadP ty3 rfl rfl (l_lit rfl rfl)) ?_)
             refine b_T rfl rfl rfl rfl rfl (o_val rfl (v_bin rfl rfl b_lss) ?_)
             refine bv rfl (v_pickF rfl rfl rfl) ?_
             refine mv rfl rfl ?_
             by_cases hg25 : x11.2.1 < 0
             ·have h := ifT hg25 h
              refine b_F rfl rfl rfl rfl rfl (decide_eq_true hg25) ?_
              refine b_F rfl rfl rfl rfl rfl rfl ?_
              refine b_F rfl rfl rfl rfl rfl rfl ?_
              refine b_F rfl rfl rfl rfl rfl rfl ?_
              refine b_F rfl rfl rfl rfl rfl rfl ?_
              refine bv rfl (v_pickT rfl rfl rfl) ?_
              refine b_nil (hK _ ?_)
              clear hK K
              exact to_le (s' := ⟨[(1, HV.fptr [HV.int .i64 p0.1, HV.int .i64 p0.2.1, slE eFromLabelTo p0.2.2] 0), (3, HV.int .i64 a7), (4, HV.ptr 23004 v13 0), (70, HV.bool true)], [(23004, v13, .arr 3 49 [HV.int .i64 x11.1, HV.int .i64 x11.2.1, HV.int .i64 x11.2.2])]⟩) (AS.le_of ⟨rfl, rfl, rfl, rfl, trivial⟩ ⟨rfl, trivial⟩) ⟨true, (), h, rfl⟩
             ·have h := ifF hg25 h
              refine b_T rfl rfl rfl rfl (decide_eq_false hg25) (o_val rfl (v_fieldAddrP fo49_1 rfl rfl) ?_)
              refine b_T rfl rfl rfl rfl rfl (o_val rfl (v_loadP ty3 rfl rfl (l_lit rfl rfl)) ?_)
              refine b_T rfl rfl rfl rfl rfl (o_val rfl (v_fieldAddrF fo24_0 rfl) ?_)
              refine b_T rfl rfl rfl rfl rfl (o_val rfl (v_loadF ty3 rfl (l_lit rfl rfl)) ?_)
              refine b_T rfl rfl rfl rfl rfl (o_val rfl (v_bin rfl rfl b_geq) ?_)
              refine bv rfl (v_pickF rfl rfl rfl) ?_
              refine b_nil (hK _ ?_)
              clear hK K
              exact to_le (s' := ⟨[(1, HV.fptr [HV.int .i64 p0.1, HV.int .i64 p0.2.1, slE eFromLabelTo p0.2.2] 0), (3, HV.int .i64 a7), (4, HV.ptr 23004 v13 0), (70, HV.bool (decide (p0.1 ≤ x11.2.1)))], [(23004, v13, .arr 3 49 [HV.int .i64 x11.1, HV.int .i64 x11.2.1, HV.int .i64 x11.2.2])]⟩) (AS.le_of ⟨rfl, rfl, rfl, rfl, trivial⟩ ⟨rfl, trivial⟩) ⟨decide (p0.1 ≤ x11.2.1), (), h, rfl⟩
       ·have hc := of_decide_eq_false hc
        have h := ifF hc h
        refine AW.exit ?_
        exact to_le (s' := ⟨[], []⟩) (AS.le_of trivial trivial) ⟨(), (), h, rfl⟩
    ·refine AW.rg rfl fun K hK => ?_
     refine bv rfl (v_fieldAddrF fo24_1 rfl) ?_
     refine bv rfl (v_loadF ty3 rfl (l_lit rfl rfl)) ?_
     refine bv rfl (v_bin rfl rfl b_gtr) ?_
     refine mv rfl rfl ?_
     by_cases hg32 : 64 < p0.2.1
     ·have h := ifT hg32 h
      refine b_F rfl rfl rfl rfl rfl (decide_eq_true hg32) ?_
      refine b_F rfl rfl rfl rfl rfl rfl ?_
      refine b_F rfl rfl rfl rfl rfl rfl ?_
      refine b_F rfl rfl rfl rfl rfl rfl ?_
      refine bv rfl (v_pickT rfl rfl rfl) ?_
      refine b_nil (hK _ ?_)
      clear hK K
      exact to_le (s' := ⟨[(1, HV.fptr [HV.int .i64 p0.1, HV.int .i64 p0.2.1, slE eFromLabelTo p0.2.2] 0), (24, HV.bool true)], []⟩) (AS.le_of ⟨rfl, rfl, trivial⟩ trivial) ⟨true, (), h, rfl⟩
     ·have h := ifF hg32 h
      refine b_T rfl rfl rfl rfl (decide_eq_false hg32) (o_val rfl (v_fieldAddrF fo24_2 rfl) ?_)
      refine b_T rfl rfl rfl rfl rfl (o_val rfl (v_loadF ty22 rfl (l_lit rfl rfl)) ?_)
      refine b_T rfl rfl rfl rfl rfl (o_val rfl (v_lenF rfl rfl ty22 rfl) ?_)
      refine b_T rfl rfl rfl rfl rfl (o_val rfl (v_bin rfl rfl b_gtr) ?_)
      refine bv rfl (v_pickF rfl rfl rfl) ?_
      refine b_nil (hK _ ?_)
      clear hK K
      exact to_le (s' := ⟨[(1, HV.fptr [HV.int .i64 p0.1, HV.int .i64 p0.2.1, slE eFromLabelTo p0.2.2] 0), (24, HV.bool (decide (1024 < ((p0.2.2).length : Int))))], []⟩) (AS.le_of ⟨rfl, rfl, trivial⟩ trivial) ⟨decide (1024 < ((p0.2.2).length : Int)), (), h, rfl⟩
 ·refine AW.rg rfl fun K hK => ?_
  refine bv rfl (v_fieldAddrF fo24_0 rfl) ?_
  refine bv rfl (v_loadF ty3 rfl (l_lit rfl rfl)) ?_
  refine bv rfl (v_bin rfl rfl b_lss) ?_
  refine mv rfl rfl ?_
  by_cases hg33 : p0.1 < 1
  ·have h := ifT hg33 h
   refine b_F rfl rfl rfl rfl rfl (decide_eq_true hg33) ?_
   refine b_F rfl rfl rfl rfl rfl rfl ?_
   refine b_F rfl rfl rfl rfl rfl rfl ?_
   refine bv rfl (v_pickT rfl rfl rfl) ?_
   refine b_nil (hK _ ?_)
   clear hK K
   exact to_le (s' := ⟨[(1, HV.fptr [HV.int .i64 p0.1, HV.int .i64 p0.2.1, slE eFromLabelTo p0.2.2] 0), (12, HV.bool true)], []⟩) (AS.le_of ⟨rfl, rfl, trivial⟩ trivial) ⟨true, (), h, rfl⟩
  ·have h := ifF hg33 h
   refine b_T rfl rfl rfl rfl (decide_eq_false hg33) (o_val rfl (v_fieldAddrF fo24_0 rfl) ?_)
   refine b_T rfl rfl rfl rfl rfl (o_val rfl (v_loadF ty3 rfl (l_lit rfl rfl)) ?_)
   refine b_T rfl rfl rfl rfl rfl (o_val rfl (v_bin rfl rfl b_gtr) ?_)
   refine bv rfl (v_pickF rfl rfl rfl) ?_
   refine b_nil (hK _ ?_)
   clear hK K
   exact to_le (s' := ⟨[(1, HV.fptr [HV.int .i64 p0.1, HV.int .i64 p0.2.1, slE eFromLabelTo p0.2.2] 0), (12, HV.bool (decide (256 < p0.1)))], []⟩) (AS.le_of ⟨rfl, rfl, trivial⟩ trivial) ⟨decide (256 < p0.1), (), h, rfl⟩

end Go.AW

namespace Go.AW
open Go Go.Proofs
set_option linter.unusedVariables false
set_option maxHeartbeats 1600000 in
set_option maxRecDepth 100000 in
theorem w_law12_SubsetSets {p0 : TLabelsStatesEdges} {p1 : List (Int)} {r : Bool} (h : m_law12_SubsetSets p0 p1 = some r) : Pure Tryd.prog 5 [HV.agg [HV.int .i64 p0.1, HV.int .i64 p0.2.1, slE eFromLabelTo p0.2.2], slE eInt p1] (· = HV.bool r) := by
 unfold m_law12_SubsetSets at h
 refine Pure.of_body Tryd.func5 rfl rfl (Nat.le_of_ble_eq_true rfl) fun hf => ?_
 unfold Tryd.f5
 dsimp only [enumS, Nat.reduceAdd]
 refine AW.rgs rfl fun K hK => ?_
 refine b_op rfl (o_box rfl rfl rfl ?_)
 refine mv rfl rfl ?_
 refine b_fin hK (s' := ⟨[(1, slE eInt p1), (2, HV.fptr [HV.int .i64 p0.1, HV.int .i64 p0.2.1, slE eFromLabelTo p0.2.2] 0)], []⟩) (le_q rfl rfl) ?_
 clear hK K
 refine AW.seq ?_
 refine AW.seqJ h (S := Bool) (V := Unit) (fun a v => ⟨[(1, slE eInt p1), (2, HV.fptr [HV.int .i64 p0.1, HV.int .i64 p0.2.1, slE eFromLabelTo p0.2.2] 0), (28, HV.bool a)], []⟩) (fun a1 w2 h => ?_) (fun k3 h => ?_)
 ·refine AW.cond rfl (fun hc => ?_) (fun hc => ?_)
  ·have h := ifT hc h
   refine AW.rgs rfl fun K hK => ?_
   obtain ⟨x4, h5, h⟩ := bS h
   refine b_op rfl (o_call rfl rfl rfl rfl (ACallD.pure0 (w_law12_awake h5)) ?_)
   refine mv rfl rfl ?_
   refine b_fin hK (s' := ⟨[(4, HV.bool x4)], []⟩) (le_q rfl rfl) ?_
   clear hK K
   refine AW.ret ?_
   have h := Option.some.inj h
   subst h
   exact ret_pure (hs := [HV.bool x4]) (q := HV.bool x4) (.inr rfl) (resT rfl rfl) rfl trivial
  ·have h := ifF (bF' hc) h
   refine AW.skip ?_
   refine AW.rgs rfl fun K hK => ?_
   refine bv rfl (v_loadF ty24 rfl (l_litA rfl (Nat.le_of_ble_eq_true rfl) rfl)) ?_
   refine mv rfl rfl ?_
   obtain ⟨x6, h7, h⟩ := bS h
   refine b_op rfl (o_call rfl rfl rfl rfl (ACallD.pure0 (w_subset_From h7)) ?_)
   refine mv rfl rfl ?_
   refine bv rfl (v_extract rfl rfl) ?_
   refine bv rfl (v_extract rfl rfl) ?_
   refine bv rfl (v_extract rfl rfl) ?_
   refine b_op rfl (o_alloc (fid := 5) (zs := [HV.int .i64 0, HV.int .i64 0, HV.v (.slice none 0 0)]) 5005 rfl rfl ty24 rfl (fun v8 => ?_))
   refine b_op rfl (o_store (cs := [HV.int .i64 x6.1.1, HV.int .i64 x6.1.2.1, slE eFromLabelTo x6.1.2.2]) (zs := [HV.int .i64 x6.1.1, HV.int .i64 x6.1.2.1, slE eFromLabelTo x6.1.2.2]) rfl rfl rfl ty24 rfl rfl rfl rfl rfl ?_)
   refine mv rfl rfl ?_
   refine mv rfl rfl ?_
   refine b_fin hK (s' := ⟨[(1, slE eInt p1), (2, HV.fptr [HV.int .i64 p0.1, HV.int .i64 p0.2.1, slE eFromLabelTo p0.2.2] 0), (5, HV.ptr 5005 v8 0), (6, slE (eSl eInt) x6.2.1), (7, HV.int .i64 x6.2.2)], [(5005, v8, .arr 3 24 [HV.int .i64 x6.1.1, HV.int .i64 x6.1.2.1, slE eFromLabelTo x6.1.2.2])]⟩) (le_q rfl rfl) ?_
   clear hK K
   refine AW.seq ?_
   refine AW.rgs rfl fun K hK => ?_
   refine mv rfl rfl ?_
   refine bv rfl (v_bin rfl rfl b_neq) ?_
   refine b_fin hK (s' := ⟨[(1, slE eInt p1), (2, HV.fptr [HV.int .i64 p0.1, HV.int .i64 p0.2.1, slE eFromLabelTo p0.2.2] 0), (5, HV.ptr 5005 v8 0), (6, slE (eSl eInt) x6.2.1), (38, HV.bool (decide (x6.2.2 ≠ 0)))], [(5005, v8, .arr 3 24 [HV.int .i64 x6.1.1, HV.int .i64 x6.1.2.1, slE eFromLabelTo x6.1.2.2])]⟩) (le_q rfl rfl) ?_
   clear hK K
   refine AW.cond rfl (fun hc => ?_) (fun hc => ?_)
   ·have hc := of_decide_eq_true hc
    have h := ifT hc h
    refine AW.seqJ h (S := Bool) (V := Unit) (fun a v => ⟨[(4, HV.bool a)], []⟩) (fun a9 w10 h => ?_) (fun k11 h => ?_)
    ·refine AW.ret ?_
     have h := Option.some.inj h
     subst h
     exact ret_pure (hs := [HV.bool a9]) (q := HV.bool a9) (.inr rfl) (resT rfl rfl) rfl trivial
    ·refine AW.rg rfl fun K hK => ?_
     refine mv rfl rfl ?_
     refine bv rfl (v_lenF rfl rfl ty39 rfl) ?_
     refine bv rfl (v_bin rfl rfl b_eql) ?_
     refine mv rfl rfl ?_
     by_cases hg15 : ((x6.2.1).length : Int) = 0
     ·have h := ifT hg15 h
      refine b_T rfl rfl rfl rfl (decide_eq_true hg15) (o_val rfl (v_fieldAddrP fo24_1 rfl rfl) ?_)
      refine b_T rfl rfl rfl rfl rfl (o_val rfl (v_loadP ty3 rfl rfl (l_lit rfl rfl)) ?_)
      refine b_T rfl rfl rfl rfl rfl (o_val rfl (v_bin rfl rfl b_eql) ?_)
      refine bv rfl (v_pickT rfl rfl rfl) ?_
      refine mv rfl rfl ?_
      by_cases hg14 : x6.1.2.1 = 0
      ·have h := ifT hg14 h
       obtain ⟨x12, h13, h⟩ := bS h
       refine b_T rfl rfl rfl rfl (decide_eq_true hg14) (o_call rfl rfl rfl rfl (ACallD.pure0 (w_law12_awake h13)) ?_)
       refine bv rfl (v_pickT rfl rfl rfl) ?_
       refine mv rfl rfl ?_
       refine b_nil (hK _ ?_)
       clear hK K
       exact to_le (s' := ⟨[(4, HV.bool x12)], []⟩) (AS.le_of ⟨rfl, trivial⟩ trivial) ⟨x12, (), h, rfl⟩
      ·have h := ifF hg14 h
       refine b_F rfl rfl rfl rfl rfl (decide_eq_false hg14) ?_
       refine bv rfl (v_pickF rfl rfl rfl) ?_
       refine mv rfl rfl ?_
       refine b_nil (hK _ ?_)
       clear hK K
       exact to_le (s' := ⟨[(4, HV.bool false)], []⟩) (AS.le_of ⟨rfl, trivial⟩ trivial) ⟨false, (), h, rfl⟩
     ·have h := ifF hg15 h
      refine b_F rfl rfl rfl rfl rfl (decide_eq_false hg15) ?_
      refine b_F rfl rfl rfl rfl rfl rfl ?_
      refine b_F rfl rfl rfl rfl rfl rfl ?_
      refine bv rfl (v_pickF rfl rfl rfl) ?_
      refine mv rfl rfl ?_
      refine b_F rfl rfl rfl rfl rfl rfl ?_
      refine bv rfl (v_pickF rfl rfl rfl) ?_
      refine mv rfl rfl ?_
      refine b_nil (hK _ ?_)
      clear hK K
      exact to_le (s' := ⟨[(4, HV.bool false)], []⟩) (AS.le_of ⟨rfl, trivial⟩ trivial) ⟨false, (), h, rfl⟩
   ·have hc := of_decide_eq_false hc
    have h := ifF hc h
    refine AW.skip ?_
    refine AW.rgs rfl fun K hK => ?_
    refine bv rfl (v_loadP ty24 rfl rfl (l_litA rfl (Nat.le_of_ble_eq_true rfl) rfl)) ?_
    obtain ⟨x16, h17, h⟩ := bS h
    refine b_op rfl (o_call rfl rfl rfl rfl (ACallD.pure0 (w_graph_Deterministic h17)) ?_)
    refine mv rfl rfl ?_
    refine bv rfl (v_extract rfl rfl) ?_
    refine bv rfl (v_extract rfl rfl) ?_
    refine mv rfl rfl ?_
    refine mv rfl rfl ?_
    refine b_fin hK (s' := ⟨[(1, slE eInt p1), (2, HV.fptr [HV.int .i64 p0.1, HV.int .i64 p0.2.1, slE eFromLabelTo p0.2.2] 0), (5, HV.ptr 5005 v8 0), (6, slE (eSl eInt) x6.2.1), (8, HV.bool x16.1), (9, HV.int .i64 x16.2)], [(5005, v8, .arr 3 24 [HV.int .i64 x6.1.1, HV.int .i64 x6.1.2.1, slE eFromLabelTo x6.1.2.2])]⟩) (le_q rfl rfl) ?_
    clear hK K
    refine AW.seq ?_
    refine AW.seqJ h (S := Bool) (V := Unit) (fun a v => ⟨[(2, HV.fptr [HV.int .i64 p0.1, HV.int .i64 p0.2.1, slE eFromLabelTo p0.2.2] 0), (5, HV.ptr 5005 v8 0), (6, slE (eSl eInt) x6.2.1), (85, HV.bool a)], [(5005, v8, .arr 3 24 [HV.int .i64 x6.1.1, HV.int .i64 x6.1.2.1, slE eFromLabelTo x6.1.2.2])]⟩) (fun a18 w19 h => ?_) (fun k20 h => ?_)
    ·refine AW.cond rfl (fun hc => ?_) (fun hc => ?_)
     ·have h := ifT hc h
      refine AW.rgs rfl fun K hK => ?_
      refine mv rfl rfl ?_
      refine b_fin hK (s' := ⟨[(4, HV.bool false)], []⟩) (le_q rfl rfl) ?_
      clear hK K
      refine AW.ret ?_
      have h := Option.some.inj h
      subst h
      exact ret_pure (hs := [HV.bool false]) (q := HV.bool false) (.inr rfl) (resT rfl rfl) rfl trivial
     ·have h := ifF (bF' hc) h
      refine AW.skip ?_
      refine AW.rgs rfl fun K hK => ?_
      refine mv rfl rfl ?_
      refine b_fin hK (s' := ⟨[(2, HV.fptr [HV.int .i64 p0.1, HV.int .i64 p0.2.1, slE eFromLabelTo p0.2.2] 0), (5, HV.ptr 5005 v8 0), (6, slE (eSl eInt) x6.2.1), (10, HV.int .i64 0)], [(5005, v8, .arr 3 24 [HV.int .i64 x6.1.1, HV.int .i64 x6.1.2.1, slE eFromLabelTo x6.1.2.2])]⟩) (le_q rfl rfl) ?_
      clear hK K
      refine AW.seq ?_
      refine AW.rgs rfl fun K hK => ?_
      refine mv rfl rfl ?_
      refine bv rfl (v_lenF rfl rfl ty39 rfl) ?_
      refine mv rfl rfl ?_
      refine b_fin hK (s' := ⟨[(2, HV.fptr [HV.int .i64 p0.1, HV.int .i64 p0.2.1, slE eFromLabelTo p0.2.2] 0), (5, HV.ptr 5005 v8 0), (6, slE (eSl eInt) x6.2.1), (10, HV.int .i64 0), (86, slE (eSl eInt) x6.2.1), (87, HV.int .i64 ((x6.2.1).length : Int)), (88, HV.int .i64 0)], [(5005, v8, .arr 3 24 [HV.int .i64 x6.1.1, HV.int .i64 x6.1.2.1, slE eFromLabelTo x6.1.2.2])]⟩) (le_q rfl rfl) ?_
      clear hK K
      refine AW.lpR h (by first | exact up_then | exact up_to) (S := Int × Int) (V := Unit) (fun a v => ⟨[(2, HV.fptr [HV.int .i64 p0.1, HV.int .i64 p0.2.1, slE eFromLabelTo p0.2.2] 0), (5, HV.ptr 5005 v8 0), (6, slE (eSl eInt) x6.2.1), (10, HV.int .i64 a.1), (86, slE (eSl eInt) x6.2.1), (87, HV.int .i64 ((x6.2.1).length : Int)), (88, HV.int .i64 a.2)], [(5005, v8, .arr 3 24 [HV.int .i64 x6.1.1, HV.int .i64 x6.1.2.1, slE eFromLabelTo x6.1.2.2])]⟩) ?_ (X := Int) (W := Unit) (fun a v => ⟨[(2, HV.fptr [HV.int .i64 p0.1, HV.int .i64 p0.2.1, slE eFromLabelTo p0.2.2] 0), (5, HV.ptr 5005 v8 0), (6, slE (eSl eInt) x6.2.1), (10, HV.int .i64 a)], [(5005, v8, .arr 3 24 [HV.int .i64 x6.1.1, HV.int .i64 x6.1.2.1, slE eFromLabelTo x6.1.2.2])]⟩) (fun a48 w49 h => ?_) (fun a21 w22 st23 h hr24=> ?_)
      ·exact to_le (s' := ⟨[(2, HV.fptr [HV.int .i64 p0.1, HV.int .i64 p0.2.1, slE eFromLabelTo p0.2.2] 0), (5, HV.ptr 5005 v8 0), (6, slE (eSl eInt) x6.2.1), (10, HV.int .i64 0), (86, slE (eSl eInt) x6.2.1), (87, HV.int .i64 ((x6.2.1).length : Int)), (88, HV.int .i64 0)], [(5005, v8, .arr 3 24 [HV.int .i64 x6.1.1, HV.int .i64 x6.1.2.1, slE eFromLabelTo x6.1.2.2])]⟩) (AS.le_of ⟨rfl, rfl, rfl, rfl, rfl, rfl, rfl, trivial⟩ ⟨rfl, trivial⟩) ⟨(), rfl⟩
      ·refine AW.seq ?_
       refine AW.rgs rfl fun K hK => ?_
       refine bv rfl (v_fieldAddrP fo24_2 rfl rfl) ?_
       refine bv rfl (v_loadP ty22 rfl rfl (l_lit rfl rfl)) ?_
       refine bv rfl (v_lenF rfl rfl ty22 rfl) ?_
       refine mv rfl rfl ?_
       refine b_fin hK (s' := ⟨[(2, HV.fptr [HV.int .i64 p0.1, HV.int .i64 p0.2.1, slE eFromLabelTo p0.2.2] 0), (5, HV.ptr 5005 v8 0), (6, slE (eSl eInt) x6.2.1), (10, HV.int .i64 a48), (130, slE eFromLabelTo x6.1.2.2), (131, HV.int .i64 ((x6.1.2.2).length : Int)), (132, HV.int .i64 0)], [(5005, v8, .arr 3 24 [HV.int .i64 x6.1.1, HV.int .i64 x6.1.2.1, slE eFromLabelTo x6.1.2.2])]⟩) (le_q rfl rfl) ?_
       clear hK K
       refine AW.lpR h (by first | exact up_then | exact up_to) (S := Int) (V := Unit) (fun a v => ⟨[(2, HV.fptr [HV.int .i64 p0.1, HV.int .i64 p0.2.1, slE eFromLabelTo p0.2.2] 0), (5, HV.ptr 5005 v8 0), (6, slE (eSl eInt) x6.2.1), (10, HV.int .i64 a48), (130, slE eFromLabelTo x6.1.2.2), (131, HV.int .i64 ((x6.1.2.2).length : Int)), (132, HV.int .i64 a)], [(5005, v8, .arr 3 24 [HV.int .i64 x6.1.1, HV.int .i64 x6.1.2.1, slE eFromLabelTo x6.1.2.2])]⟩) ?_ (X := Unit) (W := Unit) (fun a v => ⟨[(5, HV.ptr 5005 v8 0), (10, HV.int .i64 a48)], [(5005, v8, .arr 3 24 [HV.int .i64 x6.1.1, HV.int .i64 x6.1.2.1, slE eFromLabelTo x6.1.2.2])]⟩) (fun a69 w70 h => ?_) (fun a50 w51 st52 h hr53=> ?_)
       ·exact to_le (s' := ⟨[(2, HV.fptr [HV.int .i64 p0.1, HV.int .i64 p0.2.1, slE eFromLabelTo p0.2.2] 0), (5, HV.ptr 5005 v8 0), (6, slE (eSl eInt) x6.2.1), (10, HV.int .i64 a48), (130, slE eFromLabelTo x6.1.2.2), (131, HV.int .i64 ((x6.1.2.2).length : Int)), (132, HV.int .i64 0)], [(5005, v8, .arr 3 24 [HV.int .i64 x6.1.1, HV.int .i64 x6.1.2.1, slE eFromLabelTo x6.1.2.2])]⟩) (AS.le_of ⟨rfl, rfl, rfl, rfl, rfl, rfl, rfl, trivial⟩ ⟨rfl, trivial⟩) ⟨(), rfl⟩
       ·refine AW.seqJ h (S := Bool) (V := Unit) (fun a v => ⟨[(4, HV.bool a)], []⟩) (fun a71 w72 h => ?_) (fun k73 h => ?_)
        ·refine AW.ret ?_
         have h := Option.some.inj h
         subst h
         exact ret_pure (hs := [HV.bool a71]) (q := HV.bool a71) (.inr rfl) (resT rfl rfl) rfl trivial
        ·refine AW.rg rfl fun K hK => ?_
         refine mv rfl rfl ?_
         refine bv rfl (v_fieldAddrP fo24_2 rfl rfl) ?_
         refine bv rfl (v_loadP ty22 rfl rfl (l_lit rfl rfl)) ?_
         refine bv rfl (v_lenF rfl rfl ty22 rfl) ?_
         refine bv rfl (v_bin rfl rfl b_eql) ?_
         refine mv rfl rfl ?_
         by_cases hg76 : a48 = ((x6.1.2.2).length : Int)
         ·have h := ifT hg76 h
          obtain ⟨x74, h75, h⟩ := bS h
          refine b_T rfl rfl rfl rfl (decide_eq_true hg76) (o_call rfl rfl rfl rfl (ACallD.pure0 (w_law12_awake h75)) ?_)
          refine bv rfl (v_pickT rfl rfl rfl) ?_
          refine mv rfl rfl ?_
          refine b_nil (hK _ ?_)
          clear hK K
          exact to_le (s' := ⟨[(4, HV.bool x74)], []⟩) (AS.le_of ⟨rfl, trivial⟩ trivial) ⟨x74, (), h, rfl⟩
         ·have h := ifF hg76 h
          refine b_F rfl rfl rfl rfl rfl (decide_eq_false hg76) ?_
          refine bv rfl (v_pickF rfl rfl rfl) ?_
          refine mv rfl rfl ?_
          refine b_nil (hK _ ?_)
          clear hK K
          exact to_le (s' := ⟨[(4, HV.bool false)], []⟩) (AS.le_of ⟨rfl, trivial⟩ trivial) ⟨false, (), h, rfl⟩
       ·refine AW.rgs rfl fun K hK => ?_
        refine bv rfl (v_bin rfl rfl b_lss) ?_
        refine b_fin hK (s' := ⟨[(2, HV.fptr [HV.int .i64 p0.1, HV.int .i64 p0.2.1, slE eFromLabelTo p0.2.2] 0), (5, HV.ptr 5005 v8 0), (6, slE (eSl eInt) x6.2.1), (10, HV.int .i64 a48), (130, slE eFromLabelTo x6.1.2.2), (131, HV.int .i64 ((x6.1.2.2).length : Int)), (132, HV.int .i64 a50), (133, HV.bool (decide (a50 < ((x6.1.2.2).length : Int))))], [(5005, v8, .arr 3 24 [HV.int .i64 x6.1.1, HV.int .i64 x6.1.2.1, slE eFromLabelTo x6.1.2.2])]⟩) (le_q rfl rfl) ?_
        clear hK K
        refine AW.cseq rfl (fun hc => ?_) (fun hc => ?_)
        ·have hc := of_decide_eq_true hc
         have h := ifT hc h
         refine AW.skip ?_
         refine AW.seq (AW.block ?_)
         refine AW.rgs rfl fun K hK => ?_
         obtain ⟨x54, h55, h⟩ := bS h
         refine bv rfl (v_idxF ty22 es22 rfl rfl (idx_lt h55)) ?_
         refine bv rfl (v_loadF ty49 rfl (l_agg eFromLabelTo h55 rfl rfl)) ?_
         refine b_op rfl (o_alloc (fid := 5) (zs := [HV.int .i64 0, HV.int .i64 0, HV.int .i64 0]) 5019 rfl rfl ty49 rfl (fun v56 => ?_))
         refine b_op rfl (o_store (cs := [HV.int .i64 x54.1, HV.int .i64 x54.2.1, HV.int .i64 x54.2.2]) (zs := [HV.int .i64 x54.1, HV.int .i64 x54.2.1, HV.int .i64 x54.2.2]) rfl rfl rfl ty49 rfl rfl rfl rfl rfl ?_)
         refine b_fin hK (s' := ⟨[(2, HV.fptr [HV.int .i64 p0.1, HV.int .i64 p0.2.1, slE eFromLabelTo p0.2.2] 0), (5, HV.ptr 5005 v8 0), (6, slE (eSl eInt) x6.2.1), (10, HV.int .i64 a48), (19, HV.ptr 5019 v56 0), (130, slE eFromLabelTo x6.1.2.2), (131, HV.int .i64 ((x6.1.2.2).length : Int)), (132, HV.int .i64 a50)], [(5005, v8, .arr 3 24 [HV.int .i64 x6.1.1, HV.int .i64 x6.1.2.1, slE eFromLabelTo x6.1.2.2]), (5019, v56, .arr 3 49 [HV.int .i64 x54.1, HV.int .i64 x54.2.1, HV.int .i64 x54.2.2])]⟩) (le_q rfl rfl) ?_
         clear hK K
         refine AW.dgs 14 follows rfl rfl fun K hK => ?_
         refine sv rfl (v_loadF ty24 rfl (l_litA rfl (Nat.le_of_ble_eq_true rfl) rfl)) ?_
         refine sm rfl rfl ?_
         refine sv rfl (v_fieldAddrP fo49_0 rfl rfl) ?_
         refine sv rfl (v_loadP ty3 rfl rfl (l_lit rfl rfl)) ?_
         obtain ⟨x57, h58, h⟩ := bS h
         refine sv rfl (v_idxF ty39 es39 rfl rfl (idx_lt h58)) ?_
         refine sv rfl (v_loadF ty30 rfl (l_cell (eSl eInt) h58 (o := 0) rfl rfl)) ?_
         refine sv rfl (v_fieldAddrP fo49_1 rfl rfl) ?_
         refine sv rfl (v_loadP ty3 rfl rfl (l_lit rfl rfl)) ?_
         obtain ⟨x59, h60, h⟩ := bS h
         refine s_op rfl rfl (ops_call rfl rfl rfl rfl (ACallD.pure0 (w_graph_Step h60)) ?_)
         refine sm rfl rfl ?_
         refine sv rfl (v_extract rfl rfl) ?_
         refine sv rfl (v_extract rfl rfl) ?_
         refine sm rfl rfl ?_
         refine sm rfl rfl ?_
         refine s_nil ?_
         refine b_fin hK (s' := ⟨[(2, HV.fptr [HV.int .i64 p0.1, HV.int .i64 p0.2.1, slE eFromLabelTo p0.2.2] 0), (5, HV.ptr 5005 v8 0), (6, slE (eSl eInt) x6.2.1), (10, HV.int .i64 a48), (19, HV.ptr 5019 v56 0), (20, slE eInt x59.1), (21, HV.int .i64 x59.2), (130, slE eFromLabelTo x6.1.2.2), (131, HV.int .i64 ((x6.1.2.2).length : Int)), (132, HV.int .i64 a50)], [(5005, v8, .arr 3 24 [HV.int .i64 x6.1.1, HV.int .i64 x6.1.2.1, slE eFromLabelTo x6.1.2.2]), (5019, v56, .arr 3 49 [HV.int .i64 x54.1, HV.int .i64 x54.2.1, HV.int .i64 x54.2.2])]⟩) (le_q rfl rfl) ?_
         clear hK K
         refine AW.seqJ h (S := Bool) (V := Unit) (fun a v => ⟨[(2, HV.fptr [HV.int .i64 p0.1, HV.int .i64 p0.2.1, slE eFromLabelTo p0.2.2] 0), (5, HV.ptr 5005 v8 0), (6, slE (eSl eInt) x6.2.1), (10, HV.int .i64 a48), (130, slE eFromLabelTo x6.1.2.2), (131, HV.int .i64 ((x6.1.2.2).length : Int)), (132, HV.int .i64 a50), (159, HV.bool a)], [(5005, v8, .arr 3 24 [HV.int .i64 x6.1.1, HV.int .i64 x6.1.2.1, slE eFromLabelTo x6.1.2.2])]⟩) (fun a61 w62 h => ?_) (fun k63 h => ?_)
         ·refine AW.cond rfl (fun hc => ?_) (fun hc => ?_)
          ·have h := ifT hc h
           refine AW.rgs rfl fun K hK => ?_
           refine mv rfl rfl ?_
           refine b_fin hK (s' := ⟨[(4, HV.bool false)], []⟩) (le_q rfl rfl) ?_
           clear hK K
           have h := hr53 _ h
           refine AW.ret ?_
           have h := Option.some.inj h
           subst h
           exact ret_pure (hs := [HV.bool false]) (q := HV.bool false) (.inr rfl) (resT rfl rfl) rfl trivial
          ·have h := ifF (bF' hc) h
           refine AW.skip ?_
           refine AW.rg rfl fun K hK => ?_
           refine bv rfl (v_bin rfl rfl b_add) ?_
           refine mv rfl rfl ?_
           refine b_nil (hK _ ?_)
           clear hK K
           exact to_le (s' := ⟨[(2, HV.fptr [HV.int .i64 p0.1, HV.int .i64 p0.2.1, slE eFromLabelTo p0.2.2] 0), (5, HV.ptr 5005 v8 0), (6, slE (eSl eInt) x6.2.1), (10, HV.int .i64 a48), (130, slE eFromLabelTo x6.1.2.2), (131, HV.int .i64 ((x6.1.2.2).length : Int)), (132, HV.int .i64 (IntKind.wrap .i64 (a50 + 1)))], [(5005, v8, .arr 3 24 [HV.int .i64 x6.1.1, HV.int .i64 x6.1.2.1, slE eFromLabelTo x6.1.2.2])]⟩) (AS.le_of ⟨rfl, rfl, rfl, rfl, rfl, rfl, rfl, trivial⟩ ⟨rfl, trivial⟩) ⟨IntKind.wrap .i64 (a50 + 1), (), h, rfl⟩
         ·refine AW.rg rfl fun K hK => ?_
          refine mv rfl rfl ?_
          refine bv rfl (v_bin rfl rfl b_neq) ?_
          refine mv rfl rfl ?_
          by_cases hg68 : x59.2 ≠ 0
          ·have h := ifT hg68 h
           refine b_F rfl rfl rfl rfl rfl (decide_eq_true hg68) ?_
           refine b_F rfl rfl rfl rfl rfl rfl ?_
           refine b_F rfl rfl rfl rfl rfl rfl ?_
           refine b_F rfl rfl rfl rfl rfl rfl ?_
           refine b_F rfl rfl rfl rfl rfl rfl ?_
           refine b_F rfl rfl rfl rfl rfl rfl ?_
           refine b_F rfl rfl rfl rfl rfl rfl ?_
           refine b_F rfl rfl rfl rfl rfl rfl ?_
           refine bv rfl (v_pickT rfl rfl rfl) ?_
           refine b_nil (hK _ ?_)
           clear hK K
           exact to_le (s' := ⟨[(2, HV.fptr [HV.int .i64 p0.1, HV.int .i64 p0.2.1, slE eFromLabelTo p0.2.2] 0), (5, HV.ptr 5005 v8 0), (6, slE (eSl eInt) x6.2.1), (10, HV.int .i64 a48), (130, slE eFromLabelTo x6.1.2.2), (131, HV.int .i64 ((x6.1.2.2).length : Int)), (132, HV.int .i64 a50), (159, HV.bool true)], [(5005, v8, .arr 3 24 [HV.int .i64 x6.1.1, HV.int .i64 x6.1.2.1, slE eFromLabelTo x6.1.2.2])]⟩) (AS.le_of ⟨rfl, rfl, rfl, rfl, rfl, rfl, rfl, rfl, trivial⟩ ⟨rfl, trivial⟩) ⟨true, (), h, rfl⟩
          ·have h := ifF hg68 h
           refine b_T rfl rfl rfl rfl (decide_eq_false hg68) (o_val rfl (mv_val rfl rfl).2 ?_)
           refine b_T rfl rfl rfl rfl rfl (o_val rfl (mv_val rfl rfl).2 ?_)
           refine b_T rfl rfl rfl rfl rfl (o_val rfl (v_fieldAddrP fo49_2 rfl rfl) ?_)
           refine b_T rfl rfl rfl rfl rfl (o_val rfl (v_loadP ty3 rfl rfl (l_lit rfl rfl)) ?_)
           obtain ⟨x64, h65, h⟩ := bS h
           refine b_T rfl rfl rfl rfl rfl (o_val rfl (v_idxF ty39 es39 rfl rfl (idx_lt h65)) ?_)
           refine b_T rfl rfl rfl rfl rfl (o_val rfl (v_loadF ty30 rfl (l_cell (eSl eInt) h65 (o := 0) rfl rfl)) ?_)
           obtain ⟨x66, h67, h⟩ := bS h
           refine b_T rfl rfl rfl rfl rfl (o_call rfl rfl rfl rfl (ACallD.pure0 (w_slices_Equal_Lint_int h67)) ?_)
           refine b_T rfl rfl rfl rfl rfl (o_val rfl (v_not rfl) ?_)
           refine bv rfl (v_pickF rfl rfl rfl) ?_
           refine b_nil (hK _ ?_)
           clear hK K
           exact to_le (s' := ⟨[(2, HV.fptr [HV.int .i64 p0.1, HV.int .i64 p0.2.1, slE eFromLabelTo p0.2.2] 0), (5, HV.ptr 5005 v8 0), (6, slE (eSl eInt) x6.2.1), (10, HV.int .i64 a48), (130, slE eFromLabelTo x6.1.2.2), (131, HV.int .i64 ((x6.1.2.2).length : Int)), (132, HV.int .i64 a50), (159, HV.bool (!x66))], [(5005, v8, .arr 3 24 [HV.int .i64 x6.1.1, HV.int .i64 x6.1.2.1, slE eFromLabelTo x6.1.2.2])]⟩) (AS.le_of ⟨rfl, rfl, rfl, rfl, rfl, rfl, rfl, rfl, trivial⟩ ⟨rfl, trivial⟩) ⟨!x66, (), h, rfl⟩
        ·have hc := of_decide_eq_false hc
         have h := ifF hc h
         refine AW.exit ?_
         exact to_le (s' := ⟨[(5, HV.ptr 5005 v8 0), (10, HV.int .i64 a48)], [(5005, v8, .arr 3 24 [HV.int .i64 x6.1.1, HV.int .i64 x6.1.2.1, slE eFromLabelTo x6.1.2.2])]⟩) (AS.le_of ⟨rfl, rfl, trivial⟩ ⟨rfl, trivial⟩) ⟨(), (), h, rfl⟩
      ·refine AW.rgs rfl fun K hK => ?_
       refine bv rfl (v_bin rfl rfl b_lss) ?_
       refine b_fin hK (s' := ⟨[(2, HV.fptr [HV.int .i64 p0.1, HV.int .i64 p0.2.1, slE eFromLabelTo p0.2.2] 0), (5, HV.ptr 5005 v8 0), (6, slE (eSl eInt) x6.2.1), (10, HV.int .i64 a21.1), (86, slE (eSl eInt) x6.2.1), (87, HV.int .i64 ((x6.2.1).length : Int)), (88, HV.int .i64 a21.2), (89, HV.bool (decide (a21.2 < ((x6.2.1).length : Int))))], [(5005, v8, .arr 3 24 [HV.int .i64 x6.1.1, HV.int .i64 x6.1.2.1, slE eFromLabelTo x6.1.2.2])]⟩) (le_q rfl rfl) ?_
       clear hK K
       refine AW.cseq rfl (fun hc => ?_) (fun hc => ?_)
       ·have hc := of_decide_eq_true hc
        have h := ifT hc h
        refine AW.skip ?_
        refine AW.seq (AW.block ?_)
        refine AW.rgs rfl fun K hK => ?_
        refine mv rfl rfl ?_
        obtain ⟨x25, h26, h⟩ := bS h
        refine bv rfl (v_idxF ty39 es39 rfl rfl (idx_lt h26)) ?_
        refine bv rfl (v_loadF ty30 rfl (l_cell (eSl eInt) h26 (o := 0) rfl rfl)) ?_
        refine mv rfl rfl ?_
        refine mv rfl rfl ?_
        refine b_fin hK (s' := ⟨[(2, HV.fptr [HV.int .i64 p0.1, HV.int .i64 p0.2.1, slE eFromLabelTo p0.2.2] 0), (5, HV.ptr 5005 v8 0), (6, slE (eSl eInt) x6.2.1), (10, HV.int .i64 a21.1), (11, HV.int .i64 a21.2), (12, slE eInt x25), (86, slE (eSl eInt) x6.2.1), (87, HV.int .i64 ((x6.2.1).length : Int)), (88, HV.int .i64 a21.2)], [(5005, v8, .arr 3 24 [HV.int .i64 x6.1.1, HV.int .i64 x6.1.2.1, slE eFromLabelTo x6.1.2.2])]⟩) (le_q rfl rfl) ?_
        clear hK K
        refine AW.seq ?_
        refine AW.rgs rfl fun K hK => ?_
        refine mv rfl rfl ?_
        refine bv rfl (v_lenF rfl rfl ty39 rfl) ?_
        refine mv rfl rfl ?_
        refine b_fin hK (s' := ⟨[(2, HV.fptr [HV.int .i64 p0.1, HV.int .i64 p0.2.1, slE eFromLabelTo p0.2.2] 0), (5, HV.ptr 5005 v8 0), (6, slE (eSl eInt) x6.2.1), (10, HV.int .i64 a21.1), (11, HV.int .i64 a21.2), (12, slE eInt x25), (86, slE (eSl eInt) x6.2.1), (87, HV.int .i64 ((x6.2.1).length : Int)), (88, HV.int .i64 a21.2), (93, slE (eSl eInt) x6.2.1), (94, HV.int .i64 ((x6.2.1).length : Int)), (95, HV.int .i64 0)], [(5005, v8, .arr 3 24 [HV.int .i64 x6.1.1, HV.int .i64 x6.1.2.1, slE eFromLabelTo x6.1.2.2])]⟩) (le_q rfl rfl) ?_
        clear hK K
        refine AW.lpR h (by first | exact up_then | exact up_to) (S := Int) (V := Unit) (fun a v => ⟨[(2, HV.fptr [HV.int .i64 p0.1, HV.int .i64 p0.2.1, slE eFromLabelTo p0.2.2] 0), (5, HV.ptr 5005 v8 0), (6, slE (eSl eInt) x6.2.1), (10, HV.int .i64 a21.1), (11, HV.int .i64 a21.2), (12, slE eInt x25), (86, slE (eSl eInt) x6.2.1), (87, HV.int .i64 ((x6.2.1).length : Int)), (88, HV.int .i64 a21.2), (93, slE (eSl eInt) x6.2.1), (94, HV.int .i64 ((x6.2.1).length : Int)), (95, HV.int .i64 a)], [(5005, v8, .arr 3 24 [HV.int .i64 x6.1.1, HV.int .i64 x6.1.2.1, slE eFromLabelTo x6.1.2.2])]⟩) ?_ (X := Unit) (W := Unit) (fun a v => ⟨[(2, HV.fptr [HV.int .i64 p0.1, HV.int .i64 p0.2.1, slE eFromLabelTo p0.2.2] 0), (5, HV.ptr 5005 v8 0), (6, slE (eSl eInt) x6.2.1), (10, HV.int .i64 a21.1), (12, slE eInt x25), (86, slE (eSl eInt) x6.2.1), (87, HV.int .i64 ((x6.2.1).length : Int)), (88, HV.int .i64 a21.2)], [(5005, v8, .arr 3 24 [HV.int .i64 x6.1.1, HV.int .i64 x6.1.2.1, slE eFromLabelTo x6.1.2.2])]⟩) (fun a35 w36 h => ?_) (fun a27 w28 st29 h hr30=> ?_)
        ·exact to_le (s' := ⟨[(2, HV.fptr [HV.int .i64 p0.1, HV.int .i64 p0.2.1, slE eFromLabelTo p0.2.2] 0), (5, HV.ptr 5005 v8 0), (6, slE (eSl eInt) x6.2.1), (10, HV.int .i64 a21.1), (11, HV.int .i64 a21.2), (12, slE eInt x25), (86, slE (eSl eInt) x6.2.1), (87, HV.int .i64 ((x6.2.1).length : Int)), (88, HV.int .i64 a21.2), (93, slE (eSl eInt) x6.2.1), (94, HV.int .i64 ((x6.2.1).length : Int)), (95, HV.int .i64 0)], [(5005, v8, .arr 3 24 [HV.int .i64 x6.1.1, HV.int .i64 x6.1.2.1, slE eFromLabelTo x6.1.2.2])]⟩) (AS.le_of ⟨rfl, rfl, rfl, rfl, rfl, rfl, rfl, rfl, rfl, rfl, rfl, rfl, trivial⟩ ⟨rfl, trivial⟩) ⟨(), rfl⟩
        ·refine AW.rgs rfl fun K hK => ?_
         refine bv rfl (v_fieldAddrF fo24_0 rfl) ?_
         refine bv rfl (v_loadF ty3 rfl (l_lit rfl rfl)) ?_
         refine mv rfl rfl ?_
         refine b_fin hK (s' := ⟨[(2, HV.fptr [HV.int .i64 p0.1, HV.int .i64 p0.2.1, slE eFromLabelTo p0.2.2] 0), (5, HV.ptr 5005 v8 0), (6, slE (eSl eInt) x6.2.1), (10, HV.int .i64 a21.1), (12, slE eInt x25), (86, slE (eSl eInt) x6.2.1), (87, HV.int .i64 ((x6.2.1).length : Int)), (88, HV.int .i64 a21.2), (109, HV.int .i64 p0.1), (110, HV.int .i64 0)], [(5005, v8, .arr 3 24 [HV.int .i64 x6.1.1, HV.int .i64 x6.1.2.1, slE eFromLabelTo x6.1.2.2])]⟩) (le_q rfl rfl) ?_
         clear hK K
         refine AW.lpR h (by first | exact up_then | exact up_to) (S := Int × Int) (V := Unit) (fun a v => ⟨[(2, HV.fptr [HV.int .i64 p0.1, HV.int .i64 p0.2.1, slE eFromLabelTo p0.2.2] 0), (5, HV.ptr 5005 v8 0), (6, slE (eSl eInt) x6.2.1), (10, HV.int .i64 a.1), (12, slE eInt x25), (86, slE (eSl eInt) x6.2.1), (87, HV.int .i64 ((x6.2.1).length : Int)), (88, HV.int .i64 a21.2), (109, HV.int .i64 p0.1), (110, HV.int .i64 a.2)], [(5005, v8, .arr 3 24 [HV.int .i64 x6.1.1, HV.int .i64 x6.1.2.1, slE eFromLabelTo x6.1.2.2])]⟩) ?_ (X := Int) (W := Unit) (fun a v => ⟨[(2, HV.fptr [HV.int .i64 p0.1, HV.int .i64 p0.2.1, slE eFromLabelTo p0.2.2] 0), (5, HV.ptr 5005 v8 0), (6, slE (eSl eInt) x6.2.1), (10, HV.int .i64 a), (86, slE (eSl eInt) x6.2.1), (87, HV.int .i64 ((x6.2.1).length : Int)), (88, HV.int .i64 a21.2)], [(5005, v8, .arr 3 24 [HV.int .i64 x6.1.1, HV.int .i64 x6.1.2.1, slE eFromLabelTo x6.1.2.2])]⟩) (fun a46 w47 h => ?_) (fun a37 w38 st39 h hr40=> ?_)
         ·exact to_le (s' := ⟨[(2, HV.fptr [HV.int .i64 p0.1, HV.int .i64 p0.2.1, slE eFromLabelTo p0.2.2] 0), (5, HV.ptr 5005 v8 0), (6, slE (eSl eInt) x6.2.1), (10, HV.int .i64 a21.1), (12, slE eInt x25), (86, slE (eSl eInt) x6.2.1), (87, HV.int .i64 ((x6.2.1).length : Int)), (88, HV.int .i64 a21.2), (109, HV.int .i64 p0.1), (110, HV.int .i64 0)], [(5005, v8, .arr 3 24 [HV.int .i64 x6.1.1, HV.int .i64 x6.1.2.1, slE eFromLabelTo x6.1.2.2])]⟩) (AS.le_of ⟨rfl, rfl, rfl, rfl, rfl, rfl, rfl, rfl, rfl, rfl, trivial⟩ ⟨rfl, trivial⟩) ⟨(), rfl⟩
         ·refine AW.rg rfl fun K hK => ?_
          refine bv rfl (v_bin rfl rfl b_add) ?_
          refine mv rfl rfl ?_
          refine b_nil (hK _ ?_)
          clear hK K
          exact to_le (s' := ⟨[(2, HV.fptr [HV.int .i64 p0.1, HV.int .i64 p0.2.1, slE eFromLabelTo p0.2.2] 0), (5, HV.ptr 5005 v8 0), (6, slE (eSl eInt) x6.2.1), (10, HV.int .i64 a46), (86, slE (eSl eInt) x6.2.1), (87, HV.int .i64 ((x6.2.1).length : Int)), (88, HV.int .i64 (IntKind.wrap .i64 (a21.2 + 1)))], [(5005, v8, .arr 3 24 [HV.int .i64 x6.1.1, HV.int .i64 x6.1.2.1, slE eFromLabelTo x6.1.2.2])]⟩) (AS.le_of ⟨rfl, rfl, rfl, rfl, rfl, rfl, rfl, trivial⟩ ⟨rfl, trivial⟩) ⟨(a46, IntKind.wrap .i64 (a21.2 + 1)), (), h, rfl⟩
         ·refine AW.rgs rfl fun K hK => ?_
          refine bv rfl (v_bin rfl rfl b_lss) ?_
          refine b_fin hK (s' := ⟨[(2, HV.fptr [HV.int .i64 p0.1, HV.int .i64 p0.2.1, slE eFromLabelTo p0.2.2] 0), (5, HV.ptr 5005 v8 0), (6, slE (eSl eInt) x6.2.1), (10, HV.int .i64 a37.1), (12, slE eInt x25), (86, slE (eSl eInt) x6.2.1), (87, HV.int .i64 ((x6.2.1).length : Int)), (88, HV.int .i64 a21.2), (109, HV.int .i64 p0.1), (110, HV.int .i64 a37.2), (111, HV.bool (decide (a37.2 < p0.1)))], [(5005, v8, .arr 3 24 [HV.int .i64 x6.1.1, HV.int .i64 x6.1.2.1, slE eFromLabelTo x6.1.2.2])]⟩) (le_q rfl rfl) ?_
          clear hK K
          refine AW.cseq rfl (fun hc => ?_) (fun hc => ?_)
          ·have hc := of_decide_eq_true hc
           have h := ifT hc h
           refine AW.skip ?_
           refine AW.seqJ h (S := Int) (V := Unit) (fun a v => ⟨[(2, HV.fptr [HV.int .i64 p0.1, HV.int .i64 p0.2.1, slE eFromLabelTo p0.2.2] 0), (5, HV.ptr 5005 v8 0), (6, slE (eSl eInt) x6.2.1), (10, HV.int .i64 a), (12, slE eInt x25), (86, slE (eSl eInt) x6.2.1), (87, HV.int .i64 ((x6.2.1).length : Int)), (88, HV.int .i64 a21.2), (109, HV.int .i64 p0.1), (110, HV.int .i64 a37.2)], [(5005, v8, .arr 3 24 [HV.int .i64 x6.1.1, HV.int .i64 x6.1.2.1, slE eFromLabelTo x6.1.2.2])]⟩) (fun a41 w42 h => ?_) (fun k43 h => ?_)
           ·refine AW.rg rfl fun K hK => ?_
            refine bv rfl (v_bin rfl rfl b_add) ?_
            refine mv rfl rfl ?_
            refine b_nil (hK _ ?_)
            clear hK K
            exact to_le (s' := ⟨[(2, HV.fptr [HV.int .i64 p0.1, HV.int .i64 p0.2.1, slE eFromLabelTo p0.2.2] 0), (5, HV.ptr 5005 v8 0), (6, slE (eSl eInt) x6.2.1), (10, HV.int .i64 a41), (12, slE eInt x25), (86, slE (eSl eInt) x6.2.1), (87, HV.int .i64 ((x6.2.1).length : Int)), (88, HV.int .i64 a21.2), (109, HV.int .i64 p0.1), (110, HV.int .i64 (IntKind.wrap .i64 (a37.2 + 1)))], [(5005, v8, .arr 3 24 [HV.int .i64 x6.1.1, HV.int .i64 x6.1.2.1, slE eFromLabelTo x6.1.2.2])]⟩) (AS.le_of ⟨rfl, rfl, rfl, rfl, rfl, rfl, rfl, rfl, rfl, rfl, trivial⟩ ⟨rfl, trivial⟩) ⟨(a41, IntKind.wrap .i64 (a37.2 + 1)), (), h, rfl⟩
           ·refine AW.block ?_
            refine AW.rgs rfl fun K hK => ?_
            refine mv rfl rfl ?_
            refine mv rfl rfl ?_
            refine b_fin hK (s' := ⟨[(2, HV.fptr [HV.int .i64 p0.1, HV.int .i64 p0.2.1, slE eFromLabelTo p0.2.2] 0), (5, HV.ptr 5005 v8 0), (6, slE (eSl eInt) x6.2.1), (10, HV.int .i64 a37.1), (12, slE eInt x25), (15, HV.int .i64 a37.2), (86, slE (eSl eInt) x6.2.1), (87, HV.int .i64 ((x6.2.1).length : Int)), (88, HV.int .i64 a21.2), (109, HV.int .i64 p0.1), (110, HV.int .i64 a37.2)], [(5005, v8, .arr 3 24 [HV.int .i64 x6.1.1, HV.int .i64 x6.1.2.1, slE eFromLabelTo x6.1.2.2])]⟩) (le_q rfl rfl) ?_
            clear hK K
            refine AW.rgs rfl fun K hK => ?_
            refine bv rfl (v_loadF ty24 rfl (l_litA rfl (Nat.le_of_ble_eq_true rfl) rfl)) ?_
            refine mv rfl rfl ?_
            refine mv rfl rfl ?_
            obtain ⟨x44, h45, h⟩ := bS h
            refine b_op rfl (o_call rfl rfl rfl rfl (ACallD.pure0 (w_graph_Step h45)) ?_)
            refine mv rfl rfl ?_
            refine bv rfl (v_extract rfl rfl) ?_
            refine bv rfl (v_extract rfl rfl) ?_
            refine mv rfl rfl ?_
            refine mv rfl rfl ?_
            refine b_fin hK (s' := ⟨[(2, HV.fptr [HV.int .i64 p0.1, HV.int .i64 p0.2.1, slE eFromLabelTo p0.2.2] 0), (5, HV.ptr 5005 v8 0), (6, slE (eSl eInt) x6.2.1), (10, HV.int .i64 a37.1), (12, slE eInt x25), (16, slE eInt x44.1), (17, HV.int .i64 x44.2), (86, slE (eSl eInt) x6.2.1), (87, HV.int .i64 ((x6.2.1).length : Int)), (88, HV.int .i64 a21.2), (109, HV.int .i64 p0.1), (110, HV.int .i64 a37.2)], [(5005, v8, .arr 3 24 [HV.int .i64 x6.1.1, HV.int .i64 x6.1.2.1, slE eFromLabelTo x6.1.2.2])]⟩) (le_q rfl rfl) ?_
            clear hK K
            refine AW.seq ?_
            refine AW.rgs rfl fun K hK => ?_
            refine mv rfl rfl ?_
            refine bv rfl (v_bin rfl rfl b_neq) ?_
            refine b_fin hK (s' := ⟨[(2, HV.fptr [HV.int .i64 p0.1, HV.int .i64 p0.2.1, slE eFromLabelTo p0.2.2] 0), (5, HV.ptr 5005 v8 0), (6, slE (eSl eInt) x6.2.1), (10, HV.int .i64 a37.1), (12, slE eInt x25), (16, slE eInt x44.1), (86, slE (eSl eInt) x6.2.1), (87, HV.int .i64 ((x6.2.1).length : Int)), (88, HV.int .i64 a21.2), (109, HV.int .i64 p0.1), (110, HV.int .i64 a37.2), (121, HV.bool (decide (x44.2 ≠ 0)))], [(5005, v8, .arr 3 24 [HV.int .i64 x6.1.1, HV.int .i64 x6.1.2.1, slE eFromLabelTo x6.1.2.2])]⟩) (le_q rfl rfl) ?_
            clear hK K
            refine AW.cond rfl (fun hc => ?_) (fun hc => ?_)
            ·have hc := of_decide_eq_true hc
             have h := ifT hc h
             refine AW.rgs rfl fun K hK => ?_
             refine mv rfl rfl ?_
             refine b_fin hK (s' := ⟨[(4, HV.bool false)], []⟩) (le_q rfl rfl) ?_
             clear hK K
             have h := hr40 _ h
             have h := hr24 _ h
             refine AW.ret ?_
             have h := Option.some.inj h
             subst h
             exact ret_pure (hs := [HV.bool false]) (q := HV.bool false) (.inr rfl) (resT rfl rfl) rfl trivial
            ·have hc := of_decide_eq_false hc
             have h := ifF hc h
             refine AW.skip ?_
             refine AW.rgs rfl fun K hK => ?_
             refine mv rfl rfl ?_
             refine bv rfl (v_lenF rfl rfl ty30 rfl) ?_
             refine bv rfl (v_bin rfl rfl b_gtr) ?_
             refine b_fin hK (s' := ⟨[(2, HV.fptr [HV.int .i64 p0.1, HV.int .i64 p0.2.1, slE eFromLabelTo p0.2.2] 0), (5, HV.ptr 5005 v8 0), (6, slE (eSl eInt) x6.2.1), (10, HV.int .i64 a37.1), (12, slE eInt x25), (86, slE (eSl eInt) x6.2.1), (87, HV.int .i64 ((x6.2.1).length : Int)), (88, HV.int .i64 a21.2), (109, HV.int .i64 p0.1), (110, HV.int .i64 a37.2), (124, HV.bool (decide (0 < ((x44.1).length : Int))))], [(5005, v8, .arr 3 24 [HV.int .i64 x6.1.1, HV.int .i64 x6.1.2.1, slE eFromLabelTo x6.1.2.2])]⟩) (le_q rfl rfl) ?_
             clear hK K
             refine AW.cond rfl (fun hc => ?_) (fun hc => ?_)
             ·have hc := of_decide_eq_true hc
              have h := ifT hc h
              refine AW.rg rfl fun K hK => ?_
              refine mv rfl rfl ?_
              refine bv rfl (v_bin rfl rfl b_add) ?_
              refine mv rfl rfl ?_
              refine b_nil (hK _ ?_)
              clear hK K
              exact to_le (s' := ⟨[(2, HV.fptr [HV.int .i64 p0.1, HV.int .i64 p0.2.1, slE eFromLabelTo p0.2.2] 0), (5, HV.ptr 5005 v8 0), (6, slE (eSl eInt) x6.2.1), (10, HV.int .i64 (IntKind.wrap .i64 (a37.1 + 1))), (12, slE eInt x25), (86, slE (eSl eInt) x6.2.1), (87, HV.int .i64 ((x6.2.1).length : Int)), (88, HV.int .i64 a21.2), (109, HV.int .i64 p0.1), (110, HV.int .i64 a37.2)], [(5005, v8, .arr 3 24 [HV.int .i64 x6.1.1, HV.int .i64 x6.1.2.1, slE eFromLabelTo x6.1.2.2])]⟩) (AS.le_of ⟨rfl, rfl, rfl, rfl, rfl, rfl, rfl, rfl, rfl, rfl, trivial⟩ ⟨rfl, trivial⟩) ⟨IntKind.wrap .i64 (a37.1 + 1), (), h, rfl⟩
             ·have hc := of_decide_eq_false hc
              have h := ifF hc h
              refine AW.skip ?_
              exact to_le (s' := ⟨[(2, HV.fptr [HV.int .i64 p0.1, HV.int .i64 p0.2.1, slE eFromLabelTo p0.2.2] 0), (5, HV.ptr 5005 v8 0), (6, slE (eSl eInt) x6.2.1), (10, HV.int .i64 a37.1), (12, slE eInt x25), (86, slE (eSl eInt) x6.2.1), (87, HV.int .i64 ((x6.2.1).length : Int)), (88, HV.int .i64 a21.2), (109, HV.int .i64 p0.1), (110, HV.int .i64 a37.2)], [(5005, v8, .arr 3 24 [HV.int .i64 x6.1.1, HV.int .i64 x6.1.2.1, slE eFromLabelTo x6.1.2.2])]⟩) (AS.le_of ⟨rfl, rfl, rfl, rfl, rfl, rfl, rfl, rfl, rfl, rfl, trivial⟩ ⟨rfl, trivial⟩) ⟨a37.1, (), h, rfl⟩
          ·have hc := of_decide_eq_false hc
           have h := ifF hc h
           refine AW.exit ?_
           exact to_le (s' := ⟨[(2, HV.fptr [HV.int .i64 p0.1, HV.int .i64 p0.2.1, slE eFromLabelTo p0.2.2] 0), (5, HV.ptr 5005 v8 0), (6, slE (eSl eInt) x6.2.1), (10, HV.int .i64 a37.1), (86, slE (eSl eInt) x6.2.1), (87, HV.int .i64 ((x6.2.1).length : Int)), (88, HV.int .i64 a21.2)], [(5005, v8, .arr 3 24 [HV.int .i64 x6.1.1, HV.int .i64 x6.1.2.1, slE eFromLabelTo x6.1.2.2])]⟩) (AS.le_of ⟨rfl, rfl, rfl, rfl, rfl, rfl, rfl, trivial⟩ ⟨rfl, trivial⟩) ⟨a37.1, (), h, rfl⟩
        ·refine AW.rgs rfl fun K hK => ?_
         refine bv rfl (v_bin rfl rfl b_lss) ?_
         refine b_fin hK (s' := ⟨[(2, HV.fptr [HV.int .i64 p0.1, HV.int .i64 p0.2.1, slE eFromLabelTo p0.2.2] 0), (5, HV.ptr 5005 v8 0), (6, slE (eSl eInt) x6.2.1), (10, HV.int .i64 a21.1), (11, HV.int .i64 a21.2), (12, slE eInt x25), (86, slE (eSl eInt) x6.2.1), (87, HV.int .i64 ((x6.2.1).length : Int)), (88, HV.int .i64 a21.2), (93, slE (eSl eInt) x6.2.1), (94, HV.int .i64 ((x6.2.1).length : Int)), (95, HV.int .i64 a27), (96, HV.bool (decide (a27 < ((x6.2.1).length : Int))))], [(5005, v8, .arr 3 24 [HV.int .i64 x6.1.1, HV.int .i64 x6.1.2.1, slE eFromLabelTo x6.1.2.2])]⟩) (le_q rfl rfl) ?_
         clear hK K
         refine AW.cseq rfl (fun hc => ?_) (fun hc => ?_)
         ·have hc := of_decide_eq_true hc
          have h := ifT hc h
          refine AW.skip ?_
          refine AW.seq (AW.block ?_)
          refine AW.rgs rfl fun K hK => ?_
          refine mv rfl rfl ?_
          obtain ⟨x31, h32, h⟩ := bS h
          refine bv rfl (v_idxF ty39 es39 rfl rfl (idx_lt h32)) ?_
          refine bv rfl (v_loadF ty30 rfl (l_cell (eSl eInt) h32 (o := 0) rfl rfl)) ?_
          refine mv rfl rfl ?_
          refine mv rfl rfl ?_
          refine b_fin hK (s' := ⟨[(2, HV.fptr [HV.int .i64 p0.1, HV.int .i64 p0.2.1, slE eFromLabelTo p0.2.2] 0), (5, HV.ptr 5005 v8 0), (6, slE (eSl eInt) x6.2.1), (10, HV.int .i64 a21.1), (11, HV.int .i64 a21.2), (12, slE eInt x25), (13, HV.int .i64 a27), (14, slE eInt x31), (86, slE (eSl eInt) x6.2.1), (87, HV.int .i64 ((x6.2.1).length : Int)), (88, HV.int .i64 a21.2), (93, slE (eSl eInt) x6.2.1), (94, HV.int .i64 ((x6.2.1).length : Int)), (95, HV.int .i64 a27)], [(5005, v8, .arr 3 24 [HV.int .i64 x6.1.1, HV.int .i64 x6.1.2.1, slE eFromLabelTo x6.1.2.2])]⟩) (le_q rfl rfl) ?_
          clear hK K
          refine AW.rgs rfl fun K hK => ?_
          refine mv rfl rfl ?_
          refine mv rfl rfl ?_
          refine bv rfl (v_bin rfl rfl b_eql) ?_
          refine mv rfl rfl ?_
          refine mv rfl rfl ?_
          obtain ⟨x33, h34, h⟩ := bS h
          refine b_op rfl (o_call rfl rfl rfl rfl (ACallD.pure0 (w_slices_Equal_Lint_int h34)) ?_)
          refine bv rfl (v_bin rfl rfl (b_neB ty4)) ?_
          refine b_fin hK (s' := ⟨[(2, HV.fptr [HV.int .i64 p0.1, HV.int .i64 p0.2.1, slE eFromLabelTo p0.2.2] 0), (5, HV.ptr 5005 v8 0), (6, slE (eSl eInt) x6.2.1), (10, HV.int .i64 a21.1), (11, HV.int .i64 a21.2), (12, slE eInt x25), (86, slE (eSl eInt) x6.2.1), (87, HV.int .i64 ((x6.2.1).length : Int)), (88, HV.int .i64 a21.2), (93, slE (eSl eInt) x6.2.1), (94, HV.int .i64 ((x6.2.1).length : Int)), (95, HV.int .i64 a27), (106, HV.bool (!((decide (a21.2 = a27)) == x33)))], [(5005, v8, .arr 3 24 [HV.int .i64 x6.1.1, HV.int .i64 x6.1.2.1, slE eFromLabelTo x6.1.2.2])]⟩) (le_q rfl rfl) ?_
          clear hK K
          refine AW.cond rfl (fun hc => ?_) (fun hc => ?_)
          ·have h := ifT hc h
           refine AW.rgs rfl fun K hK => ?_
           refine mv rfl rfl ?_
           refine b_fin hK (s' := ⟨[(4, HV.bool false)], []⟩) (le_q rfl rfl) ?_
           clear hK K
           have h := hr30 _ h
           have h := hr24 _ h
           refine AW.ret ?_
           have h := Option.some.inj h
           subst h
           exact ret_pure (hs := [HV.bool false]) (q := HV.bool false) (.inr rfl) (resT rfl rfl) rfl trivial
          ·have h := ifF (bF' hc) h
           refine AW.skip ?_
           refine AW.rg rfl fun K hK => ?_
           refine bv rfl (v_bin rfl rfl b_add) ?_
           refine mv rfl rfl ?_
           refine b_nil (hK _ ?_)
           clear hK K
           exact to_le (s' := ⟨[(2, HV.fptr [HV.int .i64 p0.1, HV.int .i64 p0.2.1, slE eFromLabelTo p0.2.2] 0), (5, HV.ptr 5005 v8 0), (6, slE (eSl eInt) x6.2.1), (10, HV.int .i64 a21.1), (11, HV.int .i64 a21.2), (12, slE eInt x25), (86, slE (eSl eInt) x6.2.1), (87, HV.int .i64 ((x6.2.1).length : Int)), (88, HV.int .i64 a21.2), (93, slE (eSl eInt) x6.2.1), (94, HV.int .i64 ((x6.2.1).length : Int)), (95, HV.int .i64 (IntKind.wrap .i64 (a27 + 1)))], [(5005, v8, .arr 3 24 [HV.int .i64 x6.1.1, HV.int .i64 x6.1.2.1, slE eFromLabelTo x6.1.2.2])]⟩) (AS.le_of ⟨rfl, rfl, rfl, rfl, rfl, rfl, rfl, rfl, rfl, rfl, rfl, rfl, trivial⟩ ⟨rfl, trivial⟩) ⟨IntKind.wrap .i64 (a27 + 1), (), h, rfl⟩
         ·have hc := of_decide_eq_false hc
          have h := ifF hc h
          refine AW.exit ?_
          exact to_le (s' := ⟨[(2, HV.fptr [HV.int .i64 p0.1, HV.int .i64 p0.2.1, slE eFromLabelTo p0.2.2] 0), (5, HV.ptr 5005 v8 0), (6, slE (eSl eInt) x6.2.1), (10, HV.int .i64 a21.1), (12, slE eInt x25), (86, slE (eSl eInt) x6.2.1), (87, HV.int .i64 ((x6.2.1).length : Int)), (88, HV.int .i64 a21.2)], [(5005, v8, .arr 3 24 [HV.int .i64 x6.1.1, HV.int .i64 x6.1.2.1, slE eFromLabelTo x6.1.2.2])]⟩) (AS.le_of ⟨rfl, rfl, rfl, rfl, rfl, rfl, rfl, rfl, trivial⟩ ⟨rfl, trivial⟩) ⟨(), (), h, rfl⟩
       ·have hc := of_decide_eq_false hc
        have h := ifF hc h
        refine AW.exit ?_
        exact to_le (s' := ⟨[(2, HV.fptr [HV.int .i64 p0.1, HV.int .i64 p0.2.1, slE eFromLabelTo p0.2.2] 0), (5, HV.ptr 5005 v8 0), (6, slE (eSl eInt) x6.2.1), (10, HV.int .i64 a21.1)], [(5005, v8, .arr 3 24 [HV.int .i64 x6.1.1, HV.int .i64 x6.1.2.1, slE eFromLabelTo x6.1.2.2])]⟩) (AS.le_of ⟨rfl, rfl, rfl, rfl, trivial⟩ ⟨rfl, trivial⟩) ⟨a21.1, (), h, rfl⟩
    ·refine AW.rg rfl fun K hK => ?_
     refine mv rfl rfl ?_
     refine bv rfl (v_bin rfl rfl b_neq) ?_
     refine mv rfl rfl ?_
     by_cases hg87 : x16.2 ≠ 0
     ·have h := ifT hg87 h
      refine b_F rfl rfl rfl rfl rfl (decide_eq_true hg87) ?_
      refine b_F rfl rfl rfl rfl rfl rfl ?_
      refine bv rfl (v_pickT rfl rfl rfl) ?_
      refine mv rfl rfl ?_
      refine b_F rfl rfl rfl rfl rfl rfl ?_
      refine b_F rfl rfl rfl rfl rfl rfl ?_
      refine b_F rfl rfl rfl rfl rfl rfl ?_
      refine bv rfl (v_pickT rfl rfl rfl) ?_
      refine mv rfl rfl ?_
      refine b_F rfl rfl rfl rfl rfl rfl ?_
      refine b_F rfl rfl rfl rfl rfl rfl ?_
      refine b_F rfl rfl rfl rfl rfl rfl ?_
      refine b_F rfl rfl rfl rfl rfl rfl ?_
      refine b_F rfl rfl rfl rfl rfl rfl ?_
      refine bv rfl (v_pickT rfl rfl rfl) ?_
      refine mv rfl rfl ?_
      refine b_F rfl rfl rfl rfl rfl rfl ?_
      refine b_F rfl rfl rfl rfl rfl rfl ?_
      refine b_F rfl rfl rfl rfl rfl rfl ?_
      refine bv rfl (v_pickT rfl rfl rfl) ?_
      refine mv rfl rfl ?_
      refine b_F rfl rfl rfl rfl rfl rfl ?_
      refine b_F rfl rfl rfl rfl rfl rfl ?_
      refine b_F rfl rfl rfl rfl rfl rfl ?_
      refine b_F rfl rfl rfl rfl rfl rfl ?_
      refine b_F rfl rfl rfl rfl rfl rfl ?_
      refine b_F rfl rfl rfl rfl rfl rfl ?_
      refine bv rfl (v_pickT rfl rfl rfl) ?_
      refine b_nil (hK _ ?_)
      clear hK K
      exact to_le (s' := ⟨[(2, HV.fptr [HV.int .i64 p0.1, HV.int .i64 p0.2.1, slE eFromLabelTo p0.2.2] 0), (5, HV.ptr 5005 v8 0), (6, slE (eSl eInt) x6.2.1), (85, HV.bool true)], [(5005, v8, .arr 3 24 [HV.int .i64 x6.1.1, HV.int .i64 x6.1.2.1, slE eFromLabelTo x6.1.2.2])]⟩) (AS.le_of ⟨rfl, rfl, rfl, rfl, trivial⟩ ⟨rfl, trivial⟩) ⟨true, (), h, rfl⟩
     ·have h := ifF hg87 h
      refine b_T rfl rfl rfl rfl (decide_eq_false hg87) (o_val rfl (mv_val rfl rfl).2 ?_)
      refine b_T rfl rfl rfl rfl rfl (o_val rfl (v_not rfl) ?_)
      refine bv rfl (v_pickF rfl rfl rfl) ?_
      refine mv rfl rfl ?_
      by_cases hg86 : (!x16.1) = true
      ·have h := ifT hg86 h
       refine b_F rfl rfl rfl rfl rfl hg86 ?_
       refine b_F rfl rfl rfl rfl rfl rfl ?_
       refine b_F rfl rfl rfl rfl rfl rfl ?_
       refine bv rfl (v_pickT rfl rfl rfl) ?_
       refine mv rfl rfl ?_
       refine b_F rfl rfl rfl rfl rfl rfl ?_
       refine b_F rfl rfl rfl rfl rfl rfl ?_
       refine b_F rfl rfl rfl rfl rfl rfl ?_
       refine b_F rfl rfl rfl rfl rfl rfl ?_
       refine b_F rfl rfl rfl rfl rfl rfl ?_
       refine bv rfl (v_pickT rfl rfl rfl) ?_
       refine mv rfl rfl ?_
       refine b_F rfl rfl rfl rfl rfl rfl ?_
       refine b_F rfl rfl rfl rfl rfl rfl ?_
       refine b_F rfl rfl rfl rfl rfl rfl ?_
       refine bv rfl (v_pickT rfl rfl rfl) ?_
       refine mv rfl rfl ?_
       refine b_F rfl rfl rfl rfl rfl rfl ?_
       refine b_F rfl rfl rfl rfl rfl rfl ?_
       refine b_F rfl rfl rfl rfl rfl rfl ?_
       refine b_F rfl rfl rfl rfl rfl rfl ?_
       refine b_F rfl rfl rfl rfl rfl rfl ?_
       refine b_F rfl rfl rfl rfl rfl rfl ?_
       refine bv rfl (v_pickT rfl rfl rfl) ?_
       refine b_nil (hK _ ?_)
       clear hK K
       exact to_le (s' := ⟨[(2, HV.fptr [HV.int .i64 p0.1, HV.int .i64 p0.2.1, slE eFromLabelTo p0.2.2] 0), (5, HV.ptr 5005 v8 0), (6, slE (eSl eInt) x6.2.1), (85, HV.bool true)], [(5005, v8, .arr 3 24 [HV.int .i64 x6.1.1, HV.int .i64 x6.1.2.1, slE eFromLabelTo x6.1.2.2])]⟩) (AS.le_of ⟨rfl, rfl, rfl, rfl, trivial⟩ ⟨rfl, trivial⟩) ⟨true, (), h, rfl⟩
      ·have h := ifF hg86 h
       refine b_T rfl rfl rfl rfl (bF hg86) (o_val rfl (v_loadP ty24 rfl rfl (l_litA rfl (Nat.le_of_ble_eq_true rfl) rfl)) ?_)
       obtain ⟨x77, h78, h⟩ := bS h
       refine b_T rfl rfl rfl rfl rfl (o_call rfl rfl rfl rfl (ACallD.pure0 (w_ref09_Check h78)) ?_)
       refine b_T rfl rfl rfl rfl rfl (o_val rfl (v_bin rfl rfl b_neq) ?_)
       refine bv rfl (v_pickF rfl rfl rfl) ?_
       refine mv rfl rfl ?_
       by_cases hg85 : x77 ≠ 0
       ·have h := ifT hg85 h
        refine b_F rfl rfl rfl rfl rfl (decide_eq_true hg85) ?_
        refine b_F rfl rfl rfl rfl rfl rfl ?_
        refine b_F rfl rfl rfl rfl rfl rfl ?_
        refine b_F rfl rfl rfl rfl rfl rfl ?_
        refine b_F rfl rfl rfl rfl rfl rfl ?_
        refine bv rfl (v_pickT rfl rfl rfl) ?_
        refine mv rfl rfl ?_
        refine b_F rfl rfl rfl rfl rfl rfl ?_
        refine b_F rfl rfl rfl rfl rfl rfl ?_
        refine b_F rfl rfl rfl rfl rfl rfl ?_
        refine bv rfl (v_pickT rfl rfl rfl) ?_
        refine mv rfl rfl ?_
        refine b_F rfl rfl rfl rfl rfl rfl ?_
        refine b_F rfl rfl rfl rfl rfl rfl ?_
        refine b_F rfl rfl rfl rfl rfl rfl ?_
        refine b_F rfl rfl rfl rfl rfl rfl ?_
        refine b_F rfl rfl rfl rfl rfl rfl ?_
        refine b_F rfl rfl rfl rfl rfl rfl ?_
        refine bv rfl (v_pickT rfl rfl rfl) ?_
        refine b_nil (hK _ ?_)
        clear hK K
        exact to_le (s' := ⟨[(2, HV.fptr [HV.int .i64 p0.1, HV.int .i64 p0.2.1, slE eFromLabelTo p0.2.2] 0), (5, HV.ptr 5005 v8 0), (6, slE (eSl eInt) x6.2.1), (85, HV.bool true)], [(5005, v8, .arr 3 24 [HV.int .i64 x6.1.1, HV.int .i64 x6.1.2.1, slE eFromLabelTo x6.1.2.2])]⟩) (AS.le_of ⟨rfl, rfl, rfl, rfl, trivial⟩ ⟨rfl, trivial⟩) ⟨true, (), h, rfl⟩
       ·have h := ifF hg85 h
        refine b_T rfl rfl rfl rfl (decide_eq_false hg85) (o_val rfl (v_fieldAddrP fo24_1 rfl rfl) ?_)
        refine b_T rfl rfl rfl rfl rfl (o_val rfl (v_loadP ty3 rfl rfl (l_lit rfl rfl)) ?_)
        refine b_T rfl rfl rfl rfl rfl (o_val rfl (mv_val rfl rfl).2 ?_)
        refine b_T rfl rfl rfl rfl rfl (o_val rfl (v_lenF rfl rfl ty39 rfl) ?_)
        refine b_T rfl rfl rfl rfl rfl (o_val rfl (v_bin rfl rfl b_neq) ?_)
        refine bv rfl (v_pickF rfl rfl rfl) ?_
        refine mv rfl rfl ?_
        by_cases hg84 : x6.1.2.1 ≠ ((x6.2.1).length : Int)
        ·have h := ifT hg84 h
         refine b_F rfl rfl rfl rfl rfl (decide_eq_true hg84) ?_
         refine b_F rfl rfl rfl rfl rfl rfl ?_
         refine b_F rfl rfl rfl rfl rfl rfl ?_
         refine bv rfl (v_pickT rfl rfl rfl) ?_
         refine mv rfl rfl ?_
         refine b_F rfl rfl rfl rfl rfl rfl ?_
         refine b_F rfl rfl rfl rfl rfl rfl ?_
         refine b_F rfl rfl rfl rfl rfl rfl ?_
         refine b_F rfl rfl rfl rfl rfl rfl ?_
         refine b_F rfl rfl rfl rfl rfl rfl ?_
         refine b_F rfl rfl rfl rfl rfl rfl ?_
         refine bv rfl (v_pickT rfl rfl rfl) ?_
         refine b_nil (hK _ ?_)
         clear hK K
         exact to_le (s' := ⟨[(2, HV.fptr [HV.int .i64 p0.1, HV.int .i64 p0.2.1, slE eFromLabelTo p0.2.2] 0), (5, HV.ptr 5005 v8 0), (6, slE (eSl eInt) x6.2.1), (85, HV.bool true)], [(5005, v8, .arr 3 24 [HV.int .i64 x6.1.1, HV.int .i64 x6.1.2.1, slE eFromLabelTo x6.1.2.2])]⟩) (AS.le_of ⟨rfl, rfl, rfl, rfl, trivial⟩ ⟨rfl, trivial⟩) ⟨true, (), h, rfl⟩
        ·have h := ifF hg84 h
         refine b_T rfl rfl rfl rfl (decide_eq_false hg84) (o_val rfl (mv_val rfl rfl).2 ?_)
         refine b_T rfl rfl rfl rfl rfl (o_val rfl (v_lenF rfl rfl ty39 rfl) ?_)
         refine b_T rfl rfl rfl rfl rfl (o_val rfl (v_bin rfl rfl b_eql) ?_)
         refine bv rfl (v_pickF rfl rfl rfl) ?_
         refine mv rfl rfl ?_
         by_cases hg83 : ((x6.2.1).length : Int) = 0
         ·have h := ifT hg83 h
          refine b_F rfl rfl rfl rfl rfl (decide_eq_true hg83) ?_
          refine b_F rfl rfl rfl rfl rfl rfl ?_
          refine b_F rfl rfl rfl rfl rfl rfl ?_
          refine b_F rfl rfl rfl rfl rfl rfl ?_
          refine b_F rfl rfl rfl rfl rfl rfl ?_
          refine b_F rfl rfl rfl rfl rfl rfl ?_
          refine bv rfl (v_pickT rfl rfl rfl) ?_
          refine b_nil (hK _ ?_)
          clear hK K
          exact to_le (s' := ⟨[(2, HV.fptr [HV.int .i64 p0.1, HV.int .i64 p0.2.1, slE eFromLabelTo p0.2.2] 0), (5, HV.ptr 5005 v8 0), (6, slE (eSl eInt) x6.2.1), (85, HV.bool true)], [(5005, v8, .arr 3 24 [HV.int .i64 x6.1.1, HV.int .i64 x6.1.2.1, slE eFromLabelTo x6.1.2.2])]⟩) (AS.le_of ⟨rfl, rfl, rfl, rfl, trivial⟩ ⟨rfl, trivial⟩) ⟨true, (), h, rfl⟩
         ·have h := ifF hg83 h
          refine b_T rfl rfl rfl rfl (decide_eq_false hg83) (o_val rfl (mv_val rfl rfl).2 ?_)
          obtain ⟨x79, h80, h⟩ := bS h
          refine b_T rfl rfl rfl rfl rfl (o_val rfl (v_idxF ty39 es39 rfl rfl (idx_lt h80)) ?_)
          refine b_T rfl rfl rfl rfl rfl (o_val rfl (v_loadF ty30 rfl (l_cell (eSl eInt) h80 (o := 0) rfl rfl)) ?_)
          refine b_T rfl rfl rfl rfl rfl (o_val rfl (mv_val rfl rfl).2 ?_)
          obtain ⟨x81, h82, h⟩ := bS h
          refine b_T rfl rfl rfl rfl rfl (o_call rfl rfl rfl rfl (ACallD.pure0 (w_slices_Equal_Lint_int h82)) ?_)
          refine b_T rfl rfl rfl rfl rfl (o_val rfl (v_not rfl) ?_)
          refine bv rfl (v_pickF rfl rfl rfl) ?_
          refine b_nil (hK _ ?_)
          clear hK K
          exact to_le (s' := ⟨[(2, HV.fptr [HV.int .i64 p0.1, HV.int .i64 p0.2.1, slE eFromLabelTo p0.2.2] 0), (5, HV.ptr 5005 v8 0), (6, slE (eSl eInt) x6.2.1), (85, HV.bool (!x81))], [(5005, v8, .arr 3 24 [HV.int .i64 x6.1.1, HV.int .i64 x6.1.2.1, slE eFromLabelTo x6.1.2.2])]⟩) (AS.le_of ⟨rfl, rfl, rfl, rfl, trivial⟩ ⟨rfl, trivial⟩) ⟨!x81, (), h, rfl⟩
 ·refine AW.rg rfl fun K hK => ?_
  refine bv rfl (v_loadF ty24 rfl (l_litA rfl (Nat.le_of_ble_eq_true rfl) rfl)) ?_
  obtain ⟨x88, h89, h⟩ := bS h
  refine b_op rfl (o_call rfl rfl rfl rfl (ACallD.pure0 (w_law12_great h89)) ?_)
  refine mv rfl rfl ?_
  by_cases hg90 : x88 = true
  ·have h := ifT hg90 h
   refine b_F rfl rfl rfl rfl rfl hg90 ?_
   refine b_F rfl rfl rfl rfl rfl rfl ?_
   refine b_F rfl rfl rfl rfl rfl rfl ?_
   refine bv rfl (v_pickT rfl rfl rfl) ?_
   refine b_nil (hK _ ?_)
   clear hK K
   exact to_le (s' := ⟨[(1, slE eInt p1), (2, HV.fptr [HV.int .i64 p0.1, HV.int .i64 p0.2.1, slE eFromLabelTo p0.2.2] 0), (28, HV.bool true)], []⟩) (AS.le_of ⟨rfl, rfl, rfl, trivial⟩ trivial) ⟨true, (), h, rfl⟩
  ·have h := ifF hg90 h
   refine b_T rfl rfl rfl rfl (bF hg90) (o_val rfl (mv_val rfl rfl).2 ?_)
   refine b_T rfl rfl rfl rfl rfl (o_val rfl (v_lenF rfl rfl ty30 rfl) ?_)
   refine b_T rfl rfl rfl rfl rfl (o_val rfl (v_bin rfl rfl b_gtr) ?_)
   refine bv rfl (v_pickF rfl rfl rfl) ?_
   refine b_nil (hK _ ?_)
   clear hK K
   exact to_le (s' := ⟨[(1, slE eInt p1), (2, HV.fptr [HV.int .i64 p0.1, HV.int .i64 p0.2.1, slE eFromLabelTo p0.2.2] 0), (28, HV.bool (decide (10 < ((p1).length : Int))))], []⟩) (AS.le_of ⟨rfl, rfl, rfl, trivial⟩ trivial) ⟨decide (10 < ((p1).length : Int)), (), h, rfl⟩

end Go.AW



/- SubsetSets. -/
namespace Go.AW
open Go
set_option linter.unusedSimpArgs false
set_option linter.unusedVariables false

/-- two edges next to each other with one beginning and one label -/
def twinB (E : List Ed) (i : Nat) : Bool := decide ((E.getD i (0, 0, 0)).1 = (E.getD (i + 1) (0, 0, 0)).1) && decide ((E.getD i (0, 0, 0)).2.1 = (E.getD (i + 1) (0, 0, 0)).2.1)
def detB (E : List Ed) : Bool := !(List.range (E.length - 1)).any (twinB E)

theorem Det_eq {g : Gr} {e : Int} (he : m_ref09_Check g = some e) (hz : e = 0 ↔ VG g) : m_graph_Deterministic g = some (if e ≠ 0 then (false, 1) else (detB g.2.2, 0)) := by
  unfold m_graph_Deterministic
  rw [Check_ref, he, Option.bind_some]
  by_cases h0 : e = 0
  case neg => rw [if_pos h0, if_pos h0]
  rw [if_neg (show ¬ e ≠ 0 from fun h => h h0), if_neg (show ¬ e ≠ 0 from fun h => h h0)]
  have hel := (hz.1 h0).el
  refine lpL (loop_any (fun i => ((i + 1 : Nat) : Int)) (g.2.2.length - 1) (twinB g.2.2) (Ou.ret (false, 0)) (Ou.go ()) (fun i hi => ?_) (by rw [if_neg (by omega)]) rfl) ?_
  · have hi1 : i + 1 < g.2.2.length := by omega
    have e3 : IntKind.wrap .i64 (((i + 1 : Nat) : Int) - 1) = (i : Int) := by rw [w64 (by omega) (by omega)]; omega
    simp only [jp]
    rw [if_pos (by omega), e3, ix (by omega : i < g.2.2.length), ix hi1, Option.bind_some, Option.bind_some]
    unfold twinB
    rw [getD_lt (show i < g.2.2.length by omega), getD_lt hi1, nx (by omega : g.2.2.length ≤ _) hi1]
    by_cases c1 : (g.2.2[i]'(by omega)).1 = g.2.2[i + 1].1
    · rw [if_pos c1]
      simp [c1]
    · rw [if_neg c1]
      simp [c1]
  · unfold detB
    cases (List.range (g.2.2.length - 1)).any (twinB g.2.2) <;> rfl

theorem Det_ok {g : Gr} (he : m_ref09_Check g = some 0) (hv : VG g) : m_graph_Deterministic g = some (detB g.2.2, 0) := by
  rw [Det_eq he ⟨fun _ => hv, fun _ => rfl⟩, if_neg (by decide)]
theorem no0 : ¬ (0 : Int) ≠ 0 := fun h => h rfl

section
variable {g : Gr} {a : List Int} {E : List Ed} {L : List (List Int)}
theorem Sets.det (h : Sets g a E L) : detB E = true := by
  unfold detB
  rw [Bool.not_eq_true']
  apply Bool.eq_false_iff.2
  intro hx
  obtain ⟨i, hi, hp⟩ := List.any_eq_true.1 hx
  have hi := List.mem_range.1 hi
  unfold twinB at hp
  rw [getD_lt (show i < E.length by omega), getD_lt (show i + 1 < E.length by omega)] at hp
  simp only [Bool.and_eq_true, decide_eq_true_eq] at hp
  have := List.pairwise_iff_getElem.1 h.asc i (i + 1) (by omega) (by omega) (by omega)
  omega

theorem Sets.inj (h : Sets g a E L) {i k : Nat} (hi : i < L.length) (hk : k < L.length) (e : L[i] = L[k]) : i = k := by
  have h1 := h.idx_at hi
  have h2 := h.idx_at hk
  rw [getD_lt hi] at h1
  rw [getD_lt hk] at h2
  rw [← h1, ← h2, e]

def cntE (g : Gr) (L : List (List Int)) (i : Nat) : Nat := ((List.range i).flatMap fun j => rowE g j (L.getD j []) L g.1.toNat).length
theorem cntE_succ (i : Nat) : cntE g L (i + 1) = cntE g L i + (rowE g i (L.getD i []) L g.1.toNat).length := by
  unfold cntE
  rw [List.range_succ, List.flatMap_append, List.length_append]
  simp
theorem rowE_len (i : Nat) (b : List Int) : ∀ n, (rowE g i b L n).length ≤ n
  | 0 => by simp [rowE]
  | n + 1 => by
    have := rowE_len i b n
    rw [rowE_succ, List.length_append]
    split <;> simp <;> omega
theorem cntE_le (hl : g.1 ≤ 256) : ∀ i, cntE g L i ≤ i * 256
  | 0 => by simp [cntE]
  | i + 1 => by
    have := cntE_le hl i
    have := rowE_len (g := g) (L := L) i (L.getD i []) g.1.toNat
    rw [cntE_succ]
    omega

/-- what From gives at no error, and else -/
theorem fromR_cases {e : Int} (hz : e = 0 ↔ VG g) (a : List Int) : ((fromR g e a).2.2 ≠ 0 ∧ fromR g e a = ((0, 0, []), [], (fromR g e a).2.2)) ∨ (VG g ∧ SetOk g a ∧ a ≠ [] ∧ ∃ E L, Sets g a E L ∧ brun g 66 0 ([], [a]) = some (E, L) ∧ fromR g e a = ((g.1, (L.length : Int), E), L, 0)) := by
  unfold fromR
  by_cases h0 : e = 0
  case neg => rw [if_pos h0]; exact .inl ⟨by decide, rfl⟩
  rw [if_neg (show ¬ e ≠ 0 from fun h => h h0)]
  by_cases hl : a.length = 0
  · rw [if_pos hl]; exact .inl ⟨by decide, rfl⟩
  rw [if_neg hl]
  rcases scanC_cases (bad1 g a) (bad2 a) a.length 0 with h | h | ⟨h, _⟩
  · rw [show checkS g a = 1 from h]; exact .inl ⟨by simp [pick3], rfl⟩
  · rw [show checkS g a = 2 from h]; exact .inl ⟨by simp [pick3], rfl⟩
  · have hs : SetOk g a := checkS_ok h
    have hne : a ≠ [] := fun e => hl (by rw [e]; rfl)
    rw [show checkS g a = 0 from h]
    simp only [pick3]
    rcases buildR_cases hs hne with h | ⟨E, L, hS, hrun, h⟩
    · rw [h]; exact .inl ⟨by decide, rfl⟩
    · rw [h]; exact .inr ⟨hz.1 h0, hs, hne, E, L, hS, hrun, rfl⟩
theorem len_pos_ne {α : Type} {l : List α} (h : l ≠ []) : 0 < l.length := List.length_pos_iff.2 h

theorem law_sets (g : Gr) (a : List Int) : m_law12_SubsetSets g a = some true := by
  obtain ⟨b, hb⟩ := great12_tot g
  unfold m_law12_SubsetSets
  simp only [jp]
  rw [hb, Option.bind_some]
  cases b with
  | true => rfl
  | false =>
    rw [if_neg (by decide)]
    by_cases hl : (10 : Int) < (a.length : Int)
    · rw [if_pos (decide_eq_true hl)]; rfl
    rw [if_neg (by simpa using hl)]
    obtain ⟨e, he, hz⟩ := Check_tot g
    have ha : a.length ≤ 1000000 := by omega
    rw [From_eq he hz ha, Option.bind_some]
    rcases fromR_cases hz a with ⟨hne, hr⟩ | ⟨hv, hs, hne, E, L, hS, hrun, hr⟩
    · rw [if_pos hne, hr]
      simp [m_law12_awake]
    rw [hr]
    dsimp only
    obtain ⟨e2, he2, hz2⟩ := Check_tot (g.1, (L.length : Int), E)
    have hv2 := hS.vg hv
    have h02 := hz2.2 hv2
    subst h02
    have hL := hS.s1
    have hE := hS.s2
    have hlp := hS.len_pos
    have h256 := hv.l2
    have h1 := hv.l1
    have hz0 : L[0] = a := by have := hS.zero; rwa [getD_lt hlp] at this
    rw [if_neg no0, Det_ok he2 hv2, Option.bind_some]
    dsimp only
    rw [hS.det, if_neg no0, if_neg (show ¬ (!true) = true by decide), he2, Option.bind_some, if_neg no0, if_neg (show ¬ (L.length : Int) ≠ (L.length : Int) from fun h => h rfl), if_neg (show ¬ (L.length : Int) = 0 by omega), ix0 hlp, Option.bind_some, hz0, EqI_eq (by omega), Option.bind_some, decide_eq_true (rfl : a = a), if_neg (show ¬ (!true) = true by decide)]
    refine lpL (loop_is (fun i => ((cntE g L i : Int), (i : Int))) L.length (Ou.go (E.length : Int)) (fun i hi => ?_) ?_ rfl) ?_
    · dsimp only
      have hset : SetOk g L[i] := hS.good _ (List.getElem_mem hi)
      have hsl := setOk_len hv hset
      rw [if_pos (lt_int hi), ix hi, Option.bind_some]
      refine lpL (loop_is (fun k => (k : Int)) L.length (Ou.go ()) (fun k hk => ?_) (by rw [if_neg (not_lt_int _)]) rfl) ?_
      · rw [if_pos (lt_int hk), ix hk, Option.bind_some, EqI_eq (by omega), Option.bind_some, nx (by omega : L.length ≤ _) hk]
        have hd : decide ((i : Int) = (k : Int)) = decide (L[i] = L[k]) := by
          by_cases hik : i = k
          · subst hik; simp
          · rw [decide_eq_false (by omega), decide_eq_false (fun h => hik (hS.inj hi hk h))]
        rw [hd]
        simp
      · simp only [lpO]
        refine lpL (loop_is (fun lab => (((cntE g L i + (rowE g i L[i] L lab).length : Nat) : Int), (lab : Int))) g.1.toNat (Ou.go ((cntE g L (i + 1) : Nat) : Int)) (fun lab hlab => ?_) ?_ (by simp [rowE])) ?_
        · dsimp only
          have hc := cntE_le (g := g) (L := L) h256 i
          have hr := rowE_len (g := g) (L := L) i L[i] lab
          rw [if_pos (by omega), Step_eq hv hset (by omega) (by omega), Option.bind_some]
          dsimp only
          rw [if_neg no0, w64 (by omega) (by omega), w64 (by omega) (by omega), rowE_succ]
          by_cases hz : stepL g L[i] (lab : Int) = []
          · rw [hz, if_neg (by simp), if_pos rfl]
            simp
          · have := len_pos_ne hz
            rw [if_pos (by omega), if_neg hz]
            simp
            omega
        · dsimp only
          rw [if_neg (by omega), cntE_succ, getD_lt hi]
        · simp only [lpO]
          rw [nx (by omega : L.length ≤ _) hi]
    · dsimp only
      have hEc : E.length = cntE g L L.length := by unfold cntE; rw [← hS.ed]
      rw [if_neg (not_lt_int _), hEc]
    · simp only [lpO]
      refine lpL (loop_is (fun k => (k : Int)) E.length (Ou.go ()) (fun k hk => ?_) (by rw [if_neg (not_lt_int _)]) rfl) ?_
      · obtain ⟨j, lab, hj, hlab, hnz, hx⟩ := hS.mem.1 (List.getElem_mem hk)
        have hto := hS.to_lt hj hlab hnz
        have hset : SetOk g (L.getD j []) := by rw [getD_lt hj]; exact hS.good _ (List.getElem_mem hj)
        have hin := (hS.clo j hj lab hlab).resolve_left hnz
        have hat := hS.at_idx hin
        rw [getD_lt hto] at hat
        rw [if_pos (lt_int hk), ix hk, Option.bind_some, hx]
        dsimp only
        rw [ix hj, Option.bind_some, ← getD_lt (d := []) hj, Step_eq hv hset (by omega) (by omega), Option.bind_some]
        dsimp only
        rw [if_neg no0, ix hto, Option.bind_some, hat, EqI_eq (by have := setOk_len hv (stepL_ok g (L.getD j []) (lab : Int)); omega), Option.bind_some, nx (by omega : E.length ≤ _) hk]
        simp
      · simp only [lpO]
        rw [if_pos trivial]
        rfl
end
end Go.AW

namespace Go.AW
open Go Go.ChangeShapes Go.WideShapes Go.ChangeAt Go.RowKit

/-- of what was there nothing turns -/
def Kept (W W' : World) : Prop := W'.os = W.os ∧ W'.output = W.output ∧ W.heap.size ≤ W'.heap.size ∧ ∀ b : Nat, b < W.heap.size → W'.heap[b]? = W.heap[b]?

theorem Kept.frame {W W' : World} (h : Kept W W') (may : MemPlace → Prop) : W.keptBut W' may := by
  refine ⟨h.1, h.2.1, fun i hi => ?_⟩
  rw [h.2.2.2 i hi]
  cases W.heap[i]? with
  | none => rfl
  | some o => cases o with
    | cells c t fr => exact ⟨rfl, rfl, rfl, fun _ _ => rfl⟩
    | map es clock => exact .inr ⟨rfl, rfl⟩
    | _ => rfl

theorem Kept.frozen {W W' : World} (h : Kept W W') (a : Addr) (ha : a.block < W.heap.size) : W'.frozen? a = W.frozen? a := by
  simp only [World.frozen?, h.2.2.2 _ ha]

def Mu.zero : Mu := { nx := 0, loc := fun _ => none, held := fun _ => False }

theorem SR.zero (W : World) : SR W Mu.zero [] :=
  ⟨(fun _ _ _ h => by cases h), (fun _ _ _ h => by cases h), (fun _ _ h => by cases h), (fun _ _ _ _ _ h => by cases h), (fun _ h => h.elim)⟩

theorem calls_of_pure {P : Program} {f : FuncId} {args : List HV} {vs : List Value} {W : World} (hp : Pure P f args (· = .bool true)) (hr : RepL W Mu.zero args vs) :
    Calls P f vs.toArray W fun e W' => e = .returned (.bool true) ∧ Kept W W' := by
  refine (hp.2 Mu.zero W vs (SR.zero W) hr).mono ?_
  rintro e W' ⟨v, r, H', μ', rfl, ⟨rfl, _, _⟩, hs, hv, E⟩
  have hv' : v = .bool true := hv
  subst hv'
  exact ⟨rfl, E.os, E.output, E.size, fun b hb => E.keep b hb fun ⟨_, _, hl⟩ => by cases hl⟩

theorem post_of_kept {H : Type} {enc : TypeId × Value → H} {P : Program} {f : Func} {s : ChangeSpec} {apart fresh handsOn again : Bool} {W W' : World} {args : Array Value} {v : Value} {ds gs : List (DataW H)} {before pa pv : List MemPlace}
    (hW : DataW.Whole enc P f.params.toList s.vars apart W args.toList ds gs before)
    (hres : ∀ (b : Nat) (sp : Nat → Bool) (hd : Bool), DataW.TrodAll enc P W' b sp hd f.resultTypes.toList (v.resultList f.resultTypes.size) (s.fn H (ds ++ gs)).results [])
    (hargs : ∀ sp : Nat → Bool, (∀ p ∈ before, sp p.block = true) → DataW.TrodAll enc P W' 0 sp true f.params.toList args.toList (s.fn H (ds ++ gs)).args pa)
    (hvars : ∀ sp : Nat → Bool, (∀ p ∈ before, sp p.block = true) → DataW.TrodVars enc P W' sp s.vars (s.fn H (ds ++ gs)).vars pv)
    (hps : before = pa ++ pv) (hk : Kept W W')
    (hok : ∀ (j : Nat) (t : TypeId) (r : Value), f.resultTypes[j]? = some t → (v.resultList f.resultTypes.size)[j]? = some r → Value.okWide P W' .any 0 t r) :
    s.post enc P f apart fresh handsOn again W args v W' := by
  have hold : ∀ p ∈ before, (fun b => decide (b < W.heap.size)) p.block = true := fun p hp => by simpa using hW.lt p hp
  refine ⟨ds, gs, before, [], pa, pv, hW, hres _ _ _, hargs _ hold, hvars _ hold, World.keptBut_mono (fun p hp => ⟨hp, ?_⟩) (hk.frame (· ∈ before)), fun _ => ?_⟩
  · rw [hps, List.mem_append] at hp
    exact Or.inr hp
  · have hlt := hW.lt
    obtain ⟨_, _, _, _, _, hz, hn⟩ := hW
    refine ⟨hok, _, _, ([] ++ pa) ++ pv, ⟨[] ++ pa, pv, trodAll_append (hargs _ (fun _ _ => rfl)) (hres _ _ _), hvars _ (fun _ _ => rfl), rfl, ?_, ?_⟩, ?_⟩
    · intro b off hp
      have hp' : MemPlace.cell b off ∈ before := by rw [hps]; simpa using hp
      rw [hk.frozen _ (hlt _ hp')]
      exact hz b off hp'
    · intro ha
      have := hn ha
      rw [hps] at this
      simpa using this
    · intro p hp _
      rw [hps]
      simpa using hp
end Go.AW

/- Arguments: from what is read of them to what the layer says of them; and the law's end for any arguments. -/
namespace Go.AW
open Go Go.ChangeShapes Go.WideShapes Go.ChangeAt Go.RowKit

theorem rowAt_le {p : Program} {fits : TypeId → Bool} {d : Nat} {e : TypeId} {count off n : Nat} (h : rowAt p fits d e count off n = true) : off ≤ count * p.cellsOf e := by
  cases d with
  | zero => simp [rowAt] at h
  | succ d =>
    unfold rowAt at h
    simp only at h
    split at h
    · cases h
    · rename_i hs
      have hs' : 0 < p.cellsOf e := Nat.pos_of_ne_zero hs
      have hd := Nat.div_add_mod off (p.cellsOf e)
      rw [Nat.mul_comm] at hd
      simp only [Bool.or_eq_true, Bool.and_eq_true, beq_iff_eq, decide_eq_true_eq] at h
      rcases h with ⟨⟨h0, h1⟩, _⟩ | ⟨h1, _⟩
      · rw [← hd, h0, Nat.add_zero]
        exact Nat.mul_le_mul_right _ (by omega)
      · have hm := Nat.mod_lt off hs'
        have : (off / p.cellsOf e + 1) * p.cellsOf e ≤ count * p.cellsOf e := Nat.mul_le_mul_right _ h1
        rw [Nat.add_mul] at this
        omega

theorem liesAt_le {p : Program} {d : Nat} {e u : TypeId} {count off n : Nat} (h : liesAt p d e count off u n = true) : off ≤ count * p.cellsOf e := by
  induction d generalizing u n with
  | zero => simp [liesAt] at h
  | succ d ih =>
    unfold liesAt at h
    rw [Bool.or_eq_true] at h
    rcases h with h | h
    · exact rowAt_le h
    · split at h
      · exact ih h
      · cases h

/-- where an argument's slice lies -/
theorem has_seg {P : Program} {W : World} {r : Reach} {base : Nat} {a : Addr} {e : TypeId} {cap : Nat} (h : W.has P r base a e cap) {vs : List Value} (hc : ∀ i (hi : i < vs.length), W.cell? (a.add i) = some vs[i]) :
    ∃ b off, a = ⟨b, off, none⟩ ∧ Seg W b off vs := by
  obtain ⟨_, hsp, row, cells, hsh, hl⟩ := h
  obtain ⟨b, off, spot⟩ := a
  dsimp only at hsp hsh hl
  subst hsp
  refine ⟨b, off, rfl, ?_⟩
  unfold World.shape? at hsh
  split at hsh
  · rename_i cur e' fr hb
    simp only [Option.some.injEq, Prod.mk.injEq] at hsh
    obtain ⟨rfl, rfl⟩ := hsh
    have hoff : off ≤ cur.size := Nat.le_trans (liesAt_le hl) (Nat.div_mul_le_self _ _)
    have hget : ∀ i (hi : i < vs.length), cur.toList[off + i]? = some vs[i] := fun i hi => by
      have := hc i hi
      rw [add_plain] at this
      unfold World.cell? at this
      rw [hb] at this
      simpa using this
    refine ⟨cur, e', fr, cur.toList.take off, cur.toList.drop (off + vs.length), hb, ?_, by simp [hoff]⟩
    have hvs : vs = (cur.toList.drop off).take vs.length := by
      apply List.ext_getElem?
      intro i
      rcases Nat.lt_or_ge i vs.length with hi | hi
      · rw [List.getElem?_take_of_lt hi, List.getElem?_drop, hget i hi, List.getElem?_eq_getElem hi]
      · rw [List.getElem?_eq_none hi, List.getElem?_eq_none (by simp; omega)]
    have : vs ++ cur.toList.drop (off + vs.length) = cur.toList.drop off := by
      conv => lhs; arg 1; rw [hvs]
      rw [← List.drop_drop]
      exact List.take_append_drop _ _
    rw [List.append_assoc, this, List.take_append_drop]
  · cases hsh

theorem nown (b : Nat) : ¬ Mu.zero.owns b := fun h => h.elim (fun ⟨_, _, h⟩ => by cases h) id

/-- the arguments read again -/
theorem trodAll_stays {H : Type} {enc : TypeId × Value → H} {P : Program} (hl : laidOutB P = true) {W W' : World} {sp : Nat → Bool} : ∀ {ts : List TypeId} {vs : List Value} {ds : List (DataW H)} {ps : List MemPlace},
    (ts.all fun t => P.readableRec t && decide (t < P.types.size)) = true → DataW.TrodAll enc P W 0 (fun _ => true) true ts vs ds ps → (∀ p ∈ ps, W.sameAt W' p) → (∀ p ∈ ps, sp p.block = true) → DataW.TrodAll enc P W' 0 sp true ts vs ds ps
  | [], vs, ds, ps, _, h, _, _ => by
    obtain ⟨rfl, rfl, rfl⟩ := trodAll_nil h
    exact trodAll_mk0
  | t :: ts, vs, ds, ps, ht, h, h1, h2 => by
    obtain ⟨v, vs', d, ds', p, q, rfl, rfl, rfl, h3, h4⟩ := trodAll_cons h
    simp only [List.all_cons, Bool.and_eq_true, decide_eq_true_eq] at ht
    exact trodAll_cons_mk (WideElems.Trod_stays hl ht.1.1 ht.1.2 h3 (fun x hx => h1 x (List.mem_append_left _ hx)) (fun x hx => h2 x (List.mem_append_left _ hx)))
      (trodAll_stays hl ht.2 h4 (fun x hx => h1 x (List.mem_append_right _ hx)) (fun x hx => h2 x (List.mem_append_right _ hx)))

theorem Kept.same {W W' : World} (h : Kept W W') (p : MemPlace) (hp : p.block < W.heap.size) : W.sameAt W' p := by
  cases p with
  | cell b off =>
    show W'.cell? ⟨b, off, none⟩ = W.cell? ⟨b, off, none⟩
    unfold World.cell?
    rw [h.2.2.2 b hp]
  | map b => exact h.2.2.2 b hp

/-- A LAW'S END: true, and the arguments read as they did. -/
theorem post_of_true {H : Type} {enc : TypeId × Value → H} {P : Program} {f : Func} {s : ChangeSpec} {apart fresh handsOn again : Bool} {W W' : World} {args : Array Value} {ds gs : List (DataW H)} {before : List MemPlace} {t : TypeId}
    (hl : laidOutB P = true) (hps : (f.params.toList.all fun t => P.readableRec t && decide (t < P.types.size)) = true) (hres : f.resultTypes = #[t]) (ht : P.underlying t = some .bool) (hv : s.vars = [])
    (hW : DataW.Whole enc P f.params.toList s.vars apart W args.toList ds gs before) (hk : Kept W W')
    (h1 : (s.fn H (ds ++ gs)).results = [.lit (.bool true)]) (h2 : (s.fn H (ds ++ gs)).args = ds) (h3 : (s.fn H (ds ++ gs)).vars = []) :
    s.post enc P f apart fresh handsOn again W args (.bool true) W' := by
  have hlt := hW.lt
  have hW' := hW
  obtain ⟨p, q, hA, hV, rfl, _, _⟩ := hW
  rw [hv] at hV
  obtain ⟨rfl, rfl⟩ := trodVars_none hV
  refine post_of_kept (pa := p) (pv := []) hW' (fun _ _ _ => ?_) (fun sp hsp => ?_) (fun _ _ => ?_) (by simp) hk (ok_one hres rfl (okWide_bool_mk ht _))
  · rw [hres, h1]
    exact trodAll_cons_mk (shut_bool ht _) trodAll_mk0
  · rw [h2]
    exact trodAll_stays hl hps hA (fun x hx => hk.same x (hlt x (by simpa using hx))) (fun x hx => hsp x (by simpa using hx))
  · rw [h3, hv]
    rfl
end Go.AW
